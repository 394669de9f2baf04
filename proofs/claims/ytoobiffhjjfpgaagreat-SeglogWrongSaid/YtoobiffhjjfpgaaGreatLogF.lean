/- seglog: a chain's numbers; find, Segments, Read, and what a nil log tells. seglog: Segments, Read; what a nil log tells. seglog: From. -/
import Derived.Test.YtoobiffhjjfpgaaGreatLogA
import Derived.WalkMore
import Derived.Test.YtoobiffhjjfpgaaGreatStep
namespace Go.Proofs.YtoobiffhjjfpgaaGreat.Print
open Go.RowKit
attribute [local go_sem] run_loadVar_scalar

/-- Segments one behind the other, from a number on up to another one; none is empty. -/
def ChainOk : Nat → List SegM → Nat → Prop
  | b, [], nx => b = nx
  | b, s :: r, nx => s.base = b ∧ s.fs ≠ [] ∧ ChainOk (b + s.fs.length) r nx
def allF (l : List SegM) : List Fr := l.flatMap (·.fs)
theorem allF_cons (s : SegM) (l : List SegM) : allF (s :: l) = s.fs ++ allF l := by simp [allF]
theorem allF_append (l m : List SegM) : allF (l ++ m) = allF l ++ allF m := by simp [allF]
theorem ChainOk.total : ∀ {b : Nat} {l : List SegM} {nx : Nat}, ChainOk b l nx → nx = b + (allF l).length
  | _, [], _, h => by rw [← h]; simp [allF]
  | b, s :: r, nx, ⟨_, _, h⟩ => by rw [ChainOk.total h, allF_cons, List.length_append]; omega
theorem ChainOk.base_at : ∀ {b : Nat} {l : List SegM} {nx : Nat}, ChainOk b l nx → ∀ (j : Nat) (hj : j < l.length), l[j].base = b + (allF (l.take j)).length
  | _, [], _, _, j, hj => absurd hj (by simp)
  | b, s :: r, nx, ⟨h1, _, h⟩, 0, _ => by simpa [allF] using h1
  | b, s :: r, nx, ⟨_, _, h⟩, j + 1, hj => by
    have := ChainOk.base_at h j (by simpa using hj)
    simp only [List.getElem_cons_succ, List.take_succ_cons, allF_cons, List.length_append]
    omega
theorem ChainOk.next_at {b : Nat} {l : List SegM} {nx : Nat} (h : ChainOk b l nx) (j : Nat) (hj : j < l.length) : (∀ (hj1 : j + 1 < l.length), l[j + 1].base = l[j].base + l[j].fs.length) ∧ (j + 1 = l.length → nx = l[j].base + l[j].fs.length) := by
  have h0 := h.base_at j hj
  have ht : (allF (l.take (j + 1))).length = (allF (l.take j)).length + l[j].fs.length := by
    rw [List.take_succ_eq_append_getElem hj, allF_append, List.length_append]; simp [allF]
  refine ⟨fun hj1 => ?_, fun he => ?_⟩
  · rw [h.base_at (j + 1) hj1, ht]; omega
  · rw [h.total]
    have : l = l.take (j + 1) := by rw [he, List.take_length]
    rw [show (allF l).length = (allF (l.take (j + 1))).length by rw [← this], ht]; omega
theorem ChainOk.le {b : Nat} {l : List SegM} {nx : Nat} (h : ChainOk b l nx) (j : Nat) (hj : j < l.length) : b ≤ l[j].base ∧ l[j].base + l[j].fs.length ≤ nx := by
  have h0 := h.base_at j hj
  have ht : (allF (l.take (j + 1))).length = (allF (l.take j)).length + l[j].fs.length := by
    rw [List.take_succ_eq_append_getElem hj, allF_append, List.length_append]; simp [allF]
  have htot := h.total
  have hsp : (allF l).length = (allF (l.take (j + 1))).length + (allF (l.drop (j + 1))).length := by
    rw [← List.length_append, ← allF_append, List.take_append_drop]
  omega
theorem OffRow.cell {w : World} {e : TypeId} {b o n cap : Nat} {xs : List Value} (h : OffRow w e (.slice (some ⟨b, o, none⟩) n cap) n xs) (j : Nat) (hj : j < n) : w.cell? ⟨b, o + j, none⟩ = some (xs[j]'(by have := h.1; omega)) := by
  obtain ⟨b', o', cap', he, hc, _⟩ := h.at_ j hj
  simp at he
  obtain ⟨⟨rfl, rfl⟩, rfl⟩ := he
  exact hc
theorem OffRow.addr {w : World} {e : TypeId} {v : Value} {n : Nat} {xs : List Value} (h : OffRow w e v n xs) (h0 : 0 < n) : ∃ b o cap, v = .slice (some ⟨b, o, none⟩) n cap := by
  obtain ⟨b, o, cap, h, _⟩ := h.at_ 0 h0
  exact ⟨b, o, cap, h⟩
set_option maxRecDepth 100000 in
set_option maxHeartbeats 1600000 in
theorem find_any {g v p : Nat} {L : LogM} {w : World} {G : Foot} (h : LogIs g v p L w G) (hc : ChainOk L.base L.segs L.next) (n : Nat) (h1 : L.base ≤ n) (h2 : n < L.next) (hm : L.segs.length ≤ 1000) :
    Calls Tryz.prog 88 #[.pointer (some ⟨g, 0, none⟩), .int .i64 n] w fun x w' => ∃ (k : Nat) (hk : k < L.segs.length), x = .returned (.int .i64 k) ∧ L.segs[k].base ≤ n ∧ n < L.segs[k].base + L.segs[k].fs.length ∧ Below w.heap.size w w' := by
  obtain ⟨sv, ps, hp, hobj, hrow, hseg⟩ := h.row
  have h0 : 0 < L.segs.length := by
    rcases Nat.eq_zero_or_pos L.segs.length with h0 | h0
    · have := List.eq_nil_of_length_eq_zero h0
      rw [this] at hc
      have : L.base = L.next := hc
      omega
    · exact h0
  obtain ⟨b, o, cap, rfl⟩ := hrow.addr h0
  have hb0 := hc.base_at 0 h0
  have hb0' : L.segs[0].base = L.base := by rw [hb0]; simp [allF]
  have HROW := Lib.hid hrow
  have HOBJ := Lib.hid hobj
  have HSEG := Lib.hid hseg
  have HC := Lib.hid hc
  have HB0 := Lib.hid hb0'
  have hdr := hobj
  obtain ⟨c0, c1, c2, c3, c4, c5, c6, cf⟩ := seven_of hdr
  have hfl := field_base
  clear h hc hb0 hb0' hrow hobj hseg hdr
  go_enter Tryz.func88, Tryz.ntmps88
  go_wp2_with fail
  go_step3
  go_wp2_with fail
  go_quiet (fail)
  go_wp2_with fail
  go_step3
  go_wp2_with fail
  go_loopw [5, 6] (fun f t wr => ∃ (x y : Nat) (hy : y ≤ L.segs.length) (hxy : x < y), f = .int .i64 x ∧ t = .int .i64 y ∧ L.segs[x].base ≤ n ∧ (∀ (hyl : y < L.segs.length), n < L.segs[y].base) ∧ Below w.heap.size w wr) (fun f t _ => (intOf t).toNat - (intOf f).toNat)
  case atStart => exact ⟨0, L.segs.length, Nat.le_refl _, h0, rfl, rfl, by rw [HB0.out]; exact h1, fun h => absurd h (by omega), below_drewN (Below.refl _ _) _⟩
  case round =>
    obtain ⟨x, y, hy, hxy, rfl, rfl, hxb, hyb, hB⟩ := hrel
    have HB := Lib.hid hB
    have HYB := Lib.hid hyb
    have HXB := Lib.hid hxb
    clear hB hyb hxb c0 c1 c2 c3 c4 c5 c6 cf
    obtain ⟨c0, c1, c2, c3, c4, c5, c6, cf⟩ := seven_of (later_of HOBJ.out HB.out)
    by_cases h1y : 1 < (y : Int) - (x : Int)
    · have k2 : decide ((1 : Int) < (y : Int) - (x : Int)) = true := decide_eq_true h1y
      obtain ⟨m, hmid⟩ : ∃ m, (x + y) / 2 = m := ⟨_, rfl⟩
      have hm1 : x < m := by omega
      have hm2 : m < y := by omega
      have K134 := Lib.hid (show IntKind.i64.wrap ((y : Int) - (x : Int)) = (y : Int) - (x : Int) ∧ IntKind.i64.wrap ((x : Int) + (y : Int)) = (x : Int) + (y : Int) ∧ wrap64 (((x : Int) + (y : Int)) / 2) = (m : Int) from ⟨by rw [IntKind.wrap_i64]; omega, by rw [IntKind.wrap_i64]; omega, by unfold wrap64; omega⟩)
      have k4' : ((x : Int) + (y : Int)) / 2 = (m : Int) := by omega
      have k5 : (m : Int) < (L.segs.length : Int) := by omega
      have hcm := (HROW.out.below HB.out).cell m (by omega)
      obtain ⟨G1, hS, _⟩ := HSEG.out m (by omega)
      have hps : (ps.map ptrV)[m]'(by rw [List.length_map]; omega) = ptrV (ps[m]'(by omega)) := by simp
      rw [hps] at hcm
      have KH := Lib.hid (header_any (SegIs.stays.below hS HB.out))
      obtain ⟨sm, hsm⟩ : ∃ sm, ps[m]'(by omega) = sm := ⟨_, rfl⟩
      rw [hsm] at hcm KH
      obtain ⟨bm, hbm⟩ : ∃ bm, (L.segs[m]'(by omega)).base = bm := ⟨_, rfl⟩
      have KH2 : Hid (Calls Tryz.prog 86 #[.pointer (some ⟨sm, 0, none⟩)] wr fun x w' => x = .returned (hdV L.id L.gen (L.segs[m]'(by omega)).st bm) ∧ Below wr.heap.size wr w') := by rw [← hbm]; exact KH
      have HBM := Lib.hid hbm
      clear hS hps hsm hbm hmid KH h1y
      have hmy : m ≤ L.segs.length := by omega
      have hyx0 : (y : Int) - (m : Int) < (y : Int) - (x : Int) ∧ (m : Int) - (x : Int) < (y : Int) - (x : Int) := by omega
      by_cases hle : bm ≤ n
      · have k6 : decide ((bm : Int) ≤ (n : Int)) = true := decide_eq_true (by omega)
        obtain ⟨k1, k3, k4⟩ := K134.out
        go_wp2_with fail
        refine KH2.out.mono ?_
        rintro x1 w1 ⟨rfl, hb1⟩
        go_wp2
        clear k1 k3 k4
        go_roundw
        case rel => exact ⟨m, y, hy, hm2, rfl, rfl, by rw [HBM.out]; exact hle, HYB.out, HB.out.trans (hb1.mono HB.out.size)⟩
        case measure => simp [intOf]; omega
      · have k6 : decide ((bm : Int) ≤ (n : Int)) = false := decide_eq_false (by omega)
        obtain ⟨k1, k3, k4⟩ := K134.out
        go_wp2_with fail
        refine KH2.out.mono ?_
        rintro x1 w1 ⟨rfl, hb1⟩
        go_wp2
        clear k1 k3 k4
        go_roundw
        case rel => exact ⟨x, m, hmy, hm1, rfl, rfl, HXB.out, fun hl => by rw [HBM.out]; omega, HB.out.trans (hb1.mono HB.out.size)⟩
        case measure => simp [intOf]; omega
    · have k2 : decide ((1 : Int) < (y : Int) - (x : Int)) = false := decide_eq_false h1y
      have K1 := Lib.hid (show IntKind.i64.wrap ((y : Int) - (x : Int)) = (y : Int) - (x : Int) by rw [IntKind.wrap_i64]; omega)
      have hyx : y = x + 1 := by omega
      have HYX := Lib.hid hyx
      have hx : x < L.segs.length := by omega
      have hnx := HC.out.next_at x hx
      clear hyx h1y
      have HNX := Lib.hid hnx
      clear hnx
      have k1 := K1.out
      go_wp2
      clear k1
      rw [Exit.noGoto_ret]
      go_ret
      refine ⟨x, hx, rfl, HXB.out, ?_, HB.out⟩
      have hy' := HYX.out
      subst hy'
      by_cases hl : x + 1 < L.segs.length
      · have := HYB.out hl
        rw [HNX.out.1 hl] at this
        exact this
      · have := HNX.out.2 (by omega)
        omega
end Go.Proofs.YtoobiffhjjfpgaaGreat.Print

namespace Go.Proofs.YtoobiffhjjfpgaaGreat.Print
open Go.RowKit
attribute [local go_sem] run_loadVar_scalar

theorem lsegs_nil (w : World) : Calls Tryz.prog 42 #[.pointer none] w fun x w' => x = .returned (.slice none 0 0) ∧ w = w' := by
  go_enter Tryz.func42, Tryz.ntmps42
  go_wp2
  go_ret
  exact ⟨rfl, rfl⟩
theorem lfrom_nil (n m : Int) (w : World) : Calls Tryz.prog 49 #[.pointer none, .int .i64 n, .int .i64 m] w fun x w' => x = .returned (.slice none 0 0) ∧ w = w' := by
  go_enter Tryz.func49, Tryz.ntmps49
  go_wp2
  go_ret
  exact ⟨rfl, rfl⟩
theorem ldrop_nil (n : Int) (w : World) : Calls Tryz.prog 60 #[.pointer none, .int .i64 n] w fun x w' => x = .returned (.int .i64 7) ∧ w = w' := by
  go_enter Tryz.func60, Tryz.ntmps60
  go_wp2
  go_ret
  exact ⟨rfl, rfl⟩
theorem lfree_nil (w : World) : Calls Tryz.prog 62 #[.pointer none] w fun x w' => x = .returned (.int .i64 7) ∧ w = w' := by
  go_enter Tryz.func62, Tryz.ntmps62
  go_wp2
  go_ret
  exact ⟨rfl, rfl⟩
theorem ladopt_nil (v : Value) (w : World) : Calls Tryz.prog 44 #[.pointer none, v] w fun x w' => x = .returned (.int .i64 7) ∧ w = w' := by
  go_enter Tryz.func44, Tryz.ntmps44
  go_wp2
  go_ret
  exact ⟨rfl, rfl⟩
set_option maxRecDepth 100000 in
set_option maxHeartbeats 400000 in
theorem lappend_nil (k : Int) (p : ByteArray) (w : World) : Calls Tryz.prog 40 #[.pointer none, frV k p] w fun x w' => x = .returned (.tuple #[.int .i64 0, .int .i64 7]) ∧ Below w.heap.size w w' := by
  go_enter Tryz.func40, Tryz.ntmps40
  go_wp2
  exact bodyPost_ret (v := .tuple #[.int .i64 0, .int .i64 7]) (by simp [results, Tryz.results40, go_sem]) rfl ⟨rfl, (Below.refl _ _).alloc (Nat.le_refl _) _⟩
set_option maxRecDepth 100000 in
set_option maxHeartbeats 400000 in
theorem lfits_nil (k : Int) (p : ByteArray) (w : World) : Calls Tryz.prog 58 #[.pointer none, frV k p] w fun x w' => x = .returned (.bool false) ∧ Below w.heap.size w w' := by
  go_enter Tryz.func58, Tryz.ntmps58
  go_wp2
  exact bodyPost_ret (v := .bool false) (by simp [results, Tryz.results58, go_sem]) rfl ⟨rfl, (Below.refl _ _).alloc (Nat.le_refl _) _⟩
abbrev eFr : Value := frV 0 ⟨#[]⟩
set_option maxRecDepth 100000 in
set_option maxHeartbeats 400000 in
theorem lread_nil (n : Int) (w : World) : Calls Tryz.prog 55 #[.pointer none, .int .i64 n] w fun x w' => x = .returned (.tuple #[eFr, .int .i64 7]) ∧ Below w.heap.size w w' := by
  go_enter Tryz.func55, Tryz.ntmps55
  go_wp2
  refine bodyPost_ret (v := .tuple #[eFr, .int .i64 7]) (by simp [results, Tryz.results55, go_sem, asAddr]) rfl ⟨rfl, ?_⟩
  repeat (first | exact Below.refl _ _ | refine Below.setCell ?_ (by simp) _ | refine Below.alloc ?_ (by simp) _)
set_option maxRecDepth 100000 in
set_option maxHeartbeats 800000 in
/-- Segments. -/
theorem lsegs_any {g v p : Nat} {L : LogM} {w : World} {G : Foot} (h : LogIs g v p L w G) (hm : L.segs.length ≤ 1000) :
    Calls Tryz.prog 42 #[.pointer (some ⟨g, 0, none⟩)] w fun x w' => ∃ v, x = .returned v ∧ w'.ownsRow w.heap.size 3 1 v L.segs.length (oC (L.segs.map (·.n))) ∧ Below w.heap.size w w' := by
  obtain ⟨i0, hi0, hz0, hz1, hz2⟩ := info_parts info_int
  obtain ⟨sv, ps, hp, hobj, hrow, hseg⟩ := h.row
  obtain ⟨c0, c1, c2, c3, c4, c5, c6, cf⟩ := seven_of hobj
  obtain ⟨so, sc, rfl⟩ := hrow.slice
  have HROW := Lib.hid hrow
  have HSEG := Lib.hid hseg
  clear h hrow hseg hobj
  go_enter Tryz.func42, Tryz.ntmps42
  go_wp2_with fail
  go_loopw [3, 13] (fun v i wr => ∃ j : Nat, j ≤ L.segs.length ∧ i = .int .i64 j ∧ wr.ownsRow w.heap.size 3 1 v j (oC ((L.segs.take j).map (·.n))) ∧ Below w.heap.size w wr) (fun _ i _ => L.segs.length - (intOf i).toNat)
  case atStart => exact ⟨0, Nat.zero_le _, rfl, World.ownsRow_nil _ _ _ _, Below.refl _ _⟩
  case round =>
    obtain ⟨j, hj, rfl, hown, hB⟩ := hrel
    have HO := Lib.hid hown
    have HB := Lib.hid hB
    obtain ⟨sl, slc, hv⟩ := row_slice3 hown
    subst hv
    clear hown hB
    by_cases hlt : j < L.segs.length
    · obtain ⟨b, o, cap, hse⟩ := HROW.out.addr (by omega)
      obtain ⟨rfl, rfl⟩ : so = some ⟨b, o, none⟩ ∧ sc = cap := by simpa using hse
      have hcm := (HROW.out.below HB.out).cell j hlt
      obtain ⟨G1, hS, _⟩ := HSEG.out j hlt
      have hps : (ps.map ptrV)[j]'(by rw [List.length_map]; omega) = ptrV (ps[j]'(by omega)) := by simp
      rw [hps] at hcm
      have KH := Lib.hid (snumber_any (SegIs.stays.below hS HB.out))
      obtain ⟨sm, hsm⟩ : ∃ sm, ps[j]'(by omega) = sm := ⟨_, rfl⟩
      rw [hsm] at hcm KH
      obtain ⟨nm, hnm⟩ : ∃ nm, (L.segs[j]'(by omega)).n = nm := ⟨_, rfl⟩
      rw [hnm] at KH
      have hsn : oC ((L.segs.take (j + 1)).map (·.n)) = oC ((L.segs.take j).map (·.n)) ++ [.int .i64 nm] := by
        rw [List.take_succ_eq_append_getElem hlt, List.map_append, List.map_singleton, hnm, oC_snoc]
      have HSN := Lib.hid hsn
      clear hS hps hsm hnm hsn hse
      go_wp2_with (first | (go_at_call 81; (with_reducible refine KH.out.mono ?_); rintro x w1 ⟨rfl, rfl⟩) | (at_builtin; refine wpList_append_lies _ rfl (.tmp 17) (.tmp 20) 36 rfl w.heap.size 3 i0 _ 1 8 Tryz.underlying36 hi0 hz0 hz1 hz2 rfl (by omega) (.slice sl j slc) _ _ rfl (HO.out.alloc _) ⟨wr.heap.size, 0, none⟩ 1 1 [.int .i64 nm] rfl rfl (World.news_of_block (cs := #[.int .i64 nm]) (t := 3) (fr := (0, 0)) (heap_alloc_new wr _)) (by simp [Value.oneCell']) (by omega) (by unfold maxLen; omega) (by omega) (by have := HB.out.size; simp; omega) _ rfl ?_; intro gg cap9 w9 hown9 hgrow hat hlt9))
      have hown10 : w9.ownsRow w.heap.size 3 1 (.slice (some ⟨gg, 0, none⟩) (j + 1) cap9) (j + 1) (oC ((L.segs.take (j + 1)).map (·.n))) := by
        rw [HSN.out]; exact hown9
      have hB9 : Below w.heap.size w w9 := (HB.out.alloc HB.out.size _).trans ⟨hgrow.os, hgrow.tape, hgrow.output, by have := HB.out.size; refine Nat.le_trans ?_ hgrow.size; (try simp); (try omega), fun k hk => hgrow.block k (by have := HB.out.size; simp; omega) (fun e => by have := ownBlock_ge HO.out k e.symm; omega)⟩
      have HO10 := Lib.hid hown10
      have HB9 := Lib.hid hB9
      clear hown9 hgrow hat hown10 hB9
      go_wp2
      go_roundw
      case rel => exact ⟨j + 1, hlt, by simp, HO10.out, HB9.out⟩
      case measure => simp [intOf]; omega
    · obtain rfl : j = L.segs.length := by omega
      have HT := Lib.hid (List.take_length (l := L.segs))
      go_wp2
      go_ret
      have := HO.out
      rw [HT.out] at this
      exact ⟨_, rfl, this, HB.out⟩
set_option maxRecDepth 100000 in
set_option maxHeartbeats 400000 in
theorem lread_out {g v p : Nat} {L : LogM} {w : World} {G : Foot} (h : LogIs g v p L w G) (n : Int) (hn : n < L.base ∨ (L.next : Int) ≤ n) : Calls Tryz.prog 55 #[.pointer (some ⟨g, 0, none⟩), .int .i64 n] w fun x w' => x = .returned (.tuple #[eFr, .int .i64 34]) ∧ Below w.heap.size w w' := by
  obtain ⟨sv, hs⟩ := h.obj
  obtain ⟨c0, c1, c2, c3, c4, c5, c6, cf⟩ := seven_of (alloc_old hs (.cells #[.int .i64 0, .string ⟨#[]⟩] 43))
  have HN := Lib.hid hn
  clear h hs hn
  by_cases h1 : n < L.base
  · have k1 : decide (n < (L.base : Int)) = true := decide_eq_true h1
    clear h1
    go_enter Tryz.func55, Tryz.ntmps55
    go_wp2
    refine bodyPost_ret (v := .tuple #[eFr, .int .i64 34]) (by simp [results, Tryz.results55, go_sem, asAddr]) rfl ⟨rfl, ?_⟩
    repeat (first | exact Below.refl _ _ | refine Below.setCell ?_ (by simp) _ | refine Below.alloc ?_ (by simp) _)
  · have k1 : decide (n < (L.base : Int)) = false := decide_eq_false h1
    have k2 : decide ((L.next : Int) ≤ n) = true := decide_eq_true (HN.out.resolve_left h1)
    clear h1
    go_enter Tryz.func55, Tryz.ntmps55
    go_wp2
    refine bodyPost_ret (v := .tuple #[eFr, .int .i64 34]) (by simp [results, Tryz.results55, go_sem, asAddr]) rfl ⟨rfl, ?_⟩
    repeat (first | exact Below.refl _ _ | refine Below.setCell ?_ (by simp) _ | refine Below.alloc ?_ (by simp) _)
theorem allF_at {b : Nat} {l : List SegM} {nx : Nat} (hc : ChainOk b l nx) (k : Nat) (hk : k < l.length) (i : Nat) (hi : i < l[k].fs.length) : (allF l)[l[k].base - b + i]? = some l[k].fs[i] := by
  have hb := hc.base_at k hk
  have hsp : allF l = allF (l.take k) ++ (l[k].fs ++ allF (l.drop (k + 1))) := by
    rw [← allF_cons, ← allF_append, List.getElem_cons_drop, List.take_append_drop]
  rw [hsp, hb, show b + (allF (l.take k)).length - b + i = (allF (l.take k)).length + i by omega, List.getElem?_append_right (by omega), show (allF (l.take k)).length + i - (allF (l.take k)).length = i by omega, List.getElem?_append_left hi, List.getElem?_eq_getElem hi]
set_option maxRecDepth 100000 in
set_option maxHeartbeats 1600000 in
attribute [-go_sem] Instr.build Instr.fill Instr.buildSlice loadVar in
theorem lread_any {g v p : Nat} {L : LogM} {w : World} {G : Foot} (h : LogIs g v p L w G) (hc : ChainOk L.base L.segs L.next) (n : Nat) (h1 : L.base ≤ n) (h2 : n < L.next) (hm : L.segs.length ≤ 1000) (hfs : ∀ s ∈ L.segs, s.fs.length ≤ 1000) (K : Int) (hK : K = n) :
    Calls Tryz.prog 55 #[.pointer (some ⟨g, 0, none⟩), .int .i64 K] w fun x w' => ∃ y : Fr, (allF L.segs)[n - L.base]? = some y ∧ x = .returned (.tuple #[frV y.1 y.2, .int .i64 0]) ∧ Below w.heap.size w w' := by
  subst hK
  obtain ⟨sv, ps, hp, hobj, hrow, hseg⟩ := h.row
  have h0 : 0 < L.segs.length := by
    rcases Nat.eq_zero_or_pos L.segs.length with h0 | h0
    · have := List.eq_nil_of_length_eq_zero h0
      rw [this] at hc
      have : L.base = L.next := hc
      omega
    · exact h0
  obtain ⟨b, o, cap, rfl⟩ := hrow.addr h0
  have hBz : Below w.heap.size w (w.alloc (.cells #[.int .i64 0, .string ⟨#[]⟩] 43)) := (Below.refl _ _).alloc (Nat.le_refl _) _
  have KF := Lib.hid (fun (W : World) (hb : Below w.heap.size w W) => find_any (LogIs.stays.below h hb) hc n h1 h2 hm)
  have HROW := Lib.hid hrow
  have HOBJ := Lib.hid hobj
  have HSEG := Lib.hid hseg
  have HC := Lib.hid hc
  have HFS := Lib.hid hfs
  obtain ⟨c0, c1, c2, c3, c4, c5, c6, cf⟩ := seven_of (later_of hobj hBz)
  have hgz := alloc_at w (.cells #[.int .i64 0, .string ⟨#[]⟩] 43)
  have HGZ := Lib.hid hgz
  have k1 : decide ((n : Int) < (L.base : Int)) = false := decide_eq_false (by omega)
  have k2 : decide ((L.next : Int) ≤ (n : Int)) = false := decide_eq_false (by omega)
  have hfl := field_base
  have hzz : ∀ W : World, (zeroValue 43).run Tryz.prog W = .ok (frV 0 ⟨#[]⟩) W := fun W => by kernel_rfl
  clear h hc hrow hobj hseg h0 hfs hgz
  go_enter Tryz.func55, Tryz.ntmps55
  go_wp2_with fail
  obtain ⟨W0, hW0⟩ : ∃ W0, w.alloc (.cells #[.int .i64 0, .string ⟨#[]⟩] 43) = W0 := ⟨_, rfl⟩
  rw [hW0] at c0 c1 c2 c3 c4 c5 c6 cf hBz HGZ ⊢
  clear hW0
  (go_region_with (go_at_call 88; (with_reducible refine (KF.out _ (by exact hBz.drew)).mono ?_); rintro x w1 ⟨k, hk, rfl, hka, hkb, hbw⟩; have hB1 := hBz.drew.trans (hbw.mono hBz.drew.size); obtain ⟨d0, d1, d2, d3, d4, d5, d6, df⟩ := seven_of (later_of HOBJ.out hB1); have hcm := (HROW.out.below hB1).cell k hk; rw [show (ps.map ptrV)[k]'(by rw [List.length_map]; omega) = ptrV (ps[k]'(by omega)) by simp] at hcm; have kk : (k : Int) < (L.segs.length : Int) := by omega))
  all_goals
    obtain ⟨G1, hS, _⟩ := HSEG.out k hk
    have hS1 := SegIs.stays.below hS hB1
    have hfk := HFS.out _ (List.getElem_mem hk)
    obtain ⟨y, i, hi, hyi, hall, hwr⟩ : ∃ (y : Fr) (i : Nat), i < L.segs[k].fs.length ∧ L.segs[k].fs[i]? = some y ∧ (allF L.segs)[n - L.base]? = some y ∧ IntKind.i64.wrap ((n : Int) - (L.segs[k].base : Int)) = (i : Int) := by
      have hi : n - L.segs[k].base < L.segs[k].fs.length := by omega
      have hle := (HC.out.le k hk).1
      refine ⟨L.segs[k].fs[n - L.segs[k].base], n - L.segs[k].base, hi, List.getElem?_eq_getElem hi, ?_, by rw [IntKind.wrap_i64]; omega⟩
      have := allF_at HC.out k hk (n - L.segs[k].base) hi
      rwa [show L.segs[k].base - L.base + (n - L.segs[k].base) = n - L.base by omega] at this
    obtain ⟨S, hSS⟩ : ∃ S, L.segs[k] = S := ⟨_, rfl⟩
    obtain ⟨sk, hsk⟩ : ∃ sk, ps[k]'(by omega) = sk := ⟨_, rfl⟩
    rw [hSS] at hS1 hi hyi hwr hfk
    rw [hsk] at hS1 ⊢
    obtain ⟨bk, hbk⟩ : ∃ bk, S.base = bk := ⟨_, rfl⟩
    rw [hbk] at hwr
    have KFr := Lib.hid (frames_any hS1 (by omega))
    have KH : Hid (∀ W : World, Below w1.heap.size w1 W → Calls Tryz.prog 86 #[.pointer (some ⟨sk, 0, none⟩)] W fun x w' => x = .returned (hdV L.id L.gen S.st bk) ∧ Below W.heap.size W w') := Lib.hid (fun W hb => by rw [← hbk]; exact header_any (SegIs.stays.below hS1 hb))
    have HALL := Lib.hid hall
    have HYI := Lib.hid hyi
    have HB1 := Lib.hid hB1
    have HZ := Lib.hid (later_of HGZ.out (show Below W0.heap.size W0 w1 from (Below.refl _ _).drew.trans hbw))
    obtain ⟨q, hq⟩ : ∃ q, S.fs.length = q := ⟨_, rfl⟩
    have hiq : (i : Int) < (q : Int) := by omega
    have HQ := Lib.hid hq
    have HWR := Lib.hid hwr
    clear hS hall hka hkb hSS hsk hcm d0 d1 d2 d3 d4 d5 d6 df c0 c1 c2 c3 c4 c5 c6 cf hbw hB1 hS1 k1 k2 kk hyi hbk hfk hi hq hwr
    go_wp2_with fail
    refine KFr.out.mono ?_
    rintro x w2 ⟨v', rfl, hown, hb2⟩
    obtain ⟨bo, bc, rfl, hfr⟩ := FrsAt.of_row hown
    have HFR := Lib.hid hfr
    have HB2 := Lib.hid hb2
    have HKH := Lib.hid (KH.out w2 hb2)
    rw [HQ.out]
    clear hown hfr hb2
    go_wp2_with fail
    refine HKH.out.mono ?_
    rintro x w3 ⟨rfl, hb3⟩
    obtain ⟨fa, rfl, hldf⟩ := (HFR.out.below hb3).load i (by rw [HQ.out]; omega)
    rw [show S.fs[i]'(by rw [HQ.out]; omega) = y from Option.some.inj ((List.getElem?_eq_getElem _).symm.trans HYI.out)] at hldf
    have hz3 := later_of (later_of HZ.out HB2.out) hb3
    have HB3 := Lib.hid (HB1.out.trans ((HB2.out.trans (hb3.mono HB2.out.size)).mono HB1.out.size))
    have hwr := HWR.out
    have hlt := lt_of hz3
    have z0 : w3.cell? ⟨w.heap.size, 0, none⟩ = some (.int .i64 0) := by rw [cell_of hz3]; rfl
    have z1 : w3.cell? ⟨w.heap.size, 1, none⟩ = some (.string ⟨#[]⟩) := by rw [cell_of hz3]; rfl
    have zf : ∀ o, w3.frozen? ⟨w.heap.size, o, none⟩ = false := fun o => free_of hz3 o
    obtain ⟨yk, yp⟩ := y
    have hz5 : ((w3.setCell ⟨w.heap.size, 0, none⟩ (.int .i64 yk)).setCell ⟨w.heap.size, 1, none⟩ (.string yp)).heap[w.heap.size]? = some (.cells #[.int .i64 yk, .string yp] 43) := by
      have := cells_set w3 w.heap.size 0 _ _ _ hz3 (.int .i64 yk)
      rw [cells_set _ _ _ _ _ _ this]; rfl
    have hld5 := load_fr hz5
    have HB5 := Lib.hid ((HB3.out.setCell (p := ⟨w.heap.size, 0, none⟩) (Nat.le_refl _) (.int .i64 yk)).setCell (p := ⟨w.heap.size, 1, none⟩) (Nat.le_refl _) (.string yp))
    obtain ⟨w5, hw5⟩ : ∃ w5, (w3.setCell ⟨w.heap.size, 0, none⟩ (.int .i64 yk)).setCell ⟨w.heap.size, 1, none⟩ (.string yp) = w5 := ⟨_, rfl⟩
    rw [hw5] at hld5 HB5
    clear hb3 hz5 hz3
    go_wp2
    exact bodyPost_ret (v := .tuple #[frV yk yp, .int .i64 0]) (by simp [results, Tryz.results55, asAddr, hld5]) rfl ⟨(yk, yp), HALL.out, rfl, HB5.out⟩
end Go.Proofs.YtoobiffhjjfpgaaGreat.Print

namespace Go.Proofs.YtoobiffhjjfpgaaGreat.Print
open Go.RowKit
attribute [local go_sem] run_loadVar_scalar

/-- From's own rule: frames that are gone through, from a number b on. -/
def selP (n : Nat) (most : Int) : Nat → List Fr → List Fr → List Fr
  | _, [], out => out
  | b, x :: r, out => selP n most (b + 1) r (if n ≤ b ∧ (out.length : Int) < most then out ++ [x] else out)
theorem selP_on (n : Nat) (most : Int) : ∀ (l : List Fr) (b : Nat) (out : List Fr), n ≤ b → selP n most b l out = out ++ l.take (most - out.length).toNat
  | [], _, out, _ => by simp [selP]
  | x :: r, b, out, h => by
    rw [selP, selP_on n most r (b + 1) _ (by omega)]
    by_cases hm : (out.length : Int) < most
    · rw [if_pos ⟨h, hm⟩, List.append_assoc]
      congr 1
      obtain ⟨q, hq⟩ : ∃ q, (most - (out.length : Int)).toNat = q + 1 := ⟨(most - (out.length : Int)).toNat - 1, by omega⟩
      rw [hq, List.take_succ_cons, List.length_append, show (most - ((out.length + [x].length : Nat) : Int)).toNat = q by simp; omega]
      rfl
    · rw [if_neg (fun h => hm h.2)]
      rw [show (most - (out.length : Int)).toNat = 0 by omega]
      simp
theorem selP_from (n : Nat) (most : Int) : ∀ (l : List Fr) (b : Nat), b ≤ n → selP n most b l [] = (l.drop (n - b)).take most.toNat
  | [], _, _ => by simp [selP]
  | x :: r, b, h => by
    by_cases hb : n ≤ b
    · obtain rfl : b = n := by omega
      rw [selP_on _ _ _ _ _ (Nat.le_refl _)]
      simp
    · rw [selP, if_neg (fun h => hb h.1), selP_from n most r (b + 1) (by omega)]
      rw [show n - b = (n - (b + 1)) + 1 by omega, List.drop_succ_cons]
theorem selP_append (n : Nat) (most : Int) : ∀ (l m : List Fr) (b : Nat) (out : List Fr), selP n most b (l ++ m) out = selP n most (b + l.length) m (selP n most b l out)
  | [], m, b, out => by simp [selP]
  | x :: r, m, b, out => by
    rw [List.cons_append, selP, selP_append n most r m (b + 1), selP, List.length_cons]
    rw [show b + 1 + r.length = b + (r.length + 1) by omega]
theorem selP_le (n : Nat) (most : Int) : ∀ (l : List Fr) (b : Nat) (out : List Fr), out.length ≤ (selP n most b l out).length ∧ (selP n most b l out).length ≤ out.length + l.length
  | [], _, out => by simp [selP]
  | x :: r, b, out => by
    rw [selP]
    obtain ⟨h1, h2⟩ := selP_le n most r (b + 1) (if n ≤ b ∧ (out.length : Int) < most then out ++ [x] else out)
    have h3 : (if n ≤ b ∧ (out.length : Int) < most then out ++ [x] else out).length ≤ out.length + 1 ∧ out.length ≤ (if n ≤ b ∧ (out.length : Int) < most then out ++ [x] else out).length := by split <;> simp
    simp only [List.length_cons]
    omega
/-- The frames from a number on, so many at the most. -/
def fromM (L : LogM) (n most : Int) : List Fr := if n < L.base ∨ (L.next : Int) ≤ n then [] else ((allF L.segs).drop (n.toNat - L.base)).take most.toNat
theorem fromM_sel {L : LogM} (hc : ChainOk L.base L.segs L.next) (n : Nat) (h1 : L.base ≤ n) (h2 : n < L.next) (most : Int) (k : Nat) (hk : k < L.segs.length) (hka : L.segs[k].base ≤ n) : fromM L n most = selP n most L.segs[k].base (allF (L.segs.drop k)) [] := by
  unfold fromM
  rw [if_neg (by omega), selP_from _ _ _ _ hka, Int.toNat_natCast]
  congr 1
  have hb := hc.base_at k hk
  have hsp : allF L.segs = allF (L.segs.take k) ++ allF (L.segs.drop k) := by rw [← allF_append, List.take_append_drop]
  rw [hsp, List.drop_append, List.drop_of_length_le (by omega), List.nil_append]
  congr 1
  omega
set_option maxRecDepth 100000 in
set_option maxHeartbeats 400000 in
theorem lfrom_out {g v p : Nat} {L : LogM} {w : World} {G : Foot} (h : LogIs g v p L w G) (n most : Int) (hn : n < L.base ∨ (L.next : Int) ≤ n) : Calls Tryz.prog 49 #[.pointer (some ⟨g, 0, none⟩), .int .i64 n, .int .i64 most] w fun x w' => x = .returned (.slice none 0 0) ∧ w = w' := by
  obtain ⟨sv, hs⟩ := h.obj
  obtain ⟨c0, c1, c2, c3, c4, c5, c6, cf⟩ := seven_of hs
  have HN := Lib.hid hn
  clear h hs hn
  by_cases h1 : n < L.base
  · have k1 : decide (n < (L.base : Int)) = true := decide_eq_true h1
    clear h1
    go_enter Tryz.func49, Tryz.ntmps49
    go_wp2
    go_ret
    exact ⟨rfl, rfl⟩
  · have k1 : decide (n < (L.base : Int)) = false := decide_eq_false h1
    have k2 : decide ((L.next : Int) ≤ n) = true := decide_eq_true (HN.out.resolve_left h1)
    clear h1
    go_enter Tryz.func49, Tryz.ntmps49
    go_wp2
    go_ret
    exact ⟨rfl, rfl⟩
set_option maxRecDepth 100000 in
set_option maxHeartbeats 3200000 in
attribute [-go_sem] Instr.build Instr.fill Instr.buildSlice loadVar in
theorem lfrom_in {g v p : Nat} {L : LogM} {w : World} {G : Foot} (h : LogIs g v p L w G) (hc : ChainOk L.base L.segs L.next) (n : Nat) (h1 : L.base ≤ n) (h2 : n < L.next) (hm : L.segs.length ≤ 1000) (hfs : ∀ s ∈ L.segs, s.fs.length ≤ 1000) (htot : (allF L.segs).length ≤ 1000000) (hbig : L.next ≤ 1099511627776) (most : Int) :
    Calls Tryz.prog 49 #[.pointer (some ⟨g, 0, none⟩), .int .i64 n, .int .i64 most] w fun x w' => ∃ v, x = .returned v ∧ w'.ownsRow w.heap.size 43 2 v (fromM L n most).length (fcells (fromM L n most)) ∧ Below w.heap.size w w' := by
  obtain ⟨i0, hi0, hz0, hz1, hz2⟩ := info_parts info_fr
  obtain ⟨sv, ps, hp, hobj, hrow, hseg⟩ := h.row
  have h0 : 0 < L.segs.length := by
    rcases Nat.eq_zero_or_pos L.segs.length with h0 | h0
    · have := List.eq_nil_of_length_eq_zero h0
      rw [this] at hc
      have : L.base = L.next := hc
      omega
    · exact h0
  obtain ⟨b, o, cap, rfl⟩ := hrow.addr h0
  have KF := Lib.hid (fun (W : World) (hb : Below w.heap.size w W) => find_any (LogIs.stays.below h hb) hc n h1 h2 hm)
  obtain ⟨ln, hln⟩ : ∃ ln, L.segs.length = ln := ⟨_, rfl⟩
  have HROW := Lib.hid hrow
  have HOBJ := Lib.hid hobj
  have HSEG := Lib.hid hseg
  have HC := Lib.hid hc
  have HFS := Lib.hid hfs
  have HLN := Lib.hid hln
  obtain ⟨c0, c1, c2, c3, c4, c5, c6, cf⟩ := seven_of hobj
  have hcapln : ln ≤ cap := by
    obtain ⟨b', o', cap', he, _, h5⟩ := hrow.at_ 0 h0
    simp at he
    omega
  have k1 : decide (n < L.base) = false := decide_eq_false (by omega)
  have k2 : decide (L.next ≤ n) = false := decide_eq_false (by omega)
  have hfl := field_base
  have hB0 : Below w.heap.size w w.drew := (Below.refl _ _).drew
  rw [hln] at c6
  clear h hc hrow hobj hseg h0 hfs hln
  go_enter Tryz.func49, Tryz.ntmps49
  go_wp2_with fail
  (go_region_with (go_at_call 88; (with_reducible refine (KF.out _ (by exact hB0)).mono ?_); rintro x w1 ⟨k, hk, rfl, hka, hkb, hbw⟩; have hB1 := hB0.trans (hbw.mono hB0.size); obtain ⟨d0, d1, d2, d3, d4, d5, d6, df⟩ := seven_of (later_of HOBJ.out hB1); rw [HLN.out] at d6; have kk : (k : Int) ≤ (ln : Int) := (by have := HLN.out; omega); have kc : ¬ cap = k := (by have := HLN.out; omega)))
  all_goals
    have HB1 := Lib.hid hB1
    have hbk := (HC.out.le k hk).1
    have hkn := (HC.out.le k hk).2
    have hsel := fromM_sel HC.out n h1 h2 most k hk hka
    obtain ⟨RES, hRES⟩ : ∃ RES, fromM L n most = RES := ⟨_, rfl⟩
    rw [hRES] at hsel
    have hRl : RES.length ≤ 1000000 := by
      rw [hsel]
      have h5 := (selP_le n most (allF (L.segs.drop k)) L.segs[k].base []).2
      have hsp : (allF L.segs).length = (allF (L.segs.take k)).length + (allF (L.segs.drop k)).length := by rw [← List.length_append, ← allF_append, List.take_append_drop]
      simp only [List.length_nil] at h5
      omega
    have HRES := Lib.hid hRES
    have HSEL := Lib.hid hsel
    obtain ⟨m, hmk⟩ : ∃ m, ln - k = m := ⟨_, rfl⟩
    rw [hmk]
    have HMK := Lib.hid (show k + m = L.segs.length by have := HLN.out; omega)
    have HK := Lib.hid (And.intro hka hkb)
    clear hsel hRES hmk hka hkb d0 d1 d2 d3 d4 d5 d6 df c0 c1 c2 c3 c4 c5 c6 cf hbw hB1 k1 k2 kk kc hcapln hbk hkn
    simp only [Act.put, List.getElem_toArray, List.getElem_cons_zero, List.getElem_cons_succ, List.setIfInBounds_toArray, List.set_cons_zero, List.set_cons_succ]
    go_wp2_with fail
    go_loopw [7, 39] (fun v i wr => ∃ (j : Nat) (outL : List Fr), j ≤ m ∧ i = .int .i64 j ∧ outL.length ≤ RES.length ∧ RES = selP n most (L.base + (allF (L.segs.take (k + j))).length) (allF (L.segs.drop (k + j))) outL ∧ wr.ownsRow w.heap.size 43 2 v outL.length (fcells outL) ∧ Below w.heap.size w wr) (fun _ i _ => m - (intOf i).toNat)
    case atStart =>
      refine ⟨0, [], Nat.zero_le _, rfl, Nat.zero_le _, ?_, World.ownsRow_nil _ _ _ _, HB1.out⟩
      rw [Nat.add_zero, ← HC.out.base_at k hk]
      exact HSEL.out
    case round =>
      obtain ⟨j, outL, hj, rfl, hol, hsel, hown, hB⟩ := hrel
      have HO := Lib.hid hown
      have HB := Lib.hid hB
      have HS := Lib.hid hsel
      obtain ⟨sl, slc, hv⟩ := row_slice3 hown
      subst hv
      clear hown hB hsel
      by_cases hlt : j < m
      · have hq : k + j < L.segs.length := by have := HMK.out; omega
        have hcm := (HROW.out.below HB.out).cell (k + j) hq
        rw [show (ps.map ptrV)[k + j]'(by rw [List.length_map]; omega) = ptrV (ps[k + j]'(by omega)) by simp, ← Nat.add_assoc] at hcm
        obtain ⟨G1, hS, _⟩ := HSEG.out (k + j) hq
        have hS1 := SegIs.stays.below hS HB.out
        have hfk := HFS.out _ (List.getElem_mem hq)
        have hble := HC.out.le (k + j) hq
        have hbq := HC.out.base_at (k + j) hq
        have hsp : allF (L.segs.drop (k + j)) = L.segs[k + j].fs ++ allF (L.segs.drop (k + (j + 1))) := by
          rw [← allF_cons, ← Nat.add_assoc, List.getElem_cons_drop]
        have hnb : L.base + (allF (L.segs.take (k + (j + 1)))).length = L.segs[k + j].base + L.segs[k + j].fs.length := by
          rw [← Nat.add_assoc, List.take_succ_eq_append_getElem hq, allF_append, List.length_append, hbq]
          simp [allF]
          omega
        have hsel := HS.out
        rw [hsp, ← hbq] at hsel
        obtain ⟨S, hSS⟩ : ∃ S, L.segs[k + j] = S := ⟨_, rfl⟩
        obtain ⟨sk, hsk⟩ : ∃ sk, ps[k + j]'(by omega) = sk := ⟨_, rfl⟩
        obtain ⟨R, hR⟩ : ∃ R, allF (L.segs.drop (k + (j + 1))) = R := ⟨_, rfl⟩
        rw [hSS] at hS hS1 hfk hble hnb hsel
        rw [hR] at hsel
        rw [hsk] at hS hS1 hcm
        obtain ⟨bq, hbqe⟩ : ∃ bq, S.base = bq := ⟨_, rfl⟩
        rw [hbqe] at hble hnb hsel
        obtain ⟨fs, hfe⟩ : ∃ fs, S.fs = fs := ⟨_, rfl⟩
        rw [hfe] at hble hnb hsel hfk
        have KFr : Hid (Calls Tryz.prog 89 #[.pointer (some ⟨sk, 0, none⟩)] wr fun x w' => ∃ v', x = .returned v' ∧ w'.ownsRow wr.heap.size 43 2 v' fs.length (fcells fs) ∧ Below wr.heap.size wr w') := Lib.hid (by rw [← hfe]; exact frames_any hS1 (by rw [hfe]; omega))
        have KH : Hid (∀ W : World, Below w.heap.size w W → Calls Tryz.prog 86 #[.pointer (some ⟨sk, 0, none⟩)] W fun x w' => x = .returned (hdV L.id L.gen S.st bq) ∧ Below W.heap.size W w') := Lib.hid (fun W hb => by rw [← hbqe]; exact header_any (SegIs.stays.below hS hb))
        have HSEL2 := Lib.hid hsel
        have HNB := Lib.hid hnb
        have HRR := Lib.hid hR
        have hbq40 : bq + fs.length ≤ 1099511627776 := by omega
        have jm : (j : Int) < (m : Int) := by omega
        have hfl1000 : fs.length ≤ 1000 := hfk
        clear hS hS1 hfk hble hbq hsp hnb hsel hSS hsk hR hbqe hfe HS
        go_wp2_with fail
        refine KFr.out.mono ?_
        rintro x w2 ⟨v', rfl, hownf, hb2⟩
        obtain ⟨bo, bc, rfl, hfr⟩ := FrsAt.of_row hownf
        have HFR := Lib.hid hfr
        have HB2 := Lib.hid hb2
        have HBw2 := Lib.hid (HB.out.trans (hb2.mono HB.out.size))
        have HO2 := Lib.hid (ownsRow_below HO.out hb2)
        have HBO : Hid (∀ a, bo = some a → a.block < w2.heap.size ∧ wr.heap.size ≤ a.block) := Lib.hid (fun a ha => by
          have := hownf.lt a.block (by rw [ha]; rfl)
          omega)
        have HSO : Hid (∀ q, (Value.slice sl outL.length slc).ownBlock = some q → q < wr.heap.size) := Lib.hid (fun q hq => (HO.out.lt q hq).2)
        clear hownf hfr hb2 hcm KFr
        go_wp2_with fail
        go_loopw [7, 46] (fun v i wr2 => ∃ (i' : Nat) (out2 : List Fr), i' ≤ fs.length ∧ i = .int .i64 i' ∧ out2.length ≤ RES.length ∧ RES = selP n most (bq + i') (fs.drop i' ++ R) out2 ∧ wr2.ownsRow w.heap.size 43 2 v out2.length (fcells out2) ∧ Below w.heap.size w wr2 ∧ w2.heap.size ≤ wr2.heap.size ∧ FrsAt wr2 bo fs ∧ ∀ a q, bo = some a → v.ownBlock = some q → a.block ≠ q) (fun _ i _ => fs.length - (intOf i).toNat)
        case atStart => exact ⟨0, outL, Nat.zero_le _, rfl, hol, HSEL2.out, HO2.out, HBw2.out, Nat.le_refl _, HFR.out, fun a q ha hq e => by have := HBO.out a ha; have := HSO.out q hq; omega⟩
        case round =>
          obtain ⟨i', out2, hi', rfl, hol2, hsel2, hown2, hB2, hsz2, hfr2, hne2⟩ := hrel
          have HFR2 := Lib.hid hfr2
          have HNE := Lib.hid hne2
          have HO3 := Lib.hid hown2
          have HB3 := Lib.hid hB2
          have HS3 := Lib.hid hsel2
          obtain ⟨sl2, slc2, hv⟩ := row_slice3 hown2
          subst hv
          clear hown2 hB2 hsel2 hfr2 hne2
          by_cases hlt2 : i' < fs.length
          · obtain ⟨fa, hfa, hld⟩ := HFR2.out.load i' hlt2
            have HFA := Lib.hid hfa
            subst hfa
            obtain ⟨y, hy⟩ : ∃ y, fs[i'] = y := ⟨_, rfl⟩
            rw [hy] at hld
            have hdr : fs.drop i' = y :: fs.drop (i' + 1) := by rw [← hy, List.getElem_cons_drop]
            have hsel4 := HS3.out
            rw [hdr, List.cons_append, selP, Nat.add_assoc] at hsel4
            have hlen4 := (selP_le n most (fs.drop (i' + 1) ++ R) (bq + (i' + 1)) (if n ≤ bq + i' ∧ (out2.length : Int) < most then out2 ++ [y] else out2)).1
            rw [← hsel4] at hlen4
            obtain ⟨bi, hbi⟩ : ∃ bi, bq + i' = bi := ⟨_, rfl⟩
            rw [hbi] at hsel4 hlen4
            have HSEL4 := Lib.hid hsel4
            have HLEN4 := Lib.hid hlen4
            have hbiw : IntKind.i64.wrap ((bq : Int) + (i' : Int)) = (bi : Int) := by rw [IntKind.wrap_i64]; omega
            have HWR := Lib.hid hbiw
            obtain ⟨yk, yp⟩ := y
            have hBz : Below wr.heap.size wr (wr.alloc (.cells #[.int .i64 yk, .string yp] 43)) := (Below.refl _ _).alloc (Nat.le_refl _) _
            have hgz := alloc_at wr (.cells #[.int .i64 yk, .string yp] 43)
            have HGZ := Lib.hid hgz
            have KHz := Lib.hid (KH.out _ (HB3.out.trans (hBz.mono HB3.out.size)))
            have hi64 : (i' : Int) < (fs.length : Int) := by omega
            clear hsel4 hlen4 hdr hy hgz hbi hbiw
            go_wp2_with fail
            refine KHz.out.mono ?_
            rintro x w4 ⟨rfl, hb4⟩
            have hld4 := load_fr (later_of HGZ.out hb4)
            have HB4 := Lib.hid ((HB3.out.trans (hBz.mono HB3.out.size)).trans (hb4.mono (by have := HB3.out.size; have := hBz.size; omega)))
            have HFR4 := Lib.hid ((HFR2.out.below hBz).below hb4)
            have hs24 : w2.heap.size ≤ w4.heap.size := by have := hBz.size; have := hb4.size; omega
            have HO4 := Lib.hid (ownsRow_below (ownsRow_below HO3.out hBz) hb4)
            have hbs := fun (w' : World) => run_buildSlice_one (P := Tryz.prog) w' 49 43 _ 2 #[.int .i64 yk, .string yp] Tryz.underlying49 info_fr2 (by omega) (by omega) rfl
            have hoW : w.heap.size ≤ w4.heap.size := HB4.out.size
            clear hb4 hBz KHz hld
            by_cases hn1 : n ≤ bi
            · have k1 : decide (n ≤ bi) = true := decide_eq_true hn1
              by_cases hm1 : (out2.length : Int) < most
              · have k2 : decide ((out2.length : Int) < most) = true := decide_eq_true hm1
                have HSEL5 : Hid (RES = selP n most (bq + (i' + 1)) (fs.drop (i' + 1) ++ R) (out2 ++ [(yk, yp)])) := Lib.hid (by have := HSEL4.out; rwa [if_pos ⟨hn1, hm1⟩] at this)
                have HLEN5 : Hid ((out2 ++ [((yk, yp) : Fr)]).length ≤ RES.length) := Lib.hid (by have := HLEN4.out; rwa [if_pos ⟨hn1, hm1⟩] at this)
                have hlo : out2.length + 1 ≤ 1000000 := by have := HLEN5.out; rw [List.length_append] at this; simp at this; omega
                have hwr := HWR.out
                clear hn1 hm1 HSEL4 HLEN4
                go_wp2_with (at_builtin; refine wpList_append_lies _ rfl (.tmp 64) (.tmp 66) 49 rfl w.heap.size 43 i0 _ 2 24 Tryz.underlying49 hi0 hz0 hz1 hz2 rfl (by clear hwr; omega) (.slice sl2 out2.length slc2) _ _ rfl (HO4.out.alloc _) ⟨w4.heap.size, 0, none⟩ 1 1 (frC (yk, yp)) rfl rfl (World.news_of_block (cs := #[.int .i64 yk, .string yp]) (t := 43) (fr := (0, 0)) (heap_alloc_new w4 _)) (by simp [frC, Value.oneCell']) (by clear hwr; omega) (by clear hwr; unfold maxLen; omega) (by clear hwr; omega) (by clear hwr; simp; omega) _ rfl ?_; intro gg cap9 w9 hown9 hgrow hat hlt9; have HOWN := Lib.hid hown9; have HGROW := Lib.hid hgrow; have HAT := Lib.hid hat; clear hown9 hgrow hat)
                clear hwr
                have hB9 : Below w.heap.size w4 w9 := ⟨HGROW.out.os, HGROW.out.tape, HGROW.out.output, by refine Nat.le_trans ?_ HGROW.out.size; simp, fun q hq => (HGROW.out.block q (by simp; omega) (fun e => by have := ownBlock_ge HO4.out q e.symm; omega)).trans (Below.heap_alloc _ _ _ (by omega))⟩
                have HB9 := Lib.hid (HB4.out.trans hB9)
                have hU9 : Upd (fun q => (Value.slice sl2 out2.length slc2).ownBlock = some q) w4 w9 := ⟨HGROW.out.os, HGROW.out.tape, HGROW.out.output, Nat.le_trans (by simp) HGROW.out.size, fun q hq hn => (HGROW.out.block q (by simp; omega) (fun e => hn e.symm)).trans (Below.heap_alloc _ _ _ hq)⟩
                have HFR9 := Lib.hid (HFR4.out.keep hU9 (fun a ha _ hc => HNE.out a _ ha hc rfl))
                have hsz9 : w4.heap.size ≤ w9.heap.size := Nat.le_trans (by simp) HGROW.out.size
                have HNE9 : Hid (∀ a q, some fa = some a → (Value.slice (some ⟨gg, 0, none⟩) (out2.length + 1) cap9).ownBlock = some q → a.block ≠ q) := Lib.hid (fun a q ha hq => by
                  have hgq : gg = q := by simpa [Value.ownBlock] using hq
                  subst hgq
                  rcases HAT.out with h | h
                  · exact HNE.out a _ ha h
                  · have := HBO.out a ha
                    simp at h
                    omega)
                have HOWN9 : Hid (w9.ownsRow w.heap.size 43 2 (.slice (some ⟨gg, 0, none⟩) (out2.length + 1) cap9) (out2 ++ [(yk, yp)]).length (fcells (out2 ++ [(yk, yp)]))) := Lib.hid (by rw [fcells_snoc, List.length_append]; exact HOWN.out)
                clear hB9 hU9
                go_roundw
                case rel => exact ⟨i' + 1, out2 ++ [(yk, yp)], hlt2, by simp, HLEN5.out, HSEL5.out, HOWN9.out, HB9.out, by omega, HFR9.out, HNE9.out⟩
                case measure => simp [intOf]; omega
              · have k2 : decide ((out2.length : Int) < most) = false := decide_eq_false hm1
                have HSEL5 : Hid (RES = selP n most (bq + (i' + 1)) (fs.drop (i' + 1) ++ R) out2) := Lib.hid (by have := HSEL4.out; rwa [if_neg (fun h => hm1 h.2)] at this)
                have hwr := HWR.out
                clear hn1 hm1 HSEL4 HLEN4
                go_wp2
                clear hwr
                go_roundw
                case rel => exact ⟨i' + 1, out2, hlt2, by simp, hol2, HSEL5.out, HO4.out, HB4.out, hs24, HFR4.out, HNE.out⟩
                case measure => simp [intOf]; omega
            · have k1 : decide (n ≤ bi) = false := decide_eq_false hn1
              have HSEL5 : Hid (RES = selP n most (bq + (i' + 1)) (fs.drop (i' + 1) ++ R) out2) := Lib.hid (by have := HSEL4.out; rwa [if_neg (fun h => hn1 h.1)] at this)
              have hwr := HWR.out
              clear hn1 HSEL4 HLEN4
              go_wp2
              clear hwr
              go_roundw
              case rel => exact ⟨i' + 1, out2, hlt2, by simp, hol2, HSEL5.out, HO4.out, HB4.out, hs24, HFR4.out, HNE.out⟩
              case measure => simp [intOf]; omega
          · obtain rfl : i' = fs.length := by omega
            have hsel3 := HS3.out
            rw [List.drop_length, List.nil_append, ← HNB.out, ← HRR.out] at hsel3
            have HSEL3 := Lib.hid hsel3
            clear hsel3
            go_wp2
            go_roundw
            case rel => exact ⟨j + 1, out2, hlt, by simp, hol2, HSEL3.out, HO3.out, HB3.out⟩
            case measure => simp [intOf]; omega
      · obtain rfl : j = m := by omega
        have hout : outL = RES := by
          have := HS.out
          rw [HMK.out, List.drop_length] at this
          exact this.symm
        have HOUT := Lib.hid hout
        clear hout
        go_wp2
        go_ret
        have := HO.out
        rw [HOUT.out] at this
        exact ⟨_, rfl, by rw [HRES.out, ← HOUT.out]; exact HO.out, HB.out⟩
end Go.Proofs.YtoobiffhjjfpgaaGreat.Print
