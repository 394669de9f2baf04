/- scan: lists of loaded segments; numbers, behind, All. scan: All. scan: first, Chain. scan: first. scan: Chain. -/
import Derived.Test.YtoobiffhjjfpgaaGreatInts
import Derived.Test.YtoobiffhjjfpgaaGreatPut
import Derived.Test.YtoobiffhjjfpgaaGreatSegA
import Derived.Deep.AppendLies
import Derived.Deep.RegionHeld3
namespace Go.Proofs.YtoobiffhjjfpgaaGreat.Print
open Go.RowKit
attribute [local go_sem] run_loadVar_scalar

/-- A segment that was loaded. -/
structure SegL where
  n : Nat
  h : H4
  fs : List Fr
  e : Nat
/-- Loaded segments, and pointers to them. -/
def LdsAt (v : Nat) (ss : List SegL) (ps : List Nat) (w : World) (U : Foot) : Prop :=
  ps.length = ss.length ∧ ∀ (j : Nat) (hj : j < ss.length), ∃ (hp : j < ps.length) (G1 : Foot), SegIs ps[j] v ss[j].n ss[j].h ss[j].fs ss[j].e true w G1 ∧ ∀ i, G1 i → U i
theorem LdsAt.stays {v : Nat} {ss : List SegL} {ps : List Nat} : Stays (LdsAt v ss ps) := by
  rintro w w' S U ⟨hl, h⟩ hU hn
  refine ⟨hl, fun j hj => ?_⟩
  obtain ⟨hp, G1, h1, h2⟩ := h j hj
  exact ⟨hp, G1, SegIs.stays h1 hU (fun i hi => hn i (h2 i hi)), h2⟩
theorem LdsAt.snoc {v : Nat} {ss : List SegL} {ps : List Nat} {w : World} {U G : Foot} {s : Nat} {S : SegL} (h : LdsAt v ss ps w U) (hS : SegIs s v S.n S.h S.fs S.e true w G) : LdsAt v (ss ++ [S]) (ps ++ [s]) w (Both U G) := by
  obtain ⟨hl, h⟩ := h
  refine ⟨by simp [hl], fun j hj => ?_⟩
  by_cases hjl : j < ss.length
  · obtain ⟨hp, G1, h1, h2⟩ := h j hjl
    refine ⟨by simp; omega, G1, ?_, fun i hi => .inl (h2 i hi)⟩
    rw [List.getElem_append_left hp, List.getElem_append_left hjl]
    exact h1
  · have hje : j = ss.length := by simp at hj; omega
    subst hje
    refine ⟨by simp; omega, G, ?_, fun i hi => .inr hi⟩
    rw [List.getElem_append_right (by omega), List.getElem_append_right (by omega)]
    simp [hl]
    exact hS
/-- Pointers in memory. -/
def PtrsAt (w : World) (ao : Option Addr) (ps : List Nat) (U : Foot) : Prop := ∀ j (hj : j < ps.length), ∃ a, ao = some a ∧ w.cell? (a.add j) = some (ptrV ps[j]) ∧ U a.block
theorem PtrsAt.stays {ao : Option Addr} {ps : List Nat} : Stays (fun w U => PtrsAt w ao ps U) := by
  intro w w' S U h hU hn j hj
  obtain ⟨a, ha, hc, hu⟩ := h j hj
  refine ⟨a, ha, ?_, hu⟩
  rw [World.cell?_of_block (hU.other _ (World.block_lt_of_cell? w _ hc) (by rw [addr_block]; exact hn _ hu))]
  exact hc
/-- A list of loaded segments. -/
def ListIs (v : Nat) (ao : Option Addr) (ss : List SegL) (ps : List Nat) (w : World) (U : Foot) : Prop := LdsAt v ss ps w U ∧ PtrsAt w ao ps U
theorem ListIs.stays {v : Nat} {ao : Option Addr} {ss : List SegL} {ps : List Nat} : Stays (ListIs v ao ss ps) := fun h hU hn => ⟨LdsAt.stays h.1 hU hn, PtrsAt.stays h.2 hU hn⟩
theorem PtrsAt.of_row {w : World} {B : Nat} {v : Value} {ps : List Nat} {n : Nat} (hn : n = ps.length) (h : w.ownsRow B 83 1 v n (ps.map ptrV)) : ∃ ao ac, v = .slice ao n ac ∧ PtrsAt w ao ps (fun i => v.ownBlock = some i) := by
  subst hn
  rcases h.2 with ⟨rfl, h0⟩ | ⟨g, cap, cur, rfl, _, hg, _, _, hsz, htake⟩
  · exact ⟨none, 0, by rw [h0], fun i hi => by omega⟩
  · refine ⟨_, _, rfl, fun i hi => ⟨⟨g, 0, none⟩, rfl, ?_, rfl⟩⟩
    rw [Addr.add_lit, Nat.zero_add, cell_of hg]
    have : (ps.map ptrV)[i]? = some (ptrV ps[i]) := by simp [hi]
    rw [← this, ← htake, List.getElem?_take_of_lt (by omega)]
    simp
theorem nil_list (v : Nat) (w : World) : ListIs v none [] [] w (fun _ => False) := ⟨⟨rfl, fun j hj => absurd hj (by simp)⟩, fun j hj => absurd hj (by simp)⟩
/-- behind. -/
theorem behind_any {s v n : Nat} {h : H4} {fs : List Fr} {e : Nat} {sealed : Bool} {w : World} {G : Foot} (S : SegIs s v n h fs e sealed w G) (hb : h.2.2.2 ≤ 1099511627776) (hl : fs.length ≤ 1000) :
    Calls Tryz.prog 104 #[.pointer (some ⟨s, 0, none⟩)] w fun x w' => x = .returned (.int .i64 (h.2.2.2 + fs.length : Nat)) ∧ Below w.heap.size w w' := by
  have KH := Lib.hid (header_any S)
  have KL := Lib.hid (fun (W : World) (hb : Below w.heap.size w W) => len_any (SegIs.stays.below S hb))
  have hfl := field_base
  obtain ⟨b, hbe⟩ : ∃ b, h.2.2.2 = b := ⟨_, rfl⟩
  obtain ⟨l, hle⟩ : ∃ l, fs.length = l := ⟨_, rfl⟩
  obtain ⟨q, hq⟩ : ∃ q, b + l = q := ⟨_, rfl⟩
  rw [hbe, hle, hq]
  rw [hbe] at KH
  rw [hle] at KL
  have hw : IntKind.i64.wrap ((b : Int) + (l : Int)) = (q : Int) := by rw [IntKind.wrap_i64]; omega
  clear S hbe hle hq
  go_enter Tryz.func104, Tryz.ntmps104
  go_wp2_with fail
  refine KH.out.mono ?_
  rintro x w1 ⟨rfl, hb1⟩
  have KL1 := Lib.hid (KL.out w1 hb1)
  go_wp2_with fail
  refine KL1.out.mono ?_
  rintro x w2 ⟨rfl, rfl⟩
  go_wp2
  go_ret
  exact ⟨rfl, hb1⟩
end Go.Proofs.YtoobiffhjjfpgaaGreat.Print

namespace Go.Proofs.YtoobiffhjjfpgaaGreat.Print
open Go.RowKit
attribute [local go_sem] run_loadVar_scalar

/-- What Load tells of a segment's sectors. -/
def loadP (O : Nat → Op3) (n : Nat) : Option SegL := match headP O with
  | none => none
  | some h => some ⟨n, h, (loopP O h.2.2.1 16 [] 1).1, (loopP O h.2.2.1 16 [] 1).2⟩
def allP (lies : List (List UInt8)) (W : List (Nat × List UInt8)) (f m : Nat) : List SegL := (List.range m).filterMap fun n => loadP (secO lies W f n) n
theorem allP_succ (lies : List (List UInt8)) (W : List (Nat × List UInt8)) (f m : Nat) : allP lies W f (m + 1) = allP lies W f m ++ (loadP (secO lies W f m) m).toList := by
  unfold allP
  rw [List.range_succ, List.filterMap_append]
  cases h : loadP (secO lies W f m) m <;> simp [h]
theorem allP_le (lies : List (List UInt8)) (W : List (Nat × List UInt8)) (f m : Nat) : (allP lies W f m).length ≤ m := by
  unfold allP
  exact Nat.le_trans (List.length_filterMap_le _ _) (by simp)
set_option maxHeartbeats 400000 in
theorem all_nil (n : Int) (w : World) : Calls Tryz.prog 52 #[.pointer none, .int .i64 n] w fun x w' => x = .returned (.tuple #[.slice none 0 0, .int .i64 7]) ∧ w = w' := by
  go_enter Tryz.func52, Tryz.ntmps52
  go_wp2
  exact bodyPost_ret (v := .tuple #[.slice none 0 0, .int .i64 7]) (by simp [results, Tryz.results52, go_sem]) rfl ⟨rfl, rfl⟩
theorem build_ptr' (s : Nat) (W : World) : (Instr.buildSlice 73 1 #[(0, ptrV s)]).run Tryz.prog W = .ok (.slice (some ⟨W.heap.size, 0, none⟩) 1 1) (W.alloc (.cells #[ptrV s] 83)) := by kernel_rfl
/-- What All tells. -/
def AllPost (w : World) (v : Nat) (ss : List SegL) (out : Bool) (x : Ending) (w' : World) : Prop :=
  if out then x = .returned (.tuple #[.slice none 0 0, .int .i64 20]) else ∃ (ao : Option Addr) (cap : Nat) (ps : List Nat) (U : Foot), x = .returned (.tuple #[.slice ao ss.length cap, .int .i64 0]) ∧ ListIs v ao ss ps w' U ∧ ∀ i, U i → w.heap.size ≤ i
set_option maxRecDepth 100000 in
set_option maxHeartbeats 1600000 in
attribute [-go_sem] Instr.build Instr.fill Instr.buildSlice loadVar in
/-- All, over a view whose power is there: those that can be loaded, up to m; where there are none of some numbers, why. -/
theorem scanall_any {w : World} {v : Nat} {lies : List (List UInt8)} {W : List (Nat × List UInt8)} {f N : Nat} {fu : Int} {F : Foot} (V : ViewIs v lies W f N fu false w F) (hN : N ≤ 8192) (hW : W.length ≤ 1000000000) (m q : Nat) (hq : 2 + 16 * q ≤ N) (hq2 : N < 2 + 16 * (q + 1)) (hm : m ≤ 1000) (M : Int) (hM : max M 0 = m) :
    Calls Tryz.prog 52 #[.pointer (some ⟨v, 0, none⟩), .int .i64 M] w fun x w' => AllPost w v (allP lies W f m) (decide (q < m)) x w' ∧ Below w.heap.size w w' := by
  obtain ⟨i0, hi0, hz0, hz1, hz2⟩ := info_parts info_ptr
  have HV := Lib.hid V
  clear V
  go_enter Tryz.func52, Tryz.ntmps52
  go_wp2_with fail
  go_loopw [6, 14] (fun v' i wr => ∃ (j : Nat) (ps : List Nat) (U : Foot), j ≤ m ∧ j ≤ q ∧ i = .int .i64 j ∧ wr.ownsRow w.heap.size 83 1 v' ps.length (ps.map ptrV) ∧ LdsAt v (allP lies W f j) ps wr U ∧ (∀ i, U i → w.heap.size ≤ i ∧ i < wr.heap.size) ∧ (∀ q, v'.ownBlock = some q → ¬ U q) ∧ Below w.heap.size w wr) (fun _ i _ => m - (intOf i).toNat)
  case atStart => exact ⟨0, [], fun _ => False, Nat.zero_le _, Nat.zero_le _, rfl, World.ownsRow_nil _ _ _ _, ⟨rfl, fun j hj => absurd hj (by simp [allP])⟩, fun _ h => h.elim, fun _ _ h => h, Below.refl _ _⟩
  case round =>
    obtain ⟨j, ps, U, hj, hjq, rfl, hown, hL, hUb, hne, hB⟩ := hrel
    have HO := Lib.hid hown
    have HL := Lib.hid hL
    have HUB := Lib.hid hUb
    have HNE := Lib.hid hne
    have HB := Lib.hid hB
    obtain ⟨sl, slc, hv⟩ := row_slice3 hown
    subst hv
    clear hown hL hUb hne hB
    by_cases hlt : j < m
    · have hV1 := ViewIs.stays.below HV.out HB.out
      by_cases hjq2 : j < q
      · have KL := Lib.hid (load_any hV1 j hN (by omega) hW j rfl (secO lies W f j) (fun _ => rfl))
        have jm : (j : Int) < (m : Int) := by omega
        have hls := allP_succ lies W f j
        have HLS := Lib.hid hls
        clear hV1 hls
        go_wp2_with fail
        refine KL.out.mono ?_
        rintro x w2 (⟨hnone, rfl, hb2⟩ | ⟨h, s, G, hsome, rfl, hS, hb2, hG⟩)
        · have hls2 : allP lies W f (j + 1) = allP lies W f j := by
            rw [HLS.out]
            unfold loadP
            rw [hnone]
            simp
          have HLS2 := Lib.hid hls2
          have HB2 := Lib.hid (HB.out.trans (hb2.mono HB.out.size))
          have HO2 := Lib.hid (ownsRow_below HO.out hb2)
          have HL2 := Lib.hid (LdsAt.stays.below HL.out hb2)
          have HSB2 := Lib.hid hb2.size
          clear hnone hls2 hb2 KL
          go_wp2
          go_roundw
          case rel => exact ⟨j + 1, ps, U, hlt, hjq2, by simp, HO2.out, by rw [HLS2.out]; exact HL2.out, fun i hi => ⟨(HUB.out i hi).1, Nat.lt_of_lt_of_le (HUB.out i hi).2 HSB2.out⟩, HNE.out, HB2.out⟩
          case measure => simp [intOf]; omega
        · have hls2 : allP lies W f (j + 1) = allP lies W f j ++ [⟨j, h, (loopP (secO lies W f j) h.2.2.1 16 [] 1).1, (loopP (secO lies W f j) h.2.2.1 16 [] 1).2⟩] := by
            rw [HLS.out]
            unfold loadP
            rw [hsome]
            simp
          have HLS2 := Lib.hid hls2
          have HB2 := Lib.hid (HB.out.trans (hb2.mono HB.out.size))
          have HO2 := Lib.hid (ownsRow_below HO.out hb2)
          have HL2 := Lib.hid (LdsAt.stays.below HL.out hb2)
          have HS := Lib.hid hS
          have HG := Lib.hid (fun i hi => (show wr.heap.size ≤ i from hG i hi))
          have hpl : ps.length ≤ 1000 := by have := HL.out.1; have := allP_le lies W f j; omega
          have hbs := build_ptr' s
          have hszr := HB.out.size
          have hsz2 := HB2.out.size
          have hszb := hb2.size
          obtain ⟨pn, hpn⟩ : ∃ pn, ps.length = pn := ⟨_, rfl⟩
          rw [hpn] at HO2 hpl ⊢
          have HPN := Lib.hid hpn
          clear hsome hls2 hb2 hS hG KL hpn
          go_wp2_with (at_builtin; refine wpList_append_lies _ rfl (.tmp 27) (.tmp 29) 73 rfl w.heap.size 83 i0 _ 1 8 Tryz.underlying73 hi0 hz0 hz1 hz2 rfl (by omega) (.slice sl pn slc) _ _ rfl (HO2.out.alloc _) ⟨w2.heap.size, 0, none⟩ 1 1 [ptrV s] rfl rfl (World.news_of_block (cs := #[ptrV s]) (t := 83) (fr := (0, 0)) (heap_alloc_new w2 _)) (by simp [Value.oneCell']) (by omega) (by unfold maxLen; omega) (by omega) (by simp; omega) _ rfl ?_; intro gg cap9 w9 hown9 hgrow hat hlt9; have HOWN := Lib.hid hown9; have HGROW := Lib.hid hgrow; have HAT := Lib.hid hat; clear hown9 hgrow hat)
          have hU9 : Upd (fun k => (Value.slice sl pn slc).ownBlock = some k) w2 w9 := ⟨HGROW.out.os, HGROW.out.tape, HGROW.out.output, Nat.le_trans (by simp) HGROW.out.size, fun k hk hn => (HGROW.out.block k (by simp; omega) (fun e => hn e.symm)).trans (Below.heap_alloc _ _ _ hk)⟩
          have hlr : ∀ k, (Value.slice sl pn slc).ownBlock = some k → k < wr.heap.size ∧ w.heap.size ≤ k := fun k hk => by
            have h1 := HO.out.lt k (by rw [HPN.out]; exact hk)
            exact ⟨h1.2, h1.1⟩
          have HB9 := Lib.hid (HB2.out.trans (hU9.below hsz2 (fun k hk hc => by have := (hlr k hc).2; omega)))
          have hL9 := LdsAt.stays HL2.out hU9 (fun k hk hc => HNE.out k (by rw [HPN.out]; exact hc) hk)
          have hS9 := SegIs.stays HS.out hU9 (fun k hk hc => by have := HG.out k hk; have := (hlr k hc).1; omega)
          have HLN := Lib.hid (hL9.snoc (S := ⟨j, h, (loopP (secO lies W f j) h.2.2.1 16 [] 1).1, (loopP (secO lies W f j) h.2.2.1 16 [] 1).2⟩) hS9)
          have HNE9 : Hid (∀ k, (Value.slice (some ⟨gg, 0, none⟩) (pn + 1) cap9).ownBlock = some k → ¬ Both U G k) := Lib.hid (fun k hk hc => by
            have hgk : gg = k := by simpa [Value.ownBlock] using hk
            subst hgk
            rcases HAT.out with h | h
            · rcases hc with hc | hc
              · exact HNE.out gg (by rw [HPN.out]; exact h) hc
              · have := HG.out gg hc; have := (hlr gg h).1; omega
            · have h' : gg = w2.heap.size + 1 := by rw [h]; simp
              rcases hc with hc | hc
              · have := (HUB.out gg hc).2
                omega
              · have := SegIs.there HS.out gg hc; omega)
          have HOWN9 : Hid (w9.ownsRow w.heap.size 83 1 (.slice (some ⟨gg, 0, none⟩) (pn + 1) cap9) (ps ++ [s]).length ((ps ++ [s]).map ptrV)) := Lib.hid (by rw [List.length_append, HPN.out, List.map_append]; exact HOWN.out)
          have HGE9 : Hid (∀ i, Both U G i → w.heap.size ≤ i ∧ i < w9.heap.size) := Lib.hid (fun i hi => by
            have h9 := hU9.size
            rcases hi with hi | hi
            · have := HUB.out i hi; omega
            · have := HG.out i hi; have := SegIs.there HS.out i hi; omega)
          clear hU9 hL9 hS9 hlr
          go_wp2
          go_roundw
          case rel => exact ⟨j + 1, ps ++ [s], Both U G, hlt, hjq2, by simp, HOWN9.out, by rw [HLS2.out]; exact HLN.out, fun i hi => HGE9.out i hi, HNE9.out, HB9.out⟩
          case measure => simp [intOf]; omega
      · obtain rfl : j = q := by omega
        obtain ⟨_, d, st, hv⟩ := view_at hV1
        have KL := Lib.hid (load_first_no (.pointer (some ⟨v, 0, none⟩)) (j : Int) 20 (by decide) wr (first_bad hv j hN (by omega) (.inr (by omega))))
        have jm : (j : Int) < (m : Int) := by omega
        have hd : decide (j < m) = true := decide_eq_true hlt
        have HD := Lib.hid hd
        clear hd hv hV1
        go_wp2_with fail
        refine KL.out.mono ?_
        rintro x w2 ⟨rfl, rfl⟩
        go_wp2
        refine bodyPost_ret (v := .tuple #[.slice none 0 0, .int .i64 20]) (by simp [results, Tryz.results52, go_sem]) rfl ⟨?_, HB.out⟩
        unfold AllPost
        rw [HD.out, if_pos rfl]
    · obtain rfl : j = m := by omega
      have hd : decide (q < j) = false := decide_eq_false (by omega)
      have HD := Lib.hid hd
      clear hd
      go_wp2
      have hrow := HO.out
      obtain ⟨ao, ac, he, hP⟩ := PtrsAt.of_row rfl hrow
      have hlen := HL.out.1
      refine bodyPost_ret (v := .tuple #[.slice sl ps.length slc, .int .i64 0]) (by simp [results, Tryz.results52, go_sem]) rfl ⟨?_, HB.out⟩
      unfold AllPost
      rw [HD.out, if_neg (by simp)]
      simp at he
      obtain ⟨rfl, rfl⟩ := he
      refine ⟨sl, slc, ps, fun i => U i ∨ (Value.slice sl ps.length slc).ownBlock = some i, by rw [hlen], ⟨⟨HL.out.1, fun j hj => ?_⟩, fun j hj => ?_⟩, fun i hi => hi.elim (fun hi => (HUB.out i hi).1) (fun hi => (hrow.lt i hi).1)⟩
      · obtain ⟨hp, G1, h1, h2⟩ := HL.out.2 j hj
        exact ⟨hp, G1, h1, fun i hi => .inl (h2 i hi)⟩
      · obtain ⟨a, h1, h2, h3⟩ := hP j hj
        exact ⟨a, h1, h2, .inr h3⟩
end Go.Proofs.YtoobiffhjjfpgaaGreat.Print

namespace Go.Proofs.YtoobiffhjjfpgaaGreat.Print
open Go.RowKit
attribute [local go_sem] run_loadVar_scalar
set_option linter.unusedSimpArgs false

/-- header.Before. -/
def beforeP (a b : H4) : Bool := if a.2.2.2 = b.2.2.2 then decide (a.2.2.1 < b.2.2.1) else decide (a.2.2.2 < b.2.2.2)
theorem hdr_cells {w : World} {g : Nat} {a b c d : Int} {t : TypeId} (h : w.heap[g]? = some (.cells #[.int .i64 a, .int .u32 b, .int .u32 c, .int .i64 d] t)) :
    w.cell? ⟨g, 0, none⟩ = some (.int .i64 a) ∧ w.cell? ⟨g, 1, none⟩ = some (.int .u32 b) ∧ w.cell? ⟨g, 2, none⟩ = some (.int .u32 c) ∧ w.cell? ⟨g, 3, none⟩ = some (.int .i64 d) := by
  refine ⟨?_, ?_, ?_, ?_⟩ <;> simp [World.cell?, h]
set_option maxHeartbeats 800000 in
theorem before_any (a b : H4) (w : World) : Calls Tryz.prog 125 #[hdV a.1 a.2.1 a.2.2.1 a.2.2.2, hdV b.1 b.2.1 b.2.2.1 b.2.2.2] w fun x w' => x = .returned (.bool (beforeP a b)) ∧ Below w.heap.size w w' := by
  obtain ⟨a0, a1, a2, a3⟩ := a
  obtain ⟨b0, b1, b2, b3⟩ := b
  unfold beforeP
  have fin : ∀ (o1 o2 : Obj), Below w.heap.size w ((w.alloc o1).alloc o2) := fun o1 o2 => Below.alloc (Below.alloc (Below.refl _ _) (Nat.le_refl _) _) (by simp) _
  by_cases h3 : a3 = b3
  · subst h3
    simp only [if_true]
    by_cases h2 : a2 < b2
    · have g2 : ((a2 : Int) < (b2 : Int)) := by omega
      rw [decide_eq_true h2]
      clear h2
      go_enter Tryz.func125, Tryz.ntmps125
      go_wp2
      exact bodyPost_ret (v := .bool true) (by simp [results, Tryz.results125, go_sem]) rfl ⟨rfl, fin _ _⟩
    · have g2 : ¬ ((a2 : Int) < (b2 : Int)) := by omega
      rw [decide_eq_false h2]
      clear h2
      go_enter Tryz.func125, Tryz.ntmps125
      go_wp2
      exact bodyPost_ret (v := .bool false) (by simp [results, Tryz.results125, go_sem]) rfl ⟨rfl, fin _ _⟩
  · rw [if_neg h3]
    have g3 : ((a3 : Int) == (b3 : Int)) = false := by simp; omega
    by_cases h2 : a3 < b3
    · have g2 : ((a3 : Int) < (b3 : Int)) := by omega
      rw [decide_eq_true h2]
      clear h2 h3
      go_enter Tryz.func125, Tryz.ntmps125
      go_wp2
      exact bodyPost_ret (v := .bool true) (by simp [results, Tryz.results125, go_sem]) rfl ⟨rfl, fin _ _⟩
    · have g2 : ¬ ((a3 : Int) < (b3 : Int)) := by omega
      rw [decide_eq_false h2]
      clear h2 h3
      go_enter Tryz.func125, Tryz.ntmps125
      go_wp2
      exact bodyPost_ret (v := .bool false) (by simp [results, Tryz.results125, go_sem]) rfl ⟨rfl, fin _ _⟩
theorem own_drew {W : World} {p1 p2 p3 g : Nat} {id gen frm x0 x1 : Int} (d3 : W.cell? ⟨p3, 0, none⟩ = some (.int .i64 frm)) (d1 : W.cell? ⟨p1, 0, none⟩ = some (.int .i64 id)) (d2 : W.cell? ⟨p2, 0, none⟩ = some (.int .u32 gen)) (c0 : W.cell? ⟨g, 0, none⟩ = some (.int .i64 x0)) (c1 : W.cell? ⟨g, 1, none⟩ = some (.int .u32 x1)) :
    W.drew.cell? ⟨p3, 0, none⟩ = some (.int .i64 frm) ∧ W.drew.cell? ⟨p1, 0, none⟩ = some (.int .i64 id) ∧ W.drew.cell? ⟨p2, 0, none⟩ = some (.int .u32 gen) ∧ W.drew.cell? ⟨g, 0, none⟩ = some (.int .i64 x0) ∧ W.drew.cell? ⟨g, 1, none⟩ = some (.int .u32 x1) ∧ Below W.heap.size W W.drew := ⟨d3, d1, d2, c0, c1, (Below.refl _ _).drew⟩
theorem own_keep {W w1 w2 : World} {p1 p2 p3 g : Nat} {id gen frm x0 x1 : Int} (h : w1.cell? ⟨p3, 0, none⟩ = some (.int .i64 frm) ∧ w1.cell? ⟨p1, 0, none⟩ = some (.int .i64 id) ∧ w1.cell? ⟨p2, 0, none⟩ = some (.int .u32 gen) ∧ w1.cell? ⟨g, 0, none⟩ = some (.int .i64 x0) ∧ w1.cell? ⟨g, 1, none⟩ = some (.int .u32 x1) ∧ Below W.heap.size W w1) (hb : Below w1.heap.size w1 w2) :
    w2.cell? ⟨p3, 0, none⟩ = some (.int .i64 frm) ∧ w2.cell? ⟨p1, 0, none⟩ = some (.int .i64 id) ∧ w2.cell? ⟨p2, 0, none⟩ = some (.int .u32 gen) ∧ w2.cell? ⟨g, 0, none⟩ = some (.int .i64 x0) ∧ w2.cell? ⟨g, 1, none⟩ = some (.int .u32 x1) ∧ Below W.heap.size W w2 := by
  obtain ⟨d3, d1, d2, c0, c1, hB⟩ := h
  have K : ∀ (a : Addr) (v : Value), w1.cell? a = some v → w2.cell? a = some v := fun a v h => (World.cell?_of_block (hb.block _ (World.block_lt_of_cell? w1 _ h))).trans h
  exact ⟨K _ _ d3, K _ _ d1, K _ _ d2, K _ _ c0, K _ _ c1, hB.trans (hb.mono hB.size)⟩
/-- Does a segment count? -/
def ownP (S : SegL) (id gen frm : Int) : Bool := decide (0 < S.fs.length) && ((S.h.1 : Int) == id) && ((S.h.2.1 : Int) == gen) && decide (frm < ((S.h.2.2.2 + S.fs.length : Nat) : Int))
set_option maxRecDepth 100000 in
set_option maxHeartbeats 1600000 in
theorem own_any {s v : Nat} {S : SegL} {w : World} {G : Foot} (hS : SegIs s v S.n S.h S.fs S.e true w G) (hb : S.h.2.2.2 ≤ 1099511627776) (hl : S.fs.length ≤ 1000) {p1 p2 p3 : Nat} {id gen frm : Int}
    (h1 : w.cell? ⟨p1, 0, none⟩ = some (.int .i64 id)) (h2 : w.cell? ⟨p2, 0, none⟩ = some (.int .u32 gen)) (h3 : w.cell? ⟨p3, 0, none⟩ = some (.int .i64 frm)) :
    Calls Tryz.prog 103 #[.pointer (some ⟨s, 0, none⟩), .pointer (some ⟨p1, 0, none⟩), .pointer (some ⟨p2, 0, none⟩), .pointer (some ⟨p3, 0, none⟩)] w fun x w' => x = .returned (.bool (ownP S id gen frm)) ∧ Below w.heap.size w w' := by
  obtain ⟨n, ⟨a0, a1, a2, a3⟩, fs, e⟩ := S
  have hb1 := World.block_lt_of_cell? w _ h1
  have hb2 := World.block_lt_of_cell? w _ h2
  have hb3 := World.block_lt_of_cell? w _ h3
  have HS := Lib.hid hS
  have KH := Lib.hid (header_any hS)
  clear hS
  obtain ⟨r, hr⟩ : ∃ r, ownP ⟨n, ⟨a0, a1, a2, a3⟩, fs, e⟩ id gen frm = r := ⟨_, rfl⟩
  rw [hr]
  unfold ownP at hr
  simp only at hb hl hr ⊢
  go_enter Tryz.func103, Tryz.ntmps103
  go_wp2_with fail
  refine KH.out.mono ?_
  rintro x w1 ⟨rfl, hb1'⟩
  go_wp2_with fail
  have hBW : Below w.heap.size w (w1.alloc (Obj.cells #[Value.int IntKind.i64 a0, Value.int IntKind.u32 a1, Value.int IntKind.u32 a2, Value.int IntKind.i64 a3] 138)) := Below.alloc hb1' hb1'.size _
  have hat := alloc_at w1 (Obj.cells #[Value.int IntKind.i64 a0, Value.int IntKind.u32 a1, Value.int IntKind.u32 a2, Value.int IntKind.i64 a3] 138)
  have hgl : w1.heap.size < (w1.alloc (Obj.cells #[Value.int IntKind.i64 a0, Value.int IntKind.u32 a1, Value.int IntKind.u32 a2, Value.int IntKind.i64 a3] 138)).heap.size := lt_of hat
  revert hBW hat hgl
  generalize w1.alloc (Obj.cells #[Value.int IntKind.i64 a0, Value.int IntKind.u32 a1, Value.int IntKind.u32 a2, Value.int IntKind.i64 a3] 138) = W
  intro hBW hat hgl
  obtain ⟨c0, c1, c2, c3⟩ := hdr_cells hat
  have d1 : W.cell? ⟨p1, 0, none⟩ = some (.int .i64 id) := (World.cell?_of_block (hBW.block _ hb1)).trans h1
  have d2 : W.cell? ⟨p2, 0, none⟩ = some (.int .u32 gen) := (World.cell?_of_block (hBW.block _ hb2)).trans h2
  have d3 : W.cell? ⟨p3, 0, none⟩ = some (.int .i64 frm) := (World.cell?_of_block (hBW.block _ hb3)).trans h3
  have KL := Lib.hid (fun n => len_any (w := W.drewN n) (SegIs.stays.below HS.out (below_drewN hBW n)))
  clear h1 h2 h3 c2 c3 hat
  obtain ⟨l, hle⟩ : ∃ l, fs.length = l := ⟨_, rfl⟩
  have KB := Lib.hid (fun (W' : World) (h : Below W.heap.size W W') => behind_any (SegIs.stays.below HS.out (hBW.trans (h.mono hBW.size))) hb hl)
  rw [hle] at hr KL KB
  have hlg : (l : Int) ≤ 1000 := by omega
  have hl0 : 0 ≤ (l : Int) := by omega
  have HR := Lib.hid hr
  have HLE := Lib.hid hle
  have HBW := Lib.hid hBW
  clear hr hBW hle hl hb hb1' KH
  by_cases k0 : 0 < l
  · by_cases k1 : (a0 : Int) = id
    · by_cases k2 : (a1 : Int) = gen
      · subst k1 k2
        have k1' : ((a0 : Int) == (a0 : Int)) = true := by simp
        have k2' : ((a1 : Int) == (a1 : Int)) = true := by simp
        obtain ⟨q, hq⟩ : ∃ q, a3 + l = q := ⟨_, rfl⟩
        have KL2 := Lib.hid (fun (W' : World) (h : W'.cell? ⟨p3, 0, none⟩ = some (.int .i64 frm) ∧ W'.cell? ⟨p1, 0, none⟩ = some (.int .i64 (a0 : Int)) ∧ W'.cell? ⟨p2, 0, none⟩ = some (.int .u32 (a1 : Int)) ∧ W'.cell? ⟨w1.heap.size, 0, none⟩ = some (.int .i64 a0) ∧ W'.cell? ⟨w1.heap.size, 1, none⟩ = some (.int .u32 a1) ∧ Below W.heap.size W W') => len_any (w := W') (SegIs.stays.below HS.out (HBW.out.trans (h.2.2.2.2.2.mono HBW.out.size))))
        have KB2 := Lib.hid (fun (W' : World) (h : W'.cell? ⟨p3, 0, none⟩ = some (.int .i64 frm) ∧ W'.cell? ⟨p1, 0, none⟩ = some (.int .i64 (a0 : Int)) ∧ W'.cell? ⟨p2, 0, none⟩ = some (.int .u32 (a1 : Int)) ∧ W'.cell? ⟨w1.heap.size, 0, none⟩ = some (.int .i64 a0) ∧ W'.cell? ⟨w1.heap.size, 1, none⟩ = some (.int .u32 a1) ∧ Below W.heap.size W W') => KB.out W' h.2.2.2.2.2)
        rw [HLE.out] at KL2
        simp only [hq] at KB2
        have HQ := Lib.hid hq
        clear hq KL KB
        go_region_held3 (fun w' => w'.cell? ⟨p3, 0, none⟩ = some (.int .i64 frm) ∧ w'.cell? ⟨p1, 0, none⟩ = some (.int .i64 (a0 : Int)) ∧ w'.cell? ⟨p2, 0, none⟩ = some (.int .u32 (a1 : Int)) ∧ w'.cell? ⟨w1.heap.size, 0, none⟩ = some (.int .i64 a0) ∧ w'.cell? ⟨w1.heap.size, 1, none⟩ = some (.int .u32 a1) ∧ Below W.heap.size W w')
          (first | assumption | exact own_drew d3 d1 d2 c0 c1 | exact own_keep (by assumption) hb)
          (first
          | (go_at_call 87; (with_reducible refine (KL2.out _ (by assumption)).mono ?_); rintro x w3 ⟨rfl, rfl⟩)
          | (go_at_call 104; (with_reducible refine (KB2.out _ (by assumption)).mono ?_); rintro x w3 ⟨rfl, hb⟩))
        all_goals
          have hfin : Below W.heap.size W w3 := by first | exact (own_keep (by assumption) hb).2.2.2.2.2 | exact (own_keep (own_drew d3 d1 d2 c0 c1) hb).2.2.2.2.2
          go_wp2
          refine bodyPost_ret (v := .bool (decide (frm < (q : Int)))) (by simp [results, Tryz.results103, go_sem]) rfl ⟨?_, HBW.out.trans (hfin.mono HBW.out.size)⟩
          rw [← HR.out, ← HQ.out]
          simp [k0]
      · have k1' : ((a0 : Int) == id) = true := by simpa using k1
        have k2' : ((a1 : Int) == gen) = false := by simpa using k2
        go_quiet ((go_at_call 87; exact quiet_eq (KL.out _)))
        go_wp2
        refine bodyPost_ret (v := .bool false) (by simp [results, Tryz.results103, go_sem]) rfl ⟨?_, below_drewN HBW.out _⟩
        rw [← HR.out]
        simp [k2]
    · have k1' : ((a0 : Int) == id) = false := by simpa using k1
      go_quiet ((go_at_call 87; exact quiet_eq (KL.out _)))
      go_wp2
      refine bodyPost_ret (v := .bool false) (by simp [results, Tryz.results103, go_sem]) rfl ⟨?_, below_drewN HBW.out _⟩
      rw [← HR.out]
      simp [k1]
  · have k0' : decide (0 < l) = false := decide_eq_false k0
    go_quiet ((go_at_call 87; exact quiet_eq (KL.out _)))
    go_wp2
    refine bodyPost_ret (v := .bool false) (by simp [results, Tryz.results103, go_sem]) rfl ⟨?_, below_drewN HBW.out _⟩
    rw [← HR.out]
    simp [k0]
theorem callOwn (args : Array Value) (w : World) : (callFunc 103 args).run Tryz.prog w = .ok (.enter 103 args) w := by kernel_rfl
theorem two_drew {W : World} {po pf : Nat} {x y : Value} (d1 : W.cell? ⟨po, 0, none⟩ = some x) (d2 : W.cell? ⟨pf, 0, none⟩ = some y) :
    W.drew.cell? ⟨po, 0, none⟩ = some x ∧ W.drew.cell? ⟨pf, 0, none⟩ = some y ∧ Below W.heap.size W W.drew := ⟨d1, d2, (Below.refl _ _).drew⟩
theorem two_keep {W w1 w2 : World} {po pf : Nat} {x y : Value} (h : w1.cell? ⟨po, 0, none⟩ = some x ∧ w1.cell? ⟨pf, 0, none⟩ = some y ∧ Below W.heap.size W w1) (hb : Below w1.heap.size w1 w2) :
    w2.cell? ⟨po, 0, none⟩ = some x ∧ w2.cell? ⟨pf, 0, none⟩ = some y ∧ Below W.heap.size W w2 := by
  obtain ⟨d1, d2, hB⟩ := h
  have K : ∀ (a : Addr) (v : Value), w1.cell? a = some v → w2.cell? a = some v := fun a v h => (World.cell?_of_block (hb.block _ (World.block_lt_of_cell? w1 _ h))).trans h
  exact ⟨K _ _ d1, K _ _ d2, hB.trans (hb.mono hB.size)⟩
set_option maxRecDepth 100000 in
set_option maxHeartbeats 1600000 in
theorem start_any {s v : Nat} {S : SegL} {w : World} {G : Foot} (hS : SegIs s v S.n S.h S.fs S.e true w G) (hb : S.h.2.2.2 ≤ 1099511627776) (hl : S.fs.length ≤ 1000) {po pf p1 p2 p3 : Nat} {id gen frm x : Int}
    (h1 : w.cell? ⟨p1, 0, none⟩ = some (.int .i64 id)) (h2 : w.cell? ⟨p2, 0, none⟩ = some (.int .u32 gen)) (h3 : w.cell? ⟨p3, 0, none⟩ = some (.int .i64 frm))
    (ho : w.cell? ⟨po, 0, none⟩ = some (.func (.func 103) #[] #[.pointer (some ⟨p1, 0, none⟩), .pointer (some ⟨p2, 0, none⟩), .pointer (some ⟨p3, 0, none⟩)])) (hf : w.cell? ⟨pf, 0, none⟩ = some (.int .i64 x)) :
    Calls Tryz.prog 106 #[.pointer (some ⟨s, 0, none⟩), .pointer (some ⟨po, 0, none⟩), .pointer (some ⟨pf, 0, none⟩)] w fun y w' => y = .returned (.bool (ownP S id gen frm && decide ((S.h.2.2.2 : Int) ≤ x))) ∧ Below w.heap.size w w' := by
  have K : ∀ {W' : World}, Below w.heap.size w W' → ∀ (a : Addr) (v : Value), w.cell? a = some v → W'.cell? a = some v := fun hb a v h => (World.cell?_of_block (hb.block _ (World.block_lt_of_cell? w _ h))).trans h
  have KO := Lib.hid (fun (W' : World) (h : Below w.heap.size w W') => own_any (SegIs.stays.below hS h) hb hl (K h _ _ h1) (K h _ _ h2) (K h _ _ h3))
  have KH := Lib.hid (fun (W' : World) (h : Below w.heap.size w W') => header_any (SegIs.stays.below hS h))
  obtain ⟨n, ⟨a0, a1, a2, a3⟩, fs, e⟩ := S
  obtain ⟨r, hr⟩ : ∃ r, ownP ⟨n, ⟨a0, a1, a2, a3⟩, fs, e⟩ id gen frm = r := ⟨_, rfl⟩
  rw [hr] at KO ⊢
  simp only at hb hl hr KH ⊢
  have hfl := field_base
  have hcf := callOwn
  clear hS hr hb hl h1 h2 h3 K
  go_enter Tryz.func106, Tryz.ntmps106
  go_wp2_with fail
  cases r
  · have hod : w.drew.cell? ⟨po, 0, none⟩ = some (.func (.func 103) #[] #[.pointer (some ⟨p1, 0, none⟩), .pointer (some ⟨p2, 0, none⟩), .pointer (some ⟨p3, 0, none⟩)]) := ho
    refine wp_region_any (by kernel_rfl) ?_
    simp only [List.size_toArray, List.length_cons, List.length_nil, Nat.reduceAdd]
    rw [show Array.replicate 11 false = #[false, false, false, false, false, false, false, false, false, false, false] from rfl]
    refine wpAny_take (i := 1) (v := ?_) rfl (by kernel_rfl) (by kernel_rfl) (by kernel_rfl) (fun _ _ _ h => h) (Or.inl ⟨by rfl, ?_⟩) ?_
    rotate_left 1
    · (intro w'; simp only [List.getElem_toArray, List.getElem_cons_zero, List.getElem_cons_succ]; go_simp; try with_reducible rfl)
    simp only [Act.put, List.getElem_toArray, List.getElem_cons_zero, List.getElem_cons_succ, List.setIfInBounds_toArray, List.set_cons_zero, List.set_cons_succ]
    refine wpAny_ready (rs := [0]) (by kernel_rfl) (by simp) ?_
    refine AllReady.cons rfl (fun K' hK => ?_) AllReady.nil
    simp only [List.getElem_toArray, List.getElem_cons_zero, List.getElem_cons_succ]
    go_simp
    refine hK _ _ ?_
    clear hK K'
    simp only [Act.put, List.getElem_toArray, List.getElem_cons_zero, List.getElem_cons_succ, List.setIfInBounds_toArray, List.set_cons_zero, List.set_cons_succ]
    refine wpAny_ready (rs := [2]) (by kernel_rfl) (by simp) ?_
    refine AllReady.cons rfl (fun K' hK => ?_) AllReady.nil
    simp only [List.getElem_toArray, List.getElem_cons_zero, List.getElem_cons_succ]
    go_simp
    (go_at_call 103; (with_reducible refine (KO.out _ (Below.refl _ _).drew).mono ?_); rintro x1 w3 ⟨rfl, hb⟩)
    refine hK _ _ ?_
    clear hK K'
    simp only [Act.put, List.getElem_toArray, List.getElem_cons_zero, List.getElem_cons_succ, List.setIfInBounds_toArray, List.set_cons_zero, List.set_cons_succ]
    refine wpAny_take (i := 3) (v := ?_) rfl (by kernel_rfl) (by kernel_rfl) (by kernel_rfl) (fun _ _ _ h => h) (Or.inl ⟨by rfl, ?_⟩) ?_
    rotate_left 1
    · (intro w'; simp only [List.getElem_toArray, List.getElem_cons_zero, List.getElem_cons_succ]; go_simp; try with_reducible rfl)
    simp only [Act.put, List.getElem_toArray, List.getElem_cons_zero, List.getElem_cons_succ, List.setIfInBounds_toArray, List.set_cons_zero, List.set_cons_succ]
    refine wpAny_take (i := 7) (v := undef) rfl (by kernel_rfl) (by kernel_rfl) (by kernel_rfl) (fun _ _ _ h => h) (Or.inr ⟨by rfl, rfl⟩) ?_
    simp only [Act.put, List.getElem_toArray, List.getElem_cons_zero, List.getElem_cons_succ, List.setIfInBounds_toArray, List.set_cons_zero, List.set_cons_succ]
    refine wpAny_take (i := 4) (v := undef) rfl (by kernel_rfl) (by kernel_rfl) (by kernel_rfl) (fun _ _ _ h => h) (Or.inr ⟨by rfl, rfl⟩) ?_
    simp only [Act.put, List.getElem_toArray, List.getElem_cons_zero, List.getElem_cons_succ, List.setIfInBounds_toArray, List.set_cons_zero, List.set_cons_succ]
    refine wpAny_ready (rs := [5]) (by kernel_rfl) (by simp) ?_
    refine AllReady.cons rfl (fun K' hK => ?_) AllReady.nil
    simp only [List.getElem_toArray, List.getElem_cons_zero, List.getElem_cons_succ]
    go_simp
    refine hK _ _ ?_
    clear hK K'
    simp only [Act.put, List.getElem_toArray, List.getElem_cons_zero, List.getElem_cons_succ, List.setIfInBounds_toArray, List.set_cons_zero, List.set_cons_succ]
    refine wpAny_take (i := 6) (v := undef) rfl (by kernel_rfl) (by kernel_rfl) (by kernel_rfl) (fun _ _ _ h => h) (Or.inr ⟨by rfl, rfl⟩) ?_
    simp only [Act.put, List.getElem_toArray, List.getElem_cons_zero, List.getElem_cons_succ, List.setIfInBounds_toArray, List.set_cons_zero, List.set_cons_succ]
    refine wpAny_take (i := 8) (v := undef) rfl (by kernel_rfl) (by kernel_rfl) (by kernel_rfl) (fun _ _ _ h => h) (Or.inr ⟨by rfl, rfl⟩) ?_
    simp only [Act.put, List.getElem_toArray, List.getElem_cons_zero, List.getElem_cons_succ, List.setIfInBounds_toArray, List.set_cons_zero, List.set_cons_succ]
    refine wpAny_take (i := 9) (v := ?_) rfl (by kernel_rfl) (by kernel_rfl) (by kernel_rfl) (fun _ _ _ h => h) (Or.inl ⟨by rfl, ?_⟩) ?_
    rotate_left 1
    · (intro w'; simp only [List.getElem_toArray, List.getElem_cons_zero, List.getElem_cons_succ]; go_simp; try with_reducible rfl)
    simp only [Act.put, List.getElem_toArray, List.getElem_cons_zero, List.getElem_cons_succ, List.setIfInBounds_toArray, List.set_cons_zero, List.set_cons_succ]
    refine wpAny_take (i := 10) (v := ?_) rfl (by kernel_rfl) (by kernel_rfl) (by kernel_rfl) (fun _ _ _ h => h) (Or.inl ⟨by rfl, ?_⟩) ?_
    rotate_left 1
    · (intro w'; simp only [List.getElem_toArray, List.getElem_cons_zero, List.getElem_cons_succ]; go_simp; try with_reducible rfl)
    simp only [Act.put, List.getElem_toArray, List.getElem_cons_zero, List.getElem_cons_succ, List.setIfInBounds_toArray, List.set_cons_zero, List.set_cons_succ]
    refine wpAny_done (by kernel_rfl) ?_ _
    all_goals
      go_wp2
      exact bodyPost_ret (v := .bool false) (by simp [results, Tryz.results106, go_sem]) rfl ⟨by simp, (Below.refl _ _).drew.trans hb⟩
  · go_region_held3 (fun w' => w'.cell? ⟨po, 0, none⟩ = some (.func (.func 103) #[] #[.pointer (some ⟨p1, 0, none⟩), .pointer (some ⟨p2, 0, none⟩), .pointer (some ⟨p3, 0, none⟩)]) ∧ w'.cell? ⟨pf, 0, none⟩ = some (.int .i64 x) ∧ Below w.heap.size w w')
      (first | assumption | exact two_drew ho hf | exact two_keep (by assumption) hb)
      (first
      | (go_at_call 103; (with_reducible refine (KO.out _ (‹_ ∧ _ ∧ _›).2.2).mono ?_); rintro x1 w3 ⟨rfl, hb⟩)
      | (go_at_call 86; (with_reducible refine (KH.out _ (‹_ ∧ _ ∧ _›).2.2).mono ?_); rintro x1 w3 ⟨rfl, hb⟩))
    all_goals
      have hfin : Below w.heap.size w w3 := (‹_ ∧ _ ∧ Below w.heap.size w w3›).2.2
      go_wp2
      exact bodyPost_ret (v := .bool (decide ((a3 : Int) ≤ x))) (by simp [results, Tryz.results106, go_sem]) rfl ⟨by simp, hfin⟩
set_option maxRecDepth 100000 in
set_option maxHeartbeats 1600000 in
theorem after_any {s v : Nat} {S : SegL} {w : World} {G : Foot} (hS : SegIs s v S.n S.h S.fs S.e true w G) (hb : S.h.2.2.2 ≤ 1099511627776) (hl : S.fs.length ≤ 1000) {po pf p1 p2 p3 : Nat} {id gen frm x : Int}
    (h1 : w.cell? ⟨p1, 0, none⟩ = some (.int .i64 id)) (h2 : w.cell? ⟨p2, 0, none⟩ = some (.int .u32 gen)) (h3 : w.cell? ⟨p3, 0, none⟩ = some (.int .i64 frm))
    (ho : w.cell? ⟨po, 0, none⟩ = some (.func (.func 103) #[] #[.pointer (some ⟨p1, 0, none⟩), .pointer (some ⟨p2, 0, none⟩), .pointer (some ⟨p3, 0, none⟩)])) (hf : w.cell? ⟨pf, 0, none⟩ = some (.int .i64 x)) :
    Calls Tryz.prog 107 #[.pointer (some ⟨s, 0, none⟩), .pointer (some ⟨po, 0, none⟩), .pointer (some ⟨pf, 0, none⟩)] w fun y w' => y = .returned (.bool (ownP S id gen frm && ((S.h.2.2.2 : Int) == x))) ∧ Below w.heap.size w w' := by
  have K : ∀ {W' : World}, Below w.heap.size w W' → ∀ (a : Addr) (v : Value), w.cell? a = some v → W'.cell? a = some v := fun hb a v h => (World.cell?_of_block (hb.block _ (World.block_lt_of_cell? w _ h))).trans h
  have KO := Lib.hid (fun (W' : World) (h : Below w.heap.size w W') => own_any (SegIs.stays.below hS h) hb hl (K h _ _ h1) (K h _ _ h2) (K h _ _ h3))
  have KH := Lib.hid (fun (W' : World) (h : Below w.heap.size w W') => header_any (SegIs.stays.below hS h))
  obtain ⟨n, ⟨a0, a1, a2, a3⟩, fs, e⟩ := S
  obtain ⟨r, hr⟩ : ∃ r, ownP ⟨n, ⟨a0, a1, a2, a3⟩, fs, e⟩ id gen frm = r := ⟨_, rfl⟩
  rw [hr] at KO ⊢
  simp only at hb hl hr KH ⊢
  have hfl := field_base
  have hcf := callOwn
  clear hS hr hb hl h1 h2 h3 K
  go_enter Tryz.func107, Tryz.ntmps107
  go_wp2_with fail
  cases r
  · have hod : w.drew.cell? ⟨po, 0, none⟩ = some (.func (.func 103) #[] #[.pointer (some ⟨p1, 0, none⟩), .pointer (some ⟨p2, 0, none⟩), .pointer (some ⟨p3, 0, none⟩)]) := ho
    refine wp_region_any (by kernel_rfl) ?_
    simp only [List.size_toArray, List.length_cons, List.length_nil, Nat.reduceAdd]
    rw [show Array.replicate 11 false = #[false, false, false, false, false, false, false, false, false, false, false] from rfl]
    refine wpAny_take (i := 1) (v := ?_) rfl (by kernel_rfl) (by kernel_rfl) (by kernel_rfl) (fun _ _ _ h => h) (Or.inl ⟨by rfl, ?_⟩) ?_
    rotate_left 1
    · (intro w'; simp only [List.getElem_toArray, List.getElem_cons_zero, List.getElem_cons_succ]; go_simp; try with_reducible rfl)
    simp only [Act.put, List.getElem_toArray, List.getElem_cons_zero, List.getElem_cons_succ, List.setIfInBounds_toArray, List.set_cons_zero, List.set_cons_succ]
    refine wpAny_ready (rs := [0]) (by kernel_rfl) (by simp) ?_
    refine AllReady.cons rfl (fun K' hK => ?_) AllReady.nil
    simp only [List.getElem_toArray, List.getElem_cons_zero, List.getElem_cons_succ]
    go_simp
    refine hK _ _ ?_
    clear hK K'
    simp only [Act.put, List.getElem_toArray, List.getElem_cons_zero, List.getElem_cons_succ, List.setIfInBounds_toArray, List.set_cons_zero, List.set_cons_succ]
    refine wpAny_ready (rs := [2]) (by kernel_rfl) (by simp) ?_
    refine AllReady.cons rfl (fun K' hK => ?_) AllReady.nil
    simp only [List.getElem_toArray, List.getElem_cons_zero, List.getElem_cons_succ]
    go_simp
    (go_at_call 103; (with_reducible refine (KO.out _ (Below.refl _ _).drew).mono ?_); rintro x1 w3 ⟨rfl, hb⟩)
    refine hK _ _ ?_
    clear hK K'
    simp only [Act.put, List.getElem_toArray, List.getElem_cons_zero, List.getElem_cons_succ, List.setIfInBounds_toArray, List.set_cons_zero, List.set_cons_succ]
    refine wpAny_take (i := 3) (v := ?_) rfl (by kernel_rfl) (by kernel_rfl) (by kernel_rfl) (fun _ _ _ h => h) (Or.inl ⟨by rfl, ?_⟩) ?_
    rotate_left 1
    · (intro w'; simp only [List.getElem_toArray, List.getElem_cons_zero, List.getElem_cons_succ]; go_simp; try with_reducible rfl)
    simp only [Act.put, List.getElem_toArray, List.getElem_cons_zero, List.getElem_cons_succ, List.setIfInBounds_toArray, List.set_cons_zero, List.set_cons_succ]
    refine wpAny_take (i := 7) (v := undef) rfl (by kernel_rfl) (by kernel_rfl) (by kernel_rfl) (fun _ _ _ h => h) (Or.inr ⟨by rfl, rfl⟩) ?_
    simp only [Act.put, List.getElem_toArray, List.getElem_cons_zero, List.getElem_cons_succ, List.setIfInBounds_toArray, List.set_cons_zero, List.set_cons_succ]
    refine wpAny_take (i := 4) (v := undef) rfl (by kernel_rfl) (by kernel_rfl) (by kernel_rfl) (fun _ _ _ h => h) (Or.inr ⟨by rfl, rfl⟩) ?_
    simp only [Act.put, List.getElem_toArray, List.getElem_cons_zero, List.getElem_cons_succ, List.setIfInBounds_toArray, List.set_cons_zero, List.set_cons_succ]
    refine wpAny_ready (rs := [5]) (by kernel_rfl) (by simp) ?_
    refine AllReady.cons rfl (fun K' hK => ?_) AllReady.nil
    simp only [List.getElem_toArray, List.getElem_cons_zero, List.getElem_cons_succ]
    go_simp
    refine hK _ _ ?_
    clear hK K'
    simp only [Act.put, List.getElem_toArray, List.getElem_cons_zero, List.getElem_cons_succ, List.setIfInBounds_toArray, List.set_cons_zero, List.set_cons_succ]
    refine wpAny_take (i := 6) (v := undef) rfl (by kernel_rfl) (by kernel_rfl) (by kernel_rfl) (fun _ _ _ h => h) (Or.inr ⟨by rfl, rfl⟩) ?_
    simp only [Act.put, List.getElem_toArray, List.getElem_cons_zero, List.getElem_cons_succ, List.setIfInBounds_toArray, List.set_cons_zero, List.set_cons_succ]
    refine wpAny_take (i := 8) (v := undef) rfl (by kernel_rfl) (by kernel_rfl) (by kernel_rfl) (fun _ _ _ h => h) (Or.inr ⟨by rfl, rfl⟩) ?_
    simp only [Act.put, List.getElem_toArray, List.getElem_cons_zero, List.getElem_cons_succ, List.setIfInBounds_toArray, List.set_cons_zero, List.set_cons_succ]
    refine wpAny_take (i := 9) (v := ?_) rfl (by kernel_rfl) (by kernel_rfl) (by kernel_rfl) (fun _ _ _ h => h) (Or.inl ⟨by rfl, ?_⟩) ?_
    rotate_left 1
    · (intro w'; simp only [List.getElem_toArray, List.getElem_cons_zero, List.getElem_cons_succ]; go_simp; try with_reducible rfl)
    simp only [Act.put, List.getElem_toArray, List.getElem_cons_zero, List.getElem_cons_succ, List.setIfInBounds_toArray, List.set_cons_zero, List.set_cons_succ]
    refine wpAny_take (i := 10) (v := ?_) rfl (by kernel_rfl) (by kernel_rfl) (by kernel_rfl) (fun _ _ _ h => h) (Or.inl ⟨by rfl, ?_⟩) ?_
    rotate_left 1
    · (intro w'; simp only [List.getElem_toArray, List.getElem_cons_zero, List.getElem_cons_succ]; go_simp; try with_reducible rfl)
    simp only [Act.put, List.getElem_toArray, List.getElem_cons_zero, List.getElem_cons_succ, List.setIfInBounds_toArray, List.set_cons_zero, List.set_cons_succ]
    refine wpAny_done (by kernel_rfl) ?_ _
    all_goals
      go_wp2
      exact bodyPost_ret (v := .bool false) (by simp [results, Tryz.results107, go_sem]) rfl ⟨by simp, (Below.refl _ _).drew.trans hb⟩
  · go_region_held3 (fun w' => w'.cell? ⟨po, 0, none⟩ = some (.func (.func 103) #[] #[.pointer (some ⟨p1, 0, none⟩), .pointer (some ⟨p2, 0, none⟩), .pointer (some ⟨p3, 0, none⟩)]) ∧ w'.cell? ⟨pf, 0, none⟩ = some (.int .i64 x) ∧ Below w.heap.size w w')
      (first | assumption | exact two_drew ho hf | exact two_keep (by assumption) hb)
      (first
      | (go_at_call 103; (with_reducible refine (KO.out _ (‹_ ∧ _ ∧ _›).2.2).mono ?_); rintro x1 w3 ⟨rfl, hb⟩)
      | (go_at_call 86; (with_reducible refine (KH.out _ (‹_ ∧ _ ∧ _›).2.2).mono ?_); rintro x1 w3 ⟨rfl, hb⟩))
    all_goals
      have hfin : Below w.heap.size w w3 := (‹_ ∧ _ ∧ Below w.heap.size w w3›).2.2
      go_wp2
      exact bodyPost_ret (v := .bool ((a3 : Int) == x)) (by simp [results, Tryz.results107, go_sem]) rfl ⟨by simp, hfin⟩
end Go.Proofs.YtoobiffhjjfpgaaGreat.Print

namespace Go.Proofs.YtoobiffhjjfpgaaGreat.Print
open Go.RowKit
attribute [local go_sem] run_loadVar_scalar
set_option linter.unusedSimpArgs false

/-- Does a segment count and come ahead of the one that is held? -/
def betterP (cnt : SegL → Bool) (ss : List SegL) (o : Option Nat) (S : SegL) : Bool := cnt S && (match o with
  | none => true
  | some k => match ss[k]? with
    | none => true
    | some T => beforeP S.h T.h)
/-- The place of the first of those that count, among the first m. -/
def firstI (cnt : SegL → Bool) (ss : List SegL) : Nat → Option Nat
  | 0 => none
  | m + 1 => match ss[m]? with
    | none => firstI cnt ss m
    | some S => if betterP cnt ss (firstI cnt ss m) S then some m else firstI cnt ss m
theorem firstI_succ {cnt : SegL → Bool} {ss : List SegL} {m : Nat} (hm : m < ss.length) : firstI cnt ss (m + 1) = if betterP cnt ss (firstI cnt ss m) ss[m] then some m else firstI cnt ss m := by
  rw [firstI, List.getElem?_eq_getElem hm]
theorem firstI_lt {cnt : SegL → Bool} {ss : List SegL} : ∀ {m k : Nat}, firstI cnt ss m = some k → k < m ∧ k < ss.length := by
  intro m
  induction m with
  | zero => intro k h; simp [firstI] at h
  | succ m ih =>
    intro k h
    by_cases hm : m < ss.length
    · rw [firstI_succ hm] at h
      split at h
      · have : m = k := by simpa using h
        omega
      · have := ih h; omega
    · rw [firstI, List.getElem?_eq_none (by omega)] at h
      have := ih h; omega
theorem firstI_cnt {cnt : SegL → Bool} {ss : List SegL} : ∀ {m k : Nat}, firstI cnt ss m = some k → ∃ (h : k < ss.length), cnt ss[k] = true := by
  intro m
  induction m with
  | zero => intro k h; simp [firstI] at h
  | succ m ih =>
    intro k h
    by_cases hm : m < ss.length
    · rw [firstI_succ hm] at h
      split at h
      · rename_i hc
        have : m = k := by simpa using h
        subst this
        unfold betterP at hc
        rw [Bool.and_eq_true] at hc
        exact ⟨hm, hc.1⟩
      · exact ih h
    · rw [firstI, List.getElem?_eq_none (by omega)] at h
      exact ih h
/-- A pointer, or none. -/
def ptrO (ps : List Nat) : Option Nat → Value
  | none => .pointer none
  | some k => .pointer (some ⟨ps.getD k 0, 0, none⟩)
set_option maxRecDepth 100000 in
set_option maxHeartbeats 1600000 in
theorem first_any {v : Nat} {ao : Option Addr} {ss : List SegL} {ps : List Nat} {w : World} {U : Foot} (h : ListIs v ao ss ps w U) (cap : Nat) (hm : ss.length ≤ 1000) (cnt : SegL → Bool) (F : FuncId) (caps : Array Value)
    (hF : ∀ (args : Array Value) (w : World), (callFunc F args).run Tryz.prog w = .ok (.enter F args) w)
    (hC : ∀ (W' : World), Below w.heap.size w W' → ∀ (j : Nat) (hj : j < ss.length), Calls Tryz.prog F (#[.pointer (some ⟨ps.getD j 0, 0, none⟩)] ++ caps) W' fun x w' => x = .returned (.bool (cnt ss[j])) ∧ Below W'.heap.size W' w') :
    Calls Tryz.prog 105 #[.slice ao ss.length cap, .func (.func F) #[] caps] w fun x w' => x = .returned (ptrO ps (firstI cnt ss ss.length)) ∧ Below w.heap.size w w' := by
  have H := Lib.hid h
  have KC := Lib.hid hC
  clear h hC
  go_enter Tryz.func105, Tryz.ntmps105
  go_wp2_with fail
  go_loopw [5, 10] (fun o i wr => ∃ j : Nat, j ≤ ss.length ∧ i = .int .i64 j ∧ o = ptrO ps (firstI cnt ss j) ∧ Below w.heap.size w wr) (fun _ i _ => ss.length - (intOf i).toNat)
  case atStart => exact ⟨0, Nat.zero_le _, rfl, rfl, Below.refl _ _⟩
  case round =>
    obtain ⟨j, hj, rfl, rfl, hB⟩ := hrel
    have HB := Lib.hid hB
    clear hB
    by_cases hlt : j < ss.length
    · obtain ⟨hpl, hseg⟩ := H.out.1
      obtain ⟨hjp, G1, hS, _⟩ := hseg j hlt
      obtain ⟨a, ha, hc, _⟩ := H.out.2 j hjp
      have HA := Lib.hid ha
      subst ha
      have hcm : wr.cell? (a.add j) = some (ptrV ps[j]) := by
        rw [World.cell?_of_block (HB.out.block _ (World.block_lt_of_cell? w _ hc))]
        exact hc
      have hps : ps[j] = ps.getD j 0 := by simp [List.getD, hjp]
      rw [hps] at hcm
      have KO := Lib.hid (KC.out wr HB.out j hlt)
      have hstep := firstI_succ (cnt := cnt) hlt
      have KH := Lib.hid (fun (W' : World) (hb : Below wr.heap.size wr W') => header_any (SegIs.stays.below hS (HB.out.trans (hb.mono HB.out.size))))
      rw [hps] at KH
      obtain ⟨pj, hpj⟩ : ∃ pj, ps.getD j 0 = pj := ⟨_, rfl⟩
      rw [hpj] at hcm KO KH
      have HPJ := Lib.hid hpj
      clear hpj hps hS hc
      unfold betterP at hstep
      cases hcn : cnt ss[j] with
      | false =>
        rw [hcn] at KO hstep
        have HST : Hid (firstI cnt ss (j + 1) = firstI cnt ss j) := Lib.hid (by rw [hstep]; simp)
        obtain ⟨o, ho⟩ : ∃ o, ptrO ps (firstI cnt ss j) = o := ⟨_, rfl⟩
        have HOO := Lib.hid ho
        rw [ho]
        clear hcn hstep ho
        go_wp2_with fail
        refine KO.out.mono ?_
        rintro x1 w3 ⟨rfl, hb⟩
        have HB3 := Lib.hid (HB.out.trans (hb.mono HB.out.size))
        clear hb KO
        go_wp2
        go_roundw
        case rel => exact ⟨j + 1, hlt, by simp, by rw [HST.out, HOO.out], HB3.out⟩
        case measure => simp [intOf]; omega
      | true =>
        rw [hcn] at KO hstep
        cases hfo : firstI cnt ss j with
        | none =>
          rw [hfo] at hstep
          have HST : Hid (firstI cnt ss (j + 1) = some j) := Lib.hid (by rw [hstep]; simp)
          clear hcn hstep
          have hpn : ptrO ps none = .pointer none := rfl
          rw [hpn]
          clear hpn
          go_wp2_with fail
          refine KO.out.mono ?_
          rintro x1 w3 ⟨rfl, hb⟩
          have HB3 := Lib.hid (HB.out.trans (hb.mono HB.out.size))
          clear hb KO
          go_wp2
          go_roundw
          case rel => exact ⟨j + 1, hlt, by simp, by rw [HST.out, ← HPJ.out]; rfl, HB3.out⟩
          case measure => simp [intOf]; omega
        | some k =>
          obtain ⟨_, hk⟩ := firstI_lt hfo
          obtain ⟨hkp, G2, hS2, _⟩ := hseg k hk
          have hps2 : ps[k] = ps.getD k 0 := by simp [List.getD, hkp]
          rw [hps2] at hS2
          have KH2 := Lib.hid (fun (W' : World) (hb : Below wr.heap.size wr W') => header_any (SegIs.stays.below hS2 (HB.out.trans (hb.mono HB.out.size))))
          rw [hfo] at hstep
          simp only [List.getElem?_eq_getElem hk, Bool.true_and] at hstep
          obtain ⟨pk, hpk⟩ : ∃ pk, ps.getD k 0 = pk := ⟨_, rfl⟩
          have hpo : ptrO ps (some k) = .pointer (some ⟨pk, 0, none⟩) := by rw [← hpk]; rfl
          rw [hpk] at KH2
          rw [hpo]
          have KB := fun W' => before_any ss[j].h ss[k].h W'
          obtain ⟨hj', hhj⟩ : ∃ x, ss[j].h = x := ⟨_, rfl⟩
          obtain ⟨hk', hhk⟩ : ∃ x, ss[k].h = x := ⟨_, rfl⟩
          rw [hhj] at KB hstep KH
          rw [hhk] at KB hstep KH2
          have HST := Lib.hid hstep
          have HPO := Lib.hid hpo
          have KB := Lib.hid KB
          clear hcn hstep hfo hhj hhk hpo hpk hps2 hS2 hseg
          go_wp2_with fail
          refine KO.out.mono ?_
          rintro x1 w3 ⟨rfl, hb⟩
          have HB3 := Lib.hid hb
          clear hb KO
          go_wp2_with fail
          refine (KH.out _ HB3.out).mono ?_
          rintro x1 w4 ⟨rfl, hb⟩
          have HB4 := Lib.hid (HB3.out.trans (hb.mono HB3.out.size))
          clear hb KH
          go_wp2_with fail
          refine (KH2.out _ HB4.out).mono ?_
          rintro x1 w5 ⟨rfl, hb⟩
          have HB5 := Lib.hid (HB4.out.trans (hb.mono HB4.out.size))
          clear hb KH2
          go_wp2_with fail
          refine (KB.out _).mono ?_
          rintro x1 w6 ⟨rfl, hb⟩
          have HB6 := Lib.hid (HB.out.trans ((HB5.out.trans (hb.mono HB5.out.size)).mono HB.out.size))
          clear hb KB
          cases hbp : beforeP hj' hk' with
          | false =>
            have HS2 : Hid (firstI cnt ss (j + 1) = some k) := Lib.hid (by rw [HST.out, hbp]; simp)
            clear hbp HST
            go_wp2
            go_roundw
            case rel => exact ⟨j + 1, hlt, by simp, by rw [HS2.out, HPO.out], HB6.out⟩
            case measure => simp [intOf]; omega
          | true =>
            have HS2 : Hid (firstI cnt ss (j + 1) = some j) := Lib.hid (by rw [HST.out, hbp]; simp)
            clear hbp HST
            go_wp2
            go_roundw
            case rel => exact ⟨j + 1, hlt, by simp, by rw [HS2.out, ← HPJ.out]; rfl, HB6.out⟩
            case measure => simp [intOf]; omega
    · obtain rfl : j = ss.length := by omega
      obtain ⟨o, ho⟩ : ∃ o, ptrO ps (firstI cnt ss ss.length) = o := ⟨_, rfl⟩
      have HO := Lib.hid ho
      rw [ho]
      clear ho
      go_wp2
      go_ret
      exact ⟨by rw [HO.out]; rfl, HB.out⟩
end Go.Proofs.YtoobiffhjjfpgaaGreat.Print

namespace Go.Proofs.YtoobiffhjjfpgaaGreat.Print
open Go.RowKit
attribute [local go_sem] run_loadVar_scalar
set_option linter.unusedSimpArgs false

def seg0 : SegL := ⟨0, (0, 0, 0, 0), [], 0⟩
def behindP (S : SegL) : Nat := S.h.2.2.2 + S.fs.length
def startC (id gen frm : Int) (S : SegL) : Bool := ownP S id gen frm && decide ((S.h.2.2.2 : Int) ≤ frm)
def afterC (id gen frm x : Int) (S : SegL) : Bool := ownP S id gen frm && ((S.h.2.2.2 : Int) == x)
/-- The one behind a segment. -/
def nextI (ss : List SegL) (id gen frm : Int) (k : Nat) : Option Nat := firstI (afterC id gen frm (behindP (ss.getD k seg0) : Nat)) ss ss.length
/-- The chain's places, from one on. -/
def chainI (ss : List SegL) (id gen frm : Int) : Nat → Option Nat → List Nat
  | 0, _ => []
  | _ + 1, none => []
  | f + 1, some k => k :: chainI ss id gen frm f (nextI ss id gen frm k)
def chainP (ss : List SegL) (id gen frm : Int) : List Nat := chainI ss id gen frm (ss.length + 1) (firstI (startC id gen frm) ss ss.length)
def pickL (ss : List SegL) (l : List Nat) : List SegL := l.map fun k => ss.getD k seg0
def pickN (ps : List Nat) (l : List Nat) : List Nat := l.map fun k => ps.getD k 0
/-- How many segments have a base from that of one on. -/
def roomI (ss : List SegL) : Option Nat → Nat
  | none => 0
  | some k => (ss.filter fun S => decide ((ss.getD k seg0).h.2.2.2 ≤ S.h.2.2.2)).length
theorem filter_lt {α : Type} {p q : α → Bool} : ∀ {l : List α}, (∀ x ∈ l, q x = true → p x = true) → ∀ {x : α}, x ∈ l → p x = true → q x = false → (l.filter q).length < (l.filter p).length := by
  have hle : ∀ {l : List α}, (∀ x ∈ l, q x = true → p x = true) → (l.filter q).length ≤ (l.filter p).length := by
    intro l
    induction l with
    | nil => intro _; simp
    | cons a t ih =>
      intro h
      have ih := ih (fun x hx => h x (List.mem_cons_of_mem _ hx))
      by_cases hq : q a = true
      · rw [List.filter_cons_of_pos hq, List.filter_cons_of_pos (h a (by simp) hq)]
        simpa using ih
      · rw [List.filter_cons_of_neg hq]
        by_cases hp : p a = true
        · rw [List.filter_cons_of_pos hp]
          simp; omega
        · rw [List.filter_cons_of_neg hp]
          exact ih
  intro l
  induction l with
  | nil => intro _ x hx; cases hx
  | cons a t ih =>
    intro h x hx hp hq
    have ht := fun y (hy : y ∈ t) => h y (List.mem_cons_of_mem _ hy)
    rcases List.mem_cons.1 hx with rfl | hx
    · rw [List.filter_cons_of_neg (by simp [hq]), List.filter_cons_of_pos hp]
      have := hle ht
      simp; omega
    · have ih := ih ht hx hp hq
      by_cases hqa : q a = true
      · rw [List.filter_cons_of_pos hqa, List.filter_cons_of_pos (h a (by simp) hqa)]
        simp; omega
      · rw [List.filter_cons_of_neg hqa]
        by_cases hpa : p a = true
        · rw [List.filter_cons_of_pos hpa]
          simp; omega
        · rw [List.filter_cons_of_neg hpa]
          exact ih
theorem getD_at {ss : List SegL} {k : Nat} (h : k < ss.length) : ss.getD k seg0 = ss[k] := by simp [List.getD, h]
theorem roomI_pos {ss : List SegL} {k : Nat} (h : k < ss.length) : 1 ≤ roomI ss (some k) := by
  unfold roomI
  have : (ss.getD k seg0) ∈ ss.filter fun S => decide ((ss.getD k seg0).h.2.2.2 ≤ S.h.2.2.2) := by
    rw [List.mem_filter, getD_at h]
    exact ⟨List.getElem_mem h, by simp⟩
  exact List.length_pos_of_mem this
theorem roomI_next {ss : List SegL} {id gen frm : Int} {k : Nat} (h : k < ss.length) (hl : 0 < (ss.getD k seg0).fs.length) : roomI ss (nextI ss id gen frm k) + 1 ≤ roomI ss (some k) := by
  cases hn : nextI ss id gen frm k with
  | none => show 0 + 1 ≤ _; exact roomI_pos h
  | some j =>
    obtain ⟨hj, hc⟩ := firstI_cnt hn
    unfold afterC at hc
    rw [Bool.and_eq_true] at hc
    have hb : (ss.getD j seg0).h.2.2.2 = behindP (ss.getD k seg0) := by
      rw [getD_at hj]
      have := hc.2
      simp only [beq_iff_eq] at this
      omega
    unfold behindP at hb
    unfold roomI
    refine filter_lt (fun x _ hx => ?_) (x := ss.getD k seg0) (by rw [getD_at h]; exact List.getElem_mem h) (by simp only [decide_eq_true_eq]; omega) (by simp only [decide_eq_false_iff_not]; omega)
    simp only [decide_eq_true_eq] at hx ⊢
    omega
theorem roomI_le (ss : List SegL) (o : Option Nat) : roomI ss o ≤ ss.length := by
  cases o with
  | none => exact Nat.zero_le _
  | some k => exact List.length_filter_le _ _
theorem chainI_fuel {ss : List SegL} {id gen frm : Int} : ∀ {f : Nat} {o : Option Nat}, (∀ k, o = some k → k < ss.length ∧ 0 < (ss.getD k seg0).fs.length) → roomI ss o < f → chainI ss id gen frm f o = chainI ss id gen frm (f + 1) o := by
  intro f
  induction f with
  | zero => intro o _ h; omega
  | succ f ih =>
    intro o ho h
    cases o with
    | none => rfl
    | some k =>
      obtain ⟨hk, hl⟩ := ho k rfl
      have := roomI_next (id := id) (gen := gen) (frm := frm) hk hl
      show k :: chainI ss id gen frm f _ = k :: chainI ss id gen frm (f + 1) _
      rw [ih (fun j hj => ?_) (by omega)]
      obtain ⟨hj1, hc⟩ := firstI_cnt hj
      refine ⟨hj1, ?_⟩
      rw [getD_at hj1]
      unfold afterC ownP at hc
      simp at hc
      omega
theorem store_fn {P : Program} {w : World} {a : Addr} {m : Mode} (fn : Fn) (first captured : Array Value) : (store a (.func fn first captured) m).run P w = stored P w a (.func fn first captured) m := run_store P w a _ m rfl
attribute [local go_sem] store_fn
/-- How long a slice is. -/
def lenV : Value → Nat
  | .slice _ n _ => n
  | _ => 0
theorem box_keep {w w' : World} (hb : Below w.heap.size w w') {g : Nat} {x : Value} (h : w.cell? ⟨g, 0, none⟩ = some x) : w'.cell? ⟨g, 0, none⟩ = some x := (World.cell?_of_block (hb.block _ (World.block_lt_of_cell? w _ h))).trans h
theorem four_boxes (w : World) (x1 x2 x3 x4 : Value) (t1 t2 t3 t4 : TypeId) :
    ((((w.alloc (Obj.cells #[x1] t1)).alloc (Obj.cells #[x2] t2)).alloc (Obj.cells #[x3] t3)).alloc (Obj.cells #[x4] t4)).cell? ⟨w.heap.size, 0, none⟩ = some x1 ∧
    ((((w.alloc (Obj.cells #[x1] t1)).alloc (Obj.cells #[x2] t2)).alloc (Obj.cells #[x3] t3)).alloc (Obj.cells #[x4] t4)).cell? ⟨w.heap.size + 1, 0, none⟩ = some x2 ∧
    ((((w.alloc (Obj.cells #[x1] t1)).alloc (Obj.cells #[x2] t2)).alloc (Obj.cells #[x3] t3)).alloc (Obj.cells #[x4] t4)).cell? ⟨w.heap.size + 1 + 1, 0, none⟩ = some x3 ∧
    ((((w.alloc (Obj.cells #[x1] t1)).alloc (Obj.cells #[x2] t2)).alloc (Obj.cells #[x3] t3)).alloc (Obj.cells #[x4] t4)).cell? ⟨w.heap.size + 1 + 1 + 1, 0, none⟩ = some x4 ∧
    Below w.heap.size w ((((w.alloc (Obj.cells #[x1] t1)).alloc (Obj.cells #[x2] t2)).alloc (Obj.cells #[x3] t3)).alloc (Obj.cells #[x4] t4)) := by
  have k1 := alloc_at w (Obj.cells #[x1] t1)
  have b1 : Below (w.heap.size + 1) (w.alloc (Obj.cells #[x1] t1)) ((((w.alloc (Obj.cells #[x1] t1)).alloc (Obj.cells #[x2] t2)).alloc (Obj.cells #[x3] t3)).alloc (Obj.cells #[x4] t4)) := by
    refine Below.alloc (Below.alloc (Below.alloc (Below.refl _ _) (by simp) _) (by simp) _) (by simp) _
  have k2 := alloc_at (w.alloc (Obj.cells #[x1] t1)) (Obj.cells #[x2] t2)
  have b2 : Below (w.heap.size + 1 + 1) ((w.alloc (Obj.cells #[x1] t1)).alloc (Obj.cells #[x2] t2)) ((((w.alloc (Obj.cells #[x1] t1)).alloc (Obj.cells #[x2] t2)).alloc (Obj.cells #[x3] t3)).alloc (Obj.cells #[x4] t4)) := by
    refine Below.alloc (Below.alloc (Below.refl _ _) (by simp) _) (by simp) _
  have k3 := alloc_at ((w.alloc (Obj.cells #[x1] t1)).alloc (Obj.cells #[x2] t2)) (Obj.cells #[x3] t3)
  have b3 : Below (w.heap.size + 1 + 1 + 1) (((w.alloc (Obj.cells #[x1] t1)).alloc (Obj.cells #[x2] t2)).alloc (Obj.cells #[x3] t3)) ((((w.alloc (Obj.cells #[x1] t1)).alloc (Obj.cells #[x2] t2)).alloc (Obj.cells #[x3] t3)).alloc (Obj.cells #[x4] t4)) := by
    refine Below.alloc (Below.refl _ _) (by simp) _
  have k4 := alloc_at (((w.alloc (Obj.cells #[x1] t1)).alloc (Obj.cells #[x2] t2)).alloc (Obj.cells #[x3] t3)) (Obj.cells #[x4] t4)
  have e1 : ∀ (g : Nat) (W : World) (x : Value) (t : TypeId), W.heap[g]? = some (Obj.cells #[x] t) → W.cell? ⟨g, 0, none⟩ = some x := fun g W x t h => by simp [World.cell?, h]
  refine ⟨e1 _ _ _ t1 ((b1.block _ (by omega)).trans k1), e1 _ _ _ t2 ((b2.block _ (by omega)).trans (by simpa using k2)), e1 _ _ _ t3 ((b3.block _ (by omega)).trans (by simpa using k3)), e1 _ _ _ t4 (by simpa using k4), ?_⟩
  exact Below.alloc (Below.alloc (Below.alloc (Below.alloc (Below.refl _ _) (Nat.le_refl _) _) (by simp) _) (by simp; omega) _) (by simp; omega) _
theorem callStart (args : Array Value) (w : World) : (callFunc 106 args).run Tryz.prog w = .ok (.enter 106 args) w := by kernel_rfl
theorem callAfter (args : Array Value) (w : World) : (callFunc 107 args).run Tryz.prog w = .ok (.enter 107 args) w := by kernel_rfl
set_option maxRecDepth 100000 in
set_option maxHeartbeats 1600000 in
theorem chain_any {v : Nat} {ao : Option Addr} {ss : List SegL} {ps : List Nat} {w : World} {U : Foot} (h : ListIs v ao ss ps w U) (cap : Nat) (hm : ss.length ≤ 1000) (hb : ∀ S ∈ ss, S.h.2.2.2 ≤ 1099511627776 ∧ S.fs.length ≤ 1000) (id gen frm : Int) :
    Calls Tryz.prog 74 #[.slice ao ss.length cap, .int .i64 id, .int .u32 gen, .int .i64 frm] w fun x w' => ∃ (ao' : Option Addr) (cap' : Nat) (U' : Foot), x = .returned (.slice ao' (chainP ss id gen frm).length cap') ∧ ListIs v ao' (pickL ss (chainP ss id gen frm)) (pickN ps (chainP ss id gen frm)) w' U' ∧ (∀ i, U' i → U i ∨ w.heap.size ≤ i) ∧ Below w.heap.size w w' := by
  obtain ⟨i0, hi0, hz0, hz1, hz2⟩ := info_parts info_ptr
  have H := Lib.hid h
  have HB := Lib.hid hb
  clear h hb
  go_enter Tryz.func74, Tryz.ntmps74
  go_wp2_with fail
  obtain ⟨q1, q2, q3, q4, hB0⟩ := four_boxes w (.int .i64 id) (.int .u32 gen) (.int .i64 frm) (.func (.func 103) #[] #[.pointer (some ⟨w.heap.size, 0, none⟩), .pointer (some ⟨w.heap.size + 1, 0, none⟩), .pointer (some ⟨w.heap.size + 1 + 1, 0, none⟩)]) 3 58 3 150
  revert q1 q2 q3 q4 hB0
  generalize (((w.alloc (Obj.cells #[Value.int IntKind.i64 id] 3)).alloc (Obj.cells #[Value.int IntKind.u32 gen] 58)).alloc (Obj.cells #[Value.int IntKind.i64 frm] 3)).alloc (Obj.cells #[.func (.func 103) #[] #[.pointer (some ⟨w.heap.size, 0, none⟩), .pointer (some ⟨w.heap.size + 1, 0, none⟩), .pointer (some ⟨w.heap.size + 1 + 1, 0, none⟩)]] 150) = W0
  obtain ⟨p1, hp1⟩ : ∃ p, w.heap.size = p := ⟨_, rfl⟩
  obtain ⟨p2, hp2⟩ : ∃ p, w.heap.size + 1 = p := ⟨_, rfl⟩
  obtain ⟨p3, hp3⟩ : ∃ p, w.heap.size + 1 + 1 = p := ⟨_, rfl⟩
  obtain ⟨po, hp4⟩ : ∃ p, w.heap.size + 1 + 1 + 1 = p := ⟨_, rfl⟩
  rw [hp4, hp3, hp2, hp1]
  intro q1 q2 q3 q4 hB0
  rw [← hp1] at hB0
  have HB0 := Lib.hid hB0
  have H0 : Hid (ListIs v ao ss ps W0 U) := Lib.hid (ListIs.stays.below H.out hB0)
  have CELLS : Hid (∀ W', Below W0.heap.size W0 W' → W'.cell? ⟨p1, 0, none⟩ = some (.int .i64 id) ∧ W'.cell? ⟨p2, 0, none⟩ = some (.int .u32 gen) ∧ W'.cell? ⟨p3, 0, none⟩ = some (.int .i64 frm) ∧ W'.cell? ⟨po, 0, none⟩ = some (.func (.func 103) #[] #[.pointer (some ⟨p1, 0, none⟩), .pointer (some ⟨p2, 0, none⟩), .pointer (some ⟨p3, 0, none⟩)])) := Lib.hid (fun W' hb => ⟨box_keep hb q1, box_keep hb q2, box_keep hb q3, box_keep hb q4⟩)
  have K1 := Lib.hid (first_any H0.out cap hm (startC id gen frm) 106 #[.pointer (some ⟨po, 0, none⟩), .pointer (some ⟨p3, 0, none⟩)] callStart (fun W' hb j hj => by
    obtain ⟨hpl, hseg⟩ := H0.out.1
    obtain ⟨hjp, G1, hS, _⟩ := hseg j hj
    rw [show ps[j] = ps.getD j 0 by simp [List.getD, hjp]] at hS
    obtain ⟨r1, r2, r3, r4⟩ := CELLS.out W' hb
    obtain ⟨b1, b2⟩ := HB.out ss[j] (List.getElem_mem hj)
    exact start_any (SegIs.stays.below hS hb) b1 b2 r1 r2 r3 r4 r3))
  clear q1 q2 q3 q4 hB0
  refine K1.out.mono ?_
  rintro x w1 ⟨rfl, hb1⟩
  have HB1 := Lib.hid hb1
  clear hb1 K1
  go_wp2_with fail
  go_loopw [10, 11] (fun o nx wr => ∃ (don : List Nat) (cur : Option Nat), nx = ptrO ps cur ∧ wr.ownsRow W0.heap.size 83 1 o don.length ((pickN ps don).map ptrV) ∧ don ++ chainI ss id gen frm (ss.length + 1) cur = chainP ss id gen frm ∧ (∀ k, cur = some k → k < ss.length ∧ 0 < (ss.getD k seg0).fs.length) ∧ (∀ k ∈ don, k < ss.length) ∧ don.length + roomI ss cur ≤ ss.length ∧ Below W0.heap.size W0 wr) (fun o _ _ => ss.length - lenV o)
  case atStart =>
    refine ⟨[], firstI (startC id gen frm) ss ss.length, rfl, World.ownsRow_nil _ _ _ _, rfl, fun k hk => ?_, fun k hk => absurd hk (by simp), by simpa using roomI_le _ _, HB1.out⟩
    obtain ⟨hk1, hc⟩ := firstI_cnt hk
    refine ⟨hk1, ?_⟩
    rw [getD_at hk1]
    unfold startC ownP at hc
    simp at hc
    omega
  case round =>
    obtain ⟨don, cur, rfl, hown, hch, hcur, hdon, hroom, hB⟩ := hrel
    have HO := Lib.hid hown
    have HBw := Lib.hid hB
    have HD := Lib.hid hdon
    obtain ⟨sl, slc, hv⟩ := row_slice3 hown
    subst hv
    clear hown hB hdon HB1
    cases cur with
    | none =>
      have HCH : Hid (don = chainP ss id gen frm) := Lib.hid (by rw [← hch]; simp [chainI])
      have hpn : ptrO ps none = .pointer none := rfl
      rw [hpn]
      clear hpn hch hcur
      go_wp2
      have hrow := HO.out
      obtain ⟨ao2, ac, he, hP⟩ := PtrsAt.of_row (show don.length = (pickN ps don).length by simp [pickN]) hrow
      simp at he
      obtain ⟨rfl, rfl⟩ := he
      refine bodyPost_ret (v := .slice sl don.length slc) (by simp [results, Tryz.results74, go_sem]) rfl ?_
      rw [← HCH.out]
      refine ⟨sl, slc, fun i => U i ∨ (Value.slice sl don.length slc).ownBlock = some i, rfl, ⟨⟨by simp [pickL, pickN], fun j hj => ?_⟩, fun j hj => ?_⟩, fun i hi => hi.elim .inl (fun hi => .inr (Nat.le_trans HB0.out.size (hrow.lt i hi).1)), HB0.out.trans (HBw.out.mono HB0.out.size)⟩
      · have hjd : j < don.length := by simpa [pickL] using hj
        have hk := HD.out don[j] (List.getElem_mem hjd)
        obtain ⟨hpl, hseg⟩ := H0.out.1
        obtain ⟨hkp, G2, hS2, hG2⟩ := hseg don[j] hk
        refine ⟨by simpa [pickN] using hjd, G2, ?_, fun i hi => .inl (hG2 i hi)⟩
        have e1 : (pickL ss don)[j] = ss[don[j]] := by simp [pickL, List.getD, hk]
        have e2 : (pickN ps don)[j]'(by simpa [pickN] using hjd) = ps[don[j]] := by simp [pickN, List.getD, hkp]
        rw [e1, e2]
        exact SegIs.stays.below hS2 HBw.out
      · obtain ⟨a, h1, h2, h3⟩ := hP j hj
        exact ⟨a, h1, h2, .inr h3⟩
    | some k =>
      obtain ⟨hk, hfl⟩ := hcur k rfl
      have hnx := roomI_next (id := id) (gen := gen) (frm := frm) hk hfl
      have hrl := roomI_le ss (some k)
      have hch2 : (don ++ [k]) ++ chainI ss id gen frm (ss.length + 1) (nextI ss id gen frm k) = chainP ss id gen frm := by
        rw [← hch]
        rw [show chainI ss id gen frm (ss.length + 1) (some k) = k :: chainI ss id gen frm ss.length (nextI ss id gen frm k) from rfl]
        rw [← chainI_fuel (fun j hj => ?_) (by omega)]
        · simp
        · obtain ⟨hj1, hc⟩ := firstI_cnt hj
          refine ⟨hj1, ?_⟩
          rw [getD_at hj1]
          unfold afterC ownP at hc
          simp at hc
          omega
      have hcur2 : ∀ j, nextI ss id gen frm k = some j → j < ss.length ∧ 0 < (ss.getD j seg0).fs.length := fun j hj => by
        obtain ⟨hj1, hc⟩ := firstI_cnt hj
        refine ⟨hj1, ?_⟩
        rw [getD_at hj1]
        unfold afterC ownP at hc
        simp at hc
        omega
      have HCH := Lib.hid hch2
      have HCUR := Lib.hid hcur2
      obtain ⟨hpl, hseg⟩ := H0.out.1
      obtain ⟨hkp, G2, hS2, _⟩ := hseg k hk
      rw [show ps[k] = ps.getD k 0 by simp [List.getD, hkp]] at hS2
      obtain ⟨b1, b2⟩ := HB.out ss[k] (List.getElem_mem hk)
      have KB := Lib.hid (fun (W' : World) (hb : Below W0.heap.size W0 W') => behind_any (SegIs.stays.below hS2 hb) b1 b2)
      obtain ⟨pk, hpk⟩ : ∃ pk, ps.getD k 0 = pk := ⟨_, rfl⟩
      rw [hpk] at KB
      have hpo : ptrO ps (some k) = ptrV pk := by rw [← hpk]; rfl
      rw [hpo]
      have HPK := Lib.hid hpk
      have hbe : (ss[k]).h.2.2.2 + (ss[k]).fs.length = behindP (ss.getD k seg0) := by rw [getD_at hk]; rfl
      rw [hbe] at KB
      obtain ⟨q, hq⟩ : ∃ q, behindP (ss.getD k seg0) = q := ⟨_, rfl⟩
      rw [hq] at KB
      have HQ := Lib.hid hq
      have hbs := build_ptr' pk
      have hszr := HBw.out.size
      obtain ⟨pn, hpn⟩ : ∃ pn, don.length = pn := ⟨_, rfl⟩
      rw [hpn] at HO hroom
      have HPN := Lib.hid hpn
      have hr1 := roomI_pos hk
      have hpn1 : pn ≤ 1000 := by omega
      rw [hpn]
      have HRM : Hid (pn + 1 + roomI ss (nextI ss id gen frm k) ≤ ss.length) := Lib.hid (by omega)
      have hms : ss.length - (pn + 1) < ss.length - pn := by omega
      have HMS := Lib.hid hms
      clear hch hch2 hcur hcur2 hnx hrl hpl hseg hS2 b1 b2 hpk hpo hbe hq hpn hr1 hroom hfl hms
      go_wp2_with (at_builtin; refine wpList_append_lies _ rfl (.tmp 19) (.tmp 21) 73 rfl W0.heap.size 83 i0 _ 1 8 Tryz.underlying73 hi0 hz0 hz1 hz2 rfl (by omega) (.slice sl pn slc) _ _ rfl (HO.out.alloc _) ⟨wr.heap.size, 0, none⟩ 1 1 [ptrV pk] rfl rfl (World.news_of_block (cs := #[ptrV pk]) (t := 83) (fr := (0, 0)) (heap_alloc_new wr _)) (by simp [Value.oneCell']) (by omega) (by unfold maxLen; omega) (by omega) (by simp; omega) _ rfl ?_; intro gg cap9 w9 hown9 hgrow hat hlt9; have HOWN := Lib.hid hown9; have HGROW := Lib.hid hgrow; have HAT := Lib.hid hat; clear hown9 hgrow hat)
      have hB9 : Below W0.heap.size W0 w9 := (HBw.out.alloc HBw.out.size _).trans ⟨HGROW.out.os, HGROW.out.tape, HGROW.out.output, by have := HBw.out.size; refine Nat.le_trans ?_ HGROW.out.size; (try simp); (try omega), fun j hj => HGROW.out.block j (by simp; omega) (fun e => by have := ownBlock_ge HO.out j e.symm; omega)⟩
      have HB9 := Lib.hid hB9
      clear hB9
      refine (KB.out w9 HB9.out).mono ?_
      rintro x w10 ⟨rfl, hb10⟩
      have HB10 := Lib.hid (HB9.out.trans (hb10.mono HB9.out.size))
      have HO10 := Lib.hid (ownsRow_below HOWN.out hb10)
      clear hb10 KB
      go_wp2_with fail
      have hat := alloc_at w10 (Obj.cells #[Value.int IntKind.i64 q] 3)
      have hcl : (w10.alloc (Obj.cells #[Value.int IntKind.i64 q] 3)).cell? ⟨w10.heap.size, 0, none⟩ = some (.int .i64 q) := by rw [cell_of hat]; rfl
      have HB11 := Lib.hid (Below.alloc HB10.out HB10.out.size (Obj.cells #[Value.int IntKind.i64 q] 3))
      have HO11 := Lib.hid (HO10.out.alloc (Obj.cells #[Value.int IntKind.i64 q] 3))
      obtain ⟨pe, hpe⟩ : ∃ pe, w10.heap.size = pe := ⟨_, rfl⟩
      rw [hpe] at hcl
      rw [hpe]
      clear hat
      revert HB11 HO11 hcl
      generalize w10.alloc (Obj.cells #[Value.int IntKind.i64 q] 3) = w11
      intro HB11 HO11 hcl
      have K2 := Lib.hid (first_any (ListIs.stays.below H0.out HB11.out) cap hm (afterC id gen frm q) 107 #[.pointer (some ⟨po, 0, none⟩), .pointer (some ⟨pe, 0, none⟩)] callAfter (fun W' hb j hj => by
        obtain ⟨hpl, hseg⟩ := H0.out.1
        obtain ⟨hjp, G1, hS, _⟩ := hseg j hj
        rw [show ps[j] = ps.getD j 0 by simp [List.getD, hjp]] at hS
        have hbb := HB11.out.trans (hb.mono HB11.out.size)
        obtain ⟨r1, r2, r3, r4⟩ := CELLS.out W' hbb
        obtain ⟨b1, b2⟩ := HB.out ss[j] (List.getElem_mem hj)
        exact after_any (SegIs.stays.below hS hbb) b1 b2 r1 r2 r3 r4 (box_keep hb hcl)))
      have hnn : firstI (afterC id gen frm q) ss ss.length = nextI ss id gen frm k := by unfold nextI; rw [HQ.out]
      rw [hnn] at K2
      clear hcl hnn hpe
      refine K2.out.mono ?_
      rintro x w12 ⟨rfl, hb12⟩
      have HB12 := Lib.hid (HB11.out.trans (hb12.mono HB11.out.size))
      have HO12 := Lib.hid (ownsRow_below HO11.out hb12)
      clear hb12 K2
      have HFIN : Hid (∃ (d : List Nat) (c : Option Nat), ptrO ps (nextI ss id gen frm k) = ptrO ps c ∧ w12.ownsRow W0.heap.size 83 1 (.slice (some ⟨gg, 0, none⟩) (pn + 1) cap9) d.length ((pickN ps d).map ptrV) ∧ d ++ chainI ss id gen frm (ss.length + 1) c = chainP ss id gen frm ∧ (∀ k, c = some k → k < ss.length ∧ 0 < (ss.getD k seg0).fs.length) ∧ (∀ k ∈ d, k < ss.length) ∧ d.length + roomI ss c ≤ ss.length ∧ Below W0.heap.size W0 w12) := Lib.hid (by
        refine ⟨don ++ [k], nextI ss id gen frm k, rfl, ?_, HCH.out, HCUR.out, fun j hj => ?_, by rw [List.length_append, HPN.out]; exact HRM.out, HB12.out⟩
        · have := HO12.out
          rw [List.length_append, HPN.out, show pickN ps (don ++ [k]) = pickN ps don ++ [pk] by simp only [pickN, List.map_append, List.map_singleton, HPK.out], List.map_append]
          exact this
        · rcases List.mem_append.1 hj with hj | hj
          · exact HD.out j hj
          · rw [List.mem_singleton.1 hj]; exact hk)
      go_wp2
      go_roundw
      case rel => exact HFIN.out
      case measure => simp only [lenV]; exact HMS.out
end Go.Proofs.YtoobiffhjjfpgaaGreat.Print
