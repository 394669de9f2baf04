/- weighlockref15: Chain; weighlocklaw15.twins. -/
import Derived.Test.YtoobiffhjjfpgaaRefC
namespace Go.Proofs.Ytoobiffhjjfpgaa.Print
open Go.RowKit
attribute [local go_sem] run_loadVar_scalar
set_option linter.unusedSimpArgs false

theorem span_start (id gen frm : Int) : spanC id gen frm 0 frm = startC id gen frm := by
  funext S
  unfold spanC startC
  rw [decide_eq_true (show (0 : Int) ≤ (S.h.2.2.2 : Int) by omega), Bool.and_true]
theorem span_after (id gen frm x : Int) : spanC id gen frm x x = afterC id gen frm x := by
  funext S
  unfold spanC afterC
  by_cases h : (S.h.2.2.2 : Int) = x
  · simp [h]
  · have : ((S.h.2.2.2 : Int) == x) = false := by simpa using h
    rw [this, Bool.and_assoc]
    have : (decide (x ≤ (S.h.2.2.2 : Int)) && decide ((S.h.2.2.2 : Int) ≤ x)) = false := by
      rw [Bool.and_eq_false_iff, decide_eq_false_iff_not, decide_eq_false_iff_not]
      omega
    rw [this]
theorem build_two (x y : Int) (W : World) : (Instr.build 68 #[(0, .int .i64 x), (1, .int .i64 y)]).run Try.prog W = .ok (.agg #[.int .i64 x, .int .i64 y]) W := by kernel_rfl
theorem build_int1 (x : Int) (W : World) : (Instr.buildSlice 35 1 #[(0, .int .i64 x)]).run Try.prog W = .ok (.slice (some ⟨W.heap.size, 0, none⟩) 1 1) (W.alloc (.cells #[.int .i64 x] 3)) := by kernel_rfl
set_option maxRecDepth 100000 in
set_option maxHeartbeats 1600000 in
attribute [-go_sem] Instr.build Instr.fill Instr.buildSlice in
theorem chain15_any {w : World} {ao : Option Addr} {ss : List SegL} (h : SegsAt w ao ss) (cap : Nat) (hm : ss.length ≤ 1000) (hb : ∀ S ∈ ss, S.h.2.2.2 ≤ 1099511627776 ∧ S.fs.length ≤ 1000) (id gen frm : Int) :
    Calls Try.prog 11 #[.slice ao ss.length cap, .int .i64 id, .int .u32 gen, .int .i64 frm] w fun x w' => ∃ v', x = .returned v' ∧ w'.ownsRow w.heap.size 3 1 v' (chainP ss id gen frm).length (oC (chainP ss id gen frm)) ∧ Below w.heap.size w w' := by
  obtain ⟨i0, hi0, hz0, hz1, hz2⟩ := info_parts info_int
  have H := Lib.hid h
  have HB := Lib.hid hb
  have hbt := build_two
  have hbi := build_int1
  have KF := Lib.hid (fun (W : World) (q0 q1 : Int) (hb : Below w.heap.size w W) => first15_any (H.out.below hb) cap hm HB.out id gen frm q0 q1)
  clear h hb
  go_enter Try.func11, Try.ntmps11
  go_wp2_with fail
  refine (KF.out _ _ _ (Below.refl _ _)).mono ?_
  rintro x w1 ⟨rfl, hb1⟩
  rw [span_start]
  have HB1 := Lib.hid hb1
  clear hb1
  go_wp2_with fail
  go_loopw [9, 10, 21] (fun o nx i wr => ∃ (don : List Nat) (cur : Option Nat), i = .int .i64 don.length ∧ nx = .int .i64 (atI cur) ∧ wr.ownsRow w.heap.size 3 1 o don.length (oC don) ∧ don ++ chainI ss id gen frm (ss.length + 1) cur = chainP ss id gen frm ∧ (∀ k, cur = some k → k < ss.length ∧ 0 < (ss.getD k seg0).fs.length) ∧ don.length + roomI ss cur ≤ ss.length ∧ Below w.heap.size w wr) (fun o _ _ _ => ss.length - lenV o)
  case atStart =>
    refine ⟨[], firstI (startC id gen frm) ss ss.length, rfl, rfl, World.ownsRow_nil _ _ _ _, rfl, fun k hk => ?_, by simpa using roomI_le _ _, HB1.out⟩
    obtain ⟨hk1, hc⟩ := firstI_cnt hk
    refine ⟨hk1, ?_⟩
    rw [getD_at hk1]
    unfold startC ownP at hc
    simp at hc
    omega
  case round =>
    obtain ⟨don, cur, rfl, rfl, hown, hch, hcur, hroom, hB⟩ := hrel
    have HO := Lib.hid hown
    have HBw := Lib.hid hB
    obtain ⟨sl, slc, hv⟩ := row_slice3 hown
    subst hv
    clear hown hB HB1
    cases cur with
    | none =>
      have HCH : Hid (don = chainP ss id gen frm) := Lib.hid (by rw [← hch]; simp [chainI])
      have hatn : atI none = -1 := rfl
      rw [hatn]
      clear hatn hch hcur
      by_cases hdl : don.length < ss.length
      · go_wp2
        go_ret
        exact ⟨_, rfl, by rw [← HCH.out]; exact HO.out, HBw.out⟩
      · go_wp2
        go_ret
        exact ⟨_, rfl, by rw [← HCH.out]; exact HO.out, HBw.out⟩
    | some k =>
      obtain ⟨hk, hfl⟩ := hcur k rfl
      have hnx := roomI_next (id := id) (gen := gen) (frm := frm) hk hfl
      have hrl := roomI_le ss (some k)
      have hch2 : (don ++ [k]) ++ chainI ss id gen frm (ss.length + 1) (nextI ss id gen frm k) = chainP ss id gen frm := by
        rw [← hch]
        rw [show chainI ss id gen frm (ss.length + 1) (some k) = k :: chainI ss id gen frm ss.length (nextI ss id gen frm k) from rfl]
        rw [← chainI_fuel (fun j hj => ?_) (by omega)]
        · simp
        · obtain ⟨hj1, hc⟩ := firstI_cnt hj
          refine ⟨hj1, ?_⟩
          rw [getD_at hj1]
          unfold afterC ownP at hc
          simp at hc
          omega
      have hcur2 : ∀ j, nextI ss id gen frm k = some j → j < ss.length ∧ 0 < (ss.getD j seg0).fs.length := fun j hj => by
        obtain ⟨hj1, hc⟩ := firstI_cnt hj
        refine ⟨hj1, ?_⟩
        rw [getD_at hj1]
        unfold afterC ownP at hc
        simp at hc
        omega
      have HCH := Lib.hid hch2
      have HCUR := Lib.hid hcur2
      have hr1 := roomI_pos hk
      obtain ⟨pn, hpn⟩ : ∃ pn, don.length = pn := ⟨_, rfl⟩
      rw [hpn] at HO hroom
      have HPN := Lib.hid hpn
      rw [hpn]
      have hpl : pn < ss.length := by omega
      have hpl2 : (pn : Int) < (ss.length : Int) := by omega
      have HRM : Hid (pn + 1 + roomI ss (nextI ss id gen frm k) ≤ ss.length) := Lib.hid (by omega)
      have HMS : Hid (ss.length - (pn + 1) < ss.length - pn) := Lib.hid (by omega)
      have hatk : atI (some k) = (k : Int) := rfl
      rw [hatk]
      have hk0 : decide ((k : Int) < 0) = false := decide_eq_false (by omega)
      have hszr := HBw.out.size
      have hpn1 : pn ≤ 1000 := by omega
      clear hch hch2 hcur hcur2 hnx hrl hatk hpn hr1 hroom hfl
      go_wp2_with (at_builtin; refine wpList_append_lies _ rfl (.tmp 25) (.tmp 27) 35 rfl w.heap.size 3 i0 _ 1 8 Try.underlying35 hi0 hz0 hz1 hz2 rfl (by omega) (.slice sl pn slc) _ _ rfl (HO.out.alloc _) ⟨wr.heap.size, 0, none⟩ 1 1 [.int .i64 k] rfl rfl (World.news_of_block (cs := #[.int .i64 k]) (t := 3) (fr := (0, 0)) (heap_alloc_new wr _)) (by simp [Value.oneCell']) (by omega) (by unfold maxLen; omega) (by omega) (by simp; omega) _ rfl ?_; intro gg cap9 w9 hown9 hgrow hat hlt9; have HOWN := Lib.hid hown9; have HGROW := Lib.hid hgrow; clear hown9 hgrow hat)
      have hB9 : Below w.heap.size w w9 := (HBw.out.alloc HBw.out.size _).trans ⟨HGROW.out.os, HGROW.out.tape, HGROW.out.output, by have := HBw.out.size; refine Nat.le_trans ?_ HGROW.out.size; (try simp); (try omega), fun j hj => HGROW.out.block j (by have := HBw.out.size; simp; omega) (fun e => by have := ownBlock_ge HO.out j e.symm; omega)⟩
      have HB9 := Lib.hid hB9
      obtain ⟨a, ha, hc⟩ := (H.out.below hB9) k hk
      have HAA := Lib.hid ha
      subst ha
      obtain ⟨b1, b2⟩ := HB.out ss[k] (List.getElem_mem hk)
      have x2 := hc 2 _ rfl
      have x3 := hc 3 _ rfl
      obtain ⟨bs, hbs⟩ : ∃ bs, (ss[k]).h.2.2.2 = bs := ⟨_, rfl⟩
      obtain ⟨ln, hln⟩ : ∃ ln, (ss[k]).fs.length = ln := ⟨_, rfl⟩
      rw [hbs] at x2 b1
      rw [hln] at x3 b2
      have hw : IntKind.i64.wrap ((bs : Int) + (ln : Int)) = ((bs + ln : Nat) : Int) := by rw [IntKind.wrap_i64]; omega
      have hbe : bs + ln = behindP (ss.getD k seg0) := by rw [getD_at hk, ← hbs, ← hln]; rfl
      obtain ⟨q, hq⟩ : ∃ q, bs + ln = q := ⟨_, rfl⟩
      rw [hq] at hw hbe
      have HQ := Lib.hid hbe
      have hkk : (k : Int) < (ss.length : Int) := by omega
      clear hB9 hc hbe hq hbs hln b1 b2
      have y2 : w9.cell? ⟨(a.add (k * 5)).block, (a.add (k * 5)).off + 2, none⟩ = some (.int .i64 bs) := by rw [show (⟨(a.add (k * 5)).block, (a.add (k * 5)).off + 2, none⟩ : Addr) = (a.add (k * 5)).add 2 from rfl, Go.Deep.add_add]; exact x2
      have y3 : w9.cell? ⟨(a.add (k * 5)).block, (a.add (k * 5)).off + 3, none⟩ = some (.int .i64 ln) := by rw [show (⟨(a.add (k * 5)).block, (a.add (k * 5)).off + 3, none⟩ : Addr) = (a.add (k * 5)).add 3 from rfl, Go.Deep.add_add]; exact x3
      clear x2 x3
      go_wp2_with fail
      go_quiet (fail)
      have HB10 := Lib.hid (below_drewN HB9.out nq)
      have HO10 := Lib.hid (ownsRow_below HOWN.out (below_drewN (Below.refl w9.heap.size w9) nq))
      clear y2 y3
      go_wp2_with fail
      refine (KF.out _ _ _ HB10.out).mono ?_
      rintro x w12 ⟨rfl, hb12⟩
      rw [span_after, HQ.out]
      have HB12 := Lib.hid (HB10.out.trans (hb12.mono HB10.out.size))
      have HO12 := Lib.hid (ownsRow_below HO10.out hb12)
      have HFIN : Hid (∃ (d : List Nat) (c : Option Nat), (pn : Int) + 1 = (d.length : Int) ∧ atI (nextI ss id gen frm k) = atI c ∧ w12.ownsRow w.heap.size 3 1 (.slice (some ⟨gg, 0, none⟩) (pn + 1) cap9) d.length (oC d) ∧ d ++ chainI ss id gen frm (ss.length + 1) c = chainP ss id gen frm ∧ (∀ k, c = some k → k < ss.length ∧ 0 < (ss.getD k seg0).fs.length) ∧ d.length + roomI ss c ≤ ss.length ∧ Below w.heap.size w w12) := Lib.hid (by
        refine ⟨don ++ [k], nextI ss id gen frm k, by rw [List.length_append, HPN.out]; simp, rfl, ?_, HCH.out, HCUR.out, by rw [List.length_append, HPN.out]; exact HRM.out, HB12.out⟩
        have := HO12.out
        rw [List.length_append, HPN.out, oC_snoc]
        exact this)
      have HNX : Hid (firstI (afterC id gen frm (behindP (ss.getD k seg0) : Nat)) ss ss.length = nextI ss id gen frm k) := Lib.hid rfl
      rw [HNX.out]
      clear hb12
      go_wp2
      go_roundw
      case rel =>
        obtain ⟨d, c, h1, h2, h3, h4, h5, h6, h7⟩ := HFIN.out
        exact ⟨d, c, by rw [h1], by rw [h2], h3, h4, h5, h6, h7⟩
      case measure => simp only [lenV]; exact HMS.out
set_option maxRecDepth 100000 in
set_option maxHeartbeats 1600000 in
attribute [-go_sem] loadVar in
/-- twins tells something. -/
theorem twins_any {w : World} {ao : Option Addr} {ss : List SegL} (h : SegsAt w ao ss) (cap : Nat) (hcap : ss.length ≤ cap) (hm : ss.length ≤ 1000) :
    Calls Try.prog 12 #[.slice ao ss.length cap] w fun x w' => (∃ b, x = .returned (.bool b)) ∧ Below w.heap.size w w' := by
  have H := Lib.hid h
  clear h
  go_enter Try.func12, Try.ntmps12
  go_wp2_with fail
  go_loopw [9] (fun i wr => ∃ j : Nat, j ≤ ss.length ∧ i = .int .i64 j ∧ Below w.heap.size w wr) (fun i _ => ss.length - (intOf i).toNat)
  case atStart => exact ⟨0, Nat.zero_le _, rfl, Below.refl _ _⟩
  case round =>
    obtain ⟨j, hj, rfl, hB⟩ := hrel
    have HBw := Lib.hid hB
    clear hB
    by_cases hlt : j < ss.length
    · obtain ⟨a, ha, hld⟩ := (H.out.below HBw.out).load j hlt
      obtain ⟨S, hS⟩ : ∃ S, ss[j] = S := ⟨_, rfl⟩
      rw [hS] at hld
      have HAA := Lib.hid ha
      subst ha
      obtain ⟨n0, ⟨a0, a1, a2, a3⟩, fs0, e0⟩ := S
      simp only [segA] at hld
      obtain ⟨l, hle⟩ : ∃ l, fs0.length = l := ⟨_, rfl⟩
      rw [hle] at hld
      have hjc : (j : Int) ≤ (cap : Int) := by omega
      have h0j : (0 : Int) ≤ (j : Int) := by omega
      clear hS hle
      go_wp2_with fail
      have hat := alloc_at wr (Obj.cells #[Value.int IntKind.i64 a0, Value.int IntKind.u32 a1, Value.int IntKind.i64 a3, Value.int IntKind.i64 l, Value.int IntKind.u32 a2] 37)
      have hB1 := Below.alloc HBw.out HBw.out.size (Obj.cells #[Value.int IntKind.i64 a0, Value.int IntKind.u32 a1, Value.int IntKind.i64 a3, Value.int IntKind.i64 l, Value.int IntKind.u32 a2] 37)
      obtain ⟨g, hgn⟩ : ∃ g, wr.heap.size = g := ⟨_, rfl⟩
      rw [hgn] at hat
      rw [hgn]
      clear hld
      revert hB1 hat
      generalize wr.alloc (Obj.cells #[Value.int IntKind.i64 a0, Value.int IntKind.u32 a1, Value.int IntKind.i64 a3, Value.int IntKind.i64 l, Value.int IntKind.u32 a2] 37) = w1
      intro hB1 hat
      have HB1 := Lib.hid hB1
      have HAT := Lib.hid hat
      clear hB1 hat hgn
      go_loopw [18] (fun i wr => ∃ k : Nat, k ≤ j ∧ i = .int .i64 k ∧ Below w1.heap.size w1 wr) (fun i _ => j - (intOf i).toNat)
      case atStart => exact ⟨0, Nat.zero_le _, rfl, Below.refl _ _⟩
      case round =>
        obtain ⟨k, hk, rfl, hB2⟩ := hrel
        have HB2 := Lib.hid hB2
        by_cases hkj : k < j
        · have hat2 := later_of HAT.out hB2
          obtain ⟨a', ha', hld2⟩ := ((H.out.below HB1.out).below hB2).load k (by omega)
          cases ha'
          obtain ⟨T, hT⟩ : ∃ T, ss[k]'(by omega) = T := ⟨_, rfl⟩
          rw [hT] at hld2
          obtain ⟨n1, ⟨b0, b1, b2, b3⟩, fs1, e1⟩ := T
          simp only [segA] at hld2
          obtain ⟨l1, hle1⟩ : ∃ l1, fs1.length = l1 := ⟨_, rfl⟩
          rw [hle1] at hld2
          have hat3 := alloc_old hat2 (Obj.cells #[Value.int IntKind.i64 b0, Value.int IntKind.u32 b1, Value.int IntKind.i64 b3, Value.int IntKind.i64 l1, Value.int IntKind.u32 b2] 37)
          have hB3 := Below.alloc hB2 hB2.size (Obj.cells #[Value.int IntKind.i64 b0, Value.int IntKind.u32 b1, Value.int IntKind.i64 b3, Value.int IntKind.i64 l1, Value.int IntKind.u32 b2] 37)
          have HB3 := Lib.hid hB3
          have x0 : (wr.alloc (Obj.cells #[Value.int IntKind.i64 b0, Value.int IntKind.u32 b1, Value.int IntKind.i64 b3, Value.int IntKind.i64 l1, Value.int IntKind.u32 b2] 37)).cell? ⟨g, 0, none⟩ = some (.int .i64 a0) := by rw [cell_of hat3]; rfl
          have x1 : (wr.alloc (Obj.cells #[Value.int IntKind.i64 b0, Value.int IntKind.u32 b1, Value.int IntKind.i64 b3, Value.int IntKind.i64 l1, Value.int IntKind.u32 b2] 37)).cell? ⟨g, 1, none⟩ = some (.int .u32 a1) := by rw [cell_of hat3]; rfl
          have x2 : (wr.alloc (Obj.cells #[Value.int IntKind.i64 b0, Value.int IntKind.u32 b1, Value.int IntKind.i64 b3, Value.int IntKind.i64 l1, Value.int IntKind.u32 b2] 37)).cell? ⟨g, 2, none⟩ = some (.int .i64 a3) := by rw [cell_of hat3]; rfl
          have x4 : (wr.alloc (Obj.cells #[Value.int IntKind.i64 b0, Value.int IntKind.u32 b1, Value.int IntKind.i64 b3, Value.int IntKind.i64 l1, Value.int IntKind.u32 b2] 37)).cell? ⟨g, 4, none⟩ = some (.int .u32 a2) := by rw [cell_of hat3]; rfl
          clear hT hle1 hat2 hat3 hB2 hB3
          by_cases m0 : a0 = b0
          · subst m0
            by_cases m1 : a1 = b1
            · subst m1
              by_cases m3 : a3 = b3
              · subst m3
                by_cases m2 : a2 = b2
                · subst m2
                  go_wp2
                  go_ret
                  exact ⟨⟨_, rfl⟩, HB1.out.trans (HB3.out.mono HB1.out.size)⟩
                · have m' : ((a2 : Int) == (b2 : Int)) = false := by simp; omega
                  go_wp2
                  go_roundw
                  case rel => exact ⟨k + 1, hkj, by simp, HB3.out⟩
                  case measure => simp [intOf]; omega
              · have m' : ((a3 : Int) == (b3 : Int)) = false := by simp; omega
                go_wp2
                go_roundw
                case rel => exact ⟨k + 1, hkj, by simp, HB3.out⟩
                case measure => simp [intOf]; omega
            · have m' : ((a1 : Int) == (b1 : Int)) = false := by simp; omega
              go_wp2
              go_roundw
              case rel => exact ⟨k + 1, hkj, by simp, HB3.out⟩
              case measure => simp [intOf]; omega
          · have m' : ((a0 : Int) == (b0 : Int)) = false := by simp; omega
            go_wp2
            go_roundw
            case rel => exact ⟨k + 1, hkj, by simp, HB3.out⟩
            case measure => simp [intOf]; omega
        · obtain rfl : k = j := by omega
          have HFIN := Lib.hid (HB1.out.trans (HB2.out.mono HB1.out.size))
          clear hB2
          go_wp2
          go_roundw
          case rel => exact ⟨k + 1, hlt, by simp, HFIN.out⟩
          case measure => simp [intOf]; omega
    · obtain rfl : j = ss.length := by omega
      go_wp2
      go_ret
      exact ⟨⟨_, rfl⟩, HBw.out⟩
end Go.Proofs.Ytoobiffhjjfpgaa.Print
