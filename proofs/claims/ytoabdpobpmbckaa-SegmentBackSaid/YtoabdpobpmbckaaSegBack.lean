/- SegmentBack, the walk. -/
import Derived.Test.YtoabdpobpmbckaaStep
namespace Go.Proofs.Ytoabdpobpmbckaa.Print
open Go.RowKit
attribute [local go_sem] run_loadVar_scalar

set_option maxRecDepth 100000 in
set_option maxHeartbeats 1600000 in
/-- What is not gone through here: put. -/
theorem back_put (a b c d : Int) {w : World} {ao : Option Addr} {l : List Fr} (cap : Nat) (hA : FrsAt w ao l) (hl : l.length ≤ 9223372036854775807) (hsz : ∀ x ∈ l, x.2.size ≤ 9223372036854775807) (hno : lgB l = true ∨ mayB a d = false) :
    Calls Try.prog 5 #[hdV a b c d, .slice ao l.length cap] w fun x w' => x = .returned (.bool true) ∧ Below w.heap.size w w' := by
  have hg1 := alloc_at w (.cells #[.int .i64 a, .int .u32 b, .int .u32 c, .int .i64 d] 41)
  have hB : Below w.heap.size w (w.alloc (.cells #[.int .i64 a, .int .u32 b, .int .u32 c, .int .i64 d] 41)) := (Below.refl _ _).alloc (Nat.le_refl _) _
  have KL := Lib.hid (large_any (hA.below hB) cap hl hsz)
  clear hA hl hsz
  go_enter Try.func5, Try.ntmps5
  go_wp2_with fail
  refine KL.out.mono ?_
  rintro x w1 ⟨rfl, hb1⟩
  have q1 := later_of hg1 hb1
  have HB1 := Lib.hid (hB.trans (hb1.mono hB.size))
  clear hb1 hB hg1
  obtain ⟨c0, c1, c2, c3, _⟩ := four_of q1
  by_cases hlg : lgB l = true
  · rw [hlg]
    go_wp2_with fail
    refine (put_any _).mono ?_
    rintro x w2 ⟨rfl, hb2⟩
    go_wp2
    go_ret
    exact ⟨rfl, HB1.out.trans (hb2.mono HB1.out.size)⟩
  · have hm : mayB a d = false := hno.resolve_left hlg
    have hlf : lgB l = false := by simpa using hlg
    rw [hlf]
    clear hno hlg hlf
    go_wp2_with fail
    refine (lref_any a b c d _).mono ?_
    rintro x w2 ⟨rfl, hb2⟩
    have HB2 := Lib.hid (HB1.out.trans (hb2.mono HB1.out.size))
    clear hb2
    go_wp2_with fail
    refine (may_any a b c d _).mono ?_
    rintro x w3 ⟨rfl, hb3⟩
    have HB3 := Lib.hid (HB2.out.trans (hb3.mono HB2.out.size))
    clear hb3
    rw [hm]
    go_wp2_with fail
    refine (put_any _).mono ?_
    rintro x w4 ⟨rfl, hb4⟩
    go_wp2
    go_ret
    exact ⟨rfl, HB3.out.trans (hb4.mono HB3.out.size)⟩

theorem hold_ld {P : Program} {T : TypeId} {q : Addr} {v : Value} {wB w1 w' : World} (KH : ∀ W, Below wB.heap.size wB W → (loadVar T q).run P W = .ok v W) (h : (loadVar T q).run P w1 = .ok v w1 ∧ Below wB.heap.size wB w1) (hb : Below w1.heap.size w1 w') :
    (loadVar T q).run P w' = .ok v w' ∧ Below wB.heap.size wB w' := ⟨KH _ (h.2.trans (hb.mono h.2.size)), h.2.trans (hb.mono h.2.size)⟩
theorem hold_ld0 {P : Program} {T : TypeId} {q : Addr} {v : Value} {wB : World} (KH : ∀ W, Below wB.heap.size wB W → (loadVar T q).run P W = .ok v W) : (loadVar T q).run P wB.drew = .ok v wB.drew ∧ Below wB.heap.size wB wB.drew := ⟨KH _ (Below.refl _ _).drew, (Below.refl _ _).drew⟩
set_option maxRecDepth 100000 in
set_option maxHeartbeats 6400000 in
attribute [-go_sem] loadVar in
theorem back_walk (h : H4) (hf : HFits h) (hmay : mayB h.1 h.2.2.2 = true) {w : World} {ao : Option Addr} {l : List Fr} (cap : Nat) (hA : FrsAt w ao l) (hlg : lgB l = false) :
    Calls Try.prog 5 #[hdV h.1 h.2.1 h.2.2.1 h.2.2.2, .slice ao l.length cap] w fun x w' => x = .returned (.bool true) ∧ Below w.heap.size w w' := by
  obtain ⟨hl40, hl900⟩ := lgB_false hlg
  have hlA : ∀ a, ao = some a → 0 < l.length → a.block < w.heap.size := by
    rintro a rfl h0
    obtain ⟨a', ha, hc⟩ := hA 0 h0
    cases ha
    have := World.block_lt_of_cell? w _ (hc 0 _ rfl)
    rwa [addr_block] at this
  have hg1 := alloc_at w (.cells #[.int .i64 h.1, .int .u32 h.2.1, .int .u32 h.2.2.1, .int .i64 h.2.2.2] 41)
  have hB : Below w.heap.size w (w.alloc (.cells #[.int .i64 h.1, .int .u32 h.2.1, .int .u32 h.2.2.1, .int .i64 h.2.2.2] 41)) := (Below.refl _ _).alloc (Nat.le_refl _) _
  have hlh : ∀ W : World, W.heap[w.heap.size]? = some (.cells #[.int .i64 h.1, .int .u32 h.2.1, .int .u32 h.2.2.1, .int .i64 h.2.2.2] 41) → (loadVar 41 ⟨w.heap.size, 0, none⟩).run Try.prog W = .ok (hdV h.1 h.2.1 h.2.2.1 h.2.2.2) W := fun W hW =>
    run_loadVar_row W w.heap.size 41 41 #[.int .i64 h.1, .int .u32 h.2.1, .int .u32 h.2.2.1, .int .i64 h.2.2.2] (0, 0) _ hW Try.underlying41 rfl (by kernel_rfl)
  have HLH := Lib.hid hlh
  have KL := Lib.hid (large_any (hA.below hB) cap (by omega) (fun x hx => by have := hl900 x hx; omega))
  have HA := Lib.hid hA
  have HF := Lib.hid hf
  clear hA hlh hf
  go_enter Try.func5, Try.ntmps5
  go_wp2_with fail
  refine KL.out.mono ?_
  rintro x w1 ⟨rfl, hb1⟩
  have q1 := later_of hg1 hb1
  have HB1 := Lib.hid (hB.trans (hb1.mono hB.size))
  have hld1 := HLH.out w1 q1
  clear hb1 hB hg1
  rw [hlg]
  go_wp2_with fail
  refine (lref_any _ _ _ _ _).mono ?_
  rintro x w2 ⟨rfl, hb2⟩
  have HB2 := Lib.hid (HB1.out.trans (hb2.mono HB1.out.size))
  have q2 := later_of q1 hb2
  clear hb2 q1 HB1 hld1
  go_wp2_with fail
  refine (may_any _ _ _ _ _).mono ?_
  rintro x w3 ⟨rfl, hb3⟩
  have HB3 := Lib.hid (HB2.out.trans (hb3.mono HB2.out.size))
  have q3 := later_of q2 hb3
  clear hb3 q2 HB2
  rw [hmay]
  go_wp2_with fail
  refine (fresh13_any _).mono ?_
  rintro x w4 ⟨v, F4, rfl, V4, hb4, hF4⟩
  have HB4 := Lib.hid (HB3.out.trans (hb4.mono HB3.out.size))
  have q4 := later_of q3 hb4
  have hF4' : ∀ i, F4 i → w.heap.size + 1 ≤ i := fun i hi => by have := hF4 i hi; have := lt_of q3; omega
  have hld4 := HLH.out w4 q4
  have KC := Lib.hid (put_create V4 1 h HF.out (by omega) 1 rfl)
  have Q4 := Lib.hid q4
  clear hb4 q3 HB3 V4 hF4 q4
  go_wp2_with fail
  refine KC.out.mono ?_
  rintro x w5 ⟨s, W5, F5, G5, rfl, P5, U5, hFr5, hG5⟩
  have hF5 : ∀ i, F5 i → w.heap.size + 1 ≤ i := fun i hi => by
    rcases hFr5 i hi with hh | hh
    · exact hF4' i hh
    · have := HB4.out.size; have := lt_of Q4.out; omega
  have hG5' : ∀ i, G5 i → w.heap.size + 1 ≤ i := fun i hi => by have := hG5 i hi; have := lt_of Q4.out; omega
  have hB5 : Below w.heap.size w w5 := HB4.out.trans (U5.below HB4.out.size (fun i hi hc => by have := hF4' i hc; omega))
  have Q5 := Lib.hid (U5.at_ Q4.out (fun hc => by have := hF4' _ hc; omega))
  have HP5 := Lib.hid P5
  have HB5 := Lib.hid hB5
  clear P5 U5 hFr5 hG5 hB5 hF4' hld4 KC HB4 Q4
  go_wp2
  go_loopw [33] (fun i wr => ∃ (j : Nat) (fs : List Fr) (e : Nat) (W : List (Nat × List UInt8)) (F G : Foot), j ≤ l.length ∧ i = .int .i64 j ∧ PutAt v s 1 h fs e W wr F G ∧ (∀ i, F i → w.heap.size + 1 ≤ i) ∧ (∀ i, G i → w.heap.size + 1 ≤ i) ∧ Below w.heap.size w wr ∧ wr.heap[w.heap.size]? = some (.cells #[.int .i64 h.1, .int .u32 h.2.1, .int .u32 h.2.2.1, .int .i64 h.2.2.2] 41)) (fun i _ => l.length - (intOf i).toNat)
  case atStart => exact ⟨0, [], 1, W5, F5, G5, Nat.zero_le _, rfl, HP5.out, hF5, hG5', HB5.out, Q5.out⟩
  case round =>
    obtain ⟨j, fs, e, W, F, G, hj, rfl, P, hF, hG, hB, q⟩ := hrel
    have HP := Lib.hid P
    have HB := Lib.hid hB
    have Q := Lib.hid q
    clear P hB q
    by_cases hlt : j < l.length
    · obtain ⟨a, rfl, hld⟩ := (HA.out.below HB.out).load j hlt
      obtain ⟨x, hxx⟩ : ∃ x, l[j] = x := ⟨_, rfl⟩
      rw [hxx] at hld
      clear hxx
      obtain ⟨k, p⟩ := x
      have hBz : Below wr.heap.size wr (wr.alloc (.cells #[.int .i64 k, .string p] 55)) := (Below.refl _ _).alloc (Nat.le_refl _) _
      have KA := Lib.hid (put_step (PutAt.below HP.out hBz) HF.out (by omega) k p)
      have hld2 := load_fr (w := wr.alloc (.cells #[.int .i64 k, .string p] 55)) (g := wr.heap.size) (alloc_at wr _)
      have HBz := Lib.hid hBz
      have hwz : w.heap.size + 1 ≤ wr.heap.size := by have := lt_of Q.out; omega
      clear hBz
      go_wp2_with fail
      refine KA.out.mono ?_
      rintro x w6 ⟨r, fs', e', W', F', G', rfl, P6, U6, hFr6, hGr6⟩
      have hB6 : Below w.heap.size w w6 := (HB.out.trans (HBz.out.mono HB.out.size)).trans (U6.below (by have := HBz.out.size; omega) (fun i hi hc => by
        rcases hc with hc | hc
        · have := hF i hc; omega
        · have := hG i hc; omega))
      have q6 := U6.at_ (later_of Q.out HBz.out) (fun hc => by
        rcases hc with hc | hc
        · have := hF _ hc; omega
        · have := hG _ hc; omega)
      have HP6 := Lib.hid P6
      have HB6 := Lib.hid hB6
      have Q6 := Lib.hid q6
      have HFG := Lib.hid (And.intro (show ∀ i, F' i → w.heap.size + 1 ≤ i from fun i hi => by
        rcases hFr6 i hi with hh | hh
        · exact hF i hh
        · have := HBz.out.size; omega) (show ∀ i, G' i → w.heap.size + 1 ≤ i from fun i hi => by
        rcases hGr6 i hi with hh | hh
        · exact hG i hh
        · have := HBz.out.size; omega))
      clear P6 U6 hFr6 hGr6 hB6 q6
      go_wp2
      go_roundw
      case rel => exact ⟨j + 1, fs', e', W', F', G', hlt, by simp, HP6.out, HFG.out.1, HFG.out.2, HB6.out, Q6.out⟩
      case measure => simp [intOf]; omega
    · obtain rfl : j = l.length := by omega
      have KLd := Lib.hid (put_load HP.out HF.out (by omega) 1 rfl)
      go_wp2_with fail
      refine KLd.out.mono ?_
      rintro x w7 ⟨t, T, rfl, T7, hb7⟩
      have HB7 := Lib.hid (HB.out.trans (hb7.mono HB.out.size))
      have HP7 := Lib.hid (PutAt.below HP.out hb7)
      have HT7 := Lib.hid T7
      have Q7 := Lib.hid (later_of Q.out hb7)
      clear hb7 T7 KLd HB HP Q
      have hfl : fs.length ≤ 16 := by have := HP7.out.2.2.2.1.runs.le; have := HP7.out.2.2.2.1.e16; omega
      have hfm : fs.length ≤ 1000000 := by omega
      have KH := Lib.hid (fun (W8 : World) (hb : Below w7.heap.size w7 W8) => HLH.out W8 (later_of Q7.out hb))
      have KFs := Lib.hid (fun (w8 : World) (hS : (loadVar 41 ⟨w.heap.size, 0, none⟩).run Try.prog w8 = .ok (hdV h.1 h.2.1 h.2.2.1 h.2.2.2) w8 ∧ Below w7.heap.size w7 w8) => (frames_any (SegIs.stays.below HP7.out.2.1 hS.2) (by omega)).mono (fun x w9 ⟨v', hx, hrow, hb⟩ => by
        obtain ⟨bo, bc, rfl, hfr⟩ := FrsAt.of_row hrow
        exact (⟨bo, bc, hx, hfr, hb⟩ : ∃ (bo : Option Addr) (bc : Nat), x = .returned (.slice bo fs.length bc) ∧ FrsAt w9 bo fs ∧ Below w8.heap.size w8 w9)))
      have KFt := Lib.hid (fun (w8 : World) (hS : (loadVar 41 ⟨w.heap.size, 0, none⟩).run Try.prog w8 = .ok (hdV h.1 h.2.1 h.2.2.1 h.2.2.2) w8 ∧ Below w7.heap.size w7 w8) => (frames_any (SegIs.stays.below HT7.out hS.2) (by omega)).mono (fun x w9 ⟨v', hx, hrow, hb⟩ => by
        obtain ⟨bo, bc, rfl, hfr⟩ := FrsAt.of_row hrow
        exact (⟨bo, bc, hx, hfr, hb⟩ : ∃ (bo : Option Addr) (bc : Nat), x = .returned (.slice bo fs.length bc) ∧ FrsAt w9 bo fs ∧ Below w8.heap.size w8 w9)))
      have KHd := Lib.hid (fun (w8 : World) (hS : (loadVar 41 ⟨w.heap.size, 0, none⟩).run Try.prog w8 = .ok (hdV h.1 h.2.1 h.2.2.1 h.2.2.2) w8 ∧ Below w7.heap.size w7 w8) => header_any (SegIs.stays.below HT7.out hS.2))
      have KEs := Lib.hid (fun (w8 : World) (hS : (loadVar 41 ⟨w.heap.size, 0, none⟩).run Try.prog w8 = .ok (hdV h.1 h.2.1 h.2.2.1 h.2.2.2) w8 ∧ Below w7.heap.size w7 w8) => end_any (SegIs.stays.below HP7.out.2.1 hS.2))
      have KEt := Lib.hid (fun (w8 : World) (hS : (loadVar 41 ⟨w.heap.size, 0, none⟩).run Try.prog w8 = .ok (hdV h.1 h.2.1 h.2.2.1 h.2.2.2) w8 ∧ Below w7.heap.size w7 w8) => end_any (SegIs.stays.below HT7.out hS.2))
      go_wp2_with fail
      go_cut [72] (fun c wx => c = .bool false ∧ Below w7.heap.size w7 wx)
      case first =>
        (go_region_held3 (fun w' => (loadVar 41 ⟨w.heap.size, 0, none⟩).run Try.prog w' = .ok (hdV h.1 h.2.1 h.2.2.1 h.2.2.2) w' ∧ Below w7.heap.size w7 w')
          (first | assumption | exact hold_ld0 KH.out | exact hold_ld KH.out (by assumption) hb)
          (first
          | (go_at_call 37; (first | (with_reducible refine (KFs.out _ (by assumption)).mono ?_) | (with_reducible refine (KFt.out _ (by assumption)).mono ?_)); rintro x wf ⟨fo, fc, rfl, rf, hb⟩; (try (have rg := FrsAt.below re hb)); have re := rf)
          | (go_at_call 36; (first | (with_reducible refine (same_any rg re _ _ hfm).mono ?_) | (with_reducible refine (same_any re rg _ _ hfm).mono ?_)); rintro x wm ⟨rfl, hb⟩)
          | (go_at_call 35; (with_reducible refine (KHd.out _ (by assumption)).mono ?_); rintro x wh ⟨rfl, hb⟩)
          | (go_at_call 38; (first | (with_reducible refine (KEs.out _ (by assumption)).mono ?_) | (with_reducible refine (KEt.out _ (by assumption)).mono ?_)); rintro x we ⟨rfl, rfl⟩)))
        all_goals
          go_wp2_with fail
          go_meet
          exact ⟨rfl, (‹_ ∧ Below _ _ _›).2⟩
      case rest =>
        obtain ⟨rfl, hbc⟩ := hcut
        have P8 := PutAt.below HP7.out hbc
        have HB8 := Lib.hid (HB7.out.trans (hbc.mono HB7.out.size))
        have hw8 := P8.2.2.2.2
        have he8 := P8.2.2.2.1.e16
        have KW := Lib.hid (wipe_ok P8.1 (by decide) 1 (by omega) (by omega) (by omega) 1 rfl)
        clear hbc P8
        go_wp2_with fail
        refine KW.out.mono ?_
        rintro x w9 ⟨rfl, F9, V9, U9, hF9⟩
        have hB9 : Below w.heap.size w w9 := HB8.out.trans (U9.below HB8.out.size (fun i hi hc => by have := hF i hc; omega))
        have HB9 := Lib.hid hB9
        have h0 : secO (zeroDisk 36) (W ++ [(1 + (2 + 16 * 1), zeroSec)]) 1 1 0 = none := by
          unfold secO secX
          rw [lastOf_snoc, if_pos rfl]
          exact zeroSec_shut
        have hbn : burn (-1) = -1 := by decide
        rw [hbn] at V9
        have KL2 := Lib.hid (load_any V9 1 (by omega) (by omega) (by rw [List.length_append]; simp; omega) 1 rfl (secO (zeroDisk 36) (W ++ [(1 + (2 + 16 * 1), zeroSec)]) 1 1) (fun _ => rfl))
        have HV9 := Lib.hid V9
        have H0 := Lib.hid h0
        clear U9 hB9 V9 h0 KW
        go_wp2_with fail
        refine KL2.out.mono ?_
        rintro x w10 (⟨_, rfl, hb10⟩ | ⟨h', t', G', hsome, _⟩)
        rotate_left
        · unfold headP at hsome
          rw [H0.out] at hsome
          cases hsome
        have V10 := ViewIs.stays.below HV9.out hb10
        have HB10 := Lib.hid (HB9.out.trans (hb10.mono HB9.out.size))
        have KW2 := Lib.hid (wipe_range V10 2 (by omega) (by omega) (.inr (by decide)))
        clear hb10 V10 KL2
        go_wp2_with fail
        refine KW2.out.mono ?_
        rintro x w11 ⟨rfl, rfl⟩
        go_wp2_with fail
        refine (put_any _).mono ?_
        rintro x w12 ⟨rfl, hb12⟩
        go_wp2
        go_ret
        exact ⟨rfl, HB10.out.trans (hb12.mono HB10.out.size)⟩
theorem back_any (a b c d : Int) (hb : 0 ≤ b ∧ b < 4294967296) (hc : 0 ≤ c ∧ c < 4294967296) {w : World} {ao : Option Addr} {l : List Fr} (cap : Nat) (hA : FrsAt w ao l) (hl : l.length ≤ 9223372036854775807) (hsz : ∀ x ∈ l, x.2.size ≤ 9223372036854775807) :
    Calls Try.prog 5 #[hdV a b c d, .slice ao l.length cap] w fun x w' => x = .returned (.bool true) ∧ Below w.heap.size w w' := by
  by_cases hlg : lgB l = true
  · exact back_put a b c d cap hA hl hsz (.inl hlg)
  by_cases hm : mayB a d = true
  · obtain ⟨m1, m2, m3, m4⟩ := mayB_true hm
    obtain ⟨A, rfl⟩ := Int.eq_ofNat_of_zero_le (show 0 ≤ a by omega)
    obtain ⟨B, rfl⟩ := Int.eq_ofNat_of_zero_le hb.1
    obtain ⟨C, rfl⟩ := Int.eq_ofNat_of_zero_le hc.1
    obtain ⟨D, rfl⟩ := Int.eq_ofNat_of_zero_le m3
    exact back_walk (A, B, C, D) ⟨by show 1 ≤ A; omega, by show A ≤ 65535; omega, by show B < 4294967296; omega, by show C < 4294967296; omega, by show D ≤ 1099511627776; omega⟩ hm cap hA (by simpa using hlg)
  · exact back_put a b c d cap hA hl hsz (.inr (by simpa using hm))
end Go.Proofs.Ytoabdpobpmbckaa.Print
