/- SeglogNews, SeglogNil. -/
import Derived.Test.YtoabdpobpmbckaaEight
namespace Go.Proofs.Ytoabdpobpmbckaa.Print
open Go.RowKit
attribute [local go_sem] run_loadVar_scalar
set_option maxRecDepth 100000 in
set_option maxHeartbeats 800000 in
theorem news_bad (id base gen : Int) (h : id < 1 ∨ 65535 < id ∨ base < 0 ∨ 1099511627776 < base) (w : World) : Calls Try.prog 3 #[.int .i64 id, .int .i64 base, .int .u32 gen] w fun x w' => x = .returned (.bool true) ∧ Below w.heap.size w w' := by
  have HH := Lib.hid h
  obtain ⟨b1, e1⟩ : ∃ b, decide (id < 1) = b := ⟨_, rfl⟩
  obtain ⟨b2, e2⟩ : ∃ b, decide (65535 < id) = b := ⟨_, rfl⟩
  obtain ⟨b3, e3⟩ : ∃ b, decide (base < 0) = b := ⟨_, rfl⟩
  obtain ⟨b4, e4⟩ : ∃ b, decide (1099511627776 < base) = b := ⟨_, rfl⟩
  have hor : b1 = true ∨ b2 = true ∨ b3 = true ∨ b4 = true := by
    rcases h with h | h | h | h
    · exact .inl (by rw [← e1]; exact decide_eq_true h)
    · exact .inr (.inl (by rw [← e2]; exact decide_eq_true h))
    · exact .inr (.inr (.inl (by rw [← e3]; exact decide_eq_true h)))
    · exact .inr (.inr (.inr (by rw [← e4]; exact decide_eq_true h)))
  have HOR := Lib.hid hor
  clear h hor
  go_enter Try.func3, Try.ntmps3
  go_wp2_with fail
  refine (pnew_any 6 1 (by omega) (by omega) (by omega) _ _ _ rfl rfl).mono ?_
  rintro x w1 ⟨p, H, rfl, _, hb1, _⟩
  have HB1 := Lib.hid hb1
  clear hb1
  go_wp2_with fail
  refine (fresh14_any _).mono ?_
  rintro x w2 ⟨v, F, rfl, _, hb2, _⟩
  have HB2 := Lib.hid (HB1.out.trans (hb2.mono HB1.out.size))
  clear hb2
  go_wp2_with fail
  refine (lognew_arg v p id gen base HH.out _).mono ?_
  rintro x w3 ⟨rfl, rfl⟩
  cases b1
  · cases b2
    · cases b3
      · cases b4
        · have := HOR.out; simp at this
        · go_wp2_with fail
          refine (eight_any _).mono ?_
          rintro x w4 ⟨rfl, hb4⟩
          go_wp2
          go_ret
          exact ⟨rfl, HB2.out.trans (hb4.mono HB2.out.size)⟩
      · go_wp2_with fail
        refine (eight_any _).mono ?_
        rintro x w4 ⟨rfl, hb4⟩
        go_wp2
        go_ret
        exact ⟨rfl, HB2.out.trans (hb4.mono HB2.out.size)⟩
    · go_wp2_with fail
      refine (eight_any _).mono ?_
      rintro x w4 ⟨rfl, hb4⟩
      go_wp2
      go_ret
      exact ⟨rfl, HB2.out.trans (hb4.mono HB2.out.size)⟩
  · go_wp2_with fail
    refine (eight_any _).mono ?_
    rintro x w4 ⟨rfl, hb4⟩
    go_wp2
    go_ret
    exact ⟨rfl, HB2.out.trans (hb4.mono HB2.out.size)⟩
set_option maxRecDepth 100000 in
set_option maxHeartbeats 800000 in
theorem news_ok (id base gen : Nat) (h1 : 1 ≤ id) (h2 : id ≤ 65535) (h3 : base ≤ 1099511627776) (w : World) : Calls Try.prog 3 #[.int .i64 id, .int .i64 base, .int .u32 gen] w fun x w' => x = .returned (.bool true) ∧ Below w.heap.size w w' := by
  have e1 : decide ((id : Int) < 1) = false := decide_eq_false (by omega)
  have e2 : decide (65535 < (id : Int)) = false := decide_eq_false (by omega)
  have e3 : decide ((base : Int) < 0) = false := decide_eq_false (by omega)
  have e4 : decide (1099511627776 < (base : Int)) = false := decide_eq_false (by omega)
  go_enter Try.func3, Try.ntmps3
  go_wp2_with fail
  refine (pnew_any 6 1 (by omega) (by omega) (by omega) _ _ _ rfl rfl).mono ?_
  rintro x w1 ⟨p, H, rfl, _, hb1, _⟩
  have HB1 := Lib.hid hb1
  clear hb1
  go_wp2_with fail
  refine (fresh14_any _).mono ?_
  rintro x w2 ⟨v, F, rfl, _, hb2, _⟩
  have HB2 := Lib.hid (HB1.out.trans (hb2.mono HB1.out.size))
  clear hb2
  go_wp2_with fail
  refine (lognew_ok v p id gen base h1 h2 h3 _ _ _ _ rfl rfl rfl).mono ?_
  rintro x w3 ⟨rfl, hL, hb3, _⟩
  obtain ⟨g, hg⟩ : ∃ g, w2.heap.size = g := ⟨_, rfl⟩
  have HB3 := Lib.hid (HB2.out.trans (hb3.mono HB2.out.size))
  rw [hg] at hL ⊢
  have HL := Lib.hid hL
  have KB := Lib.hid (lbase_any hL)
  have KN := Lib.hid (lnext_any hL)
  have KI := Lib.hid (lid_any hL)
  have KG := Lib.hid (lgen_any hL)
  have KS := Lib.hid (lsegs_any hL (Nat.zero_le _))
  have KF := Lib.hid (fun (W : World) (hb : Below w3.heap.size w3 W) => lfrom_out (LogIs.stays.below hL hb) (base : Int) 9 (.inr (Int.le_refl _)))
  clear hg hL hb3 h1 h2 h3
  go_wp2_with fail
  refine KB.out.mono ?_
  rintro x w4 ⟨rfl, rfl⟩
  have q1 : ((newLog id gen base).base : Int) = (base : Int) := rfl
  rw [q1]
  go_wp2_with fail
  refine KN.out.mono ?_
  rintro x w4 ⟨rfl, rfl⟩
  have q2 : ((newLog id gen base).next : Int) = (base : Int) := rfl
  rw [q2]
  go_wp2_with fail
  refine KI.out.mono ?_
  rintro x w4 ⟨rfl, rfl⟩
  have q3 : ((newLog id gen base).id : Int) = (id : Int) := rfl
  rw [q3]
  go_wp2_with fail
  refine KG.out.mono ?_
  rintro x w4 ⟨rfl, rfl⟩
  have q4 : ((newLog id gen base).gen : Int) = (gen : Int) := rfl
  rw [q4]
  clear q1 q2 q3 q4
  go_wp2_with fail
  refine KS.out.mono ?_
  rintro x w5 ⟨v', rfl, hrow, hb5⟩
  obtain ⟨so, sc, rfl⟩ := row_slice3 hrow
  rw [show (newLog id gen base).segs.length = 0 from rfl]
  have KF5 := Lib.hid (KF.out w5 hb5)
  have HB5 := Lib.hid hb5
  clear hrow hb5
  go_wp2_with fail
  refine KF5.out.mono ?_
  rintro x w6 ⟨rfl, rfl⟩
  go_wp2_with fail
  refine (eight_any _).mono ?_
  rintro x w7 ⟨rfl, hb7⟩
  go_wp2
  go_ret
  exact ⟨rfl, HB3.out.trans ((HB5.out.trans (hb7.mono HB5.out.size)).mono HB3.out.size)⟩
theorem news_any (id base gen : Int) (hg : 0 ≤ gen) (w : World) : Calls Try.prog 3 #[.int .i64 id, .int .i64 base, .int .u32 gen] w fun x w' => x = .returned (.bool true) ∧ Below w.heap.size w w' := by
  by_cases h : id < 1 ∨ 65535 < id ∨ base < 0 ∨ 1099511627776 < base
  · exact news_bad id base gen h w
  · obtain ⟨I, rfl⟩ := Int.eq_ofNat_of_zero_le (show 0 ≤ id by omega)
    obtain ⟨B, rfl⟩ := Int.eq_ofNat_of_zero_le (show 0 ≤ base by omega)
    obtain ⟨G, rfl⟩ := Int.eq_ofNat_of_zero_le hg
    exact news_ok I B G (by omega) (by omega) (by omega) w
set_option maxRecDepth 100000 in
set_option maxHeartbeats 1600000 in
attribute [-go_sem] Instr.build Instr.fill Instr.buildSlice loadVar in
theorem lnil_any (n most k : Int) (pl : ByteArray) (hpl : pl.size ≤ 9223372036854775807) (w : World) : Calls Try.prog 9 #[.int .i64 n, .int .i64 most, frV k pl] w fun x w' => x = .returned (.bool true) ∧ Below w.heap.size w w' := by
  have hg1 := alloc_at w (.cells #[.int .i64 k, .string pl] 55)
  have hB : Below w.heap.size w (w.alloc (.cells #[.int .i64 k, .string pl] 55)) := (Below.refl _ _).alloc (Nat.le_refl _) _
  obtain ⟨W0, hW0⟩ : ∃ W0, w.alloc (.cells #[.int .i64 k, .string pl] 55) = W0 := ⟨_, rfl⟩
  rw [hW0] at hg1 hB
  have hld := load_fr hg1
  have z0 : W0.cell? ⟨w.heap.size, 0, none⟩ = some (.int .i64 k) := by rw [cell_of hg1]; rfl
  have z1 : W0.cell? ⟨w.heap.size, 1, none⟩ = some (.string pl) := by rw [cell_of hg1]; rfl
  have HG1 := Lib.hid hg1
  have HB := Lib.hid hB
  have hzz : ∀ W : World, (zeroValue 55).run Try.prog W = .ok (frV 0 ⟨#[]⟩) W := fun W => by kernel_rfl
  have hbd : ∀ W : World, (Instr.build 55 #[]).run Try.prog W = .ok (frV 0 ⟨#[]⟩) W := fun W => by kernel_rfl
  clear hg1 hB
  by_cases h9 : 900 < pl.size
  · have k1 : decide ((900 : Int) < (pl.size : Int)) = true := decide_eq_true (by omega)
    go_enter Try.func9, Try.ntmps9
    go_wp2_with fail
    refine (eight_any _).mono ?_
    rintro x w4 ⟨rfl, hb4⟩
    go_wp2
    go_ret
    exact ⟨rfl, HB.out.trans (hb4.mono HB.out.size)⟩
  · have k1 : decide ((900 : Int) < (pl.size : Int)) = false := decide_eq_false (by omega)
    clear h9
    go_enter Try.func9, Try.ntmps9
    go_wp2_with fail
    refine (lappend_nil k pl _).mono ?_
    rintro x w1 ⟨rfl, hb1⟩
    have HB1 := Lib.hid (HB.out.trans (hb1.mono HB.out.size))
    have HG2 := Lib.hid (later_of HG1.out hb1)
    clear hb1 hld z0 z1
    go_wp2_with fail
    refine (lread_nil n _).mono ?_
    rintro x w2 ⟨rfl, hb2⟩
    have HB2 := Lib.hid (HB1.out.trans (hb2.mono HB1.out.size))
    have hg3 := later_of HG2.out hb2
    have hBa : Below w2.heap.size w2 (w2.alloc (.cells #[.int .i64 0, .string ⟨#[]⟩] 55)) := (Below.refl _ _).alloc (Nat.le_refl _) _
    have hgx := alloc_at w2 (.cells #[.int .i64 0, .string ⟨#[]⟩] 55)
    have hldx := load_fr hgx
    have HB3 := Lib.hid (HB2.out.trans (hBa.mono HB2.out.size))
    have HG3 := Lib.hid (later_of hg3 hBa)
    clear hb2 hg3 hBa hgx
    go_wp2_with fail
    refine (lognew_nil _ _ _ _ rfl _).mono ?_
    rintro x w4 ⟨rfl, rfl⟩
    obtain ⟨gx, hgx⟩ : ∃ gx, w2.heap.size = gx := ⟨_, rfl⟩
    obtain ⟨W3, hW3⟩ : ∃ W3, w2.alloc (.cells #[.int .i64 0, .string ⟨#[]⟩] 55) = W3 := ⟨_, rfl⟩
    rw [hW3] at HB3 HG3 hldx
    rw [hgx] at hldx
    rw [hgx, hW3]
    have hld3 := load_fr HG3.out
    clear hgx hW3
    go_wp2_with fail
    refine (ladopt_nil _ _).mono ?_
    rintro x w4 ⟨rfl, rfl⟩
    go_wp2_with fail
    refine (ldrop_nil _ _).mono ?_
    rintro x w4 ⟨rfl, rfl⟩
    go_wp2_with fail
    refine (lfree_nil _).mono ?_
    rintro x w4 ⟨rfl, rfl⟩
    go_wp2_with fail
    refine (lfrom_nil _ _ _).mono ?_
    rintro x w4 ⟨rfl, rfl⟩
    go_wp2_with fail
    refine (lfits_nil _ _ _).mono ?_
    rintro x w4 ⟨rfl, hb4⟩
    have HB4 := Lib.hid (HB3.out.trans (hb4.mono HB3.out.size))
    clear hb4 hld3 hldx
    go_wp2_with fail
    refine (lbase_nil _).mono ?_
    rintro x w5 ⟨rfl, rfl⟩
    go_wp2_with fail
    refine (lnext_nil _).mono ?_
    rintro x w5 ⟨rfl, rfl⟩
    go_wp2_with fail
    refine (lid_nil _).mono ?_
    rintro x w5 ⟨rfl, rfl⟩
    go_wp2_with fail
    refine (lgen_nil _).mono ?_
    rintro x w5 ⟨rfl, rfl⟩
    go_wp2_with fail
    refine (lsegs_nil _).mono ?_
    rintro x w5 ⟨rfl, rfl⟩
    go_wp2_with fail
    refine (eight_any _).mono ?_
    rintro x w7 ⟨rfl, hb7⟩
    go_wp2
    go_ret
    exact ⟨rfl, HB4.out.trans (hb7.mono HB4.out.size)⟩
end Go.Proofs.Ytoabdpobpmbckaa.Print
