/- What every law of layer 10 asks of one super; and which super two sectors have. -/
import Derived.Test.YtemdhcocbjcklaaEq
namespace Go.Proofs.Ytemdhcocbjcklaa.Print
open Go.RowKit
attribute [local go_sem] eq3 eq5

theorem pick_three (t : ByteArray) (ht : bs (superL 3 2 1 5 9) = t) (w : World) :
    Calls Try.prog 44 #[.string ⟨#[]⟩, .string t] w fun x w' => x = .returned (.tuple #[su5 3 2 1 5 9, .int .i64 0]) ∧ Below w.heap.size w w' := by
  subst ht
  have h1 := fun w => at_no ⟨#[]⟩ 0 w (fun w => sdec_shut ⟨#[]⟩ w (fun w => open_len ⟨#[]⟩ (by decide) w))
  have h2 := fun w => at_yes (bs (superL 3 2 1 5 9)) (nth5 3 2 1 5 9) (by decide) 1 true (by decide) w (fun w => decode_super 3 2 1 5 9 (by omega) (by omega) (by omega) (by omega) (by omega) w)
  exact pick_ft ⟨#[]⟩ (bs (superL 3 2 1 5 9)) 0 0 0 0 0 3 2 1 5 9 w (fun w => h1 w) (fun w => h2 w)

set_option maxRecDepth 100000 in
set_option maxHeartbeats 800000 in
theorem three_any (w : World) :
    Calls Try.prog 37 #[] w fun x w' => x = .returned (.bool true) ∧ Below w.heap.size w w' := by
  obtain ⟨t, ht⟩ : ∃ t, bs (superL 3 2 1 5 9) = t := ⟨_, rfl⟩
  have hs : t.size = 64 := by rw [← ht, bs_size, superL_length]
  have hx : t.extract 6 12 = ⟨#[87, 76, 0, 0, 0, 3]⟩ := by
    apply list_inj
    rw [← ht, extract_list, bs_list, superL, sealL, List.drop_left' (markL_length 3 1), supD, sup26]
    simp [preL, nth5, beL]
  have hE : ∀ w, Calls Try.prog 41 #[su5 3 2 1 5 9] w fun x w' => x = .returned (.string t) ∧ Below w.heap.size w w' := by rw [← ht]; exact fun w => superEnc_any 3 2 1 5 9 (by omega) (by omega) (by omega) (by omega) (by omega) w
  have hD : ∀ w, Calls Try.prog 38 #[.string t] w fun x w' => x = .returned (.tuple #[su5 3 2 1 5 9, .int .i64 0]) ∧ Below w.heap.size w w' := by rw [← ht]; exact fun w => decode_super 3 2 1 5 9 (by omega) (by omega) (by omega) (by omega) (by omega) w
  have hP := fun w => pick_three t ht w
  have KE := Lib.hid hE
  have KD := Lib.hid hD
  have KP := Lib.hid hP
  clear hE hD hP ht
  go_enter Try.func37, Try.ntmps37
  go_wp2_with fail
  refine (KE.out _).mono ?_
  rintro x w1 ⟨rfl, hb1⟩
  have z1 := later_of (alloc_at _ _) hb1
  have hB1 : Below w.heap.size w w1 := ((Below.refl _ _).alloc (Nat.le_refl _) _).trans (hb1.mono (by simp))
  clear hb1
  go_wp2_with fail
  refine (KD.out _).mono ?_
  rintro x w2 ⟨rfl, hb2⟩
  have z2 := later_of z1 hb2
  have hB2 := below_chain hB1 hb2
  have hs2 := hB2.size
  clear hb2 hB1 z1
  go_wp2_with fail
  refine (KP.out _).mono ?_
  rintro x w3 ⟨rfl, hb3⟩
  have z3 := later_of (alloc_old z2 _) hb3
  have y3 := later_of (alloc_at w2 _) hb3
  have hB3 : Below w.heap.size w w3 := (hB2.alloc hs2 _).trans (hb3.mono (by simp; omega))
  have hs3 := hB3.size
  have hl3 := lt_of z3
  have hm3 := lt_of y3
  clear hb3 hB2 z2
  obtain ⟨c0, c1, c2, c3, c4, f0, f1, f2, f3, f4⟩ := five_of z3
  obtain ⟨d0, d1, d2, d3, d4, g0, g1, g2, g3, g4⟩ := five_of y3
  have hxx : ((t.extract 6 12).toList == (⟨#[87, 76, 0, 0, 0, 3]⟩ : ByteArray).toList) = true := by rw [hx]; simp
  go_wp2_with fail
  refine (place_any 3 2 1 5 9 (by omega) _).mono ?_
  rintro x w4 ⟨rfl, hb4⟩
  have hB4 : Below w.heap.size w w4 := (hB3.alloc hs3 _).trans (hb4.mono (by simp; omega))
  clear hb4 hB3
  go_wp2
  go_ret
  exact ⟨rfl, hB4⟩

/-- Program and reference find the same super in two sectors. -/
theorem pick_both (a b : ByteArray) : ∃ (z0 z1 z2 z3 z4 : Nat) (ok : Bool),
    (∀ w, Calls Try.prog 44 #[.string a, .string b] w fun x w' => x = .returned (.tuple #[su5 z0 z1 z2 z3 z4, .int .i64 (if ok then 0 else 22)]) ∧ Below w.heap.size w w') ∧
    (∀ w, Calls Try.prog 45 #[.string a, .string b] w fun x w' => x = .returned (.agg #[.int .u32 z0, .int .u32 z1, .int .u32 z2, .int .u32 z3, .int .u32 z4, .bool ok]) ∧ Below w.heap.size w w') := by
  obtain ⟨u, oa, hu, _, hA, hRA⟩ := decode_both a
  obtain ⟨v, ob, hv, _, hB, hRB⟩ := decode_both b
  have u0 := hu 0 (by omega)
  have v0 := hv 0 (by omega)
  cases oa
  · have hA1 := fun w => at_no a 0 w (fun w => hA w)
    cases ob
    · have hB1 := fun w => at_no b 1 w (fun w => hB w)
      exact ⟨0, 0, 0, 0, 0, false, fun w => pick_ff a b 0 0 0 0 0 0 0 0 0 0 w (fun w => hA1 w) (fun w => hB1 w), fun w => rpick_fnfnn a b 0 0 0 0 0 0 0 0 0 0 w (fun w => hRA w) (fun w => hRB w)⟩
    · cases hp2 : (((v 0 : Nat) : Int) % 2 == 1)
      · have hB1 := fun w => at_yes b v v0 1 false hp2 w (fun w => hB w)
        exact ⟨0, 0, 0, 0, 0, false, fun w => pick_ff a b 0 0 0 0 0 _ _ _ _ _ w (fun w => hA1 w) (fun w => hB1 w), fun w => rpick_fntfn a b 0 0 0 0 0 _ _ _ _ _ hp2 w (fun w => hRA w) (fun w => hRB w)⟩
      · have hB1 := fun w => at_yes b v v0 1 true hp2 w (fun w => hB w)
        exact ⟨v 0, v 1, v 2, v 3, v 4, true, fun w => pick_ft a b 0 0 0 0 0 _ _ _ _ _ w (fun w => hA1 w) (fun w => hB1 w), fun w => rpick_fnttn a b 0 0 0 0 0 _ _ _ _ _ hp2 w (fun w => hRA w) (fun w => hRB w)⟩
  · cases hp1 : (((u 0 : Nat) : Int) % 2 == 0)
    · have hA1 := fun w => at_yes a u u0 0 false hp1 w (fun w => hA w)
      cases ob
      · have hB1 := fun w => at_no b 1 w (fun w => hB w)
        exact ⟨0, 0, 0, 0, 0, false, fun w => pick_ff a b _ _ _ _ _ 0 0 0 0 0 w (fun w => hA1 w) (fun w => hB1 w), fun w => rpick_tffnn a b _ _ _ _ _ 0 0 0 0 0 hp1 w (fun w => hRA w) (fun w => hRB w)⟩
      · cases hp2 : (((v 0 : Nat) : Int) % 2 == 1)
        · have hB1 := fun w => at_yes b v v0 1 false hp2 w (fun w => hB w)
          exact ⟨0, 0, 0, 0, 0, false, fun w => pick_ff a b _ _ _ _ _ _ _ _ _ _ w (fun w => hA1 w) (fun w => hB1 w), fun w => rpick_tftfn a b _ _ _ _ _ _ _ _ _ _ hp1 hp2 w (fun w => hRA w) (fun w => hRB w)⟩
        · have hB1 := fun w => at_yes b v v0 1 true hp2 w (fun w => hB w)
          exact ⟨v 0, v 1, v 2, v 3, v 4, true, fun w => pick_ft a b _ _ _ _ _ _ _ _ _ _ w (fun w => hA1 w) (fun w => hB1 w), fun w => rpick_tfttn a b _ _ _ _ _ _ _ _ _ _ hp1 hp2 w (fun w => hRA w) (fun w => hRB w)⟩
    · have hA1 := fun w => at_yes a u u0 0 true hp1 w (fun w => hA w)
      cases ob
      · have hB1 := fun w => at_no b 1 w (fun w => hB w)
        exact ⟨u 0, u 1, u 2, u 3, u 4, true, fun w => pick_tf a b _ _ _ _ _ 0 0 0 0 0 w (fun w => hA1 w) (fun w => hB1 w), fun w => rpick_ttfnn a b _ _ _ _ _ 0 0 0 0 0 hp1 w (fun w => hRA w) (fun w => hRB w)⟩
      · cases hp2 : (((v 0 : Nat) : Int) % 2 == 1)
        · have hB1 := fun w => at_yes b v v0 1 false hp2 w (fun w => hB w)
          exact ⟨u 0, u 1, u 2, u 3, u 4, true, fun w => pick_tf a b _ _ _ _ _ _ _ _ _ _ w (fun w => hA1 w) (fun w => hB1 w), fun w => rpick_tttfn a b _ _ _ _ _ _ _ _ _ _ hp1 hp2 w (fun w => hRA w) (fun w => hRB w)⟩
        · have hB1 := fun w => at_yes b v v0 1 true hp2 w (fun w => hB w)
          cases hg : decide (v 0 < u 0)
          · exact ⟨v 0, v 1, v 2, v 3, v 4, true, fun w => pick_ttf a b _ _ _ _ _ _ _ _ _ _ hg w (fun w => hA1 w) (fun w => hB1 w), fun w => rpick_ttttf a b _ _ _ _ _ _ _ _ _ _ hp1 hp2 hg w (fun w => hRA w) (fun w => hRB w)⟩
          · exact ⟨u 0, u 1, u 2, u 3, u 4, true, fun w => pick_ttt a b _ _ _ _ _ _ _ _ _ _ hg w (fun w => hA1 w) (fun w => hB1 w), fun w => rpick_ttttt a b _ _ _ _ _ _ _ _ _ _ hp1 hp2 hg w (fun w => hRA w) (fun w => hRB w)⟩

end Go.Proofs.Ytemdhcocbjcklaa.Print
