/- SuperCodes, the walk: whatever the input, the law answers true. -/
import Derived.Test.YtemdhcocbjcklaaThree
import Derived.Deep.RegionHeld3
namespace Go.Proofs.Ytemdhcocbjcklaa.Print
open Go.RowKit
attribute [local go_sem] eq3 eq5

set_option maxRecDepth 100000 in
set_option maxHeartbeats 400000 in
theorem scodes_long (a b c d e : Nat) (t : ByteArray) (ht : 200 < t.size) (ht2 : t.size ≤ 9223372036854775807) (w : World) :
    Calls Try.prog 10 #[su5 a b c d e, .string t] w fun x w' => x = .returned (.bool true) ∧ Below w.heap.size w w' := by
  have h1 : decide (200 < (t.size : Int)) = true := by simp; omega
  go_enter Try.func10, Try.ntmps10
  go_wp2_with fail
  refine (three_any _).mono ?_
  rintro x w1 ⟨rfl, hb1⟩
  go_wp2
  go_ret
  exact ⟨rfl, ((Below.refl _ _).alloc (Nat.le_refl _) _).trans (hb1.mono (by simp))⟩

theorem five_later {x : Nat} {c0 c1 c2 c3 c4 : Value} {W w2 : World} (hx : x < W.heap.size)
    (h : W.cell? ⟨x, 0, none⟩ = some c0 ∧ W.cell? ⟨x, 1, none⟩ = some c1 ∧ W.cell? ⟨x, 2, none⟩ = some c2 ∧ W.cell? ⟨x, 3, none⟩ = some c3 ∧ W.cell? ⟨x, 4, none⟩ = some c4) (hb : Below W.heap.size W w2) :
    w2.cell? ⟨x, 0, none⟩ = some c0 ∧ w2.cell? ⟨x, 1, none⟩ = some c1 ∧ w2.cell? ⟨x, 2, none⟩ = some c2 ∧ w2.cell? ⟨x, 3, none⟩ = some c3 ∧ w2.cell? ⟨x, 4, none⟩ = some c4 := by
  have gx := fun o => hb.cell (p := ⟨x, o, none⟩) hx
  exact ⟨(gx 0).trans h.1, (gx 1).trans h.2.1, (gx 2).trans h.2.2.1, (gx 3).trans h.2.2.2.1, (gx 4).trans h.2.2.2.2⟩
/-- No super, and none of the reference's, that are read. -/
def KeptNo (x y : Nat) (W w' : World) : Prop :=
  (w'.cell? ⟨x, 0, none⟩ = some (.int .u32 0) ∧ w'.cell? ⟨x, 1, none⟩ = some (.int .u32 0) ∧ w'.cell? ⟨x, 2, none⟩ = some (.int .u32 0) ∧ w'.cell? ⟨x, 3, none⟩ = some (.int .u32 0) ∧ w'.cell? ⟨x, 4, none⟩ = some (.int .u32 0)) ∧
  (w'.cell? ⟨y, 0, none⟩ = some (.int .u32 0) ∧ w'.cell? ⟨y, 1, none⟩ = some (.int .u32 0) ∧ w'.cell? ⟨y, 2, none⟩ = some (.int .u32 0) ∧ w'.cell? ⟨y, 3, none⟩ = some (.int .u32 0) ∧ w'.cell? ⟨y, 4, none⟩ = some (.int .u32 0) ∧ w'.cell? ⟨y, 5, none⟩ = some (.bool false)) ∧
  Below W.heap.size W w'
theorem keepNo {x y : Nat} {W w1 w2 : World} (hx : x < W.heap.size) (hy : y < W.heap.size) (h : KeptNo x y W w1) (hb : Below w1.heap.size w1 w2) : KeptNo x y W w2 := by
  obtain ⟨⟨a0, a1, a2, a3, a4⟩, ⟨b0, b1, b2, b3, b4, b5⟩, hB⟩ := h
  have gx := fun o => hb.cell (p := ⟨x, o, none⟩) (Nat.lt_of_lt_of_le hx hB.size)
  have gy := fun o => hb.cell (p := ⟨y, o, none⟩) (Nat.lt_of_lt_of_le hy hB.size)
  exact ⟨⟨(gx 0).trans a0, (gx 1).trans a1, (gx 2).trans a2, (gx 3).trans a3, (gx 4).trans a4⟩, ⟨(gy 0).trans b0, (gy 1).trans b1, (gy 2).trans b2, (gy 3).trans b3, (gy 4).trans b4, (gy 5).trans b5⟩, below_chain hB hb⟩
/-- Two supers that are read. -/
def Kept5 (x y : Nat) (z0 z1 z2 z3 z4 : Nat) (W w' : World) : Prop :=
  (w'.cell? ⟨x, 0, none⟩ = some (.int .u32 z0) ∧ w'.cell? ⟨x, 1, none⟩ = some (.int .u32 z1) ∧ w'.cell? ⟨x, 2, none⟩ = some (.int .u32 z2) ∧ w'.cell? ⟨x, 3, none⟩ = some (.int .u32 z3) ∧ w'.cell? ⟨x, 4, none⟩ = some (.int .u32 z4)) ∧
  (w'.cell? ⟨y, 0, none⟩ = some (.int .u32 z0) ∧ w'.cell? ⟨y, 1, none⟩ = some (.int .u32 z1) ∧ w'.cell? ⟨y, 2, none⟩ = some (.int .u32 z2) ∧ w'.cell? ⟨y, 3, none⟩ = some (.int .u32 z3) ∧ w'.cell? ⟨y, 4, none⟩ = some (.int .u32 z4)) ∧
  Below W.heap.size W w'
theorem kept5Call {x y z0 z1 z2 z3 z4 : Nat} {W w1 w2 : World} (hx : x < W.heap.size) (hy : y < W.heap.size) (h : Kept5 x y z0 z1 z2 z3 z4 W w1) (hb : Below w1.heap.size w1 w2) : Kept5 x y z0 z1 z2 z3 z4 W w2 :=
  ⟨five_later (Nat.lt_of_lt_of_le hx h.2.2.size) h.1 hb, five_later (Nat.lt_of_lt_of_le hy h.2.2.size) h.2.1 hb, below_chain h.2.2 hb⟩

attribute [local go_sem] undef in
set_option maxRecDepth 100000 in
set_option maxHeartbeats 6400000 in
theorem scodes_ok (a b c d e : Nat) (ha : a < 4294967296) (hb : b < 4294967296) (hc : c < 4294967296) (hd : d < 4294967296) (he : e < 4294967296) (t : ByteArray) (ht : t.size ≤ 200) (p0 p1 p2 p3 p4 : Nat) (w : World)
    (hP : Hid (∀ w, Calls Try.prog 38 #[.string t] w fun x w' => x = .returned (.tuple #[su5 p0 p1 p2 p3 p4, .int .i64 0]) ∧ Below w.heap.size w w'))
    (hR : Hid (∀ w, Calls Try.prog 39 #[.string t] w fun x w' => x = .returned (.agg #[.int .u32 p0, .int .u32 p1, .int .u32 p2, .int .u32 p3, .int .u32 p4, .bool true]) ∧ Below w.heap.size w w')) :
    Calls Try.prog 10 #[su5 a b c d e, .string t] w fun x w' => x = .returned (.bool true) ∧ Below w.heap.size w w' := by
  have h1 : decide (200 < (t.size : Int)) = false := by simp; omega
  obtain ⟨U, hU⟩ : ∃ U, bs (superL a b c d e) = U := ⟨_, rfl⟩
  have hE := fun w => superEnc_any a b c d e ha hb hc hd he w
  have hRE := fun w => rsuperEnc_any a b c d e ha hb hc hd he w
  have hDU := fun w => decode_super a b c d e ha hb hc hd he w
  rw [hU] at hE hRE hDU
  have KE := Lib.hid hE
  have KRE := Lib.hid hRE
  have KDU := Lib.hid hDU
  have KT := Lib.hid three_any
  have KLa := Lib.hid (fun w => lref_any a b c d e w)
  have KLp := Lib.hid (show ∀ w, Calls Try.prog 40 #[.agg #[.int .u32 p0, .int .u32 p1, .int .u32 p2, .int .u32 p3, .int .u32 p4]] w fun x w' => x = .returned (.agg #[.int .u32 p0, .int .u32 p1, .int .u32 p2, .int .u32 p3, .int .u32 p4]) ∧ Below w.heap.size w w' from fun w => lref_any p0 p1 p2 p3 p4 w)
  have KPl := Lib.hid (fun w => place_any a b c d e ha w)
  have HA := Lib.hid ha
  clear hE hRE hDU hU hb hc hd he ha
  go_enter Try.func10, Try.ntmps10
  go_wp2_with fail
  refine (hP.out _).mono ?_
  rintro x w1 ⟨rfl, hb1⟩
  have s1 := later_of (alloc_at w _) hb1
  have hB1 : Below w.heap.size w w1 := ((Below.refl _ _).alloc (Nat.le_refl _) _).trans (hb1.mono (by simp))
  clear hb1
  go_wp2_with fail
  refine (hR.out _).mono ?_
  rintro x w2 ⟨rfl, hb2⟩
  have s2 := later_of (alloc_old s1 _) hb2
  have q2 := later_of (alloc_at w1 _) hb2
  have hB2 : Below w.heap.size w w2 := (hB1.alloc hB1.size _).trans (hb2.mono (by have := hB1.size; simp; omega))
  clear hb2 s1 hB1
  go_wp2
  have s3 := alloc_old s2 (.cells #[.int .u32 p0, .int .u32 p1, .int .u32 p2, .int .u32 p3, .int .u32 p4, .bool true] 87)
  have x3 := alloc_old q2 (.cells #[.int .u32 p0, .int .u32 p1, .int .u32 p2, .int .u32 p3, .int .u32 p4, .bool true] 87)
  have y3 := alloc_at w2 (.cells #[.int .u32 p0, .int .u32 p1, .int .u32 p2, .int .u32 p3, .int .u32 p4, .bool true] 87)
  have hBA : Below w.heap.size w (w2.alloc (.cells #[.int .u32 p0, .int .u32 p1, .int .u32 p2, .int .u32 p3, .int .u32 p4, .bool true] 87)) := hB2.alloc hB2.size _
  generalize w2.alloc (.cells #[.int .u32 p0, .int .u32 p1, .int .u32 p2, .int .u32 p3, .int .u32 p4, .bool true] 87) = wA at s3 x3 y3 hBA ⊢
  have hs := lt_of s3
  have hx := lt_of x3
  have hy := lt_of y3
  obtain ⟨c0, c1, c2, c3, c4, f0, f1, f2, f3, f4⟩ := five_of x3
  obtain ⟨d0, d1, d2, d3, d4, d5, g0, g1, g2, g3, g4, g5⟩ := six_of y3
  first
  | (go_region_with (first
      | (go_at_call 40; (with_reducible refine (KLp.out _).mono ?_); rintro e w4 ⟨rfl, hb4⟩
         obtain ⟨i0, i1, i2, i3, i4⟩ := five_later (W := wA.drew) hx ⟨c0, c1, c2, c3, c4⟩ hb4
         obtain ⟨j0, j1, j2, j3, j4⟩ := five_later (W := wA.drew) hy ⟨d0, d1, d2, d3, d4⟩ hb4)))
  | fail
  all_goals
    have s4 := later_of (w1 := wA.drew) s3 hb4
    have hB4 := hBA.trans ((show Below wA.heap.size wA w4 from ((Below.refl _ _).drew).trans hb4).mono hBA.size)
    clear hb4 hBA
    clear i0 i1 i2 i3 i4 j0 j1 j2 j3 j4
  all_goals
    clear c0 c1 c2 c3 c4 d0 d1 d2 d3 d4 d5 f0 f1 f2 f3 f4 g0 g1 g2 g3 g4 g5
    obtain ⟨c0, c1, c2, c3, c4, f0, f1, f2, f3, f4⟩ := five_of s4
    go_wp2_with fail
    refine (KE.out _).mono ?_
    rintro x wE ⟨rfl, hbE⟩
    have sE := later_of s4 hbE
    have hBE := below_chain hB4 hbE
    clear hbE hB4 s4 c0 c1 c2 c3 c4 f0 f1 f2 f3 f4
    go_wp2_with fail
    refine (KDU.out _).mono ?_
    rintro x w5 ⟨rfl, hb5⟩
    have s5 := later_of sE hb5
    have hB5 := below_chain hBE hb5
    clear hb5 hBE sE
    go_wp2
    have s6 := alloc_old s5 (.cells #[.int .u32 a, .int .u32 b, .int .u32 c, .int .u32 d, .int .u32 e] 80)
    have x6 := alloc_at w5 (.cells #[.int .u32 a, .int .u32 b, .int .u32 c, .int .u32 d, .int .u32 e] 80)
    have hBB : Below w.heap.size w (w5.alloc (.cells #[.int .u32 a, .int .u32 b, .int .u32 c, .int .u32 d, .int .u32 e] 80)) := hB5.alloc hB5.size _
    generalize w5.alloc (.cells #[.int .u32 a, .int .u32 b, .int .u32 c, .int .u32 d, .int .u32 e] 80) = wB at s6 x6 hBB ⊢
    have hs6 := lt_of s6
    have hx6 := lt_of x6
    obtain ⟨c0, c1, c2, c3, c4, f0, f1, f2, f3, f4⟩ := five_of s6
    obtain ⟨d0, d1, d2, d3, d4, g0, g1, g2, g3, g4⟩ := five_of x6
    have ha := HA.out
    have t1 : (a : Int).tmod 2 = (a : Int) % 2 := by rw [Int.tmod_eq_emod_of_nonneg (by omega)]
    have t2 : IntKind.u32.wrap ((a : Int) % 2) = (a : Int) % 2 := by rw [IntKind.wrap_u32']; omega
    have t3 : IntKind.i64.wrap ((a : Int) % 2) = (a : Int) % 2 := by rw [IntKind.wrap_i64]; omega
    go_region_held3 (fun w' => (w'.cell? ⟨w.heap.size, 0, none⟩ = some (.int .u32 a) ∧ w'.cell? ⟨w.heap.size, 1, none⟩ = some (.int .u32 b) ∧ w'.cell? ⟨w.heap.size, 2, none⟩ = some (.int .u32 c) ∧ w'.cell? ⟨w.heap.size, 3, none⟩ = some (.int .u32 d) ∧ w'.cell? ⟨w.heap.size, 4, none⟩ = some (.int .u32 e)) ∧ (w'.cell? ⟨w5.heap.size, 0, none⟩ = some (.int .u32 a) ∧ w'.cell? ⟨w5.heap.size, 1, none⟩ = some (.int .u32 b) ∧ w'.cell? ⟨w5.heap.size, 2, none⟩ = some (.int .u32 c) ∧ w'.cell? ⟨w5.heap.size, 3, none⟩ = some (.int .u32 d) ∧ w'.cell? ⟨w5.heap.size, 4, none⟩ = some (.int .u32 e)) ∧ Below wB.heap.size wB w') (first | assumption | exact ⟨⟨c0, c1, c2, c3, c4⟩, ⟨d0, d1, d2, d3, d4⟩, (Below.refl _ _).drew⟩ | exact kept5Call hs6 hx6 (by assumption) hb)
      (first | (go_at_call 40; with_reducible refine (KLa.out _).mono ?_; rintro e w6 ⟨rfl, hb⟩) | (go_at_call 42; with_reducible refine (KRE.out _).mono ?_; rintro e w7 ⟨rfl, hb⟩) | (go_at_call 43; with_reducible refine (KPl.out _).mono ?_; rintro e w8 ⟨rfl, hb⟩) | (go_at_call 37; with_reducible refine (KT.out _).mono ?_; rintro e w9 ⟨rfl, hb⟩))
    have hS9 : Kept5 w.heap.size w5.heap.size a b c d e wB w9 := by assumption
    have hB9 := hBB.trans (hS9.2.2.mono hBB.size)
    go_wp2
    go_ret
    exact ⟨rfl, hB9⟩

set_option maxRecDepth 100000 in
set_option maxHeartbeats 6400000 in
theorem scodes_no (a b c d e : Nat) (ha : a < 4294967296) (hb : b < 4294967296) (hc : c < 4294967296) (hd : d < 4294967296) (he : e < 4294967296) (t : ByteArray) (ht : t.size ≤ 200) (w : World)
    (hP : Hid (∀ w, Calls Try.prog 38 #[.string t] w fun x w' => x = .returned (.tuple #[su5 0 0 0 0 0, .int .i64 4]) ∧ Below w.heap.size w w'))
    (hR : Hid (∀ w, Calls Try.prog 39 #[.string t] w fun x w' => x = .returned (.agg #[.int .u32 0, .int .u32 0, .int .u32 0, .int .u32 0, .int .u32 0, .bool false]) ∧ Below w.heap.size w w')) :
    Calls Try.prog 10 #[su5 a b c d e, .string t] w fun x w' => x = .returned (.bool true) ∧ Below w.heap.size w w' := by
  have h1 : decide (200 < (t.size : Int)) = false := by simp; omega
  obtain ⟨U, hU⟩ : ∃ U, bs (superL a b c d e) = U := ⟨_, rfl⟩
  have hE := fun w => superEnc_any a b c d e ha hb hc hd he w
  have hRE := fun w => rsuperEnc_any a b c d e ha hb hc hd he w
  have hDU := fun w => decode_super a b c d e ha hb hc hd he w
  rw [hU] at hE hRE hDU
  have KE := Lib.hid hE
  have KRE := Lib.hid hRE
  have KDU := Lib.hid hDU
  have KT := Lib.hid three_any
  have KLa := Lib.hid (fun w => lref_any a b c d e w)
  have KLp := Lib.hid (show ∀ w, Calls Try.prog 40 #[.agg #[.int .u32 0, .int .u32 0, .int .u32 0, .int .u32 0, .int .u32 0]] w fun x w' => x = .returned (.agg #[.int .u32 0, .int .u32 0, .int .u32 0, .int .u32 0, .int .u32 0]) ∧ Below w.heap.size w w' from fun w => lref_any 0 0 0 0 0 w)
  have KPl := Lib.hid (fun w => place_any a b c d e ha w)
  have HA := Lib.hid ha
  clear hE hRE hDU hU hb hc hd he ha
  go_enter Try.func10, Try.ntmps10
  go_wp2_with fail
  refine (hP.out _).mono ?_
  rintro x w1 ⟨rfl, hb1⟩
  have s1 := later_of (alloc_at w _) hb1
  have hB1 : Below w.heap.size w w1 := ((Below.refl _ _).alloc (Nat.le_refl _) _).trans (hb1.mono (by simp))
  clear hb1
  go_wp2_with fail
  refine (hR.out _).mono ?_
  rintro x w2 ⟨rfl, hb2⟩
  have s2 := later_of (alloc_old s1 _) hb2
  have q2 := later_of (alloc_at w1 _) hb2
  have hB2 : Below w.heap.size w w2 := (hB1.alloc hB1.size _).trans (hb2.mono (by have := hB1.size; simp; omega))
  clear hb2 s1 hB1
  go_wp2
  have s3 := alloc_old s2 (.cells #[.int .u32 0, .int .u32 0, .int .u32 0, .int .u32 0, .int .u32 0, .bool false] 87)
  have x3 := alloc_old q2 (.cells #[.int .u32 0, .int .u32 0, .int .u32 0, .int .u32 0, .int .u32 0, .bool false] 87)
  have y3 := alloc_at w2 (.cells #[.int .u32 0, .int .u32 0, .int .u32 0, .int .u32 0, .int .u32 0, .bool false] 87)
  have hBA : Below w.heap.size w (w2.alloc (.cells #[.int .u32 0, .int .u32 0, .int .u32 0, .int .u32 0, .int .u32 0, .bool false] 87)) := hB2.alloc hB2.size _
  generalize w2.alloc (.cells #[.int .u32 0, .int .u32 0, .int .u32 0, .int .u32 0, .int .u32 0, .bool false] 87) = wA at s3 x3 y3 hBA ⊢
  have hs := lt_of s3
  have hx := lt_of x3
  have hy := lt_of y3
  obtain ⟨c0, c1, c2, c3, c4, f0, f1, f2, f3, f4⟩ := five_of x3
  obtain ⟨d0, d1, d2, d3, d4, d5, g0, g1, g2, g3, g4, g5⟩ := six_of y3
  go_region_held3 (fun w' => (w'.cell? ⟨w1.heap.size, 0, none⟩ = some (.int .u32 0) ∧ w'.cell? ⟨w1.heap.size, 1, none⟩ = some (.int .u32 0) ∧ w'.cell? ⟨w1.heap.size, 2, none⟩ = some (.int .u32 0) ∧ w'.cell? ⟨w1.heap.size, 3, none⟩ = some (.int .u32 0) ∧ w'.cell? ⟨w1.heap.size, 4, none⟩ = some (.int .u32 0)) ∧ (w'.cell? ⟨w2.heap.size, 0, none⟩ = some (.int .u32 0) ∧ w'.cell? ⟨w2.heap.size, 1, none⟩ = some (.int .u32 0) ∧ w'.cell? ⟨w2.heap.size, 2, none⟩ = some (.int .u32 0) ∧ w'.cell? ⟨w2.heap.size, 3, none⟩ = some (.int .u32 0) ∧ w'.cell? ⟨w2.heap.size, 4, none⟩ = some (.int .u32 0) ∧ w'.cell? ⟨w2.heap.size, 5, none⟩ = some (.bool false)) ∧ Below wA.heap.size wA w') (first | assumption | exact ⟨⟨c0, c1, c2, c3, c4⟩, ⟨d0, d1, d2, d3, d4, d5⟩, (Below.refl _ _).drew⟩ | exact keepNo hx hy (by assumption) hb)
    (first | (go_at_call 40; with_reducible refine (KLp.out _).mono ?_; rintro e w4 ⟨rfl, hb⟩))
  have hS4 : KeptNo w1.heap.size w2.heap.size wA w4 := by assumption
  have s4 := later_of s3 hS4.2.2
  have hB4 := hBA.trans (hS4.2.2.mono hBA.size)
  clear hS4 hBA
  all_goals
    clear c0 c1 c2 c3 c4 d0 d1 d2 d3 d4 d5 f0 f1 f2 f3 f4 g0 g1 g2 g3 g4 g5
    obtain ⟨c0, c1, c2, c3, c4, f0, f1, f2, f3, f4⟩ := five_of s4
    go_wp2_with fail
    refine (KE.out _).mono ?_
    rintro x wE ⟨rfl, hbE⟩
    have sE := later_of s4 hbE
    have hBE := below_chain hB4 hbE
    clear hbE hB4 s4 c0 c1 c2 c3 c4 f0 f1 f2 f3 f4
    go_wp2_with fail
    refine (KDU.out _).mono ?_
    rintro x w5 ⟨rfl, hb5⟩
    have s5 := later_of sE hb5
    have hB5 := below_chain hBE hb5
    clear hb5 hBE sE
    go_wp2
    have s6 := alloc_old s5 (.cells #[.int .u32 a, .int .u32 b, .int .u32 c, .int .u32 d, .int .u32 e] 80)
    have x6 := alloc_at w5 (.cells #[.int .u32 a, .int .u32 b, .int .u32 c, .int .u32 d, .int .u32 e] 80)
    have hBB : Below w.heap.size w (w5.alloc (.cells #[.int .u32 a, .int .u32 b, .int .u32 c, .int .u32 d, .int .u32 e] 80)) := hB5.alloc hB5.size _
    generalize w5.alloc (.cells #[.int .u32 a, .int .u32 b, .int .u32 c, .int .u32 d, .int .u32 e] 80) = wB at s6 x6 hBB ⊢
    have hs6 := lt_of s6
    have hx6 := lt_of x6
    obtain ⟨c0, c1, c2, c3, c4, f0, f1, f2, f3, f4⟩ := five_of s6
    obtain ⟨d0, d1, d2, d3, d4, g0, g1, g2, g3, g4⟩ := five_of x6
    have ha := HA.out
    have t1 : (a : Int).tmod 2 = (a : Int) % 2 := by rw [Int.tmod_eq_emod_of_nonneg (by omega)]
    have t2 : IntKind.u32.wrap ((a : Int) % 2) = (a : Int) % 2 := by rw [IntKind.wrap_u32']; omega
    have t3 : IntKind.i64.wrap ((a : Int) % 2) = (a : Int) % 2 := by rw [IntKind.wrap_i64]; omega
    go_region_held3 (fun w' => (w'.cell? ⟨w.heap.size, 0, none⟩ = some (.int .u32 a) ∧ w'.cell? ⟨w.heap.size, 1, none⟩ = some (.int .u32 b) ∧ w'.cell? ⟨w.heap.size, 2, none⟩ = some (.int .u32 c) ∧ w'.cell? ⟨w.heap.size, 3, none⟩ = some (.int .u32 d) ∧ w'.cell? ⟨w.heap.size, 4, none⟩ = some (.int .u32 e)) ∧ (w'.cell? ⟨w5.heap.size, 0, none⟩ = some (.int .u32 a) ∧ w'.cell? ⟨w5.heap.size, 1, none⟩ = some (.int .u32 b) ∧ w'.cell? ⟨w5.heap.size, 2, none⟩ = some (.int .u32 c) ∧ w'.cell? ⟨w5.heap.size, 3, none⟩ = some (.int .u32 d) ∧ w'.cell? ⟨w5.heap.size, 4, none⟩ = some (.int .u32 e)) ∧ Below wB.heap.size wB w') (first | assumption | exact ⟨⟨c0, c1, c2, c3, c4⟩, ⟨d0, d1, d2, d3, d4⟩, (Below.refl _ _).drew⟩ | exact kept5Call hs6 hx6 (by assumption) hb)
      (first | (go_at_call 40; with_reducible refine (KLa.out _).mono ?_; rintro e w6 ⟨rfl, hb⟩) | (go_at_call 42; with_reducible refine (KRE.out _).mono ?_; rintro e w7 ⟨rfl, hb⟩) | (go_at_call 43; with_reducible refine (KPl.out _).mono ?_; rintro e w8 ⟨rfl, hb⟩) | (go_at_call 37; with_reducible refine (KT.out _).mono ?_; rintro e w9 ⟨rfl, hb⟩))
    have hS9 : Kept5 w.heap.size w5.heap.size a b c d e wB w9 := by assumption
    have hB9 := hBB.trans (hS9.2.2.mono hBB.size)
    go_wp2
    go_ret
    exact ⟨rfl, hB9⟩

/-- SuperCodes answers true. -/
theorem scodes_any (a b c d e : Nat) (ha : a < 4294967296) (hb : b < 4294967296) (hc : c < 4294967296) (hd : d < 4294967296) (he : e < 4294967296) (t : ByteArray) (ht : t.size ≤ 9223372036854775807) (w : World) :
    Calls Try.prog 10 #[su5 a b c d e, .string t] w fun x w' => x = .returned (.bool true) ∧ Below w.heap.size w w' := by
  by_cases h1 : 200 < t.size
  · exact scodes_long a b c d e t h1 ht w
  obtain ⟨v, ok, _, _, hP, hR⟩ := decode_both t
  cases ok
  · exact scodes_no a b c d e ha hb hc hd he t (by omega) w (fun w => hP w) (fun w => hR w)
  · exact scodes_ok a b c d e ha hb hc hd he t (by omega) (v 0) (v 1) (v 2) (v 3) (v 4) w (fun w => hP w) (fun w => hR w)

end Go.Proofs.Ytemdhcocbjcklaa.Print
