/- SuperPicks, the walk: whatever the input, the law answers true. -/
import Derived.Test.YtemdhcocbjcklaaThree
import Derived.Deep.RegionHeld3
namespace Go.Proofs.Ytemdhcocbjcklaa.Print
open Go.RowKit
attribute [local go_sem] eq3 eq5

set_option maxRecDepth 100000 in
set_option maxHeartbeats 400000 in
theorem spicks_long1 (a b : ByteArray) (ha : 200 < a.size) (ha2 : a.size ≤ 9223372036854775807) (w : World) :
    Calls Try.prog 11 #[.string a, .string b] w fun x w' => x = .returned (.bool true) ∧ Below w.heap.size w w' := by
  have h1 : decide (200 < (a.size : Int)) = true := by simp; omega
  go_enter Try.func11, Try.ntmps11
  go_wp2_with fail
  refine (three_any _).mono ?_
  rintro x w1 ⟨rfl, hb1⟩
  go_wp2
  go_ret
  exact ⟨rfl, hb1⟩
set_option maxRecDepth 100000 in
set_option maxHeartbeats 400000 in
theorem spicks_long2 (a b : ByteArray) (ha : a.size ≤ 200) (hb : 200 < b.size) (hb2 : b.size ≤ 9223372036854775807) (w : World) :
    Calls Try.prog 11 #[.string a, .string b] w fun x w' => x = .returned (.bool true) ∧ Below w.heap.size w w' := by
  have h1 : decide (200 < (a.size : Int)) = false := by simp; omega
  have h2 : decide (200 < (b.size : Int)) = true := by simp; omega
  go_enter Try.func11, Try.ntmps11
  go_wp2_with fail
  refine (three_any _).mono ?_
  rintro x w1 ⟨rfl, hb1⟩
  go_wp2
  go_ret
  exact ⟨rfl, hb1⟩

/-- What the law's last question reads: the super that was told, and the reference's. -/
def Kept (x y : Nat) (z0 z1 z2 z3 z4 : Nat) (ok : Bool) (W w' : World) : Prop :=
  (w'.cell? ⟨x, 0, none⟩ = some (.int .u32 z0) ∧ w'.cell? ⟨x, 1, none⟩ = some (.int .u32 z1) ∧ w'.cell? ⟨x, 2, none⟩ = some (.int .u32 z2) ∧ w'.cell? ⟨x, 3, none⟩ = some (.int .u32 z3) ∧ w'.cell? ⟨x, 4, none⟩ = some (.int .u32 z4)) ∧
  (w'.cell? ⟨y, 0, none⟩ = some (.int .u32 z0) ∧ w'.cell? ⟨y, 1, none⟩ = some (.int .u32 z1) ∧ w'.cell? ⟨y, 2, none⟩ = some (.int .u32 z2) ∧ w'.cell? ⟨y, 3, none⟩ = some (.int .u32 z3) ∧ w'.cell? ⟨y, 4, none⟩ = some (.int .u32 z4) ∧ w'.cell? ⟨y, 5, none⟩ = some (.bool ok)) ∧
  Below W.heap.size W w'

theorem keptCall {x y z0 z1 z2 z3 z4 : Nat} {ok : Bool} {W w1 w2 : World} (hx : x < W.heap.size) (hy : y < W.heap.size) (h : Kept x y z0 z1 z2 z3 z4 ok W w1) (hb : Below w1.heap.size w1 w2) : Kept x y z0 z1 z2 z3 z4 ok W w2 := by
  obtain ⟨⟨a0, a1, a2, a3, a4⟩, ⟨b0, b1, b2, b3, b4, b5⟩, hB⟩ := h
  have gx := fun o => hb.cell (p := ⟨x, o, none⟩) (Nat.lt_of_lt_of_le hx hB.size)
  have gy := fun o => hb.cell (p := ⟨y, o, none⟩) (Nat.lt_of_lt_of_le hy hB.size)
  exact ⟨⟨(gx 0).trans a0, (gx 1).trans a1, (gx 2).trans a2, (gx 3).trans a3, (gx 4).trans a4⟩, ⟨(gy 0).trans b0, (gy 1).trans b1, (gy 2).trans b2, (gy 3).trans b3, (gy 4).trans b4, (gy 5).trans b5⟩, below_chain hB hb⟩
set_option maxRecDepth 100000 in
set_option maxHeartbeats 1600000 in
theorem spicks_ok (a b : ByteArray) (ha : a.size ≤ 200) (hb : b.size ≤ 200) (p0 p1 p2 p3 p4 : Nat) (w : World)
    (hP : Hid (∀ w, Calls Try.prog 44 #[.string a, .string b] w fun x w' => x = .returned (.tuple #[su5 p0 p1 p2 p3 p4, .int .i64 0]) ∧ Below w.heap.size w w'))
    (hR : Hid (∀ w, Calls Try.prog 45 #[.string a, .string b] w fun x w' => x = .returned (.agg #[.int .u32 p0, .int .u32 p1, .int .u32 p2, .int .u32 p3, .int .u32 p4, .bool true]) ∧ Below w.heap.size w w')) :
    Calls Try.prog 11 #[.string a, .string b] w fun x w' => x = .returned (.bool true) ∧ Below w.heap.size w w' := by
  have h1 : decide (200 < (a.size : Int)) = false := by simp; omega
  have h2 : decide (200 < (b.size : Int)) = false := by simp; omega
  go_enter Try.func11, Try.ntmps11
  go_wp2_with fail
  refine (hP.out _).mono ?_
  rintro x w1 ⟨rfl, hb1⟩
  go_wp2_with fail
  refine (hR.out _).mono ?_
  rintro x w2 ⟨rfl, hb2⟩
  have q2 := later_of (alloc_at w1 _) hb2
  have hB2 : Below w.heap.size w w2 := (hb1.alloc hb1.size _).trans (hb2.mono (by have := hb1.size; simp; omega))
  clear hb1 hb2
  go_wp2
  have x3 := alloc_old q2 (.cells #[.int .u32 p0, .int .u32 p1, .int .u32 p2, .int .u32 p3, .int .u32 p4, .bool true] 87)
  have y3 := alloc_at w2 (.cells #[.int .u32 p0, .int .u32 p1, .int .u32 p2, .int .u32 p3, .int .u32 p4, .bool true] 87)
  have hBA : Below w.heap.size w (w2.alloc (.cells #[.int .u32 p0, .int .u32 p1, .int .u32 p2, .int .u32 p3, .int .u32 p4, .bool true] 87)) := hB2.alloc hB2.size _
  generalize w2.alloc (.cells #[.int .u32 p0, .int .u32 p1, .int .u32 p2, .int .u32 p3, .int .u32 p4, .bool true] 87) = wA at x3 y3 hBA ⊢
  have hx := lt_of x3
  have hy := lt_of y3
  obtain ⟨c0, c1, c2, c3, c4, f0, f1, f2, f3, f4⟩ := five_of x3
  obtain ⟨d0, d1, d2, d3, d4, d5, g0, g1, g2, g3, g4, g5⟩ := six_of y3
  have KT := Lib.hid three_any
  have KL := Lib.hid (fun w => lref_any p0 p1 p2 p3 p4 w)
  first
  | (go_region_with (first
      | (go_at_call 40; (with_reducible refine (KL.out _).mono ?_); rintro e w4 ⟨rfl, hb4⟩; obtain ⟨⟨i0, i1, i2, i3, i4⟩, ⟨j0, j1, j2, j3, j4, j5⟩, hB4⟩ := keptCall (W := wA) (w1 := wA.drew) hx hy ⟨⟨c0, c1, c2, c3, c4⟩, ⟨d0, d1, d2, d3, d4, d5⟩, (Below.refl _ _).drew⟩ hb4; clear hb4)
      | (go_at_call 37; (with_reducible refine (KT.out _).mono ?_); rintro e w5 ⟨rfl, hb5⟩)))
  | fail
  all_goals
    have hB5 := below_chain hB4 hb5
    clear hb5 hB4
    go_wp2
    go_ret
    exact ⟨rfl, hBA.trans (hB5.mono hBA.size)⟩

set_option maxRecDepth 100000 in
set_option maxHeartbeats 1600000 in
theorem spicks_no (a b : ByteArray) (ha : a.size ≤ 200) (hb : b.size ≤ 200) (p0 p1 p2 p3 p4 : Nat) (w : World)
    (hP : Hid (∀ w, Calls Try.prog 44 #[.string a, .string b] w fun x w' => x = .returned (.tuple #[su5 p0 p1 p2 p3 p4, .int .i64 22]) ∧ Below w.heap.size w w'))
    (hR : Hid (∀ w, Calls Try.prog 45 #[.string a, .string b] w fun x w' => x = .returned (.agg #[.int .u32 p0, .int .u32 p1, .int .u32 p2, .int .u32 p3, .int .u32 p4, .bool false]) ∧ Below w.heap.size w w')) :
    Calls Try.prog 11 #[.string a, .string b] w fun x w' => x = .returned (.bool true) ∧ Below w.heap.size w w' := by
  have h1 : decide (200 < (a.size : Int)) = false := by simp; omega
  have h2 : decide (200 < (b.size : Int)) = false := by simp; omega
  go_enter Try.func11, Try.ntmps11
  go_wp2_with fail
  refine (hP.out _).mono ?_
  rintro x w1 ⟨rfl, hb1⟩
  go_wp2_with fail
  refine (hR.out _).mono ?_
  rintro x w2 ⟨rfl, hb2⟩
  have q2 := later_of (alloc_at w1 _) hb2
  have hB2 : Below w.heap.size w w2 := (hb1.alloc hb1.size _).trans (hb2.mono (by have := hb1.size; simp; omega))
  clear hb1 hb2
  go_wp2
  have x3 := alloc_old q2 (.cells #[.int .u32 p0, .int .u32 p1, .int .u32 p2, .int .u32 p3, .int .u32 p4, .bool false] 87)
  have y3 := alloc_at w2 (.cells #[.int .u32 p0, .int .u32 p1, .int .u32 p2, .int .u32 p3, .int .u32 p4, .bool false] 87)
  have hBA : Below w.heap.size w (w2.alloc (.cells #[.int .u32 p0, .int .u32 p1, .int .u32 p2, .int .u32 p3, .int .u32 p4, .bool false] 87)) := hB2.alloc hB2.size _
  generalize w2.alloc (.cells #[.int .u32 p0, .int .u32 p1, .int .u32 p2, .int .u32 p3, .int .u32 p4, .bool false] 87) = wA at x3 y3 hBA ⊢
  have hx := lt_of x3
  have hy := lt_of y3
  obtain ⟨c0, c1, c2, c3, c4, f0, f1, f2, f3, f4⟩ := five_of x3
  obtain ⟨d0, d1, d2, d3, d4, d5, g0, g1, g2, g3, g4, g5⟩ := six_of y3
  have KT := Lib.hid three_any
  have KL := Lib.hid (fun w => lref_any p0 p1 p2 p3 p4 w)
  go_region_held3 (fun w' => (w'.cell? ⟨w1.heap.size, 0, none⟩ = some (.int .u32 p0) ∧ w'.cell? ⟨w1.heap.size, 1, none⟩ = some (.int .u32 p1) ∧ w'.cell? ⟨w1.heap.size, 2, none⟩ = some (.int .u32 p2) ∧ w'.cell? ⟨w1.heap.size, 3, none⟩ = some (.int .u32 p3) ∧ w'.cell? ⟨w1.heap.size, 4, none⟩ = some (.int .u32 p4)) ∧ (w'.cell? ⟨w2.heap.size, 0, none⟩ = some (.int .u32 p0) ∧ w'.cell? ⟨w2.heap.size, 1, none⟩ = some (.int .u32 p1) ∧ w'.cell? ⟨w2.heap.size, 2, none⟩ = some (.int .u32 p2) ∧ w'.cell? ⟨w2.heap.size, 3, none⟩ = some (.int .u32 p3) ∧ w'.cell? ⟨w2.heap.size, 4, none⟩ = some (.int .u32 p4) ∧ w'.cell? ⟨w2.heap.size, 5, none⟩ = some (.bool false)) ∧ Below wA.heap.size wA w') (first | assumption | exact ⟨⟨c0, c1, c2, c3, c4⟩, ⟨d0, d1, d2, d3, d4, d5⟩, (Below.refl _ _).drew⟩ | exact keptCall hx hy (by assumption) hb)
    (first | (go_at_call 40; with_reducible refine (KL.out _).mono ?_; rintro e w4 ⟨rfl, hb⟩) | (go_at_call 37; with_reducible refine (KT.out _).mono ?_; rintro e w5 ⟨rfl, hb⟩))
  have hS5 : Kept w1.heap.size w2.heap.size p0 p1 p2 p3 p4 false wA w5 := by assumption
  have hB5 := hS5.2.2
  go_wp2
  go_ret
  exact ⟨rfl, hBA.trans (hB5.mono hBA.size)⟩

/-- SuperPicks answers true. -/
theorem spicks_any (a b : ByteArray) (ha : a.size ≤ 9223372036854775807) (hb : b.size ≤ 9223372036854775807) (w : World) :
    Calls Try.prog 11 #[.string a, .string b] w fun x w' => x = .returned (.bool true) ∧ Below w.heap.size w w' := by
  by_cases h1 : 200 < a.size
  · exact spicks_long1 a b h1 ha w
  by_cases h2 : 200 < b.size
  · exact spicks_long2 a b (by omega) h2 hb w
  obtain ⟨z0, z1, z2, z3, z4, ok, hP, hR⟩ := pick_both a b
  cases ok
  · exact spicks_no a b (by omega) (by omega) z0 z1 z2 z3 z4 w (fun w => hP w) (fun w => hR w)
  · exact spicks_ok a b (by omega) (by omega) z0 z1 z2 z3 z4 w (fun w => hP w) (fun w => hR w)

end Go.Proofs.Ytemdhcocbjcklaa.Print
