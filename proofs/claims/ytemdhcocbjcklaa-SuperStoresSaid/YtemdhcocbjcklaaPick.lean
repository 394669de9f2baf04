/- super.Place, super.at, super.Pick, the reference's Pick, and what the law asks of one super. -/
import Derived.Test.YtemdhcocbjcklaaSupLaw
import Derived.Laws.BitsAllLaws
namespace Go.Proofs.Ytemdhcocbjcklaa.Print
open Go.RowKit

set_option maxHeartbeats 400000 in
theorem place_any (a b c d e : Nat) (ha : a < 4294967296) (w : World) :
    Calls Try.prog 43 #[su5 a b c d e] w fun x w' => x = .returned (.int .i64 ((a : Int) % 2)) ∧ Below w.heap.size w w' := by
  have hbit : bits .and .u32 (a : Int) 1 = (a : Int) % 2 := by
    have h := u32_and_nat a 1 ha (by omega)
    rw [Nat.and_one_is_mod] at h
    simpa using h
  go_enter Try.func43, Try.ntmps43
  go_wp2
  go_ret
  exact ⟨rfl, (Below.refl _ _).alloc (Nat.le_refl _) _⟩

set_option maxHeartbeats 400000 in
theorem lref_any (a b c d e : Nat) (w : World) :
    Calls Try.prog 40 #[su5 a b c d e] w fun x w' => x = .returned (su5 a b c d e) ∧ Below w.heap.size w w' := by
  go_enter Try.func40, Try.ntmps40
  go_wp2
  exact bodyPost_ret (v := su5 a b c d e) (by simp [results, Try.results40, go_sem]) rfl ⟨rfl, ((Below.refl _ _).alloc (Nat.le_refl _) _).alloc (by simp) _⟩

abbrev atV (ok : Bool) (v : Nat → Nat) (here : Bool) : Value := .tuple #[if ok then su5 (v 0) (v 1) (v 2) (v 3) (v 4) else su5 0 0 0 0 0, .bool here]
set_option maxRecDepth 100000 in
set_option maxHeartbeats 800000 in
theorem at_no (s : ByteArray) (n : Int) (w : World) (hO : Hid (∀ w, Calls Try.prog 38 #[.string s] w fun x w' => x = .returned (.tuple #[su5 0 0 0 0 0, .int .i64 4]) ∧ Below w.heap.size w w')) :
    Calls Try.prog 74 #[.string s, .int .i64 n] w fun x w' => x = .returned (.tuple #[su5 0 0 0 0 0, .bool false]) ∧ Below w.heap.size w w' := by
  go_enter Try.func74, Try.ntmps74
  go_wp2_with fail
  refine (hO.out _).mono ?_
  rintro e w1 ⟨rfl, hb1⟩
  have z1 := later_of (alloc_at _ _) hb1
  have hB1 : Below w.heap.size w w1 := ((Below.refl _ _).alloc (Nat.le_refl _) _).trans (hb1.mono (by simp))
  obtain ⟨c0, c1, c2, c3, c4, f0, f1, f2, f3, f4⟩ := five_of z1
  have hlt := lt_of z1
  have hsz := hB1.size
  clear hb1
  go_wp2
  have x1 := alloc_at w1 (.cells #[.int .u32 (0), .int .u32 (0), .int .u32 (0), .int .u32 (0), .int .u32 (0)] 80)
  have y1 := alloc_old z1 (.cells #[.int .u32 (0), .int .u32 (0), .int .u32 (0), .int .u32 (0), .int .u32 (0)] 80)
  have hBA : Below w.heap.size w (w1.alloc (.cells #[.int .u32 (0), .int .u32 (0), .int .u32 (0), .int .u32 (0), .int .u32 (0)] 80)) := hB1.alloc hsz _
  clear c0 c1 c2 c3 c4 f0 f1 f2 f3 f4 z1 hB1
  generalize w1.alloc (.cells #[.int .u32 (0), .int .u32 (0), .int .u32 (0), .int .u32 (0), .int .u32 (0)] 80) = wA at x1 y1 hBA ⊢
  have hx := lt_of x1
  have hy := lt_of y1
  obtain ⟨c0, c1, c2, c3, c4, f0, f1, f2, f3, f4⟩ := five_of y1
  obtain ⟨d0, d1, d2, d3, d4, g0, g1, g2, g3, g4⟩ := five_of x1
  go_region
  all_goals go_wp2
  all_goals exact bodyPost_ret (v := .tuple #[su5 0 0 0 0 0, .bool false]) (by simp [results, Try.results74, go_sem, c0, c1, c2, c3, c4]) rfl ⟨rfl, by
    repeat (first | with_reducible refine Below.drew ?_ | with_reducible refine Below.setCell ?_ (by simp) _)
    exact hBA⟩

set_option maxRecDepth 100000 in
set_option maxHeartbeats 800000 in
theorem at_yes (s : ByteArray) (v : Nat → Nat) (h0 : v 0 < 4294967296) (n : Int) (here : Bool) (hh : (((v 0 : Nat) : Int) % 2 == n) = here) (w : World) (hO : Hid (∀ w, Calls Try.prog 38 #[.string s] w fun x w' => x = .returned (.tuple #[su5 (v 0) (v 1) (v 2) (v 3) (v 4), .int .i64 0]) ∧ Below w.heap.size w w')) :
    Calls Try.prog 74 #[.string s, .int .i64 n] w fun x w' => x = .returned (.tuple #[su5 (v 0) (v 1) (v 2) (v 3) (v 4), .bool here]) ∧ Below w.heap.size w w' := by
  go_enter Try.func74, Try.ntmps74
  go_wp2_with fail
  refine (hO.out _).mono ?_
  rintro e w1 ⟨rfl, hb1⟩
  have z1 := later_of (alloc_at _ _) hb1
  have hB1 : Below w.heap.size w w1 := ((Below.refl _ _).alloc (Nat.le_refl _) _).trans (hb1.mono (by simp))
  obtain ⟨c0, c1, c2, c3, c4, f0, f1, f2, f3, f4⟩ := five_of z1
  have hlt := lt_of z1
  have hsz := hB1.size
  clear hb1
  go_wp2
  have x1 := alloc_at w1 (.cells #[.int .u32 (v 0 : Nat), .int .u32 (v 1 : Nat), .int .u32 (v 2 : Nat), .int .u32 (v 3 : Nat), .int .u32 (v 4 : Nat)] 80)
  have y1 := alloc_old z1 (.cells #[.int .u32 (v 0 : Nat), .int .u32 (v 1 : Nat), .int .u32 (v 2 : Nat), .int .u32 (v 3 : Nat), .int .u32 (v 4 : Nat)] 80)
  have hBA : Below w.heap.size w (w1.alloc (.cells #[.int .u32 (v 0 : Nat), .int .u32 (v 1 : Nat), .int .u32 (v 2 : Nat), .int .u32 (v 3 : Nat), .int .u32 (v 4 : Nat)] 80)) := hB1.alloc hsz _
  clear c0 c1 c2 c3 c4 f0 f1 f2 f3 f4 z1 hB1
  generalize w1.alloc (.cells #[.int .u32 (v 0 : Nat), .int .u32 (v 1 : Nat), .int .u32 (v 2 : Nat), .int .u32 (v 3 : Nat), .int .u32 (v 4 : Nat)] 80) = wA at x1 y1 hBA ⊢
  have hx := lt_of x1
  have hy := lt_of y1
  obtain ⟨c0, c1, c2, c3, c4, f0, f1, f2, f3, f4⟩ := five_of y1
  obtain ⟨d0, d1, d2, d3, d4, g0, g1, g2, g3, g4⟩ := five_of x1
  go_region_with (first | ((with_reducible refine (place_any _ _ _ _ _ h0 _).mono ?_); rintro e w2 ⟨rfl, hb2⟩; have y2 := later_of (w1 := wA.drew) y1 hb2; have x2 := later_of (w1 := wA.drew) x1 hb2; obtain ⟨l0, l1, l2, l3, l4, m0, m1, m2, m3, m4⟩ := five_of y2; obtain ⟨n0, n1, n2, n3, n4, o0, o1, o2, o3, o4⟩ := five_of x2))
  all_goals
    have hB2 : Below w.heap.size w w2 := hBA.drew.trans (hb2.mono hBA.size)
    clear hb2 hBA
    go_wp2
    exact bodyPost_ret (v := .tuple #[su5 (v 0) (v 1) (v 2) (v 3) (v 4), .bool here]) (by simp [results, Try.results74, go_sem, l0, l1, l2, l3, l4]) rfl ⟨rfl, by
      iterate 5 with_reducible refine Below.setCell ?_ (by simp) _
      exact hB2⟩

/-- What super.at tells, by what Decode tells. -/
theorem at_any (s : ByteArray) (v : Nat → Nat) (ok : Bool) (h0 : v 0 < 4294967296) (n : Int) (hO : ∀ w, Calls Try.prog 38 #[.string s] w fun x w' => x = .returned (sdV ok v) ∧ Below w.heap.size w w') (w : World) :
    Calls Try.prog 74 #[.string s, .int .i64 n] w fun x w' => x = .returned (atV ok v (ok && (((v 0 : Nat) : Int) % 2 == n))) ∧ Below w.heap.size w w' := by
  cases ok
  · exact at_no s n w (fun w => hO w)
  · exact at_yes s v h0 n _ (by simp) w (fun w => hO w)

end Go.Proofs.Ytemdhcocbjcklaa.Print
