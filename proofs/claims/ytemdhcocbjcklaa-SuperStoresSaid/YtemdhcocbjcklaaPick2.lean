/- super.Pick and the reference's Pick. -/
import Derived.Test.YtemdhcocbjcklaaPick
namespace Go.Proofs.Ytemdhcocbjcklaa.Print
open Go.RowKit

set_option maxRecDepth 100000 in
set_option maxHeartbeats 800000 in
theorem pick_tf (a b : ByteArray) (x0 x1 x2 x3 x4 y0 y1 y2 y3 y4 : Nat) (w : World)
    (hA : Hid (∀ w, Calls Try.prog 74 #[.string a, .int .i64 0] w fun x w' => x = .returned (.tuple #[su5 x0 x1 x2 x3 x4, .bool true]) ∧ Below w.heap.size w w'))
    (hB : Hid (∀ w, Calls Try.prog 74 #[.string b, .int .i64 1] w fun x w' => x = .returned (.tuple #[su5 y0 y1 y2 y3 y4, .bool false]) ∧ Below w.heap.size w w')) :
    Calls Try.prog 44 #[.string a, .string b] w fun x w' => x = .returned (.tuple #[su5 x0 x1 x2 x3 x4, .int .i64 0]) ∧ Below w.heap.size w w' := by
  go_enter Try.func44, Try.ntmps44
  go_wp2_with fail
  refine (hA.out _).mono ?_
  rintro e w1 ⟨rfl, hb1⟩
  have z1 := later_of (alloc_at _ _) hb1
  have hB1 : Below w.heap.size w w1 := ((Below.refl _ _).alloc (Nat.le_refl _) _).trans (hb1.mono (by simp))
  have hsz1 := hB1.size
  have hl1 := lt_of z1
  clear hb1
  go_wp2_with fail
  refine (hB.out _).mono ?_
  rintro e w2 ⟨rfl, hb2⟩
  have z2 := later_of (alloc_old z1 _) hb2
  have q2 := later_of (alloc_at w1 _) hb2
  have hB2 : Below w.heap.size w w2 := (hB1.alloc hsz1 _).trans (hb2.mono (by simp; omega))
  have hsz2 := hB2.size
  have hl2 := lt_of z2
  have hm2 := lt_of q2
  clear hb2 z1 hB1
  obtain ⟨c0, c1, c2, c3, c4, f0, f1, f2, f3, f4⟩ := five_of z2
  obtain ⟨d0, d1, d2, d3, d4, g0, g1, g2, g3, g4⟩ := five_of q2
  go_wp2
  exact bodyPost_ret (v := .tuple #[su5 x0 x1 x2 x3 x4, .int .i64 0]) (by simp [results, Try.results44, go_sem, c0, c1, c2, c3, c4, hl2]) rfl ⟨rfl, by
    repeat (first | with_reducible refine Below.drew ?_ | with_reducible refine Below.setCell ?_ (by simp) _ | with_reducible refine Below.alloc ?_ (by simpa using hsz2) _)
    exact hB2⟩

set_option maxRecDepth 100000 in
set_option maxHeartbeats 800000 in
theorem pick_ttt (a b : ByteArray) (x0 x1 x2 x3 x4 y0 y1 y2 y3 y4 : Nat) (hg : decide (y0 < x0) = true) (w : World)
    (hA : Hid (∀ w, Calls Try.prog 74 #[.string a, .int .i64 0] w fun x w' => x = .returned (.tuple #[su5 x0 x1 x2 x3 x4, .bool true]) ∧ Below w.heap.size w w'))
    (hB : Hid (∀ w, Calls Try.prog 74 #[.string b, .int .i64 1] w fun x w' => x = .returned (.tuple #[su5 y0 y1 y2 y3 y4, .bool true]) ∧ Below w.heap.size w w')) :
    Calls Try.prog 44 #[.string a, .string b] w fun x w' => x = .returned (.tuple #[su5 x0 x1 x2 x3 x4, .int .i64 0]) ∧ Below w.heap.size w w' := by
  go_enter Try.func44, Try.ntmps44
  go_wp2_with fail
  refine (hA.out _).mono ?_
  rintro e w1 ⟨rfl, hb1⟩
  have z1 := later_of (alloc_at _ _) hb1
  have hB1 : Below w.heap.size w w1 := ((Below.refl _ _).alloc (Nat.le_refl _) _).trans (hb1.mono (by simp))
  have hsz1 := hB1.size
  have hl1 := lt_of z1
  clear hb1
  go_wp2_with fail
  refine (hB.out _).mono ?_
  rintro e w2 ⟨rfl, hb2⟩
  have z2 := later_of (alloc_old z1 _) hb2
  have q2 := later_of (alloc_at w1 _) hb2
  have hB2 : Below w.heap.size w w2 := (hB1.alloc hsz1 _).trans (hb2.mono (by simp; omega))
  have hsz2 := hB2.size
  have hl2 := lt_of z2
  have hm2 := lt_of q2
  clear hb2 z1 hB1
  obtain ⟨c0, c1, c2, c3, c4, f0, f1, f2, f3, f4⟩ := five_of z2
  obtain ⟨d0, d1, d2, d3, d4, g0, g1, g2, g3, g4⟩ := five_of q2
  go_wp2
  exact bodyPost_ret (v := .tuple #[su5 x0 x1 x2 x3 x4, .int .i64 0]) (by simp [results, Try.results44, go_sem, c0, c1, c2, c3, c4, hl2]) rfl ⟨rfl, by
    repeat (first | with_reducible refine Below.drew ?_ | with_reducible refine Below.setCell ?_ (by simp) _ | with_reducible refine Below.alloc ?_ (by simpa using hsz2) _)
    exact hB2⟩

set_option maxRecDepth 100000 in
set_option maxHeartbeats 800000 in
theorem pick_ttf (a b : ByteArray) (x0 x1 x2 x3 x4 y0 y1 y2 y3 y4 : Nat) (hg : decide (y0 < x0) = false) (w : World)
    (hA : Hid (∀ w, Calls Try.prog 74 #[.string a, .int .i64 0] w fun x w' => x = .returned (.tuple #[su5 x0 x1 x2 x3 x4, .bool true]) ∧ Below w.heap.size w w'))
    (hB : Hid (∀ w, Calls Try.prog 74 #[.string b, .int .i64 1] w fun x w' => x = .returned (.tuple #[su5 y0 y1 y2 y3 y4, .bool true]) ∧ Below w.heap.size w w')) :
    Calls Try.prog 44 #[.string a, .string b] w fun x w' => x = .returned (.tuple #[su5 y0 y1 y2 y3 y4, .int .i64 0]) ∧ Below w.heap.size w w' := by
  go_enter Try.func44, Try.ntmps44
  go_wp2_with fail
  refine (hA.out _).mono ?_
  rintro e w1 ⟨rfl, hb1⟩
  have z1 := later_of (alloc_at _ _) hb1
  have hB1 : Below w.heap.size w w1 := ((Below.refl _ _).alloc (Nat.le_refl _) _).trans (hb1.mono (by simp))
  have hsz1 := hB1.size
  have hl1 := lt_of z1
  clear hb1
  go_wp2_with fail
  refine (hB.out _).mono ?_
  rintro e w2 ⟨rfl, hb2⟩
  have z2 := later_of (alloc_old z1 _) hb2
  have q2 := later_of (alloc_at w1 _) hb2
  have hB2 : Below w.heap.size w w2 := (hB1.alloc hsz1 _).trans (hb2.mono (by simp; omega))
  have hsz2 := hB2.size
  have hl2 := lt_of z2
  have hm2 := lt_of q2
  clear hb2 z1 hB1
  obtain ⟨c0, c1, c2, c3, c4, f0, f1, f2, f3, f4⟩ := five_of z2
  obtain ⟨d0, d1, d2, d3, d4, g0, g1, g2, g3, g4⟩ := five_of q2
  go_wp2
  exact bodyPost_ret (v := .tuple #[su5 y0 y1 y2 y3 y4, .int .i64 0]) (by simp [results, Try.results44, go_sem, c0, c1, c2, c3, c4, hl2]) rfl ⟨rfl, by
    repeat (first | with_reducible refine Below.drew ?_ | with_reducible refine Below.setCell ?_ (by simp) _ | with_reducible refine Below.alloc ?_ (by simpa using hsz2) _)
    exact hB2⟩

set_option maxRecDepth 100000 in
set_option maxHeartbeats 800000 in
theorem pick_ft (a b : ByteArray) (x0 x1 x2 x3 x4 y0 y1 y2 y3 y4 : Nat) (w : World)
    (hA : Hid (∀ w, Calls Try.prog 74 #[.string a, .int .i64 0] w fun x w' => x = .returned (.tuple #[su5 x0 x1 x2 x3 x4, .bool false]) ∧ Below w.heap.size w w'))
    (hB : Hid (∀ w, Calls Try.prog 74 #[.string b, .int .i64 1] w fun x w' => x = .returned (.tuple #[su5 y0 y1 y2 y3 y4, .bool true]) ∧ Below w.heap.size w w')) :
    Calls Try.prog 44 #[.string a, .string b] w fun x w' => x = .returned (.tuple #[su5 y0 y1 y2 y3 y4, .int .i64 0]) ∧ Below w.heap.size w w' := by
  go_enter Try.func44, Try.ntmps44
  go_wp2_with fail
  refine (hA.out _).mono ?_
  rintro e w1 ⟨rfl, hb1⟩
  have z1 := later_of (alloc_at _ _) hb1
  have hB1 : Below w.heap.size w w1 := ((Below.refl _ _).alloc (Nat.le_refl _) _).trans (hb1.mono (by simp))
  have hsz1 := hB1.size
  have hl1 := lt_of z1
  clear hb1
  go_wp2_with fail
  refine (hB.out _).mono ?_
  rintro e w2 ⟨rfl, hb2⟩
  have z2 := later_of (alloc_old z1 _) hb2
  have q2 := later_of (alloc_at w1 _) hb2
  have hB2 : Below w.heap.size w w2 := (hB1.alloc hsz1 _).trans (hb2.mono (by simp; omega))
  have hsz2 := hB2.size
  have hl2 := lt_of z2
  have hm2 := lt_of q2
  clear hb2 z1 hB1
  obtain ⟨c0, c1, c2, c3, c4, f0, f1, f2, f3, f4⟩ := five_of z2
  obtain ⟨d0, d1, d2, d3, d4, g0, g1, g2, g3, g4⟩ := five_of q2
  go_wp2
  exact bodyPost_ret (v := .tuple #[su5 y0 y1 y2 y3 y4, .int .i64 0]) (by simp [results, Try.results44, go_sem, c0, c1, c2, c3, c4, hl2]) rfl ⟨rfl, by
    repeat (first | with_reducible refine Below.drew ?_ | with_reducible refine Below.setCell ?_ (by simp) _ | with_reducible refine Below.alloc ?_ (by simpa using hsz2) _)
    exact hB2⟩

set_option maxRecDepth 100000 in
set_option maxHeartbeats 800000 in
theorem pick_ff (a b : ByteArray) (x0 x1 x2 x3 x4 y0 y1 y2 y3 y4 : Nat) (w : World)
    (hA : Hid (∀ w, Calls Try.prog 74 #[.string a, .int .i64 0] w fun x w' => x = .returned (.tuple #[su5 x0 x1 x2 x3 x4, .bool false]) ∧ Below w.heap.size w w'))
    (hB : Hid (∀ w, Calls Try.prog 74 #[.string b, .int .i64 1] w fun x w' => x = .returned (.tuple #[su5 y0 y1 y2 y3 y4, .bool false]) ∧ Below w.heap.size w w')) :
    Calls Try.prog 44 #[.string a, .string b] w fun x w' => x = .returned (.tuple #[su5 0 0 0 0 0, .int .i64 22]) ∧ Below w.heap.size w w' := by
  go_enter Try.func44, Try.ntmps44
  go_wp2_with fail
  refine (hA.out _).mono ?_
  rintro e w1 ⟨rfl, hb1⟩
  have z1 := later_of (alloc_at _ _) hb1
  have hB1 : Below w.heap.size w w1 := ((Below.refl _ _).alloc (Nat.le_refl _) _).trans (hb1.mono (by simp))
  have hsz1 := hB1.size
  have hl1 := lt_of z1
  clear hb1
  go_wp2_with fail
  refine (hB.out _).mono ?_
  rintro e w2 ⟨rfl, hb2⟩
  have z2 := later_of (alloc_old z1 _) hb2
  have q2 := later_of (alloc_at w1 _) hb2
  have hB2 : Below w.heap.size w w2 := (hB1.alloc hsz1 _).trans (hb2.mono (by simp; omega))
  have hsz2 := hB2.size
  have hl2 := lt_of z2
  have hm2 := lt_of q2
  clear hb2 z1 hB1
  obtain ⟨c0, c1, c2, c3, c4, f0, f1, f2, f3, f4⟩ := five_of z2
  obtain ⟨d0, d1, d2, d3, d4, g0, g1, g2, g3, g4⟩ := five_of q2
  go_wp2
  exact bodyPost_ret (v := .tuple #[su5 0 0 0 0 0, .int .i64 22]) (by simp [results, Try.results44, go_sem, c0, c1, c2, c3, c4, hl2]) rfl ⟨rfl, by
    repeat (first | with_reducible refine Below.drew ?_ | with_reducible refine Below.setCell ?_ (by simp) _ | with_reducible refine Below.alloc ?_ (by simpa using hsz2) _)
    exact hB2⟩

set_option maxRecDepth 100000 in
set_option maxHeartbeats 800000 in
theorem rpick_ttttt (a b : ByteArray) (x0 x1 x2 x3 x4 y0 y1 y2 y3 y4 : Nat) (hp1 : ((x0 : Int) % 2 == 0) = true) (hp2 : ((y0 : Int) % 2 == 1) = true) (hg : decide (y0 < x0) = true) (w : World)
    (hA : Hid (∀ w, Calls Try.prog 39 #[.string a] w fun x w' => x = .returned (.agg #[.int .u32 x0, .int .u32 x1, .int .u32 x2, .int .u32 x3, .int .u32 x4, .bool true]) ∧ Below w.heap.size w w'))
    (hB : Hid (∀ w, Calls Try.prog 39 #[.string b] w fun x w' => x = .returned (.agg #[.int .u32 y0, .int .u32 y1, .int .u32 y2, .int .u32 y3, .int .u32 y4, .bool true]) ∧ Below w.heap.size w w')) :
    Calls Try.prog 45 #[.string a, .string b] w fun x w' => x = .returned (.agg #[.int .u32 x0, .int .u32 x1, .int .u32 x2, .int .u32 x3, .int .u32 x4, .bool true]) ∧ Below w.heap.size w w' := by
  go_enter Try.func45, Try.ntmps45
  go_wp2_with fail
  refine (hA.out _).mono ?_
  rintro e w1 ⟨rfl, hb1⟩
  have z1 := later_of (alloc_at _ _) hb1
  have hB1 : Below w.heap.size w w1 := ((Below.refl _ _).alloc (Nat.le_refl _) _).trans (hb1.mono (by simp))
  have hsz1 := hB1.size
  have hl1 := lt_of z1
  clear hb1
  go_wp2_with fail
  refine (hB.out _).mono ?_
  rintro e w2 ⟨rfl, hb2⟩
  have z2 := later_of (alloc_old z1 _) hb2
  have q2 := later_of (alloc_at w1 _) hb2
  have hB2 : Below w.heap.size w w2 := (hB1.alloc hsz1 _).trans (hb2.mono (by simp; omega))
  have hsz2 := hB2.size
  have hl2 := lt_of z2
  have hm2 := lt_of q2
  clear hb2 z1 hB1
  obtain ⟨c0, c1, c2, c3, c4, c5, f0, f1, f2, f3, f4, f5⟩ := six_of z2
  obtain ⟨d0, d1, d2, d3, d4, d5, g0, g1, g2, g3, g4, g5⟩ := six_of q2
  go_wp2
  exact bodyPost_ret (v := .agg #[.int .u32 x0, .int .u32 x1, .int .u32 x2, .int .u32 x3, .int .u32 x4, .bool true]) (by simp [results, Try.results45, go_sem, c0, c1, c2, c3, c4, c5, hl2]) rfl ⟨rfl, by
    repeat (first | with_reducible refine Below.drew ?_ | with_reducible refine Below.setCell ?_ (by simp) _ | with_reducible refine Below.alloc ?_ (by simpa using hsz2) _)
    exact hB2⟩

set_option maxRecDepth 100000 in
set_option maxHeartbeats 800000 in
theorem rpick_ttttf (a b : ByteArray) (x0 x1 x2 x3 x4 y0 y1 y2 y3 y4 : Nat) (hp1 : ((x0 : Int) % 2 == 0) = true) (hp2 : ((y0 : Int) % 2 == 1) = true) (hg : decide (y0 < x0) = false) (w : World)
    (hA : Hid (∀ w, Calls Try.prog 39 #[.string a] w fun x w' => x = .returned (.agg #[.int .u32 x0, .int .u32 x1, .int .u32 x2, .int .u32 x3, .int .u32 x4, .bool true]) ∧ Below w.heap.size w w'))
    (hB : Hid (∀ w, Calls Try.prog 39 #[.string b] w fun x w' => x = .returned (.agg #[.int .u32 y0, .int .u32 y1, .int .u32 y2, .int .u32 y3, .int .u32 y4, .bool true]) ∧ Below w.heap.size w w')) :
    Calls Try.prog 45 #[.string a, .string b] w fun x w' => x = .returned (.agg #[.int .u32 y0, .int .u32 y1, .int .u32 y2, .int .u32 y3, .int .u32 y4, .bool true]) ∧ Below w.heap.size w w' := by
  go_enter Try.func45, Try.ntmps45
  go_wp2_with fail
  refine (hA.out _).mono ?_
  rintro e w1 ⟨rfl, hb1⟩
  have z1 := later_of (alloc_at _ _) hb1
  have hB1 : Below w.heap.size w w1 := ((Below.refl _ _).alloc (Nat.le_refl _) _).trans (hb1.mono (by simp))
  have hsz1 := hB1.size
  have hl1 := lt_of z1
  clear hb1
  go_wp2_with fail
  refine (hB.out _).mono ?_
  rintro e w2 ⟨rfl, hb2⟩
  have z2 := later_of (alloc_old z1 _) hb2
  have q2 := later_of (alloc_at w1 _) hb2
  have hB2 : Below w.heap.size w w2 := (hB1.alloc hsz1 _).trans (hb2.mono (by simp; omega))
  have hsz2 := hB2.size
  have hl2 := lt_of z2
  have hm2 := lt_of q2
  clear hb2 z1 hB1
  obtain ⟨c0, c1, c2, c3, c4, c5, f0, f1, f2, f3, f4, f5⟩ := six_of z2
  obtain ⟨d0, d1, d2, d3, d4, d5, g0, g1, g2, g3, g4, g5⟩ := six_of q2
  go_wp2
  exact bodyPost_ret (v := .agg #[.int .u32 y0, .int .u32 y1, .int .u32 y2, .int .u32 y3, .int .u32 y4, .bool true]) (by simp [results, Try.results45, go_sem, c0, c1, c2, c3, c4, c5, hl2]) rfl ⟨rfl, by
    repeat (first | with_reducible refine Below.drew ?_ | with_reducible refine Below.setCell ?_ (by simp) _ | with_reducible refine Below.alloc ?_ (by simpa using hsz2) _)
    exact hB2⟩

set_option maxRecDepth 100000 in
set_option maxHeartbeats 800000 in
theorem rpick_tttfn (a b : ByteArray) (x0 x1 x2 x3 x4 y0 y1 y2 y3 y4 : Nat) (hp1 : ((x0 : Int) % 2 == 0) = true) (hp2 : ((y0 : Int) % 2 == 1) = false) (w : World)
    (hA : Hid (∀ w, Calls Try.prog 39 #[.string a] w fun x w' => x = .returned (.agg #[.int .u32 x0, .int .u32 x1, .int .u32 x2, .int .u32 x3, .int .u32 x4, .bool true]) ∧ Below w.heap.size w w'))
    (hB : Hid (∀ w, Calls Try.prog 39 #[.string b] w fun x w' => x = .returned (.agg #[.int .u32 y0, .int .u32 y1, .int .u32 y2, .int .u32 y3, .int .u32 y4, .bool true]) ∧ Below w.heap.size w w')) :
    Calls Try.prog 45 #[.string a, .string b] w fun x w' => x = .returned (.agg #[.int .u32 x0, .int .u32 x1, .int .u32 x2, .int .u32 x3, .int .u32 x4, .bool true]) ∧ Below w.heap.size w w' := by
  go_enter Try.func45, Try.ntmps45
  go_wp2_with fail
  refine (hA.out _).mono ?_
  rintro e w1 ⟨rfl, hb1⟩
  have z1 := later_of (alloc_at _ _) hb1
  have hB1 : Below w.heap.size w w1 := ((Below.refl _ _).alloc (Nat.le_refl _) _).trans (hb1.mono (by simp))
  have hsz1 := hB1.size
  have hl1 := lt_of z1
  clear hb1
  go_wp2_with fail
  refine (hB.out _).mono ?_
  rintro e w2 ⟨rfl, hb2⟩
  have z2 := later_of (alloc_old z1 _) hb2
  have q2 := later_of (alloc_at w1 _) hb2
  have hB2 : Below w.heap.size w w2 := (hB1.alloc hsz1 _).trans (hb2.mono (by simp; omega))
  have hsz2 := hB2.size
  have hl2 := lt_of z2
  have hm2 := lt_of q2
  clear hb2 z1 hB1
  obtain ⟨c0, c1, c2, c3, c4, c5, f0, f1, f2, f3, f4, f5⟩ := six_of z2
  obtain ⟨d0, d1, d2, d3, d4, d5, g0, g1, g2, g3, g4, g5⟩ := six_of q2
  go_wp2
  exact bodyPost_ret (v := .agg #[.int .u32 x0, .int .u32 x1, .int .u32 x2, .int .u32 x3, .int .u32 x4, .bool true]) (by simp [results, Try.results45, go_sem, c0, c1, c2, c3, c4, c5, hl2]) rfl ⟨rfl, by
    repeat (first | with_reducible refine Below.drew ?_ | with_reducible refine Below.setCell ?_ (by simp) _ | with_reducible refine Below.alloc ?_ (by simpa using hsz2) _)
    exact hB2⟩

set_option maxRecDepth 100000 in
set_option maxHeartbeats 800000 in
theorem rpick_ttfnn (a b : ByteArray) (x0 x1 x2 x3 x4 y0 y1 y2 y3 y4 : Nat) (hp1 : ((x0 : Int) % 2 == 0) = true) (w : World)
    (hA : Hid (∀ w, Calls Try.prog 39 #[.string a] w fun x w' => x = .returned (.agg #[.int .u32 x0, .int .u32 x1, .int .u32 x2, .int .u32 x3, .int .u32 x4, .bool true]) ∧ Below w.heap.size w w'))
    (hB : Hid (∀ w, Calls Try.prog 39 #[.string b] w fun x w' => x = .returned (.agg #[.int .u32 y0, .int .u32 y1, .int .u32 y2, .int .u32 y3, .int .u32 y4, .bool false]) ∧ Below w.heap.size w w')) :
    Calls Try.prog 45 #[.string a, .string b] w fun x w' => x = .returned (.agg #[.int .u32 x0, .int .u32 x1, .int .u32 x2, .int .u32 x3, .int .u32 x4, .bool true]) ∧ Below w.heap.size w w' := by
  go_enter Try.func45, Try.ntmps45
  go_wp2_with fail
  refine (hA.out _).mono ?_
  rintro e w1 ⟨rfl, hb1⟩
  have z1 := later_of (alloc_at _ _) hb1
  have hB1 : Below w.heap.size w w1 := ((Below.refl _ _).alloc (Nat.le_refl _) _).trans (hb1.mono (by simp))
  have hsz1 := hB1.size
  have hl1 := lt_of z1
  clear hb1
  go_wp2_with fail
  refine (hB.out _).mono ?_
  rintro e w2 ⟨rfl, hb2⟩
  have z2 := later_of (alloc_old z1 _) hb2
  have q2 := later_of (alloc_at w1 _) hb2
  have hB2 : Below w.heap.size w w2 := (hB1.alloc hsz1 _).trans (hb2.mono (by simp; omega))
  have hsz2 := hB2.size
  have hl2 := lt_of z2
  have hm2 := lt_of q2
  clear hb2 z1 hB1
  obtain ⟨c0, c1, c2, c3, c4, c5, f0, f1, f2, f3, f4, f5⟩ := six_of z2
  obtain ⟨d0, d1, d2, d3, d4, d5, g0, g1, g2, g3, g4, g5⟩ := six_of q2
  go_wp2
  exact bodyPost_ret (v := .agg #[.int .u32 x0, .int .u32 x1, .int .u32 x2, .int .u32 x3, .int .u32 x4, .bool true]) (by simp [results, Try.results45, go_sem, c0, c1, c2, c3, c4, c5, hl2]) rfl ⟨rfl, by
    repeat (first | with_reducible refine Below.drew ?_ | with_reducible refine Below.setCell ?_ (by simp) _ | with_reducible refine Below.alloc ?_ (by simpa using hsz2) _)
    exact hB2⟩

set_option maxRecDepth 100000 in
set_option maxHeartbeats 800000 in
theorem rpick_tfttn (a b : ByteArray) (x0 x1 x2 x3 x4 y0 y1 y2 y3 y4 : Nat) (hp1 : ((x0 : Int) % 2 == 0) = false) (hp2 : ((y0 : Int) % 2 == 1) = true) (w : World)
    (hA : Hid (∀ w, Calls Try.prog 39 #[.string a] w fun x w' => x = .returned (.agg #[.int .u32 x0, .int .u32 x1, .int .u32 x2, .int .u32 x3, .int .u32 x4, .bool true]) ∧ Below w.heap.size w w'))
    (hB : Hid (∀ w, Calls Try.prog 39 #[.string b] w fun x w' => x = .returned (.agg #[.int .u32 y0, .int .u32 y1, .int .u32 y2, .int .u32 y3, .int .u32 y4, .bool true]) ∧ Below w.heap.size w w')) :
    Calls Try.prog 45 #[.string a, .string b] w fun x w' => x = .returned (.agg #[.int .u32 y0, .int .u32 y1, .int .u32 y2, .int .u32 y3, .int .u32 y4, .bool true]) ∧ Below w.heap.size w w' := by
  go_enter Try.func45, Try.ntmps45
  go_wp2_with fail
  refine (hA.out _).mono ?_
  rintro e w1 ⟨rfl, hb1⟩
  have z1 := later_of (alloc_at _ _) hb1
  have hB1 : Below w.heap.size w w1 := ((Below.refl _ _).alloc (Nat.le_refl _) _).trans (hb1.mono (by simp))
  have hsz1 := hB1.size
  have hl1 := lt_of z1
  clear hb1
  go_wp2_with fail
  refine (hB.out _).mono ?_
  rintro e w2 ⟨rfl, hb2⟩
  have z2 := later_of (alloc_old z1 _) hb2
  have q2 := later_of (alloc_at w1 _) hb2
  have hB2 : Below w.heap.size w w2 := (hB1.alloc hsz1 _).trans (hb2.mono (by simp; omega))
  have hsz2 := hB2.size
  have hl2 := lt_of z2
  have hm2 := lt_of q2
  clear hb2 z1 hB1
  obtain ⟨c0, c1, c2, c3, c4, c5, f0, f1, f2, f3, f4, f5⟩ := six_of z2
  obtain ⟨d0, d1, d2, d3, d4, d5, g0, g1, g2, g3, g4, g5⟩ := six_of q2
  go_wp2
  exact bodyPost_ret (v := .agg #[.int .u32 y0, .int .u32 y1, .int .u32 y2, .int .u32 y3, .int .u32 y4, .bool true]) (by simp [results, Try.results45, go_sem, c0, c1, c2, c3, c4, c5, hl2]) rfl ⟨rfl, by
    repeat (first | with_reducible refine Below.drew ?_ | with_reducible refine Below.setCell ?_ (by simp) _ | with_reducible refine Below.alloc ?_ (by simpa using hsz2) _)
    exact hB2⟩

set_option maxRecDepth 100000 in
set_option maxHeartbeats 800000 in
theorem rpick_tftfn (a b : ByteArray) (x0 x1 x2 x3 x4 y0 y1 y2 y3 y4 : Nat) (hp1 : ((x0 : Int) % 2 == 0) = false) (hp2 : ((y0 : Int) % 2 == 1) = false) (w : World)
    (hA : Hid (∀ w, Calls Try.prog 39 #[.string a] w fun x w' => x = .returned (.agg #[.int .u32 x0, .int .u32 x1, .int .u32 x2, .int .u32 x3, .int .u32 x4, .bool true]) ∧ Below w.heap.size w w'))
    (hB : Hid (∀ w, Calls Try.prog 39 #[.string b] w fun x w' => x = .returned (.agg #[.int .u32 y0, .int .u32 y1, .int .u32 y2, .int .u32 y3, .int .u32 y4, .bool true]) ∧ Below w.heap.size w w')) :
    Calls Try.prog 45 #[.string a, .string b] w fun x w' => x = .returned (.agg #[.int .u32 0, .int .u32 0, .int .u32 0, .int .u32 0, .int .u32 0, .bool false]) ∧ Below w.heap.size w w' := by
  go_enter Try.func45, Try.ntmps45
  go_wp2_with fail
  refine (hA.out _).mono ?_
  rintro e w1 ⟨rfl, hb1⟩
  have z1 := later_of (alloc_at _ _) hb1
  have hB1 : Below w.heap.size w w1 := ((Below.refl _ _).alloc (Nat.le_refl _) _).trans (hb1.mono (by simp))
  have hsz1 := hB1.size
  have hl1 := lt_of z1
  clear hb1
  go_wp2_with fail
  refine (hB.out _).mono ?_
  rintro e w2 ⟨rfl, hb2⟩
  have z2 := later_of (alloc_old z1 _) hb2
  have q2 := later_of (alloc_at w1 _) hb2
  have hB2 : Below w.heap.size w w2 := (hB1.alloc hsz1 _).trans (hb2.mono (by simp; omega))
  have hsz2 := hB2.size
  have hl2 := lt_of z2
  have hm2 := lt_of q2
  clear hb2 z1 hB1
  obtain ⟨c0, c1, c2, c3, c4, c5, f0, f1, f2, f3, f4, f5⟩ := six_of z2
  obtain ⟨d0, d1, d2, d3, d4, d5, g0, g1, g2, g3, g4, g5⟩ := six_of q2
  go_wp2
  exact bodyPost_ret (v := .agg #[.int .u32 0, .int .u32 0, .int .u32 0, .int .u32 0, .int .u32 0, .bool false]) (by simp [results, Try.results45, go_sem, c0, c1, c2, c3, c4, c5, hl2]) rfl ⟨rfl, by
    repeat (first | with_reducible refine Below.drew ?_ | with_reducible refine Below.setCell ?_ (by simp) _ | with_reducible refine Below.alloc ?_ (by simpa using hsz2) _)
    exact hB2⟩

set_option maxRecDepth 100000 in
set_option maxHeartbeats 800000 in
theorem rpick_tffnn (a b : ByteArray) (x0 x1 x2 x3 x4 y0 y1 y2 y3 y4 : Nat) (hp1 : ((x0 : Int) % 2 == 0) = false) (w : World)
    (hA : Hid (∀ w, Calls Try.prog 39 #[.string a] w fun x w' => x = .returned (.agg #[.int .u32 x0, .int .u32 x1, .int .u32 x2, .int .u32 x3, .int .u32 x4, .bool true]) ∧ Below w.heap.size w w'))
    (hB : Hid (∀ w, Calls Try.prog 39 #[.string b] w fun x w' => x = .returned (.agg #[.int .u32 y0, .int .u32 y1, .int .u32 y2, .int .u32 y3, .int .u32 y4, .bool false]) ∧ Below w.heap.size w w')) :
    Calls Try.prog 45 #[.string a, .string b] w fun x w' => x = .returned (.agg #[.int .u32 0, .int .u32 0, .int .u32 0, .int .u32 0, .int .u32 0, .bool false]) ∧ Below w.heap.size w w' := by
  go_enter Try.func45, Try.ntmps45
  go_wp2_with fail
  refine (hA.out _).mono ?_
  rintro e w1 ⟨rfl, hb1⟩
  have z1 := later_of (alloc_at _ _) hb1
  have hB1 : Below w.heap.size w w1 := ((Below.refl _ _).alloc (Nat.le_refl _) _).trans (hb1.mono (by simp))
  have hsz1 := hB1.size
  have hl1 := lt_of z1
  clear hb1
  go_wp2_with fail
  refine (hB.out _).mono ?_
  rintro e w2 ⟨rfl, hb2⟩
  have z2 := later_of (alloc_old z1 _) hb2
  have q2 := later_of (alloc_at w1 _) hb2
  have hB2 : Below w.heap.size w w2 := (hB1.alloc hsz1 _).trans (hb2.mono (by simp; omega))
  have hsz2 := hB2.size
  have hl2 := lt_of z2
  have hm2 := lt_of q2
  clear hb2 z1 hB1
  obtain ⟨c0, c1, c2, c3, c4, c5, f0, f1, f2, f3, f4, f5⟩ := six_of z2
  obtain ⟨d0, d1, d2, d3, d4, d5, g0, g1, g2, g3, g4, g5⟩ := six_of q2
  go_wp2
  exact bodyPost_ret (v := .agg #[.int .u32 0, .int .u32 0, .int .u32 0, .int .u32 0, .int .u32 0, .bool false]) (by simp [results, Try.results45, go_sem, c0, c1, c2, c3, c4, c5, hl2]) rfl ⟨rfl, by
    repeat (first | with_reducible refine Below.drew ?_ | with_reducible refine Below.setCell ?_ (by simp) _ | with_reducible refine Below.alloc ?_ (by simpa using hsz2) _)
    exact hB2⟩

set_option maxRecDepth 100000 in
set_option maxHeartbeats 800000 in
theorem rpick_fnttn (a b : ByteArray) (x0 x1 x2 x3 x4 y0 y1 y2 y3 y4 : Nat) (hp2 : ((y0 : Int) % 2 == 1) = true) (w : World)
    (hA : Hid (∀ w, Calls Try.prog 39 #[.string a] w fun x w' => x = .returned (.agg #[.int .u32 x0, .int .u32 x1, .int .u32 x2, .int .u32 x3, .int .u32 x4, .bool false]) ∧ Below w.heap.size w w'))
    (hB : Hid (∀ w, Calls Try.prog 39 #[.string b] w fun x w' => x = .returned (.agg #[.int .u32 y0, .int .u32 y1, .int .u32 y2, .int .u32 y3, .int .u32 y4, .bool true]) ∧ Below w.heap.size w w')) :
    Calls Try.prog 45 #[.string a, .string b] w fun x w' => x = .returned (.agg #[.int .u32 y0, .int .u32 y1, .int .u32 y2, .int .u32 y3, .int .u32 y4, .bool true]) ∧ Below w.heap.size w w' := by
  go_enter Try.func45, Try.ntmps45
  go_wp2_with fail
  refine (hA.out _).mono ?_
  rintro e w1 ⟨rfl, hb1⟩
  have z1 := later_of (alloc_at _ _) hb1
  have hB1 : Below w.heap.size w w1 := ((Below.refl _ _).alloc (Nat.le_refl _) _).trans (hb1.mono (by simp))
  have hsz1 := hB1.size
  have hl1 := lt_of z1
  clear hb1
  go_wp2_with fail
  refine (hB.out _).mono ?_
  rintro e w2 ⟨rfl, hb2⟩
  have z2 := later_of (alloc_old z1 _) hb2
  have q2 := later_of (alloc_at w1 _) hb2
  have hB2 : Below w.heap.size w w2 := (hB1.alloc hsz1 _).trans (hb2.mono (by simp; omega))
  have hsz2 := hB2.size
  have hl2 := lt_of z2
  have hm2 := lt_of q2
  clear hb2 z1 hB1
  obtain ⟨c0, c1, c2, c3, c4, c5, f0, f1, f2, f3, f4, f5⟩ := six_of z2
  obtain ⟨d0, d1, d2, d3, d4, d5, g0, g1, g2, g3, g4, g5⟩ := six_of q2
  go_wp2
  exact bodyPost_ret (v := .agg #[.int .u32 y0, .int .u32 y1, .int .u32 y2, .int .u32 y3, .int .u32 y4, .bool true]) (by simp [results, Try.results45, go_sem, c0, c1, c2, c3, c4, c5, hl2]) rfl ⟨rfl, by
    repeat (first | with_reducible refine Below.drew ?_ | with_reducible refine Below.setCell ?_ (by simp) _ | with_reducible refine Below.alloc ?_ (by simpa using hsz2) _)
    exact hB2⟩

set_option maxRecDepth 100000 in
set_option maxHeartbeats 800000 in
theorem rpick_fntfn (a b : ByteArray) (x0 x1 x2 x3 x4 y0 y1 y2 y3 y4 : Nat) (hp2 : ((y0 : Int) % 2 == 1) = false) (w : World)
    (hA : Hid (∀ w, Calls Try.prog 39 #[.string a] w fun x w' => x = .returned (.agg #[.int .u32 x0, .int .u32 x1, .int .u32 x2, .int .u32 x3, .int .u32 x4, .bool false]) ∧ Below w.heap.size w w'))
    (hB : Hid (∀ w, Calls Try.prog 39 #[.string b] w fun x w' => x = .returned (.agg #[.int .u32 y0, .int .u32 y1, .int .u32 y2, .int .u32 y3, .int .u32 y4, .bool true]) ∧ Below w.heap.size w w')) :
    Calls Try.prog 45 #[.string a, .string b] w fun x w' => x = .returned (.agg #[.int .u32 0, .int .u32 0, .int .u32 0, .int .u32 0, .int .u32 0, .bool false]) ∧ Below w.heap.size w w' := by
  go_enter Try.func45, Try.ntmps45
  go_wp2_with fail
  refine (hA.out _).mono ?_
  rintro e w1 ⟨rfl, hb1⟩
  have z1 := later_of (alloc_at _ _) hb1
  have hB1 : Below w.heap.size w w1 := ((Below.refl _ _).alloc (Nat.le_refl _) _).trans (hb1.mono (by simp))
  have hsz1 := hB1.size
  have hl1 := lt_of z1
  clear hb1
  go_wp2_with fail
  refine (hB.out _).mono ?_
  rintro e w2 ⟨rfl, hb2⟩
  have z2 := later_of (alloc_old z1 _) hb2
  have q2 := later_of (alloc_at w1 _) hb2
  have hB2 : Below w.heap.size w w2 := (hB1.alloc hsz1 _).trans (hb2.mono (by simp; omega))
  have hsz2 := hB2.size
  have hl2 := lt_of z2
  have hm2 := lt_of q2
  clear hb2 z1 hB1
  obtain ⟨c0, c1, c2, c3, c4, c5, f0, f1, f2, f3, f4, f5⟩ := six_of z2
  obtain ⟨d0, d1, d2, d3, d4, d5, g0, g1, g2, g3, g4, g5⟩ := six_of q2
  go_wp2
  exact bodyPost_ret (v := .agg #[.int .u32 0, .int .u32 0, .int .u32 0, .int .u32 0, .int .u32 0, .bool false]) (by simp [results, Try.results45, go_sem, c0, c1, c2, c3, c4, c5, hl2]) rfl ⟨rfl, by
    repeat (first | with_reducible refine Below.drew ?_ | with_reducible refine Below.setCell ?_ (by simp) _ | with_reducible refine Below.alloc ?_ (by simpa using hsz2) _)
    exact hB2⟩

set_option maxRecDepth 100000 in
set_option maxHeartbeats 800000 in
theorem rpick_fnfnn (a b : ByteArray) (x0 x1 x2 x3 x4 y0 y1 y2 y3 y4 : Nat) (w : World)
    (hA : Hid (∀ w, Calls Try.prog 39 #[.string a] w fun x w' => x = .returned (.agg #[.int .u32 x0, .int .u32 x1, .int .u32 x2, .int .u32 x3, .int .u32 x4, .bool false]) ∧ Below w.heap.size w w'))
    (hB : Hid (∀ w, Calls Try.prog 39 #[.string b] w fun x w' => x = .returned (.agg #[.int .u32 y0, .int .u32 y1, .int .u32 y2, .int .u32 y3, .int .u32 y4, .bool false]) ∧ Below w.heap.size w w')) :
    Calls Try.prog 45 #[.string a, .string b] w fun x w' => x = .returned (.agg #[.int .u32 0, .int .u32 0, .int .u32 0, .int .u32 0, .int .u32 0, .bool false]) ∧ Below w.heap.size w w' := by
  go_enter Try.func45, Try.ntmps45
  go_wp2_with fail
  refine (hA.out _).mono ?_
  rintro e w1 ⟨rfl, hb1⟩
  have z1 := later_of (alloc_at _ _) hb1
  have hB1 : Below w.heap.size w w1 := ((Below.refl _ _).alloc (Nat.le_refl _) _).trans (hb1.mono (by simp))
  have hsz1 := hB1.size
  have hl1 := lt_of z1
  clear hb1
  go_wp2_with fail
  refine (hB.out _).mono ?_
  rintro e w2 ⟨rfl, hb2⟩
  have z2 := later_of (alloc_old z1 _) hb2
  have q2 := later_of (alloc_at w1 _) hb2
  have hB2 : Below w.heap.size w w2 := (hB1.alloc hsz1 _).trans (hb2.mono (by simp; omega))
  have hsz2 := hB2.size
  have hl2 := lt_of z2
  have hm2 := lt_of q2
  clear hb2 z1 hB1
  obtain ⟨c0, c1, c2, c3, c4, c5, f0, f1, f2, f3, f4, f5⟩ := six_of z2
  obtain ⟨d0, d1, d2, d3, d4, d5, g0, g1, g2, g3, g4, g5⟩ := six_of q2
  go_wp2
  exact bodyPost_ret (v := .agg #[.int .u32 0, .int .u32 0, .int .u32 0, .int .u32 0, .int .u32 0, .bool false]) (by simp [results, Try.results45, go_sem, c0, c1, c2, c3, c4, c5, hl2]) rfl ⟨rfl, by
    repeat (first | with_reducible refine Below.drew ?_ | with_reducible refine Below.setCell ?_ (by simp) _ | with_reducible refine Below.alloc ?_ (by simpa using hsz2) _)
    exact hB2⟩

end Go.Proofs.Ytemdhcocbjcklaa.Print
