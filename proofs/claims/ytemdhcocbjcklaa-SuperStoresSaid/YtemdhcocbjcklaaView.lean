/- view: a view's block; New, is, step, Read, Write, Fuse, Dead. -/
import Derived.Test.YtemdhcocbjcklaaDiskW
namespace Go.Proofs.Ytemdhcocbjcklaa.Print
open Go.RowKit
/-- A view in memory. -/
abbrev viewObj (d : Nat) (from' n fuse steps : Int) (dead : Bool) : Obj := .cells #[.pointer (some ⟨d, 0, none⟩), .int .i64 from', .int .i64 n, .int .i64 fuse, .int .i64 steps, .bool dead] 149
theorem six_of' {w : World} {b : Nat} {c0 c1 c2 c3 c4 c5 : Value} {t : TypeId} (h : w.heap[b]? = some (.cells #[c0, c1, c2, c3, c4, c5] t)) :
    w.cell? ⟨b, 0, none⟩ = some c0 ∧ w.cell? ⟨b, 1, none⟩ = some c1 ∧ w.cell? ⟨b, 2, none⟩ = some c2 ∧ w.cell? ⟨b, 3, none⟩ = some c3 ∧ w.cell? ⟨b, 4, none⟩ = some c4 ∧ w.cell? ⟨b, 5, none⟩ = some c5 ∧
    (∀ o, w.frozen? ⟨b, o, none⟩ = false) :=
  ⟨by rw [cell_of h]; rfl, by rw [cell_of h]; rfl, by rw [cell_of h]; rfl, by rw [cell_of h]; rfl, by rw [cell_of h]; rfl, by rw [cell_of h]; rfl, free_of h⟩

theorem vnew_nil (f n : Int) (w : World) : Calls Try.prog 47 #[.pointer none, .int .i64 f, .int .i64 n] w fun x w' => x = .returned (.tuple #[.pointer none, .int .i64 7]) ∧ w = w' := by
  go_enter Try.func47, Try.ntmps47
  go_wp2
  go_ret2
  exact ⟨rfl, rfl⟩
theorem vnew_ok {w : World} {d lb m : Nat} {wv : Value} (h : w.heap[d]? = some (diskObj lb m wv)) (f n : Nat) (hn : 1 ≤ n) (hfn : f + n ≤ m) (hm : m ≤ 8192) :
    Calls Try.prog 47 #[.pointer (some ⟨d, 0, none⟩), .int .i64 f, .int .i64 n] w fun x w' => x = .returned (.tuple #[.pointer (some ⟨w.heap.size, 0, none⟩), .int .i64 0]) ∧ w' = w.alloc (viewObj d f n (-1) 0 false) := by
  have k1 : decide ((f : Int) < 0) = false := by simp
  have k2 : decide ((n : Int) < 1) = false := by simp; omega
  have k3 : decide ((m : Int) < (f : Int)) = false := by simp; omega
  have k4 : decide ((m : Int) - (f : Int) < (n : Int)) = false := by simp; omega
  have k5 : IntKind.i64.wrap ((m : Int) - (f : Int)) = (m : Int) - (f : Int) := by rw [IntKind.wrap_i64]; omega
  have hs := dsize_any h
  go_enter Try.func47, Try.ntmps47
  go_wp2_with fail
  refine hs.mono ?_
  rintro x w1 ⟨rfl, rfl⟩
  go_wp2_with fail
  refine hs.mono ?_
  rintro x w1 ⟨rfl, rfl⟩
  go_wp2
  go_ret2
  exact ⟨rfl, rfl⟩
theorem vis_any {w : World} {v d : Nat} {f n fu st : Int} {dead : Bool} (h : w.heap[v]? = some (viewObj d f n fu st dead)) (i : Int) :
    Calls Try.prog 76 #[.pointer (some ⟨v, 0, none⟩), .int .i64 i] w fun x w' => x = .returned (.bool (decide (0 ≤ i) && decide (i < n))) ∧ w = w' := by
  obtain ⟨c0, c1, c2, c3, c4, c5, hf⟩ := six_of' h
  by_cases h0 : 0 ≤ i
  · have k0 : decide (0 ≤ i) = true := by simpa using h0
    go_enter Try.func76, Try.ntmps76
    go_wp2
    go_ret
    exact ⟨by rw [k0, Bool.true_and]; rfl, rfl⟩
  · have k0 : decide (0 ≤ i) = false := by simpa using h0
    go_enter Try.func76, Try.ntmps76
    go_wp2
    go_ret
    exact ⟨rfl, rfl⟩
theorem vis_yes {w : World} {v d : Nat} {f n fu st : Int} {dead : Bool} (h : w.heap[v]? = some (viewObj d f n fu st dead)) (i : Int) (h0 : 0 ≤ i) (h1 : i < n) :
    Calls Try.prog 76 #[.pointer (some ⟨v, 0, none⟩), .int .i64 i] w fun x w' => x = .returned (.bool true) ∧ w = w' :=
  (vis_any h i).mono fun x w' ⟨a, b⟩ => ⟨by rw [a]; simp [h0, h1], b⟩
theorem vis_no {w : World} {v d : Nat} {f n fu st : Int} {dead : Bool} (h : w.heap[v]? = some (viewObj d f n fu st dead)) (i : Int) (h0 : i < 0 ∨ n ≤ i) :
    Calls Try.prog 76 #[.pointer (some ⟨v, 0, none⟩), .int .i64 i] w fun x w' => x = .returned (.bool false) ∧ w = w' :=
  (vis_any h i).mono fun x w' ⟨a, b⟩ => ⟨by rw [a]; simp; omega, b⟩
theorem vread_nil (i : Int) (w : World) : Calls Try.prog 80 #[.pointer none, .int .i64 i] w fun x w' => x = .returned (.tuple #[.string ⟨#[]⟩, .int .i64 7]) ∧ w = w' := by
  go_enter Try.func80, Try.ntmps80
  go_wp2
  go_ret2
  exact ⟨rfl, rfl⟩
theorem vread_out {w : World} {v d : Nat} {f n fu st : Int} {dead : Bool} (h : w.heap[v]? = some (viewObj d f n fu st dead)) (i : Int) (h0 : i < 0 ∨ n ≤ i) :
    Calls Try.prog 80 #[.pointer (some ⟨v, 0, none⟩), .int .i64 i] w fun x w' => x = .returned (.tuple #[.string ⟨#[]⟩, .int .i64 20]) ∧ w = w' := by
  go_enter Try.func80, Try.ntmps80
  go_wp2_with fail
  refine (vis_no h i h0).mono ?_
  rintro x w1 ⟨rfl, rfl⟩
  go_wp2
  go_ret2
  exact ⟨rfl, rfl⟩
theorem vread_dead {w : World} {v d : Nat} {f n fu st : Int} (h : w.heap[v]? = some (viewObj d f n fu st true)) (i : Int) (h0 : 0 ≤ i) (h1 : i < n) :
    Calls Try.prog 80 #[.pointer (some ⟨v, 0, none⟩), .int .i64 i] w fun x w' => x = .returned (.tuple #[.string ⟨#[]⟩, .int .i64 21]) ∧ w = w' := by
  obtain ⟨c0, c1, c2, c3, c4, c5, hf⟩ := six_of' h
  go_enter Try.func80, Try.ntmps80
  go_wp2_with fail
  refine (vis_yes h i h0 h1).mono ?_
  rintro x w1 ⟨rfl, rfl⟩
  go_wp2
  go_ret2
  exact ⟨rfl, rfl⟩
theorem fuse_nil (i : Int) (w : World) : Calls Try.prog 50 #[.pointer none, .int .i64 i] w fun x w' => x = .returned (.tuple #[]) ∧ w = w' := by
  go_enter Try.func50, Try.ntmps50
  go_wp2
  go_end0
  exact ⟨rfl, rfl⟩
theorem fuse_dead {w : World} {v d : Nat} {f n fu st : Int} (h : w.heap[v]? = some (viewObj d f n fu st true)) (i : Int) :
    Calls Try.prog 50 #[.pointer (some ⟨v, 0, none⟩), .int .i64 i] w fun x w' => x = .returned (.tuple #[]) ∧ w = w' := by
  obtain ⟨c0, c1, c2, c3, c4, c5, hf⟩ := six_of' h
  go_enter Try.func50, Try.ntmps50
  go_wp2
  go_end0
  exact ⟨rfl, rfl⟩
theorem fuse_any {w : World} {v d : Nat} {f n fu st : Int} (h : w.heap[v]? = some (viewObj d f n fu st false)) (i : Int) :
    Calls Try.prog 50 #[.pointer (some ⟨v, 0, none⟩), .int .i64 i] w fun x w' => x = .returned (.tuple #[]) ∧ w' = w.setCell ⟨v, 3, none⟩ (.int .i64 (max i (-1))) := by
  obtain ⟨c0, c1, c2, c3, c4, c5, hf⟩ := six_of' h
  go_enter Try.func50, Try.ntmps50
  go_wp2
  go_end0
  exact ⟨rfl, rfl⟩
/-- A fuse behind a step. -/
def burn (fu : Int) : Int := if 0 < fu then fu - 1 else fu
theorem burn_le (fu : Int) : -1 ≤ fu → fu ≤ 9223372036854775807 → -1 ≤ burn fu ∧ burn fu ≤ 9223372036854775807 := by unfold burn; split <;> omega
/-- A view's block, whatever it counted. -/
def ViewAt (w : World) (v d : Nat) (f n fu : Int) (dead : Bool) : Prop := ∃ st, w.heap[v]? = some (viewObj d f n fu st dead)
theorem step_dead0 {w : World} {v d : Nat} {f n st : Int} {dead : Bool} (h : w.heap[v]? = some (viewObj d f n 0 st dead)) (c : Value) :
    Calls Try.prog 77 #[.pointer (some ⟨v, 0, none⟩), c] w fun x w' => x = .returned (.int .i64 21) ∧ w' = w.setCell ⟨v, 5, none⟩ (.bool true) := by
  obtain ⟨c0, c1, c2, c3, c4, c5, hf⟩ := six_of' h
  go_enter Try.func77, Try.ntmps77
  go_wp2
  go_ret
  exact ⟨rfl, rfl⟩
theorem step_dead1 {w : World} {v d : Nat} {f n fu st : Int} (h : w.heap[v]? = some (viewObj d f n fu st true)) (h0 : fu ≠ 0) (c : Value) :
    Calls Try.prog 77 #[.pointer (some ⟨v, 0, none⟩), c] w fun x w' => x = .returned (.int .i64 21) ∧ w = w' := by
  obtain ⟨c0, c1, c2, c3, c4, c5, hf⟩ := six_of' h
  have k0 : (fu == 0) = false := by simpa using h0
  go_enter Try.func77, Try.ntmps77
  go_wp2
  go_ret
  exact ⟨rfl, rfl⟩
theorem viewObj_set {w : World} {v d : Nat} {f n fu st fu' st' : Int} {dead dead' : Bool} (h : w.heap[v]? = some (viewObj d f n fu st dead)) :
    (w.setCell ⟨v, 3, none⟩ (.int .i64 fu')).heap[v]? = some (viewObj d f n fu' st dead) ∧ (w.setCell ⟨v, 4, none⟩ (.int .i64 st')).heap[v]? = some (viewObj d f n fu st' dead) ∧ (w.setCell ⟨v, 5, none⟩ (.bool dead')).heap[v]? = some (viewObj d f n fu st dead') :=
  ⟨by rw [cells_set _ _ _ _ _ _ h]; rfl, by rw [cells_set _ _ _ _ _ _ h]; rfl, by rw [cells_set _ _ _ _ _ _ h]; rfl⟩
set_option maxRecDepth 100000 in
set_option maxHeartbeats 400000 in
theorem step_go {w : World} {v d : Nat} {f n fu st : Int} (h : w.heap[v]? = some (viewObj d f n fu st false)) (h0 : fu ≠ 0) (h1 : -1 ≤ fu) (h2 : fu ≤ 9223372036854775807) (F : Nat) (caps : Array Value) (hF : ∀ w, (callFunc F caps).run Try.prog w = .ok (.enter F caps) w) (K : Int) (R : World → Prop)
    (hC : ∀ w1, Upd (fun i => i = v) w w1 → ViewAt w1 v d f n (burn fu) false → Calls Try.prog F caps w1 fun x w' => x = .returned (.int .i64 K) ∧ R w') :
    Calls Try.prog 77 #[.pointer (some ⟨v, 0, none⟩), .func (.func F) #[] caps] w fun x w' => x = .returned (.int .i64 K) ∧ R w' := by
  have H := Lib.hid hC
  clear hC
  obtain ⟨c0, c1, c2, c3, c4, c5, hf⟩ := six_of' h
  have k0 : (fu == 0) = false := by simpa using h0
  by_cases hp : 0 < fu
  · have k1 : decide (0 < fu) = true := by simpa using hp
    have k2 : IntKind.i64.wrap (fu - 1) = fu - 1 := by rw [IntKind.wrap_i64]; omega
    have g1 := (viewObj_set (fu' := fu - 1) (st' := 0) (dead' := false) h).1
    obtain ⟨e0, e1, e2, e3, e4, e5, hg⟩ := six_of' g1
    have g2 := fun st' => (viewObj_set (fu' := 0) (st' := st') (dead' := false) g1).2.1
    have HG := Lib.hid g2
    have HO := Lib.hid h
    clear h g1 g2 h2
    go_enter Try.func77, Try.ntmps77
    go_wp2_with fail
    refine (H.out _ ?ha ?hb).mono ?hc
    case ha => exact ((Upd.refl (fun i => i = v) w).setCell (p := ⟨v, 3, none⟩) (fun _ => rfl) _).setCell (p := ⟨v, 4, none⟩) (fun _ => rfl) _
    case hb => rw [burn, if_pos hp]; exact ⟨_, HG.out _⟩
    rintro x w' ⟨rfl, hr⟩
    go_wp2
    go_ret
    exact ⟨rfl, hr⟩
  · have k1 : decide (0 < fu) = false := by simpa using hp
    have g2 := fun st' => (viewObj_set (fu' := 0) (st' := st') (dead' := false) h).2.1
    have HG := Lib.hid g2
    clear h g2 h2
    go_enter Try.func77, Try.ntmps77
    go_wp2_with fail
    refine (H.out _ ?hd ?he).mono ?hg2
    case hd => exact (Upd.refl (fun i => i = v) w).setCell (p := ⟨v, 4, none⟩) (fun _ => rfl) _
    case he => rw [burn, if_neg (by omega)]; exact ⟨_, HG.out _⟩
    rintro x w' ⟨rfl, hr⟩
    go_wp2
    go_ret
    exact ⟨rfl, hr⟩
end Go.Proofs.Ytemdhcocbjcklaa.Print
