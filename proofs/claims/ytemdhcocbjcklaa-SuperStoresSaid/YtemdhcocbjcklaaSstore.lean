/- super: Store on a view. -/
import Derived.Test.YtemdhcocbjcklaaSload
namespace Go.Proofs.Ytemdhcocbjcklaa.Print
open Go.RowKit
attribute [local go_sem] run_loadVar_scalar

set_option maxRecDepth 100000 in
set_option maxHeartbeats 800000 in
attribute [-go_sem] Instr.build Instr.fill loadVar in
theorem sstore_err (v : Value) (X : Array Value) (hX : X.size = 5) (p : Int) (t : ByteArray) (e : Int) (he : (e == 0) = false) (w : World) (R : World → Prop)
    (hPl : ∀ w, Calls Try.prog 43 #[.agg X] w fun x w' => x = .returned (.int .i64 p) ∧ Below w.heap.size w w')
    (hEn : ∀ w, Calls Try.prog 41 #[.agg X] w fun x w' => x = .returned (.string t) ∧ Below w.heap.size w w')
    (hWr : ∀ w1, Below w.heap.size w w1 → Calls Try.prog 48 #[v, .int .i64 p, .string t] w1 fun x w' => x = .returned (.int .i64 e) ∧ R w') :
    Calls Try.prog 51 #[v, .agg X] w fun x w' => x = .returned (.int .i64 e) ∧ R w' := by
  have HPl := Lib.hid hPl
  have HEn := Lib.hid hEn
  have HWr := Lib.hid hWr
  have he2 : (e != 0) = true := by simpa using he
  have hg := alloc_at w (.cells X 80)
  have hB : Below w.heap.size w (w.alloc (.cells X 80)) := (Below.refl _ _).alloc (Nat.le_refl _) _
  clear hPl hEn hWr
  go_enter Try.func51, Try.ntmps51
  go_wp2_with fail
  generalize w.alloc (.cells X 80) = W at hg hB ⊢
  have hld0 := load_sup (w := W.drew) hg hX
  go_region_with (first
    | (go_at_call 43; (with_reducible refine (HPl.out _).mono ?_); rintro x w1 ⟨rfl, hb1⟩; have g1 := later_of (w1 := W.drew) hg hb1; have hld1 := load_sup g1 hX; have hB1 := hB.drew.trans (hb1.mono hB.size); have HB1 := Lib.hid hb1; clear hb1)
    | (go_at_call 41; (with_reducible refine (HEn.out _).mono ?_); rintro x w2 ⟨rfl, hb2⟩; have hB2 := hB1.trans (hb2.mono hB1.size); clear hb2)
    | (go_at_call 48; (with_reducible refine (HWr.out _ hB2).mono ?_); rintro x w3 ⟨rfl, hr⟩))
  all_goals
    go_wp2
    go_ret
    exact ⟨rfl, hr⟩
set_option maxRecDepth 100000 in
set_option maxHeartbeats 800000 in
attribute [-go_sem] Instr.build Instr.fill loadVar in
theorem sstore_go (v : Value) (X : Array Value) (hX : X.size = 5) (p : Int) (t : ByteArray) (e : Int) (w : World) (R R2 : World → Prop)
    (hPl : ∀ w, Calls Try.prog 43 #[.agg X] w fun x w' => x = .returned (.int .i64 p) ∧ Below w.heap.size w w')
    (hEn : ∀ w, Calls Try.prog 41 #[.agg X] w fun x w' => x = .returned (.string t) ∧ Below w.heap.size w w')
    (hWr : ∀ w1, Below w.heap.size w w1 → Calls Try.prog 48 #[v, .int .i64 p, .string t] w1 fun x w' => x = .returned (.int .i64 0) ∧ R w')
    (hFl : ∀ w1, R w1 → Calls Try.prog 81 #[v] w1 fun x w' => x = .returned (.int .i64 e) ∧ R2 w') :
    Calls Try.prog 51 #[v, .agg X] w fun x w' => x = .returned (.int .i64 e) ∧ R2 w' := by
  have HPl := Lib.hid hPl
  have HEn := Lib.hid hEn
  have HWr := Lib.hid hWr
  have HFl := Lib.hid hFl
  have hg := alloc_at w (.cells X 80)
  have hB : Below w.heap.size w (w.alloc (.cells X 80)) := (Below.refl _ _).alloc (Nat.le_refl _) _
  clear hPl hEn hWr hFl
  go_enter Try.func51, Try.ntmps51
  go_wp2_with fail
  generalize w.alloc (.cells X 80) = W at hg hB ⊢
  have hld0 := load_sup (w := W.drew) hg hX
  go_region_with (first
    | (go_at_call 43; (with_reducible refine (HPl.out _).mono ?_); rintro x w1 ⟨rfl, hb1⟩; have g1 := later_of (w1 := W.drew) hg hb1; have hld1 := load_sup g1 hX; have hB1 := hB.drew.trans (hb1.mono hB.size); have HB1 := Lib.hid hb1; clear hb1)
    | (go_at_call 41; (with_reducible refine (HEn.out _).mono ?_); rintro x w2 ⟨rfl, hb2⟩; have hB2 := hB1.trans (hb2.mono hB1.size); clear hb2)
    | (go_at_call 48; (with_reducible refine (HWr.out _ hB2).mono ?_); rintro x w3 ⟨rfl, hr⟩))
  all_goals
    go_wp2_with fail
    refine (HFl.out _ hr).mono ?_
    rintro x w4 ⟨rfl, hr4⟩
    go_wp2
    go_ret
    exact ⟨rfl, hr4⟩
end Go.Proofs.Ytemdhcocbjcklaa.Print
