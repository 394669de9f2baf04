/- super: Store, Load of a view on which one super lies: which super is found. -/
import Derived.Test.YtemdhcocbjcklaaViewC
import Derived.Test.YtemdhcocbjcklaaFresh
namespace Go.Proofs.Ytemdhcocbjcklaa.Print
open Go.RowKit

/-- A super as five numbers. -/
abbrev S5 := Nat × Nat × Nat × Nat × Nat
abbrev s5A (x : S5) : Array Value := #[.int .u32 x.1, .int .u32 x.2.1, .int .u32 x.2.2.1, .int .u32 x.2.2.2.1, .int .u32 x.2.2.2.2]
def s5L (x : S5) : List UInt8 := superL x.1 x.2.1 x.2.2.1 x.2.2.2.1 x.2.2.2.2
theorem s5L_length (x : S5) : (s5L x).length = 64 := superL_length _ _ _ _ _
def Fits (x : S5) : Prop := x.1 < 4294967296 ∧ x.2.1 < 4294967296 ∧ x.2.2.1 < 4294967296 ∧ x.2.2.2.1 < 4294967296 ∧ x.2.2.2.2 < 4294967296
theorem superL_last (a b c d e : Nat) : (superL a b c d e)[63]? = some 1 := by
  have h1 := markL_length a 1
  have h2 := supD_length a b c d e
  have h4 := beL_length a 4
  unfold superL sealL
  rw [List.getElem?_append_right (by omega), h1, List.getElem?_append_right (by omega), h2]
  unfold markL
  rw [List.getElem?_append_right (by omega), h4]
  rfl
theorem decode_bad (L : List UInt8) (h : L[63]? ≠ some 1) (w : World) : Calls Try.prog 38 #[.string (bs L)] w fun x w' => x = .returned (.tuple #[su5 0 0 0 0 0, .int .i64 4]) ∧ Below w.heap.size w w' := by
  obtain ⟨v, ok, _, hs, hD, _⟩ := decode_both (bs L)
  cases ok
  · exact hD w
  · have e := hs rfl
    have e2 : L = superL (v 0) (v 1) (v 2) (v 3) (v 4) := by rw [← bs_list L, e, bs_list]
    rw [e2, superL_last] at h
    exact (h rfl).elim
theorem at_super (x : S5) (hx : Fits x) (n : Int) (hn : (x.1 : Int) % 2 = n) (w : World) : Calls Try.prog 74 #[.string (bs (s5L x)), .int .i64 n] w fun e w' => e = .returned (.tuple #[.agg (s5A x), .bool true]) ∧ Below w.heap.size w w' :=
  at_yes (bs (s5L x)) (nth5 x.1 x.2.1 x.2.2.1 x.2.2.2.1 x.2.2.2.2) hx.1 n true (by simpa [nth5] using hn) w (fun w => decode_super x.1 x.2.1 x.2.2.1 x.2.2.2.1 x.2.2.2.2 hx.1 hx.2.1 hx.2.2.1 hx.2.2.2.1 hx.2.2.2.2 w)
theorem at_bad (L : List UInt8) (h : L[63]? ≠ some 1) (n : Int) (w : World) : Calls Try.prog 74 #[.string (bs L), .int .i64 n] w fun e w' => e = .returned (.tuple #[su5 0 0 0 0 0, .bool false]) ∧ Below w.heap.size w w' :=
  at_no (bs L) n w (fun w => decode_bad L h w)
def PickIs (x : S5) (a b : List UInt8) : Prop := ∀ w, Calls Try.prog 44 #[.string (bs a), .string (bs b)] w fun e w' => e = .returned (.tuple #[.agg (s5A x), .int .i64 0]) ∧ Below w.heap.size w w'
/-- Of two supers the newer one is found, wherever it lies. -/
theorem pick_new (lies : List (List UInt8)) (f : Nat) (s t : S5) (hs : Fits s) (ht : Fits t) (hst : t.1 = s.1 + 1) (h1 : lies[f + s.1 % 2]? = some (s5L s)) (h2 : lies[f + t.1 % 2]? = some (s5L t)) : ∃ a b, lies[f + 0]? = some a ∧ lies[f + 1]? = some b ∧ PickIs t a b := by
  by_cases hp : s.1 % 2 = 0
  · have hq : t.1 % 2 = 1 := by omega
    rw [hp] at h1
    rw [hq] at h2
    exact ⟨_, _, h1, h2, fun w => pick_ttf _ _ _ _ _ _ _ _ _ _ _ _ (by simp; omega) w (fun w => at_super s hs 0 (by omega) w) (fun w => at_super t ht 1 (by omega) w)⟩
  · have hp' : s.1 % 2 = 1 := by omega
    have hq : t.1 % 2 = 0 := by omega
    rw [hp'] at h1
    rw [hq] at h2
    exact ⟨_, _, h2, h1, fun w => pick_ttt _ _ _ _ _ _ _ _ _ _ _ _ (by simp; omega) w (fun w => at_super t ht 0 (by omega) w) (fun w => at_super s hs 1 (by omega) w)⟩
/-- Beside what is no super the other one is found. -/
theorem pick_old (lies : List (List UInt8)) (f : Nat) (s t : S5) (hs : Fits s) (hst : t.1 = s.1 + 1) (M : List UInt8) (hM : M[63]? ≠ some 1) (h1 : lies[f + s.1 % 2]? = some (s5L s)) (h2 : lies[f + t.1 % 2]? = some M) : ∃ a b, lies[f + 0]? = some a ∧ lies[f + 1]? = some b ∧ PickIs s a b := by
  by_cases hp : s.1 % 2 = 0
  · have hq : t.1 % 2 = 1 := by omega
    rw [hp] at h1
    rw [hq] at h2
    exact ⟨_, _, h1, h2, fun w => pick_tf _ _ _ _ _ _ _ 0 0 0 0 0 w (fun w => at_super s hs 0 (by omega) w) (fun w => at_bad M hM 1 w)⟩
  · have hp' : s.1 % 2 = 1 := by omega
    have hq : t.1 % 2 = 0 := by omega
    rw [hp'] at h1
    rw [hq] at h2
    exact ⟨_, _, h2, h1, fun w => pick_ft _ _ 0 0 0 0 0 _ _ _ _ _ w (fun w => at_bad M hM 0 w) (fun w => at_super s hs 1 (by omega) w)⟩
/-- What the power leaves of a super over nothing is that super, or none. -/
theorem mix_torn (x : S5) (n : Int) : mix (s5L x) zeroSec n = s5L x ∨ (mix (s5L x) zeroSec n)[63]? ≠ some 1 := by
  obtain ⟨k, hk, h⟩ := clamp_nat n
  rw [mix_nat _ _ _ k h]
  have hl := s5L_length x
  have hz := zeroSec_length
  by_cases h64 : k = 64
  · left
    rw [List.take_of_length_le (by omega), List.drop_of_length_le (by omega), List.append_nil]
  · right
    rw [List.getElem?_append_right (by simp; omega)]
    simp only [List.length_take, hl, List.getElem?_drop]
    rw [show k + (63 - min k 64) = 63 by omega]
    decide
theorem zero_none : zeroSec[63]? ≠ some 1 := by decide
end Go.Proofs.Ytemdhcocbjcklaa.Print
