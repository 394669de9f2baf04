/- What the reference of layer 8 comes to: Encode, Wrong, Decode. -/
import Derived.Test.YtoobiffhjjfpgaaGreatFrame
import Derived.Deep.RegionHeld3
namespace Go.Proofs.YtoobiffhjjfpgaaGreat.Print
open Go.RowKit


theorem rwrong_bad (at_ kind : Int) (p : ByteArray) (h : kind < 1 ∨ 255 < kind ∨ at_ < 1 ∨ 16 ≤ at_) (w : World) :
    Calls Tryz.prog 69 #[.int .i64 at_, .agg #[.int .i64 kind, .string p]] w fun e w' =>
      e = .returned (.int .i64 1) ∧ Below w.heap.size w w' := by
  by_cases c1 : kind < 1
  · go_enter Tryz.func69, Tryz.ntmps69
    go_wp2
    go_ret
    exact ⟨rfl, (Below.refl _ _).alloc (Nat.le_refl _) _⟩
  have hk1 : decide ((kind : Int) < 1) = false := by simp; omega
  by_cases c2 : 255 < kind
  · go_enter Tryz.func69, Tryz.ntmps69
    go_wp2
    go_ret
    exact ⟨rfl, (Below.refl _ _).alloc (Nat.le_refl _) _⟩
  have hk2 : decide (255 < (kind : Int)) = false := by simp; omega
  go_enter Tryz.func69, Tryz.ntmps69
  go_wp2_with fail
  refine (rplace_any _ _ false (by simp; omega)).mono ?_
  rintro e w1 ⟨rfl, rfl⟩
  go_wp2
  go_ret
  exact ⟨rfl, (Below.refl _ _).alloc (Nat.le_refl _) _⟩
theorem rwrong_long (at_ kind : Int) (p : ByteArray) (h2 : 1 ≤ at_) (h3 : at_ < 16) (h4 : 1 ≤ kind) (h5 : kind ≤ 255) (b : Bool) (h6 : decide (773 < (p.size : Int)) = b) (w : World) :
    Calls Tryz.prog 69 #[.int .i64 at_, .agg #[.int .i64 kind, .string p]] w fun e w' =>
      e = .returned (.int .i64 (if b then 2 else 0)) ∧ Below w.heap.size w w' := by
  have hk1 : decide ((kind : Int) < 1) = false := by simp; omega
  have hk2 : decide (255 < (kind : Int)) = false := by simp; omega
  cases b
  · go_enter Tryz.func69, Tryz.ntmps69
    go_wp2_with fail
    refine (rplace_any _ _ true (by simp; omega)).mono ?_
    rintro e w1 ⟨rfl, rfl⟩
    go_wp2
    go_ret
    exact ⟨rfl, (Below.refl _ _).alloc (Nat.le_refl _) _⟩
  · go_enter Tryz.func69, Tryz.ntmps69
    go_wp2_with fail
    refine (rplace_any _ _ true (by simp; omega)).mono ?_
    rintro e w1 ⟨rfl, rfl⟩
    go_wp2
    go_ret
    exact ⟨rfl, (Below.refl _ _).alloc (Nat.le_refl _) _⟩

/-- What weighlockref08.Decode tells. -/
abbrev gotV (kind : Int) (p : ByteArray) (n e : Int) : Value := .agg #[.int .i64 kind, .string p, .int .i64 n, .int .i64 e]

end Go.Proofs.YtoobiffhjjfpgaaGreat.Print
