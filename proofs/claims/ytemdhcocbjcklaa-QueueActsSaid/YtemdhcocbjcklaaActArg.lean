/- A slice of calls that came in, as the walks take it. -/
import Derived.Test.YtemdhcocbjcklaaQKeeps
namespace Go.Proofs.Ytemdhcocbjcklaa.Open
open Go.ChangeShapes Go.WideShapes Go.ChangeAt Go.RowKit Go.Deep
set_option maxRecDepth 100000 in
theorem open_acts_any {H : Type} {enc : TypeId × Value → H} {w : World} {base : Nat} {spare : Nat → Bool} {held : Bool} {r : Reach} {b0 : Nat} {v : Value} {d : DataW H} {p : List MemPlace}
    (hv : Value.okWide Try.prog w r b0 22 v) (h : DataW.Trod enc Try.prog w base spare held 22 v d p) :
    ∃ (ao : Option Addr) (cap : Nat) (l : List A5), v = .slice ao l.length cap ∧ l.length ≤ maxLen ∧ Print.ActsAt w ao l := by
  obtain ⟨ao, len, cap, rfl⟩ := okWide_slice Try.underlying22 hv
  rcases open_acts (by rfl) h with e | ⟨a, c, l, e, hl, hc⟩
  · exact ⟨none, 0, [], e, Nat.zero_le _, fun i h => by cases h⟩
  · exact ⟨some a, c, l, e, hl, fun i hi => ⟨a, rfl, hc i hi⟩⟩
end Go.Proofs.Ytemdhcocbjcklaa.Open
