/- A super that came in: five numbers below 2^32. -/
import Derived.Test.YtemdhcocbjcklaaRows
import Derived.WalkKit
import Derived.ProofKit
import Derived.OpenShut
import Derived.ShutString
import Derived.ChangeOld
import Derived.Lib.SmallJoins
import Derived.Deep.Strs
import Derived.Laws.IdiomArrays
namespace Go.Proofs.Ytemdhcocbjcklaa.Print
open Go.ChangeShapes Go.WideShapes Go.ChangeAt Go.RowKit Go.Joins Go.Deep
theorem array5 {α : Type} {cs : Array α} (h : cs.size = 5) : ∃ c0 c1 c2 c3 c4, cs = #[c0, c1, c2, c3, c4] := by
  obtain ⟨l⟩ := cs
  match l, h with
  | [c0, c1, c2, c3, c4], _ => exact ⟨c0, c1, c2, c3, c4, rfl⟩
set_option maxRecDepth 100000 in
theorem open_super {H : Type} {enc : TypeId × Value → H} {w : World} {base : Nat} {spare : Nat → Bool} {held : Bool} {r : Reach} {b0 : Nat} {v : Value} {d : DataW H} {p : List MemPlace}
    (hv : Value.okWide Try.prog w r b0 80 v) (h : DataW.Trod enc Try.prog w base spare held 80 v d p) :
    ∃ a b c e f : Nat, v = .agg #[.int .u32 a, .int .u32 b, .int .u32 c, .int .u32 e, .int .u32 f] ∧ a < 4294967296 ∧ b < 4294967296 ∧ c < 4294967296 ∧ e < 4294967296 ∧ f < 4294967296 := by
  have k1 : Try.prog.cellsOf 54 = 1 := by kernel_rfl
  have k5 : Try.prog.cellsOf 80 = 5 := by kernel_rfl
  have k3 : Try.prog.cellsOf 78 = 3 := by kernel_rfl
  obtain ⟨cs, rfl, hsz⟩ := okWide_struct Try.underlying80 hv
  obtain ⟨c0, c1, c2, c3, c4, rfl⟩ := array5 (hsz.trans k5)
  obtain ⟨fuel, hf⟩ := h
  obtain ⟨y0, y1, y2, n, _, _, g0, g1, g2⟩ := trod_struct3 Try.underlying80 hf
  simp [Value.cells, k1] at g0
  simp [Value.cells, k1] at g1
  simp [Value.cells, k3] at g2
  obtain ⟨z0, z1, z2, m, _, l0, l1, l2⟩ := trod_array3 Try.underlying78 k1 g2
  obtain ⟨a, ea, _, wa⟩ := DataW.trod_int Try.underlying54 g0
  obtain ⟨b, eb, _, wb⟩ := DataW.trod_int Try.underlying54 g1
  obtain ⟨c, ec, _, wc⟩ := DataW.trod_int Try.underlying54 l0
  obtain ⟨e, ee, _, we⟩ := DataW.trod_int Try.underlying54 l1
  obtain ⟨f, ef, _, wf⟩ := DataW.trod_int Try.underlying54 l2
  obtain rfl := (List.cons.inj ea).1
  obtain rfl := (List.cons.inj eb).1
  obtain rfl := (List.cons.inj ec).1
  obtain rfl := (List.cons.inj ee).1
  obtain rfl := (List.cons.inj ef).1
  have ba := bounds_u32 wa
  have bb := bounds_u32 wb
  have bc := bounds_u32 wc
  have be := bounds_u32 we
  have bf := bounds_u32 wf
  obtain ⟨a, rfl⟩ := Int.eq_ofNat_of_zero_le ba.1
  obtain ⟨b, rfl⟩ := Int.eq_ofNat_of_zero_le bb.1
  obtain ⟨c, rfl⟩ := Int.eq_ofNat_of_zero_le bc.1
  obtain ⟨e, rfl⟩ := Int.eq_ofNat_of_zero_le be.1
  obtain ⟨f, rfl⟩ := Int.eq_ofNat_of_zero_le bf.1
  exact ⟨a, b, c, e, f, rfl, by omega, by omega, by omega, by omega, by omega⟩
end Go.Proofs.Ytemdhcocbjcklaa.Print
