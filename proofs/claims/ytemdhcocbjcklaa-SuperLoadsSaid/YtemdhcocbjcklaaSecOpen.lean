/- A sector that came in as an array: sixty-four bytes. -/
import Derived.Test.YtemdhcocbjcklaaSupOpen
import Derived.Test.YtemdhcocbjcklaaOpen
import Derived.Lib.BufferWrite
namespace Go.Proofs.Ytemdhcocbjcklaa.Print
open Go.ChangeShapes Go.WideShapes Go.ChangeAt Go.RowKit Go.Joins Go.Deep Go.Proofs.Ytemdhcocbjcklaa.Open
theorem bytes_of (cs : List Value) (n : Nat) (hn : cs.length = n) (H : ∀ i, i < n → ∃ b : UInt8, cs[i]? = some (.int .u8 b.toNat)) : ∃ l : List UInt8, cs = Lib.byteCells l ∧ l.length = n := by
  refine ⟨(List.range n).map (fun i => if h : i < n then Classical.choose (H i h) else 0), ?_, by simp⟩
  apply List.ext_getElem?
  intro i
  by_cases h : i < n
  · rw [Classical.choose_spec (H i h)]
    simp [Lib.byteCells, h]
  · rw [List.getElem?_eq_none (by omega), List.getElem?_eq_none (by simp [Lib.byteCells]; omega)]
set_option maxRecDepth 100000 in
theorem open_sec {H : Type} {enc : TypeId × Value → H} {w : World} {base : Nat} {spare : Nat → Bool} {held : Bool} {r : Reach} {b0 : Nat} {v : Value} {d : DataW H} {p : List MemPlace}
    (hv : Value.okWide Try.prog w r b0 97 v) (h : DataW.Trod enc Try.prog w base spare held 97 v d p) :
    ∃ l : List UInt8, v = .agg (Lib.byteCells l).toArray ∧ l.length = 64 := by
  have k1 : Try.prog.cellsOf 5 = 1 := by kernel_rfl
  have k64 : Try.prog.cellsOf 97 = 64 := by kernel_rfl
  obtain ⟨cs, rfl, hsz⟩ := okWide_array Try.underlying97 hv
  obtain ⟨fuel, hf⟩ := h
  obtain ⟨xs, m, _, _, hl, hxl, hx⟩ := DataW.trod_array Try.underlying97 hf
  rw [k64] at hsz
  have hcl : cs.toList.length = 64 := by simpa using hsz
  obtain ⟨l, hl, hll⟩ := bytes_of cs.toList 64 hcl (fun i hi => by
    have hi' : i < xs.length := by omega
    have := hx i hi
    rw [k1, Nat.mul_one, List.getElem?_eq_getElem hi'] at this
    obtain ⟨n, hn, _, hw⟩ := DataW.trod_int Try.underlying5 this
    have hb := bounds_u8 hw
    have hci : cs.toList[i]? = some (.int .u8 n) := by
      have := congrArg (fun l : List Value => l[0]?) hn
      simpa [Value.cells, List.getElem?_take, List.getElem?_drop] using this
    refine ⟨UInt8.ofNat n.toNat, ?_⟩
    rw [hci]
    have : (UInt8.ofNat n.toNat).toNat = n.toNat := by rw [UInt8.toNat_ofNat']; omega
    rw [this]
    congr 2
    omega)
  exact ⟨l, by rw [← hl], hll⟩
end Go.Proofs.Ytemdhcocbjcklaa.Print
