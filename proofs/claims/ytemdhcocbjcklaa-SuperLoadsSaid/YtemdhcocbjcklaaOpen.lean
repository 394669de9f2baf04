/- An argument that is an array of integers, by value: opened to its numbers. -/
import Derived.Test.YtemdhcocbjcklaaProg
import Derived.ProofKit
import Derived.OpenShut
namespace Go.Proofs.Ytemdhcocbjcklaa.Open
open Go.ChangeShapes Go.WideShapes Go.ChangeAt Go.RowKit

section
variable {P : Program} {w : World} {r : Reach} {base b0 : Nat} {H : Type} {enc : TypeId × Value → H} {spare : Nat → Bool} {held : Bool} {t e : TypeId} {v : Value} {d : DataW H} {p : List MemPlace}
theorem okWide_array {n : Nat} (ht : P.underlying t = some (.array n e)) (h : Value.okWide P w r base t v) : ∃ cs, v = .agg cs ∧ cs.size = P.cellsOf t := by
  simp only [Value.okWide, ht] at h
  obtain ⟨cs, h1, h2, _⟩ := h
  exact ⟨cs, h1, h2⟩

theorem ints_of {k : IntKind} (he : P.underlying e = some (.int k)) (m : Nat) : ∀ (cs : List Value) (xs : List (DataW H × List MemPlace)), cs.length = xs.length →
    (∀ i, i < xs.length → DataW.trod enc P w b0 spare held m e ((cs.drop i).take 1) = xs[i]?) → ∃ zs : List Int, zs.length = cs.length ∧ cs = zs.map (Value.int k) ∧ ∀ z ∈ zs, (Lit.int k z).wf = true
  | [], [], _, _ => ⟨[], rfl, rfl, fun _ h => by cases h⟩
  | [], _ :: _, h, _ => by simp at h
  | _ :: _, [], h, _ => by simp at h
  | c :: cs, x :: xs, hl, h => by
    have h0 := h 0 (by simp)
    simp only [List.drop_zero, List.take_succ_cons, List.take_zero, List.getElem?_cons_zero] at h0
    obtain ⟨z, e0, _, wz⟩ := DataW.trod_int he h0
    obtain rfl := (List.cons.inj e0).1
    obtain ⟨zs, h1, h2, h3⟩ := ints_of he m cs xs (by simpa using hl) (fun i hi => by
      have := h (i + 1) (by simpa using hi)
      simpa using this)
    refine ⟨z :: zs, by simp [h1], by rw [List.map_cons, ← h2], fun y hy => ?_⟩
    rcases List.mem_cons.1 hy with rfl | hy
    · exact wz
    · exact h3 y hy

theorem open_int_array {n : Nat} {k : IntKind} (ht : P.underlying t = some (.array n e)) (he : P.underlying e = some (.int k)) (hE : P.cellsOf e = 1) (hC : P.cellsOf t = n)
    (hv : Value.okWide P w r base t v) (h : DataW.Trod enc P w b0 spare held t v d p) : ∃ zs : List Int, zs.length = n ∧ v = .agg (zs.map (Value.int k)).toArray ∧ ∀ z ∈ zs, (Lit.int k z).wf = true := by
  obtain ⟨cs, rfl, hsz⟩ := okWide_array ht hv
  obtain ⟨fuel, hf⟩ := h
  obtain ⟨xs, m, _, hx, hl, hlen, hg⟩ := DataW.trod_array ht hf
  obtain ⟨l⟩ := cs
  have hll : l.length = n := hsz.trans hC
  obtain ⟨zs, h1, h2, h3⟩ := ints_of (enc := enc) (w := w) (b0 := b0) (spare := spare) (held := held) he m l xs (by rw [hll, hlen]) (fun i hi => by
    have := hg i (by omega)
    rw [hE, Nat.mul_one] at this
    simpa [Value.cells] using this)
  exact ⟨zs, by omega, by rw [h2], h3⟩
theorem open_int_array2 {k : IntKind} (ht : P.underlying t = some (.array 2 e)) (he : P.underlying e = some (.int k)) (hE : P.cellsOf e = 1) (hC : P.cellsOf t = 2)
    (hv : Value.okWide P w r base t v) (h : DataW.Trod enc P w b0 spare held t v d p) : ∃ z0 z1 : Int, v = .agg #[.int k z0, .int k z1] ∧ (Lit.int k z0).wf = true ∧ (Lit.int k z1).wf = true := by
  obtain ⟨zs, hl, rfl, hw⟩ := open_int_array ht he hE hC hv h
  match zs, hl, hw with
  | [z0, z1], _, hw => exact ⟨z0, z1, rfl, hw _ (by simp), hw _ (by simp)⟩
end

end Go.Proofs.Ytemdhcocbjcklaa.Open
