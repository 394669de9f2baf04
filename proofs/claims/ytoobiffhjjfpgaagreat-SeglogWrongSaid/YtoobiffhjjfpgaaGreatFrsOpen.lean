/- A slice of frames that came in. -/
import Derived.Test.YtoobiffhjjfpgaaGreatStep
namespace Go.Proofs.YtoobiffhjjfpgaaGreat.Open
open Go.ChangeShapes Go.WideShapes Go.ChangeAt Go.RowKit Go.Deep Go.Proofs.YtoobiffhjjfpgaaGreat.Print
theorem lst2 {α : Type} {l : List α} (h : l.length = 2) : ∃ c0 c1, l = [c0, c1] := by
  match l, h with
  | [c0, c1], _ => exact ⟨c0, c1, rfl⟩
set_option maxRecDepth 100000 in
theorem trod_frame {H : Type} {enc : TypeId × Value → H} {w : World} {base : Nat} {spare : Nat → Bool} {held : Bool} {fuel : Nat} {cs : List Value} {x : DataW H × List MemPlace} (h : DataW.trod enc Tryz.prog w base spare held fuel 43 cs = some x) :
    ∃ (k : Int) (s : ByteArray), cs = [.int .i64 k, .string s] ∧ s.size ≤ 9223372036854775807 := by
  have k1 : Tryz.prog.cellsOf 3 = 1 := by kernel_rfl
  have ks : Tryz.prog.cellsOf 9 = 1 := by kernel_rfl
  have k2 : Tryz.prog.cellsOf 43 = 2 := by kernel_rfl
  obtain ⟨xs, n, _, _, hl, hxl, hf⟩ := DataW.trod_struct Tryz.underlying43 h
  rw [k2] at hl
  obtain ⟨c0, c1, rfl⟩ := lst2 hl
  obtain ⟨x0, x1, rfl⟩ := lst2 hxl
  have f0 := hf 0 _ rfl
  have f1 := hf 1 _ rfl
  simp [k1] at f0
  simp [ks] at f1
  obtain ⟨k, ek, _, _⟩ := DataW.trod_int Tryz.underlying3 f0
  obtain ⟨s, es, _, ws⟩ := DataW.trod_string Tryz.underlying9 f1
  obtain rfl := (List.cons.inj ek).1
  obtain rfl := (List.cons.inj es).1
  exact ⟨k, s, rfl, by unfold maxLen at ws; omega⟩
set_option maxRecDepth 100000 in
theorem open_frames {H : Type} {enc : TypeId × Value → H} {w : World} {base : Nat} {spare : Nat → Bool} {held : Bool} {r : Reach} {b0 : Nat} {v : Value} {d : DataW H} {p : List MemPlace} (hv : Value.okWide Tryz.prog w r b0 49 v) (h : DataW.Trod enc Tryz.prog w base spare held 49 v d p) :
    ∃ (ao : Option Addr) (cap : Nat) (l : List Fr), v = .slice ao l.length cap ∧ FrsAt w ao l ∧ l.length ≤ 9223372036854775807 ∧ ∀ x ∈ l, x.2.size ≤ 9223372036854775807 := by
  obtain ⟨ao0, len0, cap0, rfl⟩ := okWide_slice Tryz.underlying49 hv
  obtain ⟨fuel, hf⟩ := h
  have k2 : Tryz.prog.cellsOf 43 = 2 := by kernel_rfl
  rcases open_slice Tryz.underlying49 hf with ⟨hcs, _⟩ | ⟨a, len, cap, m, n, D, Pl, hcs, hb, hl, hm, hmm, hx, hi⟩
  · exact ⟨none, 0, [], (List.cons.inj hcs).1, fun i h => absurd h (Nat.not_lt_zero i), Nat.zero_le _, fun x hx => absurd hx (List.not_mem_nil)⟩
  · have hv := (List.cons.inj hcs).1
    have hlm : len ≤ m := by rw [hmm]; split <;> omega
    have hH : ∀ i, i < len → ∃ y : Fr, (∀ j u, (frC y)[j]? = some u → w.cell? (a.add (i * 2 + j)) = some u) ∧ y.2.size ≤ 9223372036854775807 := by
      intro i hil
      obtain ⟨cs', hcl, ht⟩ := hi i (by omega)
      rw [k2] at hcl
      obtain ⟨_, hcl5, hat⟩ := World.cells?_some hcl
      obtain ⟨k, s, hcs', hsz⟩ := trod_frame ht
      refine ⟨(k, s), fun j u hu => ?_, hsz⟩
      have hj : j < 2 := by have := (List.getElem?_eq_some_iff.1 hu).1; simpa [frC] using this
      have := hat j hj
      rw [Go.Deep.add_add, hcs'] at this
      rw [this]; exact hu
    refine ⟨some a, cap, (List.range len).map (fun i => if h : i < len then Classical.choose (hH i h) else (0, ⟨#[]⟩)), by simpa using hv, fun i h => ⟨a, rfl, fun j u hu => ?_⟩, ?_, ?_⟩
    · have hil : i < len := by simpa using h
      simp only [List.getElem_map, List.getElem_range, dif_pos hil] at hu
      exact (Classical.choose_spec (hH i hil)).1 j u hu
    · have : len ≤ 9223372036854775807 := by unfold maxLen at hm; omega
      simpa using this
    · intro x hx
      obtain ⟨i, hir, rfl⟩ := List.mem_map.1 hx
      have hil : i < len := by simpa using hir
      rw [dif_pos hil]
      exact (Classical.choose_spec (hH i hil)).2
end Go.Proofs.YtoobiffhjjfpgaaGreat.Open
