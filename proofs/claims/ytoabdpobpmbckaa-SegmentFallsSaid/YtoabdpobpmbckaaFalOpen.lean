/- A Fall of a segment that came in: when it is flushed, a fuse, and what stays. -/
import Derived.Test.YtoabdpobpmbckaaSegFall
import Derived.ProofKit
import Derived.OpenShut
import Derived.Deep.Slices
import Derived.ChangeSame
namespace Go.Proofs.Ytoabdpobpmbckaa.Open
open Go.ChangeShapes Go.WideShapes Go.ChangeAt Go.RowKit Go.Deep Go.Proofs.Ytoabdpobpmbckaa.Print
theorem list2 {α : Type} {l : List α} (h : l.length = 2) : ∃ c0 c1, l = [c0, c1] := by
  match l, h with
  | [c0, c1], _ => exact ⟨c0, c1, rfl⟩
set_option maxRecDepth 100000 in
theorem trod_keep {H : Type} {enc : TypeId × Value → H} {w : World} {base : Nat} {spare : Nat → Bool} {held : Bool} {fuel : Nat} {cs : List Value} {x : DataW H × List MemPlace} (h : DataW.trod enc Try.prog w base spare held fuel 221 cs = some x) :
    ∃ k s : Int, cs = [.int .i64 k, .int .i64 s] := by
  have k1 : Try.prog.cellsOf 3 = 1 := by kernel_rfl
  have k2 : Try.prog.cellsOf 221 = 2 := by kernel_rfl
  obtain ⟨xs, n, _, _, hl, hxl, hf⟩ := DataW.trod_struct Try.underlying221 h
  rw [k2] at hl
  obtain ⟨c0, c1, rfl⟩ := list2 hl
  obtain ⟨x0, x1, rfl⟩ := list2 hxl
  have f0 := hf 0 _ rfl
  have f1 := hf 1 _ rfl
  simp [k1] at f0
  simp [k1] at f1
  obtain ⟨k, ek, _, _⟩ := DataW.trod_int Try.underlying3 f0
  obtain ⟨s, es, _, _⟩ := DataW.trod_int Try.underlying3 f1
  obtain rfl := (List.cons.inj ek).1
  obtain rfl := (List.cons.inj es).1
  exact ⟨k, s, rfl⟩
/-- A slice of Keeps that came in, as cells of a variable. -/
theorem open_keeps {H : Type} {enc : TypeId × Value → H} {w : World} {base : Nat} {spare : Nat → Bool} {held : Bool} {v : Value} {d : DataW H} {p : List MemPlace} {fuel : Nat} (hf : DataW.trod enc Try.prog w base spare held fuel 83 [v] = some (d, p)) :
    ∃ (ao : Option Addr) (cap : Nat) (l : List K2), v = .slice ao l.length cap ∧ KeepsAt w ao l := by
  have k2 : Try.prog.cellsOf 221 = 2 := by kernel_rfl
  rcases open_slice Try.underlying83 hf with ⟨hcs, _⟩ | ⟨a, len, cap, m, n, D, Pl, hcs, hb, hl, hm, hmm, hx, hi⟩
  · exact ⟨none, 0, [], (List.cons.inj hcs).1, fun i h => by cases h⟩
  · have hv := (List.cons.inj hcs).1
    have hlm : len ≤ m := by rw [hmm]; split <;> omega
    have hH : ∀ i, i < len → ∃ y : K2, ∀ j u, (keepC y)[j]? = some u → w.cell? (a.add (i * 2 + j)) = some u := by
      intro i hil
      obtain ⟨cs', hcl, ht⟩ := hi i (by omega)
      rw [k2] at hcl
      obtain ⟨_, hcl5, hat⟩ := World.cells?_some hcl
      obtain ⟨k, s, hcs'⟩ := trod_keep ht
      refine ⟨(k, s), fun j u hu => ?_⟩
      have hj : j < 2 := by have := (List.getElem?_eq_some_iff.1 hu).1; simpa [keepC] using this
      have := hat j hj
      rw [Go.Deep.add_add, hcs'] at this
      rw [this]; exact hu
    refine ⟨some a, cap, (List.range len).map (fun i => if h : i < len then Classical.choose (hH i h) else (0, 0)), by simpa using hv, fun i h => ⟨a, rfl, fun j u hu => ?_⟩⟩
    have hil : i < len := by simpa using h
    simp only [List.getElem_map, List.getElem_range, dif_pos hil] at hu
    exact Classical.choose_spec (hH i hil) j u hu
theorem list3 {α : Type} {l : List α} (h : l.length = 3) : ∃ c0 c1 c2, l = [c0, c1, c2] := by
  match l, h with
  | [c0, c1, c2], _ => exact ⟨c0, c1, c2, rfl⟩
set_option maxRecDepth 100000 in
theorem open_fall13 {H : Type} {enc : TypeId × Value → H} {w : World} {base : Nat} {spare : Nat → Bool} {held : Bool} {r : Reach} {b0 : Nat} {v : Value} {d : DataW H} {p : List MemPlace}
    (hv : Value.okWide Try.prog w r b0 85 v) (h : DataW.Trod enc Try.prog w base spare held 85 v d p) :
    ∃ (fl fz : Int) (ao : Option Addr) (cap : Nat) (l : List K2), v = fallV fl fz ao l.length cap ∧ fz ≤ 9223372036854775807 ∧ KeepsAt w ao l := by
  have k1 : Try.prog.cellsOf 3 = 1 := by kernel_rfl
  have ks : Try.prog.cellsOf 83 = 1 := by kernel_rfl
  have k3 : Try.prog.cellsOf 85 = 3 := by kernel_rfl
  obtain ⟨cs, rfl, hsz⟩ := okWide_struct Try.underlying85 hv
  obtain ⟨fuel, hf⟩ := h
  obtain ⟨xs, n, _, _, hl, hxl, hfs⟩ := DataW.trod_struct Try.underlying85 hf
  rw [k3] at hl
  obtain ⟨c0, c1, c2, hc⟩ := list3 hl
  obtain ⟨x0, x1, x2, rfl⟩ := list3 hxl
  have f0 := hfs 0 _ rfl
  have f1 := hfs 1 _ rfl
  have f2 := hfs 2 _ rfl
  rw [hc] at f0 f1 f2
  simp [k1] at f0
  simp [k1] at f1
  simp [ks] at f2
  obtain ⟨q, eq, _, wq⟩ := DataW.trod_int Try.underlying3 f0
  obtain ⟨z, ez, _, wz⟩ := DataW.trod_int Try.underlying3 f1
  obtain rfl := (List.cons.inj eq).1
  obtain rfl := (List.cons.inj ez).1
  obtain ⟨ao, cap, l, rfl, hK⟩ := open_keeps f2
  have hb := bounds_i64 wz
  refine ⟨q, z, ao, cap, l, ?_, by omega, hK⟩
  have hc' : cs.toList = [.int .i64 q, .int .i64 z, .slice ao l.length cap] := hc
  rw [fallV, ← hc']
end Go.Proofs.Ytoabdpobpmbckaa.Open
