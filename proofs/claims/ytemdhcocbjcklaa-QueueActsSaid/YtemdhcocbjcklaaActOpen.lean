/- Calls that came in: an Act by value; a slice of them. -/
import Derived.Test.YtemdhcocbjcklaaProg
import Derived.ProofKit
import Derived.OpenShut
import Derived.Deep.Slices
import Derived.ChangeSame
namespace Go.Proofs.Ytemdhcocbjcklaa.Open
open Go.ChangeShapes Go.WideShapes Go.ChangeAt Go.RowKit Go.Deep
theorem list5 {α : Type} {l : List α} (h : l.length = 5) : ∃ c0 c1 c2 c3 c4, l = [c0, c1, c2, c3, c4] := by
  match l, h with
  | [c0, c1, c2, c3, c4], _ => exact ⟨c0, c1, c2, c3, c4, rfl⟩
set_option maxRecDepth 100000 in
theorem trod_act {H : Type} {enc : TypeId × Value → H} {w : World} {base : Nat} {spare : Nat → Bool} {held : Bool} {fuel : Nat} {cs : List Value} {x : DataW H × List MemPlace} (h : DataW.trod enc Try.prog w base spare held fuel 30 cs = some x) :
    ∃ k s id b t : Int, cs = [.int .i64 k, .int .i64 s, .int .i64 id, .int .i64 b, .int .i64 t] ∧ (Lit.int .i64 s).wf = true := by
  have k1 : Try.prog.cellsOf 3 = 1 := by kernel_rfl
  have k5 : Try.prog.cellsOf 30 = 5 := by kernel_rfl
  obtain ⟨xs, n, _, _, hl, hxl, hf⟩ := DataW.trod_struct Try.underlying30 h
  rw [k5] at hl
  obtain ⟨c0, c1, c2, c3, c4, rfl⟩ := list5 hl
  obtain ⟨x0, x1, x2, x3, x4, rfl⟩ := list5 hxl
  have f0 := hf 0 _ rfl
  have f1 := hf 1 _ rfl
  have f2 := hf 2 _ rfl
  have f3 := hf 3 _ rfl
  have f4 := hf 4 _ rfl
  simp [k1] at f0
  simp [k1] at f1
  simp [k1] at f2
  simp [k1] at f3
  simp [k1] at f4
  obtain ⟨k, ek, _, _⟩ := DataW.trod_int Try.underlying3 f0
  obtain ⟨s, es, _, ws⟩ := DataW.trod_int Try.underlying3 f1
  obtain ⟨id, ei, _, _⟩ := DataW.trod_int Try.underlying3 f2
  obtain ⟨b, eb, _, _⟩ := DataW.trod_int Try.underlying3 f3
  obtain ⟨t, et, _, _⟩ := DataW.trod_int Try.underlying3 f4
  obtain rfl := (List.cons.inj ek).1
  obtain rfl := (List.cons.inj es).1
  obtain rfl := (List.cons.inj ei).1
  obtain rfl := (List.cons.inj eb).1
  obtain rfl := (List.cons.inj et).1
  exact ⟨k, s, id, b, t, rfl, ws⟩
set_option maxRecDepth 100000 in
theorem open_act {H : Type} {enc : TypeId × Value → H} {w : World} {base : Nat} {spare : Nat → Bool} {held : Bool} {r : Reach} {b0 : Nat} {v : Value} {d : DataW H} {p : List MemPlace}
    (hv : Value.okWide Try.prog w r b0 30 v) (h : DataW.Trod enc Try.prog w base spare held 30 v d p) : ∃ k s id b t : Int, v = .agg #[.int .i64 k, .int .i64 s, .int .i64 id, .int .i64 b, .int .i64 t] := by
  obtain ⟨cs, rfl, hsz⟩ := okWide_struct Try.underlying30 hv
  obtain ⟨fuel, hf⟩ := h
  obtain ⟨k, s, id, b, t, hcs, _⟩ := trod_act hf
  refine ⟨k, s, id, b, t, ?_⟩
  have : cs.toList = [.int .i64 k, .int .i64 s, .int .i64 id, .int .i64 b, .int .i64 t] := hcs
  rw [← this]
/-- A call as numbers: kind, session, ID, bytes, tick. -/
abbrev A5 := Int × Int × Int × Int × Int
def actC (x : A5) : List Value := [.int .i64 x.1, .int .i64 x.2.1, .int .i64 x.2.2.1, .int .i64 x.2.2.2.1, .int .i64 x.2.2.2.2]
/-- A slice of calls that came in: nil, or calls that lie one behind the other. -/
theorem open_acts {H : Type} {enc : TypeId × Value → H} {w : World} {base : Nat} {spare : Nat → Bool} {held : Bool} {v : Value} {d : DataW H} {p : List MemPlace} (hc : v.cells.toList = [v]) (h : DataW.Trod enc Try.prog w base spare held 22 v d p) :
    v = .slice none 0 0 ∨ ∃ (a : Addr) (cap : Nat) (l : List A5), v = .slice (some a) l.length cap ∧ l.length ≤ maxLen ∧ ∀ i (h : i < l.length), ∀ j u, (actC l[i])[j]? = some u → w.cell? (a.add (i * 5 + j)) = some u := by
  have k5 : Try.prog.cellsOf 30 = 5 := by kernel_rfl
  obtain ⟨fuel, hf⟩ := h
  rcases open_slice Try.underlying22 hf with ⟨hcs, _⟩ | ⟨a, len, cap, m, n, D, Pl, hcs, hb, hl, hm, hmm, hx, hi⟩
  · rw [hc] at hcs; exact .inl (List.cons.inj hcs).1
  · rw [hc] at hcs
    have hv := (List.cons.inj hcs).1
    right
    have hlm : len ≤ m := by rw [hmm]; split <;> omega
    have hH : ∀ i, i < len → ∃ y : A5, ∀ j u, (actC y)[j]? = some u → w.cell? (a.add (i * 5 + j)) = some u := by
      intro i hil
      obtain ⟨cs', hcl, ht⟩ := hi i (by omega)
      rw [k5] at hcl
      obtain ⟨_, hcl5, hat⟩ := World.cells?_some hcl
      obtain ⟨k, s, id, b, t, hcs', _⟩ := trod_act ht
      refine ⟨(k, s, id, b, t), fun j u hu => ?_⟩
      have hj : j < 5 := by have := (List.getElem?_eq_some_iff.1 hu).1; simpa [actC] using this
      have := hat j hj
      rw [Go.Deep.add_add, hcs'] at this
      rw [this]; exact hu
    refine ⟨a, cap, (List.range len).map (fun i => if h : i < len then Classical.choose (hH i h) else (0, 0, 0, 0, 0)), by simpa using hv, by simp; omega, fun i h j u hu => ?_⟩
    have hil : i < len := by simpa using h
    simp only [List.getElem_map, List.getElem_range, dif_pos hil] at hu
    exact Classical.choose_spec (hH i hil) j u hu
end Go.Proofs.Ytemdhcocbjcklaa.Open
