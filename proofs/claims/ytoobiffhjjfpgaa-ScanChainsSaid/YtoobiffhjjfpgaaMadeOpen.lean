/- Segments that are to be made, as they come in: a slice of weighlocklaw15.Made. -/
import Derived.Test.YtoobiffhjjfpgaaMade
import Derived.ProofKit
import Derived.OpenShut
import Derived.Deep.Slices
import Derived.ChangeSame
namespace Go.Proofs.Ytoobiffhjjfpgaa.Print
open Go.RowKit
abbrev T6 := Int × Int × Int × Int × Int × Int
def madeC (t : T6) : List Value := [.int .i64 t.1, .int .i64 t.2.1, .int .i64 t.2.2.1, .int .u32 t.2.2.2.1, .int .u32 t.2.2.2.2.1, .int .i64 t.2.2.2.2.2]
def T6Ok (t : T6) : Prop := (0 ≤ t.2.2.2.1 ∧ t.2.2.2.1 < 4294967296) ∧ (0 ≤ t.2.2.2.2.1 ∧ t.2.2.2.2.1 < 4294967296)
/-- They in memory. -/
def MadesAt (w : World) (ao : Option Addr) (l : List T6) : Prop := ∀ i (h : i < l.length), ∃ a, ao = some a ∧ ∀ j u, (madeC l[i])[j]? = some u → w.cell? (a.add (i * 6 + j)) = some u
theorem MadesAt.keep {S : Nat → Prop} {w w1 : World} {ao : Option Addr} {l : List T6} (h : MadesAt w ao l) (hU : Upd S w w1) (hn : ∀ a, ao = some a → 0 < l.length → ¬ S a.block) : MadesAt w1 ao l := by
  intro i hi
  obtain ⟨a, ha, hc⟩ := h i hi
  refine ⟨a, ha, fun j u hu => ?_⟩
  have hcw := hc j u hu
  rw [World.cell?_of_block (hU.other _ (World.block_lt_of_cell? w _ hcw) (by rw [addr_block]; exact hn a ha (by omega)))]
  exact hcw
theorem MadesAt.below {w w1 : World} {ao : Option Addr} {l : List T6} (h : MadesAt w ao l) (hb : Below w.heap.size w w1) : MadesAt w1 ao l := h.keep (S := fun _ => False) (Upd.of_below hb) (fun _ _ _ h => h)
theorem madeSize (t : T6) : (Try.prog.info? 30).map (·.size) = some (madeC t).length := by kernel_rfl
def madeA (t : T6) : Array Value := #[.int .i64 t.1, .int .i64 t.2.1, .int .i64 t.2.2.1, .int .u32 t.2.2.2.1, .int .u32 t.2.2.2.2.1, .int .i64 t.2.2.2.2.2]
theorem MadesAt.load {w : World} {ao : Option Addr} {l : List T6} (h : MadesAt w ao l) (i : Nat) (hi : i < l.length) : ∃ a, ao = some a ∧ (loadVar 30 (a.add (i * 6))).run Try.prog w = .ok (.agg (madeA l[i])) w := by
  obtain ⟨a, ha, hc⟩ := h i hi
  refine ⟨a, ha, run_loadVar_cells w (a.add (i * 6)) 30 (madeC l[i]) _ (fun j v hv => ?_) Try.underlying30 rfl (madeSize _)⟩
  rw [Go.Deep.add_add]
  exact hc j v hv
end Go.Proofs.Ytoobiffhjjfpgaa.Print

namespace Go.Proofs.Ytoobiffhjjfpgaa.Open
open Go.ChangeShapes Go.WideShapes Go.ChangeAt Go.RowKit Go.Deep Go.Proofs.Ytoobiffhjjfpgaa.Print
theorem lst6 {α : Type} {l : List α} (h : l.length = 6) : ∃ c0 c1 c2 c3 c4 c5, l = [c0, c1, c2, c3, c4, c5] := by
  match l, h with
  | [c0, c1, c2, c3, c4, c5], _ => exact ⟨c0, c1, c2, c3, c4, c5, rfl⟩
theorem lst3 {α : Type} {l : List α} (h : l.length = 3) : ∃ c0 c1 c2, l = [c0, c1, c2] := by
  match l, h with
  | [c0, c1, c2], _ => exact ⟨c0, c1, c2, rfl⟩
theorem lst4 {α : Type} {l : List α} (h : l.length = 4) : ∃ c0 c1 c2 c3, l = [c0, c1, c2, c3] := by
  match l, h with
  | [c0, c1, c2, c3], _ => exact ⟨c0, c1, c2, c3, rfl⟩
set_option maxRecDepth 100000 in
theorem trod_hdr {H : Type} {enc : TypeId × Value → H} {w : World} {base : Nat} {spare : Nat → Bool} {held : Bool} {fuel : Nat} {cs : List Value} {x : DataW H × List MemPlace} (h : DataW.trod enc Try.prog w base spare held fuel 25 cs = some x) :
    ∃ a b c d : Int, cs = [.int .i64 a, .int .u32 b, .int .u32 c, .int .i64 d] ∧ (0 ≤ b ∧ b < 4294967296) ∧ (0 ≤ c ∧ c < 4294967296) := by
  have k1 : Try.prog.cellsOf 3 = 1 := by kernel_rfl
  have ku : Try.prog.cellsOf 23 = 1 := by kernel_rfl
  have k4 : Try.prog.cellsOf 25 = 4 := by kernel_rfl
  obtain ⟨xs, n, _, _, hl, hxl, hf⟩ := DataW.trod_struct Try.underlying25 h
  rw [k4] at hl
  obtain ⟨c0, c1, c2, c3, rfl⟩ := lst4 hl
  obtain ⟨x0, x1, x2, x3, rfl⟩ := lst4 hxl
  have f0 := hf 0 _ rfl
  have f1 := hf 1 _ rfl
  have f2 := hf 2 _ rfl
  have f3 := hf 3 _ rfl
  simp [k1] at f0
  simp [ku] at f1
  simp [ku] at f2
  simp [k1] at f3
  obtain ⟨a, ea, _, _⟩ := DataW.trod_int Try.underlying3 f0
  obtain ⟨b, eb, _, wb⟩ := DataW.trod_int Try.underlying23 f1
  obtain ⟨c, ec, _, wc⟩ := DataW.trod_int Try.underlying23 f2
  obtain ⟨d, ed, _, _⟩ := DataW.trod_int Try.underlying3 f3
  obtain rfl := (List.cons.inj ea).1
  obtain rfl := (List.cons.inj eb).1
  obtain rfl := (List.cons.inj ec).1
  obtain rfl := (List.cons.inj ed).1
  have u := bounds_u32 wb
  have u2 := bounds_u32 wc
  exact ⟨a, b, c, d, rfl, by omega, by omega⟩
set_option maxRecDepth 100000 in
theorem trod_made {H : Type} {enc : TypeId × Value → H} {w : World} {base : Nat} {spare : Nat → Bool} {held : Bool} {fuel : Nat} {cs : List Value} {x : DataW H × List MemPlace} (h : DataW.trod enc Try.prog w base spare held fuel 30 cs = some x) :
    ∃ t : T6, cs = madeC t ∧ T6Ok t := by
  have k1 : Try.prog.cellsOf 3 = 1 := by kernel_rfl
  have k4 : Try.prog.cellsOf 25 = 4 := by kernel_rfl
  have k6 : Try.prog.cellsOf 30 = 6 := by kernel_rfl
  obtain ⟨xs, n, _, _, hl, hxl, hf⟩ := DataW.trod_struct Try.underlying30 h
  rw [k6] at hl
  obtain ⟨c0, c1, c2, c3, c4, c5, rfl⟩ := lst6 hl
  obtain ⟨x0, x1, x2, rfl⟩ := lst3 hxl
  have f0 := hf 0 _ rfl
  have f1 := hf 1 _ rfl
  have f2 := hf 2 _ rfl
  simp [k1] at f0
  simp [k1] at f1
  simp [k4] at f2
  obtain ⟨a, ea, _, _⟩ := DataW.trod_int Try.underlying3 f0
  obtain ⟨b, eb, _, _⟩ := DataW.trod_int Try.underlying3 f1
  obtain ⟨q0, q1, q2, q3, hq, hb, hc⟩ := trod_hdr f2
  obtain rfl := (List.cons.inj ea).1
  obtain rfl := (List.cons.inj eb).1
  simp only [List.cons.injEq, and_true] at hq
  obtain ⟨rfl, rfl, rfl, rfl⟩ := hq
  exact ⟨(a, b, q0, q1, q2, q3), rfl, hb, hc⟩
set_option maxRecDepth 100000 in
theorem open_mades {H : Type} {enc : TypeId × Value → H} {w : World} {base : Nat} {spare : Nat → Bool} {held : Bool} {r : Reach} {b0 : Nat} {v : Value} {d : DataW H} {p : List MemPlace} (hv : Value.okWide Try.prog w r b0 22 v) (h : DataW.Trod enc Try.prog w base spare held 22 v d p) :
    ∃ (ao : Option Addr) (cap : Nat) (l : List T6), v = .slice ao l.length cap ∧ l.length ≤ cap ∧ MadesAt w ao l ∧ ∀ t ∈ l, T6Ok t := by
  obtain ⟨ao0, len0, cap0, rfl⟩ := okWide_slice Try.underlying22 hv
  obtain ⟨fuel, hf⟩ := h
  have k6 : Try.prog.cellsOf 30 = 6 := by kernel_rfl
  rcases open_slice Try.underlying22 hf with ⟨hcs, _⟩ | ⟨a, len, cap, m, n, D, Pl, hcs, hb, hl, hm, hmm, hx, hi⟩
  · exact ⟨none, 0, [], (List.cons.inj hcs).1, Nat.le_refl _, fun i h => absurd h (Nat.not_lt_zero i), fun x hx => absurd hx (List.not_mem_nil)⟩
  · have hv := (List.cons.inj hcs).1
    have hlm : len ≤ m := by rw [hmm]; split <;> omega
    have hH : ∀ i, i < len → ∃ y : T6, (∀ j u, (madeC y)[j]? = some u → w.cell? (a.add (i * 6 + j)) = some u) ∧ T6Ok y := by
      intro i hil
      obtain ⟨cs', hcl, ht⟩ := hi i (by omega)
      rw [k6] at hcl
      obtain ⟨_, hcl5, hat⟩ := World.cells?_some hcl
      obtain ⟨t, hcs', hst⟩ := trod_made ht
      refine ⟨t, fun j u hu => ?_, hst⟩
      have hj : j < 6 := by have := (List.getElem?_eq_some_iff.1 hu).1; simpa [madeC] using this
      have := hat j hj
      rw [Go.Deep.add_add, hcs'] at this
      rw [this]; exact hu
    refine ⟨some a, cap, (List.range len).map (fun i => if h : i < len then Classical.choose (hH i h) else (0, 0, 0, 0, 0, 0)), by simpa using hv, by simp; omega, fun i h => ⟨a, rfl, fun j u hu => ?_⟩, ?_⟩
    · have hil : i < len := by simpa using h
      simp only [List.getElem_map, List.getElem_range, dif_pos hil] at hu
      exact (Classical.choose_spec (hH i hil)).1 j u hu
    · intro x hx
      obtain ⟨i, hir, rfl⟩ := List.mem_map.1 hx
      have hil : i < len := by simpa using hir
      rw [dif_pos hil]
      exact (Classical.choose_spec (hH i hil)).2
end Go.Proofs.Ytoobiffhjjfpgaa.Open
