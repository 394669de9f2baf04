/- Small words that the walks share: a block of memory that is written while all others stay; what a call leaves of old memory. -/
import Derived.Test.YtoabdpobpmbckaaProg
import Derived.WalkKit
import Derived.WalkSpells
import Derived.WalkLawsBesides
import Derived.Lib.Hide
import Derived.Laws.BytesArg
import Derived.Deep.QuietTactic
import Derived.BigQuiet
import Derived.StillTailTactics
import Derived.Deep.RegionWith
import Derived.Laws.Rows
namespace Go.Proofs.Ytoabdpobpmbckaa.Print
open Go.RowKit

/-- A block is written, blocks are made; all other blocks stay. -/
structure Wrote (b : Nat) (o : Obj) (w w' : World) : Prop where
  os : w'.os = w.os
  tape : w'.tape = w.tape
  output : w'.output = w.output
  size : w.heap.size ≤ w'.heap.size
  old : b < w.heap.size
  at_ : w'.heap[b]? = some o
  other : ∀ k, k < w.heap.size → k ≠ b → w'.heap[k]? = w.heap[k]?

theorem Wrote.refl {b : Nat} {o : Obj} {w : World} (h : w.heap[b]? = some o) : Wrote b o w w :=
  ⟨rfl, rfl, rfl, Nat.le_refl _, (Array.getElem?_eq_some_iff.1 h).1, h, fun _ _ _ => rfl⟩
theorem Wrote.trans {b : Nat} {o o' : Obj} {w w1 w2 : World} (h : Wrote b o w w1) (k : Wrote b o' w1 w2) : Wrote b o' w w2 :=
  ⟨k.os.trans h.os, k.tape.trans h.tape, k.output.trans h.output, Nat.le_trans h.size k.size, h.old, k.at_, fun i hi hb => (k.other i (Nat.lt_of_lt_of_le hi h.size) hb).trans (h.other i hi hb)⟩
theorem Wrote.drew {b : Nat} {o : Obj} {w w1 : World} (h : Wrote b o w w1) : Wrote b o w w1.drew := ⟨h.os, h.tape, h.output, h.size, h.old, h.at_, h.other⟩
theorem Wrote.drewN {b : Nat} {o : Obj} {w w1 : World} (h : Wrote b o w w1) (n : Nat) : Wrote b o w (w1.drewN n) := ⟨h.os, h.tape, h.output, h.size, h.old, h.at_, h.other⟩
theorem Wrote.below {b : Nat} {o : Obj} {w w1 w2 : World} (h : Wrote b o w w1) (k : Below w1.heap.size w1 w2) : Wrote b o w w2 :=
  ⟨k.os.trans h.os, k.tape.trans h.tape, k.output.trans h.output, Nat.le_trans h.size k.size, h.old, (k.block b (Nat.lt_of_lt_of_le h.old h.size)).trans h.at_, fun i hi hb => (k.block i (Nat.lt_of_lt_of_le hi h.size)).trans (h.other i hi hb)⟩
/-- What a written block of the call's own leaves below. -/
theorem Wrote.under {b B : Nat} {o : Obj} {w w1 : World} (h : Wrote b o w w1) (hB : B ≤ b) : Below B w w1 :=
  ⟨h.os, h.tape, h.output, h.size, fun k hk => h.other k (by have := h.old; omega) (by omega)⟩
theorem cells_set (w : World) (b o : Nat) (c : Array Value) (t : TypeId) (fr : Nat × Nat) (h : w.heap[b]? = some (.cells c t fr)) (v : Value) :
    (w.setCell ⟨b, o, none⟩ v).heap[b]? = some (.cells (c.setIfInBounds o v) t fr) := by
  simp [World.setCell, Array.getElem?_modify, h]
theorem Wrote.setCell {b o : Nat} {c : Array Value} {t : TypeId} {fr : Nat × Nat} {w w1 : World} (h : Wrote b (.cells c t fr) w w1) (v : Value) :
    Wrote b (.cells (c.setIfInBounds o v) t fr) w (w1.setCell ⟨b, o, none⟩ v) :=
  ⟨h.os, h.tape, h.output, by simpa [World.setCell] using h.size, h.old, cells_set _ _ _ _ _ _ h.at_ v, fun k hk hb => by
    rw [Below.heap_setCell _ _ _ _ hb]; exact h.other k hk hb⟩
theorem cell_of {w : World} {b : Nat} {c : Array Value} {t : TypeId} {fr : Nat × Nat} (h : w.heap[b]? = some (.cells c t fr)) (o : Nat) : w.cell? ⟨b, o, none⟩ = c[o]? := by
  simp [World.cell?, h]
theorem free_of {w : World} {b : Nat} {c : Array Value} {t : TypeId} (h : w.heap[b]? = some (.cells c t (0, 0))) (o : Nat) : w.frozen? ⟨b, o, none⟩ = false := by
  simp [World.frozen?, h]
theorem lt_of {w : World} {b : Nat} {o : Obj} (h : w.heap[b]? = some o) : b < w.heap.size := (Array.getElem?_eq_some_iff.1 h).1
theorem alloc_at (w : World) (o : Obj) : (w.alloc o).heap[w.heap.size]? = some o := by
  show (w.heap.push o)[w.heap.size]? = _
  simp
theorem alloc_at' (w : World) (o : Obj) (g : Nat) (hg : g = w.heap.size) : (w.alloc o).heap[g]? = some o := hg ▸ alloc_at w o
theorem alloc_old {w : World} {b : Nat} {x : Obj} (h : w.heap[b]? = some x) (o : Obj) : (w.alloc o).heap[b]? = some x :=
  (Below.heap_alloc w o b (lt_of h)).trans h
/-- What a call leaves: cells and marks of old blocks read as before. -/
theorem bcell {W w1 : World} (hb : Below W.heap.size W w1) : (∀ b o, b < W.heap.size → w1.cell? ⟨b, o, none⟩ = W.cell? ⟨b, o, none⟩) ∧ (∀ b o, b < W.heap.size → w1.frozen? ⟨b, o, none⟩ = W.frozen? ⟨b, o, none⟩) :=
  ⟨fun b o h => hb.cell (p := ⟨b, o, none⟩) h, fun b o h => hb.frozen (p := ⟨b, o, none⟩) h⟩
theorem below_drewN {B : Nat} {a w : World} (h : Below B a w) (n : Nat) : Below B a (w.drewN n) := ⟨h.os, h.tape, h.output, h.size, h.block⟩
theorem below_chain {w w1 w2 : World} (h : Below w.heap.size w w1) (k : Below w1.heap.size w1 w2) : Below w.heap.size w w2 := h.trans (k.mono h.size)
theorem ret_int {k : IntKind} {a b : Int} (h : a = b) : Ending.returned (.int k a) = .returned (.int k b) := by rw [h]
theorem ret_str {a b : ByteArray} (h : a = b) : Ending.returned (.string a) = .returned (.string b) := by rw [h]
/-- A block of two cells, read. -/
theorem two_of {w : World} {b : Nat} {c0 c1 : Value} {t : TypeId} (h : w.heap[b]? = some (.cells #[c0, c1] t)) :
    w.cell? ⟨b, 0, none⟩ = some c0 ∧ w.cell? ⟨b, 1, none⟩ = some c1 ∧ w.frozen? ⟨b, 0, none⟩ = false ∧ w.frozen? ⟨b, 1, none⟩ = false :=
  ⟨by rw [cell_of h]; rfl, by rw [cell_of h]; rfl, free_of h 0, free_of h 1⟩
/-- A block of four cells, read. -/
theorem four_of {w : World} {b : Nat} {c0 c1 c2 c3 : Value} {t : TypeId} (h : w.heap[b]? = some (.cells #[c0, c1, c2, c3] t)) :
    w.cell? ⟨b, 0, none⟩ = some c0 ∧ w.cell? ⟨b, 1, none⟩ = some c1 ∧ w.cell? ⟨b, 2, none⟩ = some c2 ∧ w.cell? ⟨b, 3, none⟩ = some c3 ∧
    w.frozen? ⟨b, 0, none⟩ = false ∧ w.frozen? ⟨b, 1, none⟩ = false ∧ w.frozen? ⟨b, 2, none⟩ = false ∧ w.frozen? ⟨b, 3, none⟩ = false :=
  ⟨by rw [cell_of h]; rfl, by rw [cell_of h]; rfl, by rw [cell_of h]; rfl, by rw [cell_of h]; rfl, free_of h 0, free_of h 1, free_of h 2, free_of h 3⟩

/-- Two cells of a block b of W, held through a region. -/
theorem keep_drew2 {W : World} {b : Nat} {c0 c1 : Value} (h0 : W.cell? ⟨b, 0, none⟩ = some c0) (h1 : W.cell? ⟨b, 1, none⟩ = some c1) :
    W.drew.cell? ⟨b, 0, none⟩ = some c0 ∧ W.drew.cell? ⟨b, 1, none⟩ = some c1 ∧ Below W.heap.size W W.drew := ⟨h0, h1, (Below.refl _ _).drew⟩
theorem keep_call2 {W w1 w2 : World} {b : Nat} {c0 c1 : Value} (hlt : b < W.heap.size) (hS : w1.cell? ⟨b, 0, none⟩ = some c0 ∧ w1.cell? ⟨b, 1, none⟩ = some c1 ∧ Below W.heap.size W w1) (hb : Below w1.heap.size w1 w2) :
    w2.cell? ⟨b, 0, none⟩ = some c0 ∧ w2.cell? ⟨b, 1, none⟩ = some c1 ∧ Below W.heap.size W w2 :=
  ⟨(hb.cell (p := ⟨b, 0, none⟩) (Nat.lt_of_lt_of_le hlt hS.2.2.size)).trans hS.1, (hb.cell (p := ⟨b, 1, none⟩) (Nat.lt_of_lt_of_le hlt hS.2.2.size)).trans hS.2.1, below_chain hS.2.2 hb⟩
theorem keep_alloc2 {W w1 : World} {b : Nat} {c0 c1 : Value} (hlt : b < W.heap.size) (hS : w1.cell? ⟨b, 0, none⟩ = some c0 ∧ w1.cell? ⟨b, 1, none⟩ = some c1 ∧ Below W.heap.size W w1) (o : Obj) :
    (w1.alloc o).cell? ⟨b, 0, none⟩ = some c0 ∧ (w1.alloc o).cell? ⟨b, 1, none⟩ = some c1 ∧ Below W.heap.size W (w1.alloc o) :=
  keep_call2 hlt hS ((Below.refl _ _).alloc (Nat.le_refl _) o)

end Go.Proofs.Ytoabdpobpmbckaa.Print
