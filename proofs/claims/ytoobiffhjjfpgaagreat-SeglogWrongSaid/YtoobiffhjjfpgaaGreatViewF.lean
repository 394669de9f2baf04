/- disk: part. disk: span, Flush; view: Flush. view: Flush. -/
import Derived.Test.YtoobiffhjjfpgaaGreatView
import Derived.Test.YtoobiffhjjfpgaaGreatFresh
namespace Go.Proofs.YtoobiffhjjfpgaaGreat.Print
open Go.RowKit
attribute [local go_sem] run_loadVar_scalar

/-- Is a write in a span? -/
def inSpan (f n : Nat) (x : Nat × List UInt8) : Bool := decide (f ≤ x.1) && decide (x.1 - f < n)
theorem filter_snoc {α : Type} (p : α → Bool) (l : List α) (x : α) : (l ++ [x]).filter p = l.filter p ++ (if p x then [x] else []) := by
  rw [List.filter_append]; cases h : p x <;> simp [h]
/-- What a row becomes by one more write. -/
theorem row_more {w1 : World} {xs : List Value} {l : List (Nat × List UInt8)} {x : Nat × List UInt8} {v : Value} {base : Nat} {n : Nat} (hn : n = l.length + 1)
    (hown : w1.ownsRow base 230 65 v n (wcells l ++ xs)) (hx : xs = wcell x) : w1.ownsRow base 230 65 v (l ++ [x]).length (wcells (l ++ [x])) := by
  subst hx; subst hn; rw [wcells_snoc, List.length_append]; exact hown
def Parts (w w' : World) (l m : List (Nat × List UInt8)) (x : Ending) : Prop := ∃ a b, x = .returned (.tuple #[a, b]) ∧ Below w.heap.size w w' ∧
      w'.ownsRow w.heap.size 230 65 a l.length (wcells l) ∧ w'.ownsRow w.heap.size 230 65 b m.length (wcells m) ∧ (∀ k, a.ownBlock = some k → b.ownBlock ≠ some k)
def PartRel (w : World) (waits : List (Nat × List UInt8)) (f n : Nat) (va vb i : Value) (wr : World) : Prop := ∃ j : Nat, j ≤ waits.length ∧ i = .int .i64 j ∧ Below w.heap.size w wr ∧
      wr.ownsRow w.heap.size 230 65 va ((waits.take j).filter (inSpan f n)).length (wcells ((waits.take j).filter (inSpan f n))) ∧
      wr.ownsRow w.heap.size 230 65 vb ((waits.take j).filter (fun x => !inSpan f n x)).length (wcells ((waits.take j).filter (fun x => !inSpan f n x))) ∧ (∀ k, va.ownBlock = some k → vb.ownBlock ≠ some k)
theorem ownsRow_grown {w w1 : World} {row : Option Nat} (hg : w.grownBy w1 row) {base : Nat} {e : TypeId} {size n : Nat} {v : Value} {xs : List Value} (hv : w.ownsRow base e size v n xs) (hne : ∀ k, v.ownBlock = some k → row ≠ some k) : w1.ownsRow base e size v n xs :=
  hv.kept hg (by cases h : v.ownBlock with | none => exact .inl rfl | some k => exact .inr (fun e => hne k h e.symm))
theorem part_step {w wr w1 : World} {B g1 p cap : Nat} {va vb : Value} {n1 n2 : Nat} {l m : List Value} {R : Obj} (hB : Below B w wr) (hBs : B ≤ w.heap.size) (A : wr.ownsRow B 230 65 va n1 l) (C : wr.ownsRow B 230 65 vb n2 m)
    (hap : ∀ k, va.ownBlock = some k → vb.ownBlock ≠ some k) (hg : ((wr.alloc R).alloc R).grownBy w1 va.ownBlock) (hat : va.ownBlock = some g1 ∨ g1 = ((wr.alloc R).alloc R).heap.size) :
    Below B w w1 ∧ w1.ownsRow B 230 65 vb n2 m ∧ ∀ k, (Value.slice (some ⟨g1, 0, none⟩) p cap).ownBlock = some k → vb.ownBlock ≠ some k := by
  have hs := hB.size
  refine ⟨((hB.alloc (by omega) R).alloc (by simp; omega) R).grown hg (by simp; omega) (fun k h => (A.lt k h).1), ownsRow_grown hg ((C.alloc R).alloc R) (fun k h e => hap k e h), fun k hk e => ?_⟩
  have hgk : g1 = k := by simpa [Value.ownBlock] using hk
  subst hgk
  rcases hat with h | h
  · exact hap g1 h e
  · have := (C.lt g1 e).2; simp at h; omega
end Go.Proofs.YtoobiffhjjfpgaaGreat.Print

namespace Go.Proofs.YtoobiffhjjfpgaaGreat.Print
open Go.RowKit
attribute [local go_sem] run_loadVar_scalar

/-- Sectors behind writes. -/
def landed (lies : List (List UInt8)) (ws : List (Nat × List UInt8)) : List (List UInt8) := ws.foldl (fun l x => l.set x.1 x.2) lies
theorem landed_snoc (lies : List (List UInt8)) (ws : List (Nat × List UInt8)) (x : Nat × List UInt8) : landed lies (ws ++ [x]) = (landed lies ws).set x.1 x.2 := by simp [landed]
theorem landed_length (lies : List (List UInt8)) (ws : List (Nat × List UInt8)) : (landed lies ws).length = lies.length := by
  induction ws generalizing lies with
  | nil => rfl
  | cons a r ih => show (landed (lies.set a.1 a.2) r).length = _; rw [ih, List.length_set]
theorem landed_64 (lies : List (List UInt8)) (ws : List (Nat × List UInt8)) (h : ∀ s ∈ lies, s.length = 64) (hw : ∀ x ∈ ws, x.2.length = 64) : ∀ s ∈ landed lies ws, s.length = 64 := by
  induction ws generalizing lies with
  | nil => exact h
  | cons a r ih =>
    refine ih (lies.set a.1 a.2) ?_ (fun x hx => hw x (List.mem_cons_of_mem _ hx))
    intro s hs
    rcases List.mem_or_eq_of_mem_set hs with h1 | h1
    · exact h s h1
    · rw [h1]; exact hw a List.mem_cons_self
theorem flat_set (l : List (List UInt8)) (h : ∀ s ∈ l, s.length = 64) (k : Nat) (hk : k < l.length) (s : List UInt8) : l.flatten.take (k * 64) ++ s ++ l.flatten.drop (k * 64 + 64) = (l.set k s).flatten := by
  induction l generalizing k with
  | nil => simp at hk
  | cons a r ih =>
    have ha := h a List.mem_cons_self
    cases k with
    | zero => simp [ha]
    | succ k =>
      have := ih (fun s hs => h s (List.mem_cons_of_mem _ hs)) k (by simpa using hk)
      rw [List.set_cons_succ, List.flatten_cons, List.flatten_cons, ← this, List.take_append, List.drop_append, show (k + 1) * 64 - a.length = k * 64 by omega, show (k + 1) * 64 + 64 - a.length = k * 64 + 64 by omega,
        List.take_of_length_le (by omega), List.drop_of_length_le (l := a) (by omega)]
      simp
theorem store_sec {w : World} {lb : Nat} {l : List (List UInt8)} (hb : w.heap[lb]? = some (secsObj l)) (h : ∀ s ∈ l, s.length = 64) (k : Nat) (hk : k < l.length) (s : List UInt8) (hs : s.length = 64) :
    (storeCells ⟨lb, k * 64, none⟩ (Lib.byteCells s)).run Tryz.prog w = .ok () (w.setRow lb (Lib.byteCells (l.set k s).flatten).toArray) := by
  have hl : l.flatten.length = l.length * 64 := by
    clear hk hb
    induction l with
    | nil => rfl
    | cons a r ih => rw [List.flatten_cons, List.length_append, ih (fun s hs => h s (List.mem_cons_of_mem _ hs)), h a List.mem_cons_self, List.length_cons]; omega
  have hfit : k * 64 + 64 ≤ l.length * 64 := by omega
  have hst := run_storeCells_at Tryz.prog lb (k * 64) 228 (Lib.byteCells s) 0 _ w hb (by rw [Lib.byteCells_length]; simp [Lib.byteCells_length, hl]; omega) (Lib.byteCells_one _)
  simp only [Nat.add_zero] at hst
  rw [hst, ← flat_set l h k hk s]
  simp [Lib.byteCells, hs]
def FlushRel (w w0 : World) (d lb : Nat) (wv a b : Value) (lies : List (List UInt8)) (ins outs : List (Nat × List UInt8)) (i : Value) (wr : World) : Prop :=
  ∃ j : Nat, j ≤ ins.length ∧ i = .int .i64 j ∧ Upd (DiskFoot d lb wv) w wr ∧ w0.heap.size ≤ wr.heap.size ∧ wr.heap[d]? = some (diskObj lb lies.length wv) ∧ wr.heap[lb]? = some (secsObj (landed lies (ins.take j))) ∧
    wr.ownsRow w.heap.size 230 65 a ins.length (wcells ins) ∧ wr.ownsRow w.heap.size 230 65 b outs.length (wcells outs)
theorem flush_done {w w0 wr : World} {d lb : Nat} {wv a b : Value} {lies : List (List UInt8)} {ins outs : List (Nat × List UInt8)} {waits : List (Nat × List UInt8)} (D : DiskAt w d lb wv lies waits) (h : FlushRel w w0 d lb wv a b lies ins outs (.int .i64 ins.length) wr)
    (hi : ∀ x ∈ ins, x.2.length = 64 ∧ x.1 < lies.length) (ho : ∀ x ∈ outs, x.2.length = 64 ∧ x.1 < lies.length) : DWrote w d lb wv (landed lies ins) outs (wr.setCell ⟨d, 1, none⟩ b) := by
  obtain ⟨j, hj, hij, hU, hs, hd, hlb, hA, hC⟩ := h
  have hjl : j = ins.length := by simp at hij; omega
  subst hjl
  rw [List.take_length] at hlb
  have hdl := lt_of D.at_
  have hll := lt_of D.lies_
  have hbd : b.ownBlock ≠ some d := fun e => by have := (hC.lt d e).1; omega
  have hbl : b.ownBlock ≠ some lb := fun e => by have := (hC.lt lb e).1; omega
  have hU1 : Upd (fun i => i = d) wr (wr.setCell ⟨d, 1, none⟩ b) := (Upd.refl (fun i => i = d) wr).setCell (p := ⟨d, 1, none⟩) (fun _ => rfl) _
  refine ⟨b, ⟨?_, hU1.at_ hlb (fun e => D.dl e.symm), ?_, ?_, ?_, ?_, ?_, D.dl, hbd, hbl⟩, hU.trans hU1 (fun i _ e => .inl e), fun i hi => .inr (hC.lt i hi).1⟩
  · rw [cells_set _ _ _ _ _ _ hd, landed_length]; rfl
  · have := ownsRow_upd hU1 hC (fun i hi e => hbd (by rw [hi, e]))
    refine ⟨this.1, this.2.imp id ?_⟩
    rintro ⟨g, cap, cur, hv, hb, rest⟩
    exact ⟨g, cap, cur, hv, Nat.zero_le _, rest⟩
  · rw [landed_length]; exact D.n1
  · rw [landed_length]; exact D.n2
  · exact landed_64 lies ins D.l64 (fun x hx => (hi x hx).1)
  · intro x hx; rw [landed_length]; exact ho x hx
theorem flush_step {w w0 wr : World} {d lb : Nat} {wv a b : Value} {lies : List (List UInt8)} {ins outs : List (Nat × List UInt8)} {waits : List (Nat × List UInt8)} (D : DiskAt w d lb wv lies waits) {j : Nat} (hj : j < ins.length)
    (hU : Upd (DiskFoot d lb wv) w wr) (hs : w0.heap.size ≤ wr.heap.size) (hd : wr.heap[d]? = some (diskObj lb lies.length wv)) (hlb : wr.heap[lb]? = some (secsObj (landed lies (ins.take j))))
    (hA : wr.ownsRow w.heap.size 230 65 a ins.length (wcells ins)) (hC : wr.ownsRow w.heap.size 230 65 b outs.length (wcells outs)) (o : Obj) (i : Value) (hi : i = .int .i64 ((j + 1 : Nat) : Int)) :
    FlushRel w w0 d lb wv a b lies ins outs i ((wr.alloc o).drew.setRow lb (Lib.byteCells ((landed lies (ins.take j)).set (ins[j]).1 (ins[j]).2).flatten).toArray) := by
  have hll := lt_of D.lies_
  have hU1 : Upd (fun i => i = lb) wr ((wr.alloc o).drew.setRow lb (Lib.byteCells ((landed lies (ins.take j)).set (ins[j]).1 (ins[j]).2).flatten).toArray) := (((Upd.refl (fun i => i = lb) wr).alloc o).drew).setRow (fun _ => rfl) _
  refine ⟨j + 1, hj, hi, hU.trans hU1 (fun i _ e => .inr (.inl e)), Nat.le_trans hs hU1.size, hU1.at_ hd (fun e => D.dl e), ?_, ownsRow_upd hU1 hA (fun i hi e => ?_), ownsRow_upd hU1 hC (fun i hi e => ?_)⟩
  · rw [List.take_succ_eq_append_getElem hj, landed_snoc]
    exact setRow_heap _ lb _ _ _ _ (alloc_old hlb o)
  · have := (hA.lt i hi).1; omega
  · have := (hC.lt i hi).1; omega
theorem sec_size : (Tryz.prog.info? 228).map (·.size) = some 64 := by kernel_rfl
theorem load_sec {w : World} {g : Nat} {x : Nat × List UInt8} (hg : w.heap[g]? = some (.cells (wcell x).toArray 230)) (hx : x.2.length = 64) : (loadVar 228 ⟨g, 1, none⟩).run Tryz.prog w = .ok (.agg (Lib.byteCells x.2).toArray) w :=
  run_loadVar_mid w g 1 228 (Lib.byteCells x.2) _ (fun j v hv => by
    rw [cell_of hg]
    simp only [wcell]
    rw [List.getElem?_toArray, Nat.add_comm 1 j, List.getElem?_cons_succ]
    exact hv) Tryz.underlying228 rfl (by rw [Lib.byteCells_length, hx]; exact sec_size)
theorem store_row {P : Program} {w : World} {b : Nat} {cs : Array Value} {T : TypeId} (hb : w.heap[b]? = some (.cells cs T (0, 0))) (X : Array Value) (hs : cs.size = X.size) (h1 : ∀ v ∈ X.toList, v.oneCell' = true) :
    (storeCells ⟨b, 0, none⟩ X.toList).run P w = .ok () (w.setRow b X) := by
  have := run_storeCells_from (P := P) b T X.toList 0 cs w hb (by simp; omega) h1
  rw [this]
  simp
theorem setRow_block {w : World} {b : Nat} {cs X : Array Value} {T : TypeId} {fr : Nat × Nat} (hb : w.heap[b]? = some (.cells cs T fr)) : (w.setRow b X).heap[b]? = some (.cells X T fr) := by
  simp [World.setRow, Array.getElem?_modify, hb]
end Go.Proofs.YtoobiffhjjfpgaaGreat.Print

namespace Go.Proofs.YtoobiffhjjfpgaaGreat.Print
open Go.RowKit

theorem alloc1 (w : World) (a : Value) (ta : TypeId) : Below w.heap.size w (w.alloc (.cells #[a] ta)) ∧ (w.alloc (.cells #[a] ta)).cell? ⟨w.heap.size, 0, none⟩ = some a ∧ (w.alloc (.cells #[a] ta)).heap.size = w.heap.size + 1 := by
  refine ⟨(Below.refl _ _).alloc (Nat.le_refl _) _, ?_, by simp⟩
  rw [cell_of (alloc_at w _)]; rfl
/-- Behind a step: the view counted. -/
theorem VAt.stepped {w w1 : World} {v d lb : Nat} {wv : Value} {lies : List (List UInt8)} {waits : List (Nat × List UInt8)} {f n : Nat} {fu : Int} {dead : Bool} (V : VAt w v d lb wv lies waits f n fu dead) (hU : Upd (fun i => i = v) w w1) (hV : ViewAt w1 v d f n (burn fu) false) :
    VAt w1 v d lb wv lies waits f n (burn fu) false :=
  ⟨hV, V.disk_.keep hU V.disk_ne, V.vd, V.vl, V.vw, V.fn, (burn_le fu V.fu1 V.fu2).1, (burn_le fu V.fu1 V.fu2).2⟩
/-- A view whose disk was turned. -/
theorem VAt.turned {w w0 w1 w' : World} {v d lb : Nat} {wv : Value} {lies lies' : List (List UInt8)} {waits waits' waits0 : List (Nat × List UInt8)} {f n : Nat} {fu fu0 : Int} {dead dead0 : Bool} (V0 : VAt w v d lb wv lies waits0 f n fu0 dead0) (V : VAt w1 v d lb wv lies waits f n fu dead) (hU1 : Upd (VFoot v d lb wv) w w0) (hU : Upd (fun i => i = v) w0 w1)
    (hl : lies'.length = lies.length) (h : DWrote w1 d lb wv lies' waits' w') : VPost w v d lb wv lies' waits' f n fu dead w' := by
  obtain ⟨wv', D', U', hw'⟩ := h
  refine ⟨wv', ⟨?_, D', V.vd, V.vl, ?_, by rw [hl]; exact V.fn, V.fu1, V.fu2⟩, ?_, ?_⟩
  · obtain ⟨st', hV'⟩ := V.view_
    exact ⟨st', U'.at_ hV' (fun h => V.disk_ne v h rfl)⟩
  · intro e
    rcases hw' v e with h | h
    · exact V.vw h
    · have := V0.lt v (.inl rfl); have := hU.size; have := hU1.size; omega
  · exact (hU1.trans hU (fun i _ e => .inl e)).trans U' (fun i _ h => .inr h)
  · intro i hi
    rcases hw' i hi with h | h
    · exact .inl h
    · have := hU.size; have := hU1.size; exact .inr (by omega)
/-- A view whose fuse has burnt. -/
theorem VAt.died {w w0 : World} {v d lb : Nat} {wv : Value} {lies : List (List UInt8)} {waits : List (Nat × List UInt8)} {f n : Nat} {fu st : Int} {dead : Bool} (V : VAt w0 v d lb wv lies waits f n fu dead) (hv : w0.heap[v]? = some (viewObj d f n fu st dead)) (hU1 : Upd (VFoot v d lb wv) w w0) :
    VPost w v d lb wv lies waits f n fu true (w0.setCell ⟨v, 5, none⟩ (.bool true)) :=
  ⟨wv, ⟨⟨st, (viewObj_set (fu' := 0) (st' := 0) hv).2.2⟩, V.disk_.keep ((Upd.refl (fun i => i = v) w0).setCell (p := ⟨v, 5, none⟩) (fun _ => rfl) _) V.disk_ne, V.vd, V.vl, V.vw, V.fn, V.fu1, V.fu2⟩, hU1.setCell (p := ⟨v, 5, none⟩) (fun _ => .inl rfl) _, fun _ hi => .inl hi⟩
end Go.Proofs.YtoobiffhjjfpgaaGreat.Print
