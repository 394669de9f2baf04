/- disk: Write. -/
import Derived.Test.YtemdhcocbjcklaaDisk
import Derived.Deep.AppendLies
import Derived.BigRegion
import Derived.Deep.WholeRow
namespace Go.Proofs.Ytemdhcocbjcklaa.Print
open Go.RowKit

/-- A load of one cell, where loadVar is not laid open (attribute [-go_sem] loadVar): for walks beside whole rows. -/
theorem run_loadVar_scalar {P : Program} {t : TypeId} {a : Addr} {w : World} (h : (isAgg t).run P w = .ok false w) : (loadVar t a).run P w = (load a).run P w := by
  simp [loadVar, Sem.run_bind, h]
attribute [local go_sem] run_loadVar_scalar
theorem fold_set (o : Nat) : ∀ (l : List Value) (k : Nat) (cs : Array Value), o + k + l.length ≤ cs.size → ((l.zipIdx k).foldl (fun (cs : Array Value) (p : Value × Nat) => cs.setIfInBounds (o + p.2) p.1) cs).size = cs.size ∧
    ∀ i, ((l.zipIdx k).foldl (fun (cs : Array Value) (p : Value × Nat) => cs.setIfInBounds (o + p.2) p.1) cs)[i]? = if o + k ≤ i ∧ i < o + k + l.length then l[i - (o + k)]? else cs[i]?
  | [], k, cs, _ => ⟨rfl, fun i => by rw [if_neg (by simp)]; rfl⟩
  | v :: l, k, cs, h => by
    simp only [List.length_cons] at h
    obtain ⟨h1, h2⟩ := fold_set o l (k + 1) (cs.setIfInBounds (o + k) v) (by rw [Array.size_setIfInBounds]; omega)
    refine ⟨by rw [List.zipIdx_cons, List.foldl_cons]; rw [h1, Array.size_setIfInBounds], fun i => ?_⟩
    rw [List.zipIdx_cons, List.foldl_cons, h2 i]
    by_cases hi : o + k = i
    · subst hi
      rw [if_neg (by omega), if_pos ⟨by omega, by simp⟩, Array.getElem?_setIfInBounds_self_of_lt (by omega)]
      simp
    · by_cases h3 : o + (k + 1) ≤ i ∧ i < o + (k + 1) + l.length
      · rw [if_pos h3, if_pos ⟨by omega, by simp; omega⟩, show i - (o + k) = (i - (o + (k + 1))) + 1 by omega, List.getElem?_cons_succ]
      · rw [if_neg h3, if_neg (by simp; omega), Array.getElem?_setIfInBounds_ne hi]
theorem fill_one (cells X : Array Value) (n : Nat) (h : cells.size = n) (hX : X.size = n) : Instr.fill (fun i => some (i * n, n)) cells [(0, .agg X)] = some X := by
  have hl : X.zipIdx.foldl (fun (cs : Array Value) (p : Value × Nat) => cs.setIfInBounds (0 * n + p.2) p.1) cells = X := by
    obtain ⟨h1, h2⟩ := fold_set (0 * n) X.toList 0 cells (by simp; omega)
    rw [← Array.foldl_toList, Array.toList_zipIdx]
    apply Array.ext_getElem?
    intro i
    rw [h2 i]
    by_cases hi : i < X.size
    · rw [if_pos (by simp; exact hi)]; simp
    · rw [if_neg (by simp; omega), Array.getElem?_eq_none (by omega), Array.getElem?_eq_none (by omega)]
  show (if (X.size ≠ n || 0 * n + X.size > cells.size) then none else some (X.zipIdx.foldl (fun (cs : Array Value) (p : Value × Nat) => cs.setIfInBounds (0 * n + p.2) p.1) cells)) = some X
  rw [if_neg (by simp; omega), hl]
/-- `[]T{x}` of one whole row. -/
theorem run_buildSlice_one {P : Program} (w : World) (t e : TypeId) (z : Value) (n : Nat) (X : Array Value) (hu : P.underlying t = some (.slice e)) (hi : (P.info? e).map (fun i => (i.zero, i.size)) = some (some z, n)) (h0 : 0 < n) (h1 : n ≤ 16777216) (hX : X.size = n) :
    (Instr.buildSlice t 1 #[(0, .agg X)]).run P w = .ok (.slice (some ⟨w.heap.size, 0, none⟩) 1 1) (w.alloc (.cells X e)) := by
  obtain ⟨hz, hs⟩ := zero_of_info hi
  have hs' : ∀ w, (sizeOf e).run P w = .ok n w := by
    intro w
    cases hq : P.info? e with
    | none => simp [hq] at hs
    | some i => simp [hq] at hs; simp [sizeOf, typeInfo, hq, hs]
  have hn : ¬ (n = 0) := by omega
  have hm : ¬ (2 ^ 24 < n) := by omega
  have hf := fun (c : Array Value) (hc : c.size = n) => fill_one c X n hc hX
  have hf' := hf ((Array.range n).map (z.cells[· % z.cells.size]!)) (by simp)
  unfold Instr.buildSlice
  simp only [Sem.run_bind, run_underlying hu, Result.andThen_ok, hs', Nat.one_mul, if_neg hm, Sem.run_pure, if_neg hn, hz]
  show Sem.run P (match Instr.fill (fun i => some (i * n, n)) ((Array.range n).map (z.cells[· % z.cells.size]!)) [(0, .agg X)] with
    | some cells => (do pure (.slice (some (← newRow e cells)) 1 1) : Sem Value)
    | _ => stuck "buildSlice: a part of the wrong size") w = _
  rw [hf']
  simp [newRow]
theorem wcells_length (l : List (Nat × List UInt8)) (h : ∀ x ∈ l, x.2.length = 64) : (wcells l).length = l.length * 65 := by
  induction l with
  | nil => rfl
  | cons a r ih =>
    have ha := h a List.mem_cons_self
    simp only [wcells, List.flatMap_cons, List.length_append] at ih ⊢
    rw [ih (fun x hx => h x (List.mem_cons_of_mem _ hx))]
    simp [wcell, Lib.byteCells_length, ha]; omega
theorem wcells_snoc (l : List (Nat × List UInt8)) (x : Nat × List UInt8) : wcells (l ++ [x]) = wcells l ++ wcell x := by simp [wcells]
theorem wcell_one (x : Nat × List UInt8) : ∀ v ∈ wcell x, v.oneCell' = true := by
  intro v hv
  rcases List.mem_cons.1 hv with rfl | hv
  · rfl
  · exact Lib.byteCells_one _ v hv
/-- A disk on which one more write waits. -/
theorem DiskAt.pushed {w w1 : World} {d lb : Nat} {wv : Value} {lies : List (List UInt8)} {waits : List (Nat × List UInt8)} (D : DiskAt w d lb wv lies waits) (k g cap : Nat) (s : List UInt8)
    (hown : w1.ownsRow 0 175 65 (.slice (some ⟨g, 0, none⟩) (waits.length + 1) cap) (waits.length + 1) (wcells waits ++ wcell (k, s)))
    (hu : Upd (fun i => wv.ownBlock = some i) w w1) (hat : wv.ownBlock = some g ∨ w.heap.size ≤ g) (hk : k < lies.length) (hs : s.length = 64) :
    DiskAt (w1.setCell ⟨d, 1, none⟩ (.slice (some ⟨g, 0, none⟩) (waits.length + 1) cap)) d lb (.slice (some ⟨g, 0, none⟩) (waits.length + 1) cap) lies (waits ++ [(k, s)]) ∧
    Upd (DiskFoot d lb wv) w (w1.setCell ⟨d, 1, none⟩ (.slice (some ⟨g, 0, none⟩) (waits.length + 1) cap)) ∧ (∀ i, (Value.slice (some ⟨g, 0, none⟩) (waits.length + 1) cap).ownBlock = some i → wv.ownBlock = some i ∨ w.heap.size ≤ i) := by
  have hd1 := hu.at_ D.at_ (fun h => D.dw h)
  have hl1 := hu.at_ D.lies_ (fun h => D.lw h)
  have hgd : g ≠ d := by
    rcases hat with h | h
    · intro e; subst e; exact D.dw h
    · have := lt_of D.at_; omega
  have hgl : g ≠ lb := by
    rcases hat with h | h
    · intro e; subst e; exact D.lw h
    · have := lt_of D.lies_; omega
  have hU : Upd (DiskFoot d lb wv) w (w1.setCell ⟨d, 1, none⟩ (.slice (some ⟨g, 0, none⟩) (waits.length + 1) cap)) :=
    (hu.mono (T := DiskFoot d lb wv) (fun i _ h => .inr (.inr h))).setCell (fun _ => .inl rfl) _
  have hU1 : Upd (fun i => i = d) w1 (w1.setCell ⟨d, 1, none⟩ (.slice (some ⟨g, 0, none⟩) (waits.length + 1) cap)) := (Upd.refl (fun i => i = d) w1).setCell (p := ⟨d, 1, none⟩) (fun _ => rfl) _
  refine ⟨⟨?_, ?_, ?_, D.n1, D.n2, D.l64, ?_, D.dl, ?_, ?_⟩, hU, ?_⟩
  · rw [cells_set _ _ _ _ _ _ hd1]; rfl
  · exact hU1.at_ hl1 (fun e => D.dl e.symm)
  · rw [wcells_snoc, List.length_append]
    exact ownsRow_upd hU1 hown (fun i hi e => hgd (by simp [Value.ownBlock] at hi; omega))
  · intro x hx
    rcases List.mem_append.1 hx with hx | hx
    · exact D.w64 x hx
    · rw [List.mem_singleton] at hx; subst hx; exact ⟨hs, hk⟩
  · simp [Value.ownBlock]; exact hgd
  · simp [Value.ownBlock]; exact hgl
  · intro i hi
    have : g = i := by simpa [Value.ownBlock] using hi
    subst this; exact hat

theorem writeInfo : (Try.prog.info? 175).map (fun i => (i.zero, i.size, i.bytes)) = some (some (.agg (wcell (0, zeroSec)).toArray), 65, 72) := by kernel_rfl
theorem build_write (k : Int) (w : World) : (Instr.build 175 #[(0, .int .i64 k)]).run Try.prog w = .ok (.agg (.int .i64 k :: Lib.byteCells zeroSec).toArray) w := run_build w 175 _ _ (by kernel_rfl)
theorem zero_write (w : World) : (zeroValue 175).run Try.prog w = .ok (.agg (wcell (0, zeroSec)).toArray) w := by kernel_rfl
theorem writeInfo2 : (Try.prog.info? 175).map (fun i => (i.zero, i.size)) = some (some (.agg (wcell (0, zeroSec)).toArray), 65) := by kernel_rfl
theorem writeSize : (Try.prog.info? 175).map (·.size) = some 65 := by kernel_rfl
theorem load_row65 (w : World) (g : Nat) (X : Array Value) (hX : X.size = 65) (hg : w.heap[g]? = some (.cells X 175)) : (loadVar 175 ⟨g, 0, none⟩).run Try.prog w = .ok (.agg X) w :=
  run_loadVar_row w g 175 175 X (0, 0) _ hg Try.underlying175 rfl (by rw [hX]; exact writeSize)
def DWrote (w : World) (d lb : Nat) (wv : Value) (lies : List (List UInt8)) (waits' : List (Nat × List UInt8)) (w' : World) : Prop :=
  ∃ wv', DiskAt w' d lb wv' lies waits' ∧ Upd (DiskFoot d lb wv) w w' ∧ ∀ i, wv'.ownBlock = some i → wv.ownBlock = some i ∨ w.heap.size ≤ i

theorem dwrite_nil (k : Int) (s : ByteArray) (w : World) : Calls Try.prog 79 #[.pointer none, .int .i64 k, .string s] w fun x w' => x = .returned (.int .i64 7) ∧ w = w' := by
  go_enter Try.func79, Try.ntmps79
  go_wp2
  go_ret
  exact ⟨rfl, rfl⟩
theorem dwrite_out {d lb n : Nat} {wv : Value} {w : World} (h : w.heap[d]? = some (diskObj lb n wv)) (k : Int) (s : ByteArray) (h0 : k < 0 ∨ n ≤ k) : Calls Try.prog 79 #[.pointer (some ⟨d, 0, none⟩), .int .i64 k, .string s] w fun x w' => x = .returned (.int .i64 20) ∧ w = w' := by
  go_enter Try.func79, Try.ntmps79
  go_wp2_with fail
  refine (dis_no h k h0).mono ?_
  rintro x w1 ⟨rfl, rfl⟩
  go_wp2
  go_ret
  exact ⟨rfl, rfl⟩
set_option maxRecDepth 100000 in
set_option maxHeartbeats 800000 in
attribute [-go_sem] Instr.build Instr.fill Instr.buildSlice loadVar in
theorem dwrite_any {w : World} {d lb : Nat} {wv : Value} {lies : List (List UInt8)} {waits : List (Nat × List UInt8)} (D : DiskAt w d lb wv lies waits) (k : Nat) (hk : k < lies.length) (s : ByteArray) (hs : s.size = 64) (hn : waits.length ≤ 1000000000) :
    Calls Try.prog 79 #[.pointer (some ⟨d, 0, none⟩), .int .i64 k, .string s] w fun x w' => x = .returned (.int .i64 0) ∧ DWrote w d lb wv lies (waits ++ [(k, s.data.toList)]) w' := by
  obtain ⟨i0, hi0, hz0, hz1, hz2⟩ := info_parts writeInfo
  have hsl : s.data.toList.length = 64 := by rw [← size_list, hs]
  have kd : decide ((s.size : Int) = 64) = true := by simp; omega
  have hz := zero_write
  have hb := build_write k
  have hst : (storeCells ⟨w.heap.size, 0, none⟩ (Value.int .i64 k :: Lib.byteCells zeroSec).toArray.toList).run Try.prog (w.alloc (.cells (wcell (0, zeroSec)).toArray 175)) = .ok () (w.alloc (.cells (Value.int .i64 k :: Lib.byteCells zeroSec).toArray 175)) := by
    have := run_storeCells_from (P := Try.prog) w.heap.size 175 (Value.int .i64 k :: Lib.byteCells zeroSec) 0 (wcell (0, zeroSec)).toArray (w.alloc (.cells (wcell (0, zeroSec)).toArray 175)) (alloc_at _ _) (by simp [wcell, Lib.byteCells_length]) (wcell_one (k, zeroSec))
    rw [this]
    simp only [List.take_zero, List.nil_append, World.setRow_alloc_new]
  have hcp := Lib.run_copy_row_string (P := Try.prog) (w.alloc (.cells (Value.int .i64 k :: Lib.byteCells zeroSec).toArray 175)) 72 9 3 5 w.heap.size 1 64 64 s _ 175 Try.underlying72 secInfo (alloc_at _ _) (by omega) (by simp [Lib.byteCells_length, zeroSec]; omega)
  have hX : ((Value.int .i64 k :: Lib.byteCells zeroSec).toArray.toList.take 1 ++ Lib.byteCells s.data.toList ++ (Value.int .i64 k :: Lib.byteCells zeroSec).toArray.toList.drop (1 + s.size)).toArray = (wcell (k, s.data.toList)).toArray := by
    rw [hs]; simp [wcell, Lib.byteCells, zeroSec]
  rw [hX, World.setRow_alloc_new] at hcp
  have hx1 := wcell_one (k, s.data.toList)
  have hxs : (wcell (k, s.data.toList)).toArray.size = 65 := by simp [wcell, Lib.byteCells_length]; omega
  have hxl : (wcell (k, s.data.toList)).toArray.toList = wcell (k, s.data.toList) := rfl
  have hW0 : (Value.int .i64 k :: Lib.byteCells zeroSec).toArray.size = 65 := by simp [Lib.byteCells_length, zeroSec]
  generalize (Value.int .i64 k :: Lib.byteCells zeroSec).toArray = W0 at hb hst hcp hW0
  generalize (wcell (0, zeroSec)).toArray = Z0 at hz hst
  generalize (wcell (k, s.data.toList)).toArray = X0 at hcp hxs hxl
  clear hX
  have H1 := Lib.hid hx1
  have H2 := Lib.hid hxs
  have H3 := Lib.hid hxl
  have H4 := Lib.hid hcp
  clear hx1 hxs hxl hcp
  go_enter Try.func79, Try.ntmps79
  go_wp2_with fail
  refine (dis_yes D.at_ k (by omega) (by omega)).mono ?_
  rintro x w1 ⟨rfl, rfl⟩
  go_wp2_with (refine Lib.wpList_copy_run _ rfl (.tmp 23) (.tmp 24) 72 9 rfl _ _ rfl rfl H4.out ?_)
  have hd1 := alloc_old D.at_ (.cells X0 175)
  have hg1 := alloc_at w (.cells X0 175)
  have ho1 := D.waits_.alloc (.cells X0 175)
  have hU1 : Upd (fun i => wv.ownBlock = some i) w (w.alloc (.cells X0 175)) := (Upd.refl _ _).alloc _
  have hne : w.heap.size ≠ d := by have := lt_of D.at_; omega
  have hnw : wv.ownBlock ≠ some w.heap.size := fun e => by have := (D.waits_.lt _ e).2; omega
  have hl1 : w.heap.size + 1 = (w.alloc (.cells X0 175)).heap.size := (World.size_alloc _ _).symm
  clear hst hb hz H4
  generalize hWg : w.heap.size = G at hg1 hne hnw hl1 ⊢
  generalize w.alloc (.cells X0 175) = W at hd1 hg1 ho1 hU1 hl1 ⊢
  obtain ⟨c0, c1, f0, f1⟩ := two_of hd1
  have hdl := lt_of hd1
  have hld := load_row65 W.drew G X0 H2.out hg1
  have hbs := fun (w' : World) => run_buildSlice_one (P := Try.prog) w' 145 175 _ 65 X0 Try.underlying145 writeInfo2 (by omega) (by omega) H2.out
  have H5 := Lib.hid ho1
  clear ho1
  go_region_law (refine step_append_lies _ (by rfl) _ _ _ (by rfl) 0 175 i0 _ 65 72 Try.underlying145 hi0 hz0 hz1 hz2 rfl (by omega) wv _ _ (by rfl) ((H5.out.alloc _).drew) _ 1 1 X0.toList (by rfl) (by rw [Array.length_toList, H2.out]) (World.news_of_block (cs := X0) (t := 175) (fr := (0, 0)) (heap_alloc_new W _)) (by rw [H3.out]; exact H1.out) (by omega) (by unfold maxLen; omega) (by omega) (by simp) _ rfl ?_; intro gg cap w1 hown1 hgrow hat hlt; have hd2 : w1.heap[d]? = some (diskObj lb lies.length wv) := (hgrow.block d (by simp; have := lt_of hd1; omega) (fun e => D.dw e.symm)).trans (alloc_old hd1 (.cells X0 175)); obtain ⟨e0, e1, g0, g1⟩ := two_of hd2)
  all_goals
    go_wp2
    go_ret
    refine ⟨rfl, _, D.pushed k gg cap s.data.toList (by rw [← H3.out]; exact hown1) ?_ (hat.imp id (fun e => by rw [e]; simp; omega)) hk hsl⟩
    exact hU1.trans (T := fun i => wv.ownBlock = some i) ⟨hgrow.os, hgrow.tape, hgrow.output, Nat.le_trans (by simp) hgrow.size, fun i hi hn => (hgrow.block i (by simp; omega) (fun e => hn e.symm)).trans (Below.heap_alloc _ _ _ hi)⟩ (fun _ _ h => h)
end Go.Proofs.Ytemdhcocbjcklaa.Print
