/- disk: Crash. -/
import Derived.Test.YtemdhcocbjcklaaKeep
import Derived.Maps.Views
import Derived.Maps.OwnOps
import Derived.WalkArith
import Derived.Deep.Slices
namespace Go.Proofs.Ytemdhcocbjcklaa.Print
open Go.RowKit
open Go.Maps (Keyed)
attribute [local go_sem] run_loadVar_scalar

theorem run_loadVar_cells {P : Program} (w : World) (a : Addr) (ty : TypeId) (cs : List Value) (d : TypeDesc) (hc : ∀ j v, cs[j]? = some v → w.cell? (a.add j) = some v)
    (hu : P.underlying ty = some d) (hd : d.isRow = true) (hi : (P.info? ty).map (·.size) = some cs.length) : (loadVar ty a).run P w = .ok (.agg cs.toArray) w := by
  have hl := run_loadCells_list (P := P) w a cs hc
  have hg : (isAgg ty).run P w = .ok true w := by
    unfold isAgg
    rw [Sem.run_bind, run_underlying hu w]
    cases d <;> simp_all
  cases hq : P.info? ty with
  | none => simp [hq] at hi
  | some i =>
    have hs : i.size = cs.length := by simpa [hq] using hi
    simp [loadVar, Sem.run_bind, hg, sizeOf, typeInfo, hq, hs, hl]
theorem int_keys : Keyed Try.prog 3 := Go.Maps.int_keyed Try.underlying3
/-- A map of numbers to numbers, as what it answers. -/
def NextAt (w : World) (M n : Nat) (nx : Nat → Int) : Prop :=
  ∃ D : DataW Unit, w.ownsMap Try.prog 3 (plainElem Try.prog 3) M n D ∧ ∀ k : Nat, D.atKey (.int .i64 k) (.lit (.int .i64 0)) = .lit (.int .i64 (nx k))
theorem next_made (w : World) : NextAt (w.alloc (.map #[] 0)) w.heap.size 0 (fun _ => 0) := ⟨_, World.ownsMap_made _ _ _ _, fun _ => rfl⟩
theorem zero_int (w : World) : (zeroValue 3).run Try.prog w = .ok (.int .i64 0) w := by kernel_rfl
theorem NextAt.look {w : World} {M n : Nat} {nx : Nat → Int} (h : NextAt w M n nx) (k : Nat) (hk : k ≤ 100000) : (Instr.lookup 180 (.map (some M)) (.int .i64 k) false).run Try.prog w = .ok (.int .i64 (nx k)) w := by
  obtain ⟨D, hD, hn⟩ := h
  obtain ⟨c, hrun, hat, _⟩ := hD.lookup_int int_keys Try.underlying180 Try.underlying3 (zero_int _) (Go.Maps.keyOf_int_mk Try.underlying3 (WalkArith.wf_i64 (n := (k : Int)) (by omega)))
  rw [hn k] at hat
  simp at hat
  rw [hrun, hat]
theorem NextAt.put {w : World} {M n : Nat} {nx : Nat → Int} (h : NextAt w M n nx) (k : Nat) (hk : k ≤ 100000) (v : Int) (hv : (Lit.int .i64 v).wf = true) (hn : n < maxLen) :
    ∃ w', (Instr.mapUpdate 180 (.map (some M)) (.int .i64 k) (.int .i64 v)).run Try.prog w = .ok () w' ∧ NextAt w' M (n + 1) (fun y => if y = k then v else nx y) ∧ Upd (fun i => i = M) w w' := by
  obtain ⟨D, hD, hx⟩ := h
  obtain ⟨w', hrun, hown, hg⟩ := hD.update int_keys Try.underlying180 hn (Go.Maps.keyOf_int_mk Try.underlying3 (WalkArith.wf_i64 (n := (k : Int)) (by omega))) (plainElem_int Try.underlying3 hv)
  refine ⟨w', hrun, ⟨_, hown, fun y => ?_⟩, ⟨hg.os, hg.tape, hg.output, hg.size, fun i hi hne => hg.block i hi (fun e => hne (Option.some.inj e))⟩⟩
  have hm : Go.Maps.IsMap D := by obtain ⟨es, _, _, _, _, rfl⟩ := hD; exact ⟨_, rfl⟩
  by_cases hy : y = k
  · subst hy
    rw [Go.Maps.atKey_put_same hm (by simp [WideAt.IsKeyLit])]
    simp
  · rw [Go.Maps.atKey_put_other (by intro e; simp at e; omega), hx y]
    simp [hy]
theorem NextAt.keep {S : Nat → Prop} {w w1 : World} {M n : Nat} {nx : Nat → Int} (h : NextAt w M n nx) (hU : Upd S w w1) (hn : ¬ S M) : NextAt w1 M n nx := by
  obtain ⟨D, ⟨es, clock, hb, F, hs, hD⟩, hx⟩ := h
  exact ⟨D, ⟨es, clock, hU.at_ hb hn, F, hs, hD⟩, hx⟩

/-- What stays, as numbers: an index, bytes. -/
abbrev K2 := Int × Int
def keepC (k : K2) : List Value := [.int .i64 k.1, .int .i64 k.2]
def KeepsAt (w : World) (ao : Option Addr) (l : List K2) : Prop := ∀ i (h : i < l.length), ∃ a, ao = some a ∧ ∀ j u, (keepC l[i])[j]? = some u → w.cell? (a.add (i * 2 + j)) = some u
theorem addr_block (a : Addr) (k : Nat) : (a.add k).block = a.block := by unfold Addr.add; split <;> rfl
theorem KeepsAt.keep {S : Nat → Prop} {w w1 : World} {ao : Option Addr} {l : List K2} (h : KeepsAt w ao l) (hU : Upd S w w1) (hn : ∀ a, ao = some a → 0 < l.length → ¬ S a.block) : KeepsAt w1 ao l := by
  intro i hi
  obtain ⟨a, ha, hc⟩ := h i hi
  refine ⟨a, ha, fun j u hu => ?_⟩
  have hcw := hc j u hu
  rw [World.cell?_of_block (hU.other _ (World.block_lt_of_cell? w _ hcw) (by rw [addr_block]; exact hn a ha (by omega)))]
  exact hcw
theorem keepSize (k : K2) : (Try.prog.info? 182).map (·.size) = some (keepC k).length := by kernel_rfl
theorem KeepsAt.load {w : World} {ao : Option Addr} {l : List K2} (h : KeepsAt w ao l) (i : Nat) (hi : i < l.length) : ∃ a, ao = some a ∧ (loadVar 182 (a.add (i * 2))).run Try.prog w = .ok (.agg (keepC l[i]).toArray) w := by
  obtain ⟨a, ha, hc⟩ := h i hi
  refine ⟨a, ha, run_loadVar_cells w (a.add (i * 2)) 182 (keepC l[i]) _ (fun j v hv => ?_) Try.underlying182 rfl (keepSize _)⟩
  rw [Go.Deep.add_add]
  exact hc j v hv

/-- What the power leaves: one word of what stays, all of them. -/
def kstep (ins : List (Nat × List UInt8)) (st : List (List UInt8) × (Nat → Int)) (k : K2) : List (List UInt8) × (Nat → Int) :=
  if h : 0 ≤ k.1 ∧ k.1.toNat < ins.length then
    if st.2 (ins[k.1.toNat]).1 ≤ k.1 then (st.1.set (ins[k.1.toNat]).1 (mix (ins[k.1.toNat]).2 (st.1.getD (ins[k.1.toNat]).1 []) k.2), fun y => if y = (ins[k.1.toNat]).1 then k.1 + 1 else st.2 y) else st
  else st
def kfold (ins : List (Nat × List UInt8)) (lies : List (List UInt8)) (ks : List K2) : List (List UInt8) × (Nat → Int) := ks.foldl (kstep ins) (lies, fun _ => 0)
theorem kfold_snoc (ins : List (Nat × List UInt8)) (lies : List (List UInt8)) (ks : List K2) (k : K2) : kfold ins lies (ks ++ [k]) = kstep ins (kfold ins lies ks) k := by simp [kfold]
def Good (n : Nat) (st : List (List UInt8) × (Nat → Int)) : Prop := st.1.length = n ∧ (∀ s ∈ st.1, s.length = 64)
theorem kstep_good {n : Nat} {ins : List (Nat × List UInt8)} (hw : ∀ x ∈ ins, x.2.length = 64 ∧ x.1 < n) {st : List (List UInt8) × (Nat → Int)} (h : Good n st) (k : K2) : Good n (kstep ins st k) := by
  unfold kstep
  split
  · rename_i hk
    split
    · obtain ⟨h1, h2⟩ := hw _ (List.getElem_mem hk.2)
      refine ⟨by simp [h.1], ?_⟩
      intro s hs
      rcases List.mem_or_eq_of_mem_set hs with h3 | h3
      · exact h.2 s h3
      · rw [h3]
        refine mix_length _ _ _ h1 ?_
        have hlt : (ins[k.1.toNat]).1 < st.1.length := by rw [h.1]; exact h2
        rw [List.getD_eq_getElem?_getD, List.getElem?_eq_getElem hlt, Option.getD_some]
        exact h.2 _ (List.getElem_mem hlt)
    · exact h
  · exact h
theorem kfold_good {n : Nat} {ins : List (Nat × List UInt8)} (hw : ∀ x ∈ ins, x.2.length = 64 ∧ x.1 < n) {lies : List (List UInt8)} (hl : lies.length = n) (h6 : ∀ s ∈ lies, s.length = 64) (ks : List K2) : Good n (kfold ins lies ks) := by
  have : ∀ st, Good n st → Good n (ks.foldl (kstep ins) st) := by
    induction ks with
    | nil => exact fun st h => h
    | cons k r ih => exact fun st h => ih _ (kstep_good hw h k)
  exact this _ ⟨hl, h6⟩

def CrashRel (w w0 : World) (d lb : Nat) (wv a b : Value) (lies : List (List UInt8)) (ins outs : List (Nat × List UInt8)) (ks : List K2) (i : Value) (wr : World) : Prop :=
  ∃ j : Nat, j ≤ ks.length ∧ i = .int .i64 j ∧ Upd (DiskFoot d lb wv) w wr ∧ w0.heap.size < wr.heap.size ∧ wr.heap[d]? = some (diskObj lb lies.length wv) ∧ wr.heap[lb]? = some (secsObj (kfold ins lies (ks.take j)).1) ∧
    wr.ownsRow w.heap.size 175 65 a ins.length (wcells ins) ∧ wr.ownsRow w.heap.size 175 65 b outs.length (wcells outs) ∧ NextAt wr w0.heap.size j (kfold ins lies (ks.take j)).2
theorem crash_done {w w0 wr : World} {d lb : Nat} {wv a b : Value} {lies : List (List UInt8)} {ins outs : List (Nat × List UInt8)} {ks : List K2} {waits : List (Nat × List UInt8)} (D : DiskAt w d lb wv lies waits) (h : CrashRel w w0 d lb wv a b lies ins outs ks (.int .i64 ks.length) wr)
    (hi : ∀ x ∈ ins, x.2.length = 64 ∧ x.1 < lies.length) (ho : ∀ x ∈ outs, x.2.length = 64 ∧ x.1 < lies.length) : DWrote w d lb wv (kfold ins lies ks).1 outs (wr.setCell ⟨d, 1, none⟩ b) := by
  obtain ⟨j, hj, hij, hU, hs, hd, hlb, hA, hC, hN⟩ := h
  have hjl : j = ks.length := by simp at hij; omega
  subst hjl
  rw [List.take_length] at hlb
  have hg := kfold_good hi rfl D.l64 ks
  have hbd : b.ownBlock ≠ some d := fun e => by have := (hC.lt d e).1; have := lt_of D.at_; omega
  have hbl : b.ownBlock ≠ some lb := fun e => by have := (hC.lt lb e).1; have := lt_of D.lies_; omega
  have hU1 : Upd (fun i => i = d) wr (wr.setCell ⟨d, 1, none⟩ b) := (Upd.refl (fun i => i = d) wr).setCell (p := ⟨d, 1, none⟩) (fun _ => rfl) _
  refine ⟨b, ⟨?_, hU1.at_ hlb (fun e => D.dl e.symm), ?_, ?_, ?_, hg.2, ?_, D.dl, hbd, hbl⟩, hU.trans hU1 (fun i _ e => .inl e), fun i hi => .inr (hC.lt i hi).1⟩
  · rw [cells_set _ _ _ _ _ _ hd, hg.1]; rfl
  · have := ownsRow_upd hU1 hC (fun i hi e => hbd (by rw [hi, e]))
    refine ⟨this.1, this.2.imp id ?_⟩
    rintro ⟨g, cap, cur, hv, hb, rest⟩
    exact ⟨g, cap, cur, hv, Nat.zero_le _, rest⟩
  · rw [hg.1]; exact D.n1
  · rw [hg.1]; exact D.n2
  · intro x hx; rw [hg.1]; exact ho x hx
theorem crash_next {w w1 wr w3 : World} {d lb : Nat} {wv a b : Value} {lies : List (List UInt8)} {ins outs : List (Nat × List UInt8)} {ks : List K2} {waits : List (Nat × List UInt8)} (D : DiskAt w d lb wv lies waits) (hB : w.heap.size ≤ w1.heap.size) {j : Nat} (hj : j < ks.length)
    (hU : Upd (DiskFoot d lb wv) w wr) (hs : w1.heap.size < wr.heap.size) (hd : wr.heap[d]? = some (diskObj lb lies.length wv)) (hA : wr.ownsRow w.heap.size 175 65 a ins.length (wcells ins)) (hC : wr.ownsRow w.heap.size 175 65 b outs.length (wcells outs))
    (hAm : ∀ k, a.ownBlock = some k → w.heap.size ≤ k ∧ k < w1.heap.size) (hCm : ∀ k, b.ownBlock = some k → w.heap.size ≤ k ∧ k < w1.heap.size) (hUall : Upd (fun i => i = w1.heap.size ∨ i = lb) wr w3)
    (hlb : w3.heap[lb]? = some (secsObj (kfold ins lies (ks.take (j + 1))).1)) (hN : NextAt w3 w1.heap.size (j + 1) (kfold ins lies (ks.take (j + 1))).2) (i : Value) (hi : i = .int .i64 ((j + 1 : Nat) : Int)) : CrashRel w w1 d lb wv a b lies ins outs ks i w3 := by
  have hdl := lt_of D.at_
  have hll := lt_of D.lies_
  refine ⟨j + 1, hj, hi, hU.trans hUall (fun i hi h => ?_), Nat.lt_of_lt_of_le hs hUall.size, hUall.at_ hd (fun h => ?_), hlb, ownsRow_upd hUall hA (fun i hi h => ?_), ownsRow_upd hUall hC (fun i hi h => ?_), hN⟩
  · rcases h with h | h
    · omega
    · exact .inr (.inl h)
  · rcases h with h | h
    · omega
    · exact D.dl h
  · have := hAm i hi; omega
  · have := hCm i hi; omega
theorem kfold_take (ins : List (Nat × List UInt8)) (lies : List (List UInt8)) (ks : List K2) (j : Nat) (hj : j < ks.length) : kfold ins lies (ks.take (j + 1)) = kstep ins (kfold ins lies (ks.take j)) ks[j] := by
  rw [List.take_succ_eq_append_getElem hj, kfold_snoc]
theorem kstep_out {ins : List (Nat × List UInt8)} (st : List (List UInt8) × (Nat → Int)) (k1 k2 : Int) (h : k1 < 0 ∨ (ins.length : Int) ≤ k1) : kstep ins st (k1, k2) = st := by
  unfold kstep; rw [dif_neg]; simp only; omega
theorem kstep_less {ins : List (Nat × List UInt8)} (st : List (List UInt8) × (Nat → Int)) (K : Nat) (k2 : Int) (h : K < ins.length) (hn : (K : Int) < st.2 (ins[K]).1) : kstep ins st ((K : Int), k2) = st := by
  have h' : 0 ≤ ((K : Int), k2).1 ∧ ((K : Int), k2).1.toNat < ins.length := by simp; omega
  unfold kstep; rw [dif_pos h', if_neg]; simp only [Int.toNat_natCast]; omega
theorem kstep_in {ins : List (Nat × List UInt8)} (st : List (List UInt8) × (Nat → Int)) (K : Nat) (k2 : Int) (h : K < ins.length) (hn : st.2 (ins[K]).1 ≤ (K : Int)) (hx : (ins[K]).1 < st.1.length) :
    kstep ins st ((K : Int), k2) = (st.1.set (ins[K]).1 (mix (ins[K]).2 st.1[(ins[K]).1] k2), fun y => if y = (ins[K]).1 then ((K : Int) + 1) else st.2 y) := by
  have h' : 0 ≤ ((K : Int), k2).1 ∧ ((K : Int), k2).1.toNat < ins.length := by simp; omega
  unfold kstep
  rw [dif_pos h', if_pos (by simpa only [Int.toNat_natCast] using hn)]
  simp only [Int.toNat_natCast]
  rw [List.getD_eq_getElem?_getD, List.getElem?_eq_getElem hx, Option.getD_some]
theorem NextAt.more {w : World} {M n : Nat} {nx : Nat → Int} (h : NextAt w M n nx) : NextAt w M (n + 1) nx := by
  obtain ⟨D, hD, hx⟩ := h
  exact ⟨D, hD.mono (Nat.le_succ _), hx⟩
abbrev keepZ : Array Value := #[.int .i64 0, .int .i64 0]
theorem zero_keep (w : World) : (zeroValue 182).run Try.prog w = .ok (.agg keepZ) w := by kernel_rfl
theorem keep_new (w : World) (k : K2) : (storeCells ⟨w.heap.size, 0, none⟩ (keepC k).toArray.toList).run Try.prog (w.alloc (.cells keepZ 182)) = .ok () (w.alloc (.cells (keepC k).toArray 182)) := by
  have := store_row (P := Try.prog) (alloc_at w (.cells keepZ 182)) (keepC k).toArray rfl (by intro v hv; simp [keepC] at hv; rcases hv with rfl | rfl <;> rfl)
  rw [World.setRow_alloc_new] at this
  exact this
theorem row_open {w : World} {base n : Nat} {v : Value} {xs : List Value} (h : w.ownsRow base 175 65 v n xs) : ∃ ao ac, v = .slice ao n ac ∧ (0 < n → ∃ g, ao = some ⟨g, 0, none⟩) := by
  rcases h.2 with ⟨h1, h0⟩ | ⟨g, cap, cur, h1, _⟩
  · exact ⟨none, 0, by rw [h1, h0], fun h => by omega⟩
  · exact ⟨_, _, h1, fun _ => ⟨g, rfl⟩⟩
set_option maxRecDepth 100000 in
set_option maxHeartbeats 3200000 in
attribute [-go_sem] Instr.build Instr.fill Instr.buildSlice loadVar in
theorem crash_any {w : World} {d lb : Nat} {wv : Value} {lies : List (List UInt8)} {waits : List (Nat × List UInt8)} (D : DiskAt w d lb wv lies waits) (f n : Nat) (hfn : f + n ≤ lies.length) (hl : waits.length ≤ 1000000000)
    (ao : Option Addr) (cap : Nat) (ks : List K2) (hK : KeepsAt w ao ks) (hKn : ∀ a, ao = some a → 0 < ks.length → ¬ DiskFoot d lb wv a.block) (hKl : ks.length ≤ 1000000000) :
    Calls Try.prog 82 #[.pointer (some ⟨d, 0, none⟩), .int .i64 f, .int .i64 n, .slice ao ks.length cap] w fun x w' => x = .returned (.int .i64 0) ∧
      DWrote w d lb wv (kfold (waits.filter (inSpan f n)) lies ks).1 (waits.filter (fun x => !inSpan f n x)) w' := by
  have n2 := D.n2
  have hp := part_any D f n (by omega) hl
  have hi64 : ∀ x ∈ waits.filter (inSpan f n), x.2.length = 64 ∧ x.1 < lies.length := fun x hx => D.w64 x (List.mem_filter.1 hx).1
  have ho64 : ∀ x ∈ waits.filter (fun x => !inSpan f n x), x.2.length = 64 ∧ x.1 < lies.length := fun x hx => D.w64 x (List.mem_filter.1 hx).1
  have hil : (waits.filter (inSpan f n)).length ≤ 1000000000 := Nat.le_trans (List.length_filter_le _ _) hl
  generalize waits.filter (inSpan f n) = ins at hp hi64 hil ⊢
  generalize waits.filter (fun x => !inSpan f n x) = outs at hp ho64 ⊢
  have hst0 := write_new
  have hz := zero_write
  generalize (wcell (0, zeroSec)).toArray = Z0 at hz hst0
  have HST := Lib.hid hst0
  have HP := Lib.hid hp
  have HI := Lib.hid hi64
  have HO := Lib.hid ho64
  have HK := Lib.hid hK
  have HKN := Lib.hid hKn
  clear hst0 hp hi64 ho64 hK hKn
  go_enter Try.func82, Try.ntmps82
  go_wp2_with fail
  refine (span_yes D.at_ f n hfn D.n2).mono ?_
  rintro x w1 ⟨rfl, rfl⟩
  go_wp2_with fail
  refine HP.out.mono ?_
  rintro x w1 ⟨a, b, rfl, hB, hA, hC, hap⟩
  have g1 : w1.heap[d]? = some (diskObj lb lies.length wv) := later_of D.at_ hB
  have g2 : w1.heap[lb]? = some (secsObj lies) := later_of D.lies_ hB
  have hAm := fun k hk => (hA.lt k hk)
  have hCm := fun k hk => (hC.lt k hk)
  have hdlt := lt_of D.at_
  have hllt := lt_of D.lies_
  obtain ⟨bo, bc, rfl, _⟩ := row_open hC
  obtain ⟨ia, ic, rfl, hia⟩ := row_open hA
  have hmm := @run_makeMap Try.prog
  have hfirst : CrashRel w w1 d lb wv (.slice ia ins.length ic) (.slice bo outs.length bc) lies ins outs ks (.int .i64 0) (w1.alloc (.map #[] 0)) := by
    have hU := (Upd.of_below (S := DiskFoot d lb wv) hB).alloc (.map #[] 0)
    exact ⟨0, Nat.zero_le _, rfl, hU, by simp, alloc_old g1 _, alloc_old g2 _, hA.alloc _, hC.alloc _, next_made w1⟩
  have HFI := Lib.hid hfirst
  have HAM := Lib.hid hAm
  have HCM := Lib.hid hCm
  clear hfirst hAm hCm hap
  go_wp2
  go_loopw [34] (fun i wr => CrashRel w w1 d lb wv (.slice ia ins.length ic) (.slice bo outs.length bc) lies ins outs ks i wr) (fun i _ => ks.length - (intOf i).toNat)
  case atStart => exact HFI.out
  case round =>
    obtain ⟨j, hj, rfl, hrest⟩ := id hrel
    have HR := Lib.hid hrel
    obtain ⟨hU, hs1, hd, hlb, hA1, hC1, hN⟩ := hrest
    clear hrel
    by_cases hlj : j < ks.length
    · obtain ⟨a0, ha0, hld⟩ := (HK.out.keep hU HKN.out).load j hlj
      subst ha0
      have hkt := kfold_take ins lies ks j hlj
      have hgood := kfold_good (n := lies.length) HI.out rfl D.l64 (ks.take j)
      have hkn := keep_new wr ks[j]
      have hKs : (keepC ks[j]).toArray.size = 2 := rfl
      obtain ⟨k1, k2, hkj⟩ : ∃ k1 k2, ks[j] = (k1, k2) := ⟨_, _, rfl⟩
      have e0 : (wr.alloc (.cells (keepC ks[j]).toArray 182)).cell? ⟨wr.heap.size, 0, none⟩ = some (.int .i64 k1) := by rw [cell_of (alloc_at _ _), hkj]; rfl
      have e1 : (wr.alloc (.cells (keepC ks[j]).toArray 182)).cell? ⟨wr.heap.size, 1, none⟩ = some (.int .i64 k2) := by rw [cell_of (alloc_at _ _), hkj]; rfl
      have hwk : Upd (fun i => i = w1.heap.size ∨ i = lb) wr (wr.alloc (.cells (keepC ks[j]).toArray 182)) := (Upd.refl _ _).alloc _
      have hsz : (wr.alloc (.cells (keepC ks[j]).toArray 182)).heap.size = wr.heap.size + 1 := by simp
      have hlbk := alloc_old hlb (.cells (keepC ks[j]).toArray 182)
      have hNk := hN.keep (S := fun _ => False) ((Upd.refl _ _).alloc (.cells (keepC ks[j]).toArray 182)) (fun h => h)
      have hAk := hA1.alloc (.cells (keepC ks[j]).toArray 182)
      have hdk := alloc_old hd (.cells (keepC ks[j]).toArray 182)
      have hzk := zero_keep
      generalize (keepC ks[j]).toArray = KC at hld hkn hKs e0 e1 hwk hsz hlbk hNk hAk hdk
      generalize keepZ = KZ at hzk hkn
      obtain ⟨wk, hwke⟩ : ∃ wk, wr.alloc (.cells KC 182) = wk := ⟨_, rfl⟩
      rw [hwke] at hkn e0 e1 hwk hsz hlbk hNk hAk hdk
      rw [hkj] at hkt
      have HKT := Lib.hid hkt
      have HAK := Lib.hid hAk
      have HLBK := Lib.hid hlbk
      have HDK := Lib.hid hdk
      have HNK := Lib.hid hNk
      have HC1 := Lib.hid hC1
      have HA1 := Lib.hid hA1
      have HD := Lib.hid hd
      have HWK := Lib.hid hwk
      have HG := Lib.hid hgood
      clear hkt hAk hlbk hdk hNk hC1 hA1 hd hwk hlb hN hwke hgood hkj
      by_cases h0 : k1 < 0
      · have d0 : decide (k1 < 0) = true := by simpa using h0
        go_wp2
        go_roundw
        case rel =>
          have hs := kstep_out (ins := ins) (kfold ins lies (ks.take j)) k1 k2 (.inl h0)
          refine crash_next D hB.size hlj hU hs1 HD.out HA1.out HC1.out HAM.out HCM.out HWK.out ?_ ?_ _ (by go_num)
          · rw [HKT.out, hs]; exact HLBK.out
          · rw [HKT.out, hs]; exact HNK.out.more
        case measure => simp [intOf]; omega
      · have d0 : decide (k1 < 0) = false := by simpa using h0
        obtain ⟨K, rfl⟩ : ∃ K : Nat, k1 = K := ⟨k1.toNat, by omega⟩
        by_cases hKi : K < ins.length
        · have d1 : decide (ins.length ≤ K) = false := by simp; omega
          obtain ⟨g, rfl⟩ := hia (by omega)
          have hx := (HI.out ins[K] (List.getElem_mem hKi)).1
          have hxl := (HI.out ins[K] (List.getElem_mem hKi)).2
          have hr := wait_range HAK.out (fun x hx => (HI.out x hx).1) K hKi
          have hlx := load_wait hr hx
          have hst := HST.out wk ins[K] hx
          have hRs : (wcell ins[K]).toArray.size = 65 := by simp [wcell, Lib.byteCells_length, hx]
          have hp0 : (0 : Int) ≤ (K : Int) := Int.natCast_nonneg _
          have hp1 : (K : Int) < (ins.length : Int) := by omega
          have hUx : Upd (fun _ => False) wk (wk.alloc (.cells (wcell ins[K]).toArray 175)) := (Upd.refl _ _).alloc _
          have hbx := alloc_at wk (.cells (wcell ins[K]).toArray 175)
          have hx0 : (wk.alloc (.cells (wcell ins[K]).toArray 175)).cell? ⟨wk.heap.size, 0, none⟩ = some (.int .i64 (ins[K]).1) := by rw [cell_of hbx]; rfl
          have hx1 : (wk.alloc (.cells (wcell ins[K]).toArray 175)).cell? ⟨wr.heap.size, 0, none⟩ = some (.int .i64 K) := (World.cell?_of_block (hUx.other wr.heap.size (by omega) (fun h => h))).trans e0
          have hx2 : (wk.alloc (.cells (wcell ins[K]).toArray 175)).cell? ⟨wr.heap.size, 1, none⟩ = some (.int .i64 k2) := (World.cell?_of_block (a := ⟨wr.heap.size, 1, none⟩) (hUx.other wr.heap.size (by omega) (fun h => h))).trans e1
          have hlk := (HNK.out.keep hUx (fun h => h)).look (ins[K]).1 (by omega)
          have hkeep := fun (w2 : World) (hd2 : w2.heap[d]? = some (diskObj lb lies.length wv)) (hl2 : w2.heap[lb]? = some (secsObj (kfold ins lies (ks.take j)).1)) =>
            keep_ok (w := w2) (lies := (kfold ins lies (ks.take j)).1) (by rw [HG.out.1]; exact hd2) hl2 HG.out.2 ins[K] hx (by rw [HG.out.1]; exact hxl) k2
          have HKEEP := Lib.hid hkeep
          clear hr hkeep
          have hBs := hB.size
          rw [hsz] at hst hbx hx0
          have hRl : (wcell ins[K]).toArray.toList = wcell ins[K] := rfl
          by_cases hge : (kfold ins lies (ks.take j)).2 (ins[K]).1 ≤ (K : Int)
          · have d2 : decide ((kfold ins lies (ks.take j)).2 (ins[K]).1 ≤ (K : Int)) = true := by simpa using hge
            have hwrap : IntKind.i64.wrap ((K : Int) + 1) = (K : Int) + 1 := by rw [IntKind.wrap_i64]; omega
            obtain ⟨w2, hput, hN2, hU2⟩ := (HNK.out.keep hUx (fun h => h)).put (ins[K]).1 (by omega) ((K : Int) + 1) (WalkArith.wf_i64 (by omega)) (by unfold maxLen; omega)
            have hb2 := hU2.at_ hbx (by omega)
            have hl2 := load_row65 w2 (wr.heap.size + 1) _ hRs hb2
            have hy0 := (World.cell?_of_block (a := ⟨wr.heap.size, 0, none⟩) (hU2.other wr.heap.size (Nat.lt_of_lt_of_le (by omega) hUx.size) (by omega))).trans hx1
            have hy1 := (World.cell?_of_block (a := ⟨wr.heap.size, 1, none⟩) (hU2.other wr.heap.size (Nat.lt_of_lt_of_le (by omega) hUx.size) (by omega))).trans hx2
            have hdl2 := hU2.at_ (hUx.at_ HDK.out (fun h => h)) (by omega)
            have hlb2 := hU2.at_ (hUx.at_ HLBK.out (fun h => h)) (by omega)
            have hK2 := HKEEP.out w2 hdl2 hlb2
            have hUw2 := (HWK.out.trans hUx (fun i _ h => h.elim)).trans hU2 (fun i _ h => .inl h)
            generalize (wcell ins[K]).toArray = R at *
            rw [← hRl] at hst
            clear hRl
            obtain ⟨wx, hwx⟩ : ∃ wx, wk.alloc (.cells R 175) = wx := ⟨_, rfl⟩
            rw [hwx] at hst hx0 hx1 hx2 hlk hput
            have HK2 := Lib.hid hK2
            have HN2 := Lib.hid hN2
            have HUW2 := Lib.hid hUw2
            have HGE := Lib.hid hge
            clear hbx hUx hb2 hdl2 hlb2 hK2 hN2 hUw2 hU2 hwx hge
            go_wp2_with fail
            refine HK2.out.mono ?_
            rintro x w3 ⟨rfl, hU3, hlb3⟩
            have HU3 := Lib.hid hU3
            have HLB3 := Lib.hid hlb3
            clear hU3 hlb3
            go_wp2
            go_roundw
            case rel =>
              have hs := kstep_in (ins := ins) (kfold ins lies (ks.take j)) K k2 hKi HGE.out (by rw [HG.out.1]; exact hxl)
              refine crash_next D hB.size hlj hU hs1 HD.out HA1.out HC1.out HAM.out HCM.out (HUW2.out.trans HU3.out (fun i _ h => .inr h)) ?_ ?_ _ (by go_num)
              · rw [HKT.out, hs]; exact HLB3.out
              · rw [HKT.out, hs]; exact HN2.out.keep HU3.out (by have := hB.size; omega)
            case measure => simp [intOf]; omega
          · have d2 : decide ((kfold ins lies (ks.take j)).2 (ins[K]).1 ≤ (K : Int)) = false := by simpa using hge
            have hUw2 := HWK.out.trans hUx (fun i _ h => h.elim)
            have hNx := (HNK.out.keep hUx (fun h => h)).more
            have hlbx := hUx.at_ HLBK.out (fun h => h)
            generalize (wcell ins[K]).toArray = R at *
            rw [← hRl] at hst
            clear hRl
            obtain ⟨wx, hwx⟩ : ∃ wx, wk.alloc (.cells R 175) = wx := ⟨_, rfl⟩
            rw [hwx] at hst hx0 hx1 hx2 hlk hUw2 hNx hlbx
            have HNX := Lib.hid hNx
            have HUW2 := Lib.hid hUw2
            have HLBX := Lib.hid hlbx
            have HGE := Lib.hid hge
            clear hbx hUx hUw2 hwx hge hNx hlbx
            go_wp2
            go_roundw
            case rel =>
              have hs := kstep_less (ins := ins) (kfold ins lies (ks.take j)) K k2 hKi (by have := HGE.out; omega)
              refine crash_next D hB.size hlj hU hs1 HD.out HA1.out HC1.out HAM.out HCM.out HUW2.out ?_ ?_ _ (by go_num)
              · rw [HKT.out, hs]; exact HLBX.out
              · rw [HKT.out, hs]; exact HNX.out
            case measure => simp [intOf]; omega
        · have d1 : decide (ins.length ≤ K) = true := by simp; omega
          go_wp2
          go_roundw
          case rel =>
            have hs := kstep_out (ins := ins) (kfold ins lies (ks.take j)) (K : Int) k2 (.inr (by omega))
            refine crash_next D hB.size hlj hU hs1 HD.out HA1.out HC1.out HAM.out HCM.out HWK.out ?_ ?_ _ (by go_num)
            · rw [HKT.out, hs]; exact HLBK.out
            · rw [HKT.out, hs]; exact HNK.out.more
          case measure => simp [intOf]; omega
    · have hj' : j = ks.length := by omega
      subst hj'
      obtain ⟨c0, c1, f0, f1⟩ := two_of hd
      clear hd hlb hA1 hC1 hU hN
      go_wp2
      go_ret
      exact ⟨rfl, crash_done D HR.out HI.out HO.out⟩
end Go.Proofs.Ytemdhcocbjcklaa.Print
