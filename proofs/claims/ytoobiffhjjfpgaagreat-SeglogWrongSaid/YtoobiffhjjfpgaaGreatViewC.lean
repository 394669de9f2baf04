/- disk: keep. disk: Crash. view: Crash. -/
import Derived.Test.YtoobiffhjjfpgaaGreatViewF
import Derived.Maps.Views
import Derived.Maps.OwnOps
import Derived.WalkArith
import Derived.Deep.Slices
namespace Go.Proofs.YtoobiffhjjfpgaaGreat.Print
open Go.RowKit
attribute [local go_sem] run_loadVar_scalar

/-- What the power leaves of a write's bytes, the first n of them. -/
def mix (d s : List UInt8) (n : Int) : List UInt8 := d.take (min (max n 0) 64).toNat ++ s.drop (min (max n 0) 64).toNat
theorem mix_nat (d s : List UInt8) (n : Int) (k : Nat) (h : min (max n 0) 64 = (k : Int)) : mix d s n = d.take k ++ s.drop k := by unfold mix; rw [h]; rfl
theorem clamp_nat (n : Int) : ∃ k : Nat, k ≤ 64 ∧ min (max n 0) 64 = (k : Int) := ⟨(min (max n 0) 64).toNat, by omega, by omega⟩
theorem mix_length (d s : List UInt8) (n : Int) (hd : d.length = 64) (hs : s.length = 64) : (mix d s n).length = 64 := by
  obtain ⟨k, hk, h⟩ := clamp_nat n
  rw [mix_nat d s n k h]; simp [hd, hs]; omega
theorem arrSec2 : Tryz.prog.underlying 228 = some (.array (Tryz.prog.arrayLen 228) (Tryz.prog.elem 228)) := by kernel_rfl
theorem alSec2 : Tryz.prog.arrayLen 228 = 64 := by kernel_rfl
theorem elSec2 : Tryz.prog.elem 228 = 5 := by kernel_rfl
theorem secHigh (b o k : Nat) (h : k ≤ 64) (w : World) : (Instr.sliceAt 228 (.pointer (some ⟨b, o, none⟩)) none (some (.int .i64 k)) none).run Tryz.prog w = .ok (.slice (some ⟨b, o, none⟩) k 64) w := by
  rw [run_sliceAt_array_h w 228 _ arrSec2 .i64 k (by omega) (by rw [alSec2]; omega), alSec2, elSec2]
  go_simp
theorem zero_sec (w : World) : (zeroValue 228).run Tryz.prog w = .ok (.agg (Lib.byteCells zeroSec).toArray) w := by kernel_rfl
theorem load_lie {w : World} {lb : Nat} {l : List (List UInt8)} (hb : w.heap[lb]? = some (secsObj l)) (h : ∀ s ∈ l, s.length = 64) (k : Nat) (hk : k < l.length) : (loadVar 228 ⟨lb, k * 64, none⟩).run Tryz.prog w = .ok (.agg (Lib.byteCells l[k]).toArray) w :=
  run_loadVar_mid w lb (k * 64) 228 (Lib.byteCells l[k]) _ (sec_range hb h k hk) Tryz.underlying228 rfl (by rw [Lib.byteCells_length, h l[k] (List.getElem_mem hk)]; exact sec_size)
theorem load_blk {w : World} {g : Nat} {X : Array Value} (hX : X.size = 64) (hg : w.heap[g]? = some (.cells X 228)) : (loadVar 228 ⟨g, 0, none⟩).run Tryz.prog w = .ok (.agg X) w :=
  run_loadVar_row w g 228 228 X (0, 0) _ hg Tryz.underlying228 rfl (by rw [hX]; exact sec_size)
theorem keep_copy {w : World} {b c : Nat} {x : Nat × List UInt8} {s : List UInt8} (k : Nat) (hk : k ≤ 64) (hx : x.2.length = 64) (hs : s.length = 64) (ty : TypeId)
    (hb : w.heap[b]? = some (.cells (wcell x).toArray 230)) (hc : w.heap[c]? = some (.cells (Lib.byteCells s).toArray 228)) :
    (Builtin.copy_ #[141, 141] ty #[.slice (some ⟨c, 0, none⟩) k 64, .slice (some ⟨b, 1, none⟩) k 64]).run Tryz.prog w = .ok (goInt k) (w.setRow c (Lib.byteCells (x.2.take k ++ s.drop k)).toArray) := by
  have hl : (Lib.byteCells (x.2.take k)).length = k := by rw [Lib.byteCells_length, List.length_take]; omega
  have := run_copy_row (P := Tryz.prog) w 141 141 ty 5 c 0 k 64 ⟨b, 1, none⟩ k 64 (Lib.byteCells s).toArray 228 (Lib.byteCells (x.2.take k)) Tryz.underlying141 secInfo hc (by rw [hl]; simp)
    (fun j v hv => by
      have hj : j < k := by have := (List.getElem?_eq_some_iff.1 hv).1; omega
      rw [Addr.add_mid, cell_of hb]
      have hjl : j < x.2.length := by omega
      simp only [wcell, Lib.byteCells] at hv ⊢
      rw [List.getElem?_toArray, Nat.add_comm 1 j, List.getElem?_cons_succ]
      simpa [List.getElem?_take, hj, hjl] using hv) (by simp [Lib.byteCells_length, hs]; omega) (Lib.byteCells_one _)
  rw [this, hl]
  simp [Lib.byteCells]
end Go.Proofs.YtoobiffhjjfpgaaGreat.Print

namespace Go.Proofs.YtoobiffhjjfpgaaGreat.Print
open Go.RowKit
open Go.Maps (Keyed)
attribute [local go_sem] run_loadVar_scalar

theorem int_keys : Keyed Tryz.prog 3 := Go.Maps.int_keyed Tryz.underlying3
/-- A map of numbers to numbers, as what it answers. -/
def NextAt (w : World) (M n : Nat) (nx : Nat → Int) : Prop :=
  ∃ D : DataW Unit, w.ownsMap Tryz.prog 3 (plainElem Tryz.prog 3) M n D ∧ ∀ k : Nat, D.atKey (.int .i64 k) (.lit (.int .i64 0)) = .lit (.int .i64 (nx k))
theorem next_made (w : World) : NextAt (w.alloc (.map #[] 0)) w.heap.size 0 (fun _ => 0) := ⟨_, World.ownsMap_made _ _ _ _, fun _ => rfl⟩
theorem zero_int (w : World) : (zeroValue 3).run Tryz.prog w = .ok (.int .i64 0) w := by kernel_rfl
theorem NextAt.keep {S : Nat → Prop} {w w1 : World} {M n : Nat} {nx : Nat → Int} (h : NextAt w M n nx) (hU : Upd S w w1) (hn : ¬ S M) : NextAt w1 M n nx := by
  obtain ⟨D, ⟨es, clock, hb, F, hs, hD⟩, hx⟩ := h
  exact ⟨D, ⟨es, clock, hU.at_ hb hn, F, hs, hD⟩, hx⟩

/-- What stays, as numbers: an index, bytes. -/
abbrev K2 := Int × Int
def keepC (k : K2) : List Value := [.int .i64 k.1, .int .i64 k.2]
def KeepsAt (w : World) (ao : Option Addr) (l : List K2) : Prop := ∀ i (h : i < l.length), ∃ a, ao = some a ∧ ∀ j u, (keepC l[i])[j]? = some u → w.cell? (a.add (i * 2 + j)) = some u
theorem KeepsAt.keep {S : Nat → Prop} {w w1 : World} {ao : Option Addr} {l : List K2} (h : KeepsAt w ao l) (hU : Upd S w w1) (hn : ∀ a, ao = some a → 0 < l.length → ¬ S a.block) : KeepsAt w1 ao l := by
  intro i hi
  obtain ⟨a, ha, hc⟩ := h i hi
  refine ⟨a, ha, fun j u hu => ?_⟩
  have hcw := hc j u hu
  rw [World.cell?_of_block (hU.other _ (World.block_lt_of_cell? w _ hcw) (by rw [addr_block]; exact hn a ha (by omega)))]
  exact hcw

/-- What the power leaves: one word of what stays, all of them. -/
def kstep (ins : List (Nat × List UInt8)) (st : List (List UInt8) × (Nat → Int)) (k : K2) : List (List UInt8) × (Nat → Int) :=
  if h : 0 ≤ k.1 ∧ k.1.toNat < ins.length then
    if st.2 (ins[k.1.toNat]).1 ≤ k.1 then (st.1.set (ins[k.1.toNat]).1 (mix (ins[k.1.toNat]).2 (st.1.getD (ins[k.1.toNat]).1 []) k.2), fun y => if y = (ins[k.1.toNat]).1 then k.1 + 1 else st.2 y) else st
  else st
def kfold (ins : List (Nat × List UInt8)) (lies : List (List UInt8)) (ks : List K2) : List (List UInt8) × (Nat → Int) := ks.foldl (kstep ins) (lies, fun _ => 0)
theorem kfold_snoc (ins : List (Nat × List UInt8)) (lies : List (List UInt8)) (ks : List K2) (k : K2) : kfold ins lies (ks ++ [k]) = kstep ins (kfold ins lies ks) k := by simp [kfold]
def Good (n : Nat) (st : List (List UInt8) × (Nat → Int)) : Prop := st.1.length = n ∧ (∀ s ∈ st.1, s.length = 64)
theorem kstep_good {n : Nat} {ins : List (Nat × List UInt8)} (hw : ∀ x ∈ ins, x.2.length = 64 ∧ x.1 < n) {st : List (List UInt8) × (Nat → Int)} (h : Good n st) (k : K2) : Good n (kstep ins st k) := by
  unfold kstep
  split
  · rename_i hk
    split
    · obtain ⟨h1, h2⟩ := hw _ (List.getElem_mem hk.2)
      refine ⟨by simp [h.1], ?_⟩
      intro s hs
      rcases List.mem_or_eq_of_mem_set hs with h3 | h3
      · exact h.2 s h3
      · rw [h3]
        refine mix_length _ _ _ h1 ?_
        have hlt : (ins[k.1.toNat]).1 < st.1.length := by rw [h.1]; exact h2
        rw [List.getD_eq_getElem?_getD, List.getElem?_eq_getElem hlt, Option.getD_some]
        exact h.2 _ (List.getElem_mem hlt)
    · exact h
  · exact h
theorem kfold_good {n : Nat} {ins : List (Nat × List UInt8)} (hw : ∀ x ∈ ins, x.2.length = 64 ∧ x.1 < n) {lies : List (List UInt8)} (hl : lies.length = n) (h6 : ∀ s ∈ lies, s.length = 64) (ks : List K2) : Good n (kfold ins lies ks) := by
  have : ∀ st, Good n st → Good n (ks.foldl (kstep ins) st) := by
    induction ks with
    | nil => exact fun st h => h
    | cons k r ih => exact fun st h => ih _ (kstep_good hw h k)
  exact this _ ⟨hl, h6⟩

def CrashRel (w w0 : World) (d lb : Nat) (wv a b : Value) (lies : List (List UInt8)) (ins outs : List (Nat × List UInt8)) (ks : List K2) (i : Value) (wr : World) : Prop :=
  ∃ j : Nat, j ≤ ks.length ∧ i = .int .i64 j ∧ Upd (DiskFoot d lb wv) w wr ∧ w0.heap.size < wr.heap.size ∧ wr.heap[d]? = some (diskObj lb lies.length wv) ∧ wr.heap[lb]? = some (secsObj (kfold ins lies (ks.take j)).1) ∧
    wr.ownsRow w.heap.size 230 65 a ins.length (wcells ins) ∧ wr.ownsRow w.heap.size 230 65 b outs.length (wcells outs) ∧ NextAt wr w0.heap.size j (kfold ins lies (ks.take j)).2
theorem crash_done {w w0 wr : World} {d lb : Nat} {wv a b : Value} {lies : List (List UInt8)} {ins outs : List (Nat × List UInt8)} {ks : List K2} {waits : List (Nat × List UInt8)} (D : DiskAt w d lb wv lies waits) (h : CrashRel w w0 d lb wv a b lies ins outs ks (.int .i64 ks.length) wr)
    (hi : ∀ x ∈ ins, x.2.length = 64 ∧ x.1 < lies.length) (ho : ∀ x ∈ outs, x.2.length = 64 ∧ x.1 < lies.length) : DWrote w d lb wv (kfold ins lies ks).1 outs (wr.setCell ⟨d, 1, none⟩ b) := by
  obtain ⟨j, hj, hij, hU, hs, hd, hlb, hA, hC, hN⟩ := h
  have hjl : j = ks.length := by simp at hij; omega
  subst hjl
  rw [List.take_length] at hlb
  have hg := kfold_good hi rfl D.l64 ks
  have hbd : b.ownBlock ≠ some d := fun e => by have := (hC.lt d e).1; have := lt_of D.at_; omega
  have hbl : b.ownBlock ≠ some lb := fun e => by have := (hC.lt lb e).1; have := lt_of D.lies_; omega
  have hU1 : Upd (fun i => i = d) wr (wr.setCell ⟨d, 1, none⟩ b) := (Upd.refl (fun i => i = d) wr).setCell (p := ⟨d, 1, none⟩) (fun _ => rfl) _
  refine ⟨b, ⟨?_, hU1.at_ hlb (fun e => D.dl e.symm), ?_, ?_, ?_, hg.2, ?_, D.dl, hbd, hbl⟩, hU.trans hU1 (fun i _ e => .inl e), fun i hi => .inr (hC.lt i hi).1⟩
  · rw [cells_set _ _ _ _ _ _ hd, hg.1]; rfl
  · have := ownsRow_upd hU1 hC (fun i hi e => hbd (by rw [hi, e]))
    refine ⟨this.1, this.2.imp id ?_⟩
    rintro ⟨g, cap, cur, hv, hb, rest⟩
    exact ⟨g, cap, cur, hv, Nat.zero_le _, rest⟩
  · rw [hg.1]; exact D.n1
  · rw [hg.1]; exact D.n2
  · intro x hx; rw [hg.1]; exact ho x hx
theorem crash_next {w w1 wr w3 : World} {d lb : Nat} {wv a b : Value} {lies : List (List UInt8)} {ins outs : List (Nat × List UInt8)} {ks : List K2} {waits : List (Nat × List UInt8)} (D : DiskAt w d lb wv lies waits) (hB : w.heap.size ≤ w1.heap.size) {j : Nat} (hj : j < ks.length)
    (hU : Upd (DiskFoot d lb wv) w wr) (hs : w1.heap.size < wr.heap.size) (hd : wr.heap[d]? = some (diskObj lb lies.length wv)) (hA : wr.ownsRow w.heap.size 230 65 a ins.length (wcells ins)) (hC : wr.ownsRow w.heap.size 230 65 b outs.length (wcells outs))
    (hAm : ∀ k, a.ownBlock = some k → w.heap.size ≤ k ∧ k < w1.heap.size) (hCm : ∀ k, b.ownBlock = some k → w.heap.size ≤ k ∧ k < w1.heap.size) (hUall : Upd (fun i => i = w1.heap.size ∨ i = lb) wr w3)
    (hlb : w3.heap[lb]? = some (secsObj (kfold ins lies (ks.take (j + 1))).1)) (hN : NextAt w3 w1.heap.size (j + 1) (kfold ins lies (ks.take (j + 1))).2) (i : Value) (hi : i = .int .i64 ((j + 1 : Nat) : Int)) : CrashRel w w1 d lb wv a b lies ins outs ks i w3 := by
  have hdl := lt_of D.at_
  have hll := lt_of D.lies_
  refine ⟨j + 1, hj, hi, hU.trans hUall (fun i hi h => ?_), Nat.lt_of_lt_of_le hs hUall.size, hUall.at_ hd (fun h => ?_), hlb, ownsRow_upd hUall hA (fun i hi h => ?_), ownsRow_upd hUall hC (fun i hi h => ?_), hN⟩
  · rcases h with h | h
    · omega
    · exact .inr (.inl h)
  · rcases h with h | h
    · omega
    · exact D.dl h
  · have := hAm i hi; omega
  · have := hCm i hi; omega
theorem kfold_take (ins : List (Nat × List UInt8)) (lies : List (List UInt8)) (ks : List K2) (j : Nat) (hj : j < ks.length) : kfold ins lies (ks.take (j + 1)) = kstep ins (kfold ins lies (ks.take j)) ks[j] := by
  rw [List.take_succ_eq_append_getElem hj, kfold_snoc]
theorem kstep_out {ins : List (Nat × List UInt8)} (st : List (List UInt8) × (Nat → Int)) (k1 k2 : Int) (h : k1 < 0 ∨ (ins.length : Int) ≤ k1) : kstep ins st (k1, k2) = st := by
  unfold kstep; rw [dif_neg]; simp only; omega
theorem kstep_less {ins : List (Nat × List UInt8)} (st : List (List UInt8) × (Nat → Int)) (K : Nat) (k2 : Int) (h : K < ins.length) (hn : (K : Int) < st.2 (ins[K]).1) : kstep ins st ((K : Int), k2) = st := by
  have h' : 0 ≤ ((K : Int), k2).1 ∧ ((K : Int), k2).1.toNat < ins.length := by simp; omega
  unfold kstep; rw [dif_pos h', if_neg]; simp only [Int.toNat_natCast]; omega
theorem kstep_in {ins : List (Nat × List UInt8)} (st : List (List UInt8) × (Nat → Int)) (K : Nat) (k2 : Int) (h : K < ins.length) (hn : st.2 (ins[K]).1 ≤ (K : Int)) (hx : (ins[K]).1 < st.1.length) :
    kstep ins st ((K : Int), k2) = (st.1.set (ins[K]).1 (mix (ins[K]).2 st.1[(ins[K]).1] k2), fun y => if y = (ins[K]).1 then ((K : Int) + 1) else st.2 y) := by
  have h' : 0 ≤ ((K : Int), k2).1 ∧ ((K : Int), k2).1.toNat < ins.length := by simp; omega
  unfold kstep
  rw [dif_pos h', if_pos (by simpa only [Int.toNat_natCast] using hn)]
  simp only [Int.toNat_natCast]
  rw [List.getD_eq_getElem?_getD, List.getElem?_eq_getElem hx, Option.getD_some]
theorem NextAt.more {w : World} {M n : Nat} {nx : Nat → Int} (h : NextAt w M n nx) : NextAt w M (n + 1) nx := by
  obtain ⟨D, hD, hx⟩ := h
  exact ⟨D, hD.mono (Nat.le_succ _), hx⟩
abbrev keepZ : Array Value := #[.int .i64 0, .int .i64 0]
theorem row_open {w : World} {base n : Nat} {v : Value} {xs : List Value} (h : w.ownsRow base 230 65 v n xs) : ∃ ao ac, v = .slice ao n ac ∧ (0 < n → ∃ g, ao = some ⟨g, 0, none⟩) := by
  rcases h.2 with ⟨h1, h0⟩ | ⟨g, cap, cur, h1, _⟩
  · exact ⟨none, 0, by rw [h1, h0], fun h => by omega⟩
  · exact ⟨_, _, h1, fun _ => ⟨g, rfl⟩⟩
end Go.Proofs.YtoobiffhjjfpgaaGreat.Print

namespace Go.Proofs.YtoobiffhjjfpgaaGreat.Print
open Go.RowKit

end Go.Proofs.YtoobiffhjjfpgaaGreat.Print
