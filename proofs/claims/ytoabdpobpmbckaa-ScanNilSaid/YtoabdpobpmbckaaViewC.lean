/- disk: keep. disk: Crash. view: Crash. -/
import Derived.Test.YtoabdpobpmbckaaViewF
import Derived.Maps.Views
import Derived.Maps.OwnOps
import Derived.WalkArith
import Derived.Deep.Slices
namespace Go.Proofs.Ytoabdpobpmbckaa.Print
open Go.RowKit
attribute [local go_sem] run_loadVar_scalar

/-- What the power leaves of a write's bytes, the first n of them. -/
def mix (d s : List UInt8) (n : Int) : List UInt8 := d.take (min (max n 0) 64).toNat ++ s.drop (min (max n 0) 64).toNat
theorem mix_nat (d s : List UInt8) (n : Int) (k : Nat) (h : min (max n 0) 64 = (k : Int)) : mix d s n = d.take k ++ s.drop k := by unfold mix; rw [h]; rfl
theorem clamp_nat (n : Int) : ∃ k : Nat, k ≤ 64 ∧ min (max n 0) 64 = (k : Int) := ⟨(min (max n 0) 64).toNat, by omega, by omega⟩
theorem mix_length (d s : List UInt8) (n : Int) (hd : d.length = 64) (hs : s.length = 64) : (mix d s n).length = 64 := by
  obtain ⟨k, hk, h⟩ := clamp_nat n
  rw [mix_nat d s n k h]; simp [hd, hs]; omega
theorem arrSec2 : Try.prog.underlying 185 = some (.array (Try.prog.arrayLen 185) (Try.prog.elem 185)) := by kernel_rfl
theorem alSec2 : Try.prog.arrayLen 185 = 64 := by kernel_rfl
theorem elSec2 : Try.prog.elem 185 = 5 := by kernel_rfl
theorem secHigh (b o k : Nat) (h : k ≤ 64) (w : World) : (Instr.sliceAt 185 (.pointer (some ⟨b, o, none⟩)) none (some (.int .i64 k)) none).run Try.prog w = .ok (.slice (some ⟨b, o, none⟩) k 64) w := by
  rw [run_sliceAt_array_h w 185 _ arrSec2 .i64 k (by omega) (by rw [alSec2]; omega), alSec2, elSec2]
  go_simp
theorem zero_sec (w : World) : (zeroValue 185).run Try.prog w = .ok (.agg (Lib.byteCells zeroSec).toArray) w := by kernel_rfl
theorem load_lie {w : World} {lb : Nat} {l : List (List UInt8)} (hb : w.heap[lb]? = some (secsObj l)) (h : ∀ s ∈ l, s.length = 64) (k : Nat) (hk : k < l.length) : (loadVar 185 ⟨lb, k * 64, none⟩).run Try.prog w = .ok (.agg (Lib.byteCells l[k]).toArray) w :=
  run_loadVar_mid w lb (k * 64) 185 (Lib.byteCells l[k]) _ (sec_range hb h k hk) Try.underlying185 rfl (by rw [Lib.byteCells_length, h l[k] (List.getElem_mem hk)]; exact sec_size)
theorem load_blk {w : World} {g : Nat} {X : Array Value} (hX : X.size = 64) (hg : w.heap[g]? = some (.cells X 185)) : (loadVar 185 ⟨g, 0, none⟩).run Try.prog w = .ok (.agg X) w :=
  run_loadVar_row w g 185 185 X (0, 0) _ hg Try.underlying185 rfl (by rw [hX]; exact sec_size)
theorem keep_copy {w : World} {b c : Nat} {x : Nat × List UInt8} {s : List UInt8} (k : Nat) (hk : k ≤ 64) (hx : x.2.length = 64) (hs : s.length = 64) (ty : TypeId)
    (hb : w.heap[b]? = some (.cells (wcell x).toArray 187)) (hc : w.heap[c]? = some (.cells (Lib.byteCells s).toArray 185)) :
    (Builtin.copy_ #[136, 136] ty #[.slice (some ⟨c, 0, none⟩) k 64, .slice (some ⟨b, 1, none⟩) k 64]).run Try.prog w = .ok (goInt k) (w.setRow c (Lib.byteCells (x.2.take k ++ s.drop k)).toArray) := by
  have hl : (Lib.byteCells (x.2.take k)).length = k := by rw [Lib.byteCells_length, List.length_take]; omega
  have := run_copy_row (P := Try.prog) w 136 136 ty 5 c 0 k 64 ⟨b, 1, none⟩ k 64 (Lib.byteCells s).toArray 185 (Lib.byteCells (x.2.take k)) Try.underlying136 secInfo hc (by rw [hl]; simp)
    (fun j v hv => by
      have hj : j < k := by have := (List.getElem?_eq_some_iff.1 hv).1; omega
      rw [Addr.add_mid, cell_of hb]
      have hjl : j < x.2.length := by omega
      simp only [wcell, Lib.byteCells] at hv ⊢
      rw [List.getElem?_toArray, Nat.add_comm 1 j, List.getElem?_cons_succ]
      simpa [List.getElem?_take, hj, hjl] using hv) (by simp [Lib.byteCells_length, hs]; omega) (Lib.byteCells_one _)
  rw [this, hl]
  simp [Lib.byteCells]
set_option maxRecDepth 100000 in
set_option maxHeartbeats 1600000 in
attribute [-go_sem] Instr.build Instr.fill Instr.buildSlice loadVar in
theorem keep_ok {w : World} {d lb : Nat} {wv : Value} {lies : List (List UInt8)} (hd : w.heap[d]? = some (diskObj lb lies.length wv)) (hlb : w.heap[lb]? = some (secsObj lies)) (h64 : ∀ s ∈ lies, s.length = 64)
    (x : Nat × List UInt8) (hx : x.2.length = 64) (hxl : x.1 < lies.length) (n : Int) :
    Calls Try.prog 146 #[.pointer (some ⟨d, 0, none⟩), .agg (wcell x).toArray, .int .i64 n] w fun e w' => e = .returned (.tuple #[]) ∧ Upd (fun i => i = lb) w w' ∧ w'.heap[lb]? = some (secsObj (lies.set x.1 (mix x.2 lies[x.1] n))) := by
  obtain ⟨k, hk, hkn⟩ := clamp_nat n
  rw [mix_nat _ _ _ _ hkn]
  have hs := h64 lies[x.1] (List.getElem_mem hxl)
  have hU1 : Upd (fun i => i = lb) w (w.alloc (.cells (wcell x).toArray 187)) := (Upd.refl _ _).alloc _
  have hb1 := alloc_at w (.cells (wcell x).toArray 187)
  have hd1 := alloc_old hd (.cells (wcell x).toArray 187)
  have hl1 := alloc_old hlb (.cells (wcell x).toArray 187)
  have hR0 : (wcell x).toArray[0]? = some (.int .i64 x.1) := rfl
  have hRs : (wcell x).toArray.size = 65 := by simp [wcell, Lib.byteCells_length, hx]
  obtain ⟨W1, hW1⟩ : ∃ W1, w.alloc (.cells (wcell x).toArray 187) = W1 := ⟨_, rfl⟩
  rw [hW1] at hU1 hb1 hd1 hl1
  have hlt1 := lt_of hl1
  have hbt1 := lt_of hb1
  have hdt1 := lt_of hd1
  have hz := zero_sec
  have hM1 : (Lib.byteCells zeroSec).toArray.size = (Lib.byteCells lies[x.1]).toArray.size := by simp [Lib.byteCells_length, hs, zeroSec_length]
  have hst2 : (storeCells ⟨W1.heap.size, 0, none⟩ (Lib.byteCells lies[x.1]).toArray.toList).run Try.prog (W1.alloc (.cells (Lib.byteCells zeroSec).toArray 185)).drew = .ok () (W1.drew.alloc (.cells (Lib.byteCells lies[x.1]).toArray 185)) := by
    have := store_row (P := Try.prog) (alloc_at W1.drew (.cells (Lib.byteCells zeroSec).toArray 185)) (Lib.byteCells lies[x.1]).toArray hM1 (Lib.byteCells_one _)
    rw [World.setRow_alloc_new] at this
    exact this
  have hld1 : (loadVar 185 ⟨lb, x.1 * 64, none⟩).run Try.prog W1.drew = .ok (.agg (Lib.byteCells lies[x.1]).toArray) W1.drew := load_lie (w := W1.drew) hl1 h64 x.1 hxl
  have hld1' : (loadVar 185 ⟨lb, x.1 * 64, none⟩).run Try.prog (W1.alloc (.cells (Lib.byteCells zeroSec).toArray 185)).drew = .ok (.agg (Lib.byteCells lies[x.1]).toArray) (W1.alloc (.cells (Lib.byteCells zeroSec).toArray 185)).drew := load_lie (alloc_old (w := W1.drew) hl1 _) h64 x.1 hxl
  have hSs : (Lib.byteCells lies[x.1]).toArray.size = 64 := by simp [Lib.byteCells_length, hs]
  have hU2 : Upd (fun i => i = lb) w (W1.drew.alloc (.cells (Lib.byteCells lies[x.1]).toArray 185)) := hU1.drew.alloc _
  have hc2 : (W1.drew.alloc (.cells (Lib.byteCells lies[x.1]).toArray 185)).heap[W1.heap.size]? = some (.cells (Lib.byteCells lies[x.1]).toArray 185) := alloc_at W1.drew _
  have hb2 := alloc_old (w := W1.drew) hb1 (.cells (Lib.byteCells lies[x.1]).toArray 185)
  have hd2 := alloc_old (w := W1.drew) hd1 (.cells (Lib.byteCells lies[x.1]).toArray 185)
  have hl2 := alloc_old (w := W1.drew) hl1 (.cells (Lib.byteCells lies[x.1]).toArray 185)
  obtain ⟨W2, hW2⟩ : ∃ W2, W1.drew.alloc (.cells (Lib.byteCells lies[x.1]).toArray 185) = W2 := ⟨_, rfl⟩
  rw [hW2] at hst2 hU2 hc2 hb2 hd2 hl2
  have hcp : ∀ ty, (Builtin.copy_ #[136, 136] ty #[.slice (some ⟨W1.heap.size, 0, none⟩) k 64, .slice (some ⟨w.heap.size, 1, none⟩) k 64]).run Try.prog W2.drew = .ok (goInt k) (W2.drew.setRow W1.heap.size (Lib.byteCells (x.2.take k ++ (lies[x.1]).drop k)).toArray) :=
    fun ty => keep_copy (w := W2.drew) k hk hx hs ty hb2 hc2
  have hU3' : Upd (fun i => i = W1.heap.size) W2 (W2.drew.setRow W1.heap.size (Lib.byteCells (x.2.take k ++ (lies[x.1]).drop k)).toArray) := ((Upd.refl (fun i => i = W1.heap.size) W2).drew).setRow (fun _ => rfl) _
  have hU3 := hU2.trans hU3' (fun i hi e => by have := hU1.size; omega)
  have hc3 := setRow_heap W2.drew W1.heap.size _ (Lib.byteCells (x.2.take k ++ (lies[x.1]).drop k)).toArray _ _ hc2
  have hb3 := hU3'.at_ hb2 (by omega)
  have hd3 := hU3'.at_ hd2 (by omega)
  have hl3 := hU3'.at_ hl2 (by omega)
  obtain ⟨W3, hW3⟩ : ∃ W3, W2.drew.setRow W1.heap.size (Lib.byteCells (x.2.take k ++ (lies[x.1]).drop k)).toArray = W3 := ⟨_, rfl⟩
  rw [hW3] at hU3 hc3 hb3 hd3 hl3
  simp only [hW3] at hcp
  have hMs : (Lib.byteCells (x.2.take k ++ (lies[x.1]).drop k)).toArray.size = 64 := by simp [Lib.byteCells_length, hx, hs]; omega
  have hld3 : (loadVar 185 ⟨W1.heap.size, 0, none⟩).run Try.prog W3.drew = .ok (.agg (Lib.byteCells (x.2.take k ++ (lies[x.1]).drop k)).toArray) W3.drew := load_blk (w := W3.drew) hMs hc3
  have hst3 : (storeCells ⟨lb, x.1 * 64, none⟩ (Lib.byteCells (x.2.take k ++ (lies[x.1]).drop k)).toArray.toList).run Try.prog W3.drew = .ok () (W3.drew.setRow lb (Lib.byteCells (lies.set x.1 (x.2.take k ++ (lies[x.1]).drop k)).flatten).toArray) :=
    store_sec (w := W3.drew) hl3 h64 x.1 hxl _ (by simp [hx, hs]; omega)
  have hfin : Upd (fun i => i = lb) w (W3.drew.setRow lb (Lib.byteCells (lies.set x.1 (x.2.take k ++ (lies[x.1]).drop k)).flatten).toArray) := (hU3.drew).setRow (fun _ => rfl) _
  have hfin2 := setRow_heap W3.drew lb _ (Lib.byteCells (lies.set x.1 (x.2.take k ++ (lies[x.1]).drop k)).flatten).toArray _ _ hl3
  have HF := Lib.hid hfin
  have HF2 := Lib.hid hfin2
  have HCP := Lib.hid hcp
  have hsl1 : ∀ W, (Instr.sliceAt 185 (.pointer (some ⟨W1.heap.size, 0, none⟩)) none (some (.int .i64 k)) none).run Try.prog W = .ok (.slice (some ⟨W1.heap.size, 0, none⟩) k 64) W := secHigh _ 0 k hk
  have hsl2 : ∀ W, (Instr.sliceAt 185 (.pointer (some ⟨w.heap.size, 1, none⟩)) none (some (.int .i64 k)) none).run Try.prog W = .ok (.slice (some ⟨w.heap.size, 1, none⟩) k 64) W := secHigh _ 1 k hk
  have hx1 : W1.cell? ⟨w.heap.size, 0, none⟩ = some (.int .i64 x.1) := by rw [cell_of hb1]; rfl
  have hx3 : W3.cell? ⟨w.heap.size, 0, none⟩ = some (.int .i64 x.1) := by rw [cell_of hb3]; rfl
  obtain ⟨c0, _, _, _⟩ := two_of hd1
  obtain ⟨e0, _, _, _⟩ := two_of hd3
  have hp0 : (0 : Int) ≤ (x.1 : Int) := Int.natCast_nonneg _
  have hp1 : (x.1 : Int) < (lies.length : Int) := by omega
  have hx1' : (W1.alloc (.cells (Lib.byteCells zeroSec).toArray 185)).cell? ⟨w.heap.size, 0, none⟩ = some (.int .i64 x.1) := by rw [cell_of (alloc_old hb1 _)]; rfl
  obtain ⟨d0, _, _, _⟩ := two_of (alloc_old hd1 (.cells (Lib.byteCells zeroSec).toArray 185))
  generalize (Lib.byteCells lies[x.1]).toArray = S at *
  generalize (Lib.byteCells zeroSec).toArray = Z at *
  generalize (Lib.byteCells (x.2.take k ++ (lies[x.1]).drop k)).toArray = M at *
  generalize (wcell x).toArray = R at *
  generalize hF : (Lib.byteCells (lies.set x.1 (x.2.take k ++ (lies[x.1]).drop k)).flatten).toArray = F at *
  have HFE := Lib.hid hF
  clear hF
  clear hd hlb hU1 hb1 hd1 hl1 hU2 hc2 hb2 hd2 hl2 hU3 hU3' hc3 hb3 hd3 hl3 hfin hfin2 hcp hW2 hW3
  go_enter Try.func146, Try.ntmps146
  go_wp2_with fail
  go_region
  have hcp := HCP.out
  go_wp2_with fail
  go_region
  clear hcp
  go_wp2_with fail
  go_region
  go_wp2
  go_end0
  exact ⟨rfl, HF.out, by rw [secsObj, HFE.out]; exact HF2.out⟩
end Go.Proofs.Ytoabdpobpmbckaa.Print

namespace Go.Proofs.Ytoabdpobpmbckaa.Print
open Go.RowKit
open Go.Maps (Keyed)
attribute [local go_sem] run_loadVar_scalar

theorem int_keys : Keyed Try.prog 3 := Go.Maps.int_keyed Try.underlying3
/-- A map of numbers to numbers, as what it answers. -/
def NextAt (w : World) (M n : Nat) (nx : Nat → Int) : Prop :=
  ∃ D : DataW Unit, w.ownsMap Try.prog 3 (plainElem Try.prog 3) M n D ∧ ∀ k : Nat, D.atKey (.int .i64 k) (.lit (.int .i64 0)) = .lit (.int .i64 (nx k))
theorem next_made (w : World) : NextAt (w.alloc (.map #[] 0)) w.heap.size 0 (fun _ => 0) := ⟨_, World.ownsMap_made _ _ _ _, fun _ => rfl⟩
theorem zero_int (w : World) : (zeroValue 3).run Try.prog w = .ok (.int .i64 0) w := by kernel_rfl
theorem NextAt.look {w : World} {M n : Nat} {nx : Nat → Int} (h : NextAt w M n nx) (k : Nat) (hk : k ≤ 100000) : (Instr.lookup 219 (.map (some M)) (.int .i64 k) false).run Try.prog w = .ok (.int .i64 (nx k)) w := by
  obtain ⟨D, hD, hn⟩ := h
  obtain ⟨c, hrun, hat, _⟩ := hD.lookup_int int_keys Try.underlying219 Try.underlying3 (zero_int _) (Go.Maps.keyOf_int_mk Try.underlying3 (WalkArith.wf_i64 (n := (k : Int)) (by omega)))
  rw [hn k] at hat
  simp at hat
  rw [hrun, hat]
theorem NextAt.put {w : World} {M n : Nat} {nx : Nat → Int} (h : NextAt w M n nx) (k : Nat) (hk : k ≤ 100000) (v : Int) (hv : (Lit.int .i64 v).wf = true) (hn : n < maxLen) :
    ∃ w', (Instr.mapUpdate 219 (.map (some M)) (.int .i64 k) (.int .i64 v)).run Try.prog w = .ok () w' ∧ NextAt w' M (n + 1) (fun y => if y = k then v else nx y) ∧ Upd (fun i => i = M) w w' := by
  obtain ⟨D, hD, hx⟩ := h
  obtain ⟨w', hrun, hown, hg⟩ := hD.update int_keys Try.underlying219 hn (Go.Maps.keyOf_int_mk Try.underlying3 (WalkArith.wf_i64 (n := (k : Int)) (by omega))) (plainElem_int Try.underlying3 hv)
  refine ⟨w', hrun, ⟨_, hown, fun y => ?_⟩, ⟨hg.os, hg.tape, hg.output, hg.size, fun i hi hne => hg.block i hi (fun e => hne (Option.some.inj e))⟩⟩
  have hm : Go.Maps.IsMap D := by obtain ⟨es, _, _, _, _, rfl⟩ := hD; exact ⟨_, rfl⟩
  by_cases hy : y = k
  · subst hy
    rw [Go.Maps.atKey_put_same hm (by simp [WideAt.IsKeyLit])]
    simp
  · rw [Go.Maps.atKey_put_other (by intro e; simp at e; omega), hx y]
    simp [hy]
theorem NextAt.keep {S : Nat → Prop} {w w1 : World} {M n : Nat} {nx : Nat → Int} (h : NextAt w M n nx) (hU : Upd S w w1) (hn : ¬ S M) : NextAt w1 M n nx := by
  obtain ⟨D, ⟨es, clock, hb, F, hs, hD⟩, hx⟩ := h
  exact ⟨D, ⟨es, clock, hU.at_ hb hn, F, hs, hD⟩, hx⟩

/-- What stays, as numbers: an index, bytes. -/
abbrev K2 := Int × Int
def keepC (k : K2) : List Value := [.int .i64 k.1, .int .i64 k.2]
def KeepsAt (w : World) (ao : Option Addr) (l : List K2) : Prop := ∀ i (h : i < l.length), ∃ a, ao = some a ∧ ∀ j u, (keepC l[i])[j]? = some u → w.cell? (a.add (i * 2 + j)) = some u
theorem KeepsAt.keep {S : Nat → Prop} {w w1 : World} {ao : Option Addr} {l : List K2} (h : KeepsAt w ao l) (hU : Upd S w w1) (hn : ∀ a, ao = some a → 0 < l.length → ¬ S a.block) : KeepsAt w1 ao l := by
  intro i hi
  obtain ⟨a, ha, hc⟩ := h i hi
  refine ⟨a, ha, fun j u hu => ?_⟩
  have hcw := hc j u hu
  rw [World.cell?_of_block (hU.other _ (World.block_lt_of_cell? w _ hcw) (by rw [addr_block]; exact hn a ha (by omega)))]
  exact hcw
theorem keepSize (k : K2) : (Try.prog.info? 221).map (·.size) = some (keepC k).length := by kernel_rfl
theorem KeepsAt.load {w : World} {ao : Option Addr} {l : List K2} (h : KeepsAt w ao l) (i : Nat) (hi : i < l.length) : ∃ a, ao = some a ∧ (loadVar 221 (a.add (i * 2))).run Try.prog w = .ok (.agg (keepC l[i]).toArray) w := by
  obtain ⟨a, ha, hc⟩ := h i hi
  refine ⟨a, ha, run_loadVar_cells w (a.add (i * 2)) 221 (keepC l[i]) _ (fun j v hv => ?_) Try.underlying221 rfl (keepSize _)⟩
  rw [Go.Deep.add_add]
  exact hc j v hv

/-- What the power leaves: one word of what stays, all of them. -/
def kstep (ins : List (Nat × List UInt8)) (st : List (List UInt8) × (Nat → Int)) (k : K2) : List (List UInt8) × (Nat → Int) :=
  if h : 0 ≤ k.1 ∧ k.1.toNat < ins.length then
    if st.2 (ins[k.1.toNat]).1 ≤ k.1 then (st.1.set (ins[k.1.toNat]).1 (mix (ins[k.1.toNat]).2 (st.1.getD (ins[k.1.toNat]).1 []) k.2), fun y => if y = (ins[k.1.toNat]).1 then k.1 + 1 else st.2 y) else st
  else st
def kfold (ins : List (Nat × List UInt8)) (lies : List (List UInt8)) (ks : List K2) : List (List UInt8) × (Nat → Int) := ks.foldl (kstep ins) (lies, fun _ => 0)
theorem kfold_snoc (ins : List (Nat × List UInt8)) (lies : List (List UInt8)) (ks : List K2) (k : K2) : kfold ins lies (ks ++ [k]) = kstep ins (kfold ins lies ks) k := by simp [kfold]
def Good (n : Nat) (st : List (List UInt8) × (Nat → Int)) : Prop := st.1.length = n ∧ (∀ s ∈ st.1, s.length = 64)
theorem kstep_good {n : Nat} {ins : List (Nat × List UInt8)} (hw : ∀ x ∈ ins, x.2.length = 64 ∧ x.1 < n) {st : List (List UInt8) × (Nat → Int)} (h : Good n st) (k : K2) : Good n (kstep ins st k) := by
  unfold kstep
  split
  · rename_i hk
    split
    · obtain ⟨h1, h2⟩ := hw _ (List.getElem_mem hk.2)
      refine ⟨by simp [h.1], ?_⟩
      intro s hs
      rcases List.mem_or_eq_of_mem_set hs with h3 | h3
      · exact h.2 s h3
      · rw [h3]
        refine mix_length _ _ _ h1 ?_
        have hlt : (ins[k.1.toNat]).1 < st.1.length := by rw [h.1]; exact h2
        rw [List.getD_eq_getElem?_getD, List.getElem?_eq_getElem hlt, Option.getD_some]
        exact h.2 _ (List.getElem_mem hlt)
    · exact h
  · exact h
theorem kfold_good {n : Nat} {ins : List (Nat × List UInt8)} (hw : ∀ x ∈ ins, x.2.length = 64 ∧ x.1 < n) {lies : List (List UInt8)} (hl : lies.length = n) (h6 : ∀ s ∈ lies, s.length = 64) (ks : List K2) : Good n (kfold ins lies ks) := by
  have : ∀ st, Good n st → Good n (ks.foldl (kstep ins) st) := by
    induction ks with
    | nil => exact fun st h => h
    | cons k r ih => exact fun st h => ih _ (kstep_good hw h k)
  exact this _ ⟨hl, h6⟩

def CrashRel (w w0 : World) (d lb : Nat) (wv a b : Value) (lies : List (List UInt8)) (ins outs : List (Nat × List UInt8)) (ks : List K2) (i : Value) (wr : World) : Prop :=
  ∃ j : Nat, j ≤ ks.length ∧ i = .int .i64 j ∧ Upd (DiskFoot d lb wv) w wr ∧ w0.heap.size < wr.heap.size ∧ wr.heap[d]? = some (diskObj lb lies.length wv) ∧ wr.heap[lb]? = some (secsObj (kfold ins lies (ks.take j)).1) ∧
    wr.ownsRow w.heap.size 187 65 a ins.length (wcells ins) ∧ wr.ownsRow w.heap.size 187 65 b outs.length (wcells outs) ∧ NextAt wr w0.heap.size j (kfold ins lies (ks.take j)).2
theorem crash_done {w w0 wr : World} {d lb : Nat} {wv a b : Value} {lies : List (List UInt8)} {ins outs : List (Nat × List UInt8)} {ks : List K2} {waits : List (Nat × List UInt8)} (D : DiskAt w d lb wv lies waits) (h : CrashRel w w0 d lb wv a b lies ins outs ks (.int .i64 ks.length) wr)
    (hi : ∀ x ∈ ins, x.2.length = 64 ∧ x.1 < lies.length) (ho : ∀ x ∈ outs, x.2.length = 64 ∧ x.1 < lies.length) : DWrote w d lb wv (kfold ins lies ks).1 outs (wr.setCell ⟨d, 1, none⟩ b) := by
  obtain ⟨j, hj, hij, hU, hs, hd, hlb, hA, hC, hN⟩ := h
  have hjl : j = ks.length := by simp at hij; omega
  subst hjl
  rw [List.take_length] at hlb
  have hg := kfold_good hi rfl D.l64 ks
  have hbd : b.ownBlock ≠ some d := fun e => by have := (hC.lt d e).1; have := lt_of D.at_; omega
  have hbl : b.ownBlock ≠ some lb := fun e => by have := (hC.lt lb e).1; have := lt_of D.lies_; omega
  have hU1 : Upd (fun i => i = d) wr (wr.setCell ⟨d, 1, none⟩ b) := (Upd.refl (fun i => i = d) wr).setCell (p := ⟨d, 1, none⟩) (fun _ => rfl) _
  refine ⟨b, ⟨?_, hU1.at_ hlb (fun e => D.dl e.symm), ?_, ?_, ?_, hg.2, ?_, D.dl, hbd, hbl⟩, hU.trans hU1 (fun i _ e => .inl e), fun i hi => .inr (hC.lt i hi).1⟩
  · rw [cells_set _ _ _ _ _ _ hd, hg.1]; rfl
  · have := ownsRow_upd hU1 hC (fun i hi e => hbd (by rw [hi, e]))
    refine ⟨this.1, this.2.imp id ?_⟩
    rintro ⟨g, cap, cur, hv, hb, rest⟩
    exact ⟨g, cap, cur, hv, Nat.zero_le _, rest⟩
  · rw [hg.1]; exact D.n1
  · rw [hg.1]; exact D.n2
  · intro x hx; rw [hg.1]; exact ho x hx
theorem crash_next {w w1 wr w3 : World} {d lb : Nat} {wv a b : Value} {lies : List (List UInt8)} {ins outs : List (Nat × List UInt8)} {ks : List K2} {waits : List (Nat × List UInt8)} (D : DiskAt w d lb wv lies waits) (hB : w.heap.size ≤ w1.heap.size) {j : Nat} (hj : j < ks.length)
    (hU : Upd (DiskFoot d lb wv) w wr) (hs : w1.heap.size < wr.heap.size) (hd : wr.heap[d]? = some (diskObj lb lies.length wv)) (hA : wr.ownsRow w.heap.size 187 65 a ins.length (wcells ins)) (hC : wr.ownsRow w.heap.size 187 65 b outs.length (wcells outs))
    (hAm : ∀ k, a.ownBlock = some k → w.heap.size ≤ k ∧ k < w1.heap.size) (hCm : ∀ k, b.ownBlock = some k → w.heap.size ≤ k ∧ k < w1.heap.size) (hUall : Upd (fun i => i = w1.heap.size ∨ i = lb) wr w3)
    (hlb : w3.heap[lb]? = some (secsObj (kfold ins lies (ks.take (j + 1))).1)) (hN : NextAt w3 w1.heap.size (j + 1) (kfold ins lies (ks.take (j + 1))).2) (i : Value) (hi : i = .int .i64 ((j + 1 : Nat) : Int)) : CrashRel w w1 d lb wv a b lies ins outs ks i w3 := by
  have hdl := lt_of D.at_
  have hll := lt_of D.lies_
  refine ⟨j + 1, hj, hi, hU.trans hUall (fun i hi h => ?_), Nat.lt_of_lt_of_le hs hUall.size, hUall.at_ hd (fun h => ?_), hlb, ownsRow_upd hUall hA (fun i hi h => ?_), ownsRow_upd hUall hC (fun i hi h => ?_), hN⟩
  · rcases h with h | h
    · omega
    · exact .inr (.inl h)
  · rcases h with h | h
    · omega
    · exact D.dl h
  · have := hAm i hi; omega
  · have := hCm i hi; omega
theorem kfold_take (ins : List (Nat × List UInt8)) (lies : List (List UInt8)) (ks : List K2) (j : Nat) (hj : j < ks.length) : kfold ins lies (ks.take (j + 1)) = kstep ins (kfold ins lies (ks.take j)) ks[j] := by
  rw [List.take_succ_eq_append_getElem hj, kfold_snoc]
theorem kstep_out {ins : List (Nat × List UInt8)} (st : List (List UInt8) × (Nat → Int)) (k1 k2 : Int) (h : k1 < 0 ∨ (ins.length : Int) ≤ k1) : kstep ins st (k1, k2) = st := by
  unfold kstep; rw [dif_neg]; simp only; omega
theorem kstep_less {ins : List (Nat × List UInt8)} (st : List (List UInt8) × (Nat → Int)) (K : Nat) (k2 : Int) (h : K < ins.length) (hn : (K : Int) < st.2 (ins[K]).1) : kstep ins st ((K : Int), k2) = st := by
  have h' : 0 ≤ ((K : Int), k2).1 ∧ ((K : Int), k2).1.toNat < ins.length := by simp; omega
  unfold kstep; rw [dif_pos h', if_neg]; simp only [Int.toNat_natCast]; omega
theorem kstep_in {ins : List (Nat × List UInt8)} (st : List (List UInt8) × (Nat → Int)) (K : Nat) (k2 : Int) (h : K < ins.length) (hn : st.2 (ins[K]).1 ≤ (K : Int)) (hx : (ins[K]).1 < st.1.length) :
    kstep ins st ((K : Int), k2) = (st.1.set (ins[K]).1 (mix (ins[K]).2 st.1[(ins[K]).1] k2), fun y => if y = (ins[K]).1 then ((K : Int) + 1) else st.2 y) := by
  have h' : 0 ≤ ((K : Int), k2).1 ∧ ((K : Int), k2).1.toNat < ins.length := by simp; omega
  unfold kstep
  rw [dif_pos h', if_pos (by simpa only [Int.toNat_natCast] using hn)]
  simp only [Int.toNat_natCast]
  rw [List.getD_eq_getElem?_getD, List.getElem?_eq_getElem hx, Option.getD_some]
theorem NextAt.more {w : World} {M n : Nat} {nx : Nat → Int} (h : NextAt w M n nx) : NextAt w M (n + 1) nx := by
  obtain ⟨D, hD, hx⟩ := h
  exact ⟨D, hD.mono (Nat.le_succ _), hx⟩
abbrev keepZ : Array Value := #[.int .i64 0, .int .i64 0]
theorem zero_keep (w : World) : (zeroValue 221).run Try.prog w = .ok (.agg keepZ) w := by kernel_rfl
theorem keep_new (w : World) (k : K2) : (storeCells ⟨w.heap.size, 0, none⟩ (keepC k).toArray.toList).run Try.prog (w.alloc (.cells keepZ 221)) = .ok () (w.alloc (.cells (keepC k).toArray 221)) := by
  have := store_row (P := Try.prog) (alloc_at w (.cells keepZ 221)) (keepC k).toArray rfl (by intro v hv; simp [keepC] at hv; rcases hv with rfl | rfl <;> rfl)
  rw [World.setRow_alloc_new] at this
  exact this
theorem row_open {w : World} {base n : Nat} {v : Value} {xs : List Value} (h : w.ownsRow base 187 65 v n xs) : ∃ ao ac, v = .slice ao n ac ∧ (0 < n → ∃ g, ao = some ⟨g, 0, none⟩) := by
  rcases h.2 with ⟨h1, h0⟩ | ⟨g, cap, cur, h1, _⟩
  · exact ⟨none, 0, by rw [h1, h0], fun h => by omega⟩
  · exact ⟨_, _, h1, fun _ => ⟨g, rfl⟩⟩
set_option maxRecDepth 100000 in
set_option maxHeartbeats 3200000 in
attribute [-go_sem] Instr.build Instr.fill Instr.buildSlice loadVar in
theorem crash_any {w : World} {d lb : Nat} {wv : Value} {lies : List (List UInt8)} {waits : List (Nat × List UInt8)} (D : DiskAt w d lb wv lies waits) (f n : Nat) (hfn : f + n ≤ lies.length) (hl : waits.length ≤ 1000000000)
    (ao : Option Addr) (cap : Nat) (ks : List K2) (hK : KeepsAt w ao ks) (hKn : ∀ a, ao = some a → 0 < ks.length → ¬ DiskFoot d lb wv a.block) (hKl : ks.length ≤ 1000000000) :
    Calls Try.prog 97 #[.pointer (some ⟨d, 0, none⟩), .int .i64 f, .int .i64 n, .slice ao ks.length cap] w fun x w' => x = .returned (.int .i64 0) ∧
      DWrote w d lb wv (kfold (waits.filter (inSpan f n)) lies ks).1 (waits.filter (fun x => !inSpan f n x)) w' := by
  have n2 := D.n2
  have hp := part_any D f n (by omega) hl
  have hi64 : ∀ x ∈ waits.filter (inSpan f n), x.2.length = 64 ∧ x.1 < lies.length := fun x hx => D.w64 x (List.mem_filter.1 hx).1
  have ho64 : ∀ x ∈ waits.filter (fun x => !inSpan f n x), x.2.length = 64 ∧ x.1 < lies.length := fun x hx => D.w64 x (List.mem_filter.1 hx).1
  have hil : (waits.filter (inSpan f n)).length ≤ 1000000000 := Nat.le_trans (List.length_filter_le _ _) hl
  generalize waits.filter (inSpan f n) = ins at hp hi64 hil ⊢
  generalize waits.filter (fun x => !inSpan f n x) = outs at hp ho64 ⊢
  have hst0 := write_new
  have hz := zero_write
  generalize (wcell (0, zeroSec)).toArray = Z0 at hz hst0
  have HST := Lib.hid hst0
  have HP := Lib.hid hp
  have HI := Lib.hid hi64
  have HO := Lib.hid ho64
  have HK := Lib.hid hK
  have HKN := Lib.hid hKn
  clear hst0 hp hi64 ho64 hK hKn
  go_enter Try.func97, Try.ntmps97
  go_wp2_with fail
  refine (span_yes D.at_ f n hfn D.n2).mono ?_
  rintro x w1 ⟨rfl, rfl⟩
  go_wp2_with fail
  refine HP.out.mono ?_
  rintro x w1 ⟨a, b, rfl, hB, hA, hC, hap⟩
  have g1 : w1.heap[d]? = some (diskObj lb lies.length wv) := later_of D.at_ hB
  have g2 : w1.heap[lb]? = some (secsObj lies) := later_of D.lies_ hB
  have hAm := fun k hk => (hA.lt k hk)
  have hCm := fun k hk => (hC.lt k hk)
  have hdlt := lt_of D.at_
  have hllt := lt_of D.lies_
  obtain ⟨bo, bc, rfl, _⟩ := row_open hC
  obtain ⟨ia, ic, rfl, hia⟩ := row_open hA
  have hmm := @run_makeMap Try.prog
  have hfirst : CrashRel w w1 d lb wv (.slice ia ins.length ic) (.slice bo outs.length bc) lies ins outs ks (.int .i64 0) (w1.alloc (.map #[] 0)) := by
    have hU := (Upd.of_below (S := DiskFoot d lb wv) hB).alloc (.map #[] 0)
    exact ⟨0, Nat.zero_le _, rfl, hU, by simp, alloc_old g1 _, alloc_old g2 _, hA.alloc _, hC.alloc _, next_made w1⟩
  have HFI := Lib.hid hfirst
  have HAM := Lib.hid hAm
  have HCM := Lib.hid hCm
  clear hfirst hAm hCm hap
  go_wp2
  go_loopw [34] (fun i wr => CrashRel w w1 d lb wv (.slice ia ins.length ic) (.slice bo outs.length bc) lies ins outs ks i wr) (fun i _ => ks.length - (intOf i).toNat)
  case atStart => exact HFI.out
  case round =>
    obtain ⟨j, hj, rfl, hrest⟩ := id hrel
    have HR := Lib.hid hrel
    obtain ⟨hU, hs1, hd, hlb, hA1, hC1, hN⟩ := hrest
    clear hrel
    by_cases hlj : j < ks.length
    · obtain ⟨a0, ha0, hld⟩ := (HK.out.keep hU HKN.out).load j hlj
      subst ha0
      have hkt := kfold_take ins lies ks j hlj
      have hgood := kfold_good (n := lies.length) HI.out rfl D.l64 (ks.take j)
      have hkn := keep_new wr ks[j]
      have hKs : (keepC ks[j]).toArray.size = 2 := rfl
      obtain ⟨k1, k2, hkj⟩ : ∃ k1 k2, ks[j] = (k1, k2) := ⟨_, _, rfl⟩
      have e0 : (wr.alloc (.cells (keepC ks[j]).toArray 221)).cell? ⟨wr.heap.size, 0, none⟩ = some (.int .i64 k1) := by rw [cell_of (alloc_at _ _), hkj]; rfl
      have e1 : (wr.alloc (.cells (keepC ks[j]).toArray 221)).cell? ⟨wr.heap.size, 1, none⟩ = some (.int .i64 k2) := by rw [cell_of (alloc_at _ _), hkj]; rfl
      have hwk : Upd (fun i => i = w1.heap.size ∨ i = lb) wr (wr.alloc (.cells (keepC ks[j]).toArray 221)) := (Upd.refl _ _).alloc _
      have hsz : (wr.alloc (.cells (keepC ks[j]).toArray 221)).heap.size = wr.heap.size + 1 := by simp
      have hlbk := alloc_old hlb (.cells (keepC ks[j]).toArray 221)
      have hNk := hN.keep (S := fun _ => False) ((Upd.refl _ _).alloc (.cells (keepC ks[j]).toArray 221)) (fun h => h)
      have hAk := hA1.alloc (.cells (keepC ks[j]).toArray 221)
      have hdk := alloc_old hd (.cells (keepC ks[j]).toArray 221)
      have hzk := zero_keep
      generalize (keepC ks[j]).toArray = KC at hld hkn hKs e0 e1 hwk hsz hlbk hNk hAk hdk
      generalize keepZ = KZ at hzk hkn
      obtain ⟨wk, hwke⟩ : ∃ wk, wr.alloc (.cells KC 221) = wk := ⟨_, rfl⟩
      rw [hwke] at hkn e0 e1 hwk hsz hlbk hNk hAk hdk
      rw [hkj] at hkt
      have HKT := Lib.hid hkt
      have HAK := Lib.hid hAk
      have HLBK := Lib.hid hlbk
      have HDK := Lib.hid hdk
      have HNK := Lib.hid hNk
      have HC1 := Lib.hid hC1
      have HA1 := Lib.hid hA1
      have HD := Lib.hid hd
      have HWK := Lib.hid hwk
      have HG := Lib.hid hgood
      clear hkt hAk hlbk hdk hNk hC1 hA1 hd hwk hlb hN hwke hgood hkj
      by_cases h0 : k1 < 0
      · have d0 : decide (k1 < 0) = true := by simpa using h0
        go_wp2
        go_roundw
        case rel =>
          have hs := kstep_out (ins := ins) (kfold ins lies (ks.take j)) k1 k2 (.inl h0)
          refine crash_next D hB.size hlj hU hs1 HD.out HA1.out HC1.out HAM.out HCM.out HWK.out ?_ ?_ _ (by go_num)
          · rw [HKT.out, hs]; exact HLBK.out
          · rw [HKT.out, hs]; exact HNK.out.more
        case measure => simp [intOf]; omega
      · have d0 : decide (k1 < 0) = false := by simpa using h0
        obtain ⟨K, rfl⟩ : ∃ K : Nat, k1 = K := ⟨k1.toNat, by omega⟩
        by_cases hKi : K < ins.length
        · have d1 : decide (ins.length ≤ K) = false := by simp; omega
          obtain ⟨g, rfl⟩ := hia (by omega)
          have hx := (HI.out ins[K] (List.getElem_mem hKi)).1
          have hxl := (HI.out ins[K] (List.getElem_mem hKi)).2
          have hr := wait_range HAK.out (fun x hx => (HI.out x hx).1) K hKi
          have hlx := load_wait hr hx
          have hst := HST.out wk ins[K] hx
          have hRs : (wcell ins[K]).toArray.size = 65 := by simp [wcell, Lib.byteCells_length, hx]
          have hp0 : (0 : Int) ≤ (K : Int) := Int.natCast_nonneg _
          have hp1 : (K : Int) < (ins.length : Int) := by omega
          have hUx : Upd (fun _ => False) wk (wk.alloc (.cells (wcell ins[K]).toArray 187)) := (Upd.refl _ _).alloc _
          have hbx := alloc_at wk (.cells (wcell ins[K]).toArray 187)
          have hx0 : (wk.alloc (.cells (wcell ins[K]).toArray 187)).cell? ⟨wk.heap.size, 0, none⟩ = some (.int .i64 (ins[K]).1) := by rw [cell_of hbx]; rfl
          have hx1 : (wk.alloc (.cells (wcell ins[K]).toArray 187)).cell? ⟨wr.heap.size, 0, none⟩ = some (.int .i64 K) := (World.cell?_of_block (hUx.other wr.heap.size (by omega) (fun h => h))).trans e0
          have hx2 : (wk.alloc (.cells (wcell ins[K]).toArray 187)).cell? ⟨wr.heap.size, 1, none⟩ = some (.int .i64 k2) := (World.cell?_of_block (a := ⟨wr.heap.size, 1, none⟩) (hUx.other wr.heap.size (by omega) (fun h => h))).trans e1
          have hlk := (HNK.out.keep hUx (fun h => h)).look (ins[K]).1 (by omega)
          have hkeep := fun (w2 : World) (hd2 : w2.heap[d]? = some (diskObj lb lies.length wv)) (hl2 : w2.heap[lb]? = some (secsObj (kfold ins lies (ks.take j)).1)) =>
            keep_ok (w := w2) (lies := (kfold ins lies (ks.take j)).1) (by rw [HG.out.1]; exact hd2) hl2 HG.out.2 ins[K] hx (by rw [HG.out.1]; exact hxl) k2
          have HKEEP := Lib.hid hkeep
          clear hr hkeep
          have hBs := hB.size
          rw [hsz] at hst hbx hx0
          have hRl : (wcell ins[K]).toArray.toList = wcell ins[K] := rfl
          by_cases hge : (kfold ins lies (ks.take j)).2 (ins[K]).1 ≤ (K : Int)
          · have d2 : decide ((kfold ins lies (ks.take j)).2 (ins[K]).1 ≤ (K : Int)) = true := by simpa using hge
            have hwrap : IntKind.i64.wrap ((K : Int) + 1) = (K : Int) + 1 := by rw [IntKind.wrap_i64]; omega
            obtain ⟨w2, hput, hN2, hU2⟩ := (HNK.out.keep hUx (fun h => h)).put (ins[K]).1 (by omega) ((K : Int) + 1) (WalkArith.wf_i64 (by omega)) (by unfold maxLen; omega)
            have hb2 := hU2.at_ hbx (by omega)
            have hl2 := load_row65 w2 (wr.heap.size + 1) _ hRs hb2
            have hy0 := (World.cell?_of_block (a := ⟨wr.heap.size, 0, none⟩) (hU2.other wr.heap.size (Nat.lt_of_lt_of_le (by omega) hUx.size) (by omega))).trans hx1
            have hy1 := (World.cell?_of_block (a := ⟨wr.heap.size, 1, none⟩) (hU2.other wr.heap.size (Nat.lt_of_lt_of_le (by omega) hUx.size) (by omega))).trans hx2
            have hdl2 := hU2.at_ (hUx.at_ HDK.out (fun h => h)) (by omega)
            have hlb2 := hU2.at_ (hUx.at_ HLBK.out (fun h => h)) (by omega)
            have hK2 := HKEEP.out w2 hdl2 hlb2
            have hUw2 := (HWK.out.trans hUx (fun i _ h => h.elim)).trans hU2 (fun i _ h => .inl h)
            generalize (wcell ins[K]).toArray = R at *
            rw [← hRl] at hst
            clear hRl
            obtain ⟨wx, hwx⟩ : ∃ wx, wk.alloc (.cells R 187) = wx := ⟨_, rfl⟩
            rw [hwx] at hst hx0 hx1 hx2 hlk hput
            have HK2 := Lib.hid hK2
            have HN2 := Lib.hid hN2
            have HUW2 := Lib.hid hUw2
            have HGE := Lib.hid hge
            clear hbx hUx hb2 hdl2 hlb2 hK2 hN2 hUw2 hU2 hwx hge
            go_wp2_with fail
            refine HK2.out.mono ?_
            rintro x w3 ⟨rfl, hU3, hlb3⟩
            have HU3 := Lib.hid hU3
            have HLB3 := Lib.hid hlb3
            clear hU3 hlb3
            go_wp2
            go_roundw
            case rel =>
              have hs := kstep_in (ins := ins) (kfold ins lies (ks.take j)) K k2 hKi HGE.out (by rw [HG.out.1]; exact hxl)
              refine crash_next D hB.size hlj hU hs1 HD.out HA1.out HC1.out HAM.out HCM.out (HUW2.out.trans HU3.out (fun i _ h => .inr h)) ?_ ?_ _ (by go_num)
              · rw [HKT.out, hs]; exact HLB3.out
              · rw [HKT.out, hs]; exact HN2.out.keep HU3.out (by have := hB.size; omega)
            case measure => simp [intOf]; omega
          · have d2 : decide ((kfold ins lies (ks.take j)).2 (ins[K]).1 ≤ (K : Int)) = false := by simpa using hge
            have hUw2 := HWK.out.trans hUx (fun i _ h => h.elim)
            have hNx := (HNK.out.keep hUx (fun h => h)).more
            have hlbx := hUx.at_ HLBK.out (fun h => h)
            generalize (wcell ins[K]).toArray = R at *
            rw [← hRl] at hst
            clear hRl
            obtain ⟨wx, hwx⟩ : ∃ wx, wk.alloc (.cells R 187) = wx := ⟨_, rfl⟩
            rw [hwx] at hst hx0 hx1 hx2 hlk hUw2 hNx hlbx
            have HNX := Lib.hid hNx
            have HUW2 := Lib.hid hUw2
            have HLBX := Lib.hid hlbx
            have HGE := Lib.hid hge
            clear hbx hUx hUw2 hwx hge hNx hlbx
            go_wp2
            go_roundw
            case rel =>
              have hs := kstep_less (ins := ins) (kfold ins lies (ks.take j)) K k2 hKi (by have := HGE.out; omega)
              refine crash_next D hB.size hlj hU hs1 HD.out HA1.out HC1.out HAM.out HCM.out HUW2.out ?_ ?_ _ (by go_num)
              · rw [HKT.out, hs]; exact HLBX.out
              · rw [HKT.out, hs]; exact HNX.out
            case measure => simp [intOf]; omega
        · have d1 : decide (ins.length ≤ K) = true := by simp; omega
          go_wp2
          go_roundw
          case rel =>
            have hs := kstep_out (ins := ins) (kfold ins lies (ks.take j)) (K : Int) k2 (.inr (by omega))
            refine crash_next D hB.size hlj hU hs1 HD.out HA1.out HC1.out HAM.out HCM.out HWK.out ?_ ?_ _ (by go_num)
            · rw [HKT.out, hs]; exact HLBK.out
            · rw [HKT.out, hs]; exact HNK.out.more
          case measure => simp [intOf]; omega
    · have hj' : j = ks.length := by omega
      subst hj'
      obtain ⟨c0, c1, f0, f1⟩ := two_of hd
      clear hd hlb hA1 hC1 hU hN
      go_wp2
      go_ret
      exact ⟨rfl, crash_done D HR.out HI.out HO.out⟩
end Go.Proofs.Ytoabdpobpmbckaa.Print

namespace Go.Proofs.Ytoabdpobpmbckaa.Print
open Go.RowKit

set_option maxRecDepth 100000 in
set_option maxHeartbeats 800000 in
theorem vcrash_ok {w : World} {v d lb : Nat} {wv : Value} {lies : List (List UInt8)} {waits : List (Nat × List UInt8)} {f n : Nat} {fu : Int} {dead : Bool} (V : VAt w v d lb wv lies waits f n fu dead) (hl : waits.length ≤ 1000000000)
    (ao : Option Addr) (cap : Nat) (ks : List K2) (hK : KeepsAt w ao ks) (hKn : ∀ a, ao = some a → 0 < ks.length → ¬ VFoot v d lb wv a.block) (hKl : ks.length ≤ 1000000000) :
    Calls Try.prog 48 #[.pointer (some ⟨v, 0, none⟩), .slice ao ks.length cap] w fun x w' => x = .returned (.int .i64 0) ∧
      VPost w v d lb wv (kfold (waits.filter (inSpan f n)) lies ks).1 (waits.filter (fun x => !inSpan f n x)) f n (-1) false w' := by
  obtain ⟨st, hv⟩ := V.view_
  obtain ⟨W, hW⟩ : ∃ W, ((w.setCell ⟨v, 3, none⟩ (.int .i64 (-1))).setCell ⟨v, 4, none⟩ (.int .i64 0)).setCell ⟨v, 5, none⟩ (.bool false) = W := ⟨_, rfl⟩
  have hv1 : W.heap[v]? = some (viewObj d f n (-1) 0 false) := by
    rw [← hW]
    have h1 := (viewObj_set (fu' := -1) (st' := 0) (dead' := false) hv).1
    have h2 := (viewObj_set (fu' := -1) (st' := 0) (dead' := false) h1).2.1
    exact (viewObj_set (fu' := -1) (st' := 0) (dead' := false) h2).2.2
  have hU : Upd (fun i => i = v) w W := by
    rw [← hW]
    exact (((Upd.refl (fun i => i = v) w).setCell (p := ⟨v, 3, none⟩) (fun _ => rfl) _).setCell (p := ⟨v, 4, none⟩) (fun _ => rfl) _).setCell (p := ⟨v, 5, none⟩) (fun _ => rfl) _
  have V1 : VAt W v d lb wv lies waits f n (-1) false := ⟨⟨0, hv1⟩, V.disk_.keep hU V.disk_ne, V.vd, V.vl, V.vw, V.fn, by omega, by omega⟩
  have hC := crash_any (w := W.drew) (V1.disk_.keep (S := fun _ => False) ((Upd.refl _ _).drew) (fun _ _ h => h)) f n V.fn hl ao cap ks (hK.keep (S := fun i => i = v) hU.drew (fun a ha hl e => hKn a ha hl (.inl e))) (fun a ha hl e => hKn a ha hl (.inr e)) hKl
  have hC2 : Calls Try.prog 97 #[.pointer (some ⟨d, 0, none⟩), .int .i64 f, .int .i64 n, .slice ao ks.length cap] W.drew fun x w' => x = .returned (.int .i64 0) ∧
      VPost w v d lb wv (kfold (waits.filter (inSpan f n)) lies ks).1 (waits.filter (fun x => !inSpan f n x)) f n (-1) false w' :=
    hC.mono fun x w' ⟨hx, wv', D', U, hw⟩ => ⟨hx, V.turned V1 (Upd.refl _ _) hU (kfold_good (fun x hx => V.disk_.w64 x (List.mem_filter.1 hx).1) rfl V.disk_.l64 ks).1 ⟨wv', D', ⟨U.os, U.tape, U.output, U.size, U.other⟩, hw⟩⟩
  obtain ⟨c0, c1, c2, c3, c4, c5, hf⟩ := six_of' hv
  obtain ⟨d0, d1, d2, d3, d4, d5, hg⟩ := six_of' hv1
  have HW := Lib.hid hW
  have HC := Lib.hid hC2
  have HD := Lib.hid (And.intro d0 (And.intro d1 d2))
  clear hW hC hC2 hK hKn V1 hU hv hv1 d0 d1 d2 d3 d4 d5 hg
  go_enter Try.func48, Try.ntmps48
  go_wp2_with fail
  rw [HW.out]
  obtain ⟨d0, d1, d2⟩ := HD.out
  clear c0 c1 c2 c3 c4 c5 hf
  go_still_tail 13, (by kernel_rfl)
  go_wp2_with fail
  refine HC.out.mono ?_
  rintro x w' ⟨rfl, hw⟩
  go_wp2
  go_ret
  exact ⟨rfl, hw⟩
end Go.Proofs.Ytoabdpobpmbckaa.Print
