/- disk: keep. -/
import Derived.Test.YtemdhcocbjcklaaFlush
import Derived.Test.YtemdhcocbjcklaaSstore
namespace Go.Proofs.Ytemdhcocbjcklaa.Print
open Go.RowKit
attribute [local go_sem] run_loadVar_scalar

/-- What the power leaves of a write's bytes, the first n of them. -/
def mix (d s : List UInt8) (n : Int) : List UInt8 := d.take (min (max n 0) 64).toNat ++ s.drop (min (max n 0) 64).toNat
theorem mix_nat (d s : List UInt8) (n : Int) (k : Nat) (h : min (max n 0) 64 = (k : Int)) : mix d s n = d.take k ++ s.drop k := by unfold mix; rw [h]; rfl
theorem clamp_nat (n : Int) : ∃ k : Nat, k ≤ 64 ∧ min (max n 0) 64 = (k : Int) := ⟨(min (max n 0) 64).toNat, by omega, by omega⟩
theorem mix_length (d s : List UInt8) (n : Int) (hd : d.length = 64) (hs : s.length = 64) : (mix d s n).length = 64 := by
  obtain ⟨k, hk, h⟩ := clamp_nat n
  rw [mix_nat d s n k h]; simp [hd, hs]; omega
theorem arrSec2 : Try.prog.underlying 173 = some (.array (Try.prog.arrayLen 173) (Try.prog.elem 173)) := by kernel_rfl
theorem alSec2 : Try.prog.arrayLen 173 = 64 := by kernel_rfl
theorem elSec2 : Try.prog.elem 173 = 5 := by kernel_rfl
theorem secHigh (b o k : Nat) (h : k ≤ 64) (w : World) : (Instr.sliceAt 173 (.pointer (some ⟨b, o, none⟩)) none (some (.int .i64 k)) none).run Try.prog w = .ok (.slice (some ⟨b, o, none⟩) k 64) w := by
  rw [run_sliceAt_array_h w 173 _ arrSec2 .i64 k (by omega) (by rw [alSec2]; omega), alSec2, elSec2]
  go_simp
theorem zero_sec (w : World) : (zeroValue 173).run Try.prog w = .ok (.agg (Lib.byteCells zeroSec).toArray) w := by kernel_rfl
theorem load_lie {w : World} {lb : Nat} {l : List (List UInt8)} (hb : w.heap[lb]? = some (secsObj l)) (h : ∀ s ∈ l, s.length = 64) (k : Nat) (hk : k < l.length) : (loadVar 173 ⟨lb, k * 64, none⟩).run Try.prog w = .ok (.agg (Lib.byteCells l[k]).toArray) w :=
  run_loadVar_mid w lb (k * 64) 173 (Lib.byteCells l[k]) _ (sec_range hb h k hk) Try.underlying173 rfl (by rw [Lib.byteCells_length, h l[k] (List.getElem_mem hk)]; exact sec_size)
theorem load_blk {w : World} {g : Nat} {X : Array Value} (hX : X.size = 64) (hg : w.heap[g]? = some (.cells X 173)) : (loadVar 173 ⟨g, 0, none⟩).run Try.prog w = .ok (.agg X) w :=
  run_loadVar_row w g 173 173 X (0, 0) _ hg Try.underlying173 rfl (by rw [hX]; exact sec_size)
theorem keep_copy {w : World} {b c : Nat} {x : Nat × List UInt8} {s : List UInt8} (k : Nat) (hk : k ≤ 64) (hx : x.2.length = 64) (hs : s.length = 64) (ty : TypeId)
    (hb : w.heap[b]? = some (.cells (wcell x).toArray 175)) (hc : w.heap[c]? = some (.cells (Lib.byteCells s).toArray 173)) :
    (Builtin.copy_ #[72, 72] ty #[.slice (some ⟨c, 0, none⟩) k 64, .slice (some ⟨b, 1, none⟩) k 64]).run Try.prog w = .ok (goInt k) (w.setRow c (Lib.byteCells (x.2.take k ++ s.drop k)).toArray) := by
  have hl : (Lib.byteCells (x.2.take k)).length = k := by rw [Lib.byteCells_length, List.length_take]; omega
  have := run_copy_row (P := Try.prog) w 72 72 ty 5 c 0 k 64 ⟨b, 1, none⟩ k 64 (Lib.byteCells s).toArray 173 (Lib.byteCells (x.2.take k)) Try.underlying72 secInfo hc (by rw [hl]; simp)
    (fun j v hv => by
      have hj : j < k := by have := (List.getElem?_eq_some_iff.1 hv).1; omega
      rw [Addr.add_mid, cell_of hb]
      have hjl : j < x.2.length := by omega
      simp only [wcell, Lib.byteCells] at hv ⊢
      rw [List.getElem?_toArray, Nat.add_comm 1 j, List.getElem?_cons_succ]
      simpa [List.getElem?_take, hj, hjl] using hv) (by simp [Lib.byteCells_length, hs]; omega) (Lib.byteCells_one _)
  rw [this, hl]
  simp [Lib.byteCells]
set_option maxRecDepth 100000 in
set_option maxHeartbeats 1600000 in
attribute [-go_sem] Instr.build Instr.fill Instr.buildSlice loadVar in
theorem keep_ok {w : World} {d lb : Nat} {wv : Value} {lies : List (List UInt8)} (hd : w.heap[d]? = some (diskObj lb lies.length wv)) (hlb : w.heap[lb]? = some (secsObj lies)) (h64 : ∀ s ∈ lies, s.length = 64)
    (x : Nat × List UInt8) (hx : x.2.length = 64) (hxl : x.1 < lies.length) (n : Int) :
    Calls Try.prog 102 #[.pointer (some ⟨d, 0, none⟩), .agg (wcell x).toArray, .int .i64 n] w fun e w' => e = .returned (.tuple #[]) ∧ Upd (fun i => i = lb) w w' ∧ w'.heap[lb]? = some (secsObj (lies.set x.1 (mix x.2 lies[x.1] n))) := by
  obtain ⟨k, hk, hkn⟩ := clamp_nat n
  rw [mix_nat _ _ _ _ hkn]
  have hs := h64 lies[x.1] (List.getElem_mem hxl)
  have hU1 : Upd (fun i => i = lb) w (w.alloc (.cells (wcell x).toArray 175)) := (Upd.refl _ _).alloc _
  have hb1 := alloc_at w (.cells (wcell x).toArray 175)
  have hd1 := alloc_old hd (.cells (wcell x).toArray 175)
  have hl1 := alloc_old hlb (.cells (wcell x).toArray 175)
  have hR0 : (wcell x).toArray[0]? = some (.int .i64 x.1) := rfl
  have hRs : (wcell x).toArray.size = 65 := by simp [wcell, Lib.byteCells_length, hx]
  obtain ⟨W1, hW1⟩ : ∃ W1, w.alloc (.cells (wcell x).toArray 175) = W1 := ⟨_, rfl⟩
  rw [hW1] at hU1 hb1 hd1 hl1
  have hlt1 := lt_of hl1
  have hbt1 := lt_of hb1
  have hdt1 := lt_of hd1
  have hz := zero_sec
  have hM1 : (Lib.byteCells zeroSec).toArray.size = (Lib.byteCells lies[x.1]).toArray.size := by simp [Lib.byteCells_length, hs, zeroSec_length]
  have hst2 : (storeCells ⟨W1.heap.size, 0, none⟩ (Lib.byteCells lies[x.1]).toArray.toList).run Try.prog (W1.alloc (.cells (Lib.byteCells zeroSec).toArray 173)).drew = .ok () (W1.drew.alloc (.cells (Lib.byteCells lies[x.1]).toArray 173)) := by
    have := store_row (P := Try.prog) (alloc_at W1.drew (.cells (Lib.byteCells zeroSec).toArray 173)) (Lib.byteCells lies[x.1]).toArray hM1 (Lib.byteCells_one _)
    rw [World.setRow_alloc_new] at this
    exact this
  have hld1 : (loadVar 173 ⟨lb, x.1 * 64, none⟩).run Try.prog W1.drew = .ok (.agg (Lib.byteCells lies[x.1]).toArray) W1.drew := load_lie (w := W1.drew) hl1 h64 x.1 hxl
  have hld1' : (loadVar 173 ⟨lb, x.1 * 64, none⟩).run Try.prog (W1.alloc (.cells (Lib.byteCells zeroSec).toArray 173)).drew = .ok (.agg (Lib.byteCells lies[x.1]).toArray) (W1.alloc (.cells (Lib.byteCells zeroSec).toArray 173)).drew := load_lie (alloc_old (w := W1.drew) hl1 _) h64 x.1 hxl
  have hSs : (Lib.byteCells lies[x.1]).toArray.size = 64 := by simp [Lib.byteCells_length, hs]
  have hU2 : Upd (fun i => i = lb) w (W1.drew.alloc (.cells (Lib.byteCells lies[x.1]).toArray 173)) := hU1.drew.alloc _
  have hc2 : (W1.drew.alloc (.cells (Lib.byteCells lies[x.1]).toArray 173)).heap[W1.heap.size]? = some (.cells (Lib.byteCells lies[x.1]).toArray 173) := alloc_at W1.drew _
  have hb2 := alloc_old (w := W1.drew) hb1 (.cells (Lib.byteCells lies[x.1]).toArray 173)
  have hd2 := alloc_old (w := W1.drew) hd1 (.cells (Lib.byteCells lies[x.1]).toArray 173)
  have hl2 := alloc_old (w := W1.drew) hl1 (.cells (Lib.byteCells lies[x.1]).toArray 173)
  obtain ⟨W2, hW2⟩ : ∃ W2, W1.drew.alloc (.cells (Lib.byteCells lies[x.1]).toArray 173) = W2 := ⟨_, rfl⟩
  rw [hW2] at hst2 hU2 hc2 hb2 hd2 hl2
  have hcp : ∀ ty, (Builtin.copy_ #[72, 72] ty #[.slice (some ⟨W1.heap.size, 0, none⟩) k 64, .slice (some ⟨w.heap.size, 1, none⟩) k 64]).run Try.prog W2.drew = .ok (goInt k) (W2.drew.setRow W1.heap.size (Lib.byteCells (x.2.take k ++ (lies[x.1]).drop k)).toArray) :=
    fun ty => keep_copy (w := W2.drew) k hk hx hs ty hb2 hc2
  have hU3' : Upd (fun i => i = W1.heap.size) W2 (W2.drew.setRow W1.heap.size (Lib.byteCells (x.2.take k ++ (lies[x.1]).drop k)).toArray) := ((Upd.refl (fun i => i = W1.heap.size) W2).drew).setRow (fun _ => rfl) _
  have hU3 := hU2.trans hU3' (fun i hi e => by have := hU1.size; omega)
  have hc3 := setRow_heap W2.drew W1.heap.size _ (Lib.byteCells (x.2.take k ++ (lies[x.1]).drop k)).toArray _ _ hc2
  have hb3 := hU3'.at_ hb2 (by omega)
  have hd3 := hU3'.at_ hd2 (by omega)
  have hl3 := hU3'.at_ hl2 (by omega)
  obtain ⟨W3, hW3⟩ : ∃ W3, W2.drew.setRow W1.heap.size (Lib.byteCells (x.2.take k ++ (lies[x.1]).drop k)).toArray = W3 := ⟨_, rfl⟩
  rw [hW3] at hU3 hc3 hb3 hd3 hl3
  simp only [hW3] at hcp
  have hMs : (Lib.byteCells (x.2.take k ++ (lies[x.1]).drop k)).toArray.size = 64 := by simp [Lib.byteCells_length, hx, hs]; omega
  have hld3 : (loadVar 173 ⟨W1.heap.size, 0, none⟩).run Try.prog W3.drew = .ok (.agg (Lib.byteCells (x.2.take k ++ (lies[x.1]).drop k)).toArray) W3.drew := load_blk (w := W3.drew) hMs hc3
  have hst3 : (storeCells ⟨lb, x.1 * 64, none⟩ (Lib.byteCells (x.2.take k ++ (lies[x.1]).drop k)).toArray.toList).run Try.prog W3.drew = .ok () (W3.drew.setRow lb (Lib.byteCells (lies.set x.1 (x.2.take k ++ (lies[x.1]).drop k)).flatten).toArray) :=
    store_sec (w := W3.drew) hl3 h64 x.1 hxl _ (by simp [hx, hs]; omega)
  have hfin : Upd (fun i => i = lb) w (W3.drew.setRow lb (Lib.byteCells (lies.set x.1 (x.2.take k ++ (lies[x.1]).drop k)).flatten).toArray) := (hU3.drew).setRow (fun _ => rfl) _
  have hfin2 := setRow_heap W3.drew lb _ (Lib.byteCells (lies.set x.1 (x.2.take k ++ (lies[x.1]).drop k)).flatten).toArray _ _ hl3
  have HF := Lib.hid hfin
  have HF2 := Lib.hid hfin2
  have HCP := Lib.hid hcp
  have hsl1 : ∀ W, (Instr.sliceAt 173 (.pointer (some ⟨W1.heap.size, 0, none⟩)) none (some (.int .i64 k)) none).run Try.prog W = .ok (.slice (some ⟨W1.heap.size, 0, none⟩) k 64) W := secHigh _ 0 k hk
  have hsl2 : ∀ W, (Instr.sliceAt 173 (.pointer (some ⟨w.heap.size, 1, none⟩)) none (some (.int .i64 k)) none).run Try.prog W = .ok (.slice (some ⟨w.heap.size, 1, none⟩) k 64) W := secHigh _ 1 k hk
  have hx1 : W1.cell? ⟨w.heap.size, 0, none⟩ = some (.int .i64 x.1) := by rw [cell_of hb1]; rfl
  have hx3 : W3.cell? ⟨w.heap.size, 0, none⟩ = some (.int .i64 x.1) := by rw [cell_of hb3]; rfl
  obtain ⟨c0, _, _, _⟩ := two_of hd1
  obtain ⟨e0, _, _, _⟩ := two_of hd3
  have hp0 : (0 : Int) ≤ (x.1 : Int) := Int.natCast_nonneg _
  have hp1 : (x.1 : Int) < (lies.length : Int) := by omega
  have hx1' : (W1.alloc (.cells (Lib.byteCells zeroSec).toArray 173)).cell? ⟨w.heap.size, 0, none⟩ = some (.int .i64 x.1) := by rw [cell_of (alloc_old hb1 _)]; rfl
  obtain ⟨d0, _, _, _⟩ := two_of (alloc_old hd1 (.cells (Lib.byteCells zeroSec).toArray 173))
  generalize (Lib.byteCells lies[x.1]).toArray = S at *
  generalize (Lib.byteCells zeroSec).toArray = Z at *
  generalize (Lib.byteCells (x.2.take k ++ (lies[x.1]).drop k)).toArray = M at *
  generalize (wcell x).toArray = R at *
  generalize hF : (Lib.byteCells (lies.set x.1 (x.2.take k ++ (lies[x.1]).drop k)).flatten).toArray = F at *
  have HFE := Lib.hid hF
  clear hF
  clear hd hlb hU1 hb1 hd1 hl1 hU2 hc2 hb2 hd2 hl2 hU3 hU3' hc3 hb3 hd3 hl3 hfin hfin2 hcp hW2 hW3
  go_enter Try.func102, Try.ntmps102
  go_wp2_with fail
  go_region
  have hcp := HCP.out
  go_wp2_with fail
  go_region
  clear hcp
  go_wp2_with fail
  go_region
  go_wp2
  go_end0
  exact ⟨rfl, HF.out, by rw [secsObj, HFE.out]; exact HF2.out⟩
end Go.Proofs.Ytemdhcocbjcklaa.Print
