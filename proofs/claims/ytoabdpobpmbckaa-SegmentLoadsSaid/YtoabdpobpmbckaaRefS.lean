/- weighlockref13: sixteen sectors by value: Blank, Put. -/
import Derived.Test.YtoabdpobpmbckaaLd
namespace Go.Proofs.Ytoabdpobpmbckaa.Print
open Go.RowKit
attribute [local go_sem] run_loadVar_scalar

def secA (X : Nat → ByteArray) : Array Value := Array.ofFn (n := 16) fun i => .string (X i.val)
theorem secA_size (X : Nat → ByteArray) : (secA X).size = 16 := by simp [secA]
theorem secA_get (X : Nat → ByteArray) (i : Nat) (hi : i < 16) : (secA X)[i]? = some (.string (X i)) := by simp [secA, hi]
theorem secA_ext {X Y : Nat → ByteArray} (h : ∀ k, k < 16 → X k = Y k) : secA X = secA Y := by
  unfold secA
  congr 1
  funext i
  rw [h _ i.isLt]
theorem secA_one (X : Nat → ByteArray) : ∀ v ∈ (secA X).toList, v.oneCell' = true := by
  intro v hv
  obtain ⟨i, hi, rfl⟩ := List.mem_iff_getElem.1 hv
  rw [Array.getElem_toList]
  simp only [secA, Array.getElem_ofFn]
  rfl
theorem secA_set (X : Nat → ByteArray) (j : Nat) (x : ByteArray) : (secA X).setIfInBounds j (.string x) = secA (upd X j x) := by
  apply Array.ext
  · simp [secA_size]
  · intro i h1 h2
    have hi : i < 16 := by simpa [secA_size] using h1
    rw [Array.getElem_setIfInBounds (by rw [secA_size]; exact hi)]
    simp only [secA, Array.getElem_ofFn, upd]
    by_cases e : j = i
    · subst e; simp
    · rw [if_neg e, if_neg (fun h => e h.symm)]
abbrev eB : ByteArray := ⟨#[]⟩
abbrev secT : TypeId := 49
abbrev sObj (X : Nat → ByteArray) : Obj := .cells (secA X) 49
theorem zero_secs (w : World) : (zeroValue 49).run Try.prog w = .ok (.agg (secA fun _ => eB)) w := by kernel_rfl
theorem build_secs (w : World) : (Instr.build 49 #[]).run Try.prog w = .ok (.agg (secA fun _ => eB)) w := run_build w 49 _ _ (by kernel_rfl)
theorem secInfo16 : (Try.prog.info? 49).map (·.size) = some 16 := by kernel_rfl
theorem load_secs {w : World} {g : Nat} {X : Nat → ByteArray} {t : TypeId} {fr : Nat × Nat} (hg : w.heap[g]? = some (.cells (secA X) t fr)) : (loadVar 49 ⟨g, 0, none⟩).run Try.prog w = .ok (.agg (secA X)) w :=
  run_loadVar_row w g t 49 (secA X) fr _ hg Try.underlying49 rfl (by rw [secA_size]; exact secInfo16)
theorem store_all {w : World} {b : Nat} {cs : Array Value} {T : TypeId} (hb : w.heap[b]? = some (.cells cs T (0, 0))) (X : Array Value) (hs : cs.size = X.size) (h1 : ∀ v ∈ X.toList, v.oneCell' = true) :
    (storeCells ⟨b, 0, none⟩ X.toList).run Try.prog w = .ok () (w.setRow b X) := by
  have := run_storeCells_from (P := Try.prog) b T X.toList 0 cs w hb (by simp; omega) h1
  rw [this]
  simp
theorem store_new (w : World) (g : Nat) (hg : g = w.heap.size) (old new : Array Value) (T : TypeId) (h : old.size = new.size) (h1 : ∀ v ∈ new.toList, v.oneCell' = true) : (storeCells ⟨g, 0, none⟩ new.toList).run Try.prog (w.alloc (.cells old T)) = .ok () (w.alloc (.cells new T)) := by
  subst hg
  have := store_all (alloc_at w (.cells old T)) new h h1
  rwa [World.setRow_alloc_new] at this
/-- A block's cell, that stays. -/
theorem sec_cell {w : World} {g : Nat} {X : Nat → ByteArray} {t : TypeId} (hg : w.heap[g]? = some (.cells (secA X) t)) (k : Nat) (hk : k < 16) : w.cell? ⟨g, k, none⟩ = some (.string (X k)) := by rw [cell_of hg, secA_get _ _ hk]
theorem row_set {w : World} {b : Nat} {cs : Array Value} {T : TypeId} {fr : Nat × Nat} (hb : w.heap[b]? = some (.cells cs T fr)) (X : Array Value) : (w.setRow b X).heap[b]? = some (.cells X T fr) := by
  simp [World.setRow, Array.getElem?_modify, hb]
def zeroB : ByteArray := bs zeroSec
set_option maxRecDepth 100000 in
set_option maxHeartbeats 800000 in
attribute [-go_sem] Instr.build Instr.fill loadVar in
theorem blank_any (w : World) : Calls Try.prog 27 #[] w fun x w' => x = .returned (.agg (secA fun _ => zeroB)) ∧ Below w.heap.size w w' := by
  have hz := zero_secs
  have hb := build_secs
  have hsz := secA_size (fun _ => eB)
  have hst := store_new (w.alloc (Obj.cells (secA fun _ => eB) 49)) (w.heap.size + 1) (by simp) (secA fun _ => eB) (secA fun _ => eB) 49 rfl (secA_one _)
  have hB1 := alloc_at' (w.alloc (Obj.cells (secA fun _ => eB) 49)) (Obj.cells (secA fun _ => eB) 49) (w.heap.size + 1) (by simp)
  have hB0 := alloc_old (alloc_at w (Obj.cells (secA fun _ => eB) 49)) (Obj.cells (secA fun _ => eB) 49)
  have hBl : Below w.heap.size w ((w.alloc (Obj.cells (secA fun _ => eB) 49)).alloc (Obj.cells (secA fun _ => eB) 49)) := ((Below.refl _ _).alloc (Nat.le_refl _) _).alloc (by simp) _
  have HB1 := Lib.hid hB1
  have HB0 := Lib.hid hB0
  have HBL := Lib.hid hBl
  clear hB1 hB0 hBl
  obtain ⟨Z, hZ⟩ : ∃ Z, secA (fun _ => eB) = Z := ⟨_, rfl⟩
  have HZ := Lib.hid hZ
  rw [hZ] at hz hb hsz hst HB1 HB0 HBL
  clear hZ
  go_enter Try.func27, Try.ntmps27
  go_wp2
  go_loopw [4] (fun i wr => ∃ j : Nat, j ≤ 16 ∧ i = .int .i64 j ∧ wr.heap[w.heap.size]? = some (.cells Z 49) ∧ wr.heap[w.heap.size + 1]? = some (sObj (upto j eB fun _ => zeroB)) ∧ Below w.heap.size w wr) (fun i _ => 16 - (intOf i).toNat)
  case atStart => exact ⟨0, Nat.zero_le _, rfl, HB0.out, by rw [upto_zero, sObj, HZ.out]; exact HB1.out, HBL.out⟩
  case round =>
    obtain ⟨j, hj, rfl, hb0, hb1, hB⟩ := hrel
    by_cases hlt : j < 16
    · have hmk := run_make_row' (P := Try.prog) 136 5 (.int .u8 0) 1 Try.underlying136 info_u8 rfl .i64 .i64 64 (by omega) (by omega) wr
      have hcv := run_convert_bytes_arg (P := Try.prog) (wr.alloc (.cells (madeCells #[.int .u8 0] 64) 5)) 136 5 Try.underlying136 Try.underlying5 wr.heap.size 0 64 64 (List.replicate 64 0) (by simp) (by
        intro i hi
        rw [World.cell?_alloc_at _ _ _ _ rfl, Nat.zero_add, show (List.replicate 64 (0 : Int)).getD i 0 = 0 by rw [List.getD_eq_getElem?_getD, List.getElem?_replicate]; split <;> rfl]
        simp [madeCells, hi, Nat.mod_one]) 9 Try.underlying9
      have hzz : strOfNums (List.replicate 64 0) = zeroB := by unfold strOfNums zeroB bs zeroSec; simp
      rw [hzz] at hcv
      rw [show ((64 : Nat) : Int) = 64 from rfl] at hmk
      clear hzz
      generalize zeroB = zb at hcv hb1 ⊢
      have hc1 := sec_cell (w := wr.alloc (.cells (madeCells #[.int .u8 0] 64) 5)) (alloc_old hb1 _) j hlt
      have hfz := fun o => free_of (alloc_old hb1 (.cells (madeCells #[.int .u8 0] 64) 5)) o
      have hBn := hB.alloc hB.size (.cells (madeCells #[.int .u8 0] 64) 5)
      go_wp2
      go_roundw
      case rel =>
        have hU : Upd (fun i => i = w.heap.size + 1) wr ((wr.alloc (.cells (madeCells #[.int .u8 0] 64) 5)).setCell ⟨w.heap.size + 1, j, none⟩ (.string zb)) := ((Upd.refl (fun i => i = w.heap.size + 1) wr).alloc _).setCell (p := ⟨w.heap.size + 1, j, none⟩) (fun _ => rfl) _
        refine ⟨j + 1, hlt, by simp, hU.at_ hb0 (by omega), ?_, hB.trans (hU.below hB.size (fun i hi e => by omega))⟩
        rw [cells_set _ _ _ _ _ _ (alloc_old hb1 _), secA_set, upto_some j eB fun _ => zb]
      case measure => simp [intOf]; omega
    · obtain rfl : j = 16 := by omega
      have e16 : secA (upto 16 eB fun _ => zeroB) = secA fun _ => zeroB := secA_ext fun k hk => if_pos hk
      rw [sObj, e16] at hb1
      have hl := load_secs hb1
      have hst2 := store_all hb0 (secA fun _ => zeroB) (by rw [hsz, secA_size]) (secA_one _)
      have hl2 := load_secs (row_set hb0 (secA fun _ => zeroB))
      have hBn := below_setRow hB (Nat.le_refl _) (secA fun _ => zeroB)
      clear e16
      obtain ⟨A, hA⟩ : ∃ A, secA (fun _ => zeroB) = A := ⟨_, rfl⟩
      have hsp := secA_size (fun _ => zeroB)
      rw [hA] at hb1 hl hsp hst2 hl2 hBn
      have HA := Lib.hid hA
      clear hA
      go_wp2
      exact bodyPost_ret (v := .agg A) (by simp [results, Try.results27, asAddr, hl2]) rfl ⟨by rw [HA.out], hBn⟩
/-- Sectors with pieces from a place on. -/
def putS (X : Nat → ByteArray) (st c at_ : Nat) (L : List (List UInt8)) : Nat → ByteArray := fun k => if h : at_ ≤ k ∧ k < at_ + L.length then bs (sealL st c (L[k - at_]'(by omega))) else X k
theorem putS_none (X : Nat → ByteArray) (st c at_ : Nat) (L : List (List UInt8)) : putS X st c at_ (L.take 0) = X := by
  funext k
  rw [putS, dif_neg (by simp)]
theorem putS_more (X : Nat → ByteArray) (st c at_ : Nat) (L : List (List UInt8)) (j : Nat) (hj : j < L.length) : upd (putS X st c at_ (L.take j)) (at_ + j) (bs (sealL st c L[j])) = putS X st c at_ (L.take (j + 1)) := by
  funext k
  simp only [upd, putS, List.length_take]
  by_cases h : k = at_ + j
  · subst h
    rw [if_pos rfl, dif_pos (by omega)]
    simp
  · rw [if_neg h]
    by_cases h2 : at_ ≤ k ∧ k < at_ + min j L.length
    · rw [dif_pos h2, dif_pos (by omega)]
      simp
    · rw [dif_neg h2, dif_neg (by omega)]
set_option maxRecDepth 100000 in
set_option maxHeartbeats 800000 in
attribute [-go_sem] Instr.build Instr.fill loadVar in
theorem sput_any (X : Nat → ByteArray) (st c at_ : Nat) (L : List (List UInt8)) (h1 : st < 4294967296) (h2 : c < 65536) (h52 : ∀ p ∈ L, p.length = 52) (hL : at_ + L.length ≤ 16) {w : World} (B : Nat) (pv : Value) (hp : w.ownsRow B 9 1 pv L.length (L.map fun l => .string (bs l))) (i j : Int) (hi : i = at_) (hj : j = c) :
    Calls Try.prog 72 #[.agg (secA X), .int .u32 st, .int .i64 i, .int .i64 j, pv] w fun x w' => x = .returned (.agg (secA (putS X st c at_ L))) ∧ Below w.heap.size w w' := by
  subst hi hj
  have hz := zero_secs
  have hvl : ∃ ao ac, pv = .slice ao L.length ac := by
    rcases Nat.eq_zero_or_pos L.length with h0 | h0
    · rcases hp.2 with ⟨rfl, _⟩ | ⟨g, cap, cur, rfl, _⟩
      · exact ⟨none, 0, by rw [h0]⟩
      · exact ⟨_, _, rfl⟩
    · obtain ⟨g, cap, cur, hg1, _⟩ := row_of hp h0
      exact ⟨_, _, hg1⟩
  obtain ⟨ao, ac, rfl⟩ := hvl
  have hB0 := alloc_old (alloc_at w (.cells (secA X) 49)) (.cells (secA fun _ => eB) 49)
  have hB1 := alloc_at' (w.alloc (.cells (secA X) 49)) (.cells (secA fun _ => eB) 49) (w.heap.size + 1) (by simp)
  have hBl : Below w.heap.size w ((w.alloc (.cells (secA X) 49)).alloc (.cells (secA fun _ => eB) 49)) := ((Below.refl _ _).alloc (Nat.le_refl _) _).alloc (by simp) _
  have HB1 := Lib.hid hB1
  have HB0 := Lib.hid hB0
  have HBL := Lib.hid hBl
  have HP := Lib.hid hp
  have hsz := secA_size (fun _ => eB)
  have hsx := secA_size X
  obtain ⟨Z, hZ⟩ : ∃ Z, secA (fun _ => eB) = Z := ⟨_, rfl⟩
  obtain ⟨A0, hA0⟩ : ∃ A0, secA X = A0 := ⟨_, rfl⟩
  rw [hZ] at hz hsz HB1 HB0 HBL
  rw [hA0] at HB1 HB0 HBL hsx ⊢
  have HA0 := Lib.hid hA0
  clear hZ hA0 hB1 hB0 hBl hp
  go_enter Try.func72, Try.ntmps72
  go_wp2
  go_loopw [15] (fun i wr => ∃ k : Nat, k ≤ L.length ∧ i = .int .i64 k ∧ wr.heap[w.heap.size]? = some (sObj (putS X st c at_ (L.take k))) ∧ wr.heap[w.heap.size + 1]? = some (.cells Z 49) ∧ Below w.heap.size w wr) (fun i _ => L.length - (intOf i).toNat)
  case atStart => exact ⟨0, Nat.zero_le _, rfl, by rw [putS_none, sObj, HA0.out]; exact HB0.out, HB1.out, HBL.out⟩
  case round =>
    obtain ⟨k, hk, rfl, hb0, hb1, hB⟩ := hrel
    by_cases hlt : k < L.length
    · have hp1 := ownsRow_below HP.out hB
      obtain ⟨g, cap, cur, hg1, _, hg2, _, hg3⟩ := row_of hp1 (by omega)
      have hkk := hg3 k hlt
      have hcell : wr.cell? ⟨g, k, none⟩ = some (.string (bs L[k])) := by rw [cell_of hg2, hkk]; simp [hlt]
      obtain ⟨rfl⟩ : ao = some ⟨g, 0, none⟩ := by cases hg1; rfl
      have p52 := h52 L[k] (List.getElem_mem hlt)
      have e1 : IntKind.i64.wrap ((at_ : Int) + (k : Int)) = ((at_ + k : Nat) : Int) := by rw [IntKind.wrap_i64]; omega
      have hSe := rseal_any st c (bs L[k]) h1 h2 (by rw [bs_size, p52]; omega) wr
      rw [bs_list] at hSe
      have HS := Lib.hid hSe
      have hin : ((at_ + k : Nat) : Int) < 16 := by omega
      have HSl := Lib.hid (rfl : bs (sealL st c L[k]) = bs (sealL st c L[k]))
      clear hSe hp1 hg1 hg2 hg3 hkk
      generalize hsv : bs (sealL st c L[k]) = sv at HS HSl
      have HSV := Lib.hid hsv
      clear hsv
      go_wp2_with fail
      refine HS.out.mono ?_
      rintro x w1 ⟨rfl, hb⟩
      have hb01 := later_of hb0 hb
      have hc1 := sec_cell hb01 (at_ + k) (by omega)
      have hfz := fun o => free_of hb01 o
      go_wp2
      go_roundw
      case rel =>
        have hU : Upd (fun i => i = w.heap.size) wr (w1.setCell ⟨w.heap.size, at_ + k, none⟩ (.string sv)) := ((Upd.of_below (S := fun i => i = w.heap.size) hb).setCell (p := ⟨w.heap.size, at_ + k, none⟩) (fun _ => rfl) _)
        refine ⟨k + 1, hlt, by simp, ?_, hU.at_ hb1 (by omega), hB.trans (hU.below hB.size (fun i hi e => by omega))⟩
        rw [cells_set _ _ _ _ _ _ hb01, secA_set, ← HSV.out, putS_more]
      case measure => simp [intOf]; omega
    · obtain rfl : k = L.length := by omega
      rw [List.take_length, sObj] at hb0
      have hl := load_secs hb0
      have hsp := secA_size (putS X st c at_ L)
      have hst2 := store_all hb1 (secA (putS X st c at_ L)) (by rw [hsz, hsp]) (secA_one _)
      have hl2 := load_secs (row_set hb1 (secA (putS X st c at_ L)))
      have hBn := below_setRow hB (show w.heap.size ≤ w.heap.size + 1 by omega) (secA (putS X st c at_ L))
      obtain ⟨A, hA⟩ : ∃ A, secA (putS X st c at_ L) = A := ⟨_, rfl⟩
      rw [hA] at hb0 hl hsp hst2 hl2 hBn
      have HA := Lib.hid hA
      clear hA
      go_wp2
      exact bodyPost_ret (v := .agg A) (by simp [results, Try.results72, asAddr, hl2]) rfl ⟨by rw [HA.out], hBn⟩
end Go.Proofs.Ytoabdpobpmbckaa.Print
