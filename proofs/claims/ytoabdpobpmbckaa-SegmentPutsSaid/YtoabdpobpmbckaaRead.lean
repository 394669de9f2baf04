/- weighlocklaw13.read: the sectors of a view's segment, as they are read. -/
import Derived.Test.YtoabdpobpmbckaaRefM
namespace Go.Proofs.Ytoabdpobpmbckaa.Print
open Go.RowKit
attribute [local go_sem] run_loadVar_scalar

def rdA (X : Nat → ByteArray) (b : Bool) : Array Value := Array.ofFn (n := 17) fun i => if i.val < 16 then .string (X i.val) else .bool b
theorem rdA_size (X : Nat → ByteArray) (b : Bool) : (rdA X b).size = 17 := by simp [rdA]
theorem rdA_get (X : Nat → ByteArray) (b : Bool) (i : Nat) (hi : i < 17) : (rdA X b)[i]? = some (if i < 16 then .string (X i) else .bool b) := by simp [rdA, hi]
theorem rdA_ext {X Y : Nat → ByteArray} (b : Bool) (h : ∀ k, k < 16 → X k = Y k) : rdA X b = rdA Y b := by
  unfold rdA
  congr 1
  funext i
  by_cases hi : i.val < 16
  · rw [if_pos hi, if_pos hi, h _ hi]
  · rw [if_neg hi, if_neg hi]
theorem rdA_one (X : Nat → ByteArray) (b : Bool) : ∀ v ∈ (rdA X b).toList, v.oneCell' = true := by
  intro v hv
  obtain ⟨i, hi, rfl⟩ := List.mem_iff_getElem.1 hv
  rw [Array.getElem_toList]
  simp only [rdA, Array.getElem_ofFn]
  split <;> rfl
theorem rdA_set (X : Nat → ByteArray) (b : Bool) (j : Nat) (hj : j < 16) (x : ByteArray) : (rdA X b).setIfInBounds j (.string x) = rdA (upd X j x) b := by
  apply Array.ext
  · simp [rdA_size]
  · intro i h1 h2
    have hi : i < 17 := by simpa [rdA_size] using h1
    rw [Array.getElem_setIfInBounds (by rw [rdA_size]; exact hi)]
    simp only [rdA, Array.getElem_ofFn, upd]
    by_cases e : j = i
    · subst e; simp [hj]
    · rw [if_neg e]
      by_cases h16 : i < 16
      · rw [if_pos h16, if_pos h16, if_neg (fun h => e h.symm)]
      · rw [if_neg h16, if_neg h16]
theorem rdA_setB (X : Nat → ByteArray) (b c : Bool) : (rdA X b).setIfInBounds 16 (.bool c) = rdA X c := by
  apply Array.ext
  · simp [rdA_size]
  · intro i h1 h2
    have hi : i < 17 := by simpa [rdA_size] using h1
    rw [Array.getElem_setIfInBounds (by rw [rdA_size]; exact hi)]
    simp only [rdA, Array.getElem_ofFn]
    by_cases e : 16 = i
    · subst e; simp
    · rw [if_neg e, if_pos (by omega), if_pos (by omega)]
theorem zero_rd (w : World) : (zeroValue 79).run Try.prog w = .ok (.agg (rdA (fun _ => eB) false)) w := by kernel_rfl
theorem build_rd (w : World) : (Instr.build 79 #[(1, .bool true)]).run Try.prog w = .ok (.agg (rdA (fun _ => eB) true)) w := run_build w 79 _ _ (by kernel_rfl)
theorem rdInfo : (Try.prog.info? 79).map (·.size) = some 17 := by kernel_rfl
theorem load_rd {w : World} {g : Nat} {X : Nat → ByteArray} {b : Bool} {t : TypeId} {fr : Nat × Nat} (hg : w.heap[g]? = some (.cells (rdA X b) t fr)) : (loadVar 79 ⟨g, 0, none⟩).run Try.prog w = .ok (.agg (rdA X b)) w :=
  run_loadVar_row w g t 79 (rdA X b) fr _ hg Try.underlying79 rfl (by rw [rdA_size]; exact rdInfo)
theorem rd_cell {w : World} {g : Nat} {X : Nat → ByteArray} {b : Bool} {t : TypeId} (hg : w.heap[g]? = some (.cells (rdA X b) t)) (k : Nat) (hk : k < 16) : w.cell? ⟨g, k, none⟩ = some (.string (X k)) := by rw [cell_of hg, rdA_get _ _ _ (by omega), if_pos hk]
theorem rd_ok {w : World} {g : Nat} {X : Nat → ByteArray} {b : Bool} {t : TypeId} (hg : w.heap[g]? = some (.cells (rdA X b) t)) : w.cell? ⟨g, 16, none⟩ = some (.bool b) := by rw [cell_of hg, rdA_get _ _ _ (by omega), if_neg (by omega)]
theorem rd_secs {w : World} {g : Nat} {X : Nat → ByteArray} {b : Bool} {t : TypeId} (hg : w.heap[g]? = some (.cells (rdA X b) t)) : (loadVar 49 ⟨g, 0, none⟩).run Try.prog w = .ok (.agg (secA X)) w := by
  have := run_loadVar_cells (P := Try.prog) w ⟨g, 0, none⟩ 49 (secA X).toList _ (fun j v hv => ?_) Try.underlying49 rfl (by rw [Array.length_toList, secA_size]; exact secInfo16)
  · simpa using this
  · rw [Array.getElem?_toList] at hv
    have hj : j < 16 := by have := (Array.getElem?_eq_some_iff.1 hv).1; rwa [secA_size] at this
    rw [secA_get _ _ hj] at hv
    cases hv
    rw [Addr.add_lit, Nat.zero_add, rd_cell hg j hj]
set_option maxRecDepth 100000 in
set_option maxHeartbeats 1600000 in
attribute [-go_sem] Instr.build Instr.fill loadVar in
theorem lread_any {w : World} {v : Nat} {lies : List (List UInt8)} {waits : List (Nat × List UInt8)} {f N : Nat} {fu : Int} {F : Foot} (V : ViewIs v lies waits f N fu false w F) (n : Nat) (hN : N ≤ 8192) (hn : 2 + 16 * n + 16 ≤ N) (hw : waits.length ≤ 1000000000) (i : Int) (hi : i = n) (X : Nat → ByteArray) (hX : ∀ k, k < 16 → X k = bs (secX lies waits f (2 + 16 * n + k))) :
    Calls Try.prog 43 #[.pointer (some ⟨v, 0, none⟩), .int .i64 i] w fun x w' => x = .returned (.agg (rdA X true)) ∧ Below w.heap.size w w' := by
  subst hi
  have hz := zero_rd
  have hb := build_rd
  have hsz := rdA_size (fun _ => eB) false
  have hsb := rdA_size (fun _ => eB) true
  have hob := rdA_one (fun _ => eB) true
  obtain ⟨Z, hZ⟩ : ∃ Z, rdA (fun _ => eB) false = Z := ⟨_, rfl⟩
  obtain ⟨T, hT⟩ : ∃ T, rdA (fun _ => eB) true = T := ⟨_, rfl⟩
  rw [hZ] at hz hsz
  rw [hT] at hb hsb hob
  have hz2 : ∀ W : World, (zeroValue 79).run Try.prog W = .ok (.agg Z) W := hz
  have hst := store_new (w.alloc (.cells Z 79)) (w.heap.size + 1) (by simp) Z T 79 (by rw [hsz, hsb]) hob
  have HB1 := Lib.hid (alloc_at' (w.alloc (.cells Z 79)) (.cells T 79) (w.heap.size + 1) (by simp))
  have HB0 := Lib.hid (alloc_old (alloc_at w (.cells Z 79)) (.cells T 79))
  have HBL := Lib.hid (((Below.refl w.heap.size w).alloc (Nat.le_refl _) (.cells Z 79)).alloc (by simp) (.cells T 79))
  have HT := Lib.hid hT
  have HV := Lib.hid V
  have HX := Lib.hid hX
  clear hZ hT hob hz2 V hX
  go_enter Try.func43, Try.ntmps43
  go_wp2
  go_loopw [10] (fun i wr => ∃ j : Nat, j ≤ 16 ∧ i = .int .i64 j ∧ wr.heap[w.heap.size]? = some (.cells Z 79) ∧ wr.heap[w.heap.size + 1]? = some (.cells (rdA (upto j eB X) true) 79) ∧ Below w.heap.size w wr) (fun i _ => 16 - (intOf i).toNat)
  case atStart => exact ⟨0, Nat.zero_le _, rfl, HB0.out, by rw [upto_zero, HT.out]; exact HB1.out, HBL.out⟩
  case round =>
    obtain ⟨j, hj, rfl, hb0, hb1, hB⟩ := hrel
    by_cases hlt : j < 16
    · have KR := Lib.hid (fun i hi => vread_is (ViewIs.stays.below HV.out hB) (2 + 16 * n + j) (by omega) hw i hi)
      have e1 : IntKind.i64.wrap (16 * (n : Int)) = 16 * (n : Int) := by rw [IntKind.wrap_i64]; omega
      have e2 : IntKind.i64.wrap (2 + 16 * (n : Int)) = 2 + 16 * (n : Int) := by rw [IntKind.wrap_i64]; omega
      have e3 : IntKind.i64.wrap (2 + 16 * (n : Int) + (j : Int)) = 2 + 16 * (n : Int) + (j : Int) := by rw [IntKind.wrap_i64]; omega
      have HXj := Lib.hid (HX.out j hlt)
      go_wp2_with fail
      refine (KR.out _ (by omega)).mono ?_
      rintro x w1 ⟨rfl, hb⟩
      rw [← HXj.out]
      have p0 := later_of hb0 hb
      have p1 := later_of hb1 hb
      have c1 := rd_cell p1 j hlt
      have c2 := rd_ok p1
      have hfz := fun o => free_of p1 o
      generalize hxv : X j = xv
      have HXV := Lib.hid hxv
      clear hxv
      go_wp2
      go_roundw
      case rel =>
        have hU : Upd (fun i => i = w.heap.size + 1) wr ((w1.setCell ⟨w.heap.size + 1, j, none⟩ (.string xv)).setCell ⟨w.heap.size + 1, 16, none⟩ (.bool true)) := ((Upd.of_below (S := fun i => i = w.heap.size + 1) hb).setCell (p := ⟨w.heap.size + 1, j, none⟩) (fun _ => rfl) _).setCell (p := ⟨w.heap.size + 1, 16, none⟩) (fun _ => rfl) _
        refine ⟨j + 1, hlt, by simp, hU.at_ hb0 (by omega), ?_, hB.trans (hU.below hB.size (fun i hi e => by omega))⟩
        have s1 : (w1.setCell ⟨w.heap.size + 1, j, none⟩ (.string xv)).heap[w.heap.size + 1]? = some (.cells (rdA (upd (upto j eB X) j xv) true) 79) := by
          rw [cells_set _ _ _ _ _ _ p1, rdA_set _ _ _ hlt]
        rw [cells_set _ _ _ _ _ _ s1, rdA_setB, ← HXV.out, upto_some]
      case measure => simp [intOf]; omega
    · obtain rfl : j = 16 := by omega
      rw [show rdA (upto 16 eB X) true = rdA X true from rdA_ext true fun k hk => if_pos hk] at hb1
      have hl := load_rd hb1
      have hsp := rdA_size X true
      have hst2 := store_all hb0 (rdA X true) (by rw [hsz, hsp]) (rdA_one _ _)
      have hl2 := load_rd (row_set hb0 (rdA X true))
      have hBn := below_setRow hB (Nat.le_refl _) (rdA X true)
      obtain ⟨A, hA⟩ : ∃ A, rdA X true = A := ⟨_, rfl⟩
      rw [hA] at hb1 hl hsp hst2 hl2 hBn
      have HA := Lib.hid hA
      clear hA
      go_wp2
      exact bodyPost_ret (v := .agg A) (by simp [results, Try.results43, asAddr, hl2]) rfl ⟨by rw [HA.out], hBn⟩
theorem secA_lit (X : Nat → ByteArray) : secA X = #[.string (X 0), .string (X 1), .string (X 2), .string (X 3), .string (X 4), .string (X 5), .string (X 6), .string (X 7), .string (X 8), .string (X 9), .string (X 10), .string (X 11), .string (X 12), .string (X 13), .string (X 14), .string (X 15)] := rfl
set_option maxRecDepth 100000 in
set_option maxHeartbeats 1600000 in
theorem eq16 (X : Nat → ByteArray) (w : World) : (Op.equalIn 9999 47 (.agg (secA X)) (.agg (secA X))).run Try.prog w = .ok true w := by
  rw [secA_lit]
  rw [show (9999 : Nat) = 9998 + 1 from rfl, Op.equalIn]
  simp only [Sem.run_bind, run_underlying Try.underlying47, Result.andThen_ok]
  simp only [Std.Legacy.Range.forIn_eq_forIn_range', Std.Legacy.Range.size, Nat.sub_zero, Nat.add_sub_cancel, Nat.div_one, List.range'_succ, List.range'_zero, List.forIn_cons, List.forIn_nil]
  go_simp
/-- Sectors are like themselves. -/
theorem eq_secs (X : Nat → ByteArray) (w : World) : (binOp .neq 49 (.agg (secA X)) (.agg (secA X))).run Try.prog w = .ok (.bool false) w := by
  rw [run_neq_struct]
  have h := eq16 X w
  have hz := secA_size X
  have hx : (secA X).extract 0 16 = secA X := by rw [← hz]; exact Array.extract_size
  generalize secA X = S at h hx ⊢
  go_simp
end Go.Proofs.Ytoabdpobpmbckaa.Print
