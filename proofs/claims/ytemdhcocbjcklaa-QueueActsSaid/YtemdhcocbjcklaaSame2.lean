/- weighlockref34.Same of a request without pairs and itself; the laws' same of an item and itself. (Written by wip/tools/gen_same.py.) -/
import Derived.Test.YtemdhcocbjcklaaQueue5
namespace Go.Proofs.Ytemdhcocbjcklaa.Print
open Go.RowKit
set_option maxRecDepth 100000 in
set_option maxHeartbeats 1600000 in
theorem rsame_same (id k : Int) (w : World) : Calls Try.prog 55 #[.agg (reqV id k), .agg (reqV id k)] w fun x w' => x = .returned (.bool true) ∧ Below w.heap.size w w' := by
  have g1 := alloc_old (alloc_at w (.cells (reqV id k) 37)) (.cells (reqV id k) 37)
  have g2 := alloc_at' (w.alloc (.cells (reqV id k) 37)) (.cells (reqV id k) 37) (w.heap.size + 1) (by simp)
  have hB : Below w.heap.size w ((w.alloc (.cells (reqV id k) 37)).alloc (.cells (reqV id k) 37)) := ((Below.refl _ _).alloc (Nat.le_refl _) _).alloc (by simp) _
  have hr : (reqV id k)[0]? = some (.int .i64 id) ∧ (reqV id k)[1]? = some (.int .i64 k) ∧ (reqV id k)[2]? = some (.int .i64 0) ∧ (reqV id k)[3]? = some (.string ⟨#[]⟩) ∧ (reqV id k)[4]? = some (.int .i64 0) ∧ (reqV id k)[5]? = some (.string ⟨#[]⟩) ∧ (reqV id k)[6]? = some (.int .i64 0) ∧ (reqV id k)[7]? = some (.string ⟨#[]⟩) ∧ (reqV id k)[8]? = some (.int .i64 0) ∧ (reqV id k)[9]? = some (.int .i64 0) ∧ (reqV id k)[10]? = some (.int .i64 0) ∧ (reqV id k)[11]? = some (.bool false) ∧ (reqV id k)[12]? = some (.string ⟨#[]⟩) ∧ (reqV id k)[13]? = some (.string ⟨#[]⟩) ∧ (reqV id k)[14]? = some (.int .i64 0) ∧ (reqV id k)[15]? = some (.int .i64 0) ∧ (reqV id k)[16]? = some (.int .i64 0) ∧ (reqV id k)[17]? = some (.int .i64 0) ∧ (reqV id k)[18]? = some (.int .i64 0) ∧ (reqV id k)[19]? = some (.slice none 0 0) := ⟨rfl, rfl, rfl, rfl, rfl, rfl, rfl, rfl, rfl, rfl, rfl, rfl, rfl, rfl, rfl, rfl, rfl, rfl, rfl, rfl⟩
  generalize reqV id k = R at g1 g2 hB hr ⊢
  obtain ⟨r0, r1, r2, r3, r4, r5, r6, r7, r8, r9, r10, r11, r12, r13, r14, r15, r16, r17, r18, r19⟩ := hr
  go_enter Try.func55, Try.ntmps55
  go_wp2_with fail
  generalize hW : (w.alloc (.cells R 37)).alloc (.cells R 37) = W at g1 g2 hB ⊢
  clear hW
  have a0 := (cell_of g1 0).trans r0
  have b0 := (cell_of g2 0).trans r0
  have a1 := (cell_of g1 1).trans r1
  have b1 := (cell_of g2 1).trans r1
  have a2 := (cell_of g1 2).trans r2
  have b2 := (cell_of g2 2).trans r2
  have a3 := (cell_of g1 3).trans r3
  have b3 := (cell_of g2 3).trans r3
  have a4 := (cell_of g1 4).trans r4
  have b4 := (cell_of g2 4).trans r4
  have a5 := (cell_of g1 5).trans r5
  have b5 := (cell_of g2 5).trans r5
  have a6 := (cell_of g1 6).trans r6
  have b6 := (cell_of g2 6).trans r6
  have a7 := (cell_of g1 7).trans r7
  have b7 := (cell_of g2 7).trans r7
  have a8 := (cell_of g1 8).trans r8
  have b8 := (cell_of g2 8).trans r8
  have a9 := (cell_of g1 9).trans r9
  have b9 := (cell_of g2 9).trans r9
  have a10 := (cell_of g1 10).trans r10
  have b10 := (cell_of g2 10).trans r10
  have a11 := (cell_of g1 11).trans r11
  have b11 := (cell_of g2 11).trans r11
  have a12 := (cell_of g1 12).trans r12
  have b12 := (cell_of g2 12).trans r12
  have a13 := (cell_of g1 13).trans r13
  have b13 := (cell_of g2 13).trans r13
  have a14 := (cell_of g1 14).trans r14
  have b14 := (cell_of g2 14).trans r14
  have a15 := (cell_of g1 15).trans r15
  have b15 := (cell_of g2 15).trans r15
  have a16 := (cell_of g1 16).trans r16
  have b16 := (cell_of g2 16).trans r16
  have a17 := (cell_of g1 17).trans r17
  have b17 := (cell_of g2 17).trans r17
  have a18 := (cell_of g1 18).trans r18
  have b18 := (cell_of g2 18).trans r18
  have a19 := (cell_of g1 19).trans r19
  have b19 := (cell_of g2 19).trans r19
  clear g1 g2 r0 r1 r2 r3 r4 r5 r6 r7 r8 r9 r10 r11 r12 r13 r14 r15 r16 r17 r18 r19
  go_loopw [17] (fun i wr => i = .int .i64 0 ∧ W = wr) (fun _ _ => 0)
  case atStart => exact ⟨rfl, rfl⟩
  case round =>
    obtain ⟨rfl, rfl⟩ := hrel
    go_wp2
    go_ret
    exact ⟨rfl, hB⟩
theorem load_req {w : World} {g : Nat} {s id k b t : Int} (hg : w.heap[g]? = some (.cells (itemV s id k b t) 39)) : (loadVar 37 ⟨g, 1, none⟩).run Try.prog w = .ok (.agg (reqV id k)) w :=
  run_loadVar_mid w g 1 37 (reqV id k).toList _ (fun j v hv => by
    rw [cell_of hg, ← Array.getElem?_toList]
    have e : (itemV s id k b t).toList = .int .i64 s :: ((reqV id k).toList ++ [.int .i64 b, .int .i64 t]) := rfl
    have hj : j < (reqV id k).toList.length := (List.getElem?_eq_some_iff.1 hv).1
    rw [e, Nat.add_comm 1 j, List.getElem?_cons_succ, List.getElem?_append_left hj]
    exact hv) Try.underlying37 rfl (by kernel_rfl)
attribute [local go_sem] run_loadVar_scalar
set_option maxRecDepth 100000 in
set_option maxHeartbeats 800000 in
attribute [-go_sem] Instr.build Instr.fill loadVar in
theorem same_same (s id k b t : Int) (w : World) : Calls Try.prog 21 #[.agg (itemV s id k b t), .agg (itemV s id k b t)] w fun x w' => x = .returned (.bool true) ∧ Below w.heap.size w w' := by
  have g1 := alloc_old (alloc_at w (.cells (itemV s id k b t) 39)) (.cells (itemV s id k b t) 39)
  have g2 := alloc_at' (w.alloc (.cells (itemV s id k b t) 39)) (.cells (itemV s id k b t) 39) (w.heap.size + 1) (by simp)
  have hB : Below w.heap.size w ((w.alloc (.cells (itemV s id k b t) 39)).alloc (.cells (itemV s id k b t) 39)) := ((Below.refl _ _).alloc (Nat.le_refl _) _).alloc (by simp) _
  have l1 := load_req g1
  have l2 := load_req g2
  have h0 : (itemV s id k b t)[0]? = some (.int .i64 s) := rfl
  have h21 : (itemV s id k b t)[21]? = some (.int .i64 b) := rfl
  have h22 : (itemV s id k b t)[22]? = some (.int .i64 t) := rfl
  have hS := fun w => rsame_same id k w
  generalize itemV s id k b t = X at g1 g2 hB l1 l2 h0 h21 h22 ⊢
  generalize reqV id k = R at l1 l2 hS
  have a0 := (cell_of g1 0).trans h0
  have a21 := (cell_of g1 21).trans h21
  have a22 := (cell_of g1 22).trans h22
  have b0 := (cell_of g2 0).trans h0
  have b21 := (cell_of g2 21).trans h21
  have b22 := (cell_of g2 22).trans h22
  have HS := Lib.hid hS
  clear hS g1 g2 h0 h21 h22
  go_enter Try.func21, Try.ntmps21
  go_wp2_with fail
  refine (HS.out _).mono ?_
  rintro y w1 ⟨rfl, hb1⟩
  go_wp2
  go_ret
  exact ⟨rfl, below_chain hB hb1⟩
end Go.Proofs.Ytemdhcocbjcklaa.Print
