/- The reference of layer 10: Encode, Decode, Pick. -/
import Derived.Test.YtemdhcocbjcklaaOpenS
import Derived.Test.YtemdhcocbjcklaaRpieces
import Derived.Laws.Rows
namespace Go.Proofs.Ytemdhcocbjcklaa.Print
open Go.RowKit

theorem conv_zeros (n : Nat) (w : World) : (convert 72 9 (.slice (some ⟨w.heap.size, 0, none⟩) n n)).run Try.prog (w.alloc (.cells (madeCells #[.int .u8 0] n) 5)) = .ok (.string (bs (List.replicate n 0))) (w.alloc (.cells (madeCells #[.int .u8 0] n) 5)) := by
  have hcv := run_convert_bytes_arg (P := Try.prog) (w.alloc (.cells (madeCells #[.int .u8 0] n) 5)) 72 5 Try.underlying72 Try.underlying5 w.heap.size 0 n n (List.replicate n 0) (by simp) (by
    intro i hi
    rw [World.cell?_alloc_at _ _ _ _ rfl, Nat.zero_add]
    simp [madeCells, hi, Nat.mod_one]) 9 Try.underlying9
  have hz : strOfNums (List.replicate n 0) = bs (List.replicate n 0) := by unfold strOfNums bs; simp
  rw [hz] at hcv
  exact hcv
set_option maxRecDepth 100000 in
set_option maxHeartbeats 800000 in
theorem rsuperEnc_any (a b c d e : Nat) (ha : a < 4294967296) (hb : b < 4294967296) (hc : c < 4294967296) (hd : d < 4294967296) (he : e < 4294967296) (w : World) :
    Calls Try.prog 42 #[su5 a b c d e] w fun x w' => x = .returned (.string (bs (superL a b c d e))) ∧ Below w.heap.size w w' := by
  have hp : ∀ k, (bs (preL a b c d e k)).size = 2 + 4 * k := fun k => by rw [bs_size, preL_length]
  have hcr := Crc.crc_lt 0 (preL a b c d e 5)
  obtain ⟨S, hS⟩ : ∃ S, Crc.crc 0 (preL a b c d e 5) = S := ⟨_, rfl⟩
  have hj26 : bs (preL a b c d e 5) ++ be S 4 = bs (sup26 a b c d e) := by rw [be_bs, bs_append, sup26, hS]
  have hj52 : bs (sup26 a b c d e) ++ bs z26 = bs (supD a b c d e) := by rw [bs_append, supD]
  have hSeal : ∀ w, Calls Try.prog 73 #[.int .u32 a, .int .i64 1, .string (bs (supD a b c d e))] w fun x w' => x = .returned (.string (bs (superL a b c d e))) ∧ Below w.heap.size w w' := by
    intro w
    have h := rseal_any a 1 (bs (supD a b c d e)) ha (by omega) (by rw [bs_size, supD_length]; omega) w
    rw [bs_list] at h
    exact h
  have KS := Lib.hid hSeal
  clear hSeal
  have h26 : (bs (sup26 a b c d e)).size = 26 := by rw [bs_size, sup26_length]
  have hr26 : (bs z26).size = 26 := by rw [bs_size, z26_length]
  rw [hS] at hcr
  have HS := Lib.hid hS
  have HJ := Lib.hid hj26
  have HJ2 := Lib.hid hj52
  clear hS hj26 hj52
  have hmk : ∀ w, (Instr.makeSlice 72 (.int .i64 26) (.int .i64 26)).run Try.prog w = .ok (.slice (some ⟨w.heap.size, 0, none⟩) 26 26) (w.alloc (.cells (madeCells #[.int .u8 0] 26) 5)) := fun w => run_make_row' (P := Try.prog) 72 5 (.int .u8 0) 1 Try.underlying72 info_u8 rfl .i64 .i64 26 (by omega) (by omega) w
  have hcv : ∀ w : World, (convert 72 9 (.slice (some ⟨w.heap.size, 0, none⟩) 26 26)).run Try.prog (w.alloc (.cells (madeCells #[.int .u8 0] 26) 5)) = .ok (.string (bs z26)) (w.alloc (.cells (madeCells #[.int .u8 0] 26) 5)) := conv_zeros 26
  obtain ⟨X, hX⟩ : ∃ X, madeCells #[.int .u8 0] 26 = X := ⟨_, rfl⟩
  rw [hX] at hmk hcv
  clear hX
  have hcv2 : ∀ w : World, (convert 72 9 (.slice (some ⟨w.heap.size, 0, none⟩) 26 26)).run Try.prog (w.alloc (.cells X 5)).drew = .ok (.string (bs z26)) (w.alloc (.cells X 5)).drew := fun w => hcv w.drew
  go_enter Try.func42, Try.ntmps42
  go_wp2
  have z1 := alloc_at w (.cells #[.int .u32 a, .int .u32 b, .int .u32 c, .int .u32 d, .int .u32 e] 85)
  have hB1 : Below w.heap.size w (w.alloc (.cells #[.int .u32 a, .int .u32 b, .int .u32 c, .int .u32 d, .int .u32 e] 85)) := (Below.refl _ _).alloc (Nat.le_refl _) _
  generalize w.alloc (.cells #[.int .u32 a, .int .u32 b, .int .u32 c, .int .u32 d, .int .u32 e] 85) = w1 at z1 hB1 ⊢
  go_loopw [3, 8] (fun s i wr => ∃ k : Nat, k ≤ 5 ∧ i = .int .i64 k ∧ s = .string (bs (preL a b c d e k)) ∧ Below w1.heap.size w1 wr) (fun _ i _ => 5 - (intOf i).toNat)
  case atStart => exact ⟨0, Nat.zero_le _, rfl, rfl, Below.refl _ _⟩
  case round =>
    obtain ⟨k, hk, rfl, rfl, hB⟩ := hrel
    by_cases hlt : k < 5
    · have hk4 : k = 0 ∨ k = 1 ∨ k = 2 ∨ k = 3 ∨ k = 4 := by omega
      have hpk := hp k
      rcases hk4 with rfl | rfl | rfl | rfl | rfl
      · have i0 : ∀ W, (Instr.index 83 (su5 a b c d e) (.int .i64 0)).run Try.prog W = .ok (.int .u32 a) W := fun W => idx5 _ 0 _ (by omega) rfl W
        have q1 := be_size a 4
        go_wp2_with fail
        refine (rfixed_any a 4 _ rfl (by omega) (by omega) _).mono ?_
        rintro x w2 ⟨rfl, hb2⟩
        go_wp2
        go_roundw
        case rel => exact ⟨1, by omega, rfl, by rw [be_bs, bs_append]; rfl, below_chain hB hb2⟩
        case measure => simp [intOf]
      · have i0 : ∀ W, (Instr.index 83 (su5 a b c d e) (.int .i64 1)).run Try.prog W = .ok (.int .u32 b) W := fun W => idx5 _ 1 _ (by omega) rfl W
        have q1 := be_size b 4
        go_wp2_with fail
        refine (rfixed_any b 4 _ rfl (by omega) (by omega) _).mono ?_
        rintro x w2 ⟨rfl, hb2⟩
        go_wp2
        go_roundw
        case rel => exact ⟨2, by omega, rfl, by rw [be_bs, bs_append]; rfl, below_chain hB hb2⟩
        case measure => simp [intOf]
      · have i0 : ∀ W, (Instr.index 83 (su5 a b c d e) (.int .i64 2)).run Try.prog W = .ok (.int .u32 c) W := fun W => idx5 _ 2 _ (by omega) rfl W
        have q1 := be_size c 4
        go_wp2_with fail
        refine (rfixed_any c 4 _ rfl (by omega) (by omega) _).mono ?_
        rintro x w2 ⟨rfl, hb2⟩
        go_wp2
        go_roundw
        case rel => exact ⟨3, by omega, rfl, by rw [be_bs, bs_append]; rfl, below_chain hB hb2⟩
        case measure => simp [intOf]
      · have i0 : ∀ W, (Instr.index 83 (su5 a b c d e) (.int .i64 3)).run Try.prog W = .ok (.int .u32 d) W := fun W => idx5 _ 3 _ (by omega) rfl W
        have q1 := be_size d 4
        go_wp2_with fail
        refine (rfixed_any d 4 _ rfl (by omega) (by omega) _).mono ?_
        rintro x w2 ⟨rfl, hb2⟩
        go_wp2
        go_roundw
        case rel => exact ⟨4, by omega, rfl, by rw [be_bs, bs_append]; rfl, below_chain hB hb2⟩
        case measure => simp [intOf]
      · have i0 : ∀ W, (Instr.index 83 (su5 a b c d e) (.int .i64 4)).run Try.prog W = .ok (.int .u32 e) W := fun W => idx5 _ 4 _ (by omega) rfl W
        have q1 := be_size e 4
        go_wp2_with fail
        refine (rfixed_any e 4 _ rfl (by omega) (by omega) _).mono ?_
        rintro x w2 ⟨rfl, hb2⟩
        go_wp2
        go_roundw
        case rel => exact ⟨5, by omega, rfl, by rw [be_bs, bs_append]; rfl, below_chain hB hb2⟩
        case measure => simp [intOf]
    · obtain rfl : k = 5 := by omega
      have hp5 := hp 5
      have q1 := be_size S 4
      go_wp2_with fail
      refine (rcrc_any 0 (by omega) _ (by omega) _).mono ?_
      rintro x w2 ⟨rfl, rfl⟩
      rw [bs_list, HS.out]
      go_wp2_with fail
      refine (rfixed_any S 4 _ rfl (by omega) (by omega) _).mono ?_
      rintro x w3 ⟨rfl, hb3⟩
      have hB3 := below_chain hB hb3
      have z3 := later_of z1 hB3
      have hB0 := below_chain hB1 hB3
      clear hb3 hB hB3
      have hlt := lt_of z3
      obtain ⟨c0, c1, _⟩ := five_of z3
      go_wp2_with fail
      rw [HJ.out]
      go_region_with (first | (rw [HJ2.out]; (with_reducible refine (KS.out _).mono ?_); rintro x w4 ⟨rfl, hb4⟩))
      all_goals
        have hB4 : Below w.heap.size w w4 := ((hB0.alloc hB0.size _).drew).trans (hb4.mono (by have := hB0.size; simp; omega))
        clear hb4 hB0
        go_wp2
        go_ret
        exact ⟨rfl, hB4⟩

end Go.Proofs.Ytemdhcocbjcklaa.Print
