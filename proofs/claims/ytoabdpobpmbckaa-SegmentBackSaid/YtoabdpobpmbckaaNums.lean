/- What numbers as bytes come to: nums.Fixed, frame.fixed: so many bytes, the greatest first. -/
import Derived.Test.YtoabdpobpmbckaaSums
namespace Go.Proofs.Ytoabdpobpmbckaa.Print
open Go.RowKit

/-- A number as n bytes, the greatest first. -/
def beL (v : Nat) : Nat → List UInt8
  | 0 => []
  | n + 1 => beL (v / 256) n ++ [UInt8.ofNat (v % 256)]
def be (v n : Nat) : ByteArray := ⟨(beL v n).toArray⟩
theorem beL_length (v n : Nat) : (beL v n).length = n := by
  induction n generalizing v with
  | zero => rfl
  | succ n ih => simp [beL, ih]
theorem be_size (v n : Nat) : (be v n).size = n := by simp [be, ByteArray.size, beL_length]
theorem be_list (v n : Nat) : (be v n).data.toList = beL v n := by simp [be]

def fxB (v n j : Nat) : Int := (v : Int) / 2 ^ (8 * (n - 1 - j)) % 256
def fxArr (v n k : Nat) : Array Value := ((List.range 8).map fun j => Value.int .u8 (if j < k then fxB v n j else 0)).toArray
theorem fxArr_zero (v n : Nat) : fxArr v n 0 = #[Value.int IntKind.u8 0, Value.int IntKind.u8 0, Value.int IntKind.u8 0, Value.int IntKind.u8 0,
          Value.int IntKind.u8 0, Value.int IntKind.u8 0, Value.int IntKind.u8 0, Value.int IntKind.u8 0] := by simp [fxArr]; rfl
theorem fxArr_get (v n k j : Nat) (h : j < 8) : (fxArr v n k)[j]? = some (Value.int .u8 (if j < k then fxB v n j else 0)) := by simp [fxArr, h]
theorem fxArr_size (v n k : Nat) : (fxArr v n k).size = 8 := by simp [fxArr]
theorem fxArr_set (v n k : Nat) (h : k < 8) : (fxArr v n k).setIfInBounds k (Value.int .u8 ((v : Int) / 2 ^ (8 * (n - 1 - k)) % 256)) = fxArr v n (k + 1) := by
  apply Array.ext_getElem?
  intro i
  rw [Array.getElem?_setIfInBounds, fxArr_size]
  by_cases hi : i < 8
  · rw [fxArr_get _ _ _ _ hi, fxArr_get _ _ _ _ hi]
    by_cases e : k = i
    · subst e; simp [h, fxB]
    · have e2 : (i < k) ↔ (i < k + 1) := by omega
      rw [if_neg e]; simp [e2]
  · have e : k ≠ i := by omega
    rw [if_neg e]
    simp [fxArr, hi]
theorem fxB_nat (v n j : Nat) : fxB v n j = ((v / 256 ^ (n - 1 - j) % 256 : Nat) : Int) := by
  unfold fxB
  rw [show (256 : Nat) ^ (n - 1 - j) = 2 ^ (8 * (n - 1 - j)) by rw [Nat.pow_mul], Int.natCast_emod, Int.natCast_ediv, Int.natCast_pow]
  rfl
theorem beL_range (v n : Nat) : ((List.range n).map fun j => UInt8.ofNat (v / 256 ^ (n - 1 - j) % 256)) = beL v n := by
  induction n generalizing v with
  | zero => rfl
  | succ n ih =>
    rw [List.range_succ, List.map_append, beL, ← ih]
    congr 1
    · apply List.map_congr_left
      intro j hj
      have hj' : j < n := List.mem_range.1 hj
      rw [show n + 1 - 1 - j = (n - 1 - j) + 1 by omega, Nat.pow_succ, Nat.mul_comm, Nat.div_div_eq_div_mul]
    · simp
theorem fx_str (v n : Nat) : strOfNums ((List.range n).map (fxB v n)) = be v n := by
  unfold be strOfNums
  rw [← beL_range]
  congr 2
  rw [List.map_map]
  apply List.map_congr_left
  intro j _
  show UInt8.ofNat (fxB v n j).toNat = _
  rw [fxB_nat, Int.toNat_natCast]

theorem arrFix : Try.prog.underlying 236 = some (.array (Try.prog.arrayLen 236) (Try.prog.elem 236)) := by kernel_rfl
theorem alFix : Try.prog.arrayLen 236 = 8 := by kernel_rfl
theorem elFix : Try.prog.elem 236 = 5 := by kernel_rfl
theorem sliceFix (w : World) (b n : Nat) (h8 : n ≤ 8) : (Instr.sliceAt 236 (.pointer (some ⟨b, 0, none⟩)) none (some (.int .i64 n)) none).run Try.prog w = .ok (.slice (some ⟨b, 0, none⟩) n 8) w := by
  rw [run_sliceAt_array_h w 236 _ arrFix .i64 n (by omega) (by rw [alFix]; omega), elFix]
  go_simp
set_option maxRecDepth 100000 in
set_option maxHeartbeats 400000 in
theorem fixed_ok (v n : Nat) (_hv : v < 18446744073709551616) (h1 : 1 ≤ n) (h8 : n ≤ 8) (hs : n < 8 → ((v : Int) / 2 ^ (8 * n) != 0) = false) (w : World) :
    Calls Try.prog 136 #[.int .u64 v, .int .i64 n] w fun e w' => e = .returned (.tuple #[.string (be v n), .int .i64 0]) ∧ Below w.heap.size w w' := by
  rw [← fx_str]
  have hb1 : decide ((n : Int) < 1) = false := by simp; omega
  have hb8 : decide (8 < (n : Int)) = false := by simp; omega
  have hsl := sliceFix (w.alloc (.cells (fxArr v n n) 236)) w.heap.size n h8
  have hcv := run_convert_bytes_arg (P := Try.prog) (w.alloc (.cells (fxArr v n n) 236)) 136 5 Try.underlying136 Try.underlying5 w.heap.size 0 n 8 ((List.range n).map (fxB v n)) (by simp) (by
    intro i hi
    rw [World.cell?_alloc_at _ _ _ _ rfl, Nat.zero_add, fxArr_get v n n i (by omega), if_pos hi]
    simp [hi]) 9 Try.underlying9
  by_cases hn : n < 8
  · have hbn : decide ((n : Int) < 8) = true := by simp; omega
    have hs1 := hs hn
    clear hs
    go_enter Try.func136, Try.ntmps136
    go_wp2
    go_loopw [7, 26] (fun s i wr => ∃ k : Nat, k ≤ n ∧ i = .int .i64 k ∧ wr = w.alloc (.cells (fxArr v n k) 236)) (fun _ i _ => n - (intOf i).toNat)
    case atStart => exact ⟨0, Nat.zero_le _, rfl, by rw [fxArr_zero]⟩
    case round =>
      obtain ⟨k, hk, rfl, rfl⟩ := hrel
      by_cases hlt : k < n
      · have hg := fxArr_get v n k k (by omega)
        go_wp2
        refine ⟨⟨k + 1, by omega, by go_num, ?_⟩, by simp [intOf]; omega⟩
        rw [← fxArr_set v n k (by omega)]
      · obtain rfl : k = n := by omega
        go_wp2
        go_ret2
        exact ⟨rfl, (Below.refl _ _).alloc (Nat.le_refl _) _⟩
  · have hbn : decide ((n : Int) < 8) = false := by simp; omega
    clear hs
    go_enter Try.func136, Try.ntmps136
    go_wp2
    go_loopw [7, 26] (fun s i wr => ∃ k : Nat, k ≤ n ∧ i = .int .i64 k ∧ wr = w.alloc (.cells (fxArr v n k) 236)) (fun _ i _ => n - (intOf i).toNat)
    case atStart => exact ⟨0, Nat.zero_le _, rfl, by rw [fxArr_zero]⟩
    case round =>
      obtain ⟨k, hk, rfl, rfl⟩ := hrel
      by_cases hlt : k < n
      · have hg := fxArr_get v n k k (by omega)
        go_wp2
        refine ⟨⟨k + 1, by omega, by go_num, ?_⟩, by simp [intOf]; omega⟩
        rw [← fxArr_set v n k (by omega)]
      · obtain rfl : k = n := by omega
        go_wp2
        go_ret2
        exact ⟨rfl, (Below.refl _ _).alloc (Nat.le_refl _) _⟩

theorem fixed_range (v n : Int) (h : n < 1 ∨ 8 < n) (w : World) :
    Calls Try.prog 136 #[.int .u64 v, .int .i64 n] w fun e w' => e = .returned (.tuple #[.string ⟨#[]⟩, .int .i64 1]) ∧ Below w.heap.size w w' := by
  rcases h with h | h
  · go_enter Try.func136, Try.ntmps136
    go_wp2
    go_ret2
    exact ⟨rfl, Below.refl _ _⟩
  · have hb1 : decide ((n : Int) < 1) = false := by simp; omega
    go_enter Try.func136, Try.ntmps136
    go_wp2
    go_ret2
    exact ⟨rfl, Below.refl _ _⟩

theorem fixed_big (v n : Nat) (h1 : 1 ≤ n) (hn : n < 8) (hs : ((v : Int) / 2 ^ (8 * n) != 0) = true) (w : World) :
    Calls Try.prog 136 #[.int .u64 v, .int .i64 n] w fun e w' => e = .returned (.tuple #[.string ⟨#[]⟩, .int .i64 1]) ∧ Below w.heap.size w w' := by
  have hb1 : decide ((n : Int) < 1) = false := by simp; omega
  have hb8 : decide (8 < (n : Int)) = false := by simp; omega
  have hbn : decide ((n : Int) < 8) = true := by simp; omega
  go_enter Try.func136, Try.ntmps136
  go_wp2
  go_ret2
  exact ⟨rfl, Below.refl _ _⟩

/-- What nums.Fixed tells of a number that fits: its bytes. -/
theorem fits_test (v n : Nat) (h : v < 256 ^ n) : ((v : Int) / 2 ^ (8 * n) != 0) = false := by
  have e : (256 : Nat) ^ n = 2 ^ (8 * n) := by rw [Nat.pow_mul]
  rw [e] at h
  have h0 : v / 2 ^ (8 * n) = 0 := Nat.div_eq_of_lt h
  have h1 : (v : Int) / 2 ^ (8 * n) = ((v / 2 ^ (8 * n) : Nat) : Int) := by rw [Int.natCast_ediv, Int.natCast_pow]; rfl
  rw [h1, h0]; rfl
theorem fixed_fits (v n : Nat) (h1 : 1 ≤ n) (h8 : n ≤ 8) (hv : v < 256 ^ n) (w : World) :
    Calls Try.prog 136 #[.int .u64 v, .int .i64 n] w fun e w' => e = .returned (.tuple #[.string (be v n), .int .i64 0]) ∧ Below w.heap.size w w' :=
  fixed_ok v n (Nat.lt_of_lt_of_le hv (Nat.pow_le_pow_right (by decide) h8 : 256 ^ n ≤ 256 ^ 8)) h1 h8 (fun _ => fits_test v n hv) w

end Go.Proofs.Ytoabdpobpmbckaa.Print
