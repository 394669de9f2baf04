/- What the functions of the package frame come to. -/
import Derived.Test.YtoabdpobpmbckaaBytes
import Derived.Test.YtoabdpobpmbckaaFrm
import Derived.Laws.Bits64b
namespace Go.Proofs.Ytoabdpobpmbckaa.Print
open Go.RowKit

/-- string([]byte{x}) -/
theorem conv_one (W : World) (g : Nat) (x : Int) (hg : g = W.heap.size) :
    (convert 136 9 (.slice (some ⟨g, 0, none⟩) 1 1)).run Try.prog (W.alloc (.cells #[.int .u8 x] 5)) = .ok (.string (bs [UInt8.ofNat x.toNat])) (W.alloc (.cells #[.int .u8 x] 5)) := by
  subst hg
  rw [run_convert_bytes_arg (P := Try.prog) (W.alloc (.cells #[.int .u8 x] 5)) 136 5 Try.underlying136 Try.underlying5 W.heap.size 0 1 1 [x] rfl (by
    intro i hi
    obtain rfl : i = 0 := by omega
    rw [World.cell?_alloc_at _ _ _ _ rfl]
    rfl) 9 Try.underlying9]
  rfl

/-- string(b), b of one byte, whatever has been made since -/
theorem conv_held (W : World) (g : Nat) (x : Int) (hg : W.cell? ⟨g, 0, none⟩ = some (.int .u8 x)) :
    (convert 136 9 (.slice (some ⟨g, 0, none⟩) 1 1)).run Try.prog W = .ok (.string (bs [UInt8.ofNat x.toNat])) W := by
  rw [run_convert_bytes_arg (P := Try.prog) W 136 5 Try.underlying136 Try.underlying5 g 0 1 1 [x] rfl (by
    intro i hi
    obtain rfl : i = 0 := by omega
    rw [Nat.zero_add, hg]
    rfl) 9 Try.underlying9]
  rfl
theorem take_byte (s : ByteArray) (k : Nat) (h : k < s.size) : readL (s.data.toList.take (k + 1)) = readL (s.data.toList.take k) * 256 + s[k].toNat := by
  rw [byte_at s k h, readL_snoc]
theorem or_byte (v b : Nat) (hb : b < 256) (hv : v * 256 + b < 18446744073709551616) : bits .or .u64 (IntKind.u64.wrap ((v : Int) * 256)) (b : Int) = ((v * 256 + b : Nat) : Int) := by
  obtain ⟨m, hm⟩ : ∃ m, m = v * 256 := ⟨_, rfl⟩
  have hc : (v : Int) * 256 = (m : Int) := by omega
  have h2 : m ||| b = m + b := by
    have := Nat.two_pow_add_eq_or_of_lt (i := 8) (b := b) (by omega) v
    rw [show m = 2 ^ 8 * v by omega]
    omega
  rw [← hm] at hv
  have hw : IntKind.u64.wrap (m : Int) = (m : Int) := by rw [IntKind.wrap_u64]; omega
  rw [← hm, hc, hw, bits_or_u64_nat m b (by omega) (by omega), h2]
theorem not_empty (s : ByteArray) (h : 1 ≤ s.size) : s.toList.isEmpty = false := by
  rw [ByteArray.toList_eq, List.isEmpty_eq_false_iff]
  intro e
  rw [size_list, e] at h
  simp at h
theorem ret_int2 {k j : IntKind} {a b c d : Int} (h : a = b) (h2 : c = d) : Ending.returned (.tuple #[.int k a, .int j c]) = .returned (.tuple #[.int k b, .int j d]) := by rw [h, h2]
set_option maxHeartbeats 400000 in
theorem read_any (s : ByteArray) (h1 : 1 ≤ s.size) (h8 : s.size ≤ 8) (w : World) :
    Calls Try.prog 158 #[.string s] w fun e w' => e = .returned (.tuple #[.int .u64 (readL s.data.toList : Nat), .int .i64 0]) ∧ w = w' := by
  have he := not_empty s h1
  have hb8 : decide (8 < (s.size : Int)) = false := by simp; omega
  go_enter Try.func158, Try.ntmps158
  go_wp2
  go_loop [4, 5, 15] (fun v _ i => ∃ k : Nat, k ≤ s.size ∧ i = .int .i64 k ∧ v = .int .u64 (readL (s.data.toList.take k) : Nat)) (fun _ _ i => s.size - (intOf i).toNat)
  case atStart => exact ⟨0, Nat.zero_le _, rfl, rfl⟩
  case round =>
    obtain ⟨k, hk, rfl, rfl⟩ := hrel
    by_cases hlt : k < s.size
    · have hb : s[k].toNat < 256 := by have := s[k].toNat_lt; omega
      go_wp2
      refine ⟨⟨k + 1, by omega, by go_num, ?_⟩, by simp [intOf]; omega⟩
      have hr := readL_lt (s.data.toList.take (k + 1))
      have hl : (s.data.toList.take (k + 1)).length ≤ 8 := by rw [List.length_take]; omega
      have hp : 256 ^ (s.data.toList.take (k + 1)).length ≤ 256 ^ 8 := Nat.pow_le_pow_right (by decide) hl
      rw [take_byte s k hlt] at hr ⊢
      rw [or_byte _ _ hb (by omega)]
    · obtain rfl : k = s.size := by omega
      go_wp2
      go_ret2
      exact ⟨ret_int2 (by rw [List.take_of_length_le (by simp)]) rfl, rfl⟩

set_option maxHeartbeats 400000 in
theorem number_any (s : ByteArray) (h1 : 1 ≤ s.size) (h8 : s.size ≤ 4) (w : World) :
    Calls Try.prog 159 #[.string s] w fun e w' => e = .returned (.int .i64 (readL s.data.toList : Nat)) ∧ w = w' := by
  have hr := readL_lt s.data.toList
  have hp : 256 ^ s.data.toList.length ≤ 256 ^ 4 := Nat.pow_le_pow_right (by decide) (by rw [← size_list]; omega)
  have hlt : readL s.data.toList < 4294967296 := Nat.lt_of_lt_of_le hr hp
  clear hr hp
  go_enter Try.func159, Try.ntmps159
  go_wp2_with fail
  refine (read_any s h1 (by omega) _).mono ?_
  rintro e w1 ⟨rfl, rfl⟩
  go_wp2
  go_ret
  exact ⟨rfl, rfl⟩

theorem fplace_any (a : Int) (w : World) (b : Bool) (hb : (decide (1 ≤ a) && decide (a < 16)) = b) :
    Calls Try.prog 131 #[.int .i64 a] w fun e w' => e = .returned (.bool b) ∧ w = w' := by
  subst hb
  by_cases h1 : 1 ≤ a
  · go_enter Try.func131, Try.ntmps131
    go_wp2
    go_ret
    exact ⟨by simp [h1], rfl⟩
  · have h2 : decide (1 ≤ a) = false := by simp; omega
    go_enter Try.func131, Try.ntmps131
    go_wp2
    go_ret
    exact ⟨by simp, rfl⟩
theorem rplace_any (a : Int) (w : World) (b : Bool) (hb : (decide (1 ≤ a) && decide (a < 16)) = b) :
    Calls Try.prog 121 #[.int .i64 a] w fun e w' => e = .returned (.bool b) ∧ w = w' := by
  subst hb
  by_cases h1 : 1 ≤ a
  · go_enter Try.func121, Try.ntmps121
    go_wp2
    go_ret
    exact ⟨by simp [h1], rfl⟩
  · have h2 : decide (1 ≤ a) = false := by simp; omega
    go_enter Try.func121, Try.ntmps121
    go_wp2
    go_ret
    exact ⟨by simp, rfl⟩
theorem fsize_any (k : Int) (p : ByteArray) (hp : p.size ≤ 140737488351232) (w : World) :
    Calls Try.prog 106 #[.agg #[.int .i64 k, .string p]] w fun e w' => e = .returned (.int .i64 (7 + (p.size : Int))) ∧ Below w.heap.size w w' := by
  go_enter Try.func106, Try.ntmps106
  go_wp2
  go_ret
  exact ⟨rfl, (Below.refl _ _).alloc (Nat.le_refl _) _⟩
theorem many_pos (n : Nat) (a : Int) (ha : a = n) (h1 : 1 ≤ n) (hn : n ≤ 9223372036854775807) (w : World) :
    Calls Try.prog 105 #[.int .i64 a] w fun e w' => e = .returned (.int .i64 (((n - 1) / 52 + 1 : Nat) : Int)) ∧ w = w' := by
  subst ha
  go_enter Try.func105, Try.ntmps105
  go_wp2
  go_ret
  exact ⟨ret_int (by omega), rfl⟩
theorem many_none (n : Int) (h1 : n < 1) (w : World) :
    Calls Try.prog 105 #[.int .i64 n] w fun e w' => e = .returned (.int .i64 0) ∧ w = w' := by
  go_enter Try.func105, Try.ntmps105
  go_wp2
  go_ret
  exact ⟨rfl, rfl⟩

end Go.Proofs.Ytoabdpobpmbckaa.Print
