/- What the references of the layers 1, 2 and 8 come to. -/
import Derived.Test.YtoabdpobpmbckaaDec
import Derived.Deep.RegionHeld3
namespace Go.Proofs.Ytoabdpobpmbckaa.Print
open Go.RowKit

theorem beL_cons (v k : Nat) : beL v (k + 1) = UInt8.ofNat (v / 256 ^ k % 256) :: beL v k := by
  induction k generalizing v with
  | zero => simp [beL]
  | succ k ih =>
    rw [beL, ih, beL, Nat.div_div_eq_div_mul, Nat.pow_succ, Nat.mul_comm 256]
    rfl

set_option maxRecDepth 100000 in
set_option maxHeartbeats 400000 in
theorem rfixed_any (v n : Nat) (a : Int) (ha : a = v) (hv : v < 18446744073709551616) (hn : n ≤ 8) (w : World) :
    Calls Try.prog 119 #[.int .u64 a, .int .i64 n] w fun e w' => e = .returned (.string (be v n)) ∧ Below w.heap.size w w' := by
  subst ha
  have hcv := @conv_one
  go_enter Try.func119, Try.ntmps119
  go_wp2
  go_loopw [0, 5, 7] (fun x s i wr => ∃ k : Nat, k ≤ n ∧ i = .int .i64 k ∧ x = .int .u64 ((v / 256 ^ k : Nat) : Int) ∧ s = .string (be v k) ∧ Below w.heap.size w wr) (fun _ _ i _ => n - (intOf i).toNat)
  case atStart => exact ⟨0, Nat.zero_le _, rfl, by simp, rfl, Below.refl _ _⟩
  case round =>
    obtain ⟨k, hk, rfl, rfl, rfl, hb⟩ := hrel
    by_cases hlt : k < n
    · have hs : (be v k).size = k := be_size _ _
      have hs1 : ∀ x, (bs [x]).size = 1 := fun x => bs_size _
      obtain ⟨m, hm⟩ : ∃ m, v / 256 ^ k = m := ⟨_, rfl⟩
      have hml : m < 18446744073709551616 := by rw [← hm]; exact Nat.lt_of_le_of_lt (Nat.div_le_self _ _) hv
      rw [hm]
      have HM := Lib.hid hm
      clear hm
      go_wp2
      refine ⟨⟨k + 1, by omega, by go_num, ?_, ?_, hb.alloc hb.size _⟩, by simp [intOf]; omega⟩
      · rw [Nat.pow_succ, ← Nat.div_div_eq_div_mul, HM.out]; simp
      · congr 1
        apply list_inj
        rw [append_list, bs_list, be_list, be_list, beL_cons, HM.out]
        rfl
    · obtain rfl : k = n := by omega
      go_wp2
      go_ret
      exact ⟨rfl, hb⟩

theorem shifted_any (v : Nat) (hv : v < 4294967296) (w : World) :
    Calls Try.prog 157 #[.int .u32 v] w fun e w' => e = .returned (.int .u32 (Crc.shifted v : Nat)) ∧ w = w' := by
  have hx := Crc.bits_xor_u32_nat (v / 2) 3988292384 (by omega) (by omega)
  by_cases hp : v % 2 = 1
  · have hp2 : ((v : Int) % 2 == 1) = true := by simp; omega
    go_enter Try.func157, Try.ntmps157
    go_wp2
    go_ret
    refine ⟨ret_int ?_, rfl⟩
    unfold Crc.shifted
    rw [if_pos hp, ← hx]
    simp
  · have hp2 : ((v : Int) % 2 == 1) = false := by simp; omega
    go_enter Try.func157, Try.ntmps157
    go_wp2
    go_ret
    refine ⟨ret_int ?_, rfl⟩
    unfold Crc.shifted
    rw [if_neg hp]
    simp

set_option maxHeartbeats 800000 in
theorem rcrc_any (v : Nat) (hv : v < 4294967296) (s : ByteArray) (hs : s.size ≤ 9223372036854775807) (w : World) :
    Calls Try.prog 120 #[.int .u32 v, .string s] w fun e w' => e = .returned (.int .u32 (Crc.crc v s.data.toList : Nat)) ∧ w = w' := by
  obtain ⟨u, hu⟩ : ∃ u, 4294967295 - v = u := ⟨_, rfl⟩
  have hul : u < 4294967296 := by omega
  have hvu : (4294967295 : Int) - v = u := by omega
  have HU := Lib.hid hu
  clear hu
  go_enter Try.func120, Try.ntmps120
  go_wp2
  go_loop [5, 6, 11, 14, 15, 16, 17, 18, 19, 20, 21, 22, 23, 24] (fun r _ i _ _ _ _ _ _ _ _ _ _ _ => ∃ k : Nat, k ≤ s.size ∧ i = .int .i64 k ∧ r = .int .u32 (Crc.reg u (s.data.toList.take k) : Nat)) (fun _ _ i _ _ _ _ _ _ _ _ _ _ _ => s.size - (intOf i).toNat)
  case atStart => exact ⟨0, Nat.zero_le _, rfl, rfl⟩
  case round =>
    obtain ⟨k, hk, rfl, rfl⟩ := hrel
    by_cases hlt : k < s.size
    · have hr := Crc.reg_lt (s.data.toList.take k) hul
      have hb8 : s[k].toNat < 256 := by have := s[k].toNat_lt; omega
      have hx := Crc.bits_xor_u32_nat _ _ hr (by omega : s[k].toNat < 4294967296)
      have hxl := Crc.xor_lt hr hb8
      obtain ⟨X, HT0⟩ : ∃ X, Crc.reg u (s.data.toList.take k) ^^^ s[k].toNat = X := ⟨_, rfl⟩
      have hX : X < 4294967296 := by rw [← HT0]; exact hxl
      have ht : Crc.reg u (s.data.toList.take (k + 1)) = Crc.shiftN 8 (Crc.reg u (s.data.toList.take k) ^^^ s[k].toNat) := by rw [byte_at s k hlt, Crc.reg_snoc]; rfl
      rw [HT0] at ht
      have HT := Lib.hid ht
      clear ht
      go_wp2
      go_loop [5, 20, 21, 22, 23, 24] (fun r j _ _ _ _ => ∃ m : Nat, m ≤ 8 ∧ j = .int .i64 m ∧ r = .int .u32 (Crc.shiftN m X : Nat)) (fun _ j _ _ _ _ => 8 - (intOf j).toNat)
      case atStart => exact ⟨0, by omega, rfl, rfl⟩
      case round =>
        obtain ⟨m, hm, rfl, rfl⟩ := hrel
        have hml := Crc.shiftN_lt m hX
        by_cases hm8 : m < 8
        · go_wp2_with fail
          refine (shifted_any _ hml _).mono ?_
          rintro e w1 ⟨rfl, rfl⟩
          go_wp2
          go_round
          case rel => exact ⟨m + 1, by omega, by go_num, by rw [Crc.shiftN_succ]⟩
          case measure => simp [intOf]; omega
        · obtain rfl : m = 8 := by omega
          go_wp2
          go_round
          case rel => exact ⟨k + 1, by omega, by go_num, by rw [HT.out]⟩
          case measure => simp [intOf]; omega
    · obtain rfl : k = s.size := by omega
      have hr := Crc.reg_lt s.data.toList hul
      go_wp2
      go_ret
      refine ⟨ret_int ?_, rfl⟩
      rw [List.take_of_length_le (by simp)]
      unfold Crc.crc
      rw [HU.out]
      omega

set_option maxRecDepth 100000 in
set_option maxHeartbeats 400000 in
theorem rsum_any (stamp at_ kind : Nat) (p : ByteArray) (h1 : stamp < 4294967296) (h2 : at_ < 65536) (h3 : kind < 256) (h4 : p.size ≤ 140737488351232) (w : World) :
    Calls Try.prog 122 #[.int .u32 stamp, .int .i64 at_, .int .i64 kind, .string p] w fun e w' =>
      e = .returned (.int .u32 (sumL stamp at_ (UInt8.ofNat kind :: p.data.toList) : Nat)) ∧ Below w.heap.size w w' := by
  have hcv := @conv_one
  go_enter Try.func122, Try.ntmps122
  go_wp2_with fail
  refine (rfixed_any stamp 4 _ rfl (by omega) (by omega) _).mono ?_
  rintro e w1 ⟨rfl, hb1⟩
  go_wp2_with fail
  refine (rfixed_any at_ 2 _ rfl (by omega) (by omega) _).mono ?_
  rintro e w2 ⟨rfl, hb2⟩
  have hs1 := be_size stamp 4
  have hs2 := be_size at_ 2
  have hs3 := be_size (p.size + 1) 2
  have hs4 : ∀ x, (bs [x]).size = 1 := fun x => bs_size _
  go_wp2_with fail
  refine (rfixed_any (p.size + 1) 2 _ (by omega) (by omega) (by omega) _).mono ?_
  rintro e w3 ⟨rfl, hb3⟩
  go_wp2_with fail
  refine (rcrc_any 0 (by omega) _ (by simp [ByteArray.size_append, hs1, hs2, hs3, hs4]; omega) _).mono ?_
  rintro e w4 ⟨rfl, rfl⟩
  go_wp2
  go_ret
  have hb0 := below_chain (below_chain hb1 hb2) hb3
  refine ⟨ret_int ?_, hb0.alloc hb0.size _⟩
  unfold sumL
  simp only [be_list, bs_list, List.length_cons, ← size_list, List.cons_append, List.nil_append]

/-! ### The same, in the form in which the printed text of weighlockref08.Encode calls them -/
def weighlockref01_Fixed.f (a0 a1 : Int) : Option ByteArray :=
  if 0 ≤ a0 ∧ a0 < 18446744073709551616 ∧ 0 ≤ a1 ∧ a1 ≤ 8 then some (be a0.toNat a1.toNat) else none
theorem weighlockref01_Fixed.calls (a0 a1 : Int) (r : ByteArray) (w : World) (h : weighlockref01_Fixed.f a0 a1 = some r) :
    Calls Try.prog 119 #[.int .u64 a0, .int .i64 a1] w fun e w' => e = .returned (.string r) ∧ Below w.heap.size w w' := by
  unfold weighlockref01_Fixed.f at h
  split at h
  · rename_i hc
    obtain ⟨h0, h1, h2, h3⟩ := hc
    obtain rfl := Option.some.inj h
    have := rfixed_any a0.toNat a1.toNat a0 (by omega) (by omega) (by omega) w
    rwa [Int.toNat_of_nonneg h2] at this
  · cases h
def weighlockref08_sum.f (a0 a1 a2 : Int) (a3 : ByteArray) : Option Int :=
  if 0 ≤ a0 ∧ a0 < 4294967296 ∧ 0 ≤ a1 ∧ a1 < 65536 ∧ 0 ≤ a2 ∧ a2 < 256 ∧ a3.size ≤ 140737488351232 then some ((sumL a0.toNat a1.toNat (UInt8.ofNat a2.toNat :: a3.data.toList) : Nat) : Int) else none
theorem weighlockref08_sum.calls (a0 a1 a2 : Int) (a3 : ByteArray) (r : Int) (w : World) (h : weighlockref08_sum.f a0 a1 a2 a3 = some r) :
    Calls Try.prog 122 #[.int .u32 a0, .int .i64 a1, .int .i64 a2, .string a3] w fun e w' => e = .returned (.int .u32 r) ∧ Below w.heap.size w w' := by
  unfold weighlockref08_sum.f at h
  split at h
  · rename_i hc
    obtain ⟨h0, h1, h2, h3, h4, h5, h6⟩ := hc
    obtain rfl := Option.some.inj h
    have := rsum_any a0.toNat a1.toNat a2.toNat a3 (by omega) (by omega) (by omega) h6 w
    rwa [Int.toNat_of_nonneg h0, Int.toNat_of_nonneg h2, Int.toNat_of_nonneg h4] at this
  · cases h

end Go.Proofs.Ytoabdpobpmbckaa.Print
