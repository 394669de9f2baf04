/- What the functions of the package sums come to: a register of a CRC is shifted as Crc.step says. -/
import Derived.Test.YtoabdpobpmbckaaBase
import Derived.Test.YtoabdpobpmbckaaCrc
namespace Go.Proofs.Ytoabdpobpmbckaa.Print
open Go.RowKit

set_option maxHeartbeats 400000 in
theorem step_any (v b : Nat) (hv : v < 4294967296) (hb : b < 256) (w : World) :
    Calls Try.prog 172 #[.int .u32 v, .int .u8 b] w fun e w' => e = .returned (.int .u32 (Crc.step v b)) ∧ w = w' := by
  have hx := Crc.bits_xor_u32_nat v b hv (by omega)
  go_enter Try.func172, Try.ntmps172
  go_wp2
  have hxl := Crc.xor_lt hv hb
  clear hx
  go_loop [0, 5, 10] (fun r _ i => ∃ k : Nat, k ≤ 8 ∧ i = .int .i64 k ∧ r = .int .u32 (Crc.shiftN k (v ^^^ b) : Nat)) (fun _ _ i => 8 - (intOf i).toNat)
  case atStart => exact ⟨0, by omega, rfl, rfl⟩
  case round =>
    obtain ⟨k, hk, rfl, rfl⟩ := hrel
    have hl := Crc.shiftN_lt k hxl
    have hr := Crc.round_eq _ hl
    rw [← Crc.shiftN_succ] at hr
    by_cases hlt : k < 8
    · go_wp2
      go_round
      case rel => exact ⟨k + 1, by omega, by go_num, rfl⟩
      case measure => simp [intOf]; omega
    · obtain rfl : k = 8 := by omega
      go_wp2
      go_ret
      exact ⟨rfl, rfl⟩

theorem newsum_any (v : Nat) (hv : v < 4294967296) (w : World) :
    Calls Try.prog 162 #[.int .u32 v] w fun e w' => e = .returned (.pointer (some ⟨w.heap.size, 0, none⟩)) ∧ w.alloc (.cells #[.int .u32 ((4294967295 - v : Nat) : Int)] 248) = w' := by
  go_enter Try.func162, Try.ntmps162
  go_wp2
  go_ret
  exact ⟨rfl, by rw [Crc.not_u32 v hv]⟩

theorem value_any (v : Nat) (hv : v < 4294967296) (b : Nat) (T : TypeId) (fr : Nat × Nat) (w : World) (hb : w.heap[b]? = some (.cells #[.int .u32 v] T fr)) :
    Calls Try.prog 164 #[.pointer (some ⟨b, 0, none⟩)] w fun e w' => e = .returned (.int .u32 ((4294967295 - v : Nat) : Int)) ∧ w = w' := by
  have hc : w.cell? ⟨b, 0, none⟩ = some (.int .u32 v) := by rw [cell_of hb]; rfl
  go_enter Try.func164, Try.ntmps164
  go_wp2
  go_ret
  exact ⟨ret_int (Crc.not_u32 v hv), rfl⟩

theorem byte_at (s : ByteArray) (k : Nat) (h : k < s.size) : s.data.toList.take (k + 1) = s.data.toList.take k ++ [s[k]] := by
  rw [List.take_succ_eq_append_getElem (by simpa using h)]; rfl

set_option maxRecDepth 100000 in
set_option maxHeartbeats 400000 in
theorem add_any (s : ByteArray) (hs : s.size ≤ 9223372036854775807) (v : Nat) (hv : v < 4294967296) (b : Nat) (T : TypeId) (w : World) (hb : w.heap[b]? = some (.cells #[.int .u32 v] T)) :
    Calls Try.prog 163 #[.pointer (some ⟨b, 0, none⟩), .string s] w fun e w' => e = .returned (.tuple #[]) ∧ Wrote b (.cells #[.int .u32 (Crc.reg v s.data.toList : Nat)] T) w w' := by
  go_enter Try.func163, Try.ntmps163
  go_wp2
  go_loopw [4, 9] (fun _ i wr => ∃ k : Nat, k ≤ s.size ∧ i = .int .i64 k ∧ Wrote b (.cells #[.int .u32 (Crc.reg v (s.data.toList.take k) : Nat)] T) w wr) (fun _ i _ => s.size - (intOf i).toNat)
  case atStart => exact ⟨0, Nat.zero_le _, rfl, Wrote.refl hb⟩
  case round =>
    obtain ⟨k, hk, rfl, hw⟩ := hrel
    by_cases hlt : k < s.size
    · have hc : wr.cell? ⟨b, 0, none⟩ = some (.int .u32 (Crc.reg v (s.data.toList.take k) : Nat)) := by rw [cell_of hw.at_]; rfl
      have hf : wr.frozen? ⟨b, 0, none⟩ = false := free_of hw.at_ 0
      have hr := Crc.reg_lt (s.data.toList.take k) hv
      have hb8 : s[k].toNat < 256 := by have := s[k].toNat_lt; omega
      go_wp2
      go_still_tail 11, (by kernel_rfl)
      still_call ((step_any _ _ hr hb8 _).mono (fun _ _ h => ⟨h.1, h.2.symm⟩))
      repeat still_step
      refine wpStill_nil ?_
      go_wp2
      go_roundw
      case rel => exact ⟨k + 1, by omega, by go_num, by
        rw [byte_at s k hlt, Crc.reg_snoc]
        simpa using (hw.setCell (o := 0) (.int .u32 (Crc.step (Crc.reg v (s.data.toList.take k)) s[k].toNat : Nat))).drew⟩
      case measure => simp [intOf]; omega
    · obtain rfl : k = s.size := by omega
      rw [List.take_of_length_le (by simp)] at hw
      go_wp2
      go_end0
      exact ⟨rfl, hw⟩

set_option maxHeartbeats 400000 in
theorem crc_any (v : Nat) (hv : v < 4294967296) (s : ByteArray) (hs : s.size ≤ 9223372036854775807) (w : World) :
    Calls Try.prog 137 #[.int .u32 v, .string s] w fun e w' => e = .returned (.int .u32 (Crc.crc v s.data.toList : Nat)) ∧ Below w.heap.size w w' := by
  go_enter Try.func137, Try.ntmps137
  go_wp2_with fail
  refine (newsum_any v hv _).mono ?_
  rintro e w1 ⟨rfl, rfl⟩
  go_wp2_with fail
  refine (add_any s hs _ (by omega) _ _ _ (alloc_at _ _)).mono ?_
  rintro e w1 ⟨rfl, hw⟩
  go_wp2_with fail
  refine (value_any _ (Crc.reg_lt _ (by omega)) _ _ _ _ hw.at_).mono ?_
  rintro e w2 ⟨rfl, rfl⟩
  go_wp2
  go_ret
  exact ⟨rfl, ((Below.refl _ _).alloc (Nat.le_refl _) _).trans (hw.under (Nat.le_refl _))⟩

end Go.Proofs.Ytoabdpobpmbckaa.Print
