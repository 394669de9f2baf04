/- What frame.fixed, frame.all and frame.sum come to: bytes of a number; the CRC of several texts, one behind the other; a frame's CRC. -/
import Derived.Test.YtoabdpobpmbckaaNums
namespace Go.Proofs.Ytoabdpobpmbckaa.Print
open Go.RowKit

theorem wrap_u64_nat (v : Nat) (h : v < 9223372036854775808) : IntKind.u64.wrap (v : Int) = v := by
  rw [IntKind.wrap_u64]; omega
set_option maxHeartbeats 400000 in
theorem ffixed_any (v n : Nat) (a : Int) (ha : a = v) (h1 : 1 ≤ n) (h8 : n ≤ 8) (hv : v < 256 ^ n) (hv2 : v < 9223372036854775808) (w : World) :
    Calls Try.prog 132 #[.int .i64 a, .int .i64 n] w fun e w' => e = .returned (.string (be v n)) ∧ Below w.heap.size w w' := by
  subst ha
  have hw := wrap_u64_nat v hv2
  go_enter Try.func132, Try.ntmps132
  go_wp2_with fail
  refine (fixed_fits v n h1 h8 hv _).mono ?_
  rintro e w1 ⟨rfl, hb⟩
  go_wp2
  go_ret
  exact ⟨rfl, hb⟩

/-- texts, one behind the other -/
def cat : List ByteArray → List UInt8
  | [] => []
  | s :: l => s.data.toList ++ cat l
theorem cat_append (l m : List ByteArray) : cat (l ++ m) = cat l ++ cat m := by
  induction l with
  | nil => rfl
  | cons s l ih => simp [cat, ih]

set_option maxRecDepth 100000 in
set_option maxHeartbeats 400000 in
theorem all_any (ss : List ByteArray) (hss : ∀ s ∈ ss, s.size ≤ 9223372036854775807) (hl : ss.length < 1000) (b : Nat) (w : World) (hb : b < w.heap.size)
    (hc : ∀ i, (h : i < ss.length) → w.cell? ⟨b, i, none⟩ = some (.string ss[i])) :
    Calls Try.prog 160 #[.slice (some ⟨b, 0, none⟩) ss.length ss.length] w fun e w' => e = .returned (.int .u32 (Crc.crc 0 (cat ss) : Nat)) ∧ Below w.heap.size w w' := by
  go_enter Try.func160, Try.ntmps160
  go_wp2_with fail
  refine (newsum_any 0 (by omega) _).mono ?_
  rintro e w1 ⟨rfl, rfl⟩
  go_wp2
  go_loopw [5, 9, 11, 12, 13, 14, 15] (fun _ i _ _ _ _ _ wr => ∃ k : Nat, k ≤ ss.length ∧ i = .int .i64 k ∧ Wrote w.heap.size (.cells #[.int .u32 (Crc.reg 4294967295 (cat (ss.take k)) : Nat)] 248) (w.alloc (.cells #[.int .u32 ((4294967295 - 0 : Nat) : Int)] 248)) wr) (fun _ i _ _ _ _ _ _ => ss.length - (intOf i).toNat)
  case atStart => exact ⟨0, Nat.zero_le _, rfl, Wrote.refl (alloc_at _ _)⟩
  case round =>
    obtain ⟨k, hk, rfl, hw⟩ := hrel
    by_cases hlt : k < ss.length
    · have hck : wr.cell? ⟨b, k, none⟩ = some (.string ss[k]) := by
        rw [← hc k hlt]
        have h1 := hw.other b (by simp; omega) (by omega)
        rw [World.cell?_of_block (w := w.alloc _) (a := ⟨b, k, none⟩) h1, World.cell?_alloc_past _ _ _ hb]
      have hr := Crc.reg_lt (cat (ss.take k)) (v := 4294967295) (by omega)
      have hk1 : cat (ss.take (k + 1)) = cat (ss.take k) ++ ss[k].data.toList := by
        rw [List.take_succ_eq_append_getElem hlt, cat_append]; simp [cat]
      have HK := Lib.hid hk1
      clear hk1
      go_wp2_with fail
      refine (add_any ss[k] (hss _ (List.getElem_mem hlt)) _ hr _ _ _ hw.at_).mono ?_
      rintro e w2 ⟨rfl, hw2⟩
      go_wp2
      go_roundw
      case rel => exact ⟨k + 1, by omega, by go_num, by
        rw [HK.out, Crc.reg_append]
        exact hw.trans hw2⟩
      case measure => simp [intOf]; omega
    · obtain rfl : k = ss.length := by omega
      rw [List.take_length] at hw
      have hr := Crc.reg_lt (cat ss) (v := 4294967295) (by omega)
      go_wp2_with fail
      refine (value_any _ hr _ _ _ _ hw.at_).mono ?_
      rintro e w2 ⟨rfl, rfl⟩
      go_wp2
      go_ret
      exact ⟨rfl, ((Below.refl _ _).alloc (Nat.le_refl _) _).trans (hw.under (Nat.le_refl _))⟩

/-- the texts that a frame's CRC is taken of -/
def sumL (stamp at_ : Nat) (body : List UInt8) : Nat := Crc.crc 0 (beL stamp 4 ++ (beL at_ 2 ++ (beL body.length 2 ++ body)))
set_option maxHeartbeats 400000 in
theorem fsum_any (stamp at_ : Nat) (body : ByteArray) (h1 : stamp < 4294967296) (h2 : at_ < 65536) (h3 : body.size < 65536) (w : World) :
    Calls Try.prog 133 #[.int .u32 stamp, .int .i64 at_, .string body] w fun e w' => e = .returned (.int .u32 (sumL stamp at_ body.data.toList : Nat)) ∧ Below w.heap.size w w' := by
  go_enter Try.func133, Try.ntmps133
  go_wp2_with fail
  refine (ffixed_any stamp 4 _ rfl (by omega) (by omega) (by omega) (by omega) _).mono ?_
  rintro e w1 ⟨rfl, hb1⟩
  go_wp2_with fail
  refine (ffixed_any at_ 2 _ rfl (by omega) (by omega) (by omega) (by omega) _).mono ?_
  rintro e w2 ⟨rfl, hb2⟩
  go_wp2_with fail
  refine (ffixed_any body.size 2 _ rfl (by omega) (by omega) (by omega) (by omega) _).mono ?_
  rintro e w3 ⟨rfl, hb3⟩
  go_wp2_with fail
  refine (all_any [be stamp 4, be at_ 2, be body.size 2, body] (by
    intro s hs
    simp only [List.mem_cons, List.not_mem_nil, or_false] at hs
    rcases hs with rfl | rfl | rfl | rfl
    · rw [be_size]; omega
    · rw [be_size]; omega
    · rw [be_size]; omega
    · omega) (by simp) w3.heap.size _ (by simp) (by
    intro i hi
    rw [World.cell?_alloc_at _ _ _ _ rfl]
    have hi4 : i < 4 := by simpa using hi
    match i, hi4 with
    | 0, _ => rfl
    | 1, _ => rfl
    | 2, _ => rfl
    | 3, _ => rfl)).mono ?_
  rintro e w4 ⟨rfl, hb4⟩
  go_wp2
  go_ret
  have e0 : Crc.crc 0 (cat [be stamp 4, be at_ 2, be body.size 2, body]) = sumL stamp at_ body.data.toList := by
    unfold sumL
    simp [cat, be_list]
  refine ⟨ret_int (by rw [e0]), ?_⟩
  have hb0 := below_chain (below_chain hb1 hb2) hb3
  exact (hb0.alloc hb0.size _).trans (hb4.mono (by simp; have := hb0.size; omega))

end Go.Proofs.Ytoabdpobpmbckaa.Print
