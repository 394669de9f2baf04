/- What frame.fixed, frame.all and frame.sum come to: bytes of a number; the CRC of several texts, one behind the other; a frame's CRC. What the functions of the package frame come to. What frame.Encode comes to: a frame's bytes, or why there are none. What frame.Decode comes to: the frame with which bytes begin, or why there is none. What the references of the layers 1, 2 and 8 come to. -/
import Derived.Test.YtoobiffhjjfpgaaGreatBase
import Derived.Laws.Bits64b
import Derived.Deep.RegionHeld3
namespace Go.Proofs.YtoobiffhjjfpgaaGreat.Print
open Go.RowKit

theorem wrap_u64_nat (v : Nat) (h : v < 9223372036854775808) : IntKind.u64.wrap (v : Int) = v := by
  rw [IntKind.wrap_u64]; omega
set_option maxHeartbeats 400000 in
theorem ffixed_any (v n : Nat) (a : Int) (ha : a = v) (h1 : 1 ≤ n) (h8 : n ≤ 8) (hv : v < 256 ^ n) (hv2 : v < 9223372036854775808) (w : World) :
    Calls Tryz.prog 109 #[.int .i64 a, .int .i64 n] w fun e w' => e = .returned (.string (be v n)) ∧ Below w.heap.size w w' := by
  subst ha
  have hw := wrap_u64_nat v hv2
  go_enter Tryz.func109, Tryz.ntmps109
  go_wp2_with fail
  refine (fixed_fits v n h1 h8 hv _).mono ?_
  rintro e w1 ⟨rfl, hb⟩
  go_wp2
  go_ret
  exact ⟨rfl, hb⟩

/-- texts, one behind the other -/
def cat : List ByteArray → List UInt8
  | [] => []
  | s :: l => s.data.toList ++ cat l
theorem cat_append (l m : List ByteArray) : cat (l ++ m) = cat l ++ cat m := by
  induction l with
  | nil => rfl
  | cons s l ih => simp [cat, ih]

set_option maxRecDepth 100000 in
set_option maxHeartbeats 400000 in
theorem all_any (ss : List ByteArray) (hss : ∀ s ∈ ss, s.size ≤ 9223372036854775807) (hl : ss.length < 1000) (b : Nat) (w : World) (hb : b < w.heap.size)
    (hc : ∀ i, (h : i < ss.length) → w.cell? ⟨b, i, none⟩ = some (.string ss[i])) :
    Calls Tryz.prog 127 #[.slice (some ⟨b, 0, none⟩) ss.length ss.length] w fun e w' => e = .returned (.int .u32 (Crc.crc 0 (cat ss) : Nat)) ∧ Below w.heap.size w w' := by
  go_enter Tryz.func127, Tryz.ntmps127
  go_wp2_with fail
  refine (newsum_any 0 (by omega) _).mono ?_
  rintro e w1 ⟨rfl, rfl⟩
  go_wp2
  go_loopw [5, 9, 11, 12, 13, 14, 15] (fun _ i _ _ _ _ _ wr => ∃ k : Nat, k ≤ ss.length ∧ i = .int .i64 k ∧ Wrote w.heap.size (.cells #[.int .u32 (Crc.reg 4294967295 (cat (ss.take k)) : Nat)] 221) (w.alloc (.cells #[.int .u32 ((4294967295 - 0 : Nat) : Int)] 221)) wr) (fun _ i _ _ _ _ _ _ => ss.length - (intOf i).toNat)
  case atStart => exact ⟨0, Nat.zero_le _, rfl, Wrote.refl (alloc_at _ _)⟩
  case round =>
    obtain ⟨k, hk, rfl, hw⟩ := hrel
    by_cases hlt : k < ss.length
    · have hck : wr.cell? ⟨b, k, none⟩ = some (.string ss[k]) := by
        rw [← hc k hlt]
        have h1 := hw.other b (by simp; omega) (by omega)
        rw [World.cell?_of_block (w := w.alloc _) (a := ⟨b, k, none⟩) h1, World.cell?_alloc_past _ _ _ hb]
      have hr := Crc.reg_lt (cat (ss.take k)) (v := 4294967295) (by omega)
      have hk1 : cat (ss.take (k + 1)) = cat (ss.take k) ++ ss[k].data.toList := by
        rw [List.take_succ_eq_append_getElem hlt, cat_append]; simp [cat]
      have HK := Lib.hid hk1
      clear hk1
      go_wp2_with fail
      refine (add_any ss[k] (hss _ (List.getElem_mem hlt)) _ hr _ _ _ hw.at_).mono ?_
      rintro e w2 ⟨rfl, hw2⟩
      go_wp2
      go_roundw
      case rel => exact ⟨k + 1, by omega, by go_num, by
        rw [HK.out, Crc.reg_append]
        exact hw.trans hw2⟩
      case measure => simp [intOf]; omega
    · obtain rfl : k = ss.length := by omega
      rw [List.take_length] at hw
      have hr := Crc.reg_lt (cat ss) (v := 4294967295) (by omega)
      go_wp2_with fail
      refine (value_any _ hr _ _ _ _ hw.at_).mono ?_
      rintro e w2 ⟨rfl, rfl⟩
      go_wp2
      go_ret
      exact ⟨rfl, ((Below.refl _ _).alloc (Nat.le_refl _) _).trans (hw.under (Nat.le_refl _))⟩

/-- the texts that a frame's CRC is taken of -/
def sumL (stamp at_ : Nat) (body : List UInt8) : Nat := Crc.crc 0 (beL stamp 4 ++ (beL at_ 2 ++ (beL body.length 2 ++ body)))
set_option maxHeartbeats 400000 in
theorem fsum_any (stamp at_ : Nat) (body : ByteArray) (h1 : stamp < 4294967296) (h2 : at_ < 65536) (h3 : body.size < 65536) (w : World) :
    Calls Tryz.prog 110 #[.int .u32 stamp, .int .i64 at_, .string body] w fun e w' => e = .returned (.int .u32 (sumL stamp at_ body.data.toList : Nat)) ∧ Below w.heap.size w w' := by
  go_enter Tryz.func110, Tryz.ntmps110
  go_wp2_with fail
  refine (ffixed_any stamp 4 _ rfl (by omega) (by omega) (by omega) (by omega) _).mono ?_
  rintro e w1 ⟨rfl, hb1⟩
  go_wp2_with fail
  refine (ffixed_any at_ 2 _ rfl (by omega) (by omega) (by omega) (by omega) _).mono ?_
  rintro e w2 ⟨rfl, hb2⟩
  go_wp2_with fail
  refine (ffixed_any body.size 2 _ rfl (by omega) (by omega) (by omega) (by omega) _).mono ?_
  rintro e w3 ⟨rfl, hb3⟩
  go_wp2_with fail
  refine (all_any [be stamp 4, be at_ 2, be body.size 2, body] (by
    intro s hs
    simp only [List.mem_cons, List.not_mem_nil, or_false] at hs
    rcases hs with rfl | rfl | rfl | rfl
    · rw [be_size]; omega
    · rw [be_size]; omega
    · rw [be_size]; omega
    · omega) (by simp) w3.heap.size _ (by simp) (by
    intro i hi
    rw [World.cell?_alloc_at _ _ _ _ rfl]
    have hi4 : i < 4 := by simpa using hi
    match i, hi4 with
    | 0, _ => rfl
    | 1, _ => rfl
    | 2, _ => rfl
    | 3, _ => rfl)).mono ?_
  rintro e w4 ⟨rfl, hb4⟩
  go_wp2
  go_ret
  have e0 : Crc.crc 0 (cat [be stamp 4, be at_ 2, be body.size 2, body]) = sumL stamp at_ body.data.toList := by
    unfold sumL
    simp [cat, be_list]
  refine ⟨ret_int (by rw [e0]), ?_⟩
  have hb0 := below_chain (below_chain hb1 hb2) hb3
  exact (hb0.alloc hb0.size _).trans (hb4.mono (by simp; have := hb0.size; omega))

end Go.Proofs.YtoobiffhjjfpgaaGreat.Print

namespace Go.Proofs.YtoobiffhjjfpgaaGreat.Print
open Go.RowKit

/-- string([]byte{x}) -/
theorem conv_one (W : World) (g : Nat) (x : Int) (hg : g = W.heap.size) :
    (convert 141 9 (.slice (some ⟨g, 0, none⟩) 1 1)).run Tryz.prog (W.alloc (.cells #[.int .u8 x] 5)) = .ok (.string (bs [UInt8.ofNat x.toNat])) (W.alloc (.cells #[.int .u8 x] 5)) := by
  subst hg
  rw [run_convert_bytes_arg (P := Tryz.prog) (W.alloc (.cells #[.int .u8 x] 5)) 141 5 Tryz.underlying141 Tryz.underlying5 W.heap.size 0 1 1 [x] rfl (by
    intro i hi
    obtain rfl : i = 0 := by omega
    rw [World.cell?_alloc_at _ _ _ _ rfl]
    rfl) 9 Tryz.underlying9]
  rfl

/-- string(b), b of one byte, whatever has been made since -/
theorem conv_held (W : World) (g : Nat) (x : Int) (hg : W.cell? ⟨g, 0, none⟩ = some (.int .u8 x)) :
    (convert 141 9 (.slice (some ⟨g, 0, none⟩) 1 1)).run Tryz.prog W = .ok (.string (bs [UInt8.ofNat x.toNat])) W := by
  rw [run_convert_bytes_arg (P := Tryz.prog) W 141 5 Tryz.underlying141 Tryz.underlying5 g 0 1 1 [x] rfl (by
    intro i hi
    obtain rfl : i = 0 := by omega
    rw [Nat.zero_add, hg]
    rfl) 9 Tryz.underlying9]
  rfl
theorem take_byte (s : ByteArray) (k : Nat) (h : k < s.size) : readL (s.data.toList.take (k + 1)) = readL (s.data.toList.take k) * 256 + s[k].toNat := by
  rw [byte_at s k h, readL_snoc]
theorem or_byte (v b : Nat) (hb : b < 256) (hv : v * 256 + b < 18446744073709551616) : bits .or .u64 (IntKind.u64.wrap ((v : Int) * 256)) (b : Int) = ((v * 256 + b : Nat) : Int) := by
  obtain ⟨m, hm⟩ : ∃ m, m = v * 256 := ⟨_, rfl⟩
  have hc : (v : Int) * 256 = (m : Int) := by omega
  have h2 : m ||| b = m + b := by
    have := Nat.two_pow_add_eq_or_of_lt (i := 8) (b := b) (by omega) v
    rw [show m = 2 ^ 8 * v by omega]
    omega
  rw [← hm] at hv
  have hw : IntKind.u64.wrap (m : Int) = (m : Int) := by rw [IntKind.wrap_u64]; omega
  rw [← hm, hc, hw, bits_or_u64_nat m b (by omega) (by omega), h2]
theorem not_empty (s : ByteArray) (h : 1 ≤ s.size) : s.toList.isEmpty = false := by
  rw [ByteArray.toList_eq, List.isEmpty_eq_false_iff]
  intro e
  rw [size_list, e] at h
  simp at h
theorem ret_int2 {k j : IntKind} {a b c d : Int} (h : a = b) (h2 : c = d) : Ending.returned (.tuple #[.int k a, .int j c]) = .returned (.tuple #[.int k b, .int j d]) := by rw [h, h2]
set_option maxHeartbeats 400000 in
theorem read_any (s : ByteArray) (h1 : 1 ≤ s.size) (h8 : s.size ≤ 8) (w : World) :
    Calls Tryz.prog 159 #[.string s] w fun e w' => e = .returned (.tuple #[.int .u64 (readL s.data.toList : Nat), .int .i64 0]) ∧ w = w' := by
  have he := not_empty s h1
  have hb8 : decide (8 < (s.size : Int)) = false := by simp; omega
  go_enter Tryz.func159, Tryz.ntmps159
  go_wp2
  go_loop [4, 5, 15] (fun v _ i => ∃ k : Nat, k ≤ s.size ∧ i = .int .i64 k ∧ v = .int .u64 (readL (s.data.toList.take k) : Nat)) (fun _ _ i => s.size - (intOf i).toNat)
  case atStart => exact ⟨0, Nat.zero_le _, rfl, rfl⟩
  case round =>
    obtain ⟨k, hk, rfl, rfl⟩ := hrel
    by_cases hlt : k < s.size
    · have hb : s[k].toNat < 256 := by have := s[k].toNat_lt; omega
      go_wp2
      refine ⟨⟨k + 1, by omega, by go_num, ?_⟩, by simp [intOf]; omega⟩
      have hr := readL_lt (s.data.toList.take (k + 1))
      have hl : (s.data.toList.take (k + 1)).length ≤ 8 := by rw [List.length_take]; omega
      have hp : 256 ^ (s.data.toList.take (k + 1)).length ≤ 256 ^ 8 := Nat.pow_le_pow_right (by decide) hl
      rw [take_byte s k hlt] at hr ⊢
      rw [or_byte _ _ hb (by omega)]
    · obtain rfl : k = s.size := by omega
      go_wp2
      go_ret2
      exact ⟨ret_int2 (by rw [List.take_of_length_le (by simp)]) rfl, rfl⟩

set_option maxHeartbeats 400000 in
theorem number_any (s : ByteArray) (h1 : 1 ≤ s.size) (h8 : s.size ≤ 4) (w : World) :
    Calls Tryz.prog 160 #[.string s] w fun e w' => e = .returned (.int .i64 (readL s.data.toList : Nat)) ∧ w = w' := by
  have hr := readL_lt s.data.toList
  have hp : 256 ^ s.data.toList.length ≤ 256 ^ 4 := Nat.pow_le_pow_right (by decide) (by rw [← size_list]; omega)
  have hlt : readL s.data.toList < 4294967296 := Nat.lt_of_lt_of_le hr hp
  clear hr hp
  go_enter Tryz.func160, Tryz.ntmps160
  go_wp2_with fail
  refine (read_any s h1 (by omega) _).mono ?_
  rintro e w1 ⟨rfl, rfl⟩
  go_wp2
  go_ret
  exact ⟨rfl, rfl⟩

theorem fplace_any (a : Int) (w : World) (b : Bool) (hb : (decide (1 ≤ a) && decide (a < 16)) = b) :
    Calls Tryz.prog 108 #[.int .i64 a] w fun e w' => e = .returned (.bool b) ∧ w = w' := by
  subst hb
  by_cases h1 : 1 ≤ a
  · go_enter Tryz.func108, Tryz.ntmps108
    go_wp2
    go_ret
    exact ⟨by simp [h1], rfl⟩
  · have h2 : decide (1 ≤ a) = false := by simp; omega
    go_enter Tryz.func108, Tryz.ntmps108
    go_wp2
    go_ret
    exact ⟨by simp, rfl⟩
theorem rplace_any (a : Int) (w : World) (b : Bool) (hb : (decide (1 ≤ a) && decide (a < 16)) = b) :
    Calls Tryz.prog 99 #[.int .i64 a] w fun e w' => e = .returned (.bool b) ∧ w = w' := by
  subst hb
  by_cases h1 : 1 ≤ a
  · go_enter Tryz.func99, Tryz.ntmps99
    go_wp2
    go_ret
    exact ⟨by simp [h1], rfl⟩
  · have h2 : decide (1 ≤ a) = false := by simp; omega
    go_enter Tryz.func99, Tryz.ntmps99
    go_wp2
    go_ret
    exact ⟨by simp, rfl⟩
theorem fsize_any (k : Int) (p : ByteArray) (hp : p.size ≤ 140737488351232) (w : World) :
    Calls Tryz.prog 73 #[.agg #[.int .i64 k, .string p]] w fun e w' => e = .returned (.int .i64 (7 + (p.size : Int))) ∧ Below w.heap.size w w' := by
  go_enter Tryz.func73, Tryz.ntmps73
  go_wp2
  go_ret
  exact ⟨rfl, (Below.refl _ _).alloc (Nat.le_refl _) _⟩
theorem many_pos (n : Nat) (a : Int) (ha : a = n) (h1 : 1 ≤ n) (hn : n ≤ 9223372036854775807) (w : World) :
    Calls Tryz.prog 72 #[.int .i64 a] w fun e w' => e = .returned (.int .i64 (((n - 1) / 52 + 1 : Nat) : Int)) ∧ w = w' := by
  subst ha
  go_enter Tryz.func72, Tryz.ntmps72
  go_wp2
  go_ret
  exact ⟨ret_int (by omega), rfl⟩
theorem many_none (n : Int) (h1 : n < 1) (w : World) :
    Calls Tryz.prog 72 #[.int .i64 n] w fun e w' => e = .returned (.int .i64 0) ∧ w = w' := by
  go_enter Tryz.func72, Tryz.ntmps72
  go_wp2
  go_ret
  exact ⟨rfl, rfl⟩

end Go.Proofs.YtoobiffhjjfpgaaGreat.Print

namespace Go.Proofs.YtoobiffhjjfpgaaGreat.Print
open Go.RowKit

/-- A frame's bytes. -/
def encL (stamp at_ : Nat) (body : List UInt8) : List UInt8 := beL body.length 2 ++ (beL (sumL stamp at_ body) 4 ++ body)

theorem ret_str_int {k : IntKind} {a b : ByteArray} {c : Int} (h : a = b) : Ending.returned (.tuple #[.string a, .int k c]) = .returned (.tuple #[.string b, .int k c]) := by rw [h]
set_option maxRecDepth 100000 in
set_option maxHeartbeats 400000 in
theorem enc_ok (stamp at_ kind : Nat) (p : ByteArray) (h1 : stamp < 4294967296) (h2 : 1 ≤ at_) (h3 : at_ < 16) (h4 : 1 ≤ kind) (h5 : kind ≤ 255) (h6 : p.size ≤ 773) (w : World) :
    Calls Tryz.prog 75 #[.int .u32 stamp, .int .i64 at_, .agg #[.int .i64 kind, .string p]] w fun e w' =>
      e = .returned (.tuple #[.string (bs (encL stamp at_ (UInt8.ofNat kind :: p.data.toList))), .int .i64 0]) ∧ Below w.heap.size w w' := by
  have hk1 : decide ((kind : Int) < 1) = false := by simp; omega
  have hk2 : decide (255 < (kind : Int)) = false := by simp; omega
  have hk3 : decide (773 < (p.size : Int)) = false := by simp; omega
  have hcv := conv_one (w.alloc (.cells #[.int .i64 kind, .string p] 43)) (w.heap.size + 1) kind (by simp)
  rw [Int.toNat_natCast] at hcv
  go_enter Tryz.func75, Tryz.ntmps75
  go_wp2_with fail
  refine (fplace_any _ _ true (by simp; omega)).mono ?_
  rintro e w1 ⟨rfl, rfl⟩
  have hs1 : (bs [UInt8.ofNat kind]).size = 1 := bs_size _
  go_wp2_with fail
  refine (ffixed_any (1 + p.size) 2 _ (by omega) (by omega) (by omega) (by omega) (by omega) _).mono ?_
  rintro e w1 ⟨rfl, hb1⟩
  go_wp2_with fail
  refine (fsum_any stamp at_ _ h1 (by omega) (by rw [ByteArray.size_append, hs1]; omega) _).mono ?_
  rintro e w2 ⟨rfl, hb2⟩
  obtain ⟨S, hS⟩ : ∃ S, sumL stamp at_ (bs [UInt8.ofNat kind] ++ p).data.toList = S := ⟨_, rfl⟩
  rw [hS]
  have hSl : S < 4294967296 := by rw [← hS]; exact Crc.crc_lt _ _
  have HS := Lib.hid hS
  clear hS
  go_wp2_with fail
  refine (ffixed_any S 4 _ (by omega) (by omega) (by omega) (by omega) (by omega) _).mono ?_
  rintro e w3 ⟨rfl, hb3⟩
  have hs2 : (be (1 + p.size) 2).size = 2 := be_size _ _
  have hs3 : (be S 4).size = 4 := be_size _ _
  go_wp2
  go_ret2
  refine ⟨?_, ?_⟩
  · have hS := HS.out
    rw [append_list, bs_list] at hS
    refine ret_str_int (list_inj ?_)
    rw [append_list, append_list, append_list, be_list, be_list, bs_list, bs_list, encL, ← hS, size_list p, Nat.add_comm 1]
    simp
  · exact (((Below.refl _ _).alloc (Nat.le_refl _) _).alloc (by simp) _).trans ((below_chain (below_chain hb1 hb2) hb3).mono (by simp; omega))

theorem enc_bad (stamp : Int) (at_ kind : Int) (p : ByteArray) (h : kind < 1 ∨ 255 < kind ∨ at_ < 1 ∨ 16 ≤ at_) (w : World) :
    Calls Tryz.prog 75 #[.int .u32 stamp, .int .i64 at_, .agg #[.int .i64 kind, .string p]] w fun e w' =>
      e = .returned (.tuple #[.string ⟨#[]⟩, .int .i64 1]) ∧ Below w.heap.size w w' := by
  by_cases c1 : kind < 1
  · go_enter Tryz.func75, Tryz.ntmps75
    go_wp2
    go_ret2
    exact ⟨rfl, (Below.refl _ _).alloc (Nat.le_refl _) _⟩
  have hk1 : decide ((kind : Int) < 1) = false := by simp; omega
  by_cases c2 : 255 < kind
  · go_enter Tryz.func75, Tryz.ntmps75
    go_wp2
    go_ret2
    exact ⟨rfl, (Below.refl _ _).alloc (Nat.le_refl _) _⟩
  have hk2 : decide (255 < (kind : Int)) = false := by simp; omega
  go_enter Tryz.func75, Tryz.ntmps75
  go_wp2_with fail
  refine (fplace_any _ _ false (by simp; omega)).mono ?_
  rintro e w1 ⟨rfl, rfl⟩
  go_wp2
  go_ret2
  exact ⟨rfl, (Below.refl _ _).alloc (Nat.le_refl _) _⟩

theorem enc_long (stamp : Int) (at_ kind : Int) (p : ByteArray) (h2 : 1 ≤ at_) (h3 : at_ < 16) (h4 : 1 ≤ kind) (h5 : kind ≤ 255) (h6 : 773 < p.size) (w : World) :
    Calls Tryz.prog 75 #[.int .u32 stamp, .int .i64 at_, .agg #[.int .i64 kind, .string p]] w fun e w' =>
      e = .returned (.tuple #[.string ⟨#[]⟩, .int .i64 2]) ∧ Below w.heap.size w w' := by
  have hk1 : decide ((kind : Int) < 1) = false := by simp; omega
  have hk2 : decide (255 < (kind : Int)) = false := by simp; omega
  go_enter Tryz.func75, Tryz.ntmps75
  go_wp2_with fail
  refine (fplace_any _ _ true (by simp; omega)).mono ?_
  rintro e w1 ⟨rfl, rfl⟩
  go_wp2
  go_ret2
  exact ⟨rfl, (Below.refl _ _).alloc (Nat.le_refl _) _⟩

end Go.Proofs.YtoobiffhjjfpgaaGreat.Print

namespace Go.Proofs.YtoobiffhjjfpgaaGreat.Print
open Go.RowKit

/-- What frame.Decode tells: a frame, how many bytes it has, an error. -/
abbrev decV (kind : Int) (p : ByteArray) (n e : Int) : Value := .tuple #[.agg #[.int .i64 kind, .string p], .int .i64 n, .int .i64 e]
set_option maxRecDepth 100000 in
set_option maxHeartbeats 400000 in
theorem dec_place (stamp : Nat) (at_ : Int) (s : ByteArray) (h2 : at_ < 1 ∨ 16 ≤ at_) (w : World) :
    Calls Tryz.prog 140 #[.int .u32 stamp, .int .i64 at_, .string s] w fun e w' =>
      e = .returned (decV 0 ⟨#[]⟩ 0 1) ∧ Below w.heap.size w w' := by
  go_enter Tryz.func140, Tryz.ntmps140
  go_wp2_with fail
  refine (fplace_any _ _ false (by simp; omega)).mono ?_
  rintro e w1 ⟨rfl, rfl⟩
  go_wp2
  exact bodyPost_ret (v := decV 0 ⟨#[]⟩ 0 1) (by simp [results, Tryz.results140, go_sem]) rfl ⟨rfl, (Below.refl _ _).alloc (Nat.le_refl _) _⟩
set_option maxRecDepth 100000 in
set_option maxHeartbeats 400000 in
theorem dec_short (stamp : Nat) (at_ : Int) (s : ByteArray) (h2 : 1 ≤ at_) (h3 : at_ < 16) (h4 : s.size < 2) (w : World) :
    Calls Tryz.prog 140 #[.int .u32 stamp, .int .i64 at_, .string s] w fun e w' =>
      e = .returned (decV 0 ⟨#[]⟩ 0 3) ∧ Below w.heap.size w w' := by
  go_enter Tryz.func140, Tryz.ntmps140
  go_wp2_with fail
  refine (fplace_any _ _ true (by simp; omega)).mono ?_
  rintro e w1 ⟨rfl, rfl⟩
  go_wp2
  exact bodyPost_ret (v := decV 0 ⟨#[]⟩ 0 3) (by simp [results, Tryz.results140, go_sem]) rfl ⟨rfl, (Below.refl _ _).alloc (Nat.le_refl _) _⟩
set_option maxRecDepth 100000 in
set_option maxHeartbeats 400000 in
theorem dec_none (stamp : Nat) (at_ : Int) (s : ByteArray) (h2 : 1 ≤ at_) (h3 : at_ < 16) (h4 : 2 ≤ s.size) (n : Nat) (hn : readL (s.extract 0 2).data.toList = n) (h5 : n = 0) (w : World) :
    Calls Tryz.prog 140 #[.int .u32 stamp, .int .i64 at_, .string s] w fun e w' =>
      e = .returned (decV 0 ⟨#[]⟩ 0 6) ∧ Below w.heap.size w w' := by
  have hk1 : decide ((s.size : Int) < 2) = false := by simp; omega
  have HN := Lib.hid hn
  clear hn
  subst h5
  go_enter Tryz.func140, Tryz.ntmps140
  go_wp2_with fail
  refine (fplace_any _ _ true (by simp; omega)).mono ?_
  rintro e w1 ⟨rfl, rfl⟩
  go_wp2_with fail
  refine (number_any (s.extract 0 2) (by simp; omega) (by simp; omega) _).mono ?_
  rintro e w1 ⟨rfl, rfl⟩
  rw [HN.out]
  go_wp2
  exact bodyPost_ret (v := decV 0 ⟨#[]⟩ 0 6) (by simp [results, Tryz.results140, go_sem]) rfl ⟨rfl, (Below.refl _ _).alloc (Nat.le_refl _) _⟩
set_option maxRecDepth 100000 in
set_option maxHeartbeats 400000 in
theorem dec_long (stamp : Nat) (at_ : Int) (s : ByteArray) (h2 : 1 ≤ at_) (h3 : at_ < 16) (h4 : 2 ≤ s.size) (n : Nat) (hn : readL (s.extract 0 2).data.toList = n) (h5 : 774 < n) (w : World) :
    Calls Tryz.prog 140 #[.int .u32 stamp, .int .i64 at_, .string s] w fun e w' =>
      e = .returned (decV 0 ⟨#[]⟩ 0 2) ∧ Below w.heap.size w w' := by
  have hk1 : decide ((s.size : Int) < 2) = false := by simp; omega
  have HN := Lib.hid hn
  clear hn
  have hk4 : ((n : Int) == 0) = false := by simp; omega
  go_enter Tryz.func140, Tryz.ntmps140
  go_wp2_with fail
  refine (fplace_any _ _ true (by simp; omega)).mono ?_
  rintro e w1 ⟨rfl, rfl⟩
  go_wp2_with fail
  refine (number_any (s.extract 0 2) (by simp; omega) (by simp; omega) _).mono ?_
  rintro e w1 ⟨rfl, rfl⟩
  rw [HN.out]
  go_wp2
  exact bodyPost_ret (v := decV 0 ⟨#[]⟩ 0 2) (by simp [results, Tryz.results140, go_sem]) rfl ⟨rfl, (Below.refl _ _).alloc (Nat.le_refl _) _⟩
set_option maxRecDepth 100000 in
set_option maxHeartbeats 400000 in
theorem dec_part (stamp : Nat) (at_ : Int) (s : ByteArray) (h2 : 1 ≤ at_) (h3 : at_ < 16) (h4 : 2 ≤ s.size) (n : Nat) (hn : readL (s.extract 0 2).data.toList = n) (h5 : 1 ≤ n) (h6 : n ≤ 774) (h7 : s.size < 6 + n) (w : World) :
    Calls Tryz.prog 140 #[.int .u32 stamp, .int .i64 at_, .string s] w fun e w' =>
      e = .returned (decV 0 ⟨#[]⟩ 0 3) ∧ Below w.heap.size w w' := by
  have hk1 : decide ((s.size : Int) < 2) = false := by simp; omega
  have HN := Lib.hid hn
  clear hn
  have hk2 : decide (774 < (n : Int)) = false := by simp; omega
  have hk4 : ((n : Int) == 0) = false := by simp; omega
  go_enter Tryz.func140, Tryz.ntmps140
  go_wp2_with fail
  refine (fplace_any _ _ true (by simp; omega)).mono ?_
  rintro e w1 ⟨rfl, rfl⟩
  go_wp2_with fail
  refine (number_any (s.extract 0 2) (by simp; omega) (by simp; omega) _).mono ?_
  rintro e w1 ⟨rfl, rfl⟩
  rw [HN.out]
  go_wp2
  exact bodyPost_ret (v := decV 0 ⟨#[]⟩ 0 3) (by simp [results, Tryz.results140, go_sem]) rfl ⟨rfl, (Below.refl _ _).alloc (Nat.le_refl _) _⟩
set_option maxRecDepth 100000 in
set_option maxHeartbeats 400000 in
theorem dec_zero (stamp : Nat) (at_ : Int) (s : ByteArray) (h2 : 1 ≤ at_) (h3 : at_ < 16) (h4 : 2 ≤ s.size) (n : Nat) (hn : readL (s.extract 0 2).data.toList = n) (h5 : 1 ≤ n) (h6 : n ≤ 774) (h7 : 6 + n ≤ s.size) (body : ByteArray) (hb : s.extract 6 (6 + n) = body) (hbs : body.size = n) (hz : (body[0]'(by omega)).toNat = 0) (w : World) :
    Calls Tryz.prog 140 #[.int .u32 stamp, .int .i64 at_, .string s] w fun e w' =>
      e = .returned (decV 0 ⟨#[]⟩ 0 4) ∧ Below w.heap.size w w' := by
  have hk1 : decide ((s.size : Int) < 2) = false := by simp; omega
  have HN := Lib.hid hn
  clear hn
  have hk2 : decide (774 < (n : Int)) = false := by simp; omega
  have hk3 : decide ((s.size : Int) < 6 + n) = false := by simp; omega
  have hk4 : ((n : Int) == 0) = false := by simp; omega
  go_enter Tryz.func140, Tryz.ntmps140
  go_wp2_with fail
  refine (fplace_any _ _ true (by simp; omega)).mono ?_
  rintro e w1 ⟨rfl, rfl⟩
  go_wp2_with fail
  refine (number_any (s.extract 0 2) (by simp; omega) (by simp; omega) _).mono ?_
  rintro e w1 ⟨rfl, rfl⟩
  rw [HN.out]
  go_wp2
  exact bodyPost_ret (v := decV 0 ⟨#[]⟩ 0 4) (by simp [results, Tryz.results140, go_sem]) rfl ⟨rfl, (Below.refl _ _).alloc (Nat.le_refl _) _⟩
set_option maxRecDepth 100000 in
set_option maxHeartbeats 400000 in
theorem dec_sum (stamp : Nat) (at_ : Nat) (s : ByteArray) (h1 : stamp < 4294967296) (h2 : 1 ≤ at_) (h3 : at_ < 16) (h4 : 2 ≤ s.size) (n : Nat) (hn : readL (s.extract 0 2).data.toList = n) (h5 : 1 ≤ n) (h6 : n ≤ 774) (h7 : 6 + n ≤ s.size) (body : ByteArray) (hb : s.extract 6 (6 + n) = body) (hbs : body.size = n) (hz : ¬(body[0]'(by omega)).toNat = 0) (c : Nat) (hc : readL (s.extract 2 6).data.toList = c) (_hc2 : c < 4294967296) (S : Nat) (hS : sumL stamp at_ body.data.toList = S) (hS2 : S < 4294967296) (hne : c ≠ S) (w : World) :
    Calls Tryz.prog 140 #[.int .u32 stamp, .int .i64 at_, .string s] w fun e w' =>
      e = .returned (decV 0 ⟨#[]⟩ 0 4) ∧ Below w.heap.size w w' := by
  have hk1 : decide ((s.size : Int) < 2) = false := by simp; omega
  have HN := Lib.hid hn
  clear hn
  have hk2 : decide (774 < (n : Int)) = false := by simp; omega
  have hk3 : decide ((s.size : Int) < 6 + n) = false := by simp; omega
  have hk4 : ((n : Int) == 0) = false := by simp; omega
  have hz2 : (((body[0]'(by omega)).toNat : Int) == 0) = false := by simp; omega
  have HC := Lib.hid hc
  clear hc
  have HS := Lib.hid hS
  clear hS
  have hne2 : ((c : Int) != (S : Int)) = true := by simp; omega
  go_enter Tryz.func140, Tryz.ntmps140
  go_wp2_with fail
  refine (fplace_any _ _ true (by simp; omega)).mono ?_
  rintro e w1 ⟨rfl, rfl⟩
  go_wp2_with fail
  refine (number_any (s.extract 0 2) (by simp; omega) (by simp; omega) _).mono ?_
  rintro e w1 ⟨rfl, rfl⟩
  rw [HN.out]
  go_wp2_with fail
  refine (number_any (s.extract 2 6) (by simp; omega) (by simp; omega) _).mono ?_
  rintro e w1 ⟨rfl, rfl⟩
  rw [HC.out]
  go_wp2_with fail
  refine (fsum_any stamp at_ body h1 (by omega) (by omega) _).mono ?_
  rintro e w2 ⟨rfl, hb2⟩
  rw [HS.out]
  obtain ⟨c0, c1, f0, f1⟩ := two_of ((hb2.block w.heap.size (by simp)).trans (alloc_at _ _))
  go_wp2
  exact bodyPost_ret (v := decV 0 ⟨#[]⟩ 0 4) (by simp [results, Tryz.results140, go_sem, c0, c1]) rfl
    ⟨rfl, ((((Below.refl _ _).alloc (Nat.le_refl _) _).trans (hb2.mono (by simp))).setCell (by simp) _).setCell (by simp) _⟩
set_option maxRecDepth 100000 in
set_option maxHeartbeats 400000 in
theorem dec_ok (stamp : Nat) (at_ : Nat) (s : ByteArray) (h1 : stamp < 4294967296) (h2 : 1 ≤ at_) (h3 : at_ < 16) (h4 : 2 ≤ s.size) (n : Nat) (hn : readL (s.extract 0 2).data.toList = n) (h5 : 1 ≤ n) (h6 : n ≤ 774) (h7 : 6 + n ≤ s.size) (body : ByteArray) (hb : s.extract 6 (6 + n) = body) (hbs : body.size = n) (hz : ¬(body[0]'(by omega)).toNat = 0) (c : Nat) (hc : readL (s.extract 2 6).data.toList = c) (_hc2 : c < 4294967296) (S : Nat) (hS : sumL stamp at_ body.data.toList = S) (hS2 : S < 4294967296) (hne : c = S) (w : World) :
    Calls Tryz.prog 140 #[.int .u32 stamp, .int .i64 at_, .string s] w fun e w' =>
      e = .returned (decV (body[0]'(by omega)).toNat (body.extract 1 body.size) (6 + n : Nat) 0) ∧ Below w.heap.size w w' := by
  subst hne
  have hlt : (body[0]'(by omega)).toNat < 256 := by have := (body[0]'(by omega)).toNat_lt; omega
  have hk1 : decide ((s.size : Int) < 2) = false := by simp; omega
  have HN := Lib.hid hn
  clear hn
  have hk2 : decide (774 < (n : Int)) = false := by simp; omega
  have hk3 : decide ((s.size : Int) < 6 + n) = false := by simp; omega
  have hk4 : ((n : Int) == 0) = false := by simp; omega
  have hne2 : ((c : Int) != (c : Int)) = false := by simp
  have hz2 : (((body[0]'(by omega)).toNat : Int) == 0) = false := by simp; omega
  have HC := Lib.hid hc
  clear hc
  have HS := Lib.hid hS
  clear hS
  go_enter Tryz.func140, Tryz.ntmps140
  go_wp2_with fail
  refine (fplace_any _ _ true (by simp; omega)).mono ?_
  rintro e w1 ⟨rfl, rfl⟩
  go_wp2_with fail
  refine (number_any (s.extract 0 2) (by simp; omega) (by simp; omega) _).mono ?_
  rintro e w1 ⟨rfl, rfl⟩
  rw [HN.out]
  go_wp2_with fail
  refine (number_any (s.extract 2 6) (by simp; omega) (by simp; omega) _).mono ?_
  rintro e w1 ⟨rfl, rfl⟩
  rw [HC.out]
  go_wp2_with fail
  refine (fsum_any stamp at_ body h1 (by omega) (by omega) _).mono ?_
  rintro e w2 ⟨rfl, hb2⟩
  rw [HS.out]
  obtain ⟨c0, c1, f0, f1⟩ := two_of ((hb2.block w.heap.size (by simp)).trans (alloc_at _ _))
  go_wp2
  go_region
  all_goals
    go_wp2
    exact bodyPost_ret (v := decV (body[0]'(by omega)).toNat (body.extract 1 body.size) (6 + n : Nat) 0) (by simp [results, Tryz.results140, go_sem, c0, c1, hbs]) rfl
      ⟨rfl, (((((Below.refl _ _).alloc (Nat.le_refl _) _).trans (hb2.mono (by simp))).setCell (by simp) _).setCell (by simp) _).drew⟩

end Go.Proofs.YtoobiffhjjfpgaaGreat.Print

namespace Go.Proofs.YtoobiffhjjfpgaaGreat.Print
open Go.RowKit

theorem beL_cons (v k : Nat) : beL v (k + 1) = UInt8.ofNat (v / 256 ^ k % 256) :: beL v k := by
  induction k generalizing v with
  | zero => simp [beL]
  | succ k ih =>
    rw [beL, ih, beL, Nat.div_div_eq_div_mul, Nat.pow_succ, Nat.mul_comm 256]
    rfl





/-! ### The same, in the form in which the printed text of weighlockref08.Encode calls them -/
def weighlockref01_Fixed.f (a0 a1 : Int) : Option ByteArray :=
  if 0 ≤ a0 ∧ a0 < 18446744073709551616 ∧ 0 ≤ a1 ∧ a1 ≤ 8 then some (be a0.toNat a1.toNat) else none
def weighlockref08_sum.f (a0 a1 a2 : Int) (a3 : ByteArray) : Option Int :=
  if 0 ≤ a0 ∧ a0 < 4294967296 ∧ 0 ≤ a1 ∧ a1 < 65536 ∧ 0 ≤ a2 ∧ a2 < 256 ∧ a3.size ≤ 140737488351232 then some ((sumL a0.toNat a1.toNat (UInt8.ofNat a2.toNat :: a3.data.toList) : Nat) : Int) else none

end Go.Proofs.YtoobiffhjjfpgaaGreat.Print
