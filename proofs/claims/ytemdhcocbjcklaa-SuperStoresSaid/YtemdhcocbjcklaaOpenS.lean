/- seal.Open and the references of the layers 1 (Read) and 9. -/
import Derived.Test.YtemdhcocbjcklaaSuper
namespace Go.Proofs.Ytemdhcocbjcklaa.Print
open Go.RowKit

theorem bs_beq (s t : ByteArray) : (s.toList == t.toList) = decide (s = t) := by
  rw [ByteArray.toList_eq, ByteArray.toList_eq]
  by_cases h : s = t
  · subst h; simp
  · have h2 : s.data.toList ≠ t.data.toList := fun e => h (list_inj e)
    rw [decide_eq_false h]
    exact beq_eq_false_iff_ne.2 h2
theorem bs_bne (s t : ByteArray) : (s.toList != t.toList) = !decide (s = t) := by rw [bne, bs_beq]

/-- What seal.Open tells. -/
abbrev openV (stamp count : Int) (d : ByteArray) (e : Int) : Value := .tuple #[.int .u32 stamp, .int .i64 count, .string d, .int .i64 e]

set_option maxRecDepth 100000 in
set_option maxHeartbeats 400000 in
theorem open_len (s : ByteArray) (h : s.size ≠ 64) (w : World) :
    Calls Try.prog 64 #[.string s] w fun e w' => e = .returned (openV 0 0 ⟨#[]⟩ 4) ∧ Below w.heap.size w w' := by
  have k1 : ((s.size : Int) != 64) = true := by simp; omega
  go_enter Try.func64, Try.ntmps64
  go_wp2
  go_quiet (fail)
  go_wp2
  exact bodyPost_ret (v := openV 0 0 ⟨#[]⟩ 4) (by simp [results, Try.results64, go_sem]) rfl ⟨rfl, by repeat (first | exact Below.refl _ _ | refine below_drewN ?_ _ | refine Below.drew ?_)⟩

set_option maxRecDepth 100000 in
set_option maxHeartbeats 400000 in
theorem open_unlike (s : ByteArray) (h : s.size = 64) (hu : s.extract 0 6 ≠ s.extract 58 64) (w : World) :
    Calls Try.prog 64 #[.string s] w fun e w' => e = .returned (openV 0 0 ⟨#[]⟩ 4) ∧ Below w.heap.size w w' := by
  have k1 : ((s.size : Int) != 64) = false := by simp; omega
  have k2 : ((s.extract 0 6).toList != (s.extract 58 64).toList) = true := by rw [bs_bne]; simp [hu]
  have k3 : ((s.extract 0 6).toList == (s.extract 58 64).toList) = false := by rw [bs_beq]; simp [hu]
  have b1 : (6 : Int) ≤ s.size := by omega
  have b2 : (58 : Int) ≤ s.size := by omega
  go_enter Try.func64, Try.ntmps64
  go_wp2
  go_quiet (fail)
  go_wp2
  exact bodyPost_ret (v := openV 0 0 ⟨#[]⟩ 4) (by simp [results, Try.results64, go_sem]) rfl ⟨rfl, by repeat (first | exact Below.refl _ _ | refine below_drewN ?_ _ | refine Below.drew ?_)⟩

set_option maxRecDepth 100000 in
set_option maxHeartbeats 400000 in
theorem open_zero (s : ByteArray) (h : s.size = 64) (hu : s.extract 0 6 = s.extract 58 64) (n : Nat) (hn : readL (s.extract 4 6).data.toList = n) (h0 : n = 0) (w : World) :
    Calls Try.prog 64 #[.string s] w fun e w' => e = .returned (openV 0 0 ⟨#[]⟩ 4) ∧ Below w.heap.size w w' := by
  subst h0
  have k1 : ((s.size : Int) != 64) = false := by simp; omega
  have k2 : ((s.extract 0 6).toList != (s.extract 58 64).toList) = false := by rw [bs_bne]; simp [hu]
  have k3 : ((s.extract 0 6).toList == (s.extract 58 64).toList) = true := by rw [bs_beq]; simp [hu]
  have b1 : (6 : Int) ≤ s.size := by omega
  have b2 : (58 : Int) ≤ s.size := by omega
  have HN := Lib.hid hn
  clear hn hu
  go_enter Try.func64, Try.ntmps64
  go_wp2
  go_quiet (fail)
  go_wp2_with fail
  refine (read_any (s.extract 0 4) (by simp; omega) (by simp; omega) _).mono ?_
  rintro e w1 ⟨rfl, rfl⟩
  go_wp2_with fail
  refine (read_any (s.extract 4 6) (by simp; omega) (by simp; omega) _).mono ?_
  rintro e w1 ⟨rfl, rfl⟩
  rw [HN.out]
  go_wp2
  exact bodyPost_ret (v := openV 0 0 ⟨#[]⟩ 4) (by simp [results, Try.results64, go_sem]) rfl ⟨rfl, by repeat (first | exact Below.refl _ _ | refine below_drewN ?_ _ | refine Below.drew ?_)⟩

set_option maxRecDepth 100000 in
set_option maxHeartbeats 400000 in
theorem open_ok (s : ByteArray) (h : s.size = 64) (hu : s.extract 0 6 = s.extract 58 64) (n : Nat) (hn : readL (s.extract 4 6).data.toList = n) (h0 : n ≠ 0) (h1 : n < 65536) (m : Nat) (hm : readL (s.extract 0 4).data.toList = m) (h2 : m < 4294967296) (w : World) :
    Calls Try.prog 64 #[.string s] w fun e w' => e = .returned (openV m n (s.extract 6 58) 0) ∧ Below w.heap.size w w' := by
  have k1 : ((s.size : Int) != 64) = false := by simp; omega
  have k2 : ((s.extract 0 6).toList != (s.extract 58 64).toList) = false := by rw [bs_bne]; simp [hu]
  have k3 : ((s.extract 0 6).toList == (s.extract 58 64).toList) = true := by rw [bs_beq]; simp [hu]
  have k4 : ((n : Int) == 0) = false := by simp; omega
  have b1 : (6 : Int) ≤ s.size := by omega
  have b2 : (58 : Int) ≤ s.size := by omega
  have HN := Lib.hid hn
  have HM := Lib.hid hm
  clear hn hu hm
  go_enter Try.func64, Try.ntmps64
  go_wp2
  go_quiet (fail)
  go_wp2_with fail
  refine (read_any (s.extract 0 4) (by simp; omega) (by simp; omega) _).mono ?_
  rintro e w1 ⟨rfl, rfl⟩
  rw [HM.out]
  go_wp2_with fail
  refine (read_any (s.extract 4 6) (by simp; omega) (by simp; omega) _).mono ?_
  rintro e w1 ⟨rfl, rfl⟩
  rw [HN.out]
  go_wp2
  go_quiet (fail)
  go_wp2
  exact bodyPost_ret (v := openV m n (s.extract 6 58) 0) (by simp [results, Try.results64, go_sem]) rfl ⟨rfl, by repeat (first | exact Below.refl _ _ | refine below_drewN ?_ _ | refine Below.drew ?_)⟩

set_option maxHeartbeats 400000 in
theorem rread_any (s : ByteArray) (h8 : s.size ≤ 4) (w : World) :
    Calls Try.prog 67 #[.string s] w fun e w' => e = .returned (.int .u64 (readL s.data.toList : Nat)) ∧ w = w' := by
  go_enter Try.func67, Try.ntmps67
  go_wp2
  go_loop [3, 4, 7] (fun v _ i => ∃ k : Nat, k ≤ s.size ∧ i = .int .i64 k ∧ v = .int .u64 (readL (s.data.toList.take k) : Nat)) (fun _ _ i => s.size - (intOf i).toNat)
  case atStart => exact ⟨0, Nat.zero_le _, rfl, rfl⟩
  case round =>
    obtain ⟨k, hk, rfl, rfl⟩ := hrel
    by_cases hlt : k < s.size
    · have hb : s[k].toNat < 256 := by have := s[k].toNat_lt; omega
      have hr := readL_lt (s.data.toList.take k)
      have hl : (s.data.toList.take k).length ≤ 4 := by rw [List.length_take]; omega
      have hp : 256 ^ (s.data.toList.take k).length ≤ 256 ^ 4 := Nat.pow_le_pow_right (by decide) hl
      have hr2 : readL (s.data.toList.take k) < 4294967296 := Nat.lt_of_lt_of_le hr hp
      clear hr hp
      go_wp2
      refine ⟨⟨k + 1, by omega, by go_num, ?_⟩, by simp [intOf]; omega⟩
      rw [take_byte s k hlt]
      congr 1
      omega
    · obtain rfl : k = s.size := by omega
      go_wp2
      go_ret
      exact ⟨ret_int (by rw [List.take_of_length_le (by simp)]), rfl⟩

set_option maxHeartbeats 400000 in
theorem rseal_any (stamp count : Nat) (d : ByteArray) (h1 : stamp < 4294967296) (h2 : count < 65536) (h3 : d.size ≤ 1000) (w : World) :
    Calls Try.prog 73 #[.int .u32 stamp, .int .i64 count, .string d] w fun e w' => e = .returned (.string (bs (sealL stamp count d.data.toList))) ∧ Below w.heap.size w w' := by
  have s1 := be_size stamp 4
  have s2 := be_size count 2
  go_enter Try.func73, Try.ntmps73
  go_wp2_with fail
  refine (rfixed_any stamp 4 _ rfl (by omega) (by omega) _).mono ?_
  rintro e w1 ⟨rfl, hb1⟩
  go_wp2_with fail
  refine (rfixed_any count 2 _ rfl (by omega) (by omega) _).mono ?_
  rintro e w2 ⟨rfl, hb2⟩
  go_wp2
  go_ret
  refine ⟨ret_str ?_, below_chain hb1 hb2⟩
  apply list_inj
  rw [append_list, append_list, append_list, be_list, be_list, bs_list, sealL, markL]
  simp only [List.append_assoc]

/-- What the reference's Open tells. -/
abbrev gotS (stamp count : Int) (d : ByteArray) (ok : Bool) : Value := .agg #[.int .u32 stamp, .int .i64 count, .string d, .bool ok]
set_option maxRecDepth 100000 in
set_option maxHeartbeats 400000 in
theorem ropen_len (s : ByteArray) (h : s.size ≠ 64) (w : World) :
    Calls Try.prog 66 #[.string s] w fun e w' => e = .returned (gotS 0 0 ⟨#[]⟩ false) ∧ Below w.heap.size w w' := by
  have k1 : ((s.size : Int) != 64) = true := by simp; omega
  go_enter Try.func66, Try.ntmps66
  go_wp2
  exact bodyPost_ret (v := gotS 0 0 ⟨#[]⟩ false) (by simp [results, Try.results66, go_sem]) rfl ⟨rfl, by repeat (first | exact Below.refl _ _ | refine Below.setCell ?_ (by simp) _ | refine below_drewN ?_ _ | refine Below.drew ?_ | refine Below.alloc ?_ (by simp) _)⟩

set_option maxRecDepth 100000 in
set_option maxHeartbeats 400000 in
theorem ropen_zero (s : ByteArray) (h : s.size = 64) (n : Nat) (hn : readL (s.extract 4 6).data.toList = n) (h0 : n = 0) (m : Nat) (hm : readL (s.extract 0 4).data.toList = m) (h2 : m < 4294967296) (w : World) :
    Calls Try.prog 66 #[.string s] w fun e w' => e = .returned (gotS 0 0 ⟨#[]⟩ false) ∧ Below w.heap.size w w' := by
  subst h0
  have k1 : ((s.size : Int) != 64) = false := by simp; omega
  have HN := Lib.hid hn
  have HM := Lib.hid hm
  clear hn hm
  go_enter Try.func66, Try.ntmps66
  go_wp2_with fail
  refine (rread_any (s.extract 0 4) (by simp; omega) _).mono ?_
  rintro e w1 ⟨rfl, rfl⟩
  rw [HM.out]
  go_wp2_with fail
  refine (rread_any (s.extract 4 6) (by simp; omega) _).mono ?_
  rintro e w1 ⟨rfl, rfl⟩
  rw [HN.out]
  go_wp2
  exact bodyPost_ret (v := gotS 0 0 ⟨#[]⟩ false) (by simp [results, Try.results66, go_sem]) rfl ⟨rfl, by repeat (first | exact Below.refl _ _ | refine Below.setCell ?_ (by simp) _ | refine below_drewN ?_ _ | refine Below.drew ?_ | refine Below.alloc ?_ (by simp) _)⟩

set_option maxRecDepth 100000 in
set_option maxHeartbeats 400000 in
theorem ropen_pos (s : ByteArray) (h : s.size = 64) (n : Nat) (hn : readL (s.extract 4 6).data.toList = n) (h0 : n ≠ 0) (h1 : n < 65536) (m : Nat) (hm : readL (s.extract 0 4).data.toList = m) (h2 : m < 4294967296)
    (t : ByteArray) (ht : bs (sealL m n (s.extract 6 58).data.toList) = t) (ok : Bool) (hok : (t.toList == s.toList) = ok) (w : World) :
    Calls Try.prog 66 #[.string s] w fun e w' => e = .returned (if ok then gotS m n (s.extract 6 58) true else gotS 0 0 ⟨#[]⟩ false) ∧ Below w.heap.size w w' := by
  have k1 : ((s.size : Int) != 64) = false := by simp; omega
  have k4 : ((n : Int) == 0) = false := by simp; omega
  have k5 : (t.toList != s.toList) = !ok := by rw [bne, hok]
  have HN := Lib.hid hn
  have HM := Lib.hid hm
  have HT := Lib.hid ht
  clear hn hm ht
  go_enter Try.func66, Try.ntmps66
  go_wp2_with fail
  refine (rread_any (s.extract 0 4) (by simp; omega) _).mono ?_
  rintro e w1 ⟨rfl, rfl⟩
  rw [HM.out]
  go_wp2_with fail
  refine (rread_any (s.extract 4 6) (by simp; omega) _).mono ?_
  rintro e w1 ⟨rfl, rfl⟩
  rw [HN.out]
  go_wp2_with fail
  refine (rseal_any m n _ h2 h1 (by simp; omega) _).mono ?_
  rintro e w2 ⟨rfl, hb2⟩
  rw [HT.out]
  have hB2 : Below w.heap.size w w2 := ((Below.refl _ _).alloc (Nat.le_refl _) _).trans (hb2.mono (by simp))
  have z2 := later_of (alloc_at _ _) hb2
  obtain ⟨c0, c1, c2, c3, f0, f1, f2, f3⟩ := four_of z2
  have hlt := lt_of z2
  clear hb2
  cases ok
  · go_wp2
    exact bodyPost_ret (v := gotS 0 0 ⟨#[]⟩ false) (by simp [results, Try.results66, go_sem, c0, c1, c2, c3]) rfl ⟨rfl, by repeat (first | exact hB2 | refine Below.setCell ?_ (by simp) _ | refine below_drewN ?_ _ | refine Below.drew ?_ | refine Below.alloc ?_ (by simp) _)⟩
  · go_wp2
    exact bodyPost_ret (v := gotS m n (s.extract 6 58) true) (by simp [results, Try.results66, go_sem, c0, c1, c2, c3]) rfl ⟨rfl, by repeat (first | exact hB2 | refine Below.setCell ?_ (by simp) _ | refine below_drewN ?_ _ | refine Below.drew ?_ | refine Below.alloc ?_ (by simp) _)⟩

end Go.Proofs.Ytemdhcocbjcklaa.Print
