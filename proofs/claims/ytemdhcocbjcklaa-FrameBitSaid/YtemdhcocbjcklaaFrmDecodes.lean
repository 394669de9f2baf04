/- FrameDecodes, the walk: whatever the input, the law answers true. -/
import Derived.Test.YtemdhcocbjcklaaBare
import Derived.Test.YtemdhcocbjcklaaRdec
namespace Go.Proofs.Ytemdhcocbjcklaa.Print
open Go.RowKit

set_option maxRecDepth 100000 in
set_option maxHeartbeats 800000 in
theorem decodes_long (stamp at_ : Int) (s : ByteArray) (hs : 900 < s.size) (hs2 : s.size ≤ 140737488351232) (w : World) :
    Calls Try.prog 7 #[.int .u32 stamp, .int .i64 at_, .string s] w fun e w' => e = .returned (.bool true) ∧ Below w.heap.size w w' := by
  go_enter Try.func7, Try.ntmps7
  go_wp2_with fail
  refine (bare_any _).mono ?_
  rintro e w1 ⟨rfl, hb1⟩
  go_wp2
  go_ret
  exact ⟨rfl, hb1⟩

set_option maxRecDepth 100000 in
set_option maxHeartbeats 800000 in
theorem decodes_of (stamp at_ : Int) (s : ByteArray) (hs : s.size ≤ 900) (k n e : Int) (p : ByteArray) (w : World)
    (hd : Hid (∀ w, Calls Try.prog 30 #[.int .u32 stamp, .int .i64 at_, .string s] w fun x w' => x = .returned (decV k p n e) ∧ Below w.heap.size w w'))
    (hr : Hid (∀ w, Calls Try.prog 32 #[.int .u32 stamp, .int .i64 at_, .string s] w fun x w' => x = .returned (gotV k p n e) ∧ Below w.heap.size w w')) :
    Calls Try.prog 7 #[.int .u32 stamp, .int .i64 at_, .string s] w fun e w' => e = .returned (.bool true) ∧ Below w.heap.size w w' := by
  go_enter Try.func7, Try.ntmps7
  go_wp2_with fail
  refine (hd.out _).mono ?_
  rintro e w1 ⟨rfl, hb1⟩
  go_wp2_with fail
  refine (hr.out _).mono ?_
  rintro e w2 ⟨rfl, hb2⟩
  have a2 := (hb2.block w1.heap.size (by simp)).trans (alloc_at _ _)
  have hlt := lt_of a2
  obtain ⟨c0, c1, f0, f1⟩ := two_of a2
  clear a2
  go_wp2_with fail
  refine (bare_any _).mono ?_
  rintro e w3 ⟨rfl, hb3⟩
  go_wp2
  go_ret
  refine ⟨rfl, ?_⟩
  have hB := (hb1.alloc hb1.size _).trans (hb2.mono (by have := hb1.size; simp; omega))
  exact (hB.alloc hB.size _).trans (hb3.mono (by have := hB.size; simp; omega))

/-! ### What both tell is the same -/
theorem read2 (s : ByteArray) (h : 2 ≤ s.size) : ((s[0]'(by omega)).toNat : Int) * (256 : Int) + ((s[1]'(by omega)).toNat : Int) = ((readL (s.extract 0 2).data.toList : Nat) : Int) := by
  have e : (s.extract 0 2).data.toList = [s[0]'(by omega), s[1]'(by omega)] := by
    rw [extract_list]
    have hl : 2 ≤ s.data.toList.length := by rw [← size_list]; exact h
    apply List.ext_getElem
    · simp; omega
    · intro i h1 h2
      have hi : i < 2 := by simpa using h2
      match i, hi with
      | 0, _ => simp; rfl
      | 1, _ => simp; rfl
  rw [e]
  simp [readL]
theorem body_cons (s : ByteArray) (n : Nat) (h5 : 1 ≤ n) (h7 : 6 + n ≤ s.size) :
    (s.extract 6 (6 + n)).data.toList = (s[6]'(by omega)) :: (s.extract 7 (6 + n)).data.toList := by
  have hl : 6 + n ≤ s.data.toList.length := by rw [← size_list]; exact h7
  rw [extract_list, extract_list, List.drop_eq_getElem_cons (by omega : 6 < s.data.toList.length)]
  obtain ⟨m, rfl⟩ : ∃ m, n = m + 1 := ⟨n - 1, by omega⟩
  rw [show 6 + (m + 1) - 6 = m + 1 by omega, List.take_succ_cons, show 6 + (m + 1) - 7 = m by omega]
  rfl
/-- A frame's bytes are these if and only if its CRC stands in its place. -/
theorem enc_iff (stamp at_ : Nat) (s : ByteArray) (n : Nat) (hn : readL (s.extract 0 2).data.toList = n) (h5 : 1 ≤ n) (h7 : 6 + n ≤ s.size) :
    bs (encL stamp at_ (s.extract 6 (6 + n)).data.toList) = s.extract 0 (6 + n) ↔ readL (s.extract 2 6).data.toList = sumL stamp at_ (s.extract 6 (6 + n)).data.toList := by
  have hl : 6 + n ≤ s.data.toList.length := by rw [← size_list]; exact h7
  have hbl : (s.extract 6 (6 + n)).data.toList.length = n := by rw [extract_list]; simp; omega
  have h2l : (s.extract 0 2).data.toList.length = 2 := by rw [extract_list]; simp; omega
  have h4l : (s.extract 2 6).data.toList.length = 4 := by rw [extract_list]; simp; omega
  have hS : sumL stamp at_ (s.extract 6 (6 + n)).data.toList < 256 ^ 4 := Crc.crc_lt _ _
  have hsplit : (s.extract 0 (6 + n)).data.toList = (s.extract 0 2).data.toList ++ ((s.extract 2 6).data.toList ++ (s.extract 6 (6 + n)).data.toList) := by
    rw [extract_list, extract_list, extract_list, extract_list]
    simp only [List.drop_zero, Nat.sub_zero]
    rw [show 6 + n = 2 + (4 + n) by omega, List.take_add, List.take_add, List.drop_drop, show 2 + (4 + n) - 6 = n by omega]
  have h2 : beL n 2 = (s.extract 0 2).data.toList := by
    have := beL_readL (s.extract 0 2).data.toList
    rwa [h2l, hn] at this
  have h4 : beL (readL (s.extract 2 6).data.toList) 4 = (s.extract 2 6).data.toList := by
    have := beL_readL (s.extract 2 6).data.toList
    rwa [h4l] at this
  constructor
  · intro h
    have h' := congrArg (fun s : ByteArray => s.data.toList) h
    simp only [bs_list] at h'
    rw [hsplit, encL, hbl, h2] at h'
    have h'' := List.append_cancel_left h'
    have h3 := List.append_inj_left h'' (by rw [beL_length, h4l])
    rw [← h3, readL_beL _ _ hS]
  · intro h
    apply list_inj
    rw [bs_list, hsplit, encL, hbl, h2, ← h, h4]

set_option maxHeartbeats 800000 in
theorem decodes_any (stamp : Nat) (at_ : Int) (s : ByteArray) (h1 : stamp < 4294967296) (hs2 : s.size ≤ 140737488351232) (w : World) :
    Calls Try.prog 7 #[.int .u32 stamp, .int .i64 at_, .string s] w fun e w' => e = .returned (.bool true) ∧ Below w.heap.size w w' := by
  by_cases hs : 900 < s.size
  · exact decodes_long stamp at_ s hs hs2 w
  have hs' : s.size ≤ 900 := by omega
  by_cases hp : at_ < 1 ∨ 16 ≤ at_
  · exact decodes_of stamp at_ s hs' 0 0 1 ⟨#[]⟩ w (dec_place stamp at_ s hp) (rdec_place stamp at_ s hp)
  have p1 : 1 ≤ at_ := by omega
  have p2 : at_ < 16 := by omega
  by_cases h4 : s.size < 2
  · exact decodes_of stamp at_ s hs' 0 0 3 ⟨#[]⟩ w (dec_short stamp at_ s p1 p2 h4) (rdec_short stamp at_ s p1 p2 h4)
  have h4' : 2 ≤ s.size := by omega
  obtain ⟨n, hn⟩ : ∃ n, readL (s.extract 0 2).data.toList = n := ⟨_, rfl⟩
  have hr := read2 s h4'
  rw [hn] at hr
  by_cases h5 : n = 0
  · exact decodes_of stamp at_ s hs' 0 0 6 ⟨#[]⟩ w (dec_none stamp at_ s p1 p2 h4' n hn h5) (rdec_none stamp at_ s p1 p2 h4' n hr h5)
  by_cases h6 : 774 < n
  · exact decodes_of stamp at_ s hs' 0 0 2 ⟨#[]⟩ w (dec_long stamp at_ s p1 p2 h4' n hn h6) (rdec_long stamp at_ s p1 p2 h4' n hr h6)
  have h5' : 1 ≤ n := by omega
  have h6' : n ≤ 774 := by omega
  by_cases h7 : s.size < 6 + n
  · exact decodes_of stamp at_ s hs' 0 0 3 ⟨#[]⟩ w (dec_part stamp at_ s p1 p2 h4' n hn h5' h6' h7) (rdec_part stamp at_ s p1 p2 h4' n hr h5' h6' h7)
  have h7' : 6 + n ≤ s.size := by omega
  obtain ⟨body, hb⟩ : ∃ body, s.extract 6 (6 + n) = body := ⟨_, rfl⟩
  have hbs : body.size = n := by rw [← hb, ByteArray.size_extract]; omega
  have hcons := body_cons s n h5' h7'
  rw [hb] at hcons
  have h0 : body[0]'(by omega) = s[6]'(by omega) := by
    have : body.data.toList[0]'(by rw [← size_list]; omega) = s[6]'(by omega) := by simp [hcons]
    exact this
  obtain ⟨a, rfl⟩ := Int.eq_ofNat_of_zero_le (by omega : 0 ≤ at_)
  by_cases hz : (s[6]'(by omega)).toNat = 0
  · exact decodes_of stamp a s hs' 0 0 4 ⟨#[]⟩ w (dec_zero stamp a s p1 p2 h4' n hn h5' h6' h7' body hb hbs (by rw [h0]; exact hz)) (rdec_zero stamp a s p1 p2 h4' n hr h5' h6' h7' hz)
  have hiff := enc_iff stamp a s n hn h5' h7'
  rw [hb, hcons] at hiff
  obtain ⟨c, hc⟩ : ∃ c, readL (s.extract 2 6).data.toList = c := ⟨_, rfl⟩
  have hc2 : c < 4294967296 := by
    rw [← hc]
    have h4l : (s.extract 2 6).data.toList.length = 4 := by rw [← size_list, ByteArray.size_extract]; omega
    have := readL_lt (s.extract 2 6).data.toList
    rwa [h4l] at this
  obtain ⟨S, hS⟩ : ∃ S, sumL stamp a body.data.toList = S := ⟨_, rfl⟩
  have hS2 : S < 4294967296 := by rw [← hS]; exact Crc.crc_lt _ _
  rw [hc] at hiff
  have hS' := hS
  rw [hcons] at hS'
  have hext : body.extract 1 body.size = s.extract 7 (6 + n) := by
    apply list_inj
    rw [extract_list, hcons, List.drop_succ_cons, List.drop_zero, List.take_of_length_le]
    rw [← size_list, ByteArray.size_extract]
    omega
  have q1 : 1 ≤ a := by omega
  have q2 : a < 16 := by omega
  rw [hS', ← UInt8.ofNat_toNat (x := s[6]'(by omega))] at hiff
  by_cases he : c = S
  · have hd := fun w => dec_ok stamp a s h1 q1 q2 h4' n hn h5' h6' h7' body hb hbs (by rw [h0]; exact hz) c hc hc2 S hS hS2 he w
    rw [hext, h0] at hd
    exact decodes_of stamp a s hs' _ _ 0 _ w hd (rdec_ok stamp a s h1 q1 q2 h4' n hr h5' h6' h7' hz (hiff.2 he))
  · exact decodes_of stamp a s hs' 0 0 4 ⟨#[]⟩ w (dec_sum stamp a s h1 q1 q2 h4' n hn h5' h6' h7' body hb hbs (by rw [h0]; exact hz) c hc hc2 S hS hS2 he)
      (rdec_sum stamp a s h1 q1 q2 h4' n hr h5' h6' h7' hz (fun h => he (hiff.1 h)))

end Go.Proofs.Ytemdhcocbjcklaa.Print
