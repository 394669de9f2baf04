/- What frame.Decode and weighlockref08.Decode tell, as one plain function of the bytes. -/
import Derived.Test.YtoobiffhjjfpgaaGreatRdec
namespace Go.Proofs.YtoobiffhjjfpgaaGreat.Print
open Go.RowKit

/-! ### What both tell is the same -/
theorem read2 (s : ByteArray) (h : 2 ≤ s.size) : ((s[0]'(by omega)).toNat : Int) * (256 : Int) + ((s[1]'(by omega)).toNat : Int) = ((readL (s.extract 0 2).data.toList : Nat) : Int) := by
  have e : (s.extract 0 2).data.toList = [s[0]'(by omega), s[1]'(by omega)] := by
    rw [extract_list]
    have hl : 2 ≤ s.data.toList.length := by rw [← size_list]; exact h
    apply List.ext_getElem
    · simp; omega
    · intro i h1 h2
      have hi : i < 2 := by simpa using h2
      match i, hi with
      | 0, _ => simp; rfl
      | 1, _ => simp; rfl
  rw [e]
  simp [readL]
theorem body_cons (s : ByteArray) (n : Nat) (h5 : 1 ≤ n) (h7 : 6 + n ≤ s.size) :
    (s.extract 6 (6 + n)).data.toList = (s[6]'(by omega)) :: (s.extract 7 (6 + n)).data.toList := by
  have hl : 6 + n ≤ s.data.toList.length := by rw [← size_list]; exact h7
  rw [extract_list, extract_list, List.drop_eq_getElem_cons (by omega : 6 < s.data.toList.length)]
  obtain ⟨m, rfl⟩ : ∃ m, n = m + 1 := ⟨n - 1, by omega⟩
  rw [show 6 + (m + 1) - 6 = m + 1 by omega, List.take_succ_cons, show 6 + (m + 1) - 7 = m by omega]
  rfl
/-- A frame's bytes are these if and only if its CRC stands in its place. -/
theorem enc_iff (stamp at_ : Nat) (s : ByteArray) (n : Nat) (hn : readL (s.extract 0 2).data.toList = n) (h5 : 1 ≤ n) (h7 : 6 + n ≤ s.size) :
    bs (encL stamp at_ (s.extract 6 (6 + n)).data.toList) = s.extract 0 (6 + n) ↔ readL (s.extract 2 6).data.toList = sumL stamp at_ (s.extract 6 (6 + n)).data.toList := by
  have hl : 6 + n ≤ s.data.toList.length := by rw [← size_list]; exact h7
  have hbl : (s.extract 6 (6 + n)).data.toList.length = n := by rw [extract_list]; simp; omega
  have h2l : (s.extract 0 2).data.toList.length = 2 := by rw [extract_list]; simp; omega
  have h4l : (s.extract 2 6).data.toList.length = 4 := by rw [extract_list]; simp; omega
  have hS : sumL stamp at_ (s.extract 6 (6 + n)).data.toList < 256 ^ 4 := Crc.crc_lt _ _
  have hsplit : (s.extract 0 (6 + n)).data.toList = (s.extract 0 2).data.toList ++ ((s.extract 2 6).data.toList ++ (s.extract 6 (6 + n)).data.toList) := by
    rw [extract_list, extract_list, extract_list, extract_list]
    simp only [List.drop_zero, Nat.sub_zero]
    rw [show 6 + n = 2 + (4 + n) by omega, List.take_add, List.take_add, List.drop_drop, show 2 + (4 + n) - 6 = n by omega]
  have h2 : beL n 2 = (s.extract 0 2).data.toList := by
    have := beL_readL (s.extract 0 2).data.toList
    rwa [h2l, hn] at this
  have h4 : beL (readL (s.extract 2 6).data.toList) 4 = (s.extract 2 6).data.toList := by
    have := beL_readL (s.extract 2 6).data.toList
    rwa [h4l] at this
  constructor
  · intro h
    have h' := congrArg (fun s : ByteArray => s.data.toList) h
    simp only [bs_list] at h'
    rw [hsplit, encL, hbl, h2] at h'
    have h'' := List.append_cancel_left h'
    have h3 := List.append_inj_left h'' (by rw [beL_length, h4l])
    rw [← h3, readL_beL _ _ hS]
  · intro h
    apply list_inj
    rw [bs_list, hsplit, encL, hbl, h2, ← h, h4]


/-- The body of the frame with which bytes begin, if there is one. -/
def decP (stamp at_ : Nat) (s : List UInt8) : Option (List UInt8) :=
  let n := readL (s.take 2)
  let body := (s.drop 6).take n
  if s.length < 2 ∨ n = 0 ∨ 774 < n ∨ s.length < 6 + n ∨ body.headD 0 = 0 ∨ readL ((s.drop 2).take 4) ≠ sumL stamp at_ body then none else some body
theorem decP_some {stamp at_ : Nat} {s : List UInt8} {b : List UInt8} (h : decP stamp at_ s = some b) :
    2 ≤ s.length ∧ 1 ≤ readL (s.take 2) ∧ readL (s.take 2) ≤ 774 ∧ 6 + readL (s.take 2) ≤ s.length ∧ b = (s.drop 6).take (readL (s.take 2)) ∧ b.headD 0 ≠ 0 ∧ readL ((s.drop 2).take 4) = sumL stamp at_ b := by
  unfold decP at h
  simp only at h
  split at h
  · cases h
  · rename_i hn
    cases h
    simp only [not_or] at hn
    exact ⟨by omega, by omega, by omega, by omega, rfl, hn.2.2.2.2.1, Decidable.not_not.1 hn.2.2.2.2.2⟩
theorem decP_none {stamp at_ : Nat} {s : List UInt8} (h : s.length < 2 ∨ readL (s.take 2) = 0 ∨ 774 < readL (s.take 2) ∨ s.length < 6 + readL (s.take 2)) : decP stamp at_ s = none := by
  unfold decP
  simp only
  rw [if_pos]
  rcases h with h | h | h | h
  · exact .inl h
  · exact .inr (.inl h)
  · exact .inr (.inr (.inl h))
  · exact .inr (.inr (.inr (.inl h)))
/-- Only so many bytes count. -/
theorem decP_prefix {stamp at_ : Nat} {s t : List UInt8} (m : Nat) (h : s.take m = t.take m) (h2 : 2 ≤ m) (hs : m ≤ s.length) (ht : m ≤ t.length) (hm : 6 + readL (s.take 2) ≤ m) : decP stamp at_ s = decP stamp at_ t := by
  have e2 : s.take 2 = t.take 2 := by
    have := congrArg (List.take 2) h
    rwa [List.take_take, List.take_take, Nat.min_eq_left h2] at this
  have e4 : (s.drop 2).take 4 = (t.drop 2).take 4 := by
    have := congrArg (fun l => (l.take 6).drop 2) h
    simp only [List.take_take, Nat.min_eq_left (show 6 ≤ m by omega)] at this
    rw [List.drop_take, List.drop_take] at this
    exact this
  have eb : (s.drop 6).take (readL (s.take 2)) = (t.drop 6).take (readL (s.take 2)) := by
    have := congrArg (fun l => (l.take (6 + readL (s.take 2))).drop 6) h
    simp only [List.take_take, Nat.min_eq_left hm] at this
    rw [List.drop_take, List.drop_take, Nat.add_sub_cancel_left] at this
    exact this
  unfold decP
  simp only
  rw [← e2, ← e4, ← eb]
  have : (s.length < 2 ↔ t.length < 2) := by omega
  have h3 : (s.length < 6 + readL (s.take 2) ↔ t.length < 6 + readL (s.take 2)) := by omega
  simp only [this, h3]
theorem body_list (s : ByteArray) (n : Nat) : (s.extract 6 (6 + n)).data.toList = (s.data.toList.drop 6).take n := by rw [extract_list, Nat.add_sub_cancel_left]
/-- The program's alone: it decodes by decP. -/
theorem dec_any (stamp at_ : Nat) (s : ByteArray) (h1 : stamp < 4294967296) (p1 : 1 ≤ at_) (p2 : at_ < 16) :
    (decP stamp at_ s.data.toList = none ∧ ∃ e : Int, e ≠ 0 ∧ (∀ w, Calls Tryz.prog 140 #[.int .u32 stamp, .int .i64 at_, .string s] w fun x w' => x = .returned (decV 0 ⟨#[]⟩ 0 e) ∧ Below w.heap.size w w') ∧ True) ∨
    (∃ b, decP stamp at_ s.data.toList = some b ∧ (∀ w, Calls Tryz.prog 140 #[.int .u32 stamp, .int .i64 at_, .string s] w fun x w' => x = .returned (decV (b.headD 0).toNat (bs b.tail) (6 + b.length : Nat) 0) ∧ Below w.heap.size w w') ∧ True) := by
  have q1 : (1 : Int) ≤ at_ := by omega
  have q2 : (at_ : Int) < 16 := by omega
  have hsl := size_list s
  have e02 : (s.extract 0 2).data.toList = s.data.toList.take 2 := by rw [extract_list]; simp
  by_cases h4 : s.size < 2
  · exact .inl ⟨decP_none (.inl (by omega)), 3, by decide, dec_short stamp at_ s q1 q2 h4, trivial⟩
  have h4' : 2 ≤ s.size := by omega
  obtain ⟨n, hn⟩ : ∃ n, readL (s.extract 0 2).data.toList = n := ⟨_, rfl⟩
  have hr := read2 s h4'
  rw [hn] at hr
  have hn' := hn
  rw [e02] at hn'
  by_cases h5 : n = 0
  · exact .inl ⟨decP_none (.inr (.inl (by omega))), 6, by decide, dec_none stamp at_ s q1 q2 h4' n hn h5, trivial⟩
  by_cases h6 : 774 < n
  · exact .inl ⟨decP_none (.inr (.inr (.inl (by omega)))), 2, by decide, dec_long stamp at_ s q1 q2 h4' n hn h6, trivial⟩
  have h5' : 1 ≤ n := by omega
  have h6' : n ≤ 774 := by omega
  by_cases h7 : s.size < 6 + n
  · exact .inl ⟨decP_none (.inr (.inr (.inr (by omega)))), 3, by decide, dec_part stamp at_ s q1 q2 h4' n hn h5' h6' h7, trivial⟩
  have h7' : 6 + n ≤ s.size := by omega
  obtain ⟨body, hb⟩ : ∃ body, s.extract 6 (6 + n) = body := ⟨_, rfl⟩
  have hbs : body.size = n := by rw [← hb, ByteArray.size_extract]; omega
  have hcons := body_cons s n h5' h7'
  have hbl := body_list s n
  rw [hb] at hcons hbl
  have h0 : body[0]'(by omega) = s[6]'(by omega) := by
    have : body.data.toList[0]'(by rw [← size_list]; omega) = s[6]'(by omega) := by simp [hcons]
    exact this
  have hhead : body.data.toList.headD 0 = s[6]'(by omega) := by rw [hcons]; rfl
  obtain ⟨c, hc⟩ : ∃ c, readL (s.extract 2 6).data.toList = c := ⟨_, rfl⟩
  have hc' : readL ((s.data.toList.drop 2).take 4) = c := by rw [← hc, extract_list]
  by_cases hz : (s[6]'(by omega)).toNat = 0
  · refine .inl ⟨?_, 4, by decide, dec_zero stamp at_ s q1 q2 h4' n hn h5' h6' h7' body hb hbs (by rw [h0]; exact hz), trivial⟩
    unfold decP
    simp only
    rw [if_pos]
    refine .inr (.inr (.inr (.inr (.inl ?_))))
    rw [hn', ← hbl, hhead]
    exact UInt8.toNat_inj.1 hz
  have hiff := enc_iff stamp at_ s n hn h5' h7'
  rw [hb, hcons] at hiff
  have hc2 : c < 4294967296 := by
    rw [← hc]
    have h4l : (s.extract 2 6).data.toList.length = 4 := by rw [← size_list, ByteArray.size_extract]; omega
    have := readL_lt (s.extract 2 6).data.toList
    rwa [h4l] at this
  obtain ⟨S, hS⟩ : ∃ S, sumL stamp at_ body.data.toList = S := ⟨_, rfl⟩
  have hS2 : S < 4294967296 := by rw [← hS]; exact Crc.crc_lt _ _
  rw [hc] at hiff
  have hS' := hS
  rw [hcons] at hS'
  have hext : body.extract 1 body.size = s.extract 7 (6 + n) := by
    apply list_inj
    rw [extract_list, hcons, List.drop_succ_cons, List.drop_zero, List.take_of_length_le]
    rw [← size_list, ByteArray.size_extract]
    omega
  rw [hS', ← UInt8.ofNat_toNat (x := s[6]'(by omega))] at hiff
  by_cases he : c = S
  · refine .inr ⟨body.data.toList, ?_, ?_, trivial⟩
    · unfold decP
      simp only
      rw [hn', ← hbl, hc', hS, if_neg]
      simp only [not_or]
      exact ⟨by omega, by omega, by omega, by omega, by rw [hhead]; exact fun h => hz (by rw [h]; rfl), Decidable.not_not.2 he⟩
    · intro w
      have hd := dec_ok stamp at_ s h1 p1 p2 h4' n hn h5' h6' h7' body hb hbs (by rw [h0]; exact hz) c hc hc2 S hS hS2 he w
      rw [h0] at hd
      rw [hhead, ← size_list, hbs, show bs body.data.toList.tail = body.extract 1 body.size by rw [hext]; apply list_inj; rw [bs_list, hcons]; rfl]
      exact hd
  · refine .inl ⟨?_, 4, by decide, dec_sum stamp at_ s h1 p1 p2 h4' n hn h5' h6' h7' body hb hbs (by rw [h0]; exact hz) c hc hc2 S hS hS2 he, trivial⟩
    unfold decP
    simp only
    rw [if_pos]
    refine .inr (.inr (.inr (.inr (.inr ?_))))
    rw [hn', ← hbl, hc', hS]
    exact he
/-- Decode of what Encode wrote. -/
theorem decP_enc {stamp at_ : Nat} {b r : List UInt8} (h1 : 1 ≤ b.length) (h2 : b.length ≤ 774) (h0 : b.headD 0 ≠ 0) : decP stamp at_ (encL stamp at_ b ++ r) = some b := by
  have e2 : (encL stamp at_ b ++ r).take 2 = beL b.length 2 := by
    rw [encL, List.append_assoc, List.take_append_of_le_length (Nat.le_of_eq (beL_length _ _).symm), List.take_of_length_le (Nat.le_of_eq (beL_length _ _))]
  have d2 : (encL stamp at_ b ++ r).drop 2 = beL (sumL stamp at_ b) 4 ++ (b ++ r) := by
    rw [encL, List.append_assoc, List.drop_left' (beL_length _ _), List.append_assoc]
  have d6 : (encL stamp at_ b ++ r).drop 6 = b ++ r := by
    rw [show 6 = 2 + 4 from rfl, ← List.drop_drop, d2, List.drop_left' (beL_length _ _)]
  have hn : readL ((encL stamp at_ b ++ r).take 2) = b.length := by rw [e2, readL_beL _ _ (by omega)]
  have hl : (encL stamp at_ b ++ r).length = 6 + b.length + r.length := by simp [encL, beL_length]; omega
  unfold decP
  simp only
  rw [hn, d6, d2, List.take_append_of_le_length (Nat.le_refl _), List.take_length, List.take_append_of_le_length (Nat.le_of_eq (beL_length _ _).symm), List.take_of_length_le (Nat.le_of_eq (beL_length _ _)), readL_beL _ _ (Crc.crc_lt _ _), if_neg]
  simp only [not_or]
  exact ⟨by omega, by omega, by omega, by omega, h0, Decidable.not_not.2 rfl⟩
end Go.Proofs.YtoobiffhjjfpgaaGreat.Print
