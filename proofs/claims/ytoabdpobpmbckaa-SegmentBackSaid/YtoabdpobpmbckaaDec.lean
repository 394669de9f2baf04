/- What frame.Decode comes to: the frame with which bytes begin, or why there is none. -/
import Derived.Test.YtoabdpobpmbckaaEnc
namespace Go.Proofs.Ytoabdpobpmbckaa.Print
open Go.RowKit

/-- What frame.Decode tells: a frame, how many bytes it has, an error. -/
abbrev decV (kind : Int) (p : ByteArray) (n e : Int) : Value := .tuple #[.agg #[.int .i64 kind, .string p], .int .i64 n, .int .i64 e]
set_option maxRecDepth 100000 in
set_option maxHeartbeats 400000 in
theorem dec_place (stamp : Nat) (at_ : Int) (s : ByteArray) (h2 : at_ < 1 ∨ 16 ≤ at_) (w : World) :
    Calls Try.prog 129 #[.int .u32 stamp, .int .i64 at_, .string s] w fun e w' =>
      e = .returned (decV 0 ⟨#[]⟩ 0 1) ∧ Below w.heap.size w w' := by
  go_enter Try.func129, Try.ntmps129
  go_wp2_with fail
  refine (fplace_any _ _ false (by simp; omega)).mono ?_
  rintro e w1 ⟨rfl, rfl⟩
  go_wp2
  exact bodyPost_ret (v := decV 0 ⟨#[]⟩ 0 1) (by simp [results, Try.results129, go_sem]) rfl ⟨rfl, (Below.refl _ _).alloc (Nat.le_refl _) _⟩
set_option maxRecDepth 100000 in
set_option maxHeartbeats 400000 in
theorem dec_short (stamp : Nat) (at_ : Int) (s : ByteArray) (h2 : 1 ≤ at_) (h3 : at_ < 16) (h4 : s.size < 2) (w : World) :
    Calls Try.prog 129 #[.int .u32 stamp, .int .i64 at_, .string s] w fun e w' =>
      e = .returned (decV 0 ⟨#[]⟩ 0 3) ∧ Below w.heap.size w w' := by
  go_enter Try.func129, Try.ntmps129
  go_wp2_with fail
  refine (fplace_any _ _ true (by simp; omega)).mono ?_
  rintro e w1 ⟨rfl, rfl⟩
  go_wp2
  exact bodyPost_ret (v := decV 0 ⟨#[]⟩ 0 3) (by simp [results, Try.results129, go_sem]) rfl ⟨rfl, (Below.refl _ _).alloc (Nat.le_refl _) _⟩
set_option maxRecDepth 100000 in
set_option maxHeartbeats 400000 in
theorem dec_none (stamp : Nat) (at_ : Int) (s : ByteArray) (h2 : 1 ≤ at_) (h3 : at_ < 16) (h4 : 2 ≤ s.size) (n : Nat) (hn : readL (s.extract 0 2).data.toList = n) (h5 : n = 0) (w : World) :
    Calls Try.prog 129 #[.int .u32 stamp, .int .i64 at_, .string s] w fun e w' =>
      e = .returned (decV 0 ⟨#[]⟩ 0 6) ∧ Below w.heap.size w w' := by
  have hk1 : decide ((s.size : Int) < 2) = false := by simp; omega
  have HN := Lib.hid hn
  clear hn
  subst h5
  go_enter Try.func129, Try.ntmps129
  go_wp2_with fail
  refine (fplace_any _ _ true (by simp; omega)).mono ?_
  rintro e w1 ⟨rfl, rfl⟩
  go_wp2_with fail
  refine (number_any (s.extract 0 2) (by simp; omega) (by simp; omega) _).mono ?_
  rintro e w1 ⟨rfl, rfl⟩
  rw [HN.out]
  go_wp2
  exact bodyPost_ret (v := decV 0 ⟨#[]⟩ 0 6) (by simp [results, Try.results129, go_sem]) rfl ⟨rfl, (Below.refl _ _).alloc (Nat.le_refl _) _⟩
set_option maxRecDepth 100000 in
set_option maxHeartbeats 400000 in
theorem dec_long (stamp : Nat) (at_ : Int) (s : ByteArray) (h2 : 1 ≤ at_) (h3 : at_ < 16) (h4 : 2 ≤ s.size) (n : Nat) (hn : readL (s.extract 0 2).data.toList = n) (h5 : 774 < n) (w : World) :
    Calls Try.prog 129 #[.int .u32 stamp, .int .i64 at_, .string s] w fun e w' =>
      e = .returned (decV 0 ⟨#[]⟩ 0 2) ∧ Below w.heap.size w w' := by
  have hk1 : decide ((s.size : Int) < 2) = false := by simp; omega
  have HN := Lib.hid hn
  clear hn
  have hk4 : ((n : Int) == 0) = false := by simp; omega
  go_enter Try.func129, Try.ntmps129
  go_wp2_with fail
  refine (fplace_any _ _ true (by simp; omega)).mono ?_
  rintro e w1 ⟨rfl, rfl⟩
  go_wp2_with fail
  refine (number_any (s.extract 0 2) (by simp; omega) (by simp; omega) _).mono ?_
  rintro e w1 ⟨rfl, rfl⟩
  rw [HN.out]
  go_wp2
  exact bodyPost_ret (v := decV 0 ⟨#[]⟩ 0 2) (by simp [results, Try.results129, go_sem]) rfl ⟨rfl, (Below.refl _ _).alloc (Nat.le_refl _) _⟩
set_option maxRecDepth 100000 in
set_option maxHeartbeats 400000 in
theorem dec_part (stamp : Nat) (at_ : Int) (s : ByteArray) (h2 : 1 ≤ at_) (h3 : at_ < 16) (h4 : 2 ≤ s.size) (n : Nat) (hn : readL (s.extract 0 2).data.toList = n) (h5 : 1 ≤ n) (h6 : n ≤ 774) (h7 : s.size < 6 + n) (w : World) :
    Calls Try.prog 129 #[.int .u32 stamp, .int .i64 at_, .string s] w fun e w' =>
      e = .returned (decV 0 ⟨#[]⟩ 0 3) ∧ Below w.heap.size w w' := by
  have hk1 : decide ((s.size : Int) < 2) = false := by simp; omega
  have HN := Lib.hid hn
  clear hn
  have hk2 : decide (774 < (n : Int)) = false := by simp; omega
  have hk4 : ((n : Int) == 0) = false := by simp; omega
  go_enter Try.func129, Try.ntmps129
  go_wp2_with fail
  refine (fplace_any _ _ true (by simp; omega)).mono ?_
  rintro e w1 ⟨rfl, rfl⟩
  go_wp2_with fail
  refine (number_any (s.extract 0 2) (by simp; omega) (by simp; omega) _).mono ?_
  rintro e w1 ⟨rfl, rfl⟩
  rw [HN.out]
  go_wp2
  exact bodyPost_ret (v := decV 0 ⟨#[]⟩ 0 3) (by simp [results, Try.results129, go_sem]) rfl ⟨rfl, (Below.refl _ _).alloc (Nat.le_refl _) _⟩
set_option maxRecDepth 100000 in
set_option maxHeartbeats 400000 in
theorem dec_zero (stamp : Nat) (at_ : Int) (s : ByteArray) (h2 : 1 ≤ at_) (h3 : at_ < 16) (h4 : 2 ≤ s.size) (n : Nat) (hn : readL (s.extract 0 2).data.toList = n) (h5 : 1 ≤ n) (h6 : n ≤ 774) (h7 : 6 + n ≤ s.size) (body : ByteArray) (hb : s.extract 6 (6 + n) = body) (hbs : body.size = n) (hz : (body[0]'(by omega)).toNat = 0) (w : World) :
    Calls Try.prog 129 #[.int .u32 stamp, .int .i64 at_, .string s] w fun e w' =>
      e = .returned (decV 0 ⟨#[]⟩ 0 4) ∧ Below w.heap.size w w' := by
  have hk1 : decide ((s.size : Int) < 2) = false := by simp; omega
  have HN := Lib.hid hn
  clear hn
  have hk2 : decide (774 < (n : Int)) = false := by simp; omega
  have hk3 : decide ((s.size : Int) < 6 + n) = false := by simp; omega
  have hk4 : ((n : Int) == 0) = false := by simp; omega
  go_enter Try.func129, Try.ntmps129
  go_wp2_with fail
  refine (fplace_any _ _ true (by simp; omega)).mono ?_
  rintro e w1 ⟨rfl, rfl⟩
  go_wp2_with fail
  refine (number_any (s.extract 0 2) (by simp; omega) (by simp; omega) _).mono ?_
  rintro e w1 ⟨rfl, rfl⟩
  rw [HN.out]
  go_wp2
  exact bodyPost_ret (v := decV 0 ⟨#[]⟩ 0 4) (by simp [results, Try.results129, go_sem]) rfl ⟨rfl, (Below.refl _ _).alloc (Nat.le_refl _) _⟩
set_option maxRecDepth 100000 in
set_option maxHeartbeats 400000 in
theorem dec_sum (stamp : Nat) (at_ : Nat) (s : ByteArray) (h1 : stamp < 4294967296) (h2 : 1 ≤ at_) (h3 : at_ < 16) (h4 : 2 ≤ s.size) (n : Nat) (hn : readL (s.extract 0 2).data.toList = n) (h5 : 1 ≤ n) (h6 : n ≤ 774) (h7 : 6 + n ≤ s.size) (body : ByteArray) (hb : s.extract 6 (6 + n) = body) (hbs : body.size = n) (hz : ¬(body[0]'(by omega)).toNat = 0) (c : Nat) (hc : readL (s.extract 2 6).data.toList = c) (_hc2 : c < 4294967296) (S : Nat) (hS : sumL stamp at_ body.data.toList = S) (hS2 : S < 4294967296) (hne : c ≠ S) (w : World) :
    Calls Try.prog 129 #[.int .u32 stamp, .int .i64 at_, .string s] w fun e w' =>
      e = .returned (decV 0 ⟨#[]⟩ 0 4) ∧ Below w.heap.size w w' := by
  have hk1 : decide ((s.size : Int) < 2) = false := by simp; omega
  have HN := Lib.hid hn
  clear hn
  have hk2 : decide (774 < (n : Int)) = false := by simp; omega
  have hk3 : decide ((s.size : Int) < 6 + n) = false := by simp; omega
  have hk4 : ((n : Int) == 0) = false := by simp; omega
  have hz2 : (((body[0]'(by omega)).toNat : Int) == 0) = false := by simp; omega
  have HC := Lib.hid hc
  clear hc
  have HS := Lib.hid hS
  clear hS
  have hne2 : ((c : Int) != (S : Int)) = true := by simp; omega
  go_enter Try.func129, Try.ntmps129
  go_wp2_with fail
  refine (fplace_any _ _ true (by simp; omega)).mono ?_
  rintro e w1 ⟨rfl, rfl⟩
  go_wp2_with fail
  refine (number_any (s.extract 0 2) (by simp; omega) (by simp; omega) _).mono ?_
  rintro e w1 ⟨rfl, rfl⟩
  rw [HN.out]
  go_wp2_with fail
  refine (number_any (s.extract 2 6) (by simp; omega) (by simp; omega) _).mono ?_
  rintro e w1 ⟨rfl, rfl⟩
  rw [HC.out]
  go_wp2_with fail
  refine (fsum_any stamp at_ body h1 (by omega) (by omega) _).mono ?_
  rintro e w2 ⟨rfl, hb2⟩
  rw [HS.out]
  obtain ⟨c0, c1, f0, f1⟩ := two_of ((hb2.block w.heap.size (by simp)).trans (alloc_at _ _))
  go_wp2
  exact bodyPost_ret (v := decV 0 ⟨#[]⟩ 0 4) (by simp [results, Try.results129, go_sem, c0, c1]) rfl
    ⟨rfl, ((((Below.refl _ _).alloc (Nat.le_refl _) _).trans (hb2.mono (by simp))).setCell (by simp) _).setCell (by simp) _⟩
set_option maxRecDepth 100000 in
set_option maxHeartbeats 400000 in
theorem dec_ok (stamp : Nat) (at_ : Nat) (s : ByteArray) (h1 : stamp < 4294967296) (h2 : 1 ≤ at_) (h3 : at_ < 16) (h4 : 2 ≤ s.size) (n : Nat) (hn : readL (s.extract 0 2).data.toList = n) (h5 : 1 ≤ n) (h6 : n ≤ 774) (h7 : 6 + n ≤ s.size) (body : ByteArray) (hb : s.extract 6 (6 + n) = body) (hbs : body.size = n) (hz : ¬(body[0]'(by omega)).toNat = 0) (c : Nat) (hc : readL (s.extract 2 6).data.toList = c) (_hc2 : c < 4294967296) (S : Nat) (hS : sumL stamp at_ body.data.toList = S) (hS2 : S < 4294967296) (hne : c = S) (w : World) :
    Calls Try.prog 129 #[.int .u32 stamp, .int .i64 at_, .string s] w fun e w' =>
      e = .returned (decV (body[0]'(by omega)).toNat (body.extract 1 body.size) (6 + n : Nat) 0) ∧ Below w.heap.size w w' := by
  subst hne
  have hlt : (body[0]'(by omega)).toNat < 256 := by have := (body[0]'(by omega)).toNat_lt; omega
  have hk1 : decide ((s.size : Int) < 2) = false := by simp; omega
  have HN := Lib.hid hn
  clear hn
  have hk2 : decide (774 < (n : Int)) = false := by simp; omega
  have hk3 : decide ((s.size : Int) < 6 + n) = false := by simp; omega
  have hk4 : ((n : Int) == 0) = false := by simp; omega
  have hne2 : ((c : Int) != (c : Int)) = false := by simp
  have hz2 : (((body[0]'(by omega)).toNat : Int) == 0) = false := by simp; omega
  have HC := Lib.hid hc
  clear hc
  have HS := Lib.hid hS
  clear hS
  go_enter Try.func129, Try.ntmps129
  go_wp2_with fail
  refine (fplace_any _ _ true (by simp; omega)).mono ?_
  rintro e w1 ⟨rfl, rfl⟩
  go_wp2_with fail
  refine (number_any (s.extract 0 2) (by simp; omega) (by simp; omega) _).mono ?_
  rintro e w1 ⟨rfl, rfl⟩
  rw [HN.out]
  go_wp2_with fail
  refine (number_any (s.extract 2 6) (by simp; omega) (by simp; omega) _).mono ?_
  rintro e w1 ⟨rfl, rfl⟩
  rw [HC.out]
  go_wp2_with fail
  refine (fsum_any stamp at_ body h1 (by omega) (by omega) _).mono ?_
  rintro e w2 ⟨rfl, hb2⟩
  rw [HS.out]
  obtain ⟨c0, c1, f0, f1⟩ := two_of ((hb2.block w.heap.size (by simp)).trans (alloc_at _ _))
  go_wp2
  go_region
  all_goals
    go_wp2
    exact bodyPost_ret (v := decV (body[0]'(by omega)).toNat (body.extract 1 body.size) (6 + n : Nat) 0) (by simp [results, Try.results129, go_sem, c0, c1, hbs]) rfl
      ⟨rfl, (((((Below.refl _ _).alloc (Nat.le_refl _) _).trans (hb2.mono (by simp))).setCell (by simp) _).setCell (by simp) _).drew⟩

end Go.Proofs.Ytoabdpobpmbckaa.Print
