/- What the reference of layer 8 comes to: Encode, Wrong, Decode. -/
import Derived.Test.YtoabdpobpmbckaaFrame
import Derived.Test.YtoabdpobpmbckaaPre1
import Derived.Deep.RegionHeld3
namespace Go.Proofs.Ytoabdpobpmbckaa.Print
open Go.RowKit

theorem renc_any (stamp at_ kind : Nat) (p : ByteArray) (h1 : stamp < 4294967296) (h2 : at_ < 65536) (h3 : kind < 256) (h4 : p.size ≤ 140737488351232) (w : World) :
    Calls Try.prog 76 #[.int .u32 stamp, .int .i64 at_, .agg #[.int .i64 kind, .string p]] w fun e w' =>
      e = .returned (.string (bs (encL stamp at_ (UInt8.ofNat kind :: p.data.toList)))) ∧ Below w.heap.size w w' := by
  refine Pre.weighlockref08_Encode.calls stamp at_ kind p _ w ?_
  have hS : sumL stamp at_ (UInt8.ofNat kind :: p.data.toList) < 4294967296 := Crc.crc_lt _ _
  unfold Pre.weighlockref08_Encode.f
  have e1 : IntKind.u64.wrap (wrap64 ((p.size : Int) + 1)) = ((p.size + 1 : Nat) : Int) := by unfold wrap64; rw [IntKind.wrap_u64]; omega
  have e2 : weighlockref08_sum.f stamp at_ kind p = some ((sumL stamp at_ (UInt8.ofNat kind :: p.data.toList) : Nat) : Int) := by
    unfold weighlockref08_sum.f
    rw [if_pos (by omega)]
    simp only [Int.toNat_natCast]
  have e3 : weighlockref01_Fixed.f (IntKind.u64.wrap (wrap64 ((p.size : Int) + 1))) 2 = some (be (p.size + 1) 2) := by
    rw [e1]; unfold weighlockref01_Fixed.f
    rw [if_pos (by omega)]
    simp only [Int.toNat_natCast]; rfl
  have e4 : weighlockref01_Fixed.f (IntKind.u64.wrap ((sumL stamp at_ (UInt8.ofNat kind :: p.data.toList) : Nat) : Int)) 4 = some (be (sumL stamp at_ (UInt8.ofNat kind :: p.data.toList)) 4) := by
    rw [show IntKind.u64.wrap ((sumL stamp at_ (UInt8.ofNat kind :: p.data.toList) : Nat) : Int) = ((sumL stamp at_ (UInt8.ofNat kind :: p.data.toList) : Nat) : Int) by rw [IntKind.wrap_u64]; omega]
    unfold weighlockref01_Fixed.f
    rw [if_pos (by omega)]
    simp only [Int.toNat_natCast]; rfl
  have e5 : strOfNums [(kind : Int) % 256] = bs [UInt8.ofNat kind] := by
    rw [show (kind : Int) % 256 = (kind : Int) by omega]; rfl
  rw [e3, Option.bind_some, e2, Option.bind_some, e4, Option.bind_some, if_pos (by rw [be_size, be_size]; omega), Option.bind_some, e5, if_pos (by rw [ByteArray.size_append, be_size, be_size, bs_size]; simp),
    if_pos (by rw [ByteArray.size_append, ByteArray.size_append, be_size, be_size, bs_size, List.length_singleton]; omega)]
  refine congrArg some (list_inj ?_)
  rw [append_list, append_list, append_list, be_list, be_list, bs_list, bs_list, encL, List.length_cons, ← size_list]
  simp

theorem rwrong_bad (at_ kind : Int) (p : ByteArray) (h : kind < 1 ∨ 255 < kind ∨ at_ < 1 ∨ 16 ≤ at_) (w : World) :
    Calls Try.prog 75 #[.int .i64 at_, .agg #[.int .i64 kind, .string p]] w fun e w' =>
      e = .returned (.int .i64 1) ∧ Below w.heap.size w w' := by
  by_cases c1 : kind < 1
  · go_enter Try.func75, Try.ntmps75
    go_wp2
    go_ret
    exact ⟨rfl, (Below.refl _ _).alloc (Nat.le_refl _) _⟩
  have hk1 : decide ((kind : Int) < 1) = false := by simp; omega
  by_cases c2 : 255 < kind
  · go_enter Try.func75, Try.ntmps75
    go_wp2
    go_ret
    exact ⟨rfl, (Below.refl _ _).alloc (Nat.le_refl _) _⟩
  have hk2 : decide (255 < (kind : Int)) = false := by simp; omega
  go_enter Try.func75, Try.ntmps75
  go_wp2_with fail
  refine (rplace_any _ _ false (by simp; omega)).mono ?_
  rintro e w1 ⟨rfl, rfl⟩
  go_wp2
  go_ret
  exact ⟨rfl, (Below.refl _ _).alloc (Nat.le_refl _) _⟩
theorem rwrong_long (at_ kind : Int) (p : ByteArray) (h2 : 1 ≤ at_) (h3 : at_ < 16) (h4 : 1 ≤ kind) (h5 : kind ≤ 255) (b : Bool) (h6 : decide (773 < (p.size : Int)) = b) (w : World) :
    Calls Try.prog 75 #[.int .i64 at_, .agg #[.int .i64 kind, .string p]] w fun e w' =>
      e = .returned (.int .i64 (if b then 2 else 0)) ∧ Below w.heap.size w w' := by
  have hk1 : decide ((kind : Int) < 1) = false := by simp; omega
  have hk2 : decide (255 < (kind : Int)) = false := by simp; omega
  cases b
  · go_enter Try.func75, Try.ntmps75
    go_wp2_with fail
    refine (rplace_any _ _ true (by simp; omega)).mono ?_
    rintro e w1 ⟨rfl, rfl⟩
    go_wp2
    go_ret
    exact ⟨rfl, (Below.refl _ _).alloc (Nat.le_refl _) _⟩
  · go_enter Try.func75, Try.ntmps75
    go_wp2_with fail
    refine (rplace_any _ _ true (by simp; omega)).mono ?_
    rintro e w1 ⟨rfl, rfl⟩
    go_wp2
    go_ret
    exact ⟨rfl, (Below.refl _ _).alloc (Nat.le_refl _) _⟩

/-- What weighlockref08.Decode tells. -/
abbrev gotV (kind : Int) (p : ByteArray) (n e : Int) : Value := .agg #[.int .i64 kind, .string p, .int .i64 n, .int .i64 e]
set_option maxRecDepth 100000 in
set_option maxHeartbeats 400000 in
theorem rdec_place (stamp : Nat) (at_ : Int) (s : ByteArray) (h2 : at_ < 1 ∨ 16 ≤ at_) (w : World) :
    Calls Try.prog 87 #[.int .u32 stamp, .int .i64 at_, .string s] w fun e w' =>
      e = .returned (gotV 0 ⟨#[]⟩ 0 1) ∧ Below w.heap.size w w' := by
  go_enter Try.func87, Try.ntmps87
  go_wp2_with fail
  refine (rplace_any _ _ false (by simp; omega)).mono ?_
  rintro e w1 ⟨rfl, rfl⟩
  go_wp2
  exact bodyPost_ret (v := gotV 0 ⟨#[]⟩ 0 1) (by simp [results, Try.results87, go_sem]) rfl ⟨rfl, (by repeat (first | exact Below.refl _ _ | refine Below.setCell ?_ (by simp) _ | refine below_drewN ?_ _ | refine Below.drew ?_ | refine Below.alloc ?_ (by simp) _))⟩
set_option maxRecDepth 100000 in
set_option maxHeartbeats 400000 in
theorem rdec_short (stamp : Nat) (at_ : Int) (s : ByteArray) (h2 : 1 ≤ at_) (h3 : at_ < 16) (h4 : s.size < 2) (w : World) :
    Calls Try.prog 87 #[.int .u32 stamp, .int .i64 at_, .string s] w fun e w' =>
      e = .returned (gotV 0 ⟨#[]⟩ 0 3) ∧ Below w.heap.size w w' := by
  go_enter Try.func87, Try.ntmps87
  go_wp2_with fail
  refine (rplace_any _ _ true (by simp; omega)).mono ?_
  rintro e w1 ⟨rfl, rfl⟩
  go_wp2
  exact bodyPost_ret (v := gotV 0 ⟨#[]⟩ 0 3) (by simp [results, Try.results87, go_sem]) rfl ⟨rfl, (by repeat (first | exact Below.refl _ _ | refine Below.setCell ?_ (by simp) _ | refine below_drewN ?_ _ | refine Below.drew ?_ | refine Below.alloc ?_ (by simp) _))⟩
set_option maxRecDepth 100000 in
set_option maxHeartbeats 400000 in
theorem rdec_none (stamp : Nat) (at_ : Int) (s : ByteArray) (h2 : 1 ≤ at_) (h3 : at_ < 16) (h4 : 2 ≤ s.size) (n : Nat) (hn : ((s[0]'(by omega)).toNat : Int) * (256 : Int) + ((s[1]'(by omega)).toNat : Int) = (n : Int)) (h5 : n = 0) (w : World) :
    Calls Try.prog 87 #[.int .u32 stamp, .int .i64 at_, .string s] w fun e w' =>
      e = .returned (gotV 0 ⟨#[]⟩ 0 6) ∧ Below w.heap.size w w' := by
  have hk1 : decide ((s.size : Int) < 2) = false := by simp; omega
  have i0 : (0 : Int) < s.size := by omega
  have i1 : (1 : Int) < s.size := by omega
  have j0 : 0 < s.size := by omega
  have j1 : 1 < s.size := by omega
  have b0 : (s[0]'(by omega)).toNat < 256 := by have := (s[0]'(by omega)).toNat_lt; omega
  have b1 : (s[1]'(by omega)).toNat < 256 := by have := (s[1]'(by omega)).toNat_lt; omega
  have v0 : IntKind.i64.wrap ((s[0]'(by omega)).toNat : Int) = ((s[0]'(by omega)).toNat : Int) := by rw [IntKind.wrap_i64]; omega
  have v1 : IntKind.i64.wrap ((s[1]'(by omega)).toNat : Int) = ((s[1]'(by omega)).toNat : Int) := by rw [IntKind.wrap_i64]; omega
  have v2 : IntKind.i64.wrap (((s[0]'(by omega)).toNat : Int) * (256 : Int)) = ((s[0]'(by omega)).toNat : Int) * (256 : Int) := by rw [IntKind.wrap_i64]; omega
  have v3 : IntKind.i64.wrap (n : Int) = n := by rw [IntKind.wrap_i64]; omega
  have hk4 : ((n : Int) == 0) = true := by simp; omega
  go_enter Try.func87, Try.ntmps87
  go_wp2_with fail
  refine (rplace_any _ _ true (by simp; omega)).mono ?_
  rintro e w1 ⟨rfl, rfl⟩
  go_wp2
  go_quiet (fail)
  go_wp2
  exact bodyPost_ret (v := gotV 0 ⟨#[]⟩ 0 6) (by simp [results, Try.results87, go_sem]) rfl ⟨rfl, (by repeat (first | exact Below.refl _ _ | refine Below.setCell ?_ (by simp) _ | refine below_drewN ?_ _ | refine Below.drew ?_ | refine Below.alloc ?_ (by simp) _))⟩
set_option maxRecDepth 100000 in
set_option maxHeartbeats 400000 in
theorem rdec_long (stamp : Nat) (at_ : Int) (s : ByteArray) (h2 : 1 ≤ at_) (h3 : at_ < 16) (h4 : 2 ≤ s.size) (n : Nat) (hn : ((s[0]'(by omega)).toNat : Int) * (256 : Int) + ((s[1]'(by omega)).toNat : Int) = (n : Int)) (h5 : 774 < n) (w : World) :
    Calls Try.prog 87 #[.int .u32 stamp, .int .i64 at_, .string s] w fun e w' =>
      e = .returned (gotV 0 ⟨#[]⟩ 0 2) ∧ Below w.heap.size w w' := by
  have hk1 : decide ((s.size : Int) < 2) = false := by simp; omega
  have i0 : (0 : Int) < s.size := by omega
  have i1 : (1 : Int) < s.size := by omega
  have j0 : 0 < s.size := by omega
  have j1 : 1 < s.size := by omega
  have b0 : (s[0]'(by omega)).toNat < 256 := by have := (s[0]'(by omega)).toNat_lt; omega
  have b1 : (s[1]'(by omega)).toNat < 256 := by have := (s[1]'(by omega)).toNat_lt; omega
  have v0 : IntKind.i64.wrap ((s[0]'(by omega)).toNat : Int) = ((s[0]'(by omega)).toNat : Int) := by rw [IntKind.wrap_i64]; omega
  have v1 : IntKind.i64.wrap ((s[1]'(by omega)).toNat : Int) = ((s[1]'(by omega)).toNat : Int) := by rw [IntKind.wrap_i64]; omega
  have v2 : IntKind.i64.wrap (((s[0]'(by omega)).toNat : Int) * (256 : Int)) = ((s[0]'(by omega)).toNat : Int) * (256 : Int) := by rw [IntKind.wrap_i64]; omega
  have v3 : IntKind.i64.wrap (n : Int) = n := by rw [IntKind.wrap_i64]; omega
  have hk4 : ((n : Int) == 0) = false := by simp; omega
  go_enter Try.func87, Try.ntmps87
  go_wp2_with fail
  refine (rplace_any _ _ true (by simp; omega)).mono ?_
  rintro e w1 ⟨rfl, rfl⟩
  go_wp2
  go_quiet (fail)
  go_wp2
  exact bodyPost_ret (v := gotV 0 ⟨#[]⟩ 0 2) (by simp [results, Try.results87, go_sem]) rfl ⟨rfl, (by repeat (first | exact Below.refl _ _ | refine Below.setCell ?_ (by simp) _ | refine below_drewN ?_ _ | refine Below.drew ?_ | refine Below.alloc ?_ (by simp) _))⟩
set_option maxRecDepth 100000 in
set_option maxHeartbeats 400000 in
theorem rdec_part (stamp : Nat) (at_ : Int) (s : ByteArray) (h2 : 1 ≤ at_) (h3 : at_ < 16) (h4 : 2 ≤ s.size) (n : Nat) (hn : ((s[0]'(by omega)).toNat : Int) * (256 : Int) + ((s[1]'(by omega)).toNat : Int) = (n : Int)) (h5 : 1 ≤ n) (h6 : n ≤ 774) (h7 : s.size < 6 + n) (w : World) :
    Calls Try.prog 87 #[.int .u32 stamp, .int .i64 at_, .string s] w fun e w' =>
      e = .returned (gotV 0 ⟨#[]⟩ 0 3) ∧ Below w.heap.size w w' := by
  have hk1 : decide ((s.size : Int) < 2) = false := by simp; omega
  have i0 : (0 : Int) < s.size := by omega
  have i1 : (1 : Int) < s.size := by omega
  have j0 : 0 < s.size := by omega
  have j1 : 1 < s.size := by omega
  have b0 : (s[0]'(by omega)).toNat < 256 := by have := (s[0]'(by omega)).toNat_lt; omega
  have b1 : (s[1]'(by omega)).toNat < 256 := by have := (s[1]'(by omega)).toNat_lt; omega
  have v0 : IntKind.i64.wrap ((s[0]'(by omega)).toNat : Int) = ((s[0]'(by omega)).toNat : Int) := by rw [IntKind.wrap_i64]; omega
  have v1 : IntKind.i64.wrap ((s[1]'(by omega)).toNat : Int) = ((s[1]'(by omega)).toNat : Int) := by rw [IntKind.wrap_i64]; omega
  have v2 : IntKind.i64.wrap (((s[0]'(by omega)).toNat : Int) * (256 : Int)) = ((s[0]'(by omega)).toNat : Int) * (256 : Int) := by rw [IntKind.wrap_i64]; omega
  have v3 : IntKind.i64.wrap (n : Int) = n := by rw [IntKind.wrap_i64]; omega
  have hk2 : decide (774 < (n : Int)) = false := by simp; omega
  have hk4 : ((n : Int) == 0) = false := by simp; omega
  go_enter Try.func87, Try.ntmps87
  go_wp2_with fail
  refine (rplace_any _ _ true (by simp; omega)).mono ?_
  rintro e w1 ⟨rfl, rfl⟩
  go_wp2
  go_quiet (fail)
  go_wp2
  exact bodyPost_ret (v := gotV 0 ⟨#[]⟩ 0 3) (by simp [results, Try.results87, go_sem]) rfl ⟨rfl, (by repeat (first | exact Below.refl _ _ | refine Below.setCell ?_ (by simp) _ | refine below_drewN ?_ _ | refine Below.drew ?_ | refine Below.alloc ?_ (by simp) _))⟩
set_option maxRecDepth 100000 in
set_option maxHeartbeats 400000 in
theorem rdec_zero (stamp : Nat) (at_ : Int) (s : ByteArray) (h2 : 1 ≤ at_) (h3 : at_ < 16) (h4 : 2 ≤ s.size) (n : Nat) (hn : ((s[0]'(by omega)).toNat : Int) * (256 : Int) + ((s[1]'(by omega)).toNat : Int) = (n : Int)) (h5 : 1 ≤ n) (h6 : n ≤ 774) (h7 : 6 + n ≤ s.size) (hz : (s[6]'(by omega)).toNat = 0) (w : World) :
    Calls Try.prog 87 #[.int .u32 stamp, .int .i64 at_, .string s] w fun e w' =>
      e = .returned (gotV 0 ⟨#[]⟩ 0 4) ∧ Below w.heap.size w w' := by
  have hk1 : decide ((s.size : Int) < 2) = false := by simp; omega
  have i0 : (0 : Int) < s.size := by omega
  have i1 : (1 : Int) < s.size := by omega
  have j0 : 0 < s.size := by omega
  have j1 : 1 < s.size := by omega
  have b0 : (s[0]'(by omega)).toNat < 256 := by have := (s[0]'(by omega)).toNat_lt; omega
  have b1 : (s[1]'(by omega)).toNat < 256 := by have := (s[1]'(by omega)).toNat_lt; omega
  have v0 : IntKind.i64.wrap ((s[0]'(by omega)).toNat : Int) = ((s[0]'(by omega)).toNat : Int) := by rw [IntKind.wrap_i64]; omega
  have v1 : IntKind.i64.wrap ((s[1]'(by omega)).toNat : Int) = ((s[1]'(by omega)).toNat : Int) := by rw [IntKind.wrap_i64]; omega
  have v2 : IntKind.i64.wrap (((s[0]'(by omega)).toNat : Int) * (256 : Int)) = ((s[0]'(by omega)).toNat : Int) * (256 : Int) := by rw [IntKind.wrap_i64]; omega
  have v3 : IntKind.i64.wrap (n : Int) = n := by rw [IntKind.wrap_i64]; omega
  have hk2 : decide (774 < (n : Int)) = false := by simp; omega
  have hk3 : decide ((s.size : Int) < 6 + n) = false := by simp; omega
  have hk4 : ((n : Int) == 0) = false := by simp; omega
  have i6 : (6 : Int) < s.size := by omega
  have j6 : 6 < s.size := by omega
  have b6 : (s[6]'(by omega)).toNat < 256 := by have := (s[6]'(by omega)).toNat_lt; omega
  go_enter Try.func87, Try.ntmps87
  go_wp2_with fail
  refine (rplace_any _ _ true (by simp; omega)).mono ?_
  rintro e w1 ⟨rfl, rfl⟩
  go_wp2
  go_quiet (fail)
  go_wp2
  go_region
  go_wp2
  go_quiet (fail)
  go_wp2
  exact bodyPost_ret (v := gotV 0 ⟨#[]⟩ 0 4) (by simp [results, Try.results87, go_sem]) rfl ⟨rfl, (by repeat (first | exact Below.refl _ _ | refine Below.setCell ?_ (by simp) _ | refine below_drewN ?_ _ | refine Below.drew ?_ | refine Below.alloc ?_ (by simp) _))⟩
set_option maxRecDepth 100000 in
set_option maxHeartbeats 400000 in
theorem rdec_sum (stamp : Nat) (at_ : Nat) (s : ByteArray) (h1 : stamp < 4294967296) (h2 : 1 ≤ at_) (h3 : at_ < 16) (h4 : 2 ≤ s.size) (n : Nat) (hn : ((s[0]'(by omega)).toNat : Int) * (256 : Int) + ((s[1]'(by omega)).toNat : Int) = (n : Int)) (h5 : 1 ≤ n) (h6 : n ≤ 774) (h7 : 6 + n ≤ s.size) (hz : ¬(s[6]'(by omega)).toNat = 0) (hne : bs (encL stamp at_ (UInt8.ofNat (s[6]'(by omega)).toNat :: (s.extract 7 (6 + n)).data.toList)) ≠ s.extract 0 (6 + n)) (w : World) :
    Calls Try.prog 87 #[.int .u32 stamp, .int .i64 at_, .string s] w fun e w' =>
      e = .returned (gotV 0 ⟨#[]⟩ 0 4) ∧ Below w.heap.size w w' := by
  have hk1 : decide ((s.size : Int) < 2) = false := by simp; omega
  have i0 : (0 : Int) < s.size := by omega
  have i1 : (1 : Int) < s.size := by omega
  have j0 : 0 < s.size := by omega
  have j1 : 1 < s.size := by omega
  have b0 : (s[0]'(by omega)).toNat < 256 := by have := (s[0]'(by omega)).toNat_lt; omega
  have b1 : (s[1]'(by omega)).toNat < 256 := by have := (s[1]'(by omega)).toNat_lt; omega
  have v0 : IntKind.i64.wrap ((s[0]'(by omega)).toNat : Int) = ((s[0]'(by omega)).toNat : Int) := by rw [IntKind.wrap_i64]; omega
  have v1 : IntKind.i64.wrap ((s[1]'(by omega)).toNat : Int) = ((s[1]'(by omega)).toNat : Int) := by rw [IntKind.wrap_i64]; omega
  have v2 : IntKind.i64.wrap (((s[0]'(by omega)).toNat : Int) * (256 : Int)) = ((s[0]'(by omega)).toNat : Int) * (256 : Int) := by rw [IntKind.wrap_i64]; omega
  have v3 : IntKind.i64.wrap (n : Int) = n := by rw [IntKind.wrap_i64]; omega
  have hk2 : decide (774 < (n : Int)) = false := by simp; omega
  have hk3 : decide ((s.size : Int) < 6 + n) = false := by simp; omega
  have hk4 : ((n : Int) == 0) = false := by simp; omega
  have i6 : (6 : Int) < s.size := by omega
  have j6 : 6 < s.size := by omega
  have b6 : (s[6]'(by omega)).toNat < 256 := by have := (s[6]'(by omega)).toNat_lt; omega
  have hz2 : (((s[6]'(by omega)).toNat : Int) == 0) = false := by simp; omega
  have b6' : (0 : Int) ≤ ((s[6]'(by omega)).toNat : Int) := by omega
  have i8 : (6 : Int) + n ≤ s.size := by omega
  have i9 : (0 : Int) ≤ 6 + n := by omega
  have v8 : IntKind.i64.wrap ((6 : Int) + n) = (6 : Int) + n := by rw [IntKind.wrap_i64]; omega
  obtain ⟨E, hE⟩ : ∃ E, bs (encL stamp at_ (UInt8.ofNat (s[6]'(by omega)).toNat :: (s.extract 7 (6 + n)).data.toList)) = E := ⟨_, rfl⟩
  have k1 := fun w => renc_any stamp at_ (s[6]'(by omega)).toNat (s.extract 7 (6 + n)) h1 (by omega) b6 (by simp; omega) w
  rw [hE] at k1 hne
  clear hE
  have hq : (E.toList == (s.extract 0 ((6 : Int) + (n : Int)).toNat).toList) = false := by
    rw [show ((6 : Int) + n).toNat = 6 + n by omega, ByteArray.toList_eq, ByteArray.toList_eq, beq_eq_false_iff_ne]
    exact fun h => hne (list_inj h)
  have K1 := Lib.hid k1
  clear k1
  go_enter Try.func87, Try.ntmps87
  go_wp2_with fail
  refine (rplace_any _ _ true (by simp; omega)).mono ?_
  rintro e w1 ⟨rfl, rfl⟩
  go_wp2
  go_quiet (fail)
  go_wp2
  go_region
  go_wp2_with fail
  obtain ⟨W, hW⟩ : ∃ W, (((w.alloc (.cells #[.int .i64 0, .string ⟨#[]⟩, .int .i64 0, .int .i64 0] 155)).drewN (nq + 1)).alloc (.cells #[.int .i64 ((s[6]'(by omega)).toNat : Int), .string (s.extract 7 (6 + n))] 55)) = W := ⟨_, rfl⟩
  have hat : W.heap[w.heap.size + 1]? = some (.cells #[.int .i64 ((s[6]'(by omega)).toNat : Int), .string (s.extract 7 (6 + n))] 55) := by
    rw [← hW]
    exact alloc_at' _ _ _ (by simp)
  obtain ⟨c0, c1, f0, f1⟩ := two_of hat
  have hat2 : W.heap[w.heap.size]? = some (.cells #[.int .i64 0, .string ⟨#[]⟩, .int .i64 0, .int .i64 0] 155) := by
    rw [← hW]
    exact alloc_old (alloc_at' _ _ _ rfl) _
  have hB0 : Below w.heap.size w W := by
    rw [← hW]
    exact (below_drewN ((Below.refl _ _).alloc (Nat.le_refl _) _) _).alloc (by simp) _
  have hlt : w.heap.size + 1 < W.heap.size := by rw [← hW]; simp
  rw [hW]
  have HW := Lib.hid hW
  clear hW
  go_region_held3 (fun w' => w'.cell? ⟨w.heap.size + 1, 0, none⟩ = some (.int .i64 ((s[6]'(by omega)).toNat : Int)) ∧ w'.cell? ⟨w.heap.size + 1, 1, none⟩ = some (.string (s.extract 7 (6 + n))) ∧ Below W.heap.size W w') ((first | assumption | exact keep_drew2 c0 c1 | exact keep_call2 hlt (by assumption) hb | exact keep_alloc2 hlt (by assumption) _))
    (first | (go_at_call 76; with_reducible refine (K1.out _).mono ?_; rintro e w' ⟨rfl, hb⟩))
  have hS : w'.cell? ⟨w.heap.size + 1, 0, none⟩ = some (.int .i64 ((s[6]'(by omega)).toNat : Int)) ∧ w'.cell? ⟨w.heap.size + 1, 1, none⟩ = some (.string (s.extract 7 (6 + n))) ∧ Below W.heap.size W w' := by assumption
  obtain ⟨g0, g1, hB1⟩ := hS
  obtain ⟨d0, d1, d2, d3, f0, f1, f2, f3⟩ := four_of ((hB1.block w.heap.size (by omega)).trans hat2)
  have hB2 := hB0.trans (hB1.mono (by omega))
  have hsz := hB2.size
  clear hB1 hB0
  go_wp2
  exact bodyPost_ret (v := gotV 0 ⟨#[]⟩ 0 4) (by simp [results, Try.results87, go_sem, d0, d1, d2, d3]) rfl ⟨rfl, (by repeat (first | exact hB2 | refine Below.setCell ?_ (by simp) _ | refine below_drewN ?_ _ | refine Below.drew ?_ | refine Below.alloc ?_ (by simp) _))⟩
set_option maxRecDepth 100000 in
set_option maxHeartbeats 400000 in
theorem rdec_ok (stamp : Nat) (at_ : Nat) (s : ByteArray) (h1 : stamp < 4294967296) (h2 : 1 ≤ at_) (h3 : at_ < 16) (h4 : 2 ≤ s.size) (n : Nat) (hn : ((s[0]'(by omega)).toNat : Int) * (256 : Int) + ((s[1]'(by omega)).toNat : Int) = (n : Int)) (h5 : 1 ≤ n) (h6 : n ≤ 774) (h7 : 6 + n ≤ s.size) (hz : ¬(s[6]'(by omega)).toNat = 0) (hne : bs (encL stamp at_ (UInt8.ofNat (s[6]'(by omega)).toNat :: (s.extract 7 (6 + n)).data.toList)) = s.extract 0 (6 + n)) (w : World) :
    Calls Try.prog 87 #[.int .u32 stamp, .int .i64 at_, .string s] w fun e w' =>
      e = .returned (gotV (s[6]'(by omega)).toNat (s.extract 7 (6 + n)) (6 + n : Nat) 0) ∧ Below w.heap.size w w' := by
  have hk1 : decide ((s.size : Int) < 2) = false := by simp; omega
  have i0 : (0 : Int) < s.size := by omega
  have i1 : (1 : Int) < s.size := by omega
  have j0 : 0 < s.size := by omega
  have j1 : 1 < s.size := by omega
  have b0 : (s[0]'(by omega)).toNat < 256 := by have := (s[0]'(by omega)).toNat_lt; omega
  have b1 : (s[1]'(by omega)).toNat < 256 := by have := (s[1]'(by omega)).toNat_lt; omega
  have v0 : IntKind.i64.wrap ((s[0]'(by omega)).toNat : Int) = ((s[0]'(by omega)).toNat : Int) := by rw [IntKind.wrap_i64]; omega
  have v1 : IntKind.i64.wrap ((s[1]'(by omega)).toNat : Int) = ((s[1]'(by omega)).toNat : Int) := by rw [IntKind.wrap_i64]; omega
  have v2 : IntKind.i64.wrap (((s[0]'(by omega)).toNat : Int) * (256 : Int)) = ((s[0]'(by omega)).toNat : Int) * (256 : Int) := by rw [IntKind.wrap_i64]; omega
  have v3 : IntKind.i64.wrap (n : Int) = n := by rw [IntKind.wrap_i64]; omega
  have hk2 : decide (774 < (n : Int)) = false := by simp; omega
  have hk3 : decide ((s.size : Int) < 6 + n) = false := by simp; omega
  have hk4 : ((n : Int) == 0) = false := by simp; omega
  have i6 : (6 : Int) < s.size := by omega
  have j6 : 6 < s.size := by omega
  have b6 : (s[6]'(by omega)).toNat < 256 := by have := (s[6]'(by omega)).toNat_lt; omega
  have hz2 : (((s[6]'(by omega)).toNat : Int) == 0) = false := by simp; omega
  have b6' : (0 : Int) ≤ ((s[6]'(by omega)).toNat : Int) := by omega
  have i8 : (6 : Int) + n ≤ s.size := by omega
  have i9 : (0 : Int) ≤ 6 + n := by omega
  have v8 : IntKind.i64.wrap ((6 : Int) + n) = (6 : Int) + n := by rw [IntKind.wrap_i64]; omega
  obtain ⟨E, hE⟩ : ∃ E, bs (encL stamp at_ (UInt8.ofNat (s[6]'(by omega)).toNat :: (s.extract 7 (6 + n)).data.toList)) = E := ⟨_, rfl⟩
  have k1 := fun w => renc_any stamp at_ (s[6]'(by omega)).toNat (s.extract 7 (6 + n)) h1 (by omega) b6 (by simp; omega) w
  rw [hE] at k1 hne
  clear hE
  have hq : (E.toList == (s.extract 0 ((6 : Int) + (n : Int)).toNat).toList) = true := by
    rw [show ((6 : Int) + n).toNat = 6 + n by omega, hne]
    exact beq_self_eq_true _
  clear hne
  have K1 := Lib.hid k1
  clear k1
  go_enter Try.func87, Try.ntmps87
  go_wp2_with fail
  refine (rplace_any _ _ true (by simp; omega)).mono ?_
  rintro e w1 ⟨rfl, rfl⟩
  go_wp2
  go_quiet (fail)
  go_wp2
  go_region
  go_wp2_with fail
  obtain ⟨W, hW⟩ : ∃ W, (((w.alloc (.cells #[.int .i64 0, .string ⟨#[]⟩, .int .i64 0, .int .i64 0] 155)).drewN (nq + 1)).alloc (.cells #[.int .i64 ((s[6]'(by omega)).toNat : Int), .string (s.extract 7 (6 + n))] 55)) = W := ⟨_, rfl⟩
  have hat : W.heap[w.heap.size + 1]? = some (.cells #[.int .i64 ((s[6]'(by omega)).toNat : Int), .string (s.extract 7 (6 + n))] 55) := by
    rw [← hW]
    exact alloc_at' _ _ _ (by simp)
  obtain ⟨c0, c1, f0, f1⟩ := two_of hat
  have hat2 : W.heap[w.heap.size]? = some (.cells #[.int .i64 0, .string ⟨#[]⟩, .int .i64 0, .int .i64 0] 155) := by
    rw [← hW]
    exact alloc_old (alloc_at' _ _ _ rfl) _
  have hB0 : Below w.heap.size w W := by
    rw [← hW]
    exact (below_drewN ((Below.refl _ _).alloc (Nat.le_refl _) _) _).alloc (by simp) _
  have hlt : w.heap.size + 1 < W.heap.size := by rw [← hW]; simp
  rw [hW]
  have HW := Lib.hid hW
  clear hW
  go_region_held3 (fun w' => w'.cell? ⟨w.heap.size + 1, 0, none⟩ = some (.int .i64 ((s[6]'(by omega)).toNat : Int)) ∧ w'.cell? ⟨w.heap.size + 1, 1, none⟩ = some (.string (s.extract 7 (6 + n))) ∧ Below W.heap.size W w') ((first | assumption | exact keep_drew2 c0 c1 | exact keep_call2 hlt (by assumption) hb | exact keep_alloc2 hlt (by assumption) _))
    (first | (go_at_call 76; with_reducible refine (K1.out _).mono ?_; rintro e w' ⟨rfl, hb⟩))
  have hS : w'.cell? ⟨w.heap.size + 1, 0, none⟩ = some (.int .i64 ((s[6]'(by omega)).toNat : Int)) ∧ w'.cell? ⟨w.heap.size + 1, 1, none⟩ = some (.string (s.extract 7 (6 + n))) ∧ Below W.heap.size W w' := by assumption
  obtain ⟨g0, g1, hB1⟩ := hS
  obtain ⟨d0, d1, d2, d3, f0, f1, f2, f3⟩ := four_of ((hB1.block w.heap.size (by omega)).trans hat2)
  have hB2 := hB0.trans (hB1.mono (by omega))
  have hsz := hB2.size
  clear hB1 hB0
  go_wp2
  exact bodyPost_ret (v := gotV (s[6]'(by omega)).toNat (s.extract 7 (6 + n)) (6 + n : Nat) 0) (by simp [results, Try.results87, go_sem, d0, d1, d2, d3]) rfl ⟨rfl, (by repeat (first | exact hB2 | refine Below.setCell ?_ (by simp) _ | refine below_drewN ?_ _ | refine Below.drew ?_ | refine Below.alloc ?_ (by simp) _))⟩

end Go.Proofs.Ytoabdpobpmbckaa.Print
