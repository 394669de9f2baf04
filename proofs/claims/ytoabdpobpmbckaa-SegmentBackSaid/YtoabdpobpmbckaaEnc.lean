/- What frame.Encode comes to: a frame's bytes, or why there are none. -/
import Derived.Test.YtoabdpobpmbckaaFrame
namespace Go.Proofs.Ytoabdpobpmbckaa.Print
open Go.RowKit

/-- A frame's bytes. -/
def encL (stamp at_ : Nat) (body : List UInt8) : List UInt8 := beL body.length 2 ++ (beL (sumL stamp at_ body) 4 ++ body)

theorem ret_str_int {k : IntKind} {a b : ByteArray} {c : Int} (h : a = b) : Ending.returned (.tuple #[.string a, .int k c]) = .returned (.tuple #[.string b, .int k c]) := by rw [h]
set_option maxRecDepth 100000 in
set_option maxHeartbeats 400000 in
theorem enc_ok (stamp at_ kind : Nat) (p : ByteArray) (h1 : stamp < 4294967296) (h2 : 1 ≤ at_) (h3 : at_ < 16) (h4 : 1 ≤ kind) (h5 : kind ≤ 255) (h6 : p.size ≤ 773) (w : World) :
    Calls Try.prog 89 #[.int .u32 stamp, .int .i64 at_, .agg #[.int .i64 kind, .string p]] w fun e w' =>
      e = .returned (.tuple #[.string (bs (encL stamp at_ (UInt8.ofNat kind :: p.data.toList))), .int .i64 0]) ∧ Below w.heap.size w w' := by
  have hk1 : decide ((kind : Int) < 1) = false := by simp; omega
  have hk2 : decide (255 < (kind : Int)) = false := by simp; omega
  have hk3 : decide (773 < (p.size : Int)) = false := by simp; omega
  have hcv := conv_one (w.alloc (.cells #[.int .i64 kind, .string p] 55)) (w.heap.size + 1) kind (by simp)
  rw [Int.toNat_natCast] at hcv
  go_enter Try.func89, Try.ntmps89
  go_wp2_with fail
  refine (fplace_any _ _ true (by simp; omega)).mono ?_
  rintro e w1 ⟨rfl, rfl⟩
  have hs1 : (bs [UInt8.ofNat kind]).size = 1 := bs_size _
  go_wp2_with fail
  refine (ffixed_any (1 + p.size) 2 _ (by omega) (by omega) (by omega) (by omega) (by omega) _).mono ?_
  rintro e w1 ⟨rfl, hb1⟩
  go_wp2_with fail
  refine (fsum_any stamp at_ _ h1 (by omega) (by rw [ByteArray.size_append, hs1]; omega) _).mono ?_
  rintro e w2 ⟨rfl, hb2⟩
  obtain ⟨S, hS⟩ : ∃ S, sumL stamp at_ (bs [UInt8.ofNat kind] ++ p).data.toList = S := ⟨_, rfl⟩
  rw [hS]
  have hSl : S < 4294967296 := by rw [← hS]; exact Crc.crc_lt _ _
  have HS := Lib.hid hS
  clear hS
  go_wp2_with fail
  refine (ffixed_any S 4 _ (by omega) (by omega) (by omega) (by omega) (by omega) _).mono ?_
  rintro e w3 ⟨rfl, hb3⟩
  have hs2 : (be (1 + p.size) 2).size = 2 := be_size _ _
  have hs3 : (be S 4).size = 4 := be_size _ _
  go_wp2
  go_ret2
  refine ⟨?_, ?_⟩
  · have hS := HS.out
    rw [append_list, bs_list] at hS
    refine ret_str_int (list_inj ?_)
    rw [append_list, append_list, append_list, be_list, be_list, bs_list, bs_list, encL, ← hS, size_list p, Nat.add_comm 1]
    simp
  · exact (((Below.refl _ _).alloc (Nat.le_refl _) _).alloc (by simp) _).trans ((below_chain (below_chain hb1 hb2) hb3).mono (by simp; omega))

theorem enc_bad (stamp : Int) (at_ kind : Int) (p : ByteArray) (h : kind < 1 ∨ 255 < kind ∨ at_ < 1 ∨ 16 ≤ at_) (w : World) :
    Calls Try.prog 89 #[.int .u32 stamp, .int .i64 at_, .agg #[.int .i64 kind, .string p]] w fun e w' =>
      e = .returned (.tuple #[.string ⟨#[]⟩, .int .i64 1]) ∧ Below w.heap.size w w' := by
  by_cases c1 : kind < 1
  · go_enter Try.func89, Try.ntmps89
    go_wp2
    go_ret2
    exact ⟨rfl, (Below.refl _ _).alloc (Nat.le_refl _) _⟩
  have hk1 : decide ((kind : Int) < 1) = false := by simp; omega
  by_cases c2 : 255 < kind
  · go_enter Try.func89, Try.ntmps89
    go_wp2
    go_ret2
    exact ⟨rfl, (Below.refl _ _).alloc (Nat.le_refl _) _⟩
  have hk2 : decide (255 < (kind : Int)) = false := by simp; omega
  go_enter Try.func89, Try.ntmps89
  go_wp2_with fail
  refine (fplace_any _ _ false (by simp; omega)).mono ?_
  rintro e w1 ⟨rfl, rfl⟩
  go_wp2
  go_ret2
  exact ⟨rfl, (Below.refl _ _).alloc (Nat.le_refl _) _⟩

theorem enc_long (stamp : Int) (at_ kind : Int) (p : ByteArray) (h2 : 1 ≤ at_) (h3 : at_ < 16) (h4 : 1 ≤ kind) (h5 : kind ≤ 255) (h6 : 773 < p.size) (w : World) :
    Calls Try.prog 89 #[.int .u32 stamp, .int .i64 at_, .agg #[.int .i64 kind, .string p]] w fun e w' =>
      e = .returned (.tuple #[.string ⟨#[]⟩, .int .i64 2]) ∧ Below w.heap.size w w' := by
  have hk1 : decide ((kind : Int) < 1) = false := by simp; omega
  have hk2 : decide (255 < (kind : Int)) = false := by simp; omega
  go_enter Try.func89, Try.ntmps89
  go_wp2_with fail
  refine (fplace_any _ _ true (by simp; omega)).mono ?_
  rintro e w1 ⟨rfl, rfl⟩
  go_wp2
  go_ret2
  exact ⟨rfl, (Below.refl _ _).alloc (Nat.le_refl _) _⟩

end Go.Proofs.Ytoabdpobpmbckaa.Print
