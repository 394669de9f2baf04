/- weighlockref11: Encode. -/
import Derived.Test.YtoabdpobpmbckaaHead
import Derived.Test.YtoabdpobpmbckaaPreH1
namespace Go.Proofs.Ytoabdpobpmbckaa.Print
open Go.RowKit
theorem fixed_f (v n : Nat) (a : Int) (ha : a = n) (hv : v < 9223372036854775808) (hn : n ≤ 8) : weighlockref01_Fixed.f (IntKind.u64.wrap (v : Int)) a = some (be v n) := by
  subst ha
  rw [wrap_u64_nat v hv, weighlockref01_Fixed.f, if_pos ⟨by omega, by omega, by omega, by omega⟩]
  rfl
theorem rencode_any (h : H4) (hf : HFits h) (w : World) :
    Calls Try.prog 74 #[hdV h.1 h.2.1 h.2.2.1 h.2.2.2] w fun x w' => x = .returned (.string (bs (hdrL h))) ∧ Below w.heap.size w w' := by
  have a0 := hf.1
  have a1 := hf.2.1
  have a2 := hf.2.2.1
  have a3 := hf.2.2.2.1
  have a4 := hf.2.2.2.2
  have q0 := be_size h.1 2
  have q1 := be_size h.2.1 4
  have q2 := be_size h.2.2.1 4
  have q3 := be_size h.2.2.2 8
  have hz : strOfNums (List.replicate 8 0 : List Int) = bs z8 := by unfold strOfNums bs z8; simp
  have q4 : (bs z8).size = 8 := by rw [bs_size]; rfl
  have hj1 : (((((⟨#[87, 83]⟩ : ByteArray) ++ be h.1 2) ++ be h.2.1 4) ++ be h.2.2.1 4) ++ be h.2.2.2 8) ++ bs z8 = bs (hdr28 h) := by
    apply list_inj
    simp only [append_list, bs_list, be_list, hdr28, hpre, hfv, hfn]
  have hcr := Crc.crc_lt 0 (hdr28 h)
  have hj2 : bs (hdr28 h) ++ be (Crc.crc 0 (hdr28 h)) 4 = bs (hdrL h) := by rw [be_bs, bs_append, hdrL]
  have h28 : (bs (hdr28 h)).size = 28 := by rw [bs_size, hdr28_length]
  have q5 := be_size (Crc.crc 0 (hdr28 h)) 4
  refine PreH.weighlockref11_Encode.calls (h.1 : Int) (h.2.1 : Int) (h.2.2.1 : Int) (h.2.2.2 : Int) (bs (hdrL h)) w ?_
  unfold PreH.weighlockref11_Encode.f
  rw [fixed_f h.1 2 2 rfl (by omega) (by omega), Option.bind_some, if_pos (by omega), fixed_f h.2.1 4 4 rfl (by omega) (by omega), Option.bind_some, if_pos (by omega), fixed_f h.2.2.1 4 4 rfl (by omega) (by omega), Option.bind_some, if_pos (by omega), fixed_f h.2.2.2 8 8 rfl (by omega) (by omega), Option.bind_some, if_pos (by omega), if_pos (by omega), Option.bind_some, hz, if_pos (by omega), hj1]
  have hc : weighlockref02_Crc.f 0 (bs (hdr28 h)) = some ((Crc.crc 0 (hdr28 h) : Nat) : Int) := by
    rw [weighlockref02_Crc.f, if_pos ⟨by omega, by omega, by omega⟩, bs_list]; rfl
  rw [hc, Option.bind_some, fixed_f _ 4 4 rfl (by omega) (by omega), Option.bind_some, if_pos (by omega), hj2]
end Go.Proofs.Ytoabdpobpmbckaa.Print
