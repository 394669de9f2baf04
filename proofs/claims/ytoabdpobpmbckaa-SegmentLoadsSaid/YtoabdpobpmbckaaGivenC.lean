/- weighlockref02.Crc in the form in which printed texts call it. -/
import Derived.Test.YtoabdpobpmbckaaFrame
namespace Go.Proofs.Ytoabdpobpmbckaa.Print
open Go.RowKit

def weighlockref02_Crc.f (a0 : Int) (a1 : ByteArray) : Option Int :=
  if 0 ≤ a0 ∧ a0 < 4294967296 ∧ a1.size ≤ 9223372036854775807 then some ((Crc.crc a0.toNat a1.data.toList : Nat) : Int) else none
theorem weighlockref02_Crc.calls (a0 : Int) (a1 : ByteArray) (r : Int) (w : World) (h : weighlockref02_Crc.f a0 a1 = some r) :
    Calls Try.prog 120 #[.int .u32 a0, .string a1] w fun e w' => e = .returned (.int .u32 r) ∧ Below w.heap.size w w' := by
  unfold weighlockref02_Crc.f at h
  split at h
  · rename_i hc
    obtain ⟨h0, h1, h2⟩ := hc
    obtain rfl := Option.some.inj h
    have := rcrc_any a0.toNat (by omega) a1 h2 w
    rw [Int.toNat_of_nonneg h0] at this
    exact this.mono fun e w' ⟨he, hw⟩ => ⟨he, by subst hw; exact Below.refl _ _⟩
  · cases h

end Go.Proofs.Ytoabdpobpmbckaa.Print
