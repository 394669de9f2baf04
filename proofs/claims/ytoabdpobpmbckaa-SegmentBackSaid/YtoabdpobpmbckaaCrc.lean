/- The sums by which bytes are known again, as plain functions of numbers and lists: the CRC bit by bit, and that two registers that differ stay different. Nothing of the program is in this text. -/
import Derived.Laws.BitsLemmas
namespace Go.Proofs.Ytoabdpobpmbckaa.Crc

/-- A register shifted by a bit. -/
def shifted (v : Nat) : Nat := if v % 2 = 1 then (v / 2) ^^^ 3988292384 else v / 2
/-- A register shifted by n bits. -/
def shiftN : Nat → Nat → Nat
  | 0, v => v
  | n + 1, v => shiftN n (shifted v)
/-- A register with a byte more. -/
def step (v b : Nat) : Nat := shiftN 8 (v ^^^ b)
/-- A register with bytes more. -/
def reg (v : Nat) (l : List UInt8) : Nat := l.foldl (fun v b => step v b.toNat) v
/-- The CRC of bytes. -/
def crc (begin : Nat) (l : List UInt8) : Nat := 4294967295 - reg (4294967295 - begin) l

theorem shifted_lt {v : Nat} (h : v < 4294967296) : shifted v < 4294967296 := by
  unfold shifted
  split
  · exact Nat.xor_lt_two_pow (n := 32) (by omega) (by decide)
  · omega
theorem shiftN_lt : ∀ (n : Nat) {v : Nat}, v < 4294967296 → shiftN n v < 4294967296
  | 0, _, h => h
  | n + 1, _, h => shiftN_lt n (shifted_lt h)
theorem xor_lt {a b : Nat} (ha : a < 4294967296) (hb : b < 256) : a ^^^ b < 4294967296 := Nat.xor_lt_two_pow (n := 32) ha (by omega)
theorem step_lt {v b : Nat} (h : v < 4294967296) (hb : b < 256) : step v b < 4294967296 := shiftN_lt 8 (xor_lt h hb)
theorem reg_lt : ∀ (l : List UInt8) {v : Nat}, v < 4294967296 → reg v l < 4294967296
  | [], _, h => h
  | b :: l, _, h => reg_lt l (step_lt h (by have := b.toNat_lt; omega))
theorem crc_lt (begin : Nat) (l : List UInt8) : crc begin l < 4294967296 := by unfold crc; omega
theorem reg_snoc (v : Nat) (l : List UInt8) (b : UInt8) : reg v (l ++ [b]) = step (reg v l) b.toNat := by simp [reg]
theorem reg_append (v : Nat) (l m : List UInt8) : reg v (l ++ m) = reg (reg v l) m := by simp [reg]

theorem shiftN_succ : ∀ (n v : Nat), shiftN (n + 1) v = shifted (shiftN n v)
  | 0, _ => rfl
  | n + 1, v => by show shiftN (n + 1) (shifted v) = _; rw [shiftN_succ n]; rfl

/-- The machine's words: a shifted register, its last bit known. -/
theorem bits_xor_u32_nat (a b : Nat) (ha : a < 4294967296) (hb : b < 4294967296) : bits .xor .u32 (a : Int) (b : Int) = ((a ^^^ b : Nat) : Int) := by
  have hx : a ^^^ b < 2 ^ 32 := Nat.xor_lt_two_pow (by omega) (by omega)
  have h1 : (BitVec.ofInt 32 (a : Int)).toNat = a := by
    rw [BitVec.ofInt_natCast, BitVec.toNat_ofNat]; exact Nat.mod_eq_of_lt (by omega)
  have h2 : (BitVec.ofInt 32 (b : Int)).toNat = b := by
    rw [BitVec.ofInt_natCast, BitVec.toNat_ofNat]; exact Nat.mod_eq_of_lt (by omega)
  show IntKind.u32.wrap ((BitVec.ofInt 32 (a : Int) ^^^ BitVec.ofInt 32 (b : Int)).toNat : Int) = _
  rw [BitVec.toNat_xor, h1, h2, IntKind.wrap_u32]
  omega
theorem bits_and_u32_nat (a b : Nat) (ha : a < 4294967296) (hb : b < 4294967296) : bits .and .u32 (a : Int) (b : Int) = ((a &&& b : Nat) : Int) :=
  (bits_nat .u32 32 (by decide) (fun n h0 h1 => by rw [IntKind.wrap_u32]; omega) a b (by omega) (by omega)).1
theorem and_one (v : Nat) : v &&& 1 = v % 2 := Nat.and_one_is_mod v
/-- One round of the program's step. -/
theorem round_eq (v : Nat) (h : v < 4294967296) :
    bits .xor .u32 ((v : Int) / 2) (bits .and .u32 ((-(bits .and .u32 (v : Int) 1)) % 4294967296) 3988292384) = ((shifted v : Nat) : Int) := by
  have e1 : bits .and .u32 (v : Int) 1 = ((v % 2 : Nat) : Int) := by
    have := bits_and_u32_nat v 1 h (by decide)
    rw [and_one] at this
    simpa using this
  rw [e1]
  unfold shifted
  by_cases hp : v % 2 = 1
  · rw [if_pos hp, hp]
    have e2 : bits .and .u32 ((-((1 : Nat) : Int)) % 4294967296) 3988292384 = ((3988292384 : Nat) : Int) := by decide
    rw [e2]
    have e3 : (v : Int) / 2 = ((v / 2 : Nat) : Int) := by omega
    rw [e3, bits_xor_u32_nat _ _ (by omega) (by decide)]
  · have h0 : v % 2 = 0 := by omega
    rw [if_neg hp, h0]
    have e2 : bits .and .u32 ((-((0 : Nat) : Int)) % 4294967296) 3988292384 = ((0 : Nat) : Int) := by decide
    rw [e2]
    have e3 : (v : Int) / 2 = ((v / 2 : Nat) : Int) := by omega
    rw [e3, bits_xor_u32_nat _ _ (by omega) (by decide), Nat.xor_zero]

theorem xor_ones (v : Nat) (h : v < 4294967296) : 4294967295 ^^^ v = 4294967295 - v := by
  apply Nat.eq_of_testBit_eq
  intro i
  have e1 : (4294967295 : Nat) = 2 ^ 32 - 1 := by decide
  have e2 : 4294967295 - v = 2 ^ 32 - (v + 1) := by omega
  rw [e2, Nat.testBit_two_pow_sub_succ (by omega), Nat.testBit_xor, e1, Nat.testBit_two_pow_sub_one]
  by_cases hi : i < 32
  · simp [hi]
  · have hp : 2 ^ 32 ≤ 2 ^ i := Nat.pow_le_pow_right (by omega) (by omega)
    have hv : v.testBit i = false := Nat.testBit_lt_two_pow (Nat.lt_of_lt_of_le h hp)
    simp [hi, hv]
theorem not_u32 (v : Nat) (h : v < 4294967296) : bits .xor .u32 IntKind.u32.max (v : Int) = ((4294967295 - v : Nat) : Int) := by
  rw [← xor_ones v h]
  exact bits_xor_u32_nat 4294967295 v (by omega) h

/-! ### Two registers that differ stay different -/

theorem xor_cancel_right {a b c : Nat} (h : a ^^^ c = b ^^^ c) : a = b := by
  have := congrArg (· ^^^ c) h
  simpa [Nat.xor_assoc] using this
theorem high_xor {a : Nat} (h : a < 2147483648) : 2147483648 ≤ a ^^^ 3988292384 := by
  have ht : (a ^^^ 3988292384).testBit 31 = true := by
    rw [Nat.testBit_xor]
    have e1 : a.testBit 31 = false := Nat.testBit_lt_two_pow (by omega)
    have e2 : (3988292384 : Nat).testBit 31 = true := by decide
    rw [e1, e2]; rfl
  exact Nat.ge_two_pow_of_testBit ht
theorem shifted_inj {a b : Nat} (ha : a < 4294967296) (hb : b < 4294967296) (h : shifted a = shifted b) : a = b := by
  unfold shifted at h
  by_cases pa : a % 2 = 1 <;> by_cases pb : b % 2 = 1
  · rw [if_pos pa, if_pos pb] at h
    have := xor_cancel_right h
    omega
  · rw [if_pos pa, if_neg pb] at h
    have := high_xor (a := a / 2) (by omega)
    omega
  · rw [if_neg pa, if_pos pb] at h
    have := high_xor (a := b / 2) (by omega)
    omega
  · rw [if_neg pa, if_neg pb] at h
    omega
theorem shiftN_inj : ∀ (n : Nat) {a b : Nat}, a < 4294967296 → b < 4294967296 → shiftN n a = shiftN n b → a = b
  | 0, _, _, _, _, h => h
  | n + 1, _, _, ha, hb, h => shifted_inj ha hb (shiftN_inj n (shifted_lt ha) (shifted_lt hb) h)
theorem step_inj {a b x : Nat} (ha : a < 4294967296) (hb : b < 4294967296) (hx : x < 256) (h : step a x = step b x) : a = b :=
  xor_cancel_right (shiftN_inj 8 (xor_lt ha hx) (xor_lt hb hx) h)
theorem step_inj_byte {a x y : Nat} (ha : a < 4294967296) (hx : x < 256) (hy : y < 256) (h : step a x = step a y) : x = y := by
  have := shiftN_inj 8 (xor_lt ha hx) (xor_lt ha hy) h
  rw [Nat.xor_comm a x, Nat.xor_comm a y] at this
  exact xor_cancel_right this
theorem reg_inj : ∀ (l : List UInt8) {a b : Nat}, a < 4294967296 → b < 4294967296 → reg a l = reg b l → a = b
  | [], _, _, _, _, h => h
  | x :: l, _, _, ha, hb, h => by
    have hx : x.toNat < 256 := by have := x.toNat_lt; omega
    exact step_inj ha hb hx (reg_inj l (step_lt ha hx) (step_lt hb hx) h)
/-- Texts that differ in one byte alone have other CRCs. -/
theorem crc_byte (begin : Nat) (hb : begin < 4294967296) (l m : List UInt8) (x y : UInt8) (h : crc begin (l ++ x :: m) = crc begin (l ++ y :: m)) : x = y := by
  unfold crc at h
  rw [reg_append, reg_append] at h
  have h1 : reg (4294967295 - begin) l < 4294967296 := reg_lt l (by omega)
  have hx : x.toNat < 256 := by have := x.toNat_lt; omega
  have hy : y.toNat < 256 := by have := y.toNat_lt; omega
  have b1 := reg_lt m (step_lt h1 hx)
  have b2 := reg_lt m (step_lt h1 hy)
  have e : reg (step (reg (4294967295 - begin) l) x.toNat) m = reg (step (reg (4294967295 - begin) l) y.toNat) m := by
    have h' : 4294967295 - reg (step (reg (4294967295 - begin) l) x.toNat) m = 4294967295 - reg (step (reg (4294967295 - begin) l) y.toNat) m := h
    omega
  exact UInt8.toNat_inj.1 (step_inj_byte h1 hx hy (reg_inj m (step_lt h1 hx) (step_lt h1 hy) e))

end Go.Proofs.Ytoabdpobpmbckaa.Crc
