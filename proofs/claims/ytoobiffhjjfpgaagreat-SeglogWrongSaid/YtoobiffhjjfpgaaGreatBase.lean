/- The sums by which bytes are known again, as plain functions of numbers and lists: the CRC bit by bit, and that two registers that differ stay different. Nothing of the program is in this text. Small words that the walks share: a block of memory that is written while all others stay; what a call leaves of old memory. What the functions of the package sums come to: a register of a CRC is shifted as Crc.step says. What numbers as bytes come to: nums.Fixed, frame.fixed: so many bytes, the greatest first. Texts as lists of bytes, numbers as bytes and back: plain facts. -/
import Derived.Laws.BitsLemmas
import Derived.Test.YtoobiffhjjfpgaaGreatProg
import Derived.WalkKit
import Derived.WalkSpells
import Derived.WalkLawsBesides
import Derived.Lib.Hide
import Derived.Laws.BytesArg
import Derived.Deep.QuietTactic
import Derived.BigQuiet
import Derived.StillTailTactics
import Derived.Deep.RegionWith
import Derived.Laws.Rows
namespace Go.Proofs.YtoobiffhjjfpgaaGreat.Crc

/-- A register shifted by a bit. -/
def shifted (v : Nat) : Nat := if v % 2 = 1 then (v / 2) ^^^ 3988292384 else v / 2
/-- A register shifted by n bits. -/
def shiftN : Nat → Nat → Nat
  | 0, v => v
  | n + 1, v => shiftN n (shifted v)
/-- A register with a byte more. -/
def step (v b : Nat) : Nat := shiftN 8 (v ^^^ b)
/-- A register with bytes more. -/
def reg (v : Nat) (l : List UInt8) : Nat := l.foldl (fun v b => step v b.toNat) v
/-- The CRC of bytes. -/
def crc (begin : Nat) (l : List UInt8) : Nat := 4294967295 - reg (4294967295 - begin) l

theorem shifted_lt {v : Nat} (h : v < 4294967296) : shifted v < 4294967296 := by
  unfold shifted
  split
  · exact Nat.xor_lt_two_pow (n := 32) (by omega) (by decide)
  · omega
theorem shiftN_lt : ∀ (n : Nat) {v : Nat}, v < 4294967296 → shiftN n v < 4294967296
  | 0, _, h => h
  | n + 1, _, h => shiftN_lt n (shifted_lt h)
theorem xor_lt {a b : Nat} (ha : a < 4294967296) (hb : b < 256) : a ^^^ b < 4294967296 := Nat.xor_lt_two_pow (n := 32) ha (by omega)
theorem step_lt {v b : Nat} (h : v < 4294967296) (hb : b < 256) : step v b < 4294967296 := shiftN_lt 8 (xor_lt h hb)
theorem reg_lt : ∀ (l : List UInt8) {v : Nat}, v < 4294967296 → reg v l < 4294967296
  | [], _, h => h
  | b :: l, _, h => reg_lt l (step_lt h (by have := b.toNat_lt; omega))
theorem crc_lt (begin : Nat) (l : List UInt8) : crc begin l < 4294967296 := by unfold crc; omega
theorem reg_snoc (v : Nat) (l : List UInt8) (b : UInt8) : reg v (l ++ [b]) = step (reg v l) b.toNat := by simp [reg]
theorem reg_append (v : Nat) (l m : List UInt8) : reg v (l ++ m) = reg (reg v l) m := by simp [reg]

theorem shiftN_succ : ∀ (n v : Nat), shiftN (n + 1) v = shifted (shiftN n v)
  | 0, _ => rfl
  | n + 1, v => by show shiftN (n + 1) (shifted v) = _; rw [shiftN_succ n]; rfl

/-- The machine's words: a shifted register, its last bit known. -/
theorem bits_xor_u32_nat (a b : Nat) (ha : a < 4294967296) (hb : b < 4294967296) : bits .xor .u32 (a : Int) (b : Int) = ((a ^^^ b : Nat) : Int) := by
  have hx : a ^^^ b < 2 ^ 32 := Nat.xor_lt_two_pow (by omega) (by omega)
  have h1 : (BitVec.ofInt 32 (a : Int)).toNat = a := by
    rw [BitVec.ofInt_natCast, BitVec.toNat_ofNat]; exact Nat.mod_eq_of_lt (by omega)
  have h2 : (BitVec.ofInt 32 (b : Int)).toNat = b := by
    rw [BitVec.ofInt_natCast, BitVec.toNat_ofNat]; exact Nat.mod_eq_of_lt (by omega)
  show IntKind.u32.wrap ((BitVec.ofInt 32 (a : Int) ^^^ BitVec.ofInt 32 (b : Int)).toNat : Int) = _
  rw [BitVec.toNat_xor, h1, h2, IntKind.wrap_u32]
  omega
theorem bits_and_u32_nat (a b : Nat) (ha : a < 4294967296) (hb : b < 4294967296) : bits .and .u32 (a : Int) (b : Int) = ((a &&& b : Nat) : Int) :=
  (bits_nat .u32 32 (by decide) (fun n h0 h1 => by rw [IntKind.wrap_u32]; omega) a b (by omega) (by omega)).1
theorem and_one (v : Nat) : v &&& 1 = v % 2 := Nat.and_one_is_mod v
/-- One round of the program's step. -/
theorem round_eq (v : Nat) (h : v < 4294967296) :
    bits .xor .u32 ((v : Int) / 2) (bits .and .u32 ((-(bits .and .u32 (v : Int) 1)) % 4294967296) 3988292384) = ((shifted v : Nat) : Int) := by
  have e1 : bits .and .u32 (v : Int) 1 = ((v % 2 : Nat) : Int) := by
    have := bits_and_u32_nat v 1 h (by decide)
    rw [and_one] at this
    simpa using this
  rw [e1]
  unfold shifted
  by_cases hp : v % 2 = 1
  · rw [if_pos hp, hp]
    have e2 : bits .and .u32 ((-((1 : Nat) : Int)) % 4294967296) 3988292384 = ((3988292384 : Nat) : Int) := by decide
    rw [e2]
    have e3 : (v : Int) / 2 = ((v / 2 : Nat) : Int) := by omega
    rw [e3, bits_xor_u32_nat _ _ (by omega) (by decide)]
  · have h0 : v % 2 = 0 := by omega
    rw [if_neg hp, h0]
    have e2 : bits .and .u32 ((-((0 : Nat) : Int)) % 4294967296) 3988292384 = ((0 : Nat) : Int) := by decide
    rw [e2]
    have e3 : (v : Int) / 2 = ((v / 2 : Nat) : Int) := by omega
    rw [e3, bits_xor_u32_nat _ _ (by omega) (by decide), Nat.xor_zero]

theorem xor_ones (v : Nat) (h : v < 4294967296) : 4294967295 ^^^ v = 4294967295 - v := by
  apply Nat.eq_of_testBit_eq
  intro i
  have e1 : (4294967295 : Nat) = 2 ^ 32 - 1 := by decide
  have e2 : 4294967295 - v = 2 ^ 32 - (v + 1) := by omega
  rw [e2, Nat.testBit_two_pow_sub_succ (by omega), Nat.testBit_xor, e1, Nat.testBit_two_pow_sub_one]
  by_cases hi : i < 32
  · simp [hi]
  · have hp : 2 ^ 32 ≤ 2 ^ i := Nat.pow_le_pow_right (by omega) (by omega)
    have hv : v.testBit i = false := Nat.testBit_lt_two_pow (Nat.lt_of_lt_of_le h hp)
    simp [hi, hv]
theorem not_u32 (v : Nat) (h : v < 4294967296) : bits .xor .u32 IntKind.u32.max (v : Int) = ((4294967295 - v : Nat) : Int) := by
  rw [← xor_ones v h]
  exact bits_xor_u32_nat 4294967295 v (by omega) h

/-! ### Two registers that differ stay different -/

theorem xor_cancel_right {a b c : Nat} (h : a ^^^ c = b ^^^ c) : a = b := by
  have := congrArg (· ^^^ c) h
  simpa [Nat.xor_assoc] using this
theorem high_xor {a : Nat} (h : a < 2147483648) : 2147483648 ≤ a ^^^ 3988292384 := by
  have ht : (a ^^^ 3988292384).testBit 31 = true := by
    rw [Nat.testBit_xor]
    have e1 : a.testBit 31 = false := Nat.testBit_lt_two_pow (by omega)
    have e2 : (3988292384 : Nat).testBit 31 = true := by decide
    rw [e1, e2]; rfl
  exact Nat.ge_two_pow_of_testBit ht
theorem shifted_inj {a b : Nat} (ha : a < 4294967296) (hb : b < 4294967296) (h : shifted a = shifted b) : a = b := by
  unfold shifted at h
  by_cases pa : a % 2 = 1 <;> by_cases pb : b % 2 = 1
  · rw [if_pos pa, if_pos pb] at h
    have := xor_cancel_right h
    omega
  · rw [if_pos pa, if_neg pb] at h
    have := high_xor (a := a / 2) (by omega)
    omega
  · rw [if_neg pa, if_pos pb] at h
    have := high_xor (a := b / 2) (by omega)
    omega
  · rw [if_neg pa, if_neg pb] at h
    omega
theorem shiftN_inj : ∀ (n : Nat) {a b : Nat}, a < 4294967296 → b < 4294967296 → shiftN n a = shiftN n b → a = b
  | 0, _, _, _, _, h => h
  | n + 1, _, _, ha, hb, h => shifted_inj ha hb (shiftN_inj n (shifted_lt ha) (shifted_lt hb) h)
theorem step_inj {a b x : Nat} (ha : a < 4294967296) (hb : b < 4294967296) (hx : x < 256) (h : step a x = step b x) : a = b :=
  xor_cancel_right (shiftN_inj 8 (xor_lt ha hx) (xor_lt hb hx) h)
theorem step_inj_byte {a x y : Nat} (ha : a < 4294967296) (hx : x < 256) (hy : y < 256) (h : step a x = step a y) : x = y := by
  have := shiftN_inj 8 (xor_lt ha hx) (xor_lt ha hy) h
  rw [Nat.xor_comm a x, Nat.xor_comm a y] at this
  exact xor_cancel_right this
theorem reg_inj : ∀ (l : List UInt8) {a b : Nat}, a < 4294967296 → b < 4294967296 → reg a l = reg b l → a = b
  | [], _, _, _, _, h => h
  | x :: l, _, _, ha, hb, h => by
    have hx : x.toNat < 256 := by have := x.toNat_lt; omega
    exact step_inj ha hb hx (reg_inj l (step_lt ha hx) (step_lt hb hx) h)
/-- Texts that differ in one byte alone have other CRCs. -/
theorem crc_byte (begin : Nat) (hb : begin < 4294967296) (l m : List UInt8) (x y : UInt8) (h : crc begin (l ++ x :: m) = crc begin (l ++ y :: m)) : x = y := by
  unfold crc at h
  rw [reg_append, reg_append] at h
  have h1 : reg (4294967295 - begin) l < 4294967296 := reg_lt l (by omega)
  have hx : x.toNat < 256 := by have := x.toNat_lt; omega
  have hy : y.toNat < 256 := by have := y.toNat_lt; omega
  have b1 := reg_lt m (step_lt h1 hx)
  have b2 := reg_lt m (step_lt h1 hy)
  have e : reg (step (reg (4294967295 - begin) l) x.toNat) m = reg (step (reg (4294967295 - begin) l) y.toNat) m := by
    have h' : 4294967295 - reg (step (reg (4294967295 - begin) l) x.toNat) m = 4294967295 - reg (step (reg (4294967295 - begin) l) y.toNat) m := h
    omega
  exact UInt8.toNat_inj.1 (step_inj_byte h1 hx hy (reg_inj m (step_lt h1 hx) (step_lt h1 hy) e))

end Go.Proofs.YtoobiffhjjfpgaaGreat.Crc

namespace Go.Proofs.YtoobiffhjjfpgaaGreat.Print
open Go.RowKit

/-- A block is written, blocks are made; all other blocks stay. -/
structure Wrote (b : Nat) (o : Obj) (w w' : World) : Prop where
  os : w'.os = w.os
  tape : w'.tape = w.tape
  output : w'.output = w.output
  size : w.heap.size ≤ w'.heap.size
  old : b < w.heap.size
  at_ : w'.heap[b]? = some o
  other : ∀ k, k < w.heap.size → k ≠ b → w'.heap[k]? = w.heap[k]?

theorem Wrote.refl {b : Nat} {o : Obj} {w : World} (h : w.heap[b]? = some o) : Wrote b o w w :=
  ⟨rfl, rfl, rfl, Nat.le_refl _, (Array.getElem?_eq_some_iff.1 h).1, h, fun _ _ _ => rfl⟩
theorem Wrote.trans {b : Nat} {o o' : Obj} {w w1 w2 : World} (h : Wrote b o w w1) (k : Wrote b o' w1 w2) : Wrote b o' w w2 :=
  ⟨k.os.trans h.os, k.tape.trans h.tape, k.output.trans h.output, Nat.le_trans h.size k.size, h.old, k.at_, fun i hi hb => (k.other i (Nat.lt_of_lt_of_le hi h.size) hb).trans (h.other i hi hb)⟩
theorem Wrote.drew {b : Nat} {o : Obj} {w w1 : World} (h : Wrote b o w w1) : Wrote b o w w1.drew := ⟨h.os, h.tape, h.output, h.size, h.old, h.at_, h.other⟩
theorem Wrote.drewN {b : Nat} {o : Obj} {w w1 : World} (h : Wrote b o w w1) (n : Nat) : Wrote b o w (w1.drewN n) := ⟨h.os, h.tape, h.output, h.size, h.old, h.at_, h.other⟩
theorem Wrote.below {b : Nat} {o : Obj} {w w1 w2 : World} (h : Wrote b o w w1) (k : Below w1.heap.size w1 w2) : Wrote b o w w2 :=
  ⟨k.os.trans h.os, k.tape.trans h.tape, k.output.trans h.output, Nat.le_trans h.size k.size, h.old, (k.block b (Nat.lt_of_lt_of_le h.old h.size)).trans h.at_, fun i hi hb => (k.block i (Nat.lt_of_lt_of_le hi h.size)).trans (h.other i hi hb)⟩
/-- What a written block of the call's own leaves below. -/
theorem Wrote.under {b B : Nat} {o : Obj} {w w1 : World} (h : Wrote b o w w1) (hB : B ≤ b) : Below B w w1 :=
  ⟨h.os, h.tape, h.output, h.size, fun k hk => h.other k (by have := h.old; omega) (by omega)⟩
theorem cells_set (w : World) (b o : Nat) (c : Array Value) (t : TypeId) (fr : Nat × Nat) (h : w.heap[b]? = some (.cells c t fr)) (v : Value) :
    (w.setCell ⟨b, o, none⟩ v).heap[b]? = some (.cells (c.setIfInBounds o v) t fr) := by
  simp [World.setCell, Array.getElem?_modify, h]
theorem Wrote.setCell {b o : Nat} {c : Array Value} {t : TypeId} {fr : Nat × Nat} {w w1 : World} (h : Wrote b (.cells c t fr) w w1) (v : Value) :
    Wrote b (.cells (c.setIfInBounds o v) t fr) w (w1.setCell ⟨b, o, none⟩ v) :=
  ⟨h.os, h.tape, h.output, by simpa [World.setCell] using h.size, h.old, cells_set _ _ _ _ _ _ h.at_ v, fun k hk hb => by
    rw [Below.heap_setCell _ _ _ _ hb]; exact h.other k hk hb⟩
theorem cell_of {w : World} {b : Nat} {c : Array Value} {t : TypeId} {fr : Nat × Nat} (h : w.heap[b]? = some (.cells c t fr)) (o : Nat) : w.cell? ⟨b, o, none⟩ = c[o]? := by
  simp [World.cell?, h]
theorem free_of {w : World} {b : Nat} {c : Array Value} {t : TypeId} (h : w.heap[b]? = some (.cells c t (0, 0))) (o : Nat) : w.frozen? ⟨b, o, none⟩ = false := by
  simp [World.frozen?, h]
theorem lt_of {w : World} {b : Nat} {o : Obj} (h : w.heap[b]? = some o) : b < w.heap.size := (Array.getElem?_eq_some_iff.1 h).1
theorem alloc_at (w : World) (o : Obj) : (w.alloc o).heap[w.heap.size]? = some o := by
  show (w.heap.push o)[w.heap.size]? = _
  simp
theorem alloc_at' (w : World) (o : Obj) (g : Nat) (hg : g = w.heap.size) : (w.alloc o).heap[g]? = some o := hg ▸ alloc_at w o
theorem alloc_old {w : World} {b : Nat} {x : Obj} (h : w.heap[b]? = some x) (o : Obj) : (w.alloc o).heap[b]? = some x :=
  (Below.heap_alloc w o b (lt_of h)).trans h
/-- What a call leaves: cells and marks of old blocks read as before. -/
theorem bcell {W w1 : World} (hb : Below W.heap.size W w1) : (∀ b o, b < W.heap.size → w1.cell? ⟨b, o, none⟩ = W.cell? ⟨b, o, none⟩) ∧ (∀ b o, b < W.heap.size → w1.frozen? ⟨b, o, none⟩ = W.frozen? ⟨b, o, none⟩) :=
  ⟨fun b o h => hb.cell (p := ⟨b, o, none⟩) h, fun b o h => hb.frozen (p := ⟨b, o, none⟩) h⟩
theorem below_drewN {B : Nat} {a w : World} (h : Below B a w) (n : Nat) : Below B a (w.drewN n) := ⟨h.os, h.tape, h.output, h.size, h.block⟩
theorem below_chain {w w1 w2 : World} (h : Below w.heap.size w w1) (k : Below w1.heap.size w1 w2) : Below w.heap.size w w2 := h.trans (k.mono h.size)
theorem ret_int {k : IntKind} {a b : Int} (h : a = b) : Ending.returned (.int k a) = .returned (.int k b) := by rw [h]
theorem ret_str {a b : ByteArray} (h : a = b) : Ending.returned (.string a) = .returned (.string b) := by rw [h]
/-- A block of two cells, read. -/
theorem two_of {w : World} {b : Nat} {c0 c1 : Value} {t : TypeId} (h : w.heap[b]? = some (.cells #[c0, c1] t)) :
    w.cell? ⟨b, 0, none⟩ = some c0 ∧ w.cell? ⟨b, 1, none⟩ = some c1 ∧ w.frozen? ⟨b, 0, none⟩ = false ∧ w.frozen? ⟨b, 1, none⟩ = false :=
  ⟨by rw [cell_of h]; rfl, by rw [cell_of h]; rfl, free_of h 0, free_of h 1⟩
/-- A block of four cells, read. -/
theorem four_of {w : World} {b : Nat} {c0 c1 c2 c3 : Value} {t : TypeId} (h : w.heap[b]? = some (.cells #[c0, c1, c2, c3] t)) :
    w.cell? ⟨b, 0, none⟩ = some c0 ∧ w.cell? ⟨b, 1, none⟩ = some c1 ∧ w.cell? ⟨b, 2, none⟩ = some c2 ∧ w.cell? ⟨b, 3, none⟩ = some c3 ∧
    w.frozen? ⟨b, 0, none⟩ = false ∧ w.frozen? ⟨b, 1, none⟩ = false ∧ w.frozen? ⟨b, 2, none⟩ = false ∧ w.frozen? ⟨b, 3, none⟩ = false :=
  ⟨by rw [cell_of h]; rfl, by rw [cell_of h]; rfl, by rw [cell_of h]; rfl, by rw [cell_of h]; rfl, free_of h 0, free_of h 1, free_of h 2, free_of h 3⟩

/-- Two cells of a block b of W, held through a region. -/
theorem keep_drew2 {W : World} {b : Nat} {c0 c1 : Value} (h0 : W.cell? ⟨b, 0, none⟩ = some c0) (h1 : W.cell? ⟨b, 1, none⟩ = some c1) :
    W.drew.cell? ⟨b, 0, none⟩ = some c0 ∧ W.drew.cell? ⟨b, 1, none⟩ = some c1 ∧ Below W.heap.size W W.drew := ⟨h0, h1, (Below.refl _ _).drew⟩
theorem keep_call2 {W w1 w2 : World} {b : Nat} {c0 c1 : Value} (hlt : b < W.heap.size) (hS : w1.cell? ⟨b, 0, none⟩ = some c0 ∧ w1.cell? ⟨b, 1, none⟩ = some c1 ∧ Below W.heap.size W w1) (hb : Below w1.heap.size w1 w2) :
    w2.cell? ⟨b, 0, none⟩ = some c0 ∧ w2.cell? ⟨b, 1, none⟩ = some c1 ∧ Below W.heap.size W w2 :=
  ⟨(hb.cell (p := ⟨b, 0, none⟩) (Nat.lt_of_lt_of_le hlt hS.2.2.size)).trans hS.1, (hb.cell (p := ⟨b, 1, none⟩) (Nat.lt_of_lt_of_le hlt hS.2.2.size)).trans hS.2.1, below_chain hS.2.2 hb⟩
theorem keep_alloc2 {W w1 : World} {b : Nat} {c0 c1 : Value} (hlt : b < W.heap.size) (hS : w1.cell? ⟨b, 0, none⟩ = some c0 ∧ w1.cell? ⟨b, 1, none⟩ = some c1 ∧ Below W.heap.size W w1) (o : Obj) :
    (w1.alloc o).cell? ⟨b, 0, none⟩ = some c0 ∧ (w1.alloc o).cell? ⟨b, 1, none⟩ = some c1 ∧ Below W.heap.size W (w1.alloc o) :=
  keep_call2 hlt hS ((Below.refl _ _).alloc (Nat.le_refl _) o)

end Go.Proofs.YtoobiffhjjfpgaaGreat.Print

namespace Go.Proofs.YtoobiffhjjfpgaaGreat.Print
open Go.RowKit

set_option maxHeartbeats 400000 in
theorem step_any (v b : Nat) (hv : v < 4294967296) (hb : b < 256) (w : World) :
    Calls Tryz.prog 161 #[.int .u32 v, .int .u8 b] w fun e w' => e = .returned (.int .u32 (Crc.step v b)) ∧ w = w' := by
  have hx := Crc.bits_xor_u32_nat v b hv (by omega)
  go_enter Tryz.func161, Tryz.ntmps161
  go_wp2
  have hxl := Crc.xor_lt hv hb
  clear hx
  go_loop [0, 5, 10] (fun r _ i => ∃ k : Nat, k ≤ 8 ∧ i = .int .i64 k ∧ r = .int .u32 (Crc.shiftN k (v ^^^ b) : Nat)) (fun _ _ i => 8 - (intOf i).toNat)
  case atStart => exact ⟨0, by omega, rfl, rfl⟩
  case round =>
    obtain ⟨k, hk, rfl, rfl⟩ := hrel
    have hl := Crc.shiftN_lt k hxl
    have hr := Crc.round_eq _ hl
    rw [← Crc.shiftN_succ] at hr
    by_cases hlt : k < 8
    · go_wp2
      go_round
      case rel => exact ⟨k + 1, by omega, by go_num, rfl⟩
      case measure => simp [intOf]; omega
    · obtain rfl : k = 8 := by omega
      go_wp2
      go_ret
      exact ⟨rfl, rfl⟩

theorem newsum_any (v : Nat) (hv : v < 4294967296) (w : World) :
    Calls Tryz.prog 142 #[.int .u32 v] w fun e w' => e = .returned (.pointer (some ⟨w.heap.size, 0, none⟩)) ∧ w.alloc (.cells #[.int .u32 ((4294967295 - v : Nat) : Int)] 221) = w' := by
  go_enter Tryz.func142, Tryz.ntmps142
  go_wp2
  go_ret
  exact ⟨rfl, by rw [Crc.not_u32 v hv]⟩

theorem value_any (v : Nat) (hv : v < 4294967296) (b : Nat) (T : TypeId) (fr : Nat × Nat) (w : World) (hb : w.heap[b]? = some (.cells #[.int .u32 v] T fr)) :
    Calls Tryz.prog 144 #[.pointer (some ⟨b, 0, none⟩)] w fun e w' => e = .returned (.int .u32 ((4294967295 - v : Nat) : Int)) ∧ w = w' := by
  have hc : w.cell? ⟨b, 0, none⟩ = some (.int .u32 v) := by rw [cell_of hb]; rfl
  go_enter Tryz.func144, Tryz.ntmps144
  go_wp2
  go_ret
  exact ⟨ret_int (Crc.not_u32 v hv), rfl⟩

theorem byte_at (s : ByteArray) (k : Nat) (h : k < s.size) : s.data.toList.take (k + 1) = s.data.toList.take k ++ [s[k]] := by
  rw [List.take_succ_eq_append_getElem (by simpa using h)]; rfl

set_option maxRecDepth 100000 in
set_option maxHeartbeats 400000 in
theorem add_any (s : ByteArray) (hs : s.size ≤ 9223372036854775807) (v : Nat) (hv : v < 4294967296) (b : Nat) (T : TypeId) (w : World) (hb : w.heap[b]? = some (.cells #[.int .u32 v] T)) :
    Calls Tryz.prog 143 #[.pointer (some ⟨b, 0, none⟩), .string s] w fun e w' => e = .returned (.tuple #[]) ∧ Wrote b (.cells #[.int .u32 (Crc.reg v s.data.toList : Nat)] T) w w' := by
  go_enter Tryz.func143, Tryz.ntmps143
  go_wp2
  go_loopw [4, 9] (fun _ i wr => ∃ k : Nat, k ≤ s.size ∧ i = .int .i64 k ∧ Wrote b (.cells #[.int .u32 (Crc.reg v (s.data.toList.take k) : Nat)] T) w wr) (fun _ i _ => s.size - (intOf i).toNat)
  case atStart => exact ⟨0, Nat.zero_le _, rfl, Wrote.refl hb⟩
  case round =>
    obtain ⟨k, hk, rfl, hw⟩ := hrel
    by_cases hlt : k < s.size
    · have hc : wr.cell? ⟨b, 0, none⟩ = some (.int .u32 (Crc.reg v (s.data.toList.take k) : Nat)) := by rw [cell_of hw.at_]; rfl
      have hf : wr.frozen? ⟨b, 0, none⟩ = false := free_of hw.at_ 0
      have hr := Crc.reg_lt (s.data.toList.take k) hv
      have hb8 : s[k].toNat < 256 := by have := s[k].toNat_lt; omega
      go_wp2
      go_still_tail 11, (by kernel_rfl)
      still_call ((step_any _ _ hr hb8 _).mono (fun _ _ h => ⟨h.1, h.2.symm⟩))
      repeat still_step
      refine wpStill_nil ?_
      go_wp2
      go_roundw
      case rel => exact ⟨k + 1, by omega, by go_num, by
        rw [byte_at s k hlt, Crc.reg_snoc]
        simpa using (hw.setCell (o := 0) (.int .u32 (Crc.step (Crc.reg v (s.data.toList.take k)) s[k].toNat : Nat))).drew⟩
      case measure => simp [intOf]; omega
    · obtain rfl : k = s.size := by omega
      rw [List.take_of_length_le (by simp)] at hw
      go_wp2
      go_end0
      exact ⟨rfl, hw⟩

set_option maxHeartbeats 400000 in
theorem crc_any (v : Nat) (hv : v < 4294967296) (s : ByteArray) (hs : s.size ≤ 9223372036854775807) (w : World) :
    Calls Tryz.prog 157 #[.int .u32 v, .string s] w fun e w' => e = .returned (.int .u32 (Crc.crc v s.data.toList : Nat)) ∧ Below w.heap.size w w' := by
  go_enter Tryz.func157, Tryz.ntmps157
  go_wp2_with fail
  refine (newsum_any v hv _).mono ?_
  rintro e w1 ⟨rfl, rfl⟩
  go_wp2_with fail
  refine (add_any s hs _ (by omega) _ _ _ (alloc_at _ _)).mono ?_
  rintro e w1 ⟨rfl, hw⟩
  go_wp2_with fail
  refine (value_any _ (Crc.reg_lt _ (by omega)) _ _ _ _ hw.at_).mono ?_
  rintro e w2 ⟨rfl, rfl⟩
  go_wp2
  go_ret
  exact ⟨rfl, ((Below.refl _ _).alloc (Nat.le_refl _) _).trans (hw.under (Nat.le_refl _))⟩

end Go.Proofs.YtoobiffhjjfpgaaGreat.Print

namespace Go.Proofs.YtoobiffhjjfpgaaGreat.Print
open Go.RowKit

/-- A number as n bytes, the greatest first. -/
def beL (v : Nat) : Nat → List UInt8
  | 0 => []
  | n + 1 => beL (v / 256) n ++ [UInt8.ofNat (v % 256)]
def be (v n : Nat) : ByteArray := ⟨(beL v n).toArray⟩
theorem beL_length (v n : Nat) : (beL v n).length = n := by
  induction n generalizing v with
  | zero => rfl
  | succ n ih => simp [beL, ih]
theorem be_size (v n : Nat) : (be v n).size = n := by simp [be, ByteArray.size, beL_length]
theorem be_list (v n : Nat) : (be v n).data.toList = beL v n := by simp [be]

def fxB (v n j : Nat) : Int := (v : Int) / 2 ^ (8 * (n - 1 - j)) % 256
def fxArr (v n k : Nat) : Array Value := ((List.range 8).map fun j => Value.int .u8 (if j < k then fxB v n j else 0)).toArray
theorem fxArr_zero (v n : Nat) : fxArr v n 0 = #[Value.int IntKind.u8 0, Value.int IntKind.u8 0, Value.int IntKind.u8 0, Value.int IntKind.u8 0,
          Value.int IntKind.u8 0, Value.int IntKind.u8 0, Value.int IntKind.u8 0, Value.int IntKind.u8 0] := by simp [fxArr]; rfl
theorem fxArr_get (v n k j : Nat) (h : j < 8) : (fxArr v n k)[j]? = some (Value.int .u8 (if j < k then fxB v n j else 0)) := by simp [fxArr, h]
theorem fxArr_size (v n k : Nat) : (fxArr v n k).size = 8 := by simp [fxArr]
theorem fxArr_set (v n k : Nat) (h : k < 8) : (fxArr v n k).setIfInBounds k (Value.int .u8 ((v : Int) / 2 ^ (8 * (n - 1 - k)) % 256)) = fxArr v n (k + 1) := by
  apply Array.ext_getElem?
  intro i
  rw [Array.getElem?_setIfInBounds, fxArr_size]
  by_cases hi : i < 8
  · rw [fxArr_get _ _ _ _ hi, fxArr_get _ _ _ _ hi]
    by_cases e : k = i
    · subst e; simp [h, fxB]
    · have e2 : (i < k) ↔ (i < k + 1) := by omega
      rw [if_neg e]; simp [e2]
  · have e : k ≠ i := by omega
    rw [if_neg e]
    simp [fxArr, hi]
theorem fxB_nat (v n j : Nat) : fxB v n j = ((v / 256 ^ (n - 1 - j) % 256 : Nat) : Int) := by
  unfold fxB
  rw [show (256 : Nat) ^ (n - 1 - j) = 2 ^ (8 * (n - 1 - j)) by rw [Nat.pow_mul], Int.natCast_emod, Int.natCast_ediv, Int.natCast_pow]
  rfl
theorem beL_range (v n : Nat) : ((List.range n).map fun j => UInt8.ofNat (v / 256 ^ (n - 1 - j) % 256)) = beL v n := by
  induction n generalizing v with
  | zero => rfl
  | succ n ih =>
    rw [List.range_succ, List.map_append, beL, ← ih]
    congr 1
    · apply List.map_congr_left
      intro j hj
      have hj' : j < n := List.mem_range.1 hj
      rw [show n + 1 - 1 - j = (n - 1 - j) + 1 by omega, Nat.pow_succ, Nat.mul_comm, Nat.div_div_eq_div_mul]
    · simp
theorem fx_str (v n : Nat) : strOfNums ((List.range n).map (fxB v n)) = be v n := by
  unfold be strOfNums
  rw [← beL_range]
  congr 2
  rw [List.map_map]
  apply List.map_congr_left
  intro j _
  show UInt8.ofNat (fxB v n j).toNat = _
  rw [fxB_nat, Int.toNat_natCast]

theorem arrFix : Tryz.prog.underlying 192 = some (.array (Tryz.prog.arrayLen 192) (Tryz.prog.elem 192)) := by kernel_rfl
theorem alFix : Tryz.prog.arrayLen 192 = 8 := by kernel_rfl
theorem elFix : Tryz.prog.elem 192 = 5 := by kernel_rfl
theorem sliceFix (w : World) (b n : Nat) (h8 : n ≤ 8) : (Instr.sliceAt 192 (.pointer (some ⟨b, 0, none⟩)) none (some (.int .i64 n)) none).run Tryz.prog w = .ok (.slice (some ⟨b, 0, none⟩) n 8) w := by
  rw [run_sliceAt_array_h w 192 _ arrFix .i64 n (by omega) (by rw [alFix]; omega), elFix]
  go_simp
set_option maxRecDepth 100000 in
set_option maxHeartbeats 400000 in
theorem fixed_ok (v n : Nat) (_hv : v < 18446744073709551616) (h1 : 1 ≤ n) (h8 : n ≤ 8) (hs : n < 8 → ((v : Int) / 2 ^ (8 * n) != 0) = false) (w : World) :
    Calls Tryz.prog 126 #[.int .u64 v, .int .i64 n] w fun e w' => e = .returned (.tuple #[.string (be v n), .int .i64 0]) ∧ Below w.heap.size w w' := by
  rw [← fx_str]
  have hb1 : decide ((n : Int) < 1) = false := by simp; omega
  have hb8 : decide (8 < (n : Int)) = false := by simp; omega
  have hsl := sliceFix (w.alloc (.cells (fxArr v n n) 192)) w.heap.size n h8
  have hcv := run_convert_bytes_arg (P := Tryz.prog) (w.alloc (.cells (fxArr v n n) 192)) 141 5 Tryz.underlying141 Tryz.underlying5 w.heap.size 0 n 8 ((List.range n).map (fxB v n)) (by simp) (by
    intro i hi
    rw [World.cell?_alloc_at _ _ _ _ rfl, Nat.zero_add, fxArr_get v n n i (by omega), if_pos hi]
    simp [hi]) 9 Tryz.underlying9
  by_cases hn : n < 8
  · have hbn : decide ((n : Int) < 8) = true := by simp; omega
    have hs1 := hs hn
    clear hs
    go_enter Tryz.func126, Tryz.ntmps126
    go_wp2
    go_loopw [7, 26] (fun s i wr => ∃ k : Nat, k ≤ n ∧ i = .int .i64 k ∧ wr = w.alloc (.cells (fxArr v n k) 192)) (fun _ i _ => n - (intOf i).toNat)
    case atStart => exact ⟨0, Nat.zero_le _, rfl, by rw [fxArr_zero]⟩
    case round =>
      obtain ⟨k, hk, rfl, rfl⟩ := hrel
      by_cases hlt : k < n
      · have hg := fxArr_get v n k k (by omega)
        go_wp2
        refine ⟨⟨k + 1, by omega, by go_num, ?_⟩, by simp [intOf]; omega⟩
        rw [← fxArr_set v n k (by omega)]
      · obtain rfl : k = n := by omega
        go_wp2
        go_ret2
        exact ⟨rfl, (Below.refl _ _).alloc (Nat.le_refl _) _⟩
  · have hbn : decide ((n : Int) < 8) = false := by simp; omega
    clear hs
    go_enter Tryz.func126, Tryz.ntmps126
    go_wp2
    go_loopw [7, 26] (fun s i wr => ∃ k : Nat, k ≤ n ∧ i = .int .i64 k ∧ wr = w.alloc (.cells (fxArr v n k) 192)) (fun _ i _ => n - (intOf i).toNat)
    case atStart => exact ⟨0, Nat.zero_le _, rfl, by rw [fxArr_zero]⟩
    case round =>
      obtain ⟨k, hk, rfl, rfl⟩ := hrel
      by_cases hlt : k < n
      · have hg := fxArr_get v n k k (by omega)
        go_wp2
        refine ⟨⟨k + 1, by omega, by go_num, ?_⟩, by simp [intOf]; omega⟩
        rw [← fxArr_set v n k (by omega)]
      · obtain rfl : k = n := by omega
        go_wp2
        go_ret2
        exact ⟨rfl, (Below.refl _ _).alloc (Nat.le_refl _) _⟩

theorem fixed_range (v n : Int) (h : n < 1 ∨ 8 < n) (w : World) :
    Calls Tryz.prog 126 #[.int .u64 v, .int .i64 n] w fun e w' => e = .returned (.tuple #[.string ⟨#[]⟩, .int .i64 1]) ∧ Below w.heap.size w w' := by
  rcases h with h | h
  · go_enter Tryz.func126, Tryz.ntmps126
    go_wp2
    go_ret2
    exact ⟨rfl, Below.refl _ _⟩
  · have hb1 : decide ((n : Int) < 1) = false := by simp; omega
    go_enter Tryz.func126, Tryz.ntmps126
    go_wp2
    go_ret2
    exact ⟨rfl, Below.refl _ _⟩

theorem fixed_big (v n : Nat) (h1 : 1 ≤ n) (hn : n < 8) (hs : ((v : Int) / 2 ^ (8 * n) != 0) = true) (w : World) :
    Calls Tryz.prog 126 #[.int .u64 v, .int .i64 n] w fun e w' => e = .returned (.tuple #[.string ⟨#[]⟩, .int .i64 1]) ∧ Below w.heap.size w w' := by
  have hb1 : decide ((n : Int) < 1) = false := by simp; omega
  have hb8 : decide (8 < (n : Int)) = false := by simp; omega
  have hbn : decide ((n : Int) < 8) = true := by simp; omega
  go_enter Tryz.func126, Tryz.ntmps126
  go_wp2
  go_ret2
  exact ⟨rfl, Below.refl _ _⟩

/-- What nums.Fixed tells of a number that fits: its bytes. -/
theorem fits_test (v n : Nat) (h : v < 256 ^ n) : ((v : Int) / 2 ^ (8 * n) != 0) = false := by
  have e : (256 : Nat) ^ n = 2 ^ (8 * n) := by rw [Nat.pow_mul]
  rw [e] at h
  have h0 : v / 2 ^ (8 * n) = 0 := Nat.div_eq_of_lt h
  have h1 : (v : Int) / 2 ^ (8 * n) = ((v / 2 ^ (8 * n) : Nat) : Int) := by rw [Int.natCast_ediv, Int.natCast_pow]; rfl
  rw [h1, h0]; rfl
theorem fixed_fits (v n : Nat) (h1 : 1 ≤ n) (h8 : n ≤ 8) (hv : v < 256 ^ n) (w : World) :
    Calls Tryz.prog 126 #[.int .u64 v, .int .i64 n] w fun e w' => e = .returned (.tuple #[.string (be v n), .int .i64 0]) ∧ Below w.heap.size w w' :=
  fixed_ok v n (Nat.lt_of_lt_of_le hv (Nat.pow_le_pow_right (by decide) h8 : 256 ^ n ≤ 256 ^ 8)) h1 h8 (fun _ => fits_test v n hv) w

end Go.Proofs.YtoobiffhjjfpgaaGreat.Print

namespace Go.Proofs.YtoobiffhjjfpgaaGreat.Print
open Go.RowKit

/-- A text out of its bytes. -/
def bs (l : List UInt8) : ByteArray := ⟨l.toArray⟩
theorem bs_list (l : List UInt8) : (bs l).data.toList = l := by simp [bs]
theorem bs_size (l : List UInt8) : (bs l).size = l.length := by simp [bs, ByteArray.size]
theorem bs_of (s : ByteArray) : bs s.data.toList = s := by cases s; simp [bs]
theorem bs_inj {l m : List UInt8} (h : bs l = bs m) : l = m := by have := congrArg (fun s : ByteArray => s.data.toList) h; simpa [bs] using this
theorem list_inj {s t : ByteArray} (h : s.data.toList = t.data.toList) : s = t := by rw [← bs_of s, ← bs_of t, h]
theorem bs_append (l m : List UInt8) : bs l ++ bs m = bs (l ++ m) := by
  apply list_inj; simp [bs]
theorem append_list (s t : ByteArray) : (s ++ t).data.toList = s.data.toList ++ t.data.toList := by simp
theorem extract_list (s : ByteArray) (a b : Nat) : (s.extract a b).data.toList = (s.data.toList.drop a).take (b - a) := by
  simp [ByteArray.data_extract, List.take_drop]
theorem bs_extract (l : List UInt8) (a b : Nat) : (bs l).extract a b = bs ((l.drop a).take (b - a)) := by
  apply list_inj; rw [extract_list, bs_list, bs_list]
theorem size_list (s : ByteArray) : s.size = s.data.toList.length := by rw [Array.length_toList]; rfl

theorem snoc_ind {α : Type} {P : List α → Prop} (h0 : P []) (h1 : ∀ l b, P l → P (l ++ [b])) (l : List α) : P l := by
  have h : ∀ m : List α, P m.reverse := by
    intro m
    induction m with
    | nil => exact h0
    | cons b m ih => rw [List.reverse_cons]; exact h1 _ _ ih
  have := h l.reverse
  rwa [List.reverse_reverse] at this

/-- The number of bytes. -/
def readL (l : List UInt8) : Nat := l.foldl (fun v b => v * 256 + b.toNat) 0
theorem readL_snoc (l : List UInt8) (b : UInt8) : readL (l ++ [b]) = readL l * 256 + b.toNat := by simp [readL]
theorem readL_lt (l : List UInt8) : readL l < 256 ^ l.length := by
  refine snoc_ind (P := fun l => readL l < 256 ^ l.length) (by simp [readL]) ?_ l
  · intro l b ih
    rw [readL_snoc, List.length_append, List.length_singleton, Nat.pow_succ]
    have := b.toNat_lt
    have h2 : readL l + 1 ≤ 256 ^ l.length := ih
    have h3 := Nat.mul_le_mul_right 256 h2
    omega
theorem beL_readL (l : List UInt8) : beL (readL l) l.length = l := by
  refine snoc_ind (P := fun l => beL (readL l) l.length = l) rfl ?_ l
  · intro l b ih
    have hb : b.toNat < 256 := by have := b.toNat_lt; omega
    rw [readL_snoc, List.length_append, List.length_singleton, beL]
    rw [show (readL l * 256 + b.toNat) / 256 = readL l by omega, show (readL l * 256 + b.toNat) % 256 = b.toNat by omega, ih]
    simp
theorem readL_beL (v n : Nat) (h : v < 256 ^ n) : readL (beL v n) = v := by
  induction n generalizing v with
  | zero => simp at h; subst h; rfl
  | succ n ih =>
    rw [beL, readL_snoc, ih]
    · rw [UInt8.toNat_ofNat']
      omega
    · rw [Nat.pow_succ] at h
      omega
theorem beL_inj {v w n : Nat} (hv : v < 256 ^ n) (hw : w < 256 ^ n) (h : beL v n = beL w n) : v = w := by
  rw [← readL_beL v n hv, ← readL_beL w n hw, h]

end Go.Proofs.YtoobiffhjjfpgaaGreat.Print
