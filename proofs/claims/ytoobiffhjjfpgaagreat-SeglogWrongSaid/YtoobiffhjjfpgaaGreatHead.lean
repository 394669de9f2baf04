/- header: fields, Encode. header.Decode. -/
import Derived.Test.YtoobiffhjjfpgaaGreatSecs
namespace Go.Proofs.YtoobiffhjjfpgaaGreat.Print
open Go.RowKit

/-- A header as four numbers: log, gen, stamp, base. -/
abbrev H4 := Nat × Nat × Nat × Nat
abbrev hdV (a b c d : Int) : Value := .agg #[.int .i64 a, .int .u32 b, .int .u32 c, .int .i64 d]
def hfv (h : H4) : Nat → Nat | 0 => h.1 | 1 => h.2.1 | 2 => h.2.2.1 | _ => h.2.2.2
def hfn : Nat → Nat | 0 => 2 | 1 => 4 | 2 => 4 | _ => 8
def hpre (h : H4) : Nat → List UInt8 | 0 => [87, 83] | k + 1 => hpre h k ++ beL (hfv h k) (hfn k)
def z8 : List UInt8 := List.replicate 8 0
def hdr28 (h : H4) : List UInt8 := hpre h 4 ++ z8
def hdrL (h : H4) : List UInt8 := hdr28 h ++ beL (Crc.crc 0 (hdr28 h)) 4
theorem hpre_length (h : H4) : (hpre h 4).length = 20 := by simp [hpre, hfn, beL_length]
theorem hdr28_length (h : H4) : (hdr28 h).length = 28 := by rw [hdr28, List.length_append, hpre_length]; rfl
theorem hdrL_length (h : H4) : (hdrL h).length = 32 := by rw [hdrL, List.length_append, hdr28_length, beL_length]
def HFits (h : H4) : Prop := 1 ≤ h.1 ∧ h.1 ≤ 65535 ∧ h.2.1 < 4294967296 ∧ h.2.2.1 < 4294967296 ∧ h.2.2.2 ≤ 1099511627776
theorem hfn_le (k : Nat) : 1 ≤ hfn k ∧ hfn k ≤ 8 := by
  match k with
  | 0 => exact ⟨by decide, by decide⟩
  | 1 => exact ⟨by decide, by decide⟩
  | 2 => exact ⟨by decide, by decide⟩
  | k + 3 => exact ⟨by show 1 ≤ 8; omega, by show 8 ≤ 8; omega⟩
theorem hfv_fits {h : H4} (hf : HFits h) (k : Nat) (hk : k < 4) : hfv h k < 256 ^ hfn k := by
  obtain ⟨a, b, c, d, e⟩ := hf
  match k, hk with
  | 0, _ => show h.1 < 256 ^ 2; omega
  | 1, _ => show h.2.1 < 256 ^ 4; omega
  | 2, _ => show h.2.2.1 < 256 ^ 4; omega
  | 3, _ => show h.2.2.2 < 256 ^ 8; omega
theorem hfv_big {h : H4} (hf : HFits h) (k : Nat) : hfv h k < 9223372036854775808 := by
  obtain ⟨a, b, c, d, e⟩ := hf
  match k with
  | 0 => show h.1 < _; omega
  | 1 => show h.2.1 < _; omega
  | 2 => show h.2.2.1 < _; omega
  | k + 3 => show h.2.2.2 < _; omega
theorem hpre_le (h : H4) (k : Nat) : (hpre h k).length ≤ 2 + 8 * k := by
  induction k with
  | zero => exact Nat.le_refl _
  | succ k ih => rw [hpre, List.length_append, beL_length]; have := (hfn_le k).2; omega
abbrev fieldsV (h : H4) : Value := .agg #[.int .u64 h.1, .int .i64 2, .int .u64 h.2.1, .int .i64 4, .int .u64 h.2.2.1, .int .i64 4, .int .u64 h.2.2.2, .int .i64 8]

set_option maxRecDepth 100000 in
set_option maxHeartbeats 400000 in
theorem fields_any (h : H4) (h0 : h.1 < 9223372036854775808) (h1 : h.2.1 < 4294967296) (h2 : h.2.2.1 < 4294967296) (h3 : h.2.2.2 < 9223372036854775808) (w : World) :
    Calls Tryz.prog 156 #[hdV h.1 h.2.1 h.2.2.1 h.2.2.2] w fun x w' => x = .returned (fieldsV h) ∧ Below w.heap.size w w' := by
  obtain ⟨a, b, c, d⟩ := h
  have k0 := wrap_u64_nat a h0
  have k1 := wrap_u64_nat b (by simp at h1; omega)
  have k2 := wrap_u64_nat c (by simp at h2; omega)
  have k3 := wrap_u64_nat d h3
  clear h0 h3
  go_enter Tryz.func156, Tryz.ntmps156
  go_wp2
  exact bodyPost_ret (v := fieldsV (a, b, c, d)) (by simp [results, Tryz.results156, go_sem]) rfl ⟨rfl, by repeat (first | exact Below.refl _ _ | refine Below.setCell ?_ (by simp) _ | refine below_drewN ?_ _ | refine Below.drew ?_ | refine Below.alloc ?_ (by simp) _)⟩

theorem arrFld : Tryz.prog.underlying 214 = some (.array (Tryz.prog.arrayLen 214) (Tryz.prog.elem 214)) := by kernel_rfl
theorem idxFld (h : H4) (k : Nat) (hk : k < 4) (w : World) : (Instr.index 214 (fieldsV h) (.int .i64 k)).run Tryz.prog w = .ok (.agg #[.int .u64 (hfv h k), .int .i64 (hfn k)]) w := by
  match k, hk with
  | 0, _ => simp [Instr.index, run_underlying arrFld, asIntOf, go_sem, hfv, hfn]
  | 1, _ => simp [Instr.index, run_underlying arrFld, asIntOf, go_sem, hfv, hfn]
  | 2, _ => simp [Instr.index, run_underlying arrFld, asIntOf, go_sem, hfv, hfn]
  | 3, _ => simp [Instr.index, run_underlying arrFld, asIntOf, go_sem, hfv, hfn]

set_option maxRecDepth 100000 in
set_option maxHeartbeats 800000 in
theorem hencode_any (h : H4) (hf : HFits h) (w : World) :
    Calls Tryz.prog 132 #[hdV h.1 h.2.1 h.2.2.1 h.2.2.2] w fun x w' => x = .returned (.tuple #[.string (bs (hdrL h)), .int .i64 0]) ∧ Below w.heap.size w w' := by
  have hp : ∀ k, k ≤ 4 → (bs (hpre h k)).size ≤ 34 := fun k hk => by rw [bs_size]; have := hpre_le h k; omega
  have hcr := Crc.crc_lt 0 (hdr28 h)
  obtain ⟨S, hS⟩ : ∃ S, Crc.crc 0 (hdr28 h) = S := ⟨_, rfl⟩
  have hj1 : bs (hpre h 4) ++ ⟨#[0, 0, 0, 0, 0, 0, 0, 0]⟩ = bs (hdr28 h) := by rw [hdr28, ← bs_append]; rfl
  have hj2 : bs (hdr28 h) ++ be S 4 = bs (hdrL h) := by rw [be_bs, bs_append, hdrL, hS]
  have h28 : (bs (hdr28 h)).size = 28 := by rw [bs_size, hdr28_length]
  rw [hS] at hcr
  have hF := fun w => fields_any h (by have := hfv_big hf 0; exact this) hf.2.2.1 hf.2.2.2.1 (by have := hfv_big hf 3; exact this) w
  have HF := Lib.hid hF
  have HS := Lib.hid hS
  have HJ := Lib.hid hj1
  have HJ2 := Lib.hid hj2
  clear hS hj1 hj2 hF
  have e1 : decide ((h.1 : Int) < 1) = false := by have := hf.1; simp; omega
  have e2 : decide (65535 < (h.1 : Int)) = false := by have := hf.2.1; simp; omega
  have e3 : decide ((h.2.2.2 : Int) < 0) = false := by simp
  have e4 : decide (1099511627776 < (h.2.2.2 : Int)) = false := decide_eq_false (by have := hf.2.2.2.2; omega)
  have HH := Lib.hid hf
  clear hf
  have z1 := alloc_at w (.cells #[.int .i64 h.1, .int .u32 h.2.1, .int .u32 h.2.2.1, .int .i64 h.2.2.2] 138)
  have hB1 : Below w.heap.size w (w.alloc (.cells #[.int .i64 h.1, .int .u32 h.2.1, .int .u32 h.2.2.1, .int .i64 h.2.2.2] 138)) := (Below.refl _ _).alloc (Nat.le_refl _) _
  go_enter Tryz.func132, Tryz.ntmps132
  go_wp2_with fail
  refine (HF.out _).mono ?_
  rintro x w1 ⟨rfl, hb1⟩
  have hB0 : Below w.heap.size w w1 := hB1.trans (hb1.mono (by simp))
  clear hb1 z1 hB1
  go_wp2
  go_loopw [4, 31] (fun s i wr => ∃ k : Nat, k ≤ 4 ∧ i = .int .i64 k ∧ s = .string (bs (hpre h k)) ∧ Below w1.heap.size w1 wr) (fun _ i _ => 4 - (intOf i).toNat)
  case atStart => exact ⟨0, Nat.zero_le _, rfl, rfl, Below.refl _ _⟩
  case round =>
    obtain ⟨k, hk, rfl, rfl, hB⟩ := hrel
    by_cases hlt : k < 4
    · have hpk := hp k hk
      have i0 := fun W => idxFld h k hlt W
      have hv := hfv_fits HH.out k hlt
      have hn := hfn_le k
      have hbe : bs (hpre h k) ++ be (hfv h k) (hfn k) = bs (hpre h (k + 1)) := by rw [be_bs, bs_append]; rfl
      have hpk2 := hp (k + 1) hlt
      have q1 := be_size (hfv h k) (hfn k)
      generalize hfv h k = v at i0 hv hbe q1
      generalize hfn k = n at i0 hv hbe hn q1
      have HB := Lib.hid hbe
      have HV := Lib.hid hv
      clear hbe hv
      go_wp2_with fail
      refine (fixed_fits v n hn.1 hn.2 HV.out _).mono ?_
      rintro x w2 ⟨rfl, hb2⟩
      go_wp2
      go_roundw
      case rel => exact ⟨k + 1, hlt, by simp, by rw [HB.out], (hB.alloc hB.size _).trans (hb2.mono (by have := hB.size; simp; omega))⟩
      case measure => simp [intOf]; omega
    · obtain rfl : k = 4 := by omega
      have hp5 := hp 4 (Nat.le_refl _)
      have q1 := be_size S 4
      go_wp2_with fail
      rw [HJ.out]
      go_wp2_with fail
      refine (crc_any 0 (by omega) _ (by omega) _).mono ?_
      rintro x w2 ⟨rfl, hb2⟩
      rw [bs_list, HS.out]
      have hw := wrap_u64_nat S (by omega)
      go_wp2_with fail
      refine (fixed_fits S 4 (by omega) (by omega) (by omega) _).mono ?_
      rintro x w3 ⟨rfl, hb3⟩
      have hB3 := below_chain (below_chain hB0 (below_chain hB hb2)) hb3
      go_wp2_with fail
      rw [HJ2.out]
      go_wp2
      exact bodyPost_ret (v := .tuple #[.string (bs (hdrL h)), .int .i64 0]) (by simp [results, Tryz.results132, go_sem]) rfl ⟨rfl, hB3⟩

set_option maxRecDepth 100000 in
set_option maxHeartbeats 800000 in
/-- A header that may not be. -/
theorem hencode_bad (a b c d : Int) (hn : ¬ (1 ≤ a ∧ a ≤ 65535 ∧ 0 ≤ d ∧ d ≤ 1099511627776)) (w : World) :
    Calls Tryz.prog 132 #[hdV a b c d] w fun x w' => x = .returned (.tuple #[.string ⟨#[]⟩, .int .i64 1]) ∧ Below w.heap.size w w' := by
  have hb : (decide (a < 1) || decide (65535 < a) || decide (d < 0) || decide (1099511627776 < d)) = true := by
    simp only [Bool.or_eq_true, decide_eq_true_eq]; omega
  generalize h1 : decide (a < 1) = b1 at hb
  generalize h2 : decide (65535 < a) = b2 at hb
  generalize h3 : decide (d < 0) = b3 at hb
  generalize h4 : decide (1099511627776 < d) = b4 at hb
  clear hn
  go_enter Tryz.func132, Tryz.ntmps132
  cases b1
  · cases b2
    · cases b3
      · obtain rfl : b4 = true := by simpa using hb
        go_wp2
        exact bodyPost_ret (v := .tuple #[.string ⟨#[]⟩, .int .i64 1]) (by simp [results, Tryz.results132, go_sem]) rfl ⟨rfl, (Below.refl _ _).alloc (Nat.le_refl _) _⟩
      · go_wp2
        exact bodyPost_ret (v := .tuple #[.string ⟨#[]⟩, .int .i64 1]) (by simp [results, Tryz.results132, go_sem]) rfl ⟨rfl, (Below.refl _ _).alloc (Nat.le_refl _) _⟩
    · go_wp2
      exact bodyPost_ret (v := .tuple #[.string ⟨#[]⟩, .int .i64 1]) (by simp [results, Tryz.results132, go_sem]) rfl ⟨rfl, (Below.refl _ _).alloc (Nat.le_refl _) _⟩
  · go_wp2
    exact bodyPost_ret (v := .tuple #[.string ⟨#[]⟩, .int .i64 1]) (by simp [results, Tryz.results132, go_sem]) rfl ⟨rfl, (Below.refl _ _).alloc (Nat.le_refl _) _⟩
end Go.Proofs.YtoobiffhjjfpgaaGreat.Print

namespace Go.Proofs.YtoobiffhjjfpgaaGreat.Print
open Go.RowKit

/-- A header's numbers in some bytes. -/
def hNum (s : List UInt8) : H4 := (readL ((s.drop 2).take 2), readL ((s.drop 4).take 4), readL ((s.drop 8).take 4), readL ((s.drop 12).take 8))
/-- The header with which bytes begin, if there is one. -/
def hdP (s : List UInt8) : Option H4 := if 32 ≤ s.length ∧ (hNum s).2.2.2 ≤ 1099511627776 ∧ 1 ≤ (hNum s).1 ∧ hdrL (hNum s) = s.take 32 then some (hNum s) else none
theorem readL_le (l : List UInt8) (n k : Nat) : readL ((l.drop n).take k) < 256 ^ k := by
  have h := readL_lt ((l.drop n).take k)
  exact Nat.lt_of_lt_of_le h (Nat.pow_le_pow_right (by decide) (List.length_take_le _ _))
theorem hNum_lt (s : List UInt8) : (hNum s).1 < 65536 ∧ (hNum s).2.1 < 4294967296 ∧ (hNum s).2.2.1 < 4294967296 ∧ (hNum s).2.2.2 < 18446744073709551616 :=
  ⟨readL_le s 2 2, readL_le s 4 4, readL_le s 8 4, readL_le s 12 8⟩
theorem hdP_fits {s : List UInt8} {h : H4} (e : hdP s = some h) : HFits h ∧ hdrL h = s.take 32 ∧ 32 ≤ s.length := by
  unfold hdP at e
  split at e
  · rename_i hc
    cases e
    have := hNum_lt s
    exact ⟨⟨hc.2.2.1, by omega, this.2.1, this.2.2.1, hc.2.1⟩, hc.2.2.2, hc.1⟩
  · cases e
theorem hdrL_flat (h : H4) : hdrL h = [87, 83] ++ (beL h.1 2 ++ (beL h.2.1 4 ++ (beL h.2.2.1 4 ++ (beL h.2.2.2 8 ++ (z8 ++ beL (Crc.crc 0 (hdr28 h)) 4))))) := by
  rw [hdrL]
  conv => lhs; lhs; rw [hdr28]
  simp [hpre, hfv, hfn, List.append_assoc]
theorem drop_add' (l m : List UInt8) (n k : Nat) (h : l.length = n) : (l ++ m).drop (n + k) = m.drop k := by
  rw [← List.drop_drop, List.drop_left' h]
/-- Decode of what Encode wrote. -/
theorem hdP_enc {h : H4} (hf : HFits h) (r : List UInt8) : hdP (hdrL h ++ r) = some h := by
  obtain ⟨R, hR⟩ : ∃ R, z8 ++ beL (Crc.crc 0 (hdr28 h)) 4 = R := ⟨_, rfl⟩
  have hfl := hdrL_flat h
  rw [hR] at hfl
  have hl := hdrL_length h
  have hn : hNum (hdrL h ++ r) = h := by
    have e : hdrL h ++ r = [87, 83] ++ (beL h.1 2 ++ (beL h.2.1 4 ++ (beL h.2.2.1 4 ++ (beL h.2.2.2 8 ++ (R ++ r))))) := by rw [hfl]; simp only [List.append_assoc]
    unfold hNum
    rw [e]
    have l2 : ∀ v, (beL v 2).length = 2 := fun v => beL_length v 2
    have l4 : ∀ v, (beL v 4).length = 4 := fun v => beL_length v 4
    have l8 : ∀ v, (beL v 8).length = 8 := fun v => beL_length v 8
    have hfv := hfv_fits hf
    have a0 : readL (beL h.1 2) = h.1 := readL_beL _ _ (hfv 0 (by omega))
    have a1 : readL (beL h.2.1 4) = h.2.1 := readL_beL _ _ (hfv 1 (by omega))
    have a2 : readL (beL h.2.2.1 4) = h.2.2.1 := readL_beL _ _ (hfv 2 (by omega))
    have a3 : readL (beL h.2.2.2 8) = h.2.2.2 := readL_beL _ _ (hfv 3 (by omega))
    have d2 : ∀ M : List UInt8, ([87, 83] ++ M).drop 2 = M := fun _ => rfl
    have d4 : ∀ M : List UInt8, ([87, 83] ++ (beL h.1 2 ++ M)).drop 4 = M := fun M => by
      rw [show 4 = 2 + (2 + 0) from rfl, drop_add' [87, 83] _ 2 _ rfl, drop_add' (beL h.1 2) _ 2 _ (l2 _), List.drop_zero]
    have d8 : ∀ M : List UInt8, ([87, 83] ++ (beL h.1 2 ++ (beL h.2.1 4 ++ M))).drop 8 = M := fun M => by
      rw [show 8 = 2 + (2 + (4 + 0)) from rfl, drop_add' [87, 83] _ 2 _ rfl, drop_add' (beL h.1 2) _ 2 _ (l2 _), drop_add' (beL h.2.1 4) _ 4 _ (l4 _), List.drop_zero]
    have d12 : ∀ M : List UInt8, ([87, 83] ++ (beL h.1 2 ++ (beL h.2.1 4 ++ (beL h.2.2.1 4 ++ M)))).drop 12 = M := fun M => by
      rw [show 12 = 2 + (2 + (4 + (4 + 0))) from rfl, drop_add' [87, 83] _ 2 _ rfl, drop_add' (beL h.1 2) _ 2 _ (l2 _), drop_add' (beL h.2.1 4) _ 4 _ (l4 _), drop_add' (beL h.2.2.1 4) _ 4 _ (l4 _), List.drop_zero]
    rw [d2, d4, d8, d12]
    rw [List.take_left' (l2 _), List.take_left' (l4 _), List.take_left' (l4 _), List.take_left' (l8 _), a0, a1, a2, a3]
  unfold hdP
  rw [hn, List.take_left' hl, if_pos]
  exact ⟨by rw [List.length_append, hl]; omega, hf.2.2.2.2, hf.1, rfl⟩

abbrev hdD (a b c d e : Int) : Value := .tuple #[hdV a b c d, .int .i64 e]
theorem zeroHdr (w : World) : (zeroValue 138).run Tryz.prog w = .ok (hdV 0 0 0 0) w := by kernel_rfl

set_option maxRecDepth 100000 in
set_option maxHeartbeats 400000 in
theorem hdec_short (s : ByteArray) (h : s.size < 32) (w : World) :
    Calls Tryz.prog 137 #[.string s] w fun x w' => x = .returned (hdD 0 0 0 0 3) ∧ Below w.heap.size w w' := by
  have k1 : decide ((s.size : Int) < 32) = true := by simp; omega
  go_enter Tryz.func137, Tryz.ntmps137
  go_wp2
  exact bodyPost_ret (v := hdD 0 0 0 0 3) (by simp [results, Tryz.results137, go_sem]) rfl ⟨rfl, by repeat (first | exact Below.refl _ _ | refine Below.setCell ?_ (by simp) _ | refine below_drewN ?_ _ | refine Below.drew ?_ | refine Below.alloc ?_ (by simp) _)⟩

def hArr (v : Nat → Nat) (k : Nat) : Array Value := #[.int .u64 (if 0 < k then v 0 else 0 : Nat), .int .u64 (if 1 < k then v 1 else 0 : Nat), .int .u64 (if 2 < k then v 2 else 0 : Nat), .int .u64 (if 3 < k then v 3 else 0 : Nat)]
def hofs : Nat → Nat | 0 => 2 | 1 => 4 | 2 => 8 | 3 => 12 | _ => 20

set_option maxRecDepth 100000 in
set_option maxHeartbeats 1600000 in
theorem hdec_any (s : ByteArray) (h : 32 ≤ s.size) (v : Nat → Nat) (hv0 : readL (s.extract 2 4).data.toList = v 0) (hv1 : readL (s.extract 4 8).data.toList = v 1) (hv2 : readL (s.extract 8 12).data.toList = v 2) (hv3 : readL (s.extract 12 20).data.toList = v 3)
    (l0 : v 0 < 65536) (l1 : v 1 < 4294967296) (l2 : v 2 < 4294967296) (l3 : v 3 < 18446744073709551616)
    (big : Bool) (hbig : decide (1099511627776 < ((v 3 : Nat) : Int)) = big) (none_ : Bool) (hnone : decide (v 0 < 1) = none_)
    (ok : Bool) (hok : ((bs (hdrL (v 0, v 1, v 2, v 3))).toList == (s.extract 0 32).toList) = ok) (w : World) :
    Calls Tryz.prog 137 #[.string s] w fun x w' => x = .returned (bif !big && (!none_ && ok) then hdD (v 0) (v 1) (v 2) (v 3) 0 else hdD 0 0 0 0 4) ∧ Below w.heap.size w w' := by
  have k1 : decide ((s.size : Int) < 32) = false := by simp; omega
  have HV0 := Lib.hid hv0
  have HV1 := Lib.hid hv1
  have HV2 := Lib.hid hv2
  have HV3 := Lib.hid hv3
  clear hv0 hv1 hv2 hv3
  have HN := Lib.hid hnone
  have HO := Lib.hid hok
  have HBg := Lib.hid hbig
  have HL0 := Lib.hid l0
  have HL1 := Lib.hid l1
  have HL2 := Lib.hid l2
  clear hnone hok hbig
  have hF := fun w => fields_any (0, 0, 0, 0) (by show (0 : Nat) < _; omega) (by show (0 : Nat) < _; omega) (by show (0 : Nat) < _; omega) (by show (0 : Nat) < _; omega) w
  obtain ⟨FZ, hFZ⟩ : ∃ FZ, fieldsV (0, 0, 0, 0) = FZ := ⟨_, rfl⟩
  rw [hFZ] at hF
  have HF := Lib.hid hF
  have HFZ := Lib.hid hFZ
  clear hF hFZ
  go_enter Tryz.func137, Tryz.ntmps137
  go_wp2_with fail
  refine (HF.out _).mono ?_
  rintro x w1 ⟨rfl, hb1⟩
  have z1 := later_of (alloc_old (alloc_at w _) _) hb1
  have z2 := later_of (alloc_at _ _) hb1
  have hB1 : Below w.heap.size w w1 := (((Below.refl _ _).alloc (Nat.le_refl _) _).alloc (by simp) _).trans (hb1.mono (by simp; omega))
  have hlt := lt_of z1
  have hlt2 := lt_of z2
  have hsz : w.heap.size + 1 ≤ w1.heap.size := by have := hb1.size; simp at this; omega
  clear hb1
  go_wp2
  go_loopw [5, 19] (fun a i wr => ∃ k o : Nat, k ≤ 4 ∧ i = .int .i64 k ∧ a = .int .i64 o ∧ o = hofs k ∧ Wrote (w.heap.size + 1) (.cells (hArr v k) 219) w1 wr) (fun _ i _ => 4 - (intOf i).toNat)
  case atStart => exact ⟨0, 2, Nat.zero_le _, rfl, rfl, rfl, Wrote.refl (by simpa [hArr] using z2)⟩
  case round =>
    obtain ⟨k, o, hk, rfl, rfl, ho, hW⟩ := hrel
    by_cases hlt5 : k < 4
    · have hk4 : k = 0 ∨ k = 1 ∨ k = 2 ∨ k = 3 := by omega
      have hsw := hW.size
      have hltw := lt_of hW.at_
      have hnew : ¬ w.heap.size + 1 = wr.heap.size := by omega
      have hnew2 : ¬ wr.heap.size = w.heap.size + 1 := by omega
      have cW : ∀ o x, hArr v k = x → wr.cell? ⟨w.heap.size + 1, o, none⟩ = x[o]? := fun o x hx => by rw [cell_of hW.at_, hx]
      have fW : ∀ o, wr.frozen? ⟨w.heap.size + 1, o, none⟩ = false := fun o => free_of hW.at_ o
      rcases hk4 with rfl | rfl | rfl | rfl
      · have hl := l0
        obtain rfl : o = 2 := ho
        have cc := cW 0 _ rfl
        have i0 : ∀ W, (Instr.index 214 FZ (.int .i64 0)).run Tryz.prog W = .ok (.agg #[.int .u64 0, .int .i64 2]) W := fun W => HFZ.out ▸ idxFld (0, 0, 0, 0) 0 (by omega) W
        have ff := fW 0
        clear cW fW
        go_wp2_with fail
        refine (read_any (s.extract 2 4) (by simp; omega) (by simp; omega) _).mono ?_
        rintro e w2 ⟨rfl, rfl⟩
        rw [HV0.out]
        go_wp2
        go_roundw
        case rel =>
          refine ⟨1, 4, by omega, rfl, rfl, rfl, ?_⟩
          have h := (hW.setCell (o := 0) (.int .u64 (v 0 : Nat))).below ((Below.refl _ _).alloc (Nat.le_refl _) (.cells #[.int .u64 0, .int .i64 2] 213))
          simpa [hArr] using h
        case measure => simp [intOf]
      · have hl := l1
        obtain rfl : o = 4 := ho
        have cc := cW 1 _ rfl
        have i0 : ∀ W, (Instr.index 214 FZ (.int .i64 1)).run Tryz.prog W = .ok (.agg #[.int .u64 0, .int .i64 4]) W := fun W => HFZ.out ▸ idxFld (0, 0, 0, 0) 1 (by omega) W
        have ff := fW 1
        clear cW fW
        go_wp2_with fail
        refine (read_any (s.extract 4 8) (by simp; omega) (by simp; omega) _).mono ?_
        rintro e w2 ⟨rfl, rfl⟩
        rw [HV1.out]
        go_wp2
        go_roundw
        case rel =>
          refine ⟨2, 8, by omega, rfl, rfl, rfl, ?_⟩
          have h := (hW.setCell (o := 1) (.int .u64 (v 1 : Nat))).below ((Below.refl _ _).alloc (Nat.le_refl _) (.cells #[.int .u64 0, .int .i64 4] 213))
          simpa [hArr] using h
        case measure => simp [intOf]
      · have hl := l2
        obtain rfl : o = 8 := ho
        have cc := cW 2 _ rfl
        have i0 : ∀ W, (Instr.index 214 FZ (.int .i64 2)).run Tryz.prog W = .ok (.agg #[.int .u64 0, .int .i64 4]) W := fun W => HFZ.out ▸ idxFld (0, 0, 0, 0) 2 (by omega) W
        have ff := fW 2
        clear cW fW
        go_wp2_with fail
        refine (read_any (s.extract 8 12) (by simp; omega) (by simp; omega) _).mono ?_
        rintro e w2 ⟨rfl, rfl⟩
        rw [HV2.out]
        go_wp2
        go_roundw
        case rel =>
          refine ⟨3, 12, by omega, rfl, rfl, rfl, ?_⟩
          have h := (hW.setCell (o := 2) (.int .u64 (v 2 : Nat))).below ((Below.refl _ _).alloc (Nat.le_refl _) (.cells #[.int .u64 0, .int .i64 4] 213))
          simpa [hArr] using h
        case measure => simp [intOf]
      · have hl := l3
        obtain rfl : o = 12 := ho
        have cc := cW 3 _ rfl
        have i0 : ∀ W, (Instr.index 214 FZ (.int .i64 3)).run Tryz.prog W = .ok (.agg #[.int .u64 0, .int .i64 8]) W := fun W => HFZ.out ▸ idxFld (0, 0, 0, 0) 3 (by omega) W
        have ff := fW 3
        clear cW fW
        go_wp2_with fail
        refine (read_any (s.extract 12 20) (by simp; omega) (by simp; omega) _).mono ?_
        rintro e w2 ⟨rfl, rfl⟩
        rw [HV3.out]
        go_wp2
        go_roundw
        case rel =>
          refine ⟨4, 20, by omega, rfl, rfl, rfl, ?_⟩
          have h := (hW.setCell (o := 3) (.int .u64 (v 3 : Nat))).below ((Below.refl _ _).alloc (Nat.le_refl _) (.cells #[.int .u64 0, .int .i64 8] 213))
          simpa [hArr] using h
        case measure => simp [intOf]
    · obtain rfl : k = 4 := by omega
      have z3 : wr.heap[w.heap.size + 1]? = some (.cells #[.int .u64 (v 0), .int .u64 (v 1), .int .u64 (v 2), .int .u64 (v 3)] 219) := by simpa [hArr] using hW.at_
      have y3 : wr.heap[w.heap.size]? = some _ := (hW.other _ hlt (by omega)).trans z1
      have hB3 : Below w.heap.size w wr := hB1.trans (hW.under (by omega))
      obtain ⟨d0, d1, d2, d3, _⟩ := four_of z3
      obtain ⟨a0, a1, a2, a3, f0, f1, f2, f3⟩ := four_of y3
      have hlw := lt_of y3
      have u0 : IntKind.i64.wrap ((v 0 : Nat) : Int) = (v 0 : Nat) := by rw [IntKind.wrap_i64]; omega
      have u1 : IntKind.u32.wrap ((v 1 : Nat) : Int) = (v 1 : Nat) := by rw [IntKind.wrap_u32]; omega
      have u2 : IntKind.u32.wrap ((v 2 : Nat) : Int) = (v 2 : Nat) := by rw [IntKind.wrap_u32]; omega
      clear hW z3
      cases big
      · have h3 : v 3 ≤ 1099511627776 := by have := of_decide_eq_false HBg.out; omega
        have u3 : IntKind.i64.wrap ((v 3 : Nat) : Int) = (v 3 : Nat) := by rw [IntKind.wrap_i64]; omega
        have kb := HBg.out
        clear l0 l1 l2 l3
        have H3 := Lib.hid h3
        clear h3
        cases none_
        · have hE := hencode_any (v 0, v 1, v 2, v 3) ⟨by have := of_decide_eq_false HN.out; show 1 ≤ v 0; omega, by show v 0 ≤ _; have := HL0.out; omega, HL1.out, HL2.out, H3.out⟩
          have HE := Lib.hid hE
          clear hE
          have hzz := Lib.hid y3
          go_wp2_with fail
          refine (HE.out _).mono ?_
          rintro x w4 ⟨rfl, hb4⟩
          have y4 := later_of (alloc_old hzz.out _) hb4
          have x4 := later_of (alloc_at wr _) hb4
          have hB4 : Below w.heap.size w w4 := (hB3.alloc hB3.size _).trans (hb4.mono (by have := hB3.size; simp; omega))
          have hlt3 := lt_of y3
          have hlt4 := lt_of y4
          have hlx4 := lt_of x4
          have k5 := HO.out
          clear hb4 hB3 a0 a1 a2 a3 f0 f1 f2 f3
          obtain ⟨a0, a1, a2, a3, f0, f1, f2, f3⟩ := four_of y4
          obtain ⟨b0, b1, b2, b3, g0, g1, g2, g3⟩ := four_of x4
          cases ok
          · go_wp2
            exact bodyPost_ret (v := hdD 0 0 0 0 4) (by simp [results, Tryz.results137, go_sem, a0, a1, a2, a3]) rfl ⟨by simp, by repeat (first | exact hB4 | refine Below.setCell ?_ (by simp) _ | refine below_drewN ?_ _ | refine Below.drew ?_ | refine Below.alloc ?_ (by simp) _)⟩
          · go_wp2
            exact bodyPost_ret (v := hdD (v 0) (v 1) (v 2) (v 3) 0) (by simp [results, Tryz.results137, go_sem, a0, a1, a2, a3]) rfl ⟨by simp, by repeat (first | exact hB4 | refine Below.setCell ?_ (by simp) _ | refine below_drewN ?_ _ | refine Below.drew ?_ | refine Below.alloc ?_ (by simp) _)⟩
        · have hE := hencode_bad (v 0) (v 1) (v 2) (v 3) (by have := of_decide_eq_true HN.out; omega)
          have HE := Lib.hid hE
          clear hE
          have hzz := Lib.hid y3
          go_wp2_with fail
          refine (HE.out _).mono ?_
          rintro x w4 ⟨rfl, hb4⟩
          have y4 := later_of (alloc_old hzz.out _) hb4
          have hB4 : Below w.heap.size w w4 := (hB3.alloc hB3.size _).trans (hb4.mono (by have := hB3.size; simp; omega))
          have hlt3 := lt_of y3
          have hlt4 := lt_of y4
          clear hb4 hB3 a0 a1 a2 a3 f0 f1 f2 f3
          obtain ⟨a0, a1, a2, a3, f0, f1, f2, f3⟩ := four_of y4
          go_wp2
          exact bodyPost_ret (v := hdD 0 0 0 0 4) (by simp [results, Tryz.results137, go_sem, a0, a1, a2, a3]) rfl ⟨by simp, by repeat (first | exact hB4 | refine Below.setCell ?_ (by simp) _ | refine below_drewN ?_ _ | refine Below.drew ?_ | refine Below.alloc ?_ (by simp) _)⟩
      · have kb := HBg.out
        go_wp2
        exact bodyPost_ret (v := hdD 0 0 0 0 4) (by simp [results, Tryz.results137, go_sem, a0, a1, a2, a3]) rfl ⟨by simp, by repeat (first | exact hB3 | refine Below.setCell ?_ (by simp) _ | refine below_drewN ?_ _ | refine Below.drew ?_ | refine Below.alloc ?_ (by simp) _)⟩

theorem hNum_at (s : ByteArray) : hNum s.data.toList = (readL (s.extract 2 4).data.toList, readL (s.extract 4 8).data.toList, readL (s.extract 8 12).data.toList, readL (s.extract 12 20).data.toList) := by
  rw [extract_list, extract_list, extract_list, extract_list]; rfl
/-- The program decodes by hdP. -/
theorem hdec_all (s : ByteArray) : (hdP s.data.toList = none ∧ ∃ e : Int, e ≠ 0 ∧ ∀ w, Calls Tryz.prog 137 #[.string s] w fun x w' => x = .returned (hdD 0 0 0 0 e) ∧ Below w.heap.size w w') ∨
    (∃ h, hdP s.data.toList = some h ∧ ∀ w, Calls Tryz.prog 137 #[.string s] w fun x w' => x = .returned (hdD h.1 h.2.1 h.2.2.1 h.2.2.2 0) ∧ Below w.heap.size w w') := by
  have hsl := size_list s
  by_cases h : s.size < 32
  · refine .inl ⟨?_, 3, by decide, fun w => hdec_short s h w⟩
    unfold hdP
    rw [if_neg]
    exact fun hc => by omega
  have h' : 32 ≤ s.size := by omega
  have hN := hNum_at s
  have hlt := hNum_lt s.data.toList
  obtain ⟨v, hv⟩ : ∃ v : Nat → Nat, v = fun k => match k with | 0 => readL (s.extract 2 4).data.toList | 1 => readL (s.extract 4 8).data.toList | 2 => readL (s.extract 8 12).data.toList | _ => readL (s.extract 12 20).data.toList := ⟨_, rfl⟩
  have v0 : readL (s.extract 2 4).data.toList = v 0 := by subst hv; rfl
  have v1 : readL (s.extract 4 8).data.toList = v 1 := by subst hv; rfl
  have v2 : readL (s.extract 8 12).data.toList = v 2 := by subst hv; rfl
  have v3 : readL (s.extract 12 20).data.toList = v 3 := by subst hv; rfl
  rw [v0, v1, v2, v3] at hN
  rw [hN] at hlt
  clear hv
  have hA := fun w => hdec_any s h' v v0 v1 v2 v3 hlt.1 hlt.2.1 hlt.2.2.1 hlt.2.2.2 _ rfl _ rfl _ rfl w
  have ht : (s.extract 0 32).data.toList = s.data.toList.take 32 := by rw [extract_list]; simp
  by_cases hb : v 3 ≤ 1099511627776
  · have kb : decide (1099511627776 < ((v 3 : Nat) : Int)) = false := decide_eq_false (by omega)
    by_cases hn : 1 ≤ v 0
    · have kn : decide (v 0 < 1) = false := decide_eq_false (by omega)
      by_cases ho : hdrL (v 0, v 1, v 2, v 3) = s.data.toList.take 32
      · refine .inr ⟨(v 0, v 1, v 2, v 3), ?_, fun w => ?_⟩
        · unfold hdP
          rw [hN, if_pos ⟨by omega, hb, hn, ho⟩]
        · have := hA w
          rw [kb, kn, bs_beq, decide_eq_true (by rw [ho, ← ht, bs_of])] at this
          exact this
      · refine .inl ⟨?_, 4, by decide, fun w => ?_⟩
        · unfold hdP
          rw [hN, if_neg (fun hc => ho hc.2.2.2)]
        · have := hA w
          rw [kb, kn, bs_beq, decide_eq_false (fun e => ho (by rw [← ht, ← e, bs_list]))] at this
          exact this
    · refine .inl ⟨?_, 4, by decide, fun w => ?_⟩
      · unfold hdP
        rw [hN, if_neg (fun hc => hn hc.2.2.1)]
      · have := hA w
        rw [kb, decide_eq_true (show v 0 < 1 by omega)] at this
        exact this
  · refine .inl ⟨?_, 4, by decide, fun w => ?_⟩
    · unfold hdP
      rw [hN, if_neg (fun hc => hb hc.2.1)]
    · have := hA w
      rw [decide_eq_true (show (1099511627776 : Int) < ((v 3 : Nat) : Int) by omega)] at this
      exact this
end Go.Proofs.YtoobiffhjjfpgaaGreat.Print
