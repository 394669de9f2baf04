/- super.Encode: a super's sector. -/
import Derived.Test.YtemdhcocbjcklaaSeal
import Derived.Test.YtemdhcocbjcklaaRefs
import Derived.Test.YtemdhcocbjcklaaShelf
import Derived.Lib.Repeat
namespace Go.Proofs.Ytemdhcocbjcklaa.Print
open Go.RowKit

/-- A super as a value: its five numbers. -/
abbrev su5 (a b c d e : Nat) : Value := .agg #[.int .u32 a, .int .u32 b, .int .u32 c, .int .u32 d, .int .u32 e]
def nth5 (a b c d e : Nat) : Nat → Nat | 0 => a | 1 => b | 2 => c | 3 => d | _ => e
def preL (a b c d e : Nat) : Nat → List UInt8 | 0 => [87, 76] | k + 1 => preL a b c d e k ++ beL (nth5 a b c d e k) 4
theorem preL_length (a b c d e : Nat) : ∀ k, (preL a b c d e k).length = 2 + 4 * k
  | 0 => rfl
  | k + 1 => by rw [preL, List.length_append, preL_length a b c d e k, beL_length]; omega
def sup26 (a b c d e : Nat) : List UInt8 := preL a b c d e 5 ++ beL (Crc.crc 0 (preL a b c d e 5)) 4
def z26 : List UInt8 := List.replicate 26 0
theorem z26_length : z26.length = 26 := by simp [z26]
def supD (a b c d e : Nat) : List UInt8 := sup26 a b c d e ++ z26
def superL (a b c d e : Nat) : List UInt8 := sealL a 1 (supD a b c d e)
theorem sup26_length (a b c d e : Nat) : (sup26 a b c d e).length = 26 := by rw [sup26, List.length_append, preL_length, beL_length]
theorem supD_length (a b c d e : Nat) : (supD a b c d e).length = 52 := by rw [supD, List.length_append, sup26_length, z26_length]
theorem superL_length (a b c d e : Nat) : (superL a b c d e).length = 64 := by rw [superL, sealL, List.length_append, List.length_append, markL_length, supD_length]

theorem five_of {w : World} {b : Nat} {c0 c1 c2 c3 c4 : Value} {t : TypeId} (h : w.heap[b]? = some (.cells #[c0, c1, c2, c3, c4] t)) :
    w.cell? ⟨b, 0, none⟩ = some c0 ∧ w.cell? ⟨b, 1, none⟩ = some c1 ∧ w.cell? ⟨b, 2, none⟩ = some c2 ∧ w.cell? ⟨b, 3, none⟩ = some c3 ∧ w.cell? ⟨b, 4, none⟩ = some c4 ∧
    w.frozen? ⟨b, 0, none⟩ = false ∧ w.frozen? ⟨b, 1, none⟩ = false ∧ w.frozen? ⟨b, 2, none⟩ = false ∧ w.frozen? ⟨b, 3, none⟩ = false ∧ w.frozen? ⟨b, 4, none⟩ = false :=
  ⟨by rw [cell_of h]; rfl, by rw [cell_of h]; rfl, by rw [cell_of h]; rfl, by rw [cell_of h]; rfl, by rw [cell_of h]; rfl, free_of h 0, free_of h 1, free_of h 2, free_of h 3, free_of h 4⟩

set_option maxHeartbeats 400000 in
theorem numbers_any (a b c d e : Nat) (w : World) :
    Calls Try.prog 68 #[su5 a b c d e] w fun x w' => x = .returned (su5 a b c d e) ∧ Below w.heap.size w w' := by
  go_enter Try.func68, Try.ntmps68
  go_wp2
  exact bodyPost_ret (v := su5 a b c d e) (by simp [results, Try.results68, go_sem]) rfl ⟨rfl, ((Below.refl _ _).alloc (Nat.le_refl _) _).alloc (by simp) _⟩

set_option maxHeartbeats 400000 in
theorem sfixed_any (v : Nat) (hv : v < 4294967296) (w : World) :
    Calls Try.prog 69 #[.int .u32 v] w fun x w' => x = .returned (.string (be v 4)) ∧ Below w.heap.size w w' := by
  go_enter Try.func69, Try.ntmps69
  go_wp2_with fail
  refine (fixed_fits v 4 (by omega) (by omega) (by omega) _).mono ?_
  rintro x w1 ⟨rfl, hb1⟩
  go_wp2
  go_ret
  exact ⟨rfl, hb1⟩

theorem arr5 : Try.prog.underlying 83 = some (.array (Try.prog.arrayLen 83) (Try.prog.elem 83)) := by kernel_rfl
theorem al5 : Try.prog.arrayLen 83 = 5 := by kernel_rfl
theorem co5 : Try.prog.cellsOf (Try.prog.elem 83) = 1 := by kernel_rfl
theorem idx5 (c : Array Value) (i : Nat) (v : Value) (hi : i < 5) (hv : c[i]? = some v) (w : World) : (Instr.index 83 (.agg c) (.int .i64 i)).run Try.prog w = .ok v w := by
  simp [Instr.index, run_underlying arr5, asIntOf, hi, hv, go_sem]
theorem be_bs (v n : Nat) : be v n = bs (beL v n) := by apply list_inj; rw [be_list, bs_list]

set_option maxRecDepth 100000 in
set_option maxHeartbeats 800000 in
theorem superEnc_any (a b c d e : Nat) (ha : a < 4294967296) (hb : b < 4294967296) (hc : c < 4294967296) (hd : d < 4294967296) (he : e < 4294967296) (w : World) :
    Calls Try.prog 41 #[su5 a b c d e] w fun x w' => x = .returned (.string (bs (superL a b c d e))) ∧ Below w.heap.size w w' := by
  have hRep : ∀ w, Calls Try.prog 63 #[.string ⟨#[0]⟩, .int .i64 26] w fun e w' => e = .returned (.string (bs z26)) ∧ Below w.heap.size w w' := by
    intro w
    have h := Try.strings_Repeat ⟨#[0]⟩ 26 w (by omega) (by show 1 * 26 ≤ _; omega)
    have e1 : (Lib.repeatL (⟨#[0]⟩ : ByteArray).data.toList 26) = List.replicate 26 0 := by
      have := Lib.repeatL_replicate 0 1 26
      simpa using this
    rw [e1] at h
    exact h
  have KR := Lib.hid hRep
  clear hRep
  have hp : ∀ k, (bs (preL a b c d e k)).size = 2 + 4 * k := fun k => by rw [bs_size, preL_length]
  have hcr := Crc.crc_lt 0 (preL a b c d e 5)
  obtain ⟨S, hS⟩ : ∃ S, Crc.crc 0 (preL a b c d e 5) = S := ⟨_, rfl⟩
  have hj26 : bs (preL a b c d e 5) ++ be S 4 = bs (sup26 a b c d e) := by rw [be_bs, bs_append, sup26, hS]
  have hj52 : bs (sup26 a b c d e) ++ bs z26 = bs (supD a b c d e) := by rw [bs_append, supD]
  have hSeal : ∀ w, Calls Try.prog 71 #[.int .u32 a, .int .i64 1, .string (bs (supD a b c d e))] w fun x w' => x = .returned (.tuple #[.string (bs (superL a b c d e)), .int .i64 0]) ∧ Below w.heap.size w w' := by
    intro w
    have h := seal_any a 1 (bs (supD a b c d e)) ha (by omega) (by omega) (by rw [bs_size, supD_length]) w
    rw [bs_list] at h
    exact h
  have KS := Lib.hid hSeal
  clear hSeal
  have h26 : (bs (sup26 a b c d e)).size = 26 := by rw [bs_size, sup26_length]
  have hr26 : (bs z26).size = 26 := by rw [bs_size, z26_length]
  rw [hS] at hcr
  have HS := Lib.hid hS
  have HJ := Lib.hid hj26
  have HJ2 := Lib.hid hj52
  clear hS hj26 hj52
  go_enter Try.func41, Try.ntmps41
  go_wp2_with fail
  refine (numbers_any a b c d e _).mono ?_
  rintro x w1 ⟨rfl, hb1⟩
  have z1 := later_of (alloc_at _ _) hb1
  have hB1 : Below w.heap.size w w1 := ((Below.refl _ _).alloc (Nat.le_refl _) _).trans (hb1.mono (by simp))
  clear hb1
  go_wp2
  go_loopw [3, 10] (fun s i wr => ∃ k : Nat, k ≤ 5 ∧ i = .int .i64 k ∧ s = .string (bs (preL a b c d e k)) ∧ Below w1.heap.size w1 wr) (fun _ i _ => 5 - (intOf i).toNat)
  case atStart => exact ⟨0, Nat.zero_le _, rfl, rfl, Below.refl _ _⟩
  case round =>
    obtain ⟨k, hk, rfl, rfl, hB⟩ := hrel
    by_cases hlt : k < 5
    · have hk4 : k = 0 ∨ k = 1 ∨ k = 2 ∨ k = 3 ∨ k = 4 := by omega
      have hpk := hp k
      rcases hk4 with rfl | rfl | rfl | rfl | rfl
      · have i0 : ∀ W, (Instr.index 83 (su5 a b c d e) (.int .i64 0)).run Try.prog W = .ok (.int .u32 a) W := fun W => idx5 _ 0 _ (by omega) rfl W
        have q1 := be_size a 4
        go_wp2_with fail
        refine (sfixed_any a (by omega) _).mono ?_
        rintro x w2 ⟨rfl, hb2⟩
        go_wp2
        go_roundw
        case rel => exact ⟨1, by omega, rfl, by rw [be_bs, bs_append]; rfl, below_chain hB hb2⟩
        case measure => simp [intOf]
      · have i0 : ∀ W, (Instr.index 83 (su5 a b c d e) (.int .i64 1)).run Try.prog W = .ok (.int .u32 b) W := fun W => idx5 _ 1 _ (by omega) rfl W
        have q1 := be_size b 4
        go_wp2_with fail
        refine (sfixed_any b (by omega) _).mono ?_
        rintro x w2 ⟨rfl, hb2⟩
        go_wp2
        go_roundw
        case rel => exact ⟨2, by omega, rfl, by rw [be_bs, bs_append]; rfl, below_chain hB hb2⟩
        case measure => simp [intOf]
      · have i0 : ∀ W, (Instr.index 83 (su5 a b c d e) (.int .i64 2)).run Try.prog W = .ok (.int .u32 c) W := fun W => idx5 _ 2 _ (by omega) rfl W
        have q1 := be_size c 4
        go_wp2_with fail
        refine (sfixed_any c (by omega) _).mono ?_
        rintro x w2 ⟨rfl, hb2⟩
        go_wp2
        go_roundw
        case rel => exact ⟨3, by omega, rfl, by rw [be_bs, bs_append]; rfl, below_chain hB hb2⟩
        case measure => simp [intOf]
      · have i0 : ∀ W, (Instr.index 83 (su5 a b c d e) (.int .i64 3)).run Try.prog W = .ok (.int .u32 d) W := fun W => idx5 _ 3 _ (by omega) rfl W
        have q1 := be_size d 4
        go_wp2_with fail
        refine (sfixed_any d (by omega) _).mono ?_
        rintro x w2 ⟨rfl, hb2⟩
        go_wp2
        go_roundw
        case rel => exact ⟨4, by omega, rfl, by rw [be_bs, bs_append]; rfl, below_chain hB hb2⟩
        case measure => simp [intOf]
      · have i0 : ∀ W, (Instr.index 83 (su5 a b c d e) (.int .i64 4)).run Try.prog W = .ok (.int .u32 e) W := fun W => idx5 _ 4 _ (by omega) rfl W
        have q1 := be_size e 4
        go_wp2_with fail
        refine (sfixed_any e (by omega) _).mono ?_
        rintro x w2 ⟨rfl, hb2⟩
        go_wp2
        go_roundw
        case rel => exact ⟨5, by omega, rfl, by rw [be_bs, bs_append]; rfl, below_chain hB hb2⟩
        case measure => simp [intOf]
    · obtain rfl : k = 5 := by omega
      have hp5 := hp 5
      have q1 := be_size S 4
      go_wp2_with fail
      refine (crc_any 0 (by omega) _ (by omega) _).mono ?_
      rintro x w2 ⟨rfl, hb2⟩
      rw [bs_list, HS.out]
      go_wp2_with fail
      refine (sfixed_any S hcr _).mono ?_
      rintro x w3 ⟨rfl, hb3⟩
      have hB3 := below_chain (below_chain hB hb2) hb3
      have z3 := later_of z1 hB3
      have hB0 := below_chain hB1 hB3
      clear hb2 hb3 hB hB3
      have hlt := lt_of z3
      obtain ⟨c0, c1, _⟩ := five_of z3
      go_wp2_with fail
      rw [HJ.out]
      go_region_held3 (fun w' => w'.cell? ⟨w.heap.size, 0, none⟩ = some (.int .u32 a) ∧ w'.cell? ⟨w.heap.size, 1, none⟩ = some (.int .u32 b) ∧ Below w3.heap.size w3 w') (first | assumption | exact keep_drew2 c0 c1 | exact keep_call2 hlt (by assumption) hb | exact keep_alloc2 hlt (by assumption) _)
        (first | (go_at_call 63; with_reducible refine (KR.out _).mono ?_; rintro e w4 ⟨rfl, hb⟩) | (go_at_call 71; rw [HJ2.out]; with_reducible refine (KS.out _).mono ?_; rintro e w4 ⟨rfl, hb⟩))
      have hS5 : w4.cell? ⟨w.heap.size, 0, none⟩ = some (.int .u32 a) ∧ w4.cell? ⟨w.heap.size, 1, none⟩ = some (.int .u32 b) ∧ Below w3.heap.size w3 w4 := by assumption
      go_wp2
      go_ret
      exact ⟨rfl, below_chain hB0 hS5.2.2⟩

end Go.Proofs.Ytemdhcocbjcklaa.Print
