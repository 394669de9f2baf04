/- The small case that each statement of layer 8 asks: a frame of no payload. -/
import Derived.Test.YtemdhcocbjcklaaDec
namespace Go.Proofs.Ytemdhcocbjcklaa.Print
open Go.RowKit

/-- The frame of kind 1 without payload, of stamp 7 at place 3. -/
def bareS : ByteArray := ⟨#[0, 1, 135, 165, 138, 47, 1]⟩
def bareX : ByteArray := ⟨#[0, 1, 135, 165, 138, 47, 1, 120]⟩
theorem bare_enc : bs (encL 7 3 (UInt8.ofNat 1 :: (⟨#[]⟩ : ByteArray).data.toList)) = bareS := by decide +kernel
theorem bare_x : bareS ++ ⟨#[120]⟩ = bareX := by decide +kernel
theorem bare_frame (w : World) : Calls Try.prog 27 #[.int .u32 7, .int .i64 3, .agg #[.int .i64 1, .string ⟨#[]⟩]] w fun e w' =>
    e = .returned (.tuple #[.string bareS, .int .i64 0]) ∧ Below w.heap.size w w' := by
  have h := enc_ok 7 3 1 ⟨#[]⟩ (by omega) (by omega) (by omega) (by omega) (by omega) (by decide) w
  rw [bare_enc] at h
  exact h
theorem bare_dec1 (w : World) : Calls Try.prog 30 #[.int .u32 7, .int .i64 3, .string bareX] w fun e w' =>
    e = .returned (decV 1 ⟨#[]⟩ 7 0) ∧ Below w.heap.size w w' :=
  dec_ok 7 3 bareX (by omega) (by omega) (by omega) (by decide) 1 (by decide +kernel) (by omega) (by omega) (by decide) ⟨#[1]⟩ (by decide +kernel) (by decide) (by decide) 2275772975 (by decide +kernel) (by omega) 2275772975 (by decide +kernel) (by omega) rfl w
theorem bare_dec2 (w : World) : Calls Try.prog 30 #[.int .u32 8, .int .i64 3, .string bareS] w fun e w' =>
    e = .returned (decV 0 ⟨#[]⟩ 0 4) ∧ Below w.heap.size w w' :=
  dec_sum 8 3 bareS (by omega) (by omega) (by omega) (by decide) 1 (by decide +kernel) (by omega) (by omega) (by decide) ⟨#[1]⟩ (by decide +kernel) (by decide) (by decide) 2275772975 (by decide +kernel) (by omega) 1995651322 (by decide +kernel) (by omega) (by omega) w
theorem bare_dec3 (w : World) : Calls Try.prog 30 #[.int .u32 7, .int .i64 4, .string bareS] w fun e w' =>
    e = .returned (decV 0 ⟨#[]⟩ 0 4) ∧ Below w.heap.size w w' :=
  dec_sum 7 4 bareS (by omega) (by omega) (by omega) (by decide) 1 (by decide +kernel) (by omega) (by omega) (by decide) ⟨#[1]⟩ (by decide +kernel) (by decide) (by decide) 2275772975 (by decide +kernel) (by omega) 443724438 (by decide +kernel) (by omega) (by omega) w

set_option maxRecDepth 100000 in
set_option maxHeartbeats 800000 in
theorem bare_any (w : World) : Calls Try.prog 26 #[] w fun e w' => e = .returned (.bool true) ∧ Below w.heap.size w w' := by
  have HX := Lib.hid bare_x
  go_enter Try.func26, Try.ntmps26
  go_wp2_with fail
  refine (bare_frame _).mono ?_
  rintro e w1 ⟨rfl, hb1⟩
  have hs1 : bareS.size = 7 := rfl
  have hs2 : (⟨#[120]⟩ : ByteArray).size = 1 := rfl
  have hx := HX.out
  go_wp2_with fail
  refine (bare_dec1 _).mono ?_
  rintro e w2 ⟨rfl, hb2⟩
  clear hx
  go_wp2_with fail
  refine (bare_dec2 _).mono ?_
  rintro e w3 ⟨rfl, hb3⟩
  go_wp2_with fail
  refine (bare_dec3 _).mono ?_
  rintro e w4 ⟨rfl, hb4⟩
  have q1 : (bareS.extract 0 2).toList = [0, 1] := by rw [ByteArray.toList_eq]; decide +kernel
  have q2 : (bareS.extract 6 7).toList = [1] := by rw [ByteArray.toList_eq]; decide +kernel
  have a3 := (hb3.block w2.heap.size (by simp)).trans (alloc_at _ _)
  have a4 := (hb4.block w2.heap.size (by have := hb3.size; simp at this; simp; omega)).trans (alloc_old a3 _)
  have hlt := lt_of a4
  obtain ⟨c0, c1, f0, f1⟩ := two_of a4
  clear a3 a4
  go_wp2_with fail
  refine (fsize_any 1 ⟨#[]⟩ (by decide) _).mono ?_
  rintro e w5 ⟨rfl, hb5⟩
  go_wp2_with fail
  refine (many_pos 53 _ rfl (by omega) (by omega) _).mono ?_
  rintro e w6 ⟨rfl, rfl⟩
  go_wp2
  go_ret
  refine ⟨rfl, ?_⟩
  have hA := below_chain hb1 hb2
  have hB := (hA.alloc hA.size _).trans (hb3.mono (by have := hA.size; simp; omega))
  have hC := (hB.alloc hB.size _).trans (hb4.mono (by have := hB.size; simp; omega))
  exact (hC.alloc hC.size _).trans (hb5.mono (by have := hC.size; simp; omega))

end Go.Proofs.Ytemdhcocbjcklaa.Print
