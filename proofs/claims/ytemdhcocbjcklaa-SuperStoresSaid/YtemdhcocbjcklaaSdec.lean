/- super.Decode. -/
import Derived.Test.YtemdhcocbjcklaaOpenS
import Derived.Test.YtemdhcocbjcklaaRpieces
namespace Go.Proofs.Ytemdhcocbjcklaa.Print
open Go.RowKit

/-- The number i of a super's data. -/
def vD (D : ByteArray) (i : Nat) : Nat := readL (D.extract (2 + 4 * i) (6 + 4 * i)).data.toList
theorem vD_lt (D : ByteArray) (i : Nat) : vD D i < 4294967296 := by
  have h := readL_lt (D.extract (2 + 4 * i) (6 + 4 * i)).data.toList
  have hl : (D.extract (2 + 4 * i) (6 + 4 * i)).data.toList.length ≤ 4 := by rw [extract_list, List.length_take]; omega
  have hp : 256 ^ (D.extract (2 + 4 * i) (6 + 4 * i)).data.toList.length ≤ 256 ^ 4 := Nat.pow_le_pow_right (by decide) hl
  exact Nat.lt_of_lt_of_le h hp
/-- The numbers that were read, of five. -/
def nArr (v : Nat → Nat) (k : Nat) : Array Value := #[.int .u32 (if 0 < k then v 0 else 0 : Nat), .int .u32 (if 1 < k then v 1 else 0 : Nat), .int .u32 (if 2 < k then v 2 else 0 : Nat), .int .u32 (if 3 < k then v 3 else 0 : Nat), .int .u32 (if 4 < k then v 4 else 0 : Nat)]

/-- What super.Decode tells. -/
abbrev sdV (ok : Bool) (v : Nat → Nat) : Value := if ok then .tuple #[su5 (v 0) (v 1) (v 2) (v 3) (v 4), .int .i64 0] else .tuple #[su5 0 0 0 0 0, .int .i64 4]

set_option maxRecDepth 100000 in
set_option maxHeartbeats 400000 in
theorem sdec_shut (s : ByteArray) (w : World) (hO : Hid (∀ w, Calls Try.prog 64 #[.string s] w fun x w' => x = .returned (openV 0 0 ⟨#[]⟩ 4) ∧ Below w.heap.size w w')) :
    Calls Try.prog 38 #[.string s] w fun x w' => x = .returned (.tuple #[su5 0 0 0 0 0, .int .i64 4]) ∧ Below w.heap.size w w' := by
  go_enter Try.func38, Try.ntmps38
  go_wp2_with fail
  refine (hO.out _).mono ?_
  rintro e w1 ⟨rfl, hb1⟩
  have z1 := later_of (alloc_at _ _) hb1
  have hB1 : Below w.heap.size w w1 := ((Below.refl _ _).alloc (Nat.le_refl _) _).trans (hb1.mono (by simp))
  obtain ⟨c0, c1, c2, c3, c4, f0, f1, f2, f3, f4⟩ := five_of z1
  have hlt := lt_of z1
  clear hb1
  go_wp2
  exact bodyPost_ret (v := .tuple #[su5 0 0 0 0 0, .int .i64 4]) (by simp [results, Try.results38, go_sem, c0, c1, c2, c3, c4]) rfl ⟨rfl, by repeat (first | exact hB1 | refine Below.setCell ?_ (by simp) _ | refine below_drewN ?_ _ | refine Below.drew ?_ | refine Below.alloc ?_ (by simp) _)⟩

set_option maxRecDepth 100000 in
set_option maxHeartbeats 800000 in
theorem sdec_open (s D : ByteArray) (m n : Int) (hD : D.size = 52) (v : Nat → Nat) (hv : ∀ i, i < 5 → readL (D.extract (2 + 4 * i) (6 + 4 * i)).data.toList = v i) (hvl : ∀ i, i < 5 → v i < 4294967296)
    (E : ByteArray) (hE : bs (superL (v 0) (v 1) (v 2) (v 3) (v 4)) = E) (ok : Bool) (hok : (E.toList == s.toList) = ok)
    (w : World) (hO : Hid (∀ w, Calls Try.prog 64 #[.string s] w fun x w' => x = .returned (openV m n D 0) ∧ Below w.heap.size w w')) :
    Calls Try.prog 38 #[.string s] w fun x w' => x = .returned (sdV ok v) ∧ Below w.heap.size w w' := by
  have k5 : (E.toList != s.toList) = !ok := by rw [bne, hok]
  have HV := Lib.hid hv
  have HE := Lib.hid hE
  clear hv hE
  go_enter Try.func38, Try.ntmps38
  go_wp2_with fail
  refine (hO.out _).mono ?_
  rintro e w1 ⟨rfl, hb1⟩
  have z1 := later_of (alloc_at _ _) hb1
  have hB1 : Below w.heap.size w w1 := ((Below.refl _ _).alloc (Nat.le_refl _) _).trans (hb1.mono (by simp))
  have hlt := lt_of z1
  clear hb1
  go_wp2
  have z2 := alloc_at w1 (.cells (nArr v 0) 83)
  have z1' := alloc_old z1 (.cells (nArr v 0) 83)
  go_loopw [24] (fun i wr => ∃ k : Nat, k ≤ 5 ∧ i = .int .i64 k ∧ Wrote w1.heap.size (.cells (nArr v k) 83) (w1.alloc (.cells (nArr v 0) 83)) wr) (fun i _ => 5 - (intOf i).toNat)
  case atStart => exact ⟨0, Nat.zero_le _, rfl, Wrote.refl z2⟩
  case round =>
    obtain ⟨k, hk, rfl, hW⟩ := hrel
    by_cases hlt5 : k < 5
    · have hk4 : k = 0 ∨ k = 1 ∨ k = 2 ∨ k = 3 ∨ k = 4 := by omega
      have c0 := cell_of hW.at_ 
      have hf : ∀ o, wr.frozen? ⟨w1.heap.size, o, none⟩ = false := fun o => free_of hW.at_ o
      rcases hk4 with rfl | rfl | rfl | rfl | rfl
      · have hr := HV.out 0 (by omega)
        have hl := hvl 0 (by omega)
        have cc := c0 0
        have ff := hf 0
        go_wp2_with fail
        refine (read_any (D.extract 2 6) (by simp; omega) (by simp; omega) _).mono ?_
        rintro e w2 ⟨rfl, rfl⟩
        rw [hr]
        go_wp2
        go_roundw
        case rel => exact ⟨1, by omega, rfl, by
          have h := hW.setCell (o := 0) (.int .u32 (v 0 : Nat))
          simpa [nArr] using h⟩
        case measure => simp [intOf]
      · have hr := HV.out 1 (by omega)
        have hl := hvl 1 (by omega)
        have cc := c0 1
        have ff := hf 1
        go_wp2_with fail
        refine (read_any (D.extract 6 10) (by simp; omega) (by simp; omega) _).mono ?_
        rintro e w2 ⟨rfl, rfl⟩
        rw [hr]
        go_wp2
        go_roundw
        case rel => exact ⟨2, by omega, rfl, by
          have h := hW.setCell (o := 1) (.int .u32 (v 1 : Nat))
          simpa [nArr] using h⟩
        case measure => simp [intOf]
      · have hr := HV.out 2 (by omega)
        have hl := hvl 2 (by omega)
        have cc := c0 2
        have ff := hf 2
        go_wp2_with fail
        refine (read_any (D.extract 10 14) (by simp; omega) (by simp; omega) _).mono ?_
        rintro e w2 ⟨rfl, rfl⟩
        rw [hr]
        go_wp2
        go_roundw
        case rel => exact ⟨3, by omega, rfl, by
          have h := hW.setCell (o := 2) (.int .u32 (v 2 : Nat))
          simpa [nArr] using h⟩
        case measure => simp [intOf]
      · have hr := HV.out 3 (by omega)
        have hl := hvl 3 (by omega)
        have cc := c0 3
        have ff := hf 3
        go_wp2_with fail
        refine (read_any (D.extract 14 18) (by simp; omega) (by simp; omega) _).mono ?_
        rintro e w2 ⟨rfl, rfl⟩
        rw [hr]
        go_wp2
        go_roundw
        case rel => exact ⟨4, by omega, rfl, by
          have h := hW.setCell (o := 3) (.int .u32 (v 3 : Nat))
          simpa [nArr] using h⟩
        case measure => simp [intOf]
      · have hr := HV.out 4 (by omega)
        have hl := hvl 4 (by omega)
        have cc := c0 4
        have ff := hf 4
        go_wp2_with fail
        refine (read_any (D.extract 18 22) (by simp; omega) (by simp; omega) _).mono ?_
        rintro e w2 ⟨rfl, rfl⟩
        rw [hr]
        go_wp2
        go_roundw
        case rel => exact ⟨5, by omega, rfl, by
          have h := hW.setCell (o := 4) (.int .u32 (v 4 : Nat))
          simpa [nArr] using h⟩
        case measure => simp [intOf]
    · obtain rfl : k = 5 := by omega
      have z3 : wr.heap[w1.heap.size]? = some (.cells #[.int .u32 (v 0), .int .u32 (v 1), .int .u32 (v 2), .int .u32 (v 3), .int .u32 (v 4)] 83) := by simpa [nArr] using hW.at_
      have y3 : wr.heap[w.heap.size]? = some _ := (hW.other _ (by simp; omega) (by omega)).trans z1'
      have hB3 : Below w.heap.size w wr := (hB1.alloc hB1.size _).trans (hW.under (by have := hB1.size; omega))
      obtain ⟨d0, d1, d2, d3, d4, _⟩ := five_of z3
      have e0 := hvl 0 (by omega)
      have e1 := hvl 1 (by omega)
      have e2 := hvl 2 (by omega)
      have e3 := hvl 3 (by omega)
      have e4 := hvl 4 (by omega)
      clear hvl hW
      go_wp2_with fail
      refine (superEnc_any (v 0) (v 1) (v 2) (v 3) (v 4) e0 e1 e2 e3 e4 _).mono ?_
      rintro x w4 ⟨rfl, hb4⟩
      rw [HE.out]
      have y4 := later_of (alloc_old y3 _) hb4
      have x4 := later_of (alloc_at wr _) hb4
      have hB4 : Below w.heap.size w w4 := (hB3.alloc hB3.size _).trans (hb4.mono (by have := hB3.size; simp; omega))
      have hlt3 := lt_of y3
      have hlt4 := lt_of y4
      have hlx4 := lt_of x4
      clear hb4 hB3
      obtain ⟨a0, a1, a2, a3, a4, f0, f1, f2, f3, f4⟩ := five_of y4
      obtain ⟨b0, b1, b2, b3, b4, g0, g1, g2, g3, g4⟩ := five_of x4
      cases ok
      · go_wp2
        exact bodyPost_ret (v := .tuple #[su5 0 0 0 0 0, .int .i64 4]) (by simp [results, Try.results38, go_sem, a0, a1, a2, a3, a4]) rfl ⟨rfl, by repeat (first | exact hB4 | refine Below.setCell ?_ (by simp) _ | refine below_drewN ?_ _ | refine Below.drew ?_ | refine Below.alloc ?_ (by simp) _)⟩
      · go_wp2
        exact bodyPost_ret (v := .tuple #[su5 (v 0) (v 1) (v 2) (v 3) (v 4), .int .i64 0]) (by simp [results, Try.results38, go_sem, a0, a1, a2, a3, a4]) rfl ⟨rfl, by repeat (first | exact hB4 | refine Below.setCell ?_ (by simp) _ | refine below_drewN ?_ _ | refine Below.drew ?_ | refine Below.alloc ?_ (by simp) _)⟩

end Go.Proofs.Ytemdhcocbjcklaa.Print
