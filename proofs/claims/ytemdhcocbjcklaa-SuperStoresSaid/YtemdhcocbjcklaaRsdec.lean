/- weighlockref10.Decode. -/
import Derived.Test.YtemdhcocbjcklaaRsup
namespace Go.Proofs.Ytemdhcocbjcklaa.Print
open Go.RowKit

/-- What the reference's Decode tells. -/
abbrev gotU (v : Nat → Nat) (ok : Bool) : Value := .agg #[.int .u32 (v 0), .int .u32 (v 1), .int .u32 (v 2), .int .u32 (v 3), .int .u32 (v 4), .bool ok]
abbrev gotZ : Value := .agg #[.int .u32 0, .int .u32 0, .int .u32 0, .int .u32 0, .int .u32 0, .bool false]
theorem six_of {w : World} {b : Nat} {c0 c1 c2 c3 c4 c5 : Value} {t : TypeId} (h : w.heap[b]? = some (.cells #[c0, c1, c2, c3, c4, c5] t)) :
    w.cell? ⟨b, 0, none⟩ = some c0 ∧ w.cell? ⟨b, 1, none⟩ = some c1 ∧ w.cell? ⟨b, 2, none⟩ = some c2 ∧ w.cell? ⟨b, 3, none⟩ = some c3 ∧ w.cell? ⟨b, 4, none⟩ = some c4 ∧ w.cell? ⟨b, 5, none⟩ = some c5 ∧
    w.frozen? ⟨b, 0, none⟩ = false ∧ w.frozen? ⟨b, 1, none⟩ = false ∧ w.frozen? ⟨b, 2, none⟩ = false ∧ w.frozen? ⟨b, 3, none⟩ = false ∧ w.frozen? ⟨b, 4, none⟩ = false ∧ w.frozen? ⟨b, 5, none⟩ = false :=
  ⟨by rw [cell_of h]; rfl, by rw [cell_of h]; rfl, by rw [cell_of h]; rfl, by rw [cell_of h]; rfl, by rw [cell_of h]; rfl, by rw [cell_of h]; rfl, free_of h 0, free_of h 1, free_of h 2, free_of h 3, free_of h 4, free_of h 5⟩

set_option maxRecDepth 100000 in
set_option maxHeartbeats 400000 in
theorem rsdec_shut (s : ByteArray) (w : World) (hO : Hid (∀ w, Calls Try.prog 66 #[.string s] w fun x w' => x = .returned (gotS 0 0 ⟨#[]⟩ false) ∧ Below w.heap.size w w')) :
    Calls Try.prog 39 #[.string s] w fun x w' => x = .returned gotZ ∧ Below w.heap.size w w' := by
  go_enter Try.func39, Try.ntmps39
  go_wp2_with fail
  refine (hO.out _).mono ?_
  rintro e w1 ⟨rfl, hb1⟩
  have z1 := later_of (alloc_at _ _) hb1
  have hB1 : Below w.heap.size w w1 := ((Below.refl _ _).alloc (Nat.le_refl _) _).trans (hb1.mono (by simp))
  obtain ⟨c0, c1, c2, c3, c4, c5, f0, f1, f2, f3, f4, f5⟩ := six_of z1
  have hlt := lt_of z1
  clear hb1
  go_wp2
  have hsz := hB1.size
  exact bodyPost_ret (v := gotZ) (by simp [results, Try.results39, go_sem, c0, c1, c2, c3, c4, c5, hlt]) rfl ⟨rfl, by
    refine Below.alloc ?_ (by simpa using hsz) _
    iterate 6 with_reducible refine Below.setCell ?_ (by simp) _
    exact hB1⟩

set_option maxRecDepth 100000 in
set_option maxHeartbeats 800000 in
theorem rsdec_open (s D : ByteArray) (m n : Int) (hD : D.size = 52) (v : Nat → Nat) (hv : ∀ i, i < 5 → readL (D.extract (2 + 4 * i) (6 + 4 * i)).data.toList = v i) (hvl : ∀ i, i < 5 → v i < 4294967296)
    (E : ByteArray) (hE : bs (superL (v 0) (v 1) (v 2) (v 3) (v 4)) = E) (ok : Bool) (hok : (E.toList == s.toList) = ok)
    (w : World) (hO : Hid (∀ w, Calls Try.prog 66 #[.string s] w fun x w' => x = .returned (gotS m n D true) ∧ Below w.heap.size w w')) :
    Calls Try.prog 39 #[.string s] w fun x w' => x = .returned (if ok then gotU v true else gotZ) ∧ Below w.heap.size w w' := by
  have k5 : (E.toList != s.toList) = !ok := by rw [bne, hok]
  have HV := Lib.hid hv
  have HE := Lib.hid hE
  clear hv hE
  have e0 := hvl 0 (by omega)
  have e1 := hvl 1 (by omega)
  have e2 := hvl 2 (by omega)
  have e3 := hvl 3 (by omega)
  have e4 := hvl 4 (by omega)
  clear hvl
  go_enter Try.func39, Try.ntmps39
  go_wp2_with fail
  refine (hO.out _).mono ?_
  rintro e w1 ⟨rfl, hb1⟩
  have z1 := later_of (alloc_at _ _) hb1
  have hB1 : Below w.heap.size w w1 := ((Below.refl _ _).alloc (Nat.le_refl _) _).trans (hb1.mono (by simp))
  have hlt := lt_of z1
  clear hb1
  go_wp2_with fail
  refine (rread_any (D.extract 2 6) (by simp; omega) _).mono ?_
  rintro e w2 ⟨rfl, rfl⟩
  rw [HV.out 0 (by omega)]
  go_wp2_with fail
  refine (rread_any (D.extract 6 10) (by simp; omega) _).mono ?_
  rintro e w2 ⟨rfl, rfl⟩
  rw [HV.out 1 (by omega)]
  go_wp2_with fail
  refine (rread_any (D.extract 10 14) (by simp; omega) _).mono ?_
  rintro e w2 ⟨rfl, rfl⟩
  rw [HV.out 2 (by omega)]
  go_wp2_with fail
  refine (rread_any (D.extract 14 18) (by simp; omega) _).mono ?_
  rintro e w2 ⟨rfl, rfl⟩
  rw [HV.out 3 (by omega)]
  go_wp2_with fail
  refine (rread_any (D.extract 18 22) (by simp; omega) _).mono ?_
  rintro e w2 ⟨rfl, rfl⟩
  rw [HV.out 4 (by omega)]
  go_wp2_with fail
  refine (rsuperEnc_any (v 0) (v 1) (v 2) (v 3) (v 4) e0 e1 e2 e3 e4 _).mono ?_
  rintro x w4 ⟨rfl, hb4⟩
  rw [HE.out]
  have y4 := later_of (alloc_old (alloc_old z1 _) _) hb4
  have x4 := later_of (alloc_at' _ _ (w1.heap.size + 1) (by simp)) hb4
  have hB4 : Below w.heap.size w w4 := ((hB1.alloc hB1.size _).alloc (by have := hB1.size; simp; omega) _).trans (hb4.mono (by have := hB1.size; simp; omega))
  have hlt4 := lt_of y4
  have hlx4 := lt_of x4
  have hsz := hB1.size
  clear hb4 hB1
  obtain ⟨a0, a1, a2, a3, a4, a5, f0, f1, f2, f3, f4, f5⟩ := six_of y4
  obtain ⟨b0, b1, b2, b3, b4, g0, g1, g2, g3, g4⟩ := five_of x4
  cases ok
  · go_wp2
    exact bodyPost_ret (v := gotZ) (by simp [results, Try.results39, go_sem, a0, a1, a2, a3, a4, a5]) rfl ⟨rfl, by
      iterate 6 with_reducible refine Below.setCell ?_ (by simp) _
      exact hB4⟩
  · go_wp2
    exact bodyPost_ret (v := gotU v true) (by simp [results, Try.results39, go_sem, a0, a1, a2, a3, a4, a5]) rfl ⟨rfl, by
      iterate 6 with_reducible refine Below.setCell ?_ (by simp) _
      exact hB4⟩

end Go.Proofs.Ytemdhcocbjcklaa.Print
