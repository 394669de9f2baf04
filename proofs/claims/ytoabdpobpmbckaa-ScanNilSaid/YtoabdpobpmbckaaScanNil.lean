/- weighlocklaw15: ScanNil. -/
import Derived.Test.YtoabdpobpmbckaaScanD
namespace Go.Proofs.Ytoabdpobpmbckaa.Print
open Go.RowKit
attribute [local go_sem] run_loadVar_scalar
set_option linter.unusedSimpArgs false

theorem all_zero (m : Nat) (hm : m ≤ 6) : allP (zeroDisk 98) [] 0 m = [] := by
  induction m with
  | zero => rfl
  | succ m ih => rw [allP_succ, ih (by omega), loadP_none (headP_none (t_zero m 0 (by omega) (by omega)))]; rfl
theorem chain_zero (id gen frm : Int) : chainP [] id gen frm = [] := rfl
set_option maxRecDepth 100000 in
set_option maxHeartbeats 3200000 in
theorem scannil_any (n : Int) (h1 : -9223372036854775808 ≤ n) (h2 : n ≤ 9223372036854775807) (w : World) : Calls Try.prog 11 #[.int .i64 n] w fun x w' => x = .returned (.bool true) ∧ Below w.heap.size w w' := by
  go_enter Try.func11, Try.ntmps11
  go_wp2_with fail
  refine (all_nil n _).mono ?_
  rintro x w0 ⟨rfl, rfl⟩
  go_wp2_with fail
  refine (fresh15_any _).mono ?_
  rintro x w1 ⟨v, F0, rfl, hV0, hb1, hF0⟩
  have G1 := Lib.hid (⟨hb1, hF0⟩ : Below w.heap.size w w1 ∧ ∀ i, F0 i → w.heap.size ≤ i)
  have KF := Lib.hid (vfuse_is hV0 0 (by omega))
  clear hV0 hb1 hF0
  go_wp2_with fail
  refine KF.out.mono ?_
  rintro x w2 ⟨rfl, F1, hV1, hU, hN⟩
  have G2 := Lib.hid (grow_upd G1.out.1 (Nat.le_refl _) G1.out.2 hU hN)
  obtain ⟨d, lb, wv, V1, hF1⟩ := hV1
  have HF1 := Lib.hid hF1
  have KD := Lib.hid (vflush_dead V1 (.inl (by decide)))
  clear hU hN hF1 V1 KF
  go_wp2_with fail
  refine KD.out.mono ?_
  rintro x w3 ⟨rfl, wv2, V2, hU, hN⟩
  have G3 := Lib.hid (grow_upd (F' := VFoot v d lb wv2) G2.out.1 (Nat.le_refl _) (fun i hi => G2.out.2 i ((HF1.out i).2 hi)) hU (fun i hi => by
    rcases hi with rfl | rfl | rfl | h
    · exact .inl (.inl rfl)
    · exact .inl (.inr (.inl rfl))
    · exact .inl (.inr (.inr (.inl rfl)))
    · exact (hN i h).imp (fun h => .inr (.inr (.inr h))) id))
  have HV2 := Lib.hid V2
  obtain ⟨st, hv⟩ := V2.view_
  have KA := Lib.hid (all_dead hv (by omega) (by omega))
  clear hU hN hv V2 KD
  go_wp2_with fail
  refine KA.out.mono ?_
  rintro x w4 ⟨rfl, hb4⟩
  have G4 := Lib.hid (G3.out.1.trans (hb4.mono G3.out.1.size))
  have HV4 := Lib.hid (HV2.out.below hb4)
  clear hb4 KA
  go_wp2_with fail
  refine (fresh15_any _).mono ?_
  rintro x w5 ⟨v2, F5, rfl, hV5, hb5, hF5⟩
  have G5 := Lib.hid (G4.out.trans (hb5.mono G4.out.size))
  have HV5 := Lib.hid (HV4.out.below hb5)
  obtain ⟨m, hm⟩ : ∃ m : Nat, max (min n 9) 0 = (m : Int) := ⟨(max (min n 9) 0).toNat, by omega⟩
  have KB := Lib.hid (scanall_any hV5 (by omega) (by simp) m 6 (by omega) (by omega) (by omega) (min n 9) hm)
  clear hV5 hb5 hF5
  go_wp2_with fail
  refine KB.out.mono ?_
  rintro x w6 ⟨hAP, hb6⟩
  have G6 := Lib.hid (G5.out.trans (hb6.mono G5.out.size))
  have HV6 := Lib.hid (HV5.out.below hb6)
  unfold AllPost at hAP
  clear hb6 KB
  by_cases hn : 6 < n
  · rw [if_pos (by rw [decide_eq_true_eq]; omega)] at hAP
    subst hAP
    clear hm
    go_wp2_with fail
    refine (clean_nil _ _ _).mono ?_
    rintro x w7 ⟨rfl, rfl⟩
    go_wp2_with fail
    refine (clean_dead HV6.out).mono ?_
    rintro x w8 ⟨rfl, wq, hbq, hUq⟩
    have G8 := Lib.hid (grow_upd (F' := VFoot v d lb wv2) (G6.out.trans (hbq.mono G6.out.size)) (Nat.le_refl _) G3.out.2 hUq (fun i hi => .inl hi)).1
    have KX : Hid (Calls Try.prog 61 #[.slice none 0 0, .int .i64 n, .int .u32 0, .int .i64 n] w8 fun x w' => ∃ (ao' : Option Addr) (cap' : Nat), x = .returned (.slice ao' 0 cap') ∧ Below w8.heap.size w8 w') := Lib.hid ((chain_any (nil_list v w8) 0 (by simp) (fun S hS => by cases hS) n 0 n).mono fun x w' ⟨a, c, _, h1, _, _, h2⟩ => ⟨a, c, h1, h2⟩)
    clear hbq hUq
    go_wp2_with fail
    refine KX.out.mono ?_
    rintro x w9 ⟨ao, ac, rfl, hb9⟩
    have G9 := Lib.hid (G8.out.trans (hb9.mono G8.out.size))
    clear hb9 KX
    go_wp2_with fail
    refine (three_any _).mono ?_
    rintro x w10 ⟨rfl, hb⟩
    have G10 := Lib.hid (G9.out.trans (hb.mono G9.out.size))
    clear hb
    go_wp2
    go_ret
    exact ⟨rfl, G10.out⟩
  · rw [if_neg (by rw [decide_eq_true_eq]; omega), all_zero m (by omega)] at hAP
    obtain ⟨bo, bc, _, _, rfl, _, _⟩ := hAP
    simp only [List.length_nil]
    have hn2 : n ≤ 6 := by omega
    clear hm
    go_wp2_with fail
    refine (clean_nil _ _ _).mono ?_
    rintro x w7 ⟨rfl, rfl⟩
    go_wp2_with fail
    refine (clean_dead HV6.out).mono ?_
    rintro x w8 ⟨rfl, wq, hbq, hUq⟩
    have G8 := Lib.hid (grow_upd (F' := VFoot v d lb wv2) (G6.out.trans (hbq.mono G6.out.size)) (Nat.le_refl _) G3.out.2 hUq (fun i hi => .inl hi)).1
    have KX : Hid (Calls Try.prog 61 #[.slice none 0 0, .int .i64 n, .int .u32 0, .int .i64 n] w8 fun x w' => ∃ (ao' : Option Addr) (cap' : Nat), x = .returned (.slice ao' 0 cap') ∧ Below w8.heap.size w8 w') := Lib.hid ((chain_any (nil_list v w8) 0 (by simp) (fun S hS => by cases hS) n 0 n).mono fun x w' ⟨a, c, _, h1, _, _, h2⟩ => ⟨a, c, h1, h2⟩)
    clear hbq hUq
    go_wp2_with fail
    refine KX.out.mono ?_
    rintro x w9 ⟨ao, ac, rfl, hb9⟩
    have G9 := Lib.hid (G8.out.trans (hb9.mono G8.out.size))
    clear hb9 KX
    go_wp2_with fail
    refine (three_any _).mono ?_
    rintro x w10 ⟨rfl, hb⟩
    have G10 := Lib.hid (G9.out.trans (hb.mono G9.out.size))
    clear hb
    go_wp2
    go_ret
    exact ⟨rfl, G10.out⟩
end Go.Proofs.Ytoabdpobpmbckaa.Print
