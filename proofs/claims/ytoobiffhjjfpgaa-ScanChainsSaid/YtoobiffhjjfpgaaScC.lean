/- weighlocklaw15: ScanChains. -/
import Derived.Test.YtoobiffhjjfpgaaMadeOpen
import Derived.Test.YtoobiffhjjfpgaaChnP
import Derived.Test.YtoobiffhjjfpgaaRefCh
import Derived.Test.YtoobiffhjjfpgaaScL
namespace Go.Proofs.Ytoobiffhjjfpgaa.Print
open Go.RowKit
attribute [local go_sem] run_loadVar_scalar
set_option linter.unusedSimpArgs false

theorem zero_made (w : World) : (zeroValue 30).run Try.prog w = .ok (.agg (madeA no6)) w := by kernel_rfl
theorem madeA_one (t : T6) : ∀ v ∈ (madeA t).toList, v.oneCell' = true := by
  intro v hv
  simp only [madeA, List.mem_cons, List.not_mem_nil, or_false] at hv
  rcases hv with rfl | rfl | rfl | rfl | rfl | rfl <;> rfl
theorem made_cells {w : World} {g : Nat} {t : T6} {ty : TypeId} (h : w.heap[g]? = some (.cells (madeA t) ty)) :
    w.cell? ⟨g, 0, none⟩ = some (.int .i64 t.1) ∧ w.cell? ⟨g, 1, none⟩ = some (.int .i64 t.2.1) ∧ w.cell? ⟨g, 2, none⟩ = some (.int .i64 t.2.2.1) ∧ w.cell? ⟨g, 3, none⟩ = some (.int .u32 t.2.2.2.1) ∧ w.cell? ⟨g, 4, none⟩ = some (.int .u32 t.2.2.2.2.1) ∧ w.cell? ⟨g, 5, none⟩ = some (.int .i64 t.2.2.2.2.2) :=
  ⟨by rw [cell_of h]; rfl, by rw [cell_of h]; rfl, by rw [cell_of h]; rfl, by rw [cell_of h]; rfl, by rw [cell_of h]; rfl, by rw [cell_of h]; rfl⟩
theorem load_hdr2 {w : World} {g : Nat} {a b c d : Int} (h2 : w.cell? ⟨g, 2, none⟩ = some (.int .i64 a)) (h3 : w.cell? ⟨g, 3, none⟩ = some (.int .u32 b)) (h4 : w.cell? ⟨g, 4, none⟩ = some (.int .u32 c)) (h5 : w.cell? ⟨g, 5, none⟩ = some (.int .i64 d)) :
    (loadVar 25 ⟨g, 2, none⟩).run Try.prog w = .ok (hdV a b c d) w := by
  refine run_loadVar_cells w ⟨g, 2, none⟩ 25 [.int .i64 a, .int .u32 b, .int .u32 c, .int .i64 d] _ (fun j v hv => ?_) Try.underlying25 rfl (by kernel_rfl)
  match j, hv with
  | 0, hv => cases hv; exact h2
  | 1, hv => cases hv; exact h3
  | 2, hv => cases hv; exact h4
  | 3, hv => cases hv; exact h5
set_option maxRecDepth 100000 in
set_option maxHeartbeats 1600000 in
attribute [-go_sem] Instr.build Instr.fill Instr.buildSlice loadVar in
theorem scanchains_any {w : World} {ao : Option Addr} {l : List T6} (hl : MadesAt w ao l) (cap : Nat) (hcap : l.length ≤ cap) (hok : ∀ t ∈ l, T6Ok t) (a b c d : Int) :
    Calls Try.prog 3 #[.slice ao l.length cap, hdV a b c d] w fun x w' => x = .returned (.bool true) ∧ Below w.heap.size w w' := by
  have HL := Lib.hid hl
  have hzl := zero_lie
  have hbl := build_lie
  obtain ⟨Z, hZ⟩ : ∃ Z, lieA (fun _ => no6) = Z := ⟨_, rfl⟩
  have hst := fun W => store_new' W (lieA fun _ => no6) (lieA fun _ => no6) 31 rfl (lieA_one _)
  have hzs : Z.size = 36 := by rw [← hZ]; rfl
  rw [hZ] at hzl hbl hst
  have hyl := zero_the
  have hby := build_the
  obtain ⟨Y, hY⟩ : ∃ Y, theA (fun _ => false) = Y := ⟨_, rfl⟩
  have hsy := fun W => store_new' W (theA fun _ => false) (theA fun _ => false) 32 rfl (theA_one _)
  have hys : Y.size = 6 := by rw [← hY]; rfl
  rw [hY] at hyl hby hsy
  have HY := Lib.hid hY
  clear hY
  have HZ := Lib.hid hZ
  clear hl hZ
  go_enter Try.func3, Try.ntmps3
  by_cases h20 : 20 < l.length
  · have g20 : (20 : Int) < (l.length : Int) := by omega
    go_wp2_with fail
    refine (three_any _).mono ?_
    rintro x w1 ⟨rfl, hb⟩
    go_wp2
    go_ret
    exact ⟨rfl, ((Below.refl _ _).alloc (Nat.le_refl _) _).trans (hb.mono (by simp))⟩
  · have g20 : ¬ (20 : Int) < (l.length : Int) := by omega
    go_wp2_with fail
    refine (fresh15_any _).mono ?_
    rintro x w1 ⟨v, F0, rfl, hV0, hb1, hF0⟩
    have HV0 := Lib.hid hV0
    have HB1 := Lib.hid hb1
    have HF0 := Lib.hid hF0
    clear hV0 hb1 hF0
    have hsy1 := hsy (w1.alloc (.cells Z 31))
    rw [World.size_alloc] at hsy1
    clear hsy
    go_wp2_with fail
    clear hsy1 hst hby hbl
    have ha1 := alloc_at w1 (.cells Z 31)
    have ha2 := alloc_old ha1 (.cells Y 32)
    have hb2 := alloc_at (w1.alloc (.cells Z 31)) (.cells Y 32)
    rw [World.size_alloc] at hb2
    have hB2 : Below w1.heap.size w1 ((w1.alloc (.cells Z 31)).alloc (.cells Y 32)) := ((Below.refl _ _).alloc (Nat.le_refl _) _).alloc (by simp) _
    clear ha1
    revert ha2 hb2 hB2
    generalize (w1.alloc (.cells Z 31)).alloc (.cells Y 32) = w2
    intro ha2 hb2 hB2
    have HP := Lib.hid (HL.out.below ((Below.refl w.heap.size w).alloc (Nat.le_refl _) (Obj.cells #[Value.int IntKind.i64 a, Value.int IntKind.u32 b, Value.int IntKind.u32 c, Value.int IntKind.i64 d] 25)))
    have hzm := zero_made
    have hsm := fun (W : World) (t : T6) => store_new' W (madeA no6) (madeA t) 30 rfl (madeA_one _)
    obtain ⟨lb, hlb⟩ : ∃ lb, w1.heap.size = lb := ⟨_, rfl⟩
    rw [hlb] at ha2 hb2
    rw [hlb]
    have HLB := Lib.hid hlb
    have HINIT : Hid (Lied l 0 lb (lb + 1) w2) := Lib.hid ⟨fun _ => no6, fun _ => false, by rw [ha2, HZ.out], by rw [hb2, HY.out], fun n _ => ⟨rfl, fun m hm => by simp [madeL] at hm⟩⟩
    have HV2 := Lib.hid (ViewIs.stays.below HV0.out hB2)
    have HB2 := Lib.hid hB2
    clear ha2 hb2 hB2 hlb hzl hyl
    have hbox := alloc_at w (Obj.cells #[Value.int IntKind.i64 a, Value.int IntKind.u32 b, Value.int IntKind.u32 c, Value.int IntKind.i64 d] 25)
    have HW0 := Lib.hid ((Below.refl w.heap.size w).alloc (Nat.le_refl _) (Obj.cells #[Value.int IntKind.i64 a, Value.int IntKind.u32 b, Value.int IntKind.u32 c, Value.int IntKind.i64 d] 25))
    have HSZ : Hid ((w.alloc (Obj.cells #[Value.int IntKind.i64 a, Value.int IntKind.u32 b, Value.int IntKind.u32 c, Value.int IntKind.i64 d] 25)).heap.size = w.heap.size + 1) := Lib.hid (by simp)
    have HBOX := Lib.hid (later_of (later_of hbox HB1.out) HB2.out)
    have HBW := Lib.hid (HW0.out.trans ((HB1.out.trans (HB2.out.mono HB1.out.size)).mono HW0.out.size))
    have HFL := Lib.hid (fun i (hi : F0 i) => ViewIs.there HV0.out i hi)
    clear hbox
    go_loopw [37] (fun i wr => ∃ j : Nat, j ≤ l.length ∧ i = .int .i64 j ∧ (∀ t ∈ l.take j, ValT d t) ∧ MInv ((l.take j).map mOf) ∧ Lied l j lb (lb + 1) wr ∧ ∃ F', ViewIs v (zeroDisk 98) (madeW ((l.take j).map mOf)) 0 98 (-1) false wr F' ∧ Below w.heap.size w wr ∧ (∀ i, F' i → w.heap.size + 1 ≤ i) ∧ ¬ F' lb ∧ ¬ F' (lb + 1) ∧ wr.heap[w.heap.size]? = some (Obj.cells #[Value.int IntKind.i64 a, Value.int IntKind.u32 b, Value.int IntKind.u32 c, Value.int IntKind.i64 d] 25)) (fun i _ => l.length - (intOf i).toNat)
    case atStart => exact ⟨0, Nat.zero_le _, rfl, fun t ht => absurd ht (by simp), MInv.nil, HINIT.out, F0, HV2.out, HBW.out, fun i hi => by have := HF0.out i hi; have := HSZ.out; omega, fun hc => by have := HFL.out lb hc; have := HLB.out; omega, fun hc => by have := HFL.out (lb + 1) hc; have := HLB.out; omega, HBOX.out⟩
    case round =>
      obtain ⟨j, hj, rfl, hval, hinv, hlied, F', hV', hBr, hF1, hF2, hF3, hbx⟩ := hrel
      have HVAL := Lib.hid hval
      have HINV := Lib.hid hinv
      have HLIED := Lib.hid hlied
      have HV' := Lib.hid hV'
      have HBr := Lib.hid hBr
      have HF1 := Lib.hid hF1
      have HF2 := Lib.hid hF2
      have HF3 := Lib.hid hF3
      have HBX := Lib.hid hbx
      clear hval hinv hlied hV' hBr hF1 hF2 hF3 hbx
      by_cases hlt : j < l.length
      · obtain ⟨ad, had, hld⟩ := (HL.out.below HBr.out).load j hlt
        obtain ⟨t, ht⟩ : ∃ t, l[j] = t := ⟨_, rfl⟩
        rw [ht] at hld
        have HT := Lib.hid ht
        have HAD := Lib.hid had
        subst had
        have hjc : (j : Int) ≤ (cap : Int) := by omega
        obtain ⟨M, hM⟩ : ∃ M, madeA t = M := ⟨_, rfl⟩
        have hsm1 := hsm wr t
        rw [hM] at hld hsm1
        have HMM := Lib.hid hM
        have hMs : M.size = 6 := by rw [← hM]; rfl
        obtain ⟨Z6, hZ6⟩ : ∃ Z6, madeA no6 = Z6 := ⟨_, rfl⟩
        rw [hZ6] at hsm1 hzm
        clear ht hM
        go_wp2_with fail
        have hat := alloc_at wr (Obj.cells M 30)
        have hB1 := Below.alloc (Below.refl wr.heap.size wr) (Nat.le_refl _) (Obj.cells M 30)
        obtain ⟨g9, hg9⟩ : ∃ g, wr.heap.size = g := ⟨_, rfl⟩
        rw [hg9] at hat
        rw [hg9]
        clear hld hsm1
        revert hB1 hat
        generalize wr.alloc (Obj.cells M 30) = w3
        intro hB1 hat
        have HB3 := Lib.hid hB1
        have HAT : Hid (w3.heap[g9]? = some (.cells (madeA t) 30)) := Lib.hid (by rw [HMM.out]; exact hat)
        have HG9 := Lib.hid hg9
        have hzm2 := hzm
        clear hB1 hat hg9
        go_loopw [46] (fun i wr => ∃ k : Nat, k ≤ j ∧ i = .int .i64 k ∧ (∀ o ∈ l.take k, o.1 = t.1 → o.2.2.2.2.1 ≠ t.2.2.2.2.1) ∧ Below w3.heap.size w3 wr) (fun i _ => j - (intOf i).toNat)
        case atStart => exact ⟨0, Nat.zero_le _, rfl, fun o ho => absurd ho (by simp), Below.refl _ _⟩
        case round =>
          obtain ⟨k, hk, rfl, hno, hB4⟩ := hrel
          have HNO := Lib.hid hno
          have HB4 := Lib.hid hB4
          clear hno hB4
          by_cases hkj : k < j
          · obtain ⟨ad', had', hld2⟩ := ((HL.out.below (HBr.out.trans (HB3.out.mono HBr.out.size))).below HB4.out).load k (by omega)
            cases had'
            obtain ⟨o, ho⟩ : ∃ o, l[k]'(by omega) = o := ⟨_, rfl⟩
            rw [ho] at hld2
            have HOO := Lib.hid ho
            obtain ⟨M2, hM2⟩ : ∃ M, madeA o = M := ⟨_, rfl⟩
            have hsm2 := hsm wr o
            have hMs2 : M2.size = 6 := by rw [← hM2]; rfl
            rw [hZ6, hM2] at hsm2
            rw [hM2] at hld2
            obtain ⟨x0, _, _, _, x4, _⟩ := made_cells (alloc_old (later_of HAT.out HB4.out) (Obj.cells M2 30))
            have hato := alloc_at wr (Obj.cells M2 30)
            rw [← hM2] at hato
            obtain ⟨y0, _, _, _, y4, _⟩ := made_cells hato
            rw [hM2] at y0 y4
            have HB5 := Lib.hid (Below.alloc HB4.out HB4.out.size (Obj.cells M2 30))
            clear ho hM2 hato
            by_cases c0 : o.1 = t.1
            · by_cases c4 : o.2.2.2.2.1 = t.2.2.2.2.1
              · rw [c0] at y0
                rw [c4] at y4
                go_wp2_with fail
                refine (three_any _).mono ?_
                rintro x w6 ⟨rfl, hb6⟩
                go_wp2
                go_ret
                exact ⟨rfl, (HBr.out.trans ((HB3.out.trans ((HB5.out.mono HB3.out.size))).mono HBr.out.size)).trans (hb6.mono (HBr.out.trans ((HB3.out.trans ((HB5.out.mono HB3.out.size))).mono HBr.out.size)).size)⟩
              · have HNX : Hid (∀ o ∈ l.take (k + 1), o.1 = t.1 → o.2.2.2.2.1 ≠ t.2.2.2.2.1) := Lib.hid (fun o' ho' he => by
                  rw [List.take_succ_eq_append_getElem (by omega), HOO.out] at ho'
                  rcases List.mem_append.1 ho' with h | h
                  · exact HNO.out o' h he
                  · rw [List.mem_singleton.1 h]; exact c4)
                rw [c0] at y0
                have c4' : (o.2.2.2.2.1 == t.2.2.2.2.1) = false := by simpa using c4
                go_wp2
                go_roundw
                case rel => exact ⟨k + 1, hkj, by simp, HNX.out, HB5.out⟩
                case measure => simp [intOf]; omega
            · have HNX : Hid (∀ o ∈ l.take (k + 1), o.1 = t.1 → o.2.2.2.2.1 ≠ t.2.2.2.2.1) := Lib.hid (fun o' ho' he => by
                rw [List.take_succ_eq_append_getElem (by omega), HOO.out] at ho'
                rcases List.mem_append.1 ho' with h | h
                · exact HNO.out o' h he
                · rw [List.mem_singleton.1 h] at he; exact absurd he c0)
              have c0' : (o.1 == t.1) = false := by simpa using c0
              go_wp2
              go_roundw
              case rel => exact ⟨k + 1, hkj, by simp, HNX.out, HB5.out⟩
              case measure => simp [intOf]; omega
          · obtain rfl : k = j := by omega
            obtain ⟨x0, x1, x2, x3, x4, x5⟩ := made_cells (later_of HAT.out HB4.out)
            obtain ⟨z0, z1, z2, z3⟩ := hdr_cells (later_of (later_of HBX.out (HG9.out ▸ HB3.out)) HB4.out)
            have HBend := Lib.hid (HBr.out.trans ((HB3.out.trans (HB4.out.mono HB3.out.size)).mono HBr.out.size))
            by_cases g0 : 0 ≤ t.1
            · have f0 : decide (t.1 < 0) = false := decide_eq_false (by omega)
              by_cases g1 : t.1 ≤ 5
              · have f1 : decide (5 < t.1) = false := decide_eq_false (by omega)
                by_cases g2 : 0 ≤ t.2.1
                · have f2 : decide (t.2.1 < 0) = false := decide_eq_false (by omega)
                  by_cases g3 : t.2.1 ≤ 9
                  · have f3 : decide (9 < t.2.1) = false := decide_eq_false (by omega)
                    by_cases g4 : 1 ≤ t.2.2.1
                    · have f4 : decide (t.2.2.1 < 1) = false := decide_eq_false (by omega)
                      by_cases g5 : t.2.2.1 ≤ 65535
                      · have f5 : decide (65535 < t.2.2.1) = false := decide_eq_false (by omega)
                        by_cases g6 : 0 ≤ t.2.2.2.2.2
                        · have f6 : decide (t.2.2.2.2.2 < 0) = false := decide_eq_false (by omega)
                          by_cases g7 : t.2.2.2.2.2 ≤ 1073741824
                          · have f7 : decide (1073741824 < t.2.2.2.2.2) = false := decide_eq_false (by omega)
                            by_cases g8 : d ≤ 1073741824
                            · have f8 : decide (1073741824 < d) = false := decide_eq_false (by omega)
                              have hvt : ValT d t := ⟨g0, g1, g2, g3, g4, g5, g6, g7, g8⟩
                              have htok := hok t (by rw [← HT.out]; exact List.getElem_mem hlt)
                              have hmo := ValT.ok hvt htok
                              have HVT := Lib.hid hvt
                              have HMO := Lib.hid hmo
                              have hVw := ViewIs.stays.below (ViewIs.stays.below HV'.out HB3.out) HB4.out
                              have hlw : (madeW ((l.take k).map mOf)).length ≤ 800000000 := by
                                have := madeW_length ((l.take k).map mOf) (fun m hm => by
                                  obtain ⟨o, ho, rfl⟩ := List.mem_map.1 hm
                                  have := HVAL.out o ho
                                  unfold ValT at this
                                  unfold mOf
                                  simp only
                                  omega)
                                rw [List.length_map, List.length_take] at this
                                omega
                              have KL := laid_any hVw (mOf t).n (mOf t).h hmo.2.2 (by omega) (by have := hmo.1; omega) hlw (mOf t).fr hmo.2.1
                              have e1 : (((mOf t).n : Nat) : Int) = t.1 := by unfold mOf; simp only; omega
                              have e2 : (((mOf t).fr : Nat) : Int) = t.2.1 := by unfold mOf; simp only; omega
                              have e3 : (((mOf t).h.1 : Nat) : Int) = t.2.2.1 := by unfold mOf; simp only; omega
                              have e4 : (((mOf t).h.2.1 : Nat) : Int) = t.2.2.2.1 := by have := htok.1; unfold mOf; simp only; omega
                              have e5 : (((mOf t).h.2.2.1 : Nat) : Int) = t.2.2.2.2.1 := by have := htok.2; unfold mOf; simp only; omega
                              have e6 : (((mOf t).h.2.2.2 : Nat) : Int) = t.2.2.2.2.2 := by unfold mOf; simp only; omega
                              rw [e1, e2, e3, e4, e5, e6] at KL
                              have HKL := Lib.hid KL
                              have hlh := load_hdr2 x2 x3 x4 x5
                              clear KL hVw hlw hvt hmo htok e1 e2 e3 e4 e5 e6
                              go_wp2_with fail
                              refine HKL.out.mono ?_
                              rintro x w6 ⟨rfl, F2, hV2, hU2, hN2⟩
                              have hM6 := hU2.at_ (later_of HAT.out HB4.out) (fun hc => by have := ViewIs.there HV'.out g9 hc; have := HG9.out; omega)
                              obtain ⟨f, gb, hl0, ht0, hfg⟩ := HLIED.out
                              have hlt0 := ht0
                              have hl6 := hU2.at_ (later_of (later_of hl0 HB3.out) HB4.out) HF2.out
                              have ht6 := hU2.at_ (later_of (later_of ht0 HB3.out) HB4.out) HF3.out
                              have HBX6 := Lib.hid (hU2.at_ (later_of (later_of HBX.out HB3.out) HB4.out) (fun hc => by have := HF1.out _ hc; omega))
                              have HL6 := Lib.hid hl6
                              have HT6 := Lib.hid ht6
                              have HFG := Lib.hid hfg
                              have HV6 := Lib.hid hV2
                              have HU6 := Lib.hid hU2
                              have HN6 := Lib.hid hN2
                              obtain ⟨m0, _, _, _, _, _⟩ := made_cells hM6
                              have hldm := run_loadVar_row w6 g9 30 30 (madeA t) (0, 0) _ hM6 Try.underlying30 rfl (by kernel_rfl)
                              have hszM : (madeA t).size = 6 := rfl
                              have hstl := store_lie hl6 t t.1.toNat (by omega) (t.1.toNat * 6) (by omega)
                              have ht5 : t.1 < 6 := by omega
                              have hne9 : lb ≠ g9 := by
                                intro e
                                have h1 := lt_of hl0
                                have := HG9.out
                                omega
                              have hM7 : (w6.setRow lb (lieA (upd6 f t.1.toNat t))).heap[g9]? = some (.cells (madeA t) 30) := by simp [World.setRow, Array.getElem?_modify, hne9, hM6]
                              obtain ⟨n0, _, _, _, _, _⟩ := made_cells hM7
                              have hT7 : (w6.setRow lb (lieA (upd6 f t.1.toNat t))).heap[lb + 1]? = some (.cells (theA gb) 32) := by simp [World.setRow, Array.getElem?_modify, ht6]
                              have hc7 : (w6.setRow lb (lieA (upd6 f t.1.toNat t))).cell? ⟨lb + 1, t.1.toNat, none⟩ = some (.bool (gb t.1.toNat)) := by rw [cell_of hT7]; exact the_at gb _ (by omega)
                              have hz7 := fun o => free_of hT7 o
                              clear hl0 ht0 hfg hV2 hU2 hN2 x0 x1 x2 x3 x4 x5 z0 z1 z2 z3 hlh
                              have HNEXT : Hid (Lied l (k + 1) lb (lb + 1) ((w6.setRow lb (lieA (upd6 f t.1.toNat t))).setCell ⟨lb + 1, t.1.toNat, none⟩ (.bool true))) := Lib.hid (lied_next HL6.out HT6.out HFG.out hlt HT.out (by omega) (by omega))
                              have HMI : Hid (MInv ((l.take (k + 1)).map mOf)) := Lib.hid (by
                                rw [List.take_succ_eq_append_getElem hlt, List.map_append, List.map_singleton, HT.out]
                                refine HINV.out.snoc HMO.out (fun o ho he => ?_)
                                obtain ⟨o', ho', rfl⟩ := List.mem_map.1 ho
                                have v1 := HVAL.out o' ho'
                                have v2 := HVT.out
                                have t1 := hok o' (List.mem_of_mem_take ho')
                                have t2 := hok t (by rw [← HT.out]; exact List.getElem_mem hlt)
                                have hno := HNO.out o' ho'
                                unfold ValT at v1 v2
                                unfold T6Ok at t1 t2
                                unfold mOf at he ⊢
                                simp only at he ⊢
                                exact fun hs => hno (by omega) (by omega))
                              have HVN : Hid (∀ t' ∈ l.take (k + 1), ValT d t') := Lib.hid (fun t' ht' => by
                                rw [List.take_succ_eq_append_getElem hlt, HT.out] at ht'
                                rcases List.mem_append.1 ht' with h | h
                                · exact HVAL.out t' h
                                · rw [List.mem_singleton.1 h]; exact HVT.out)
                              have HU7 : Hid (Upd (fun i => i = lb ∨ i = lb + 1) w6 ((w6.setRow lb (lieA (upd6 f t.1.toNat t))).setCell ⟨lb + 1, t.1.toNat, none⟩ (.bool true))) := Lib.hid (((Upd.refl _ w6).setRow (fun _ => .inl rfl) _).setCell (p := ⟨lb + 1, t.1.toNat, none⟩) (fun _ => .inr rfl) _)
                              have hfar : ∀ i, F2 i → F' i ∨ lb + 1 < i := fun i hi => by
                                rcases HN6.out i hi with h | h
                                · exact .inl h
                                · have := lt_of (later_of (later_of hlt0 HB3.out) HB4.out); exact .inr (by omega)
                              have HFAR := Lib.hid hfar
                              have HREL : Hid (∃ F', ViewIs v (zeroDisk 98) (madeW ((l.take (k + 1)).map mOf)) 0 98 (-1) false ((w6.setRow lb (lieA (upd6 f t.1.toNat t))).setCell ⟨lb + 1, t.1.toNat, none⟩ (.bool true)) F' ∧ Below w.heap.size w ((w6.setRow lb (lieA (upd6 f t.1.toNat t))).setCell ⟨lb + 1, t.1.toNat, none⟩ (.bool true)) ∧ (∀ i, F' i → w.heap.size + 1 ≤ i) ∧ ¬ F' lb ∧ ¬ F' (lb + 1) ∧ ((w6.setRow lb (lieA (upd6 f t.1.toNat t))).setCell ⟨lb + 1, t.1.toNat, none⟩ (.bool true)).heap[w.heap.size]? = some (Obj.cells #[Value.int IntKind.i64 a, Value.int IntKind.u32 b, Value.int IntKind.u32 c, Value.int IntKind.i64 d] 25)) := Lib.hid (by
                                have hlbw : w.heap.size + 1 ≤ lb := by have h1 := HB1.out.size; have h2 := HSZ.out; have h3 := HLB.out; omega
                                have n0 : ¬ F2 lb := fun hc => by
                                  rcases HFAR.out lb hc with h | h
                                  · exact HF2.out h
                                  · omega
                                have n1 : ¬ F2 (lb + 1) := fun hc => by
                                  rcases HFAR.out _ hc with h | h
                                  · exact HF3.out h
                                  · omega
                                have hge : ∀ i, F2 i → w.heap.size + 1 ≤ i := fun i hi => by
                                  rcases HFAR.out i hi with h | h
                                  · exact HF1.out i h
                                  · omega
                                have hbl := grow_upd HBend.out (Nat.le_refl _) (fun i hi => Nat.le_of_succ_le (HF1.out i hi)) HU6.out HN6.out
                                have hVn := ViewIs.stays HV6.out HU7.out (fun i hi hc => by
                                  rcases hc with rfl | rfl
                                  · exact n0 hi
                                  · exact n1 hi)
                                refine ⟨F2, ?_, hbl.1.trans (HU7.out.below hbl.1.size (fun i hi hc => by rcases hc with rfl | rfl <;> omega)), hge, n0, n1, HU7.out.at_ HBX6.out (fun hc => by rcases hc with h | h <;> omega)⟩
                                rw [List.take_succ_eq_append_getElem hlt, List.map_append, List.map_singleton, HT.out, madeW_snoc]
                                exact hVn)
                              clear hfar
                              go_wp2
                              go_roundw
                              case rel => exact ⟨k + 1, hlt, by simp, HVN.out, HMI.out, HNEXT.out, HREL.out⟩
                              case measure => simp [intOf]; omega
                            · have f8 : 1073741824 < d := by omega
                              go_wp2_with fail
                              refine (three_any _).mono ?_
                              rintro x w6 ⟨rfl, hb6⟩
                              go_wp2
                              go_ret
                              exact ⟨rfl, HBend.out.trans (hb6.mono HBend.out.size)⟩
                          · have f7 : 1073741824 < t.2.2.2.2.2 := by omega
                            go_wp2_with fail
                            refine (three_any _).mono ?_
                            rintro x w6 ⟨rfl, hb6⟩
                            go_wp2
                            go_ret
                            exact ⟨rfl, HBend.out.trans (hb6.mono HBend.out.size)⟩
                        · have f6 : t.2.2.2.2.2 < 0 := by omega
                          go_wp2_with fail
                          refine (three_any _).mono ?_
                          rintro x w6 ⟨rfl, hb6⟩
                          go_wp2
                          go_ret
                          exact ⟨rfl, HBend.out.trans (hb6.mono HBend.out.size)⟩
                      · have f5 : 65535 < t.2.2.1 := by omega
                        go_wp2_with fail
                        refine (three_any _).mono ?_
                        rintro x w6 ⟨rfl, hb6⟩
                        go_wp2
                        go_ret
                        exact ⟨rfl, HBend.out.trans (hb6.mono HBend.out.size)⟩
                    · have f4 : t.2.2.1 < 1 := by omega
                      go_wp2_with fail
                      refine (three_any _).mono ?_
                      rintro x w6 ⟨rfl, hb6⟩
                      go_wp2
                      go_ret
                      exact ⟨rfl, HBend.out.trans (hb6.mono HBend.out.size)⟩
                  · have f3 : 9 < t.2.1 := by omega
                    go_wp2_with fail
                    refine (three_any _).mono ?_
                    rintro x w6 ⟨rfl, hb6⟩
                    go_wp2
                    go_ret
                    exact ⟨rfl, HBend.out.trans (hb6.mono HBend.out.size)⟩
                · have f2 : t.2.1 < 0 := by omega
                  go_wp2_with fail
                  refine (three_any _).mono ?_
                  rintro x w6 ⟨rfl, hb6⟩
                  go_wp2
                  go_ret
                  exact ⟨rfl, HBend.out.trans (hb6.mono HBend.out.size)⟩
              · have f1 : 5 < t.1 := by omega
                go_wp2_with fail
                refine (three_any _).mono ?_
                rintro x w6 ⟨rfl, hb6⟩
                go_wp2
                go_ret
                exact ⟨rfl, HBend.out.trans (hb6.mono HBend.out.size)⟩
            · have f0 : t.1 < 0 := by omega
              go_wp2_with fail
              refine (three_any _).mono ?_
              rintro x w6 ⟨rfl, hb6⟩
              go_wp2
              go_ret
              exact ⟨rfl, HBend.out.trans (hb6.mono HBend.out.size)⟩
      · obtain ⟨w7, rfl⟩ : ∃ w7, w7 = wr := ⟨_, rfl⟩
        obtain rfl : j = l.length := by omega
        have HVAL2 : Hid (∀ t ∈ l, ValT d t) := Lib.hid (fun t ht => HVAL.out t (by rw [List.take_length]; exact ht))
        obtain ⟨LL, hLL⟩ : ∃ LL, l.map mOf = LL := ⟨_, rfl⟩
        have HI : Hid (MInv LL) := Lib.hid (by rw [← hLL]; have h := HINV.out; rwa [List.take_length] at h)
        obtain ⟨f, gb, hl0, ht0, hfg⟩ := HLIED.out
        rw [List.take_length, hLL] at hfg
        have HFG := Lib.hid hfg
        have HL0 := Lib.hid hl0
        have HT0 := Lib.hid ht0
        have HVw : Hid (ViewIs v (zeroDisk 98) (madeW LL) 0 98 (-1) false w7 F') := Lib.hid (by rw [← hLL]; have h := HV'.out; rwa [List.take_length] at h)
        have hlw : (madeW LL).length ≤ 200 := by
          have := madeW_length LL (fun m hm => by
            rw [← hLL] at hm
            obtain ⟨o, ho, rfl⟩ := List.mem_map.1 hm
            have := HVAL2.out o ho
            unfold ValT at this
            unfold mOf
            simp only
            omega)
          rw [← hLL, List.length_map] at this
          rw [← hLL]
          omega
        obtain ⟨i5, hi5, hz50, hz51, hz52⟩ := info_parts info_seg15
        obtain ⟨i1, hi1, hz10, hz11, hz12⟩ := info_parts info_int
        have hb5 := build_seg5
        have hbs5 := build_segs1
        have hbi1 := build_int1
        clear hl0 ht0 hfg hLL hzm hsm
        go_wp2_with fail
        go_loopw [12, 13, 131] (fun sv nv i wr => ∃ j : Nat, j ≤ 6 ∧ i = .int .i64 j ∧ wr.ownsRow w7.heap.size 37 5 sv (allK LL j).length (segsC (allK LL j)) ∧ wr.ownsRow w7.heap.size 3 1 nv (allK LL j).length (oC ((allK LL j).map (·.n))) ∧ (∀ k, sv.ownBlock = some k → nv.ownBlock ≠ some k) ∧ Below w7.heap.size w7 wr) (fun _ _ i _ => 6 - (intOf i).toNat)
        case atStart => exact ⟨0, by omega, rfl, World.ownsRow_nil _ _ _ _, World.ownsRow_nil _ _ _ _, fun k hk => (by cases hk), Below.refl _ _⟩
        case round =>
          obtain ⟨j, hj, rfl, hsg, hnm, hne, hB8⟩ := hrel
          have HSG := Lib.hid hsg
          have HNM := Lib.hid hnm
          have HNE := Lib.hid hne
          have HB8 := Lib.hid hB8
          obtain ⟨so, sc, hv5⟩ := row_slice3 hsg
          obtain ⟨no, nc, hv6⟩ := row_slice3 hnm
          subst hv5
          subst hv6
          clear hsg hnm hne hB8
          by_cases hj6 : j < 6
          · have hl8 := later_of HL0.out HB8.out
            have ht8 := later_of HT0.out HB8.out
            have hc8 : wr.cell? ⟨lb + 1, j, none⟩ = some (.bool (gb j)) := by rw [cell_of ht8]; exact the_at gb j hj6
            have j0 : (0 : Int) ≤ j := by omega
            have j6 : (j : Int) < 6 := by omega
            cases hg : gb j with
            | false =>
              rw [hg] at hc8
              have HK : Hid (allK LL (j + 1) = allK LL j) := Lib.hid (allK_none (by have h1 := (HFG.out j hj6).1; rw [hg] at h1; simpa using h1))
              clear hl8 ht8
              go_wp2
              go_roundw
              case rel => exact ⟨j + 1, hj6, by simp, by rw [HK.out]; exact HSG.out, by rw [HK.out]; exact HNM.out, HNE.out, HB8.out⟩
              case measure => simp [intOf]; omega
            | true =>
              rw [hg] at hc8
              obtain ⟨m, hm⟩ : ∃ m, madeL LL j = some m := Option.isSome_iff_exists.1 (by rw [(HFG.out j hj6).1]; exact hg)
              obtain ⟨hmo, hfl⟩ := (HFG.out j hj6).2 m hm
              have hvt := HVAL2.out _ hfl
              have hto := hok _ hfl
              have HMN := Lib.hid (HI.out.some_ j hj6 m hm).1
              obtain ⟨t, ht⟩ : ∃ t, f j = t := ⟨_, rfl⟩
              obtain ⟨c1, c2, c3, c4, c5⟩ := lie_cells hl8 j hj6 (j * 6) (by omega)
              rw [ht] at hmo hvt hto c1 c2 c3 c4 c5
              have hseg := seg_of hvt hto
              rw [hmo] at hseg
              have HSEG := Lib.hid hseg
              have HK : Hid (allK LL (j + 1) = allK LL j ++ [segM m]) := Lib.hid (allK_some hm)
              have hld := load_hdr6 c2 c3 c4 c5
              have HFT := Lib.hid ht
              have HL8 := Lib.hid hl8
              clear hseg hvt hto hmo hfl hm ht c1 c2 c3 c4 c5 ht8 hl8
              obtain ⟨pn, hpn⟩ : ∃ pn, (allK LL j).length = pn := ⟨_, rfl⟩
              have hpl : pn ≤ 6 := by have := allK_le LL j; omega
              rw [hpn] at HSG HNM HNE ⊢
              have HPN := Lib.hid hpn
              clear hpn
              go_wp2_with fail
              have hat := alloc_at wr (Obj.cells #[Value.int IntKind.i64 t.2.2.1, Value.int IntKind.u32 t.2.2.2.1, Value.int IntKind.u32 t.2.2.2.2.1, Value.int IntKind.i64 t.2.2.2.2.2] 25)
              have hl9 := alloc_old HL8.out (Obj.cells #[Value.int IntKind.i64 t.2.2.1, Value.int IntKind.u32 t.2.2.2.1, Value.int IntKind.u32 t.2.2.2.2.1, Value.int IntKind.i64 t.2.2.2.2.2] 25)
              have hB9 := HB8.out.alloc HB8.out.size (Obj.cells #[Value.int IntKind.i64 t.2.2.1, Value.int IntKind.u32 t.2.2.2.1, Value.int IntKind.u32 t.2.2.2.2.1, Value.int IntKind.i64 t.2.2.2.2.2] 25)
              have hB9w := Below.alloc (Below.refl wr.heap.size wr) (Nat.le_refl _) (Obj.cells #[Value.int IntKind.i64 t.2.2.1, Value.int IntKind.u32 t.2.2.2.1, Value.int IntKind.u32 t.2.2.2.2.1, Value.int IntKind.i64 t.2.2.2.2.2] 25)
              obtain ⟨g9, hg9⟩ : ∃ g, wr.heap.size = g := ⟨_, rfl⟩
              rw [hg9] at hat
              rw [hg9]
              clear hld hc8
              revert hat hl9 hB9 hB9w
              generalize wr.alloc (Obj.cells #[Value.int IntKind.i64 t.2.2.1, Value.int IntKind.u32 t.2.2.2.1, Value.int IntKind.u32 t.2.2.2.2.1, Value.int IntKind.i64 t.2.2.2.2.2] 25) = w9
              intro hl9 hB9 hB9w hat
              have L : Hid (∀ W : World, (W.heap[g9]? = some (Obj.cells #[Value.int IntKind.i64 t.2.2.1, Value.int IntKind.u32 t.2.2.2.1, Value.int IntKind.u32 t.2.2.2.2.1, Value.int IntKind.i64 t.2.2.2.2.2] 25) ∧ W.heap[lb]? = some (.cells (lieA f) 31)) → W.cell? ⟨g9, 0, none⟩ = some (.int .i64 t.2.2.1) ∧ W.cell? ⟨g9, 1, none⟩ = some (.int .u32 t.2.2.2.1) ∧ W.cell? ⟨g9, 2, none⟩ = some (.int .u32 t.2.2.2.2.1) ∧ W.cell? ⟨g9, 3, none⟩ = some (.int .i64 t.2.2.2.2.2) ∧ W.cell? ⟨lb, j * 6 + 1, none⟩ = some (.int .i64 t.2.1)) := Lib.hid (fun W h => by
                obtain ⟨z0, z1, z2, z3⟩ := hdr_cells h.1
                obtain ⟨c1, _, _, _, _⟩ := lie_cells h.2 j hj6 (j * 6) (by omega)
                rw [HFT.out] at c1
                exact ⟨z0, z1, z2, z3, c1⟩)
              have hb10 : Below w9.heap.size w9 w9.drew := (Below.refl _ _).drew
              have HSG10 := Lib.hid (ownsRow_below (ownsRow_below HSG.out hB9w) hb10)
              have HNM10 := Lib.hid (ownsRow_below (ownsRow_below HNM.out hB9w) hb10)
              have HB10 := Lib.hid (hB9.trans (hb10.mono hB9.size))
              have HSZ9 := Lib.hid hB9w.size
              have HG9 := Lib.hid hg9
              have hS0 : (fun W : World => W.heap[g9]? = some (Obj.cells #[Value.int IntKind.i64 t.2.2.1, Value.int IntKind.u32 t.2.2.2.1, Value.int IntKind.u32 t.2.2.2.2.1, Value.int IntKind.i64 t.2.2.2.2.2] 25) ∧ W.heap[lb]? = some (.cells (lieA f) 31)) w9.drew := ⟨hat, hl9⟩
              clear hat hl9 hB9 hB9w hg9 hb10
              refine wp_region_held_drew (S := fun W : World => W.heap[g9]? = some (Obj.cells #[Value.int IntKind.i64 t.2.2.1, Value.int IntKind.u32 t.2.2.2.1, Value.int IntKind.u32 t.2.2.2.2.1, Value.int IntKind.i64 t.2.2.2.2.2] 25) ∧ W.heap[lb]? = some (.cells (lieA f) 31)) (by kernel_rfl) hS0 ?_
              intro hS
              clear hS0
              obtain ⟨w10, hw10⟩ : ∃ w10, w9.drew = w10 := ⟨_, rfl⟩
              rw [hw10] at hS HSG10 HNM10 HB10 ⊢
              clear hw10
              have hs10 : w7.heap.size ≤ w10.heap.size := HB10.out.size
              simp only [List.size_toArray, List.length_cons, List.length_nil, Nat.reduceAdd]
              rw [show Array.replicate 17 false = #[false, false, false, false, false, false, false, false, false, false, false, false, false, false, false, false, false] from rfl]
              refine wpAnyH_take (i := 0) (v := ?_) rfl (by kernel_rfl) (by kernel_rfl) (by kernel_rfl) (fun _ _ _ h => h) (Or.inl ⟨by rfl, ?_⟩) hS ?_
              rotate_left 1
              · (intro w' hw'; obtain ⟨z0, z1, z2, z3, c1⟩ := L.out w' hw'; simp only [List.getElem_toArray, List.getElem_cons_zero, List.getElem_cons_succ]; go_simp; try with_reducible rfl)
              simp only [Act.put, List.getElem_toArray, List.getElem_cons_zero, List.getElem_cons_succ, List.setIfInBounds_toArray, List.set_cons_zero, List.set_cons_succ]
              refine wpAnyH_take (i := 1) (v := ?_) rfl (by kernel_rfl) (by kernel_rfl) (by kernel_rfl) (fun _ _ _ h => h) (Or.inl ⟨by rfl, ?_⟩) hS ?_
              rotate_left 1
              · (intro w' hw'; obtain ⟨z0, z1, z2, z3, c1⟩ := L.out w' hw'; simp only [List.getElem_toArray, List.getElem_cons_zero, List.getElem_cons_succ]; go_simp; try with_reducible rfl)
              simp only [Act.put, List.getElem_toArray, List.getElem_cons_zero, List.getElem_cons_succ, List.setIfInBounds_toArray, List.set_cons_zero, List.set_cons_succ]
              refine wpAnyH_take (i := 2) (v := ?_) rfl (by kernel_rfl) (by kernel_rfl) (by kernel_rfl) (fun _ _ _ h => h) (Or.inl ⟨by rfl, ?_⟩) hS ?_
              rotate_left 1
              · (intro w' hw'; obtain ⟨z0, z1, z2, z3, c1⟩ := L.out w' hw'; simp only [List.getElem_toArray, List.getElem_cons_zero, List.getElem_cons_succ]; go_simp; try with_reducible rfl)
              simp only [Act.put, List.getElem_toArray, List.getElem_cons_zero, List.getElem_cons_succ, List.setIfInBounds_toArray, List.set_cons_zero, List.set_cons_succ]
              refine wpAnyH_take (i := 3) (v := ?_) rfl (by kernel_rfl) (by kernel_rfl) (by kernel_rfl) (fun _ _ _ h => h) (Or.inl ⟨by rfl, ?_⟩) hS ?_
              rotate_left 1
              · (intro w' hw'; obtain ⟨z0, z1, z2, z3, c1⟩ := L.out w' hw'; simp only [List.getElem_toArray, List.getElem_cons_zero, List.getElem_cons_succ]; go_simp; try with_reducible rfl)
              simp only [Act.put, List.getElem_toArray, List.getElem_cons_zero, List.getElem_cons_succ, List.setIfInBounds_toArray, List.set_cons_zero, List.set_cons_succ]
              refine wpAnyH_take (i := 4) (v := ?_) rfl (by kernel_rfl) (by kernel_rfl) (by kernel_rfl) (fun _ _ _ h => h) (Or.inl ⟨by rfl, ?_⟩) hS ?_
              rotate_left 1
              · (intro w' hw'; obtain ⟨z0, z1, z2, z3, c1⟩ := L.out w' hw'; simp only [List.getElem_toArray, List.getElem_cons_zero, List.getElem_cons_succ]; go_simp; try with_reducible rfl)
              simp only [Act.put, List.getElem_toArray, List.getElem_cons_zero, List.getElem_cons_succ, List.setIfInBounds_toArray, List.set_cons_zero, List.set_cons_succ]
              refine wpAnyH_take (i := 5) (v := ?_) rfl (by kernel_rfl) (by kernel_rfl) (by kernel_rfl) (fun _ _ _ h => h) (Or.inl ⟨by rfl, ?_⟩) hS ?_
              rotate_left 1
              · (intro w' hw'; obtain ⟨z0, z1, z2, z3, c1⟩ := L.out w' hw'; simp only [List.getElem_toArray, List.getElem_cons_zero, List.getElem_cons_succ]; go_simp; try with_reducible rfl)
              simp only [Act.put, List.getElem_toArray, List.getElem_cons_zero, List.getElem_cons_succ, List.setIfInBounds_toArray, List.set_cons_zero, List.set_cons_succ]
              refine wpAnyH_take (i := 6) (v := ?_) rfl (by kernel_rfl) (by kernel_rfl) (by kernel_rfl) (fun _ _ _ h => h) (Or.inl ⟨by rfl, ?_⟩) hS ?_
              rotate_left 1
              · (intro w' hw'; obtain ⟨z0, z1, z2, z3, c1⟩ := L.out w' hw'; simp only [List.getElem_toArray, List.getElem_cons_zero, List.getElem_cons_succ]; go_simp; try with_reducible rfl)
              simp only [Act.put, List.getElem_toArray, List.getElem_cons_zero, List.getElem_cons_succ, List.setIfInBounds_toArray, List.set_cons_zero, List.set_cons_succ]
              refine wpAnyH_take (i := 7) (v := ?_) rfl (by kernel_rfl) (by kernel_rfl) (by kernel_rfl) (fun _ _ _ h => h) (Or.inl ⟨by rfl, ?_⟩) hS ?_
              rotate_left 1
              · (intro w' hw'; obtain ⟨z0, z1, z2, z3, c1⟩ := L.out w' hw'; simp only [List.getElem_toArray, List.getElem_cons_zero, List.getElem_cons_succ]; go_simp; try with_reducible rfl)
              simp only [Act.put, List.getElem_toArray, List.getElem_cons_zero, List.getElem_cons_succ, List.setIfInBounds_toArray, List.set_cons_zero, List.set_cons_succ]
              refine wpAnyH_take (i := 8) (v := ?_) rfl (by kernel_rfl) (by kernel_rfl) (by kernel_rfl) (fun _ _ _ h => h) (Or.inl ⟨by rfl, ?_⟩) hS ?_
              rotate_left 1
              · (intro w' hw'; obtain ⟨z0, z1, z2, z3, c1⟩ := L.out w' hw'; simp only [List.getElem_toArray, List.getElem_cons_zero, List.getElem_cons_succ]; go_simp; try with_reducible rfl)
              simp only [Act.put, List.getElem_toArray, List.getElem_cons_zero, List.getElem_cons_succ, List.setIfInBounds_toArray, List.set_cons_zero, List.set_cons_succ]
              refine wpAnyH_take (i := 9) (v := ?_) rfl (by kernel_rfl) (by kernel_rfl) (by kernel_rfl) (fun _ _ _ h => h) (Or.inl ⟨by rfl, ?_⟩) hS ?_
              rotate_left 1
              · (intro w' hw'; obtain ⟨z0, z1, z2, z3, c1⟩ := L.out w' hw'; simp only [List.getElem_toArray, List.getElem_cons_zero, List.getElem_cons_succ]; go_simp; try with_reducible rfl)
              simp only [Act.put, List.getElem_toArray, List.getElem_cons_zero, List.getElem_cons_succ, List.setIfInBounds_toArray, List.set_cons_zero, List.set_cons_succ]
              refine wpAnyH_take (i := 10) (v := ?_) rfl (by kernel_rfl) (by kernel_rfl) (by kernel_rfl) (fun _ _ _ h => h) (Or.inl ⟨by rfl, ?_⟩) hS ?_
              rotate_left 1
              · (intro w' hw'; obtain ⟨z0, z1, z2, z3, c1⟩ := L.out w' hw'; simp only [List.getElem_toArray, List.getElem_cons_zero, List.getElem_cons_succ]; go_simp; try with_reducible rfl)
              simp only [Act.put, List.getElem_toArray, List.getElem_cons_zero, List.getElem_cons_succ, List.setIfInBounds_toArray, List.set_cons_zero, List.set_cons_succ]
              refine wpAnyH_take (i := 11) (v := ?_) rfl (by kernel_rfl) (by kernel_rfl) (by kernel_rfl) (fun _ _ _ h => h) (Or.inl ⟨by rfl, ?_⟩) hS ?_
              rotate_left 1
              · (intro w' hw'; obtain ⟨z0, z1, z2, z3, c1⟩ := L.out w' hw'; simp only [List.getElem_toArray, List.getElem_cons_zero, List.getElem_cons_succ]; go_simp; try with_reducible rfl)
              simp only [Act.put, List.getElem_toArray, List.getElem_cons_zero, List.getElem_cons_succ, List.setIfInBounds_toArray, List.set_cons_zero, List.set_cons_succ]
              refine wpAnyH_take (i := 12) (v := ?_) rfl (by kernel_rfl) (by kernel_rfl) (by kernel_rfl) (fun _ _ _ h => h) (Or.inl ⟨by rfl, ?_⟩) hS ?_
              rotate_left 1
              · (intro w' hw'; obtain ⟨z0, z1, z2, z3, c1⟩ := L.out w' hw'; simp only [List.getElem_toArray, List.getElem_cons_zero, List.getElem_cons_succ]; go_simp; try with_reducible rfl)
              simp only [Act.put, List.getElem_toArray, List.getElem_cons_zero, List.getElem_cons_succ, List.setIfInBounds_toArray, List.set_cons_zero, List.set_cons_succ]
              refine wpAnyH_take (i := 13) (v := ?_) rfl (by kernel_rfl) (by kernel_rfl) (by kernel_rfl) (fun _ _ _ h => h) (Or.inl ⟨by rfl, ?_⟩) hS ?_
              rotate_left 1
              · (intro w' hw'; obtain ⟨z0, z1, z2, z3, c1⟩ := L.out w' hw'; simp only [List.getElem_toArray, List.getElem_cons_zero, List.getElem_cons_succ]; go_simp; try with_reducible rfl)
              simp only [Act.put, List.getElem_toArray, List.getElem_cons_zero, List.getElem_cons_succ, List.setIfInBounds_toArray, List.set_cons_zero, List.set_cons_succ]
              refine wpAnyH_ready (rs := [14]) (by kernel_rfl) (by simp) ?_
              refine AllReadyH.cons rfl (fun K' hK => ?_) AllReadyH.nil
              simp only [List.getElem_toArray, List.getElem_cons_zero, List.getElem_cons_succ]
              go_simp
              have hS2 := And.intro (alloc_old hS.1 (.cells #[Value.int IntKind.i64 t.2.2.1, Value.int IntKind.u32 t.2.2.2.1, Value.int IntKind.i64 t.2.2.2.2.2, Value.int IntKind.i64 t.2.1, Value.int IntKind.u32 t.2.2.2.2.1] 37)) (alloc_old hS.2 (.cells #[Value.int IntKind.i64 t.2.2.1, Value.int IntKind.u32 t.2.2.2.1, Value.int IntKind.i64 t.2.2.2.2.2, Value.int IntKind.i64 t.2.1, Value.int IntKind.u32 t.2.2.2.2.1] 37))
              refine hK.out _ _ hS2 (fun _ => ?_)
              clear hK K'
              simp only [Act.put, List.getElem_toArray, List.getElem_cons_zero, List.getElem_cons_succ, List.setIfInBounds_toArray, List.set_cons_zero, List.set_cons_succ]
              refine wpAnyH_ready (rs := [15]) (by kernel_rfl) (by simp) ?_
              refine AllReadyH.cons rfl (fun K' hK => ?_) AllReadyH.nil
              simp only [List.getElem_toArray, List.getElem_cons_zero, List.getElem_cons_succ]
              rw [if_pos (show Region.wanted _ _ = true from rfl)]
              refine wp_append_lies _ (.tmp 141) (.tmp 155) 34 rfl w7.heap.size 37 i5 _ 5 40 Try.underlying34 hi5 hz50 hz51 hz52 rfl (by omega) (.slice so pn sc) _ _ rfl (HSG10.out.alloc _) ⟨w10.heap.size, 0, none⟩ 1 1 [Value.int IntKind.i64 t.2.2.1, Value.int IntKind.u32 t.2.2.2.1, Value.int IntKind.i64 t.2.2.2.2.2, Value.int IntKind.i64 t.2.1, Value.int IntKind.u32 t.2.2.2.2.1] rfl rfl (World.news_of_block (cs := #[Value.int IntKind.i64 t.2.2.1, Value.int IntKind.u32 t.2.2.2.1, Value.int IntKind.i64 t.2.2.2.2.2, Value.int IntKind.i64 t.2.1, Value.int IntKind.u32 t.2.2.2.2.1]) (t := 37) (fr := (0, 0)) (heap_alloc_new w10 _)) (by simp [Value.oneCell']) (by omega) (by unfold maxLen; omega) (by omega) (by simp; omega) _ rfl ?_
              intro gg cap9 w11 hown9 hgrow hat hlt9
              have hS3 := And.intro ((hgrow.block g9 (lt_of hS2.1) (fun e => by have h1 := (HSG10.out.lt g9 e.symm).2; have h2 := HG9.out; have h3 := (HSG.out.lt g9 e.symm).2; omega)).trans hS2.1) ((hgrow.block lb (lt_of hS2.2) (fun e => by have h1 := (HSG10.out.lt lb e.symm).1; have h2 := lt_of HL0.out; omega)).trans hS2.2)
              refine hK.out _ _ hS3 (fun _ => ?_)
              clear hK K'
              simp only [Act.put, List.getElem_toArray, List.getElem_cons_zero, List.getElem_cons_succ, List.setIfInBounds_toArray, List.set_cons_zero, List.set_cons_succ]
              have HOWN := Lib.hid hown9
              have HGROW := Lib.hid hgrow
              have HAT := Lib.hid hat
              have HLT := Lib.hid hlt9
              have HNM11 := Lib.hid (row_beside (HNM10.out.alloc _) HGROW.out (fun k hk => HNE.out k hk))
              have hs11 : w7.heap.size ≤ w11.heap.size := Nat.le_trans hs10 (Nat.le_trans (by simp) HGROW.out.size)
              clear hown9 hgrow hat hlt9 hS hS2
              refine wpAnyH_ready (rs := [16]) (by kernel_rfl) (by simp) ?_
              refine AllReadyH.cons rfl (fun K' hK => ?_) AllReadyH.nil
              simp only [List.getElem_toArray, List.getElem_cons_zero, List.getElem_cons_succ]
              go_simp
              refine hK.out _ _ hS3 (fun _ => ?_)
              clear hK K'
              simp only [Act.put, List.getElem_toArray, List.getElem_cons_zero, List.getElem_cons_succ, List.setIfInBounds_toArray, List.set_cons_zero, List.set_cons_succ]
              refine wpAnyH_done (by kernel_rfl) ?_ _
              clear hS3 L
              go_wp2_with (at_builtin; refine wpList_append_lies _ rfl (.tmp 157) (.tmp 159) 35 rfl w7.heap.size 3 i1 _ 1 8 Try.underlying35 hi1 hz10 hz11 hz12 rfl (by omega) (.slice no pn nc) _ _ rfl (HNM11.out.alloc _) ⟨w11.heap.size, 0, none⟩ 1 1 [.int .i64 j] rfl rfl (World.news_of_block (cs := #[.int .i64 j]) (t := 3) (fr := (0, 0)) (heap_alloc_new w11 _)) (by simp [Value.oneCell']) (by omega) (by unfold maxLen; omega) (by omega) (by simp; omega) _ rfl ?_; intro gg2 cap2 w12 hown9 hgrow hat hlt9; have HOWN2 := Lib.hid hown9; have HGROW2 := Lib.hid hgrow; have HAT2 := Lib.hid hat; clear hown9 hgrow hat hlt9)
              have hno : ∀ k, (Value.slice no pn nc).ownBlock = some k → w7.heap.size ≤ k ∧ k < w10.heap.size := HNM10.out.lt
              have hso : ∀ k, (Value.slice so pn sc).ownBlock = some k → w7.heap.size ≤ k ∧ k < w10.heap.size := HSG10.out.lt
              have hgn : ∀ k, (Value.slice no pn nc).ownBlock = some k → gg ≠ k := fun k hk e => by
                subst e
                rcases HAT.out with h | h
                · exact HNE.out gg h hk
                · have h1 := (hno gg hk).2; simp at h; omega
              have HSG12 := Lib.hid ((HOWN.out.alloc (Obj.cells #[Value.int IntKind.i64 j] 3)).kept HGROW2.out (.inr (fun e => hgn gg e.symm rfl)))
              have HNE12 : Hid (∀ k, (Value.slice (some ⟨gg, 0, none⟩) (pn + 1) cap9).ownBlock = some k → (Value.slice (some ⟨gg2, 0, none⟩) (pn + 1) cap2).ownBlock ≠ some k) := Lib.hid (fun k hk hk2 => by
                have e1 : gg = k := by simpa [Value.ownBlock] using hk
                have e2 : gg2 = k := by simpa [Value.ownBlock] using hk2
                rcases HAT2.out with h | h
                · exact hgn gg2 h (by omega)
                · have := HLT.out; simp at h; omega)
              have HB12 : Hid (Below w7.heap.size w7 w12) := Lib.hid (((HB10.out.alloc hs10 _).grown HGROW.out (Nat.le_trans hs10 (by simp)) (fun k hk => (hso k hk).1) |>.alloc hs11 _).grown HGROW2.out (Nat.le_trans hs11 (by simp)) (fun k hk => (hno k hk).1))
              have HSGF : Hid (w12.ownsRow w7.heap.size 37 5 (.slice (some ⟨gg, 0, none⟩) (pn + 1) cap9) (allK LL (j + 1)).length (segsC (allK LL (j + 1)))) := Lib.hid (by
                rw [HK.out, List.length_append, HPN.out, segsC_snoc]
                have e := HSEG.out
                have h := HSG12.out
                rw [show segC (segM m) = [Value.int IntKind.i64 t.2.2.1, Value.int IntKind.u32 t.2.2.2.1, Value.int IntKind.i64 t.2.2.2.2.2, Value.int IntKind.i64 t.2.1, Value.int IntKind.u32 t.2.2.2.2.1] from (congrArg Array.toList e).symm]
                exact h)
              have HNMF : Hid (w12.ownsRow w7.heap.size 3 1 (.slice (some ⟨gg2, 0, none⟩) (pn + 1) cap2) (allK LL (j + 1)).length (oC ((allK LL (j + 1)).map (·.n)))) := Lib.hid (by
                rw [HK.out, List.length_append, HPN.out, List.map_append, List.map_singleton, oC_snoc]
                rw [show ((segM m).n : Int) = (j : Int) by rw [show (segM m).n = m.n from rfl, HMN.out]]
                exact HOWN2.out)
              clear hno hso hgn hs10 hs11
              go_wp2
              go_roundw
              case rel => exact ⟨j + 1, hj6, by simp, HSGF.out, HNMF.out, HNE12.out, HB12.out⟩
              case measure => simp [intOf]; omega
          · obtain rfl : j = 6 := by omega
            rw [allK_six] at HSG HNM
            obtain ⟨ss, hss⟩ : ∃ ss, allM LL = ss := ⟨_, rfl⟩
            have HFIT : Hid (∀ S ∈ ss, S.n < 6 ∧ S.h.2.2.2 ≤ 1099511627776 ∧ S.fs.length ≤ 1000) := Lib.hid (by rw [← hss]; exact allM_fit HI.out)
            have hle : ss.length ≤ 6 := by rw [← hss, ← allK_six]; exact allK_le LL 6
            rw [hss] at HSG HNM
            rw [show (allK LL 6).length = ss.length by rw [allK_six, hss]]
            have hcap2 : ss.length ≤ sc := by
              rcases HSG.out.2 with ⟨h1, h0⟩ | ⟨_, _, _, h1, _, _, h2, _⟩
              · omega
              · cases h1; exact h2
            obtain ⟨_, _, e5, hSA⟩ := SegsAt.of_row rfl HSG.out
            obtain ⟨_, _, e6, hNA⟩ := IntsAt.of_row (l := ss.map (·.n)) (by simp) HNM.out
            cases e5
            cases e6
            have HSA := Lib.hid hSA
            have HNA := Lib.hid hNA
            have hV8 := ViewIs.stays.below HVw.out HB8.out
            have HV8 := Lib.hid hV8
            have KA := Lib.hid (scanall_any hV8 (by omega) (by omega) 6 6 (by omega) (by omega) (by omega) 6 (by decide))
            have HAL : Hid (allP (zeroDisk 98) (madeW LL) 0 6 = ss) := Lib.hid (by rw [HI.out.all, hss])
            have HSRT : Hid (ss.Pairwise fun S T => S.n < T.n) := Lib.hid (by rw [← HAL.out]; exact allP_sorted _ _ _ _)
            clear hss hSA hNA hV8 hb5 hbs5
            go_wp2_with fail
            refine KA.out.mono ?_
            rintro x w9 ⟨hAP, hb9⟩
            unfold AllPost at hAP
            rw [if_neg (by decide), HAL.out] at hAP
            obtain ⟨bo, bc, ps, U, rfl, hL, hU⟩ := hAP
            have HL9 := Lib.hid hL
            have HU := Lib.hid hU
            have HB9 := Lib.hid hb9
            have KN1 := Lib.hid (numbers15_any hL bc (by omega))
            clear hL hU hb9 KA
            go_wp2_with fail
            refine KN1.out.mono ?_
            rintro x w10 ⟨rv, rfl, hrow, hb⟩
            obtain ⟨qo, qc, rfl, hin⟩ := IntsAt.of_row (l := ss.map (·.n)) (by simp) hrow
            have HB10 := Lib.hid (HB9.out.trans (hb.mono HB9.out.size))
            have HL10 := Lib.hid (ListIs.stays.below HL9.out hb)
            have KI1 := Lib.hid (ints_any hin (HNA.out.below HB10.out) qc nc (by rw [List.length_map]; omega))
            rw [List.length_map] at KI1
            clear hrow hb hin KN1
            go_wp2_with fail
            refine KI1.out.mono ?_
            rintro x w11 ⟨rfl, hb⟩
            have HB11 := Lib.hid (HB10.out.trans (hb.mono HB10.out.size))
            have HL11 := Lib.hid (ListIs.stays.below HL10.out hb)
            obtain ⟨z0, z1, z2, z3⟩ := hdr_cells (later_of (later_of HBX.out HB8.out) HB11.out)
            have KC := Lib.hid (chain_any HL11.out bc (by omega) (fun S hS => (HFIT.out S hS).2) a b d)
            obtain ⟨ch, hch⟩ : ∃ ch, chainP ss a b d = ch := ⟨_, rfl⟩
            rw [hch] at KC
            have HND : Hid (ch.Nodup) := Lib.hid (by rw [← hch]; exact chainP_nodup _ _ _ _)
            have HCL : Hid (∀ i ∈ ch, i < ss.length) := Lib.hid (fun i hi => by rw [← hch] at hi; exact chainP_lt hi)
            have HKC : Hid ((ss.filter fun S => decide (S.n ∈ (pickL ss ch).map (·.n))).length = ch.length) := Lib.hid (kept_count HSRT.out HND.out HCL.out)
            have hcl : ch.length ≤ 6 := by rw [← HKC.out]; exact Nat.le_trans (List.length_filter_le _ _) hle
            have HCH := Lib.hid hch
            clear hb KI1 hch z2
            go_wp2_with fail
            refine KC.out.mono ?_
            rintro x w12 ⟨co, cc, U2, rfl, hL2, hU2, hb⟩
            have HL2 := Lib.hid hL2
            have HU2 := Lib.hid hU2
            have HB12 := Lib.hid (HB11.out.trans (hb.mono HB11.out.size))
            have HL12 := Lib.hid (ListIs.stays.below HL11.out hb)
            have HSZ12 := Lib.hid HB11.out.size
            obtain ⟨z0, z1, z2, z3⟩ := hdr_cells (later_of (later_of HBX.out HB8.out) HB12.out)
            have KR := Lib.hid (chain15_any (HSA.out.below HB12.out) sc (by omega) (fun S hS => (HFIT.out S hS).2) a b d)
            rw [HCH.out] at KR
            clear hL2 hU2 hb KC z2
            go_wp2_with fail
            refine KR.out.mono ?_
            rintro x w13 ⟨rv, rfl, hrow, hb⟩
            obtain ⟨xo, xc, rfl, hin⟩ := IntsAt.of_row (l := ch) rfl hrow
            have HXA := Lib.hid hin
            have HB13 := Lib.hid (HB12.out.trans (hb.mono HB12.out.size))
            have HL13 := Lib.hid (ListIs.stays.below HL12.out hb)
            have HK13 := Lib.hid (ListIs.stays.below HL2.out hb)
            clear hrow hb hin KR z0 z1 z3
            go_wp2_with fail
            go_loopw [19, 193] (fun cv i wr => ∃ k : Nat, k ≤ ch.length ∧ i = .int .i64 k ∧ wr.ownsRow w13.heap.size 3 1 cv k (oC ((pickL ss (ch.take k)).map (·.n))) ∧ Below w13.heap.size w13 wr) (fun _ i _ => ch.length - (intOf i).toNat)
            case atStart => exact ⟨0, Nat.zero_le _, rfl, World.ownsRow_nil _ _ _ _, Below.refl _ _⟩
            case round =>
              obtain ⟨k, hk, rfl, hown, hBk⟩ := hrel
              have HO := Lib.hid hown
              have HBk := Lib.hid hBk
              obtain ⟨so2, sc2, hv5⟩ := row_slice3 hown
              subst hv5
              clear hown hBk
              by_cases hkl : k < ch.length
              · obtain ⟨q, hq⟩ : ∃ q, ch[k] = q := ⟨_, rfl⟩
                have hql : q < ss.length := HCL.out q (by rw [← hq]; exact List.getElem_mem hkl)
                obtain ⟨ad, had, hc⟩ := (HXA.out.below HBk.out) k hkl
                obtain ⟨ad2, had2, hc2⟩ := (HNA.out.below (HB13.out.trans (HBk.out.mono HB13.out.size))) q (by rw [List.length_map]; exact hql)
                rw [hq] at hc
                obtain ⟨z, hz⟩ : ∃ z, (ss.map (·.n))[q]'(by rw [List.length_map]; exact hql) = z := ⟨_, rfl⟩
                rw [hz] at hc2
                have HTK : Hid ((pickL ss (ch.take (k + 1))).map (·.n) = (pickL ss (ch.take k)).map (·.n) ++ [z]) := Lib.hid (by
                  unfold pickL
                  rw [List.take_succ_eq_append_getElem hkl, List.map_append, List.map_append, hq, ← hz]
                  simp [List.getElem?_eq_getElem hql])
                have q0 : (0 : Int) ≤ q := by omega
                have q1 : (q : Int) < ss.length := by omega
                have k1 : (k : Int) < ch.length := by omega
                have hszk := HBk.out.size
                have hk6 : k ≤ 6 := by omega
                subst had
                subst had2
                clear hq hz hql
                go_wp2_with (at_builtin; refine wpList_append_lies _ rfl (.tmp 197) (.tmp 202) 35 rfl w13.heap.size 3 i1 _ 1 8 Try.underlying35 hi1 hz10 hz11 hz12 rfl (by omega) (.slice so2 k sc2) _ _ rfl (HO.out.alloc _) ⟨wr.heap.size, 0, none⟩ 1 1 [.int .i64 z] rfl rfl (World.news_of_block (cs := #[.int .i64 z]) (t := 3) (fr := (0, 0)) (heap_alloc_new wr _)) (by simp [Value.oneCell']) (by omega) (by unfold maxLen; omega) (by omega) (by simp; omega) _ rfl ?_; intro gg2 cap2 wn hown9 hgrow hat hlt9; have HOWN2 := Lib.hid hown9; have HGROW2 := Lib.hid hgrow; clear hown9 hgrow hat hlt9)
                have HBn : Hid (Below w13.heap.size w13 wn) := Lib.hid ((HBk.out.alloc hszk _).grown HGROW2.out (Nat.le_trans hszk (by simp)) (fun i hi => (HO.out.lt i hi).1))
                have HON : Hid (wn.ownsRow w13.heap.size 3 1 (.slice (some ⟨gg2, 0, none⟩) (k + 1) cap2) (k + 1) (oC ((pickL ss (ch.take (k + 1))).map (·.n)))) := Lib.hid (by rw [HTK.out, oC_snoc]; exact HOWN2.out)
                clear hc hc2 hszk
                go_wp2
                go_roundw
                case rel => exact ⟨k + 1, hkl, by simp, HON.out, HBn.out⟩
                case measure => simp [intOf]; omega
              · obtain rfl : k = ch.length := by omega
                obtain ⟨w14, rfl⟩ : ∃ w14, w14 = wr := ⟨_, rfl⟩
                have hown := HO.out
                rw [List.take_length] at hown
                obtain ⟨_, _, e7, hDA⟩ := IntsAt.of_row (l := (pickL ss ch).map (·.n)) (by simp [pickL]) hown
                cases e7
                have HDA := Lib.hid hDA
                have HB14 := Lib.hid (HB13.out.trans (HBk.out.mono HB13.out.size))
                have hpl : (pickL ss ch).length = ch.length := by simp [pickL]
                have HPL := Lib.hid hpl
                have KT := Lib.hid (twins_any (HSA.out.below HB14.out) sc hcap2 (by omega))
                clear hown hDA hpl
                go_wp2_with fail
                refine KT.out.mono ?_
                rintro x w15 ⟨⟨bt, rfl⟩, hb⟩
                have HB15 := Lib.hid (HB14.out.trans (hb.mono HB14.out.size))
                have HD15 := Lib.hid hb
                clear hb KT
                cases bt
                case' true =>
                  obtain ⟨wz, rfl⟩ : ∃ wz, wz = w15 := ⟨_, rfl⟩
                  have HBz := Lib.hid HB15.out
                  have HLz := Lib.hid (ListIs.stays.below (ListIs.stays.below HL13.out HBk.out) HD15.out)
                  have HKz := Lib.hid (ListIs.stays.below (ListIs.stays.below HK13.out HBk.out) HD15.out)
                case' false =>
                  have KN2 := Lib.hid (numbers15_any (ListIs.stays.below (ListIs.stays.below HK13.out HBk.out) HD15.out) cc (by rw [HPL.out]; omega))
                  rw [HPL.out] at KN2
                  go_wp2_with fail
                  refine KN2.out.mono ?_
                  rintro x w16 ⟨rv, rfl, hrow, hb⟩
                  obtain ⟨qo2, qc2, rfl, hin⟩ := IntsAt.of_row (l := (pickL ss ch).map (·.n)) (by simp [pickL]) hrow
                  have KI2 := Lib.hid (ints_any hin ((HDA.out.below HD15.out).below hb) qc2 sc2 (by rw [List.length_map, HPL.out]; omega))
                  rw [List.length_map, HPL.out] at KI2
                  have HB16 := Lib.hid (HB15.out.trans (hb.mono HB15.out.size))
                  have HE16 := Lib.hid hb
                  clear hrow hb hin KN2
                  go_wp2_with fail
                  refine KI2.out.mono ?_
                  rintro x wz ⟨rfl, hb⟩
                  have HBz := Lib.hid (HB16.out.trans (hb.mono HB16.out.size))
                  have HEz := Lib.hid (HE16.out.trans (hb.mono HE16.out.size))
                  have HLz := Lib.hid (ListIs.stays.below (ListIs.stays.below (ListIs.stays.below HL13.out HBk.out) HD15.out) HEz.out)
                  have HKz := Lib.hid (ListIs.stays.below (ListIs.stays.below (ListIs.stays.below HK13.out HBk.out) HD15.out) HEz.out)
                  clear hb KI2 HB16
                all_goals
                  have HVz := Lib.hid (ViewIs.stays.below HV8.out HBz.out)
                  obtain ⟨K, hK⟩ : ∃ K, (pickL ss ch).map (·.n) = K := ⟨_, rfl⟩
                  have CP1 := clean_plain (by rw [zeroDisk_length]) HI.out.disk K
                  rw [HAL.out] at CP1
                  have KCl := Lib.hid (clean_any HVz.out HLz.out HKz.out bc cc (fun S hS => by have := (HFIT.out S hS).1; omega) (by omega) (by omega) (by rw [HPL.out]; omega) (by omega))
                  rw [HPL.out, hK] at KCl
                  have hW1 : (madeW LL ++ wipesP 0 K ss).length ≤ 300 := by
                    have := wipesP_le 0 K ss
                    rw [List.length_append]; omega
                  have HUF := Lib.hid (fun i (hi : F' i) => ViewIs.there HV8.out i hi)
                  have HU2z : Hid (∀ i, U2 i → wr.heap.size ≤ i) := Lib.hid (fun i hi => by
                    rcases HU2.out i hi with h | h
                    · exact HU.out i h
                    · have := HSZ12.out; omega)
                  rw [hK] at HKC
                  have hlz := landed_length (zeroDisk 98) ((madeW LL ++ wipesP 0 K ss).filter (inSpan 0 98))
                  rw [zeroDisk_length] at hlz
                  have hW2 := Nat.le_trans (List.length_filter_le (fun x => !inSpan 0 98 x) (madeW LL ++ wipesP 0 K ss)) hW1
                  obtain ⟨lies1, hlies1⟩ : ∃ y, landed (zeroDisk 98) ((madeW LL ++ wipesP 0 K ss).filter (inSpan 0 98)) = y := ⟨_, rfl⟩
                  obtain ⟨V1, hV1⟩ : ∃ y, ((madeW LL ++ wipesP 0 K ss).filter fun x => !inSpan 0 98 x) = y := ⟨_, rfl⟩
                  rw [hlies1] at CP1 KCl hlz
                  rw [hV1] at CP1 KCl hW2
                  have HCP1 := Lib.hid CP1
                  have HGz := Lib.hid (grow_upd (HBr.out.trans (HB8.out.mono HBr.out.size)) (Nat.le_refl _) (fun i hi => Nat.le_of_succ_le (HF1.out i hi)) (Upd.of_below' (S := F') HBz.out) (F' := F') (fun i hi => .inl hi))
                  have HK := Lib.hid hK
                  clear CP1 hW1 hlies1 hV1 hK
                  go_wp2_with fail
                  refine KCl.out.mono ?_
                  rintro x wc ⟨rfl, Fc, hVc, hUc, hNc⟩
                  have HGc := Lib.hid (grow_upd HGz.out.1 (Nat.le_refl _) HGz.out.2 hUc hNc)
                  have HKc := Lib.hid (ListIs.stays HKz.out hUc (fun i hi hc => by have := HUF.out i hc; have := HU2z.out i hi; omega))
                  have HVc := Lib.hid hVc
                  have HFc := Lib.hid (fun i (hi : Fc i) => ViewIs.there hVc i hi)
                  have KA2 := Lib.hid (scanall_any hVc (by omega) (Nat.le_trans hW2 (by omega)) 6 6 (by omega) (by omega) (by omega) 6 (by decide))
                  clear hVc hUc hNc KCl
                  go_wp2_with fail
                  refine KA2.out.mono ?_
                  rintro x wd ⟨hAP, hbd⟩
                  unfold AllPost at hAP
                  rw [if_neg (by decide), HCP1.out.1] at hAP
                  obtain ⟨s2, hs2⟩ : ∃ s2, (ss.filter fun S => decide (S.n ∈ K)) = s2 := ⟨_, rfl⟩
                  rw [hs2] at hAP HKC
                  obtain ⟨eo, ec, ps2, U3, rfl, hL3, hU3⟩ := hAP
                  have HL3 := Lib.hid hL3
                  have HU3 := Lib.hid hU3
                  have HKd := Lib.hid (ListIs.stays.below HKc.out hbd)
                  have HVd := Lib.hid (ViewIs.stays.below HVc.out hbd)
                  have HGd := Lib.hid (grow_upd HGc.out.1 (Nat.le_refl _) HGc.out.2 (Upd.of_below' (S := Fc) hbd) (F' := Fc) (fun i hi => .inl hi))
                  have CP2 := clean_plain hlz HCP1.out.2 K
                  rw [HCP1.out.1, hs2] at CP2
                  have hss2 : ∀ S ∈ s2, S.n < 6 := fun S hS => (HFIT.out S (List.mem_filter.1 (by rw [hs2]; exact hS)).1).1
                  have KCl := Lib.hid (clean_any HVd.out HL3.out HKd.out ec cc (fun S hS => by have := hss2 S hS; omega) (by omega) (by rw [HKC.out]; omega) (by rw [HPL.out]; omega) (by omega))
                  rw [HPL.out, HK.out, HKC.out] at KCl
                  have hW3 : (V1 ++ wipesP 0 K s2).length ≤ 400 := by
                    have := wipesP_le 0 K s2
                    have := HKC.out
                    rw [List.length_append]; omega
                  have hW4 := Nat.le_trans (List.length_filter_le (fun x => !inSpan 0 98 x) (V1 ++ wipesP 0 K s2)) hW3
                  obtain ⟨lies2, hlies2⟩ : ∃ y, landed lies1 ((V1 ++ wipesP 0 K s2).filter (inSpan 0 98)) = y := ⟨_, rfl⟩
                  obtain ⟨V2, hV2⟩ : ∃ y, ((V1 ++ wipesP 0 K s2).filter fun x => !inSpan 0 98 x) = y := ⟨_, rfl⟩
                  rw [hlies2] at CP2 KCl
                  rw [hV2] at CP2 KCl hW4
                  have HCP2 : Hid (allP lies2 V2 0 6 = s2) := Lib.hid (by rw [CP2.1, ← hs2, filter_twice])
                  have HLEN := HKC.out
                  rw [HLEN]
                  clear CP2 hW3 hlies2 hV2 hss2 hs2 hL3 hU3 KA2
                  go_wp2_with fail
                  refine KCl.out.mono ?_
                  rintro x we ⟨rfl, Fe, hVe, hUe, hNe⟩
                  have HGe := Lib.hid (grow_upd HGd.out.1 (Nat.le_refl _) HGd.out.2 hUe hNe)
                  have HLe := Lib.hid (ListIs.stays HL3.out hUe (fun i hi hc => by have := HFc.out i hc; have := HU3.out i hi; omega))
                  have KA3 := Lib.hid (scanall_any hVe (by omega) (Nat.le_trans hW4 (by omega)) 6 6 (by omega) (by omega) (by omega) 6 (by decide))
                  clear hVe hUe hNe KCl hbd
                  go_wp2_with fail
                  refine KA3.out.mono ?_
                  rintro x wf ⟨hAP, hbf⟩
                  unfold AllPost at hAP
                  rw [if_neg (by decide), HCP2.out, HLEN] at hAP
                  obtain ⟨ho, hc, ps3, U4, rfl, hL4, hU4⟩ := hAP
                  have HL4 := Lib.hid hL4
                  have HLf := Lib.hid (ListIs.stays.below HLe.out hbf)
                  have HGf := Lib.hid (HGe.out.1.trans (hbf.mono HGe.out.1.size))
                  have KN3 := Lib.hid (numbers15_any HLf.out ec (by omega))
                  rw [HLEN] at KN3
                  clear hL4 hU4 hbf KA3
                  go_wp2_with fail
                  refine KN3.out.mono ?_
                  rintro x wg ⟨rv, rfl, hrow, hb⟩
                  obtain ⟨o1, c1, rfl, hin⟩ := IntsAt.of_row (l := s2.map (·.n)) (by rw [List.length_map, HLEN]) hrow
                  have HIN := Lib.hid hin
                  have HGg := Lib.hid (HGf.out.trans (hb.mono HGf.out.size))
                  have KN4 := Lib.hid (numbers15_any (ListIs.stays.below HL4.out hb) hc (by omega))
                  rw [HLEN] at KN4
                  clear hrow hin hb KN3
                  go_wp2_with fail
                  refine KN4.out.mono ?_
                  rintro x wh ⟨rv, rfl, hrow, hb⟩
                  obtain ⟨o2, c2, rfl, hin⟩ := IntsAt.of_row (l := s2.map (·.n)) (by rw [List.length_map, HLEN]) hrow
                  have KI3 := Lib.hid (ints_any (HIN.out.below hb) hin c1 c2 (by rw [List.length_map]; omega))
                  rw [List.length_map, HLEN] at KI3
                  have HGh := Lib.hid (HGg.out.trans (hb.mono HGg.out.size))
                  clear hrow hin hb KN4
                  go_wp2_with fail
                  refine KI3.out.mono ?_
                  rintro x wi ⟨rfl, hb⟩
                  have HGi := Lib.hid (HGh.out.trans (hb.mono HGh.out.size))
                  clear hb KI3
                  go_wp2_with fail
                  refine (three_any _).mono ?_
                  rintro x wj ⟨rfl, hb⟩
                  go_wp2
                  go_ret
                  exact ⟨rfl, HGi.out.trans (hb.mono HGi.out.size)⟩
end Go.Proofs.Ytoobiffhjjfpgaa.Print
