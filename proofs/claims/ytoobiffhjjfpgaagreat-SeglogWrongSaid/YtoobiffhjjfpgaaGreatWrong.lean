/- SeglogWrong: the law's walk. -/
import Derived.Test.YtoobiffhjjfpgaaGreatWrP
namespace Go.Proofs.YtoobiffhjjfpgaaGreat.Print
open Go.RowKit
attribute [local go_sem] run_loadVar_scalar

structure WrAt (l : List Fr) (v p g0 g1 j : Nat) (w2 : World) (X G0 G1 : Foot) (wr : World) (X' G1' : Foot) : Prop where
  vp : VP v p (zeroDisk 98) (wS l j).2.2 0 98 (wS l j).1 wr X'
  b : LogIs g1 v p (wS l j).2.1 wr G1'
  a : LogIs g0 v p (newLog 1 7 0) wr G0
  xb : Apart X' G1'
  xa : Apart X' G0
  ba : Apart G1' G0
  upd : Upd (Both X G1) w2 wr
  fresh : Fresh w2 (Both X G1) (Both X' G1')
theorem WrAt.next {l : List Fr} {v p g0 g1 j : Nat} {w2 : World} {X G0 G1 : Foot} {wr w1 w3 : World} {X' G1' : Foot} (S : WrAt l v p g0 g1 j w2 X G0 G1 wr X' G1') (hj : j < l.length) (hb : Below wr.heap.size wr w1)
    (hP : LPost g1 v p (zeroDisk 98) (appendW 0 (wS l j).1 (wS l j).2.1 l[j].1 l[j].2 (wS l j).2.2) 0 98 (appendM (wS l j).1 (wS l j).2.1 l[j].1 l[j].2).p (appendM (wS l j).1 (wS l j).2.1 l[j].1 l[j].2).g w1 X' G1' w3) :
    ∃ X' G1', WrAt l v p g0 g1 (j + 1) w2 X G0 G1 w3 X' G1' := by
  obtain ⟨X2, G2, a1, a2, a3, a4, a5⟩ := hP
  have hz := hb.size
  have hzu := S.upd.size
  have hG0 : ∀ i, G0 i → i < wr.heap.size := fun i hi => LogIs.there S.a i hi
  have hn : ∀ i, G0 i → ¬ Both X' G1' i := fun i hi hc => hc.elim (fun h => S.xa i h hi) (fun h => S.ba i h hi)
  have he : wS l (j + 1) = step3 0 (wS l j) l[j] := run3_take 0 _ hj
  refine ⟨X2, G2, by rw [he]; exact a1, by rw [he]; exact a2, LogIs.stays (LogIs.stays.below S.a hb) a4 hn, a3, fun i hi hc => ?_, fun i hi hc => ?_, ?_, fun i hi => ?_⟩
  · rcases a5 i (.inl hi) with h | h
    · exact hn i hc h
    · have := hG0 i hc; omega
  · rcases a5 i (.inr hi) with h | h
    · exact hn i hc h
    · have := hG0 i hc; omega
  · refine (S.upd.trans (Upd.of_below' hb) (fun _ _ h => h)).trans a4 (fun i hi hc => ?_)
    rcases S.fresh i hc with h | h
    · exact h
    · omega
  · rcases a5 i hi with h | h
    · exact S.fresh i h
    · exact .inr (by omega)
set_option linter.unusedSimpArgs false in
set_option maxRecDepth 100000 in
set_option maxHeartbeats 3200000 in
attribute [-go_sem] Instr.build Instr.fill Instr.buildSlice loadVar in
theorem wrong_any {w : World} {ao : Option Addr} {l : List Fr} (h : FrsAt w ao l) (cap : Nat) (hl : l.length ≤ 9223372036854775807) (hsz : ∀ x ∈ l, x.2.size ≤ 9223372036854775807) (how : Int) :
    Calls Tryz.prog 6 #[.slice ao l.length cap, .int .i64 how] w fun x w' => x = .returned (.bool true) ∧ Below w.heap.size w w' := by
  have HFR := Lib.hid h
  have HSZ := Lib.hid hsz
  clear h hsz
  go_enter Tryz.func6, Tryz.ntmps6
  by_cases h40 : 40 < l.length
  · have k1 : decide ((40 : Int) < (l.length : Int)) = true := decide_eq_true (by omega)
    go_wp2_with fail
    refine (eight_any _).mono ?_
    rintro x w1 ⟨rfl, hb⟩
    go_wp2
    go_ret
    exact ⟨rfl, hb⟩
  have k1 : decide ((40 : Int) < (l.length : Int)) = false := decide_eq_false (by omega)
  have hl40 : l.length ≤ 40 := by omega
  go_wp2_with fail
  refine (start14_any _).mono ?_
  rintro x w1 ⟨v, p, g0, g1, X, G0, G1, rfl, hW1, hb1, hge⟩
  have HW1 := Lib.hid hW1
  have HB1 := Lib.hid hb1
  have HGE := Lib.hid hge
  clear hW1 hb1 hge
  have hzw := zero_wld
  go_wp2_with fail
  have hat := alloc_at w1 (.cells #[ptrV v, ptrV p, ptrV g0, ptrV g1] 30)
  have hbw := Below.alloc (Below.refl w1.heap.size w1) (Nat.le_refl _) (.cells #[ptrV v, ptrV p, ptrV g0, ptrV g1] 30)
  obtain ⟨bx, hbx⟩ : ∃ b, w1.heap.size = b := ⟨_, rfl⟩
  have HB2 : Hid (Below w.heap.size w (w1.alloc (.cells #[ptrV v, ptrV p, ptrV g0, ptrV g1] 30))) := Lib.hid (HB1.out.alloc HB1.out.size _)
  obtain ⟨w2, hw2⟩ : ∃ w2, w1.alloc (.cells #[ptrV v, ptrV p, ptrV g0, ptrV g1] 30) = w2 := ⟨_, rfl⟩
  rw [show (w1.alloc (Obj.cells #[Value.pointer (some { block := v, off := 0 }), Value.pointer (some { block := p, off := 0 }), Value.pointer (some { block := g0, off := 0 }), Value.pointer (some { block := g1, off := 0 })] 30)) = w2 from hw2]
  rw [hw2] at hat hbw HB2
  rw [hbx] at hat
  have hXl : ∀ i, X i → i < bx := fun i hi => by rw [← hbx]; exact VP.there HW1.out.vp i hi
  have hG0l : ∀ i, G0 i → i < bx := fun i hi => by rw [← hbx]; exact LogIs.there HW1.out.a i hi
  have hG1l : ∀ i, G1 i → i < bx := fun i hi => by rw [← hbx]; exact LogIs.there HW1.out.b i hi
  have HLT := Lib.hid (And.intro hXl (And.intro hG0l hG1l))
  have HBX : Hid (w2.heap[bx]? = some (.cells #[ptrV v, ptrV p, ptrV g0, ptrV g1] 30)) := Lib.hid hat
  have HT0 : Hid (WrAt l v p g0 g1 0 w2 X G0 G1 w2 X G1) := Lib.hid ⟨VP.stays.below HW1.out.vp hbw, LogIs.stays.below HW1.out.b hbw, LogIs.stays.below HW1.out.a hbw, HW1.out.xb, HW1.out.xa, fun i hi hc => HW1.out.ab i hc hi, Upd.refl _ _, Fresh.refl _ _⟩
  have HWI := Lib.hid (fun i hi => wrI hl40 i hi)
  have HBG : Hid (w.heap.size ≤ bx) := Lib.hid (by rw [← hbx]; exact HB1.out.size)
  rw [hbx]
  clear hat hbw hw2 hbx hXl hG0l hG1l hzw HW1 HB1
  go_wp2_with fail
  go_loopw [25] (fun i wr => ∃ j : Nat, j ≤ l.length ∧ i = .int .i64 j ∧ ∃ X' G1', WrAt l v p g0 g1 j w2 X G0 G1 wr X' G1') (fun i _ => l.length - (intOf i).toNat)
  case atStart => exact ⟨0, Nat.zero_le _, rfl, X, G1, HT0.out⟩
  case round =>
    obtain ⟨j, hj, rfl, X', G1', hT⟩ := hrel
    have HT := Lib.hid hT
    have hbxr := hT.upd.at_ HBX.out (fun hc => hc.elim (fun h => by have := HLT.out.1 _ h; omega) (fun h => by have := HLT.out.2.2 _ h; omega))
    have HBXR := Lib.hid hbxr
    have HBR : Hid (Below w.heap.size w wr) := Lib.hid (HB2.out.trans (hT.upd.below HB2.out.size (fun i hi hc => by
      have h1 := hc.elim (fun h => HGE.out i (.inl h)) (fun h => HGE.out i (.inr (.inr h)))
      omega)))
    clear hT hbxr HT0
    by_cases hlt : j < l.length
    · obtain ⟨ad, had, hld⟩ := (HFR.out.below HBR.out).load j hlt
      have hx := HSZ.out l[j] (List.getElem_mem hlt)
      have I := HWI.out j hj
      have hIw := I.w
      have hIn := I.ok.next
      have hIs := I.ok.segs
      have hb1 := Below.alloc (Below.refl wr.heap.size wr) (Nat.le_refl _) (.cells #[.int .i64 l[j].1, .string l[j].2] 43)
      have KA := Lib.hid (append_log (VP.stays.below HT.out.vp hb1) (LogIs.stays.below HT.out.b hb1) HT.out.xb I.ok.pool I.ok.log (by omega) (by omega) (by omega) l[j].1 l[j].2)
      have KNX := Lib.hid (fun w3 => WrAt.next (w3 := w3) HT.out hlt hb1)
      obtain ⟨x, hxx⟩ : ∃ x, l[j] = x := ⟨_, rfl⟩
      rw [hxx] at hld hx hb1
      simp only [hxx] at KA KNX
      have HB1 := Lib.hid hb1
      obtain ⟨kk, pp⟩ := x
      simp only at hld hx KA KNX
      have hlb := load_fr (alloc_at wr (.cells #[.int .i64 kk, .string pp] 43))
      obtain ⟨f0, f1⟩ : (wr.alloc (.cells #[.int .i64 kk, .string pp] 43)).cell? ⟨wr.heap.size, 0, none⟩ = some (.int .i64 kk) ∧ (wr.alloc (.cells #[.int .i64 kk, .string pp] 43)).cell? ⟨wr.heap.size, 1, none⟩ = some (.string pp) := ⟨by rw [cell_of (alloc_at wr _)]; rfl, by rw [cell_of (alloc_at wr _)]; rfl⟩
      obtain ⟨d0, d1, d2, d3, _⟩ := four_of (alloc_old HBXR.out (.cells #[.int .i64 kk, .string pp] 43))
      have k2 : (j : Int) < (l.length : Int) := by omega
      subst had
      clear hb1 hxx I hIw hIn hIs
      by_cases h9 : 900 < pp.size
      · have k3 : decide ((900 : Int) < (pp.size : Int)) = true := decide_eq_true (by omega)
        go_wp2_with fail
        refine (eight_any _).mono ?_
        rintro x w3 ⟨rfl, hb⟩
        go_wp2
        go_ret
        exact ⟨rfl, (HBR.out.trans (HB1.out.mono HBR.out.size)).trans (hb.mono (HBR.out.trans (HB1.out.mono HBR.out.size)).size)⟩
      · have k3 : decide ((900 : Int) < (pp.size : Int)) = false := decide_eq_false (by omega)
        go_wp2_with fail
        refine KA.out.mono ?_
        rintro x w3 ⟨rfl, hP⟩
        have HNX := Lib.hid (KNX.out w3 hP)
        clear hP KA KNX
        go_wp2
        go_roundw
        case rel => exact ⟨j + 1, hlt, by simp, HNX.out⟩
        case measure => simp [intOf]; omega
    · obtain rfl : j = l.length := by omega
      obtain ⟨w3, rfl⟩ : ∃ w3, w3 = wr := ⟨_, rfl⟩
      have I := HWI.out l.length (Nat.le_refl _)
      have HI := Lib.hid I
      obtain ⟨L, hL⟩ : ∃ L, (wS l l.length).2.1 = L := ⟨_, rfl⟩
      have hb3 := HT.out.b
      have hsm := I.same
      have hok := I.ok
      have hdk := I.disk
      have hch := I.chain
      have hw3 := I.w
      rw [hL] at hb3 hsm hdk hch
      have hlog := hok.log
      have hsg := hok.segs
      rw [hL] at hlog hsg
      have HB3 := Lib.hid hb3
      have HSM := Lib.hid hsm
      have HDK := Lib.hid hdk
      have HCH := Lib.hid hch
      have HLOG := Lib.hid hlog
      obtain ⟨nx, hnx⟩ : ∃ n, L.segs.length = n := ⟨_, rfl⟩
      have hnx40 : nx ≤ 40 := by omega
      have HNX := Lib.hid hnx
      clear I hb3 hsm hok hdk hch hlog hsg hL hnx
      go_wp2_with fail
      refine (pnew_any 6 2 (by omega) (by omega) (by omega) _ _ _ rfl rfl).mono ?_
      rintro x w4 ⟨p2, H2, rfl, hO4, hb4, hH4⟩
      have HO4 := Lib.hid hO4
      have HB4 := Lib.hid hb4
      have HH4 := Lib.hid hH4
      obtain ⟨d0, d1, d2, d3, _⟩ := four_of (later_of HBXR.out hb4)
      have KS := Lib.hid (fun (W' : World) (h : W'.cell? ⟨bx, 0, none⟩ = some (ptrV v) ∧ W'.cell? ⟨bx, 3, none⟩ = some (ptrV g1) ∧ Below w4.heap.size w4 W') => lsegs_any (LogIs.stays.below (LogIs.stays.below HB3.out HB4.out) h.2.2) (by rw [HNX.out]; omega))
      have KLD := Lib.hid (fun (W' : World) (h : W'.cell? ⟨bx, 0, none⟩ = some (ptrV v) ∧ W'.cell? ⟨bx, 3, none⟩ = some (ptrV g1) ∧ Below w4.heap.size w4 W') (so : Option Addr) (sc : Nat) (hin : IntsAt W' so (L.segs.map (·.n))) => (by
        obtain ⟨F, Hp, hV, _, _, _⟩ := VP.stays.below (VP.stays.below HT.out.vp HB4.out) h.2.2
        exact loaded_any hV (by omega) (by omega) hin sc 2 7 (by rw [HNX.out]; omega) (fun s hs => (HLOG.out.segs s hs).n) (fun s hs => ⟨by show 1 ≤ 2; omega, by show 2 ≤ 65535; omega, by show 7 < 4294967296; omega, (HLOG.out.segs s hs).st, (HLOG.out.segs s hs).base⟩) (fun s hs => by
          have := HDK.out.put L (by simp) s hs
          rw [HSM.out.1, HSM.out.2.1] at this
          exact this)))
      simp only [HNX.out] at KS KLD
      clear hO4 hb4 hH4 d1 d2
      go_wp2_with fail
      go_region_held3 (fun w' => w'.cell? ⟨bx, 0, none⟩ = some (ptrV v) ∧ w'.cell? ⟨bx, 3, none⟩ = some (ptrV g1) ∧ Below w4.heap.size w4 w')
        (first | assumption | exact held_drew d0 d3 | exact held_keep (by assumption) hb)
        (first
        | (go_at_call 42; (with_reducible refine (KS.out _ (by assumption)).mono ?_); rintro x w5 ⟨rv, rfl, hrow, hb⟩; obtain ⟨so, sc, rfl, hin⟩ := IntsAt.of_row (l := L.segs.map (·.n)) (by rw [List.length_map, HNX.out]) hrow)
        | (go_at_call 41; (with_reducible refine (KLD.out _ (by assumption) _ _ (by assumption)).mono ?_); rintro x w6 ⟨rv2, ps, Gs, rfl, hown, hS6, hG6, hne6, hb⟩))
      -- THE SWITCH
      have hheld : w6.cell? ⟨bx, 0, none⟩ = some (ptrV v) ∧ w6.cell? ⟨bx, 3, none⟩ = some (ptrV g1) ∧ Below w4.heap.size w4 w6 := by assumption
      have HH6 : Hid (w6.cell? ⟨bx, 0, none⟩ = some (ptrV v) ∧ Below w4.heap.size w4 w6) := Lib.hid ⟨hheld.1, hheld.2.2⟩
      have HBW : Hid (Below w.heap.size w w4) := Lib.hid (HBR.out.trans (HB4.out.mono HBR.out.size))
      obtain ⟨so2, sc2, rfl⟩ := row_slice3 hown
      have hpl : ps.length = nx := by rw [hS6.length, List.length_map, HNX.out]
      have HOWN := Lib.hid hown
      have HS6 := Lib.hid hS6
      have HNE6 := Lib.hid hne6
      have HG6 : Hid (∀ i, Gs i → w4.heap.size ≤ i) := Lib.hid (fun i hi => Nat.le_trans (show Below w4.drew.heap.size w4.drew w5 from by assumption).size (hG6 i hi))
      have HPL := Lib.hid hpl
      have HSL : Hid (∀ s ∈ L.segs.map SegM.seal, s.sealed = true) := Lib.hid (fun s hs => by obtain ⟨a, _, rfl⟩ := List.mem_map.1 hs; rfl)
      have HCS : Hid (ChainOk 50 (L.segs.map SegM.seal) L.next) := Lib.hid (by have := HCH.out; rw [HSM.out.2.2] at this; exact chain_seal this)
      have HPS : Hid (ps.length = (L.segs.map SegM.seal).length) := Lib.hid (by rw [List.length_map, HNX.out, hpl])
      obtain ⟨qs, hqs⟩ : ∃ qs, qsOf 2 7 (L.segs.map SegM.seal) ps = qs := ⟨_, rfl⟩
      have HQS := Lib.hid hqs
      have HQL : Hid (qs.length = nx) := Lib.hid (by rw [← hqs, qsOf_length HPS.out, List.length_map, HNX.out])
      have HQM : Hid (qs.map QV = ps.map ptrV) := Lib.hid (by rw [← hqs]; exact qsOf_map HPS.out)
      have HQF : Hid (QFit qs) := Lib.hid (fun s S hs => by
        rw [← hqs] at hs
        obtain ⟨y, hy, e⟩ := List.mem_map.1 hs
        cases e
        obtain ⟨a, ha, hae⟩ := List.mem_map.1 (List.of_mem_zip hy).1
        have h1 := HLOG.out.segs a ha
        rw [← hae]
        exact ⟨h1.base, by have := h1.fe; have := h1.e16; show a.fs.length ≤ 1000; omega⟩)
      have HQA : Hid (QAt v so2 qs w6) := Lib.hid (qat_row (by rw [HQM.out]; exact hown) (by rw [← hqs]; exact segs_q hS6 HSL.out))
      have hszw : w4.heap.size ≤ w6.heap.size := HH6.out.2.size
      have hbse : w4.heap.size ≤ w5.heap.size := (show Below w4.drew.heap.size w4.drew w5 from by assumption).size
      have hbxl : bx < w4.heap.size := Nat.lt_of_lt_of_le (lt_of HBXR.out) HB4.out.size
      clear hown hS6 hG6 hne6 hpl hqs hheld hb hrow hin KS KLD d0 d3
      by_cases hz : nx = 0
      · have e9 : ((nx : Int) == 0) = true := by simp; omega
        go_wp2_with fail
        refine (eight_any _).mono ?_
        rintro x w8 ⟨rfl, hb8⟩
        go_wp2
        go_ret
        exact ⟨rfl, HBW.out.trans ((HH6.out.2.trans (hb8.mono HH6.out.2.size)).mono HBW.out.size)⟩
      have e9 : ((nx : Int) == 0) = false := by simp; omega
      have hz1 : 0 < (L.segs.map SegM.seal).length := by rw [List.length_map, HNX.out]; omega
      have HZ1 := Lib.hid hz1
      clear hz1
      by_cases h0 : how = 0
      · subst h0
        have HC : Hid (QAt v so2 qs w6 ∧ QFit qs ∧ chainQ 3 7 50 qs = false) := Lib.hid ⟨HQA.out, HQF.out, by rw [← HQS.out]; exact chainQ_id HPS.out HZ1.out (.inl (by omega))⟩
        have HCL := HQL.out
        have KL := Lib.hid (lognew_ok v p2 3 7 50 (by omega) (by omega) (by omega) w6 3 7 50 rfl rfl rfl)
        have b0 : w6.cell? ⟨bx, 0, none⟩ = some (ptrV v) := HH6.out.1
        go_wp2_with fail
        refine KL.out.mono ?_
        rintro x w8 ⟨rfl, hL8, hb8, hz8⟩
        have KA := Lib.hid (adopt_no hL8 rfl (HC.out.1.below hb8) sc2 (by rw [HCL]; omega) HC.out.2.1 HC.out.2.2)
        rw [HCL] at KA
        have HL8 := Lib.hid hL8
        have HB8 := Lib.hid (HH6.out.2.trans (hb8.mono HH6.out.2.size))
        clear hL8 hb8 hz8 KL b0
        go_wp2_with fail
        refine KA.out.mono ?_
        rintro x w9 ⟨rfl, hb9⟩
        have HB9 := Lib.hid (HB8.out.trans (hb9.mono HB8.out.size))
        have HL9 := Lib.hid (LogIs.stays.below HL8.out hb9)
        have KF := Lib.hid (pFree_any (PoolIs.stays.below HO4.out HB9.out) (by show 1 ≤ 6; omega) (by show 6 ≤ 1000; omega))
        rw [show (freeL (newPool 6 2).O).length = 6 by decide +kernel] at KF
        clear hb9 KA
        go_wp2_with fail
        refine KF.out.mono ?_
        rintro x w10 ⟨rfl, hb10⟩
        have HB10 := Lib.hid (HB9.out.trans (hb10.mono HB9.out.size))
        have HL10 := Lib.hid (LogIs.stays.below HL9.out hb10)
        have KG := Lib.hid (lsegs_any HL10.out (by show 0 ≤ 1000; omega))
        clear hb10 KF
        go_wp2_with fail
        refine KG.out.mono ?_
        rintro x w11 ⟨rv3, rfl, hrow11, hb11⟩
        obtain ⟨_, _, rfl⟩ := row_slice3 hrow11
        have HB11 := Lib.hid (HB10.out.trans (hb11.mono HB10.out.size))
        have KX := Lib.hid (lnext_any (LogIs.stays.below HL10.out hb11))
        clear hb11 hrow11 KG
        go_wp2_with fail
        refine KX.out.mono ?_
        rintro x w12 ⟨rfl, rfl⟩
        go_wp2_with fail
        refine (eight_any _).mono ?_
        rintro x w13 ⟨rfl, hb13⟩
        go_wp2
        go_ret
        exact ⟨rfl, HBW.out.trans ((HB11.out.trans (hb13.mono HB11.out.size)).mono HBW.out.size)⟩
      by_cases h1 : how = 1
      · subst h1
        have HC : Hid (QAt v so2 qs w6 ∧ QFit qs ∧ chainQ 2 8 50 qs = false) := Lib.hid ⟨HQA.out, HQF.out, by rw [← HQS.out]; exact chainQ_id HPS.out HZ1.out (.inr (by omega))⟩
        have HCL := HQL.out
        have KL := Lib.hid (lognew_ok v p2 2 8 50 (by omega) (by omega) (by omega) w6 2 8 50 rfl rfl rfl)
        have b0 : w6.cell? ⟨bx, 0, none⟩ = some (ptrV v) := HH6.out.1
        go_wp2_with fail
        refine KL.out.mono ?_
        rintro x w8 ⟨rfl, hL8, hb8, hz8⟩
        have KA := Lib.hid (adopt_no hL8 rfl (HC.out.1.below hb8) sc2 (by rw [HCL]; omega) HC.out.2.1 HC.out.2.2)
        rw [HCL] at KA
        have HL8 := Lib.hid hL8
        have HB8 := Lib.hid (HH6.out.2.trans (hb8.mono HH6.out.2.size))
        clear hL8 hb8 hz8 KL b0
        go_wp2_with fail
        refine KA.out.mono ?_
        rintro x w9 ⟨rfl, hb9⟩
        have HB9 := Lib.hid (HB8.out.trans (hb9.mono HB8.out.size))
        have HL9 := Lib.hid (LogIs.stays.below HL8.out hb9)
        have KF := Lib.hid (pFree_any (PoolIs.stays.below HO4.out HB9.out) (by show 1 ≤ 6; omega) (by show 6 ≤ 1000; omega))
        rw [show (freeL (newPool 6 2).O).length = 6 by decide +kernel] at KF
        clear hb9 KA
        go_wp2_with fail
        refine KF.out.mono ?_
        rintro x w10 ⟨rfl, hb10⟩
        have HB10 := Lib.hid (HB9.out.trans (hb10.mono HB9.out.size))
        have HL10 := Lib.hid (LogIs.stays.below HL9.out hb10)
        have KG := Lib.hid (lsegs_any HL10.out (by show 0 ≤ 1000; omega))
        clear hb10 KF
        go_wp2_with fail
        refine KG.out.mono ?_
        rintro x w11 ⟨rv3, rfl, hrow11, hb11⟩
        obtain ⟨_, _, rfl⟩ := row_slice3 hrow11
        have HB11 := Lib.hid (HB10.out.trans (hb11.mono HB10.out.size))
        have KX := Lib.hid (lnext_any (LogIs.stays.below HL10.out hb11))
        clear hb11 hrow11 KG
        go_wp2_with fail
        refine KX.out.mono ?_
        rintro x w12 ⟨rfl, rfl⟩
        go_wp2_with fail
        refine (eight_any _).mono ?_
        rintro x w13 ⟨rfl, hb13⟩
        go_wp2
        go_ret
        exact ⟨rfl, HBW.out.trans ((HB11.out.trans (hb13.mono HB11.out.size)).mono HBW.out.size)⟩
      by_cases h2 : how = 2
      · subst h2
        have HC : Hid (QAt v so2 qs w6 ∧ QFit qs ∧ chainQ 2 7 49 qs = false) := Lib.hid ⟨HQA.out, HQF.out, by rw [← HQS.out]; exact chainQ_base HPS.out HZ1.out HCS.out (by omega)⟩
        have HCL := HQL.out
        have KL := Lib.hid (lognew_ok v p2 2 7 49 (by omega) (by omega) (by omega) w6 2 7 49 rfl rfl rfl)
        have b0 : w6.cell? ⟨bx, 0, none⟩ = some (ptrV v) := HH6.out.1
        go_wp2_with fail
        refine KL.out.mono ?_
        rintro x w8 ⟨rfl, hL8, hb8, hz8⟩
        have KA := Lib.hid (adopt_no hL8 rfl (HC.out.1.below hb8) sc2 (by rw [HCL]; omega) HC.out.2.1 HC.out.2.2)
        rw [HCL] at KA
        have HL8 := Lib.hid hL8
        have HB8 := Lib.hid (HH6.out.2.trans (hb8.mono HH6.out.2.size))
        clear hL8 hb8 hz8 KL b0
        go_wp2_with fail
        refine KA.out.mono ?_
        rintro x w9 ⟨rfl, hb9⟩
        have HB9 := Lib.hid (HB8.out.trans (hb9.mono HB8.out.size))
        have HL9 := Lib.hid (LogIs.stays.below HL8.out hb9)
        have KF := Lib.hid (pFree_any (PoolIs.stays.below HO4.out HB9.out) (by show 1 ≤ 6; omega) (by show 6 ≤ 1000; omega))
        rw [show (freeL (newPool 6 2).O).length = 6 by decide +kernel] at KF
        clear hb9 KA
        go_wp2_with fail
        refine KF.out.mono ?_
        rintro x w10 ⟨rfl, hb10⟩
        have HB10 := Lib.hid (HB9.out.trans (hb10.mono HB9.out.size))
        have HL10 := Lib.hid (LogIs.stays.below HL9.out hb10)
        have KG := Lib.hid (lsegs_any HL10.out (by show 0 ≤ 1000; omega))
        clear hb10 KF
        go_wp2_with fail
        refine KG.out.mono ?_
        rintro x w11 ⟨rv3, rfl, hrow11, hb11⟩
        obtain ⟨_, _, rfl⟩ := row_slice3 hrow11
        have HB11 := Lib.hid (HB10.out.trans (hb11.mono HB10.out.size))
        have KX := Lib.hid (lnext_any (LogIs.stays.below HL10.out hb11))
        clear hb11 hrow11 KG
        go_wp2_with fail
        refine KX.out.mono ?_
        rintro x w12 ⟨rfl, rfl⟩
        go_wp2_with fail
        refine (eight_any _).mono ?_
        rintro x w13 ⟨rfl, hb13⟩
        go_wp2
        go_ret
        exact ⟨rfl, HBW.out.trans ((HB11.out.trans (hb13.mono HB11.out.size)).mono HBW.out.size)⟩
      obtain ⟨i0, hi0, hz0, hz10, hz20⟩ := info_parts info_ptr
      have HOW0 : Hid (w6.ownsRow 0 83 1 (.slice so2 nx sc2) nx (ps.map ptrV)) := Lib.hid ⟨HOWN.out.1, HOWN.out.2.imp id (fun ⟨g', cap, cur, e, hb, hr⟩ => ⟨g', cap, cur, e, Nat.zero_le _, hr⟩)⟩
      by_cases h3 : how = 3
      · subst h3
        have hbn := build_nilp w6
        go_wp2_with (at_builtin; refine wpList_append_lies _ rfl (.tmp 64) (.tmp 65) 73 rfl 0 83 i0 _ 1 8 Tryz.underlying73 hi0 hz0 hz10 hz20 rfl (by omega) (.slice so2 nx sc2) _ _ rfl (HOW0.out.alloc _) ⟨w6.heap.size, 0, none⟩ 1 1 [.pointer none] rfl rfl (World.news_of_block (cs := #[.pointer none]) (t := 83) (fr := (0, 0)) (heap_alloc_new w6 _)) (by simp [Value.oneCell']) (by omega) (by unfold maxLen; omega) (by omega) (by simp) _ rfl ?_; intro gg cap9 wa hown9 hgrow hat hlt9; have HOWN9 := Lib.hid hown9; have HGROW := Lib.hid hgrow; have HAT := Lib.hid hat; have HBA : Hid (wa.cell? ⟨bx, 0, none⟩ = some (ptrV v) ∧ Below w4.heap.size w4 wa) := Lib.hid (app_keep HH6.out hbxl (fun i hi => HOWN.out.lt i hi) hbse hgrow); have b0 : wa.cell? ⟨bx, 0, none⟩ = some (ptrV v) := HBA.out.1; clear hown9 hgrow hat hlt9)
        have hU9 : Upd (fun i => (Value.slice so2 nx sc2).ownBlock = some i) w6 wa := ⟨HGROW.out.os, HGROW.out.tape, HGROW.out.output, Nat.le_trans (by simp) HGROW.out.size, fun i hi hn => (HGROW.out.block i (by simp; omega) (fun e => hn e.symm)).trans (Below.heap_alloc _ _ _ hi)⟩
        have HSA := Lib.hid (SegsAre.stays HS6.out hU9 (fun i hi hc => HNE6.out i hc hi))
        have HC : Hid (QAt v (some ⟨gg, 0, none⟩) (qs ++ [none]) wa ∧ QFit (qs ++ [none]) ∧ chainQ 2 7 50 (qs ++ [none]) = false) := Lib.hid ⟨qat_row (by rw [List.map_append, HQM.out]; exact HOWN9.out) (fun s S hs => by
            rcases List.mem_append.1 hs with hs | hs
            · rw [← HQS.out] at hs; exact segs_q HSA.out HSL.out s S hs
            · simp at hs), (fun s S hs => by
            rcases List.mem_append.1 hs with hs | hs
            · exact HQF.out s S hs
            · simp at hs), chainQ_nil⟩
        have HCL : (qs ++ [none]).length = nx + 1 := by rw [List.length_append, HQL.out]; rfl
        clear hU9 b0
        have KL := Lib.hid (lognew_ok v p2 2 7 50 (by omega) (by omega) (by omega) wa 2 7 50 rfl rfl rfl)
        have b0 : wa.cell? ⟨bx, 0, none⟩ = some (ptrV v) := HBA.out.1
        go_wp2_with fail
        refine KL.out.mono ?_
        rintro x w8 ⟨rfl, hL8, hb8, hz8⟩
        have KA := Lib.hid (adopt_no hL8 rfl (HC.out.1.below hb8) cap9 (by rw [HCL]; omega) HC.out.2.1 HC.out.2.2)
        rw [HCL] at KA
        have HL8 := Lib.hid hL8
        have HB8 := Lib.hid (HBA.out.2.trans (hb8.mono HBA.out.2.size))
        clear hL8 hb8 hz8 KL b0
        go_wp2_with fail
        refine KA.out.mono ?_
        rintro x w9 ⟨rfl, hb9⟩
        have HB9 := Lib.hid (HB8.out.trans (hb9.mono HB8.out.size))
        have HL9 := Lib.hid (LogIs.stays.below HL8.out hb9)
        have KF := Lib.hid (pFree_any (PoolIs.stays.below HO4.out HB9.out) (by show 1 ≤ 6; omega) (by show 6 ≤ 1000; omega))
        rw [show (freeL (newPool 6 2).O).length = 6 by decide +kernel] at KF
        clear hb9 KA
        go_wp2_with fail
        refine KF.out.mono ?_
        rintro x w10 ⟨rfl, hb10⟩
        have HB10 := Lib.hid (HB9.out.trans (hb10.mono HB9.out.size))
        have HL10 := Lib.hid (LogIs.stays.below HL9.out hb10)
        have KG := Lib.hid (lsegs_any HL10.out (by show 0 ≤ 1000; omega))
        clear hb10 KF
        go_wp2_with fail
        refine KG.out.mono ?_
        rintro x w11 ⟨rv3, rfl, hrow11, hb11⟩
        obtain ⟨_, _, rfl⟩ := row_slice3 hrow11
        have HB11 := Lib.hid (HB10.out.trans (hb11.mono HB10.out.size))
        have KX := Lib.hid (lnext_any (LogIs.stays.below HL10.out hb11))
        clear hb11 hrow11 KG
        go_wp2_with fail
        refine KX.out.mono ?_
        rintro x w12 ⟨rfl, rfl⟩
        go_wp2_with fail
        refine (eight_any _).mono ?_
        rintro x w13 ⟨rfl, hb13⟩
        go_wp2
        go_ret
        exact ⟨rfl, HBW.out.trans ((HB11.out.trans (hb13.mono HB11.out.size)).mono HBW.out.size)⟩
      by_cases h4 : how = 4
      · subst h4
        obtain ⟨⟨ad, had, hc0⟩, _⟩ := HQA.out 0 (by rw [HQL.out]; omega)
        obtain ⟨q, S0, hqS, hSb⟩ : ∃ q S0, qs[0]? = some (some (q, S0)) ∧ S0.h.2.2.2 = 50 := by
          have hz2 := HZ1.out
          have hp2 := HPS.out
          refine ⟨ps[0]'(by omega), ⟨(L.segs.map SegM.seal)[0].n, (L.segs.map SegM.seal)[0].hdr 2 7, (L.segs.map SegM.seal)[0].fs, (L.segs.map SegM.seal)[0].e⟩, ?_, ?_⟩
          · rw [← HQS.out, List.getElem?_eq_getElem (by rw [qsOf_length hp2]; exact hz2), qsOf_at 0 hz2 (by omega)]
          · have hb := HCS.out.base_at 0 hz2
            simp only [List.take_zero, allF, List.flatMap_nil, List.length_nil, Nat.add_zero] at hb
            exact hb
        have hqm : some (q, S0) ∈ qs := List.mem_of_getElem? hqS
        have hc1 : w6.cell? ad = some (ptrV q) := by
          obtain ⟨hlq, heq⟩ := List.getElem?_eq_some_iff.1 hqS
          rw [heq, Addr.add_zero'] at hc0
          exact hc0
        have HQM0 := Lib.hid hqm
        have HSB := Lib.hid hSb
        have hbn := build_ptr' q w6
        have hn0 : (0 : Int) < (nx : Int) := by omega
        subst had
        clear hc0 hqS hqm hSb
        go_wp2_with (at_builtin; refine wpList_append_lies _ rfl (.tmp 69) (.tmp 73) 73 rfl 0 83 i0 _ 1 8 Tryz.underlying73 hi0 hz0 hz10 hz20 rfl (by omega) (.slice (some ad) nx sc2) _ _ rfl (HOW0.out.alloc _) ⟨w6.heap.size, 0, none⟩ 1 1 [ptrV q] rfl rfl (World.news_of_block (cs := #[ptrV q]) (t := 83) (fr := (0, 0)) (heap_alloc_new w6 _)) (by simp [Value.oneCell']) (by omega) (by unfold maxLen; omega) (by omega) (by simp) _ rfl ?_; intro gg cap9 wa hown9 hgrow hat hlt9; have HOWN9 := Lib.hid hown9; have HGROW := Lib.hid hgrow; have HAT := Lib.hid hat; have HBA : Hid (wa.cell? ⟨bx, 0, none⟩ = some (ptrV v) ∧ Below w4.heap.size w4 wa) := Lib.hid (app_keep HH6.out hbxl (fun i hi => HOWN.out.lt i hi) hbse hgrow); have b0 : wa.cell? ⟨bx, 0, none⟩ = some (ptrV v) := HBA.out.1; clear hown9 hgrow hat hlt9)
        have hU9 : Upd (fun i => (Value.slice (some ad) nx sc2).ownBlock = some i) w6 wa := ⟨HGROW.out.os, HGROW.out.tape, HGROW.out.output, Nat.le_trans (by simp) HGROW.out.size, fun i hi hn => (HGROW.out.block i (by simp; omega) (fun e => hn e.symm)).trans (Below.heap_alloc _ _ _ hi)⟩
        have HSA := Lib.hid (SegsAre.stays HS6.out hU9 (fun i hi hc => HNE6.out i hc hi))
        have HC : Hid (QAt v (some ⟨gg, 0, none⟩) (qs ++ [some (q, S0)]) wa ∧ QFit (qs ++ [some (q, S0)]) ∧ chainQ 2 7 50 (qs ++ [some (q, S0)]) = false) := Lib.hid ⟨qat_row (by rw [List.map_append, HQM.out]; exact HOWN9.out) (fun s S hs => by
            rcases List.mem_append.1 hs with hs | hs
            · rw [← HQS.out] at hs; exact segs_q HSA.out HSL.out s S hs
            · rw [List.mem_singleton] at hs; exact segs_q HSA.out HSL.out s S (by rw [HQS.out, hs]; exact HQM0.out)), (fun s S hs => by
            rcases List.mem_append.1 hs with hs | hs
            · exact HQF.out s S hs
            · rw [List.mem_singleton] at hs; exact HQF.out s S (by rw [hs]; exact HQM0.out)), by rw [← HQS.out]; exact chainQ_again HPS.out HZ1.out HCS.out HSB.out⟩
        have HCL : (qs ++ [some (q, S0)]).length = nx + 1 := by rw [List.length_append, HQL.out]; rfl
        clear hU9 b0
        have KL := Lib.hid (lognew_ok v p2 2 7 50 (by omega) (by omega) (by omega) wa 2 7 50 rfl rfl rfl)
        have b0 : wa.cell? ⟨bx, 0, none⟩ = some (ptrV v) := HBA.out.1
        go_wp2_with fail
        refine KL.out.mono ?_
        rintro x w8 ⟨rfl, hL8, hb8, hz8⟩
        have KA := Lib.hid (adopt_no hL8 rfl (HC.out.1.below hb8) cap9 (by rw [HCL]; omega) HC.out.2.1 HC.out.2.2)
        rw [HCL] at KA
        have HL8 := Lib.hid hL8
        have HB8 := Lib.hid (HBA.out.2.trans (hb8.mono HBA.out.2.size))
        clear hL8 hb8 hz8 KL b0
        go_wp2_with fail
        refine KA.out.mono ?_
        rintro x w9 ⟨rfl, hb9⟩
        have HB9 := Lib.hid (HB8.out.trans (hb9.mono HB8.out.size))
        have HL9 := Lib.hid (LogIs.stays.below HL8.out hb9)
        have KF := Lib.hid (pFree_any (PoolIs.stays.below HO4.out HB9.out) (by show 1 ≤ 6; omega) (by show 6 ≤ 1000; omega))
        rw [show (freeL (newPool 6 2).O).length = 6 by decide +kernel] at KF
        clear hb9 KA
        go_wp2_with fail
        refine KF.out.mono ?_
        rintro x w10 ⟨rfl, hb10⟩
        have HB10 := Lib.hid (HB9.out.trans (hb10.mono HB9.out.size))
        have HL10 := Lib.hid (LogIs.stays.below HL9.out hb10)
        have KG := Lib.hid (lsegs_any HL10.out (by show 0 ≤ 1000; omega))
        clear hb10 KF
        go_wp2_with fail
        refine KG.out.mono ?_
        rintro x w11 ⟨rv3, rfl, hrow11, hb11⟩
        obtain ⟨_, _, rfl⟩ := row_slice3 hrow11
        have HB11 := Lib.hid (HB10.out.trans (hb11.mono HB10.out.size))
        have KX := Lib.hid (lnext_any (LogIs.stays.below HL10.out hb11))
        clear hb11 hrow11 KG
        go_wp2_with fail
        refine KX.out.mono ?_
        rintro x w12 ⟨rfl, rfl⟩
        go_wp2_with fail
        refine (eight_any _).mono ?_
        rintro x w13 ⟨rfl, hb13⟩
        go_wp2
        go_ret
        exact ⟨rfl, HBW.out.trans ((HB11.out.trans (hb13.mono HB11.out.size)).mono HBW.out.size)⟩
      have e0 : (how == 0) = false := by simpa using h0
      have e1 : (how == 1) = false := by simpa using h1
      have e2 : (how == 2) = false := by simpa using h2
      have e3 : (how == 3) = false := by simpa using h3
      have e4 : (how == 4) = false := by simpa using h4
      have hnd : ((L.segs.map SegM.seal).map (·.n)).Nodup := by rw [seal_n]; exact HDK.out.one L (by simp)
      have hfr : ∀ n ∈ (L.segs.map SegM.seal).map (·.n), (newPool 6 2).O[n]? = some 0 := fun n hn => by
        rw [seal_n] at hn
        obtain ⟨s, hs, rfl⟩ := List.mem_map.1 hn
        have h5 := HDK.out.own L (by simp) s hs
        have h6 := (List.getElem?_eq_some_iff.1 h5).1
        rw [HI.out.len.1] at h6
        show (List.replicate 6 0)[s.n]? = some 0
        rw [List.getElem?_replicate, if_pos h6]
      have HND := Lib.hid hnd
      have HFREE := Lib.hid hfr
      have KL := Lib.hid (lognew_ok v p2 2 7 50 (by omega) (by omega) (by omega) w6 2 7 50 rfl rfl rfl)
      have b0 : w6.cell? ⟨bx, 0, none⟩ = some (ptrV v) := HH6.out.1
      clear hnd hfr
      go_wp2_with fail
      refine KL.out.mono ?_
      rintro x w8 ⟨rfl, hL8, hb8, hz8⟩
      have hcap6 : ∀ a, so2 = some a → w5.heap.size ≤ a.block ∧ a.block < w6.heap.size := fun a e => by subst e; exact HOWN.out.lt a.block rfl
      have hH2l : ∀ i, H2 i → i < w4.heap.size := fun i hi => PoolIs.there HO4.out i hi
      have hGsl : ∀ i, Gs i → i < w6.heap.size := fun i hi => SegsAre.there HS6.out i hi
      have hB8 := HH6.out.2.trans (hb8.mono HH6.out.2.size)
      have KA := Lib.hid (adopt_yes (l := L.segs.map SegM.seal) (ps := ps) (PoolIs.stays.below HO4.out hB8) hL8 rfl (SegsAre.stays.below HS6.out hb8) HSL.out (fun j hj => by
          obtain ⟨⟨a, ha, hc⟩, _⟩ := (HQA.out.below hb8) j (by rw [HQL.out, ← HPL.out]; exact hj)
          refine ⟨a, ha, ?_⟩
          have hm := congrArg (fun z => z[j]?) HQM.out
          simp only [List.getElem?_map] at hm
          rw [List.getElem?_eq_getElem (by rw [HQL.out, ← HPL.out]; exact hj), List.getElem?_eq_getElem hj] at hm
          rw [hc]
          exact hm)
        (fun a e => ⟨fun hc => by have := hH2l _ hc; have := (hcap6 a e).1; omega, fun hc => by have e5 : a.block = w6.heap.size := hc; have := (hcap6 a e).2; omega, fun hc => HNE6.out a.block (by rw [e]; rfl) hc⟩)
        (fun i hi hc => by have e5 : i = w6.heap.size := hc; have := hH2l i hi; omega)
        (fun i hi hc => by have := hH2l i hi; have := HG6.out i hc; omega)
        (fun i hi hc => by have e5 : i = w6.heap.size := hi; have := hGsl i hc; omega)
        sc2 (by rw [List.length_map, HNX.out]; omega) HND.out (fun s hs => HFREE.out s.n (List.mem_map.2 ⟨s, hs, rfl⟩)) (by show 1 ≤ 2; omega) (by show 2 ≤ 65535; omega)
        (fun s hs => by
          obtain ⟨a, ha, rfl⟩ := List.mem_map.1 hs
          have h5 := HLOG.out.segs a ha
          exact ⟨h5.base, by have := h5.fe; have := h5.e16; show a.fs.length ≤ 1000; omega⟩)
        (chainQ_of HPS.out HCS.out))
      rw [List.length_map, HNX.out] at KA
      have HB8 := Lib.hid hB8
      have HFR8 : Hid ((freeL (claimsM (newPool 6 2) 2 ((L.segs.map SegM.seal).map (·.n))).O).length + nx = 6) := Lib.hid (by
        have h5 := claims_free (P := newPool 6 2) (id := 2) (by omega) HND.out HFREE.out ((L.segs.map SegM.seal).map (·.n)).length (Nat.le_refl _)
        rw [List.take_length, List.length_map, List.length_map, HNX.out] at h5
        rw [h5]
        decide +kernel)
      clear hL8 hb8 hz8 KL b0 hcap6 hH2l hGsl hB8
      go_wp2_with fail
      refine KA.out.mono ?_
      rintro x w9 ⟨rfl, G9, hO9, hL9, _, hU9, _⟩
      have HO9 : Hid (PoolIs p2 (claimsM (newPool 6 2) 2 ((L.segs.map SegM.seal).map (·.n))) w9 H2) := Lib.hid hO9
      have KB := Lib.hid (adopt_busy hL9 (by show L.segs.map SegM.seal ≠ []; intro e; have := congrArg List.length e; rw [List.length_map, HNX.out] at this; exact hz this) (by show (L.segs.map SegM.seal).length ≤ 1000; rw [List.length_map, HNX.out]; omega) (.slice none 0 0))
      have HB9 : Hid (Below w.heap.size w w9) := Lib.hid (by
        have h5 := HBW.out.trans (HB8.out.mono HBW.out.size)
        refine h5.trans (hU9.below h5.size (fun i hi hc => ?_))
        have hw4 := HBW.out.size
        rcases hc with hc | hc | hc
        · have := HH4.out i hc; have := HBR.out.size; omega
        · have e5 : i = w6.heap.size := hc; omega
        · have := HG6.out i hc; omega)
      clear hO9 hL9 hU9 KA
      go_wp2_with fail
      refine KB.out.mono ?_
      rintro x w10 ⟨rfl, hb10⟩
      obtain ⟨fr, hfr8⟩ : ∃ n, (freeL (claimsM (newPool 6 2) 2 ((L.segs.map SegM.seal).map (·.n))).O).length = n := ⟨_, rfl⟩
      have hO6 : (claimsM (newPool 6 2) 2 ((L.segs.map SegM.seal).map (·.n))).O.length = 6 := by
        have := (claimsM_len (newPool 6 2) 2 ((L.segs.map SegM.seal).map (·.n)).length ((L.segs.map SegM.seal).map (·.n))).1
        rw [List.take_length] at this
        exact this
      have KF := Lib.hid (pFree_any (PoolIs.stays.below HO9.out hb10) (by rw [hO6]; omega) (by rw [hO6]; omega))
      rw [hfr8] at KF
      have hsum := HFR8.out
      rw [hfr8] at hsum
      have hfx : ((fr : Int) == 6 - (nx : Int)) = true := by simp; omega
      have hfy : IntKind.i64.wrap (6 - (nx : Int)) = 6 - (nx : Int) := by rw [IntKind.wrap_i64]; omega
      have HB10 := Lib.hid (HB9.out.trans (hb10.mono HB9.out.size))
      clear hb10 hO6 KB hfr8 hsum
      go_wp2_with fail
      refine KF.out.mono ?_
      rintro x w11 ⟨rfl, hb11⟩
      have HB11 := Lib.hid (HB10.out.trans (hb11.mono HB10.out.size))
      clear hb11 KF
      go_wp2_with fail
      refine (eight_any _).mono ?_
      rintro x w12 ⟨rfl, hb12⟩
      go_wp2
      go_ret
      exact ⟨rfl, HB11.out.trans (hb12.mono HB11.out.size)⟩
end Go.Proofs.YtoobiffhjjfpgaaGreat.Print
