/- seglog: Adopt of a chain. -/
import Derived.Test.YtoobiffhjjfpgaaGreatAdopt2
namespace Go.Proofs.YtoobiffhjjfpgaaGreat.Print
open Go.RowKit
attribute [local go_sem] run_loadVar_scalar

def qsOf (id gen : Nat) (l : List SegM) (ps : List Nat) : List QS := (l.zip ps).map fun x => some (x.2, ⟨x.1.n, x.1.hdr id gen, x.1.fs, x.1.e⟩)
theorem qsOf_length {id gen : Nat} {l : List SegM} {ps : List Nat} (h : ps.length = l.length) : (qsOf id gen l ps).length = l.length := by simp [qsOf, h]
theorem qsOf_at {id gen : Nat} {l : List SegM} {ps : List Nat} (j : Nat) (hj : j < l.length) (hp : j < ps.length) (hq : j < (qsOf id gen l ps).length) : (qsOf id gen l ps)[j] = some (ps[j], ⟨l[j].n, l[j].hdr id gen, l[j].fs, l[j].e⟩) := by simp [qsOf]
def abase (L : LogM) : List SegM → Nat
  | [] => L.base
  | s :: _ => s.base
def nxt (L : LogM) (l : List SegM) : Nat := match l.getLast? with
  | none => L.next
  | some s => s.base + s.fs.length
theorem nxt_snoc (L : LogM) (l : List SegM) (s : SegM) : nxt L (l ++ [s]) = s.base + s.fs.length := by simp [nxt]
theorem qat_of {v id gen : Nat} {l : List SegM} {ps : List Nat} {w : World} {Gs : Foot} {ao : Option Addr} (hS : SegsAre v id gen l ps w Gs) (hsl : ∀ s ∈ l, s.sealed = true) (hA : ∀ j (hj : j < ps.length), ∃ a, ao = some a ∧ w.cell? (a.add j) = some (ptrV ps[j])) : QAt v ao (qsOf id gen l ps) w := by
  have hl := hS.length
  intro j hj
  have hj1 : j < l.length := by rw [qsOf_length hl] at hj; exact hj
  have hj2 : j < ps.length := by omega
  rw [qsOf_at j hj1 hj2 hj]
  refine ⟨?_, fun s S e => ?_⟩
  · obtain ⟨a, ha, hc⟩ := hA j hj2
    exact ⟨a, ha, hc⟩
  · cases e
    obtain ⟨_, G1, h1, _⟩ := hS.at_ j hj1
    rw [hsl _ (List.getElem_mem hj1)] at h1
    exact ⟨G1, h1⟩
set_option linter.unusedSimpArgs false in
set_option maxRecDepth 100000 in
set_option maxHeartbeats 3200000 in
attribute [-go_sem] Instr.build Instr.fill Instr.buildSlice in
theorem adopt_yes {g v p : Nat} {P : PoolM} {L : LogM} {w : World} {H G Gs : Foot} (hO : PoolIs p P w H) (hL : LogIs g v p L w G) (h0 : L.segs = []) {ao : Option Addr} {l : List SegM} {ps : List Nat} (hS : SegsAre v L.id L.gen l ps w Gs) (hsl : ∀ s ∈ l, s.sealed = true)
    (hA : ∀ j (hj : j < ps.length), ∃ a, ao = some a ∧ w.cell? (a.add j) = some (ptrV ps[j])) (hAd : ∀ a, ao = some a → ¬ H a.block ∧ ¬ G a.block ∧ ¬ Gs a.block) (aHG : Apart H G) (aHS : Apart H Gs) (aGS : Apart G Gs) (cap : Nat) (hm : l.length ≤ 1000) (hnd : (l.map (·.n)).Nodup) (hfr : ∀ s ∈ l, P.O[s.n]? = some 0)
    (id1 : 1 ≤ L.id) (id2 : L.id ≤ 65535) (hfit : ∀ s ∈ l, s.base ≤ 1099511627776 ∧ s.fs.length ≤ 1000) (hc : chainQ L.id L.gen L.base (qsOf L.id L.gen l ps) = true) :
    Calls Tryz.prog 44 #[.pointer (some ⟨g, 0, none⟩), .slice ao l.length cap] w fun x w' => x = .returned (.int .i64 0) ∧ ∃ G' : Foot, PoolIs p (claimsM P L.id (l.map (·.n))) w' H ∧ LogIs g v p ⟨L.id, L.gen, abase L l, nxt L l, l⟩ w' G' ∧ Apart H G' ∧ Upd (Both H (Both G Gs)) w w' ∧ ∀ i, G' i → Both G Gs i ∨ w.heap.size ≤ i := by
  have hpl := hS.length
  have hql := qsOf_length (id := L.id) (gen := L.gen) hpl
  obtain ⟨i0, hi0, hz0, hz1, hz2⟩ := info_parts info_ptr
  obtain ⟨so, sc, hobj⟩ := log_empty hL h0
  obtain ⟨y0, y1, y2, y3, y4, y5, y6, yf⟩ := seven_of hobj
  have KC := Lib.hid (lchain_any hL (qat_of hS hsl hA) cap (by omega) (fun s S hs => by
    obtain ⟨x, hx, e⟩ := List.mem_map.1 hs
    cases e
    exact hfit x.1 (List.of_mem_zip hx).1))
  rw [hc, hql] at KC
  have HO := Lib.hid hO
  have HL := Lib.hid hL
  have HS := Lib.hid hS
  have HSL := Lib.hid hsl
  have HA := Lib.hid hA
  have HAD := Lib.hid hAd
  have HHG := Lib.hid aHG
  have HHS := Lib.hid aHS
  have HGS := Lib.hid aGS
  have HND := Lib.hid hnd
  have HFR := Lib.hid hfr
  have HFIT := Lib.hid hfit
  have H0 := Lib.hid h0
  clear hO hL hS hsl hA hAd aHG aHS aGS hnd hfr hfit hc hobj h0
  go_enter Tryz.func44, Tryz.ntmps44
  go_wp2_with fail
  refine KC.out.mono ?_
  rintro x w1 ⟨rfl, hb1⟩
  have HB1 := Lib.hid hb1
  clear hb1 KC y0 y1 y2 y3 y4 y5 y6 yf
  go_wp2_with fail
  go_loopw [30] (fun i wr => ∃ k : Nat, k ≤ l.length ∧ i = .int .i64 k ∧ PoolIs p (claimsM P L.id ((l.map (·.n)).take k)) wr H ∧ Upd H w1 wr) (fun i _ => l.length - (intOf i).toNat)
  case atStart => exact ⟨0, Nat.zero_le _, rfl, PoolIs.stays.below HO.out HB1.out, Upd.refl _ _⟩
  case round =>
    obtain ⟨k, hk, rfl, hP, hU⟩ := hrel
    have HP := Lib.hid hP
    have HU := Lib.hid hU
    clear hP hU
    by_cases hlt : k < l.length
    · have hkp : k < ps.length := by omega
      obtain ⟨ad, had, hc⟩ := HA.out k hkp
      have hHa := (HAD.out ad had).1
      have hc1 : wr.cell? (ad.add k) = some (ptrV ps[k]) := by
        rw [World.cell?_of_block (HU.out.other _ (by have h1 := World.block_lt_of_cell? w _ hc; have h2 := HB1.out.size; omega) (by rw [addr_block]; exact hHa)), World.cell?_of_block (HB1.out.block _ (World.block_lt_of_cell? w _ hc))]
        exact hc
      have hSw := SegsAre.stays (SegsAre.stays.below HS.out HB1.out) HU.out (fun i hi hc => HHS.out i hc hi)
      obtain ⟨_, G1, hs1, _⟩ := hSw.at_ k hlt
      obtain ⟨sv, hob⟩ := (LogIs.stays (LogIs.stays.below HL.out HB1.out) HU.out (fun i hi hc => HHG.out i hc hi)).obj
      obtain ⟨q, hq⟩ : ∃ q, ps[k] = q := ⟨_, rfl⟩
      obtain ⟨s, hs⟩ : ∃ s, l[k] = s := ⟨_, rfl⟩
      rw [hq] at hc1 hs1
      rw [hs] at hs1
      have hsm : s ∈ l := by rw [← hs]; exact List.getElem_mem hlt
      have hnk : (l.map (·.n))[k]'(by simpa using hlt) = s.n := by rw [List.getElem_map, hs]
      have hcl := claimsM_len P L.id k (l.map (·.n))
      have hot : (claimsM P L.id ((l.map (·.n)).take k)).O[s.n]? = some 0 := by
        rw [claimsM_other, HFR.out s hsm]
        intro n hn e
        obtain ⟨j, hj, hje⟩ := List.mem_iff_getElem.1 hn
        rw [List.length_take] at hj
        rw [List.getElem_take] at hje
        have hne := (List.pairwise_iff_getElem.1 HND.out) j k (by rw [List.length_map] at hj ⊢; omega) (by simpa using hlt) (by omega)
        exact hne (by rw [hje, hnk, e])
      obtain ⟨hn1, hn2⟩ := List.getElem?_eq_some_iff.1 hot
      have hbd : Below wr.heap.size wr wr.drew := (Below.refl _ _).drew
      have KN : Hid (Calls Tryz.prog 81 #[.pointer (some ⟨q, 0, none⟩)] wr.drew fun e w' => e = .returned (.int .i64 s.n) ∧ w' = wr.drew) := Lib.hid ((snumber_any (SegIs.stays.below hs1 hbd)).mono fun _ _ ⟨a, b⟩ => ⟨a, b.symm⟩)
      have KK := Lib.hid (claim_ok (PoolIs.stays.below HP.out hbd) s.n L.id hn1 hn2 id1 id2 s.n rfl)
      have HNX : Hid (claimsM P L.id ((l.map (·.n)).take (k + 1)) = ⟨(claimsM P L.id ((l.map (·.n)).take k)).O.set s.n L.id, (claimsM P L.id ((l.map (·.n)).take k)).ep, (claimsM P L.id ((l.map (·.n)).take k)).ct⟩) := Lib.hid (by rw [List.take_succ_eq_append_getElem (by simpa using hlt), claimsM_snoc, hnk])
      obtain ⟨y0, y1, y2, y3, y4, y5, y6, yf⟩ := seven_of hob
      have k1 : (k : Int) < (l.length : Int) := by omega
      subst had
      clear hc hSw hs1 hob hq hs hsm hnk hcl hot hn1 hn2
      go_wp2_with fail
      go_still_tail 10, (by kernel_rfl)
      still_call KN.out
      repeat still_step
      refine wpStill_nil ?_
      change wpList _ _ _ _ _ wr.drew
      go_wp2_with fail
      refine KK.out.mono ?_
      rintro x w2 ⟨rfl, hP2, hU2⟩
      have HP2 : Hid (PoolIs p (claimsM P L.id ((l.map (·.n)).take (k + 1))) w2 H) := Lib.hid (by rw [HNX.out]; exact hP2)
      have HU2 := Lib.hid ((HU.out.trans (Upd.of_below' (S := H) hbd) (fun _ _ h => h)).trans hU2 (fun _ _ h => h))
      clear hP2 hU2 KK KN hbd y0 y1 y2 y3 y4 y5 y6 yf hc1
      go_wp2
      go_roundw
      case rel => exact ⟨k + 1, hlt, by simp, HP2.out, HU2.out⟩
      case measure => simp [intOf]; omega
    · obtain rfl : k = l.length := by omega
      have hP := HP.out
      rw [List.take_of_length_le (by simp)] at hP
      have HPF := Lib.hid hP
      obtain ⟨w2, rfl⟩ : ∃ w2, w2 = wr := ⟨_, rfl⟩
      have hU0 : Upd H w w2 := (Upd.of_below' HB1.out).trans HU.out (fun _ _ h => h)
      have HU0 := Lib.hid hU0
      have HL2 := Lib.hid (LogIs.stays HL.out hU0 (fun i hi hc => HHG.out i hc hi))
      have HS2 := Lib.hid (SegsAre.stays HS.out hU0 (fun i hi hc => HHS.out i hc hi))
      have HA2 : Hid (∀ j (hj : j < ps.length), ∃ a, ao = some a ∧ w2.cell? (a.add j) = some (ptrV ps[j]) ∧ a.block < w2.heap.size) := Lib.hid (fun j hj => by
        obtain ⟨a, ha, hc⟩ := HA.out j hj
        have h1 := World.block_lt_of_cell? w _ hc
        rw [addr_block] at h1
        refine ⟨a, ha, ?_, Nat.lt_of_lt_of_le h1 hU0.size⟩
        rw [World.cell?_of_block (hU0.other _ (by rw [addr_block]; exact h1) (by rw [addr_block]; exact (HAD.out a ha).1))]
        exact hc)
      obtain ⟨ps0, hq0⟩ := HL2.out.q
      have hps0 : ps0 = [] := by
        have := hq0.len
        rw [H0.out] at this
        exact List.eq_nil_of_length_eq_zero this
      subst hps0
      have HQ0 : Hid (LogQ g v p ⟨L.id, L.gen, L.base, nxt L (l.take 0), l.take 0⟩ (ps.take 0) w2 G) := Lib.hid (by
        rw [List.take_zero, List.take_zero]
        show LogQ g v p ⟨L.id, L.gen, L.base, L.next, []⟩ [] w2 G
        rw [← H0.out]
        exact hq0)
      have HSZ := Lib.hid hU0.size
      clear hP hU0 hq0
      go_wp2_with fail
      go_loopw [68] (fun i wr => ∃ (k : Nat) (Gk Rk : Foot), k ≤ l.length ∧ i = .int .i64 k ∧ PoolIs p (claimsM P L.id (l.map (·.n))) wr H ∧ LogQ g v p ⟨L.id, L.gen, L.base, nxt L (l.take k), l.take k⟩ (ps.take k) wr Gk ∧ SegsAre v L.id L.gen (l.drop k) (ps.drop k) wr Rk ∧ Apart H Gk ∧ Apart H Rk ∧ Apart Gk Rk ∧ Upd (Both G Gs) w2 wr ∧ (∀ i, Gk i → Both G Gs i ∨ w2.heap.size ≤ i) ∧ (∀ i, Rk i → Gs i)) (fun i _ => l.length - (intOf i).toNat)
      case atStart => exact ⟨0, G, Gs, Nat.zero_le _, rfl, HPF.out, HQ0.out, by rw [List.drop_zero, List.drop_zero]; exact HS2.out, HHG.out, HHS.out, HGS.out, Upd.refl _ _, fun i hi => .inl (.inl hi), fun i hi => hi⟩
      case round =>
        obtain ⟨k, Gk, Rk, hk, rfl, hP, hQ, hR, a1, a2, a3, hU, hGk, hRk⟩ := hrel
        have HPk := Lib.hid hP
        have HQk := Lib.hid hQ
        have HRk := Lib.hid hR
        have HAk := Lib.hid (And.intro a1 (And.intro a2 a3))
        have HUk := Lib.hid hU
        have HGk := Lib.hid hGk
        have HRs := Lib.hid hRk
        clear hP hQ hR a1 a2 a3 hU hGk hRk
        by_cases hlt : k < l.length
        · have hkp : k < ps.length := by omega
          obtain ⟨ad, had, hc, hadl⟩ := HA2.out k hkp
          have hda := HAD.out ad had
          have hc1 : wr.cell? (ad.add k) = some (ptrV ps[k]) := by
            rw [World.cell?_of_block (HUk.out.other _ (by rw [addr_block]; exact hadl) (by rw [addr_block]; exact fun h => h.elim hda.2.1 hda.2.2))]
            exact hc
          have hR := HRk.out
          obtain ⟨q, hq⟩ : ∃ q, ps[k] = q := ⟨_, rfl⟩
          obtain ⟨s, hs⟩ : ∃ s, l[k] = s := ⟨_, rfl⟩
          rw [List.drop_eq_getElem_cons hlt, List.drop_eq_getElem_cons hkp, hq, hs] at hR
          obtain ⟨q', ps', G1, G2, he, hs1, hr2, ha12, hRi⟩ := hR
          obtain ⟨rfl, rfl⟩ := List.cons.inj he
          rw [hq] at hc1
          have hsm : s ∈ l := by rw [← hs]; exact List.getElem_mem hlt
          have hsl := HSL.out s hsm
          have KSe := Lib.hid (seal_seg hs1)
          have HS1 := Lib.hid hs1
          have HR2 := Lib.hid hr2
          have HA12 := Lib.hid ha12
          have HRI := Lib.hid hRi
          have HTK : Hid (l.take (k + 1) = l.take k ++ [s] ∧ ps.take (k + 1) = ps.take k ++ [q]) := Lib.hid ⟨by rw [List.take_succ_eq_append_getElem hlt, hs], by rw [List.take_succ_eq_append_getElem hkp, hq]⟩
          have HFB := Lib.hid (HFIT.out s hsm)
          have HSEAL := Lib.hid hsl
          have k1 : (k : Int) < (l.length : Int) := by omega
          subst had
          clear hc hs1 hr2 ha12 hRi hq hs hsm hsl he hda hadl
          go_wp2_with fail
          refine KSe.out.mono ?_
          rintro x w3 ⟨rfl, hS3, hU3⟩
          have hqG1 : G1 q := by obtain ⟨_, _, _, _, hG⟩ := HS1.out; exact (hG q).2 (.inl rfl)
          have hqR : Rk q := (HRI.out q).2 (.inl hqG1)
          have hQ3 := LogQ.stays HQk.out hU3 (fun i hi e => by have e' : i = q := e; subst e'; exact HAk.out.2.2 i hi hqR)
          have hP3 := PoolIs.stays HPk.out hU3 (fun i hi e => by have e' : i = q := e; subst e'; exact HAk.out.2.1 i hi hqR)
          have hR3 := SegsAre.stays HR2.out hU3 (fun i hi e => by have e' : i = q := e; subst e'; exact HA12.out i hqG1 hi)
          have hS3' : SegIs q v s.n (s.hdr L.id L.gen) s.fs s.e s.sealed w3 G1 := by rw [HSEAL.out]; exact hS3
          have aGk1 : Apart Gk G1 := fun i hi hc => HAk.out.2.2 i hi ((HRI.out i).2 (.inl hc))
          obtain ⟨sv, xs, hobj3, hrow3, hne3, hpush⟩ := LogQ.push hQ3 hS3' aGk1
          obtain ⟨c0, c1, c2, c3, c4, c5, c6, cf⟩ := seven_of hobj3
          have HS3 := Lib.hid hS3'
          have HU3 := Lib.hid (show Upd (Both G Gs) w2 w3 from HUk.out.trans (hU3.mono (T := Rk) (fun i _ e => by have e' : i = q := e; subst e'; exact hqR)) (fun i _ h => .inr (HRs.out i h)))
          have HP3 := Lib.hid hP3
          have HR3 := Lib.hid hR3
          have HPU := Lib.hid hpush
          have HRW := Lib.hid hrow3
          have HAG1 := Lib.hid aGk1
          have hkl : (l.take k).length ≤ 1000 := by rw [List.length_take]; omega
          obtain ⟨sn, hsn⟩ : ∃ sn, (l.take k).length = sn := ⟨_, rfl⟩
          obtain ⟨svo, svc, rfl⟩ := hrow3.slice
          simp only [hsn] at HRW HPU c6 hkl
          have hbs := build_ptr q
          have HZ3 := Lib.hid hU3.size
          clear hS3 hU3 hqG1 hqR hQ3 hP3 hR3 hS3' aGk1 hobj3 hrow3 hne3 hpush hsn KSe hc1
          go_wp2_with (at_builtin; refine wpList_append_off _ rfl (.tmp 78) (.tmp 80) 73 rfl 83 i0 _ 8 Tryz.underlying73 hi0 hz0 hz1 hz2 rfl (.slice svo sn svc) sn xs rfl (HRW.out.below ((Below.refl _ _).alloc (Nat.le_refl _) (.cells #[ptrV q] 83))) ⟨w3.heap.size, 0, none⟩ 1 (ptrV q) rfl (by rw [cell_of (alloc_at w3 _)]; rfl) rfl (by unfold maxLen; omega) (by omega) ?_; intro v9 w9 hrow9 hgrow hat; obtain ⟨vo, vc, rfl⟩ := hrow9.slice; obtain ⟨hobj9, G5, hL9, hU9, hG9⟩ := HPU.out _ w9 _ ((Below.refl _ _).alloc (Nat.le_refl _) _) hrow9 hgrow hat; obtain ⟨d0, d1, d2, d3, d4, d5, d6, df⟩ := seven_of hobj9; have HL9 := Lib.hid hL9; have HU9 := Lib.hid hU9; have HG9 := Lib.hid hG9; clear hrow9 hgrow hat hobj9 hL9 hU9 hG9)
          obtain ⟨w5, hw5⟩ : ∃ w5, w9.setCell ⟨g, 6, none⟩ (.slice vo (sn + 1) vc) = w5 := ⟨_, rfl⟩
          rw [hw5] at HL9 HU9
          rw [hw5]
          have hs5 := SegIs.stays HS3.out HU9.out (fun i hi hc => HAG1.out i hc hi)
          have KH := Lib.hid (header_any hs5)
          simp only [SegM.hdr] at KH
          have HS5 := Lib.hid hs5
          have hfb9 := field_base
          have hfb1 := HFB.out
          clear hs5 hw5 c0 c1 c2 c3 c4 c5 c6 cf d0 d1 d2 d3 d4 d5 d6 df hbs
          refine KH.out.mono ?_
          rintro x w6 ⟨rfl, hb6⟩
          have KLn := Lib.hid (len_any (SegIs.stays.below HS5.out hb6))
          have HQ6 := Lib.hid (LogQ.stays.below HL9.out hb6)
          have HB6 := Lib.hid hb6
          obtain ⟨sv6, hob6⟩ := HQ6.out.obj
          obtain ⟨e0, e1, e2, e3, e4, e5, e6, ef⟩ := seven_of hob6
          clear hb6 KH
          go_wp2_with fail
          refine KLn.out.mono ?_
          rintro x w7 ⟨rfl, rfl⟩
          have hU8 : Upd (fun i => i = g) w6 (w6.setCell ⟨g, 5, none⟩ (.int .i64 ((s.base : Int) + (s.fs.length : Int)))) := (Upd.refl (fun i => i = g) w6).setCell (p := ⟨g, 5, none⟩) (fun _ => rfl) _
          have hnum := LogQ.nums HQ6.out L.base (s.base + s.fs.length) hU8 (fun sv hsv => by
            rw [cells_set _ _ _ _ _ _ hsv, show ((s.base : Int) + (s.fs.length : Int)) = ((s.base + s.fs.length : Nat) : Int) by omega]
            rfl)
          have HREL : Hid (∃ (Gk' Rk' : Foot), PoolIs p (claimsM P L.id (l.map (·.n))) (w6.setCell ⟨g, 5, none⟩ (.int .i64 ((s.base : Int) + (s.fs.length : Int)))) H ∧ LogQ g v p ⟨L.id, L.gen, L.base, nxt L (l.take (k + 1)), l.take (k + 1)⟩ (ps.take (k + 1)) (w6.setCell ⟨g, 5, none⟩ (.int .i64 ((s.base : Int) + (s.fs.length : Int)))) Gk' ∧ SegsAre v L.id L.gen (l.drop (k + 1)) (ps.drop (k + 1)) (w6.setCell ⟨g, 5, none⟩ (.int .i64 ((s.base : Int) + (s.fs.length : Int)))) Rk' ∧ Apart H Gk' ∧ Apart H Rk' ∧ Apart Gk' Rk' ∧ Upd (Both G Gs) w2 (w6.setCell ⟨g, 5, none⟩ (.int .i64 ((s.base : Int) + (s.fs.length : Int)))) ∧ (∀ i, Gk' i → Both G Gs i ∨ w2.heap.size ≤ i) ∧ (∀ i, Rk' i → Gs i)) := Lib.hid (by
            have hgk : Gk g := by obtain ⟨_, _, _, _, _, _, _, _, hG⟩ := HQk.out; exact (hG g).2 (.inl rfl)
            have h2z := HUk.out.size
            have h3z := HZ3.out
            have hG2R : ∀ i, G2 i → Rk i := fun i hi => (HRI.out i).2 (.inr hi)
            have hG1R : ∀ i, G1 i → Rk i := fun i hi => (HRI.out i).2 (.inl hi)
            have hHlt : ∀ i, H i → i < wr.heap.size := fun i hi => PoolIs.there HPk.out i hi
            have hG2lt : ∀ i, G2 i → i < w3.heap.size := fun i hi => SegsAre.there HR3.out i hi
            refine ⟨G5, G2, ?_, ?_, ?_, fun i hi hc => ?_, fun i hi hc => HAk.out.2.1 i hi (hG2R i hc), fun i hi hc => ?_, ?_, fun i hi => ?_, fun i hi => HRs.out i (hG2R i hi)⟩
            · exact PoolIs.stays (PoolIs.stays.below (PoolIs.stays HP3.out HU9.out (fun i hi hc => HAk.out.1 i hi hc)) HB6.out) hU8 (fun i hi e => by have e' : i = g := e; subst e'; exact HAk.out.1 i hi hgk)
            · rw [HTK.out.1, HTK.out.2, nxt_snoc]
              exact hnum.1
            · exact SegsAre.stays (SegsAre.stays.below (SegsAre.stays HR3.out HU9.out (fun i hi hc => HAk.out.2.2 i hc (hG2R i hi))) HB6.out) hU8 (fun i hi e => by have e' : i = g := e; subst e'; exact HAk.out.2.2 i hgk (hG2R i hi))
            · rcases HG9.out i hc with h | h | h
              · exact HAk.out.1 i hi h
              · exact HAk.out.2.1 i hi (hG1R i h)
              · have := hHlt i hi; omega
            · rcases HG9.out i hi with h | h | h
              · exact HAk.out.2.2 i h (hG2R i hc)
              · exact HA12.out i h hc
              · have := hG2lt i hc; omega
            · refine ((HU3.out.trans HU9.out (fun i hi hc => ?_)).trans (Upd.of_below' HB6.out) (fun _ _ h => h)).trans hU8 (fun i hi e => ?_)
              · rcases HGk.out i hc with h | h
                · exact h
                · omega
              · have e' : i = g := e
                subst e'
                rcases HGk.out i hgk with h | h
                · exact h
                · omega
            · rcases HG9.out i hi with h | h | h
              · exact HGk.out i h
              · exact .inl (.inr (HRs.out i (hG1R i h)))
              · exact .inr (by omega))
          clear hnum hU8 KLn
          go_wp2
          go_roundw
          case rel =>
            obtain ⟨A1, A2, B⟩ := HREL.out
            exact ⟨k + 1, A1, A2, hlt, by simp, B⟩
          case measure => simp [intOf]; omega
        · obtain rfl : k = l.length := by omega
          have hQ := HQk.out
          rw [List.take_length, List.take_of_length_le (by omega)] at hQ
          have hUw : Upd (Both H (Both G Gs)) w wr := (HU0.out.mono (T := Both H (Both G Gs)) (fun _ _ h => .inl h)).trans HUk.out (fun i _ h => .inr h)
          have HUW := Lib.hid hUw
          have HGW : Hid (∀ i, Gk i → Both G Gs i ∨ w.heap.size ≤ i) := Lib.hid (fun i hi => (HGk.out i hi).imp id (fun h => by have := HSZ.out; omega))
          by_cases hz : 0 < l.length
          · have hzp : 0 < ps.length := by omega
            obtain ⟨ad, had, hc, hadl⟩ := HA2.out 0 hzp
            have hda := HAD.out ad had
            have hc1 : wr.cell? (ad.add 0) = some (ptrV ps[0]) := by
              rw [World.cell?_of_block (HUk.out.other _ (by rw [addr_block]; exact hadl) (by rw [addr_block]; exact fun h => h.elim hda.2.1 hda.2.2))]
              exact hc
            obtain ⟨_, G1, hs1, hG1⟩ := hQ.seg 0 hz
            obtain ⟨q, hq⟩ : ∃ q, ps[0] = q := ⟨_, rfl⟩
            obtain ⟨s, hs⟩ : ∃ s, l[0] = s := ⟨_, rfl⟩
            have hab : abase L l = s.base := by
              cases hl : l with
              | nil => rw [hl] at hz; cases hz
              | cons a r => simp only [hl, List.getElem_cons_zero] at hs; rw [← hs]; rfl
            rw [hq, Addr.add_zero'] at hc1
            simp only [hq, hs] at hs1
            have KH := Lib.hid (header_any hs1)
            simp only [SegM.hdr] at KH
            have HQF := Lib.hid hQ
            have HAB := Lib.hid hab
            obtain ⟨svf, hobf⟩ := hQ.obj
            have HOBF := Lib.hid hobf
            have hfb9 := field_base
            have hz1 : decide ((0 : Int) < (l.length : Int)) = true := decide_eq_true (by omega)
            have hz2 : (0 : Int) < (l.length : Int) := by omega
            subst had
            clear hc hs1 hG1 hq hs hab hQ hUw hda hadl hobf
            go_wp2_with fail
            refine KH.out.mono ?_
            rintro x w6 ⟨rfl, hb6⟩
            have HQ6 := Lib.hid (LogQ.stays.below HQF.out hb6)
            have HB6 := Lib.hid hb6
            obtain ⟨e0, e1, e2, e3, e4, e5, e6, ef⟩ := seven_of (later_of HOBF.out hb6)
            have hU8 : Upd (fun i => i = g) w6 (w6.setCell ⟨g, 4, none⟩ (.int .i64 (s.base : Int))) := (Upd.refl (fun i => i = g) w6).setCell (p := ⟨g, 4, none⟩) (fun _ => rfl) _
            have hnum := LogQ.nums HQ6.out s.base (nxt L l) hU8 (fun sv hsv => by rw [cells_set _ _ _ _ _ _ hsv]; rfl)
            have HNUM := Lib.hid hnum
            have HU8 := Lib.hid hU8
            have HGK : Hid (Gk g) := Lib.hid (by obtain ⟨_, _, _, _, _, _, _, _, hG⟩ := HQF.out; exact (hG g).2 (.inl rfl))
            clear hb6 KH hnum hU8 hc1
            go_wp2
            go_ret
            refine ⟨rfl, Gk, PoolIs.stays (PoolIs.stays.below HPk.out HB6.out) HU8.out (fun i hi e => by have e' : i = g := e; subst e'; exact HAk.out.1 i hi HGK.out), by rw [HAB.out]; exact HNUM.out.1.log, HAk.out.1, ?_, HGW.out⟩
            refine (HUW.out.trans (Upd.of_below' HB6.out) (fun _ _ h => h)).trans HU8.out (fun i hi e => ?_)
            have e' : i = g := e
            subst e'
            rcases HGW.out i HGK.out with h | h
            · exact .inr h
            · omega
          · have hl0 : l = [] := List.eq_nil_of_length_eq_zero (by omega)
            have hz1 : decide ((0 : Int) < (l.length : Int)) = false := decide_eq_false (by omega)
            have HQF : Hid (LogIs g v p ⟨L.id, L.gen, abase L l, nxt L l, l⟩ wr Gk) := Lib.hid (by
              have h := hQ.log
              rw [show abase L l = L.base by rw [hl0]; rfl]
              exact h)
            clear hQ hUw
            go_wp2
            go_ret
            exact ⟨rfl, Gk, HPk.out, HQF.out, HAk.out.1, HUW.out, HGW.out⟩
end Go.Proofs.YtoobiffhjjfpgaaGreat.Print
