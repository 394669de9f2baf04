/- weighlocklaw26.two: eight frames of two pieces in a journal, and in one anew. -/
import Derived.Test.YtoobiffhjjfpgaaGreatJour3
namespace Go.Proofs.YtoobiffhjjfpgaaGreat.Print
open Go.RowKit
attribute [local go_sem] run_loadVar_scalar

/-- The journal's state, when so many frames were put. -/
def jS (q : Nat) : S3 := run3 0 (newPool 6 1, newLog 2 5 0, []) ((l46 8).take q)
def jR : S3 := rn3 0 (jS 8).1 (jS 8).2.1 (jS 8).2.2 (l46 8)
theorem jS_0 : jS 0 = (newPool 6 1, newLog 2 5 0, []) := rfl
theorem l46_at (q : Nat) (h : q < 8) : (l46 8)[q]'(by simpa [l46] using h) = y46 := by unfold l46; exact List.getElem_replicate _
theorem jS_succ (q : Nat) (h : q < 8) : jS (q + 1) = step3 0 (jS q) y46 := by
  unfold jS
  rw [run3_take 0 _ (by simpa [l46] using h), l46_at q h]
theorem jS_er : ∀ q, q < 8 → er3 (jS q) y46 = 0 := by decide +kernel
theorem jR_er : ∀ q, q < 8 → er3 (rn3 0 (jS 8).1 (jS 8).2.1 (jS 8).2.2 ((l46 8).take q)) y46 = 0 := by decide +kernel
theorem jS_segs : (jS 8).2.1.segs.length = 2 := by decide +kernel
theorem jS_gen : (jS 8).2.1.gen = 5 := by decide +kernel
theorem jR_segs : jR.2.1.segs.length = 2 := by decide +kernel
theorem jR_gen : jR.2.1.gen = 6 := by decide +kernel
theorem jR_next : jR.2.1.next = 8 := by decide +kernel
theorem jR_all : (allF jR.2.1.segs).length = 8 := by decide +kernel
theorem jR_free : (freeL jR.1.O).length = 2 := by decide +kernel
theorem jR_O : jR.1.O.length = 6 := by decide +kernel
theorem j_need : (needS (l46 8)).1 = 2 := by decide +kernel
theorem l46_size : ∀ x ∈ l46 8, x.2.size ≤ 1000000 := by
  intro x hx
  rw [(List.mem_replicate.1 hx).2]
  show p46.size ≤ _
  rw [p46_size]
  omega
theorem jS_ok0 : S3Ok 98 0 0 (newPool 6 1, newLog 2 5 0, []) := ⟨newPool_ok 6 1 98 (by omega) (by omega) (by omega) (by omega), ⟨by show 1 ≤ 2; omega, by show 2 ≤ 65535; omega, by show 5 < _; omega, Nat.zero_le _, Nat.zero_le _, fun s hs => absurd hs (by simp [newLog]), Nat.zero_le _⟩, Nat.le_refl _, Nat.le_refl _⟩
theorem jS_ok (q : Nat) (h : q ≤ 8) : S3Ok 98 0 q (jS q) := S3Ok.run jS_ok0 0 (l := l46 8) (by simp [l46]) (by simp [l46]) q (by simpa [l46] using h)
theorem jS_W (q : Nat) (h : q ≤ 8) : (jS q).2.2.length ≤ 16 * q := by
  have := run3_W 0 (newPool 6 1, newLog 2 5 0, []) (l46 8) q (by simpa [l46] using h)
  simpa [jS] using this
def segB (s : SegM) : Bool := decide (s.fs.length ≤ 1000)
theorem jR_fs : ∀ s ∈ jR.2.1.segs, s.fs.length ≤ 1000 := by
  have h : jR.2.1.segs.all segB = true := by decide +kernel
  intro s hs
  have := List.all_eq_true.1 h s hs
  simpa [segB] using this
def chainB : Nat → List SegM → Nat → Bool
  | b, [], nx => decide (b = nx)
  | b, s :: r, nx => decide (s.base = b) && decide (0 < s.fs.length) && chainB (b + s.fs.length) r nx
theorem chainB_ok : ∀ {b : Nat} {l : List SegM} {nx : Nat}, chainB b l nx = true → ChainOk b l nx
  | b, [], nx, h => by simpa [chainB, ChainOk] using h
  | b, s :: r, nx, h => by
    simp only [chainB, Bool.and_eq_true, decide_eq_true_eq] at h
    refine ⟨h.1.1, fun e => ?_, chainB_ok h.2⟩
    rw [e] at h
    exact absurd h.1.2 (by simp)
theorem jR_chain : ChainOk jR.2.1.base jR.2.1.segs jR.2.1.next := chainB_ok (by decide +kernel)
/-- What two holds between two rounds. -/
structure TwoAt (w w0 : World) (v p j q : Nat) (X J : Foot) (wr : World) (X' J' : Foot) : Prop where
  vp : VP v p (zeroDisk 98) (jS q).2.2 0 98 (jS q).1 wr X'
  jis : JIs j v p (jS q).2.1 wr J'
  apart : Apart X' J'
  upd : Upd (Both X J) w0 wr
  fresh : Fresh w0 (Both X J) (Both X' J')
set_option maxRecDepth 100000 in
set_option maxHeartbeats 3200000 in
attribute [-go_sem] Instr.build Instr.fill Instr.buildSlice loadVar in
theorem two26_any (w : World) : Calls Tryz.prog 16 #[] w fun x w' => x = .returned (.bool true) ∧ Below w.heap.size w w' := by
  go_enter Tryz.func16, Tryz.ntmps16
  go_wp2_with fail
  refine (pnew_any 6 1 (by omega) (by omega) (by omega) _ _ _ rfl rfl).mono ?_
  rintro x w1 ⟨p, H, rfl, hO1, hb1, hH⟩
  have HO1 := Lib.hid hO1
  have HB1 := Lib.hid hb1
  have HH := Lib.hid hH
  clear hO1 hb1 hH
  go_wp2_with fail
  refine (fresh26_any _).mono ?_
  rintro x w2 ⟨v, F, rfl, hV2, hb2, hF⟩
  have HV2 := Lib.hid hV2
  have HB2 := Lib.hid (HB1.out.trans (hb2.mono HB1.out.size))
  have HF := Lib.hid hF
  have HO2 := Lib.hid (PoolIs.stays.below HO1.out hb2)
  clear hV2 hb2 hF
  have KJ := Lib.hid (jnew_ok v p 2 5 (by omega) (by omega) w2 2 5 rfl rfl)
  go_wp2_with fail
  refine KJ.out.mono ?_
  rintro x w3 ⟨j, J, rfl, hJ3, hb3, hJn⟩
  obtain ⟨X, hX⟩ : ∃ X : Foot, (fun i => F i ∨ H i) = X := ⟨_, rfl⟩
  have HX3 : Hid (VP v p (zeroDisk 98) (jS 0).2.2 0 98 (jS 0).1 w3 X) := Lib.hid (by
    rw [← hX]
    exact ⟨F, H, ViewIs.stays.below HV2.out hb3, PoolIs.stays.below HO2.out hb3, fun i hi hc => by have := HF.out i hi; have := PoolIs.there HO1.out i hc; omega, fun i => Iff.rfl⟩)
  have HXl : Hid (∀ i, X i → w.heap.size ≤ i ∧ i < w2.heap.size) := Lib.hid (fun i hi => by
    rw [← hX] at hi
    have h1 := HB1.out.size
    rcases hi with hi | hi
    · have := HF.out i hi; have := ViewIs.there HV2.out i hi; omega
    · have := HH.out i hi; have := PoolIs.there HO2.out i hi; omega)
  have HJ3 := Lib.hid hJ3
  have HJn := Lib.hid hJn
  have HB3 := Lib.hid (HB2.out.trans (hb3.mono HB2.out.size))
  have HS2 := Lib.hid HB2.out.size
  have HS23 := Lib.hid hb3.size
  clear hJ3 hJn hb3 hX KJ HV2 HB1 HF HO1 HO2 HH
  go_wp2_with fail
  refine (eight26_any _).mono ?_
  rintro x w4 ⟨lv, rfl, hrow, hb4⟩
  obtain ⟨ao, ac, rfl, hfr⟩ := FrsAt.of_row (fs := l46 8) hrow
  have hl8 : (l46 8).length = 8 := by simp [l46]
  have HFR := Lib.hid hfr
  have hA : ∀ a, ao = some a → w3.heap.size ≤ a.block := fun a e => by subst e; exact ownBlock_ge hrow _ rfl
  have HA := Lib.hid hA
  have HB4 := Lib.hid hb4
  have HJlt : Hid (∀ i, J i → i < w3.heap.size) := Lib.hid (fun i hi => JIs.there HJ3.out i hi)
  have HT0 : Hid (TwoAt w w4 v p j 0 X J w4 X J) := Lib.hid ⟨VP.stays.below HX3.out hb4, JIs.stays.below HJ3.out hb4, fun i hi hc => by have := (HXl.out i hi).2; have := HJn.out i hc; omega, Upd.refl _ _, Fresh.refl _ _⟩
  have HS3 : Hid (w2.heap.size ≤ w3.heap.size ∧ w3.heap.size ≤ w4.heap.size) := Lib.hid ⟨HS23.out, hb4.size⟩
  clear hrow hfr hA hb4
  rw [hl8]
  go_wp2_with fail
  go_loopw [21] (fun i wr => ∃ q : Nat, q ≤ 8 ∧ i = .int .i64 q ∧ ∃ X' J', TwoAt w w4 v p j q X J wr X' J') (fun i _ => 8 - (intOf i).toNat)
  case atStart => exact ⟨0, Nat.zero_le _, rfl, X, J, HT0.out⟩
  case round =>
    obtain ⟨q, hq, rfl, X', J', hT⟩ := hrel
    have HT := Lib.hid hT
    clear hT HT0
    by_cases hq8 : q < 8
    · obtain ⟨ad, had, hld⟩ := (HFR.out.keep HT.out.upd (fun a e _ hc => by
        have h1 := HA.out a e
        rcases hc with hc | hc
        · have := (HXl.out _ hc).2; have := HS3.out.1; omega
        · have := HJlt.out _ hc; omega)).load q (by rw [hl8]; exact hq8)
      rw [l46_at q hq8] at hld
      have hld2 : (loadVar 43 (ad.add (q * 2))).run Tryz.prog wr = .ok (frV 3 p46) wr := hld
      have h3 := jS_ok q hq
      have hw3 := jS_W q hq
      have hb1 := (Below.alloc (Below.refl wr.heap.size wr) (Nat.le_refl _) (.cells #[.int .i64 3, .string p46] 43))
      have KA := Lib.hid (jappend_any (VP.stays.below HT.out.vp hb1) (JIs.stays.below HT.out.jis hb1) HT.out.apart h3.pool h3.log (by omega) (by have := h3.next; omega) (by have := h3.segs; omega) 3 p46)
      have HERR : Hid ((appendM (jS q).1 (jS q).2.1 3 p46).er = 0) := Lib.hid (jS_er q hq8)
      rw [HERR.out] at KA
      have HB1 := Lib.hid hb1
      have hlb := load_fr (alloc_at wr (.cells #[.int .i64 3, .string p46] 43))
      have q1 : (q : Int) < 8 := by omega
      have HNX := Lib.hid (jS_succ q hq8)
      subst had
      clear h3 hw3 hb1 hld
      go_wp2_with fail
      refine KA.out.mono ?_
      rintro y w5 ⟨rfl, hP2⟩
      have HN : Hid (∃ X' J', TwoAt w w4 v p j (q + 1) X J w5 X' J') := Lib.hid (by
        obtain ⟨X2, K2, a1, a2, a3, a4, a5⟩ := hP2
        have hz := HB1.out.size
        have hzu := HT.out.upd.size
        refine ⟨X2, K2, by rw [HNX.out]; exact a1, by rw [HNX.out]; exact a2, a3, ?_, fun i hi => ?_⟩
        · refine (HT.out.upd.trans (Upd.of_below' HB1.out) (fun i _ h => h)).trans a4 (fun i hi hc => ?_)
          rcases HT.out.fresh i hc with h | h
          · exact h
          · omega
        · rcases a5 i hi with h | h
          · exact HT.out.fresh i h
          · exact .inr (by omega))
      clear hP2 KA hlb hld2
      go_wp2
      go_roundw
      case rel => exact ⟨q + 1, hq8, by simp, HN.out⟩
      case measure => simp [intOf]; omega
    · obtain rfl : q = 8 := by omega
      obtain ⟨w5, rfl⟩ : ∃ w5, w5 = wr := ⟨_, rfl⟩
      have HGE : Hid (∀ i, Both X' J' i → w.heap.size ≤ i) := Lib.hid (fun i hi => by
        have h1 := HS3.out
        have h2 := HS2.out
        rcases HT.out.fresh i hi with h | h
        · rcases h with h | h
          · exact (HXl.out i h).1
          · have := HJn.out i h; omega
        · omega)
      have HB5 : Hid (Below w.heap.size w w5) := Lib.hid ((HB3.out.trans (HB4.out.mono HB3.out.size)).trans (HT.out.upd.below (by have := HB3.out.size; have := HB4.out.size; omega) (fun i hi hc => by
        rcases hc with h | h
        · have := (HXl.out i h).1; omega
        · have := HJn.out i h; have := HS2.out; omega)))
      go_wp2_with fail
      refine (eight26_any _).mono ?_
      rintro x w6 ⟨lv, rfl, hrow, hb6⟩
      obtain ⟨bo, bc, rfl, hfr2⟩ := FrsAt.of_row (fs := l46 8) hrow
      have hA2 : ∀ a, bo = some a → ¬ X' a.block := fun a e hc => by
        subst e
        have := ownBlock_ge hrow _ rfl
        have := VP.there HT.out.vp _ hc
        simp at *
        omega
      have h8 := jS_ok 8 (Nat.le_refl _)
      have hw8 := jS_W 8 (Nat.le_refl _)
      have KA := Lib.hid (janew_ok (VP.stays.below HT.out.vp hb6) (JIs.stays.below HT.out.jis hb6) HT.out.apart h8.pool h8.log hfr2 bc (by rw [hl8]; omega) hA2 (by omega) (by rw [jS_gen]; omega) (fun i hi => by
        rw [hl8] at hi
        rw [l46_at i hi]
        exact jR_er i hi))
      rw [hl8] at KA
      have HB6 := Lib.hid (HB5.out.trans (hb6.mono HB5.out.size))
      have HZ6 := Lib.hid hb6.size
      clear hrow hb6 hfr2 hA2 h8 hw8
      rw [hl8]
      go_wp2_with fail
      refine KA.out.mono ?_
      rintro x w7 ⟨kj, X2, K2, rfl, hAn⟩
      have HAN := Lib.hid hAn
      have HB7 : Hid (Below w.heap.size w w7) := Lib.hid (HB6.out.trans (hAn.upd.below HB6.out.size (fun i hi hc => by have := HGE.out i (.inl hc); omega)))
      clear hAn KA
      have HK7 : Hid (JIs kj v p jR.2.1 w7 K2) := Lib.hid HAN.out.new
      have HV7 : Hid (VP v p (zeroDisk 98) jR.2.2 0 98 jR.1 w7 X2) := Lib.hid HAN.out.vp
      have HJ7 := Lib.hid HAN.out.old
      clear HT HAN
      go_wp2_with fail
      refine (eight26_any _).mono ?_
      rintro x w8 ⟨lv, rfl, hrow, hb⟩
      obtain ⟨co, cc, rfl, hfr3⟩ := FrsAt.of_row (fs := l46 8) hrow
      have KN := Lib.hid (jneed_any hfr3 cc (by rw [hl8]; omega) l46_size)
      rw [j_need, hl8] at KN
      have HE8 := Lib.hid hb
      clear hrow hfr3 hb
      rw [hl8]
      go_wp2_with fail
      refine KN.out.mono ?_
      rintro x w9 ⟨rfl, hb⟩
      have HE9 := Lib.hid (HE8.out.trans (hb.mono HE8.out.size))
      have KS := Lib.hid (jsegs_any (JIs.stays.below HJ7.out HE9.out) (by rw [jS_segs]; omega))
      rw [jS_segs] at KS
      clear hb KN
      go_wp2_with fail
      refine KS.out.mono ?_
      rintro x w10 ⟨rfl, hb⟩
      have HE10 := Lib.hid (HE9.out.trans (hb.mono HE9.out.size))
      have KG := Lib.hid (jgrown_any (JIs.stays.below HJ7.out HE10.out) (by rw [jS_segs]; omega))
      rw [jS_segs] at KG
      clear hb KS
      go_wp2_with fail
      refine KG.out.mono ?_
      rintro x w11 ⟨rfl, hb⟩
      have HE11 := Lib.hid (HE10.out.trans (hb.mono HE10.out.size))
      have KS := Lib.hid (jsegs_any (JIs.stays.below HK7.out HE11.out) (by rw [jR_segs]; omega))
      rw [jR_segs] at KS
      clear hb KG
      go_wp2_with fail
      refine KS.out.mono ?_
      rintro x w12 ⟨rfl, hb⟩
      have HE12 := Lib.hid (HE11.out.trans (hb.mono HE11.out.size))
      have hK12 := JIs.stays.below HK7.out HE12.out
      have KG := Lib.hid (jgen_any hK12)
      rw [jR_gen] at KG
      have KF := Lib.hid (jframes_any hK12 jR_chain (by rw [jR_segs]; omega) jR_fs (by rw [jR_all]; omega) (by rw [jR_next]; omega))
      rw [jR_all] at KF
      clear hb KS hK12
      go_wp2_with fail
      refine KG.out.mono ?_
      rintro x w13 ⟨rfl, rfl⟩
      go_wp2_with fail
      refine KF.out.mono ?_
      rintro x w14 ⟨fv, rfl, hrow, hb⟩
      obtain ⟨fo, fc, rfl⟩ := row_slice3 hrow
      have HE14 := Lib.hid (HE12.out.trans (hb.mono HE12.out.size))
      obtain ⟨_, Hp, _, hPp, _, _⟩ := VP.stays.below HV7.out HE14.out
      have KP := Lib.hid (pFree_any hPp (by rw [jR_O]; omega) (by rw [jR_O]; omega))
      rw [jR_free] at KP
      clear hb hrow hPp KG KF
      go_wp2_with fail
      refine KP.out.mono ?_
      rintro x w15 ⟨rfl, hb⟩
      go_wp2
      go_ret
      exact ⟨rfl, HB7.out.trans ((HE14.out.trans (hb.mono HE14.out.size)).mono HB7.out.size)⟩
end Go.Proofs.YtoobiffhjjfpgaaGreat.Print
