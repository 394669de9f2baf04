/- weighlocklaw14.start: two logs of one pool; loaded: their segments. -/
import Derived.Test.YtoobiffhjjfpgaaGreatEight
import Derived.Test.YtoobiffhjjfpgaaGreatDiskL
namespace Go.Proofs.YtoobiffhjjfpgaaGreat.Print
open Go.RowKit
attribute [local go_sem] run_loadVar_scalar

def wldA (v p g0 g1 : Value) : Array Value := #[v, p, g0, g1]
theorem zero_wld (W : World) : (zeroValue 30).run Tryz.prog W = .ok (.agg #[.pointer none, .pointer none, .pointer none, .pointer none]) W := by kernel_rfl
theorem build_wld (v : Nat) (W : World) : (Instr.build 30 #[(0, ptrV v)]).run Tryz.prog W = .ok (.agg #[ptrV v, .pointer none, .pointer none, .pointer none]) W := by kernel_rfl
/-- Two logs of one pool, on a view: each apart from all others. -/
structure WldAt (v p g0 g1 : Nat) (lies : List (List UInt8)) (W : List (Nat × List UInt8)) (f N : Nat) (P : PoolM) (L0 L1 : LogM) (w : World) (X G0 G1 : Foot) : Prop where
  vp : VP v p lies W f N P w X
  a : LogIs g0 v p L0 w G0
  b : LogIs g1 v p L1 w G1
  xa : Apart X G0
  xb : Apart X G1
  ab : Apart G0 G1
set_option maxRecDepth 100000 in
set_option maxHeartbeats 800000 in
attribute [-go_sem] Instr.build Instr.fill Instr.buildSlice in
theorem start14_any (w : World) : Calls Tryz.prog 11 #[] w fun x w' => ∃ (v p g0 g1 : Nat) (X G0 G1 : Foot), x = .returned (.agg #[ptrV v, ptrV p, ptrV g0, ptrV g1]) ∧ WldAt v p g0 g1 (zeroDisk 98) [] 0 98 (newPool 6 1) (newLog 1 7 0) (newLog 2 7 50) w' X G0 G1 ∧ Below w.heap.size w w' ∧ (∀ i, Both X (Both G0 G1) i → w.heap.size ≤ i) := by
  have hzw := zero_wld
  have hbw := build_wld
  go_enter Tryz.func11, Tryz.ntmps11
  go_wp2_with fail
  refine (fresh14_any _).mono ?_
  rintro x w1 ⟨v, F, rfl, hV1, hb1, hF1⟩
  have HV1 := Lib.hid hV1
  have HB1 := Lib.hid hb1
  have HF1 := Lib.hid hF1
  clear hV1 hb1 hF1
  go_wp2_with fail
  have hb0 := later_of (alloc_at w (.cells #[.pointer none, .pointer none, .pointer none, .pointer none] 30)) HB1.out
  have H0 := Lib.hid (alloc_old hb0 (.cells #[ptrV v, .pointer none, .pointer none, .pointer none] 30))
  have H1 := Lib.hid (alloc_at w1 (.cells #[ptrV v, .pointer none, .pointer none, .pointer none] 30))
  have HBw : Hid (Below w.heap.size w (w1.alloc (.cells #[ptrV v, .pointer none, .pointer none, .pointer none] 30))) := Lib.hid (by
    have h1 := (Below.refl w.heap.size w).alloc (Nat.le_refl _) (.cells #[.pointer none, .pointer none, .pointer none, .pointer none] 30)
    have h2 := h1.trans (HB1.out.mono h1.size)
    exact h2.alloc h2.size _)
  have HV2 := Lib.hid (ViewIs.stays.below HV1.out ((Below.refl _ _).alloc (Nat.le_refl _) (.cells #[ptrV v, .pointer none, .pointer none, .pointer none] 30)))
  have HZ1 : Hid (w.heap.size + 1 ≤ w1.heap.size) := Lib.hid (by have := HB1.out.size; simpa using this)
  obtain ⟨w2, hw2⟩ : ∃ w2, w1.alloc (.cells #[ptrV v, .pointer none, .pointer none, .pointer none] 30) = w2 := ⟨_, rfl⟩
  have HZ2 : Hid (w2.heap.size = w1.heap.size + 1) := Lib.hid (by rw [← hw2]; simp)
  rw [hw2] at H0 H1 HBw HV2 ⊢
  obtain ⟨b1, hb1⟩ : ∃ b1, w1.heap.size = b1 := ⟨_, rfl⟩
  rw [hb1] at H1 HZ1 HZ2 ⊢
  have HFlt : Hid (∀ i, F i → w.heap.size + 1 ≤ i ∧ i < b1) := Lib.hid (fun i hi => by have h1 := HF1.out i hi; have h2 := ViewIs.there HV1.out i hi; simp at h1; omega)
  clear hb0 hw2 hb1 HV1 HB1 HF1
  refine (pnew_any 6 1 (by omega) (by omega) (by omega) _ _ _ rfl rfl).mono ?_
  rintro x w3 ⟨p, H, rfl, hO3, hb3, hH3⟩
  have HO3 := Lib.hid hO3
  have HB3 := Lib.hid hb3
  have HH3 := Lib.hid hH3
  have d0 : w3.cell? ⟨b1, 0, none⟩ = some (ptrV v) := by rw [cell_of (later_of H1.out hb3)]; rfl
  clear hO3 hb3 hH3
  have KL := Lib.hid (lognew_ok v p 1 7 0 (by omega) (by omega) (Nat.zero_le _) w3 1 7 ((0 : Nat) : Int) rfl rfl rfl)
  rw [Int.natCast_zero] at KL
  go_wp2_with fail
  refine KL.out.mono ?_
  rintro x w4 ⟨rfl, hL4, hb4, hz4⟩
  have HL4 := Lib.hid hL4
  have HB4 := Lib.hid hb4
  have d0' : w4.cell? ⟨b1, 0, none⟩ = some (ptrV v) := by rw [cell_of (later_of (later_of H1.out HB3.out) hb4)]; rfl
  obtain ⟨g0, hg0⟩ : ∃ g, w3.heap.size = g := ⟨_, rfl⟩
  rw [hg0] at HL4 hz4 ⊢
  have HG0 := Lib.hid hg0
  have HZ4 := Lib.hid hz4
  have KL2 := Lib.hid (lognew_ok v p 2 7 50 (by omega) (by omega) (by omega) w4 2 7 50 rfl rfl rfl)
  clear hL4 hb4 hz4 hg0 KL d0
  go_wp2_with fail
  refine KL2.out.mono ?_
  rintro x w5 ⟨rfl, hL5, hb5, hz5⟩
  have HL5 := Lib.hid hL5
  have HB5 := Lib.hid hb5
  have h51 := later_of (later_of (later_of H1.out HB3.out) HB4.out) hb5
  have h50 := later_of (later_of (later_of H0.out HB3.out) HB4.out) hb5
  obtain ⟨g1, hg1⟩ : ∃ g, w4.heap.size = g := ⟨_, rfl⟩
  rw [hg1] at HL5 hz5 ⊢
  have HG1 := Lib.hid hg1
  have HZ5 := Lib.hid hz5
  have h6 : ((((w5.setCell ⟨b1, 1, none⟩ (ptrV p)).setCell ⟨b1, 2, none⟩ (ptrV g0)).setCell ⟨b1, 3, none⟩ (ptrV g1))).heap[b1]? = some (.cells #[ptrV v, ptrV p, ptrV g0, ptrV g1] 30) := by
    have e1 := cells_set w5 b1 1 _ _ _ h51 (ptrV p)
    have e2 := cells_set _ b1 2 _ _ _ e1 (ptrV g0)
    rw [cells_set _ b1 3 _ _ _ e2 (ptrV g1)]
    rfl
  have hne : b1 ≠ w.heap.size := by have := HZ1.out; omega
  have h60 : ((((w5.setCell ⟨b1, 1, none⟩ (ptrV p)).setCell ⟨b1, 2, none⟩ (ptrV g0)).setCell ⟨b1, 3, none⟩ (ptrV g1))).heap[w.heap.size]? = some (.cells #[.pointer none, .pointer none, .pointer none, .pointer none] 30) := by
    rw [Below.heap_setCell _ _ _ _ hne.symm, Below.heap_setCell _ _ _ _ hne.symm, Below.heap_setCell _ _ _ _ hne.symm]
    exact h50
  have hld := run_loadVar_row _ b1 30 30 #[ptrV v, ptrV p, ptrV g0, ptrV g1] (0, 0) _ h6 Tryz.underlying30 rfl (by kernel_rfl)
  have HU6 := Lib.hid (((((Upd.refl (fun i => i = b1) w5).setCell (p := ⟨b1, 1, none⟩) (fun _ => rfl) (ptrV p)).setCell (p := ⟨b1, 2, none⟩) (fun _ => rfl) (ptrV g0)).setCell (p := ⟨b1, 3, none⟩) (fun _ => rfl) (ptrV g1)))
  obtain ⟨d0, d1, d2, d3, df⟩ := four_of h51
  obtain ⟨w6, hw6⟩ : ∃ w6, (((w5.setCell ⟨b1, 1, none⟩ (ptrV p)).setCell ⟨b1, 2, none⟩ (ptrV g0)).setCell ⟨b1, 3, none⟩ (ptrV g1)) = w6 := ⟨_, rfl⟩
  rw [hw6] at h6 h60 hld HU6
  obtain ⟨q0, q1, q2, q3, qf⟩ := four_of h60
  obtain ⟨r0, r1, r2, r3, rf⟩ := four_of h6
  have H6 := Lib.hid h60
  clear hL5 hb5 hz5 hg1 KL2 d0' h50 h51 hld h6 h60
  go_wp2
  have h7 : ((((w6.setCell ⟨w.heap.size, 0, none⟩ (ptrV v)).setCell ⟨w.heap.size, 1, none⟩ (ptrV p)).setCell ⟨w.heap.size, 2, none⟩ (ptrV g0)).setCell ⟨w.heap.size, 3, none⟩ (ptrV g1)).heap[w.heap.size]? = some (.cells #[ptrV v, ptrV p, ptrV g0, ptrV g1] 30) := by
    have e0 := cells_set w6 w.heap.size 0 _ _ _ H6.out (ptrV v)
    have e1 := cells_set _ w.heap.size 1 _ _ _ e0 (ptrV p)
    have e2 := cells_set _ w.heap.size 2 _ _ _ e1 (ptrV g0)
    rw [cells_set _ w.heap.size 3 _ _ _ e2 (ptrV g1)]
    rfl
  have HU7 := Lib.hid ((((((Upd.refl (fun i => i = w.heap.size) w6).setCell (p := ⟨w.heap.size, 0, none⟩) (fun _ => rfl) (ptrV v)).setCell (p := ⟨w.heap.size, 1, none⟩) (fun _ => rfl) (ptrV p)).setCell (p := ⟨w.heap.size, 2, none⟩) (fun _ => rfl) (ptrV g0)).setCell (p := ⟨w.heap.size, 3, none⟩) (fun _ => rfl) (ptrV g1)))
  obtain ⟨w7, hw7⟩ : ∃ w7, ((((w6.setCell ⟨w.heap.size, 0, none⟩ (ptrV v)).setCell ⟨w.heap.size, 1, none⟩ (ptrV p)).setCell ⟨w.heap.size, 2, none⟩ (ptrV g0)).setCell ⟨w.heap.size, 3, none⟩ (ptrV g1)) = w7 := ⟨_, rfl⟩
  rw [hw7] at h7 HU7
  obtain ⟨s0, s1, s2, s3, _⟩ := four_of h7
  rw [show ((((w6.setCell { block := w.heap.size, off := 0 } (Value.pointer (some { block := v, off := 0 }))).setCell { block := w.heap.size, off := 1 } (Value.pointer (some { block := p, off := 0 }))).setCell { block := w.heap.size, off := 2 } (Value.pointer (some { block := g0, off := 0 }))).setCell { block := w.heap.size, off := 3 } (Value.pointer (some { block := g1, off := 0 }))) = w7 from hw7]
  clear q0 q1 q2 q3 qf r0 r1 r2 r3 rf d0 d1 d2 d3 df h7 hw7 hw6
  refine bodyPost_ret (v := .agg #[ptrV v, ptrV p, ptrV g0, ptrV g1]) (by simp [results, Tryz.results11, go_sem, asAddr, s0, s1, s2, s3]) rfl ⟨v, p, g0, g1, fun i => F i ∨ H i, fun i => i = g0, fun i => i = g1, rfl, ?_, ?_, ?_⟩
  · have f1 := HFlt.out
    have f2 := HZ2.out
    have f3 := HB3.out.size
    have f4 := HG0.out
    have f5 := HG1.out
    have f6 := HB4.out.size
    have f7 := HZ4.out
    have f8 := HZ1.out
    have hH : ∀ i, H i → b1 < i ∧ i < g0 := fun i hi => by have h1 := HH3.out i hi; have h2 := PoolIs.there HO3.out i hi; omega
    have hu : ∀ i, i ≠ b1 → i ≠ w.heap.size → (¬ i = b1) ∧ ¬ i = w.heap.size := fun i h1 h2 => ⟨h1, h2⟩
    refine ⟨⟨F, H, ?_, ?_, fun i hi hc => by have := f1 i hi; have := hH i hc; omega, fun i => Iff.rfl⟩, ?_, ?_, fun i hi hc => ?_, fun i hi hc => ?_, fun i hi hc => ?_⟩
    · exact ViewIs.stays (ViewIs.stays (ViewIs.stays.below (ViewIs.stays.below (ViewIs.stays.below HV2.out HB3.out) HB4.out) HB5.out) HU6.out (fun i hi hc => by have := f1 i hi; have e : i = b1 := hc; omega)) HU7.out (fun i hi hc => by have := f1 i hi; have e : i = w.heap.size := hc; omega)
    · exact PoolIs.stays (PoolIs.stays (PoolIs.stays.below (PoolIs.stays.below HO3.out HB4.out) HB5.out) HU6.out (fun i hi hc => by have := hH i hi; have e : i = b1 := hc; omega)) HU7.out (fun i hi hc => by have := hH i hi; have e : i = w.heap.size := hc; omega)
    · exact LogIs.stays (LogIs.stays (LogIs.stays.below HL4.out HB5.out) HU6.out (fun i hi hc => by have e1 : i = g0 := hi; have e : i = b1 := hc; omega)) HU7.out (fun i hi hc => by have e1 : i = g0 := hi; have e : i = w.heap.size := hc; omega)
    · exact LogIs.stays (LogIs.stays HL5.out HU6.out (fun i hi hc => by have e1 : i = g1 := hi; have e : i = b1 := hc; omega)) HU7.out (fun i hi hc => by have e1 : i = g1 := hi; have e : i = w.heap.size := hc; omega)
    · have e1 : i = g0 := hc
      rcases hi with hi | hi
      · have := f1 i hi; omega
      · have := hH i hi; omega
    · have e1 : i = g1 := hc
      rcases hi with hi | hi
      · have := f1 i hi; omega
      · have := hH i hi; omega
    · have e1 : i = g0 := hi
      have e2 : i = g1 := hc
      omega
  · have h1 := HBw.out
    have h2 := h1.trans (HB3.out.mono h1.size)
    have h3 := h2.trans (HB4.out.mono h2.size)
    have h4 := h3.trans (HB5.out.mono h3.size)
    have h5 := h4.trans (HU6.out.below h4.size (fun i hi hc => by have := HZ1.out; have e : i = b1 := hc; omega))
    exact h5.trans (HU7.out.below h5.size (fun i hi hc => by have e : i = w.heap.size := hc; omega))
  · intro i hi
    have f1 := HFlt.out
    have f2 := HZ2.out
    have f3 := HB3.out.size
    have f4 := HG0.out
    have f5 := HG1.out
    have f6 := HB4.out.size
    have f8 := HZ1.out
    rcases hi with (hi | hi) | hi | hi
    · have := f1 i hi; omega
    · have := HH3.out i hi; omega
    · have e1 : i = g0 := hi; omega
    · have e1 : i = g1 := hi; omega
/-- A segment as it was loaded. -/
def SegM.seal (s : SegM) : SegM := ⟨s.n, s.st, s.base, s.e, s.fs, true⟩
set_option maxRecDepth 100000 in
set_option maxHeartbeats 1600000 in
attribute [-go_sem] Instr.build Instr.fill Instr.buildSlice loadVar in
theorem loaded_any {w : World} {v : Nat} {lies : List (List UInt8)} {W : List (Nat × List UInt8)} {f N : Nat} {F : Foot} (V : ViewIs v lies W f N (-1) false w F) (hN : N ≤ 8192) (hW : W.length ≤ 1000000000) {ao : Option Addr} {l : List SegM} (hA : IntsAt w ao (l.map (·.n))) (cap id gen : Nat) (hl : l.length ≤ 1000)
    (hk : ∀ s ∈ l, 2 + 16 * s.n + 16 ≤ N) (hf : ∀ s ∈ l, HFits (s.hdr id gen)) (hp : ∀ s ∈ l, PutInv (secO lies W f s.n) (s.hdr id gen) s.fs s.e) :
    Calls Tryz.prog 41 #[.pointer (some ⟨v, 0, none⟩), .slice ao l.length cap] w fun x w' => ∃ (rv : Value) (ps : List Nat) (G : Foot), x = .returned rv ∧ w'.ownsRow w.heap.size 83 1 rv l.length (ps.map ptrV) ∧ SegsAre v id gen (l.map SegM.seal) ps w' G ∧ (∀ i, G i → w.heap.size ≤ i) ∧ (∀ i, rv.ownBlock = some i → ¬ G i) ∧ Below w.heap.size w w' := by
  obtain ⟨i0, hi0, hz0, hz1, hz2⟩ := info_parts info_ptr
  have HV := Lib.hid V
  have HA := Lib.hid hA
  have HK := Lib.hid hk
  have HF := Lib.hid hf
  have HP := Lib.hid hp
  clear V hA hk hf hp
  go_enter Tryz.func41, Tryz.ntmps41
  go_wp2_with fail
  go_loopw [5, 12] (fun rv i wr => ∃ (k : Nat) (ps : List Nat) (G : Foot), k ≤ l.length ∧ i = .int .i64 k ∧ wr.ownsRow w.heap.size 83 1 rv k (ps.map ptrV) ∧ SegsAre v id gen ((l.take k).map SegM.seal) ps wr G ∧ (∀ i, G i → w.heap.size ≤ i) ∧ (∀ i, rv.ownBlock = some i → ¬ G i) ∧ Below w.heap.size w wr) (fun _ i _ => l.length - (intOf i).toNat)
  case atStart => exact ⟨0, [], fun _ => False, Nat.zero_le _, rfl, World.ownsRow_nil _ _ _ _, SegsAre.nil _ _ _ _, fun _ h => h.elim, fun _ _ h => h, Below.refl _ _⟩
  case round =>
    obtain ⟨k, ps, G, hkl, rfl, hown, hS, hG, hne, hB⟩ := hrel
    have HO := Lib.hid hown
    have HS := Lib.hid hS
    have HG := Lib.hid hG
    have HNE := Lib.hid hne
    have HB := Lib.hid hB
    obtain ⟨so, sc, hv⟩ := row_slice3 hown
    subst hv
    clear hown hS hG hne hB
    by_cases hlt : k < l.length
    · obtain ⟨s, hs⟩ : ∃ s, l[k] = s := ⟨_, rfl⟩
      have hsm : s ∈ l := by rw [← hs]; exact List.getElem_mem hlt
      obtain ⟨ad, had, hc⟩ := (HA.out.below HB.out) k (by rw [List.length_map]; exact hlt)
      rw [List.getElem_map, hs] at hc
      have hf := HF.out s hsm
      obtain ⟨hh1, hh2⟩ := putInv_load (O := secO lies W f s.n) (secO_52 _ _ _ _) hf (HP.out s hsm)
      have KL := Lib.hid (load_any (ViewIs.stays.below HV.out HB.out) s.n hN (HK.out s hsm) hW s.n rfl (secO lies W f s.n) (fun _ => rfl))
      have HTK : Hid ((l.take (k + 1)).map SegM.seal = (l.take k).map SegM.seal ++ [s.seal]) := Lib.hid (by rw [List.take_succ_eq_append_getElem hlt, hs, List.map_append, List.map_singleton])
      have HH := Lib.hid (And.intro hh1 hh2)
      have k1 : (k : Int) < (l.length : Int) := by omega
      subst had
      clear hs hsm hf hh1 hh2
      go_wp2_with fail
      refine KL.out.mono ?_
      rintro x w2 (⟨hnone, rfl, hb2⟩ | ⟨h, sp, G1, hsome, rfl, hS1, hb2, hG1⟩)
      · rw [HH.out.1] at hnone; cases hnone
      · rw [HH.out.1] at hsome
        obtain rfl := Option.some.inj hsome
        rw [show (loopP (secO lies W f s.n) (s.hdr id gen).2.2.1 16 [] 1) = (s.fs, s.e) from HH.out.2] at hS1
        have HO2 := Lib.hid (ownsRow_below HO.out hb2)
        have HS2 := Lib.hid (SegsAre.stays.below HS.out hb2)
        have HS1 := Lib.hid hS1
        have HG1 := Lib.hid hG1
        have HB2 := Lib.hid (HB.out.trans (hb2.mono HB.out.size))
        have HSB2 := Lib.hid hb2.size
        have hbs := build_ptr sp
        have hsz2 := HB2.out.size
        have hszr := HB.out.size
        clear hsome hS1 hb2 hG1 KL hc
        go_wp2_with (at_builtin; refine wpList_append_lies _ rfl (.tmp 22) (.tmp 24) 73 rfl w.heap.size 83 i0 _ 1 8 Tryz.underlying73 hi0 hz0 hz1 hz2 rfl (by omega) (.slice so k sc) _ _ rfl (HO2.out.alloc _) ⟨w2.heap.size, 0, none⟩ 1 1 [ptrV sp] rfl rfl (World.news_of_block (cs := #[ptrV sp]) (t := 83) (fr := (0, 0)) (heap_alloc_new w2 _)) (by simp [Value.oneCell']) (by omega) (by unfold maxLen; omega) (by omega) (by simp; omega) _ rfl ?_; intro gg cap9 w9 hown9 hgrow hat hlt9; have HOWN := Lib.hid hown9; have HGROW := Lib.hid hgrow; have HAT := Lib.hid hat; clear hown9 hgrow hat)
        have hU9 : Upd (fun i => (Value.slice so k sc).ownBlock = some i) w2 w9 := ⟨HGROW.out.os, HGROW.out.tape, HGROW.out.output, Nat.le_trans (by simp) HGROW.out.size, fun i hi hn => (HGROW.out.block i (by simp; omega) (fun e => hn e.symm)).trans (Below.heap_alloc _ _ _ hi)⟩
        have hlr : ∀ i, (Value.slice so k sc).ownBlock = some i → i < wr.heap.size ∧ w.heap.size ≤ i := fun i hi => ⟨(HO.out.lt i hi).2, (HO.out.lt i hi).1⟩
        have HB9 := Lib.hid (HB2.out.trans (hU9.below hsz2 (fun i hi hc => by have := (hlr i hc).2; omega)))
        have hS9 := SegsAre.stays HS2.out hU9 (fun i hi hc => HNE.out i hc hi)
        have hT9 := SegIs.stays HS1.out hU9 (fun i hi hc => by have := HG1.out i hi; have := (hlr i hc).1; omega)
        have hGlt : ∀ i, G i → i < wr.heap.size := fun i hi => SegsAre.there HS.out i hi
        have HN9 := Lib.hid (SegsAre.snoc (S := s.seal) hT9 hS9 (fun i hi hc => by have := hGlt i hi; have := HG1.out i hc; omega))
        have HNE9 : Hid (∀ i, (Value.slice (some ⟨gg, 0, none⟩) (k + 1) cap9).ownBlock = some i → ¬ Both G G1 i) := Lib.hid (fun i hi hc => by
          have hgk : gg = i := by simpa [Value.ownBlock] using hi
          subst hgk
          rcases HAT.out with h | h
          · rcases hc with hc | hc
            · exact HNE.out gg h hc
            · have := HG1.out gg hc; have := (hlr gg h).1; omega
          · have h' : gg = w2.heap.size + 1 := by rw [h]; simp
            have hs2 := HSB2.out
            rcases hc with hc | hc
            · have := hGlt gg hc; omega
            · have := SegIs.there HS1.out gg hc; omega)
        have HOF : Hid (w9.ownsRow w.heap.size 83 1 (.slice (some ⟨gg, 0, none⟩) (k + 1) cap9) (k + 1) ((ps ++ [sp]).map ptrV)) := Lib.hid (by rw [List.map_append]; exact HOWN.out)
        have HGF : Hid (∀ i, Both G G1 i → w.heap.size ≤ i) := Lib.hid (fun i hi => hi.elim (HG.out i) (fun h => by have := HG1.out i h; omega))
        have HSF : Hid (SegsAre v id gen ((l.take (k + 1)).map SegM.seal) (ps ++ [sp]) w9 (Both G G1)) := Lib.hid (by rw [HTK.out]; exact HN9.out)
        clear hU9 hS9 hT9 hlr hGlt
        go_wp2
        go_roundw
        case rel => exact ⟨k + 1, ps ++ [sp], Both G G1, hlt, by simp, HOF.out, HSF.out, HGF.out, HNE9.out, HB9.out⟩
        case measure => simp [intOf]; omega
    · obtain rfl : k = l.length := by omega
      have hS := HS.out
      rw [List.take_length] at hS
      have HS' := Lib.hid hS
      clear hS
      go_wp2
      go_ret
      exact ⟨_, ps, G, rfl, HO.out, HS'.out, HG.out, HNE.out, HB.out⟩
end Go.Proofs.YtoobiffhjjfpgaaGreat.Print
