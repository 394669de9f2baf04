/- journal: Need; the law's eight frames; Anew of frames that all go in. -/
import Derived.Test.YtoobiffhjjfpgaaGreatJour
import Derived.Test.YtoobiffhjjfpgaaGreatRun
import Derived.Test.YtoobiffhjjfpgaaGreatEight
namespace Go.Proofs.YtoobiffhjjfpgaaGreat.Print
open Go.RowKit
attribute [local go_sem] run_loadVar_scalar

set_option maxRecDepth 100000 in
set_option maxHeartbeats 800000 in
attribute [-go_sem] Instr.build Instr.fill Instr.buildSlice loadVar in
theorem jneed_any {w : World} {ao : Option Addr} {l : List Fr} (h : FrsAt w ao l) (cap : Nat) (hl : l.length ≤ 1000) (hs : ∀ x ∈ l, x.2.size ≤ 1000000) :
    Calls Tryz.prog 32 #[.slice ao l.length cap] w fun x w' => x = .returned (.int .i64 (needS l).1) ∧ Below w.heap.size w w' := by
  have HF := Lib.hid h
  have HS := Lib.hid hs
  clear h hs
  go_enter Tryz.func32, Tryz.ntmps32
  go_wp2_with fail
  go_loopw [3, 4, 10] (fun sg en i wr => ∃ k : Nat, k ≤ l.length ∧ i = .int .i64 k ∧ sg = .int .i64 (needS (l.take k)).1 ∧ en = .int .i64 (needS (l.take k)).2 ∧ Below w.heap.size w wr) (fun _ _ i _ => l.length - (intOf i).toNat)
  case atStart => exact ⟨0, Nat.zero_le _, rfl, by simp [needS], by simp [needS], Below.refl _ _⟩
  case round =>
    obtain ⟨k, hk, rfl, rfl, rfl, hB⟩ := hrel
    have HB := Lib.hid hB
    clear hB
    by_cases hkl : k < l.length
    · obtain ⟨ad, had, hld⟩ := (HF.out.below HB.out).load k hkl
      obtain ⟨x, hx⟩ : ∃ x, l[k] = x := ⟨_, rfl⟩
      have hxs : x.2.size ≤ 1000000 := HS.out x (by rw [← hx]; exact List.getElem_mem hkl)
      obtain ⟨b1, b2⟩ := needS_le HS.out k hk
      have hst := needS_take hkl
      rw [hx] at hld hst
      obtain ⟨sg, hsg⟩ : ∃ s, (needS (l.take k)).1 = s := ⟨_, rfl⟩
      obtain ⟨en, hen⟩ : ∃ e, (needS (l.take k)).2 = e := ⟨_, rfl⟩
      obtain ⟨n, hn⟩ : ∃ n, many (7 + x.2.size) = n := ⟨_, rfl⟩
      have hn2 : n = (7 + x.2.size - 1) / 52 + 1 := by rw [← hn]; unfold many; rw [if_neg (by omega)]
      have hnb := many_20k (7 + x.2.size) (by omega)
      unfold needStep at hst
      rw [hn] at hst hnb
      rw [hsg] at b1
      rw [hen] at b2
      rw [hsg, hen] at hst
      rw [hsg, hen]
      obtain ⟨kk, pp⟩ := x
      simp only at hxs hn2 hld hst
      have hlb := load_fr (alloc_at wr (.cells #[.int .i64 kk, .string pp] 43))
      have HBb := Lib.hid (HB.out.alloc HB.out.size (.cells #[.int .i64 kk, .string pp] 43))
      have KS := Lib.hid (fsize_any kk pp (by omega) (wr.alloc (.cells #[.int .i64 kk, .string pp] 43)))
      have KM := Lib.hid (fun W => many_pos (7 + pp.size) (7 + (pp.size : Int)) (by omega) (by omega) (by omega) W)
      rw [← hn2] at KM
      have HST := Lib.hid hst
      subst had
      have k1 : (k : Int) < (l.length : Int) := by omega
      clear hst hn hn2 hsg hen hx hxs
      go_wp2_with fail
      refine KS.out.mono ?_
      rintro y w1 ⟨rfl, hb1⟩
      have HB1 := Lib.hid (HBb.out.trans (hb1.mono HBb.out.size))
      clear hb1 KS
      go_wp2_with fail
      refine (KM.out _).mono ?_
      rintro y w2 ⟨rfl, rfl⟩
      clear KM hlb hld
      by_cases hf : 16 < en + n
      · have hf2 : (16 : Int) < (en : Int) + (n : Int) := by omega
        have HS2 := Lib.hid HST.out
        rw [if_pos hf] at HS2
        go_wp2
        go_roundw
        case rel => exact ⟨k + 1, hkl, by simp, by rw [HS2.out]; simp, by rw [HS2.out]; simp, HB1.out⟩
        case measure => simp [intOf]; omega
      · have hf2 : ¬ (16 : Int) < (en : Int) + (n : Int) := by omega
        have HS2 := Lib.hid HST.out
        rw [if_neg hf] at HS2
        go_wp2
        go_roundw
        case rel => exact ⟨k + 1, hkl, by simp, by rw [HS2.out], by rw [HS2.out]; simp, HB1.out⟩
        case measure => simp [intOf]; omega
    · obtain rfl : k = l.length := by omega
      rw [List.take_length]
      go_wp2
      go_ret
      exact ⟨rfl, HB.out⟩
theorem build_frs1 (k : Int) (p : ByteArray) (W : World) : (Instr.buildSlice 49 1 #[(0, frV k p)]).run Tryz.prog W = .ok (.slice (some ⟨W.heap.size, 0, none⟩) 1 1) (W.alloc (.cells #[.int .i64 k, .string p] 43)) := by kernel_rfl
def l46 (k : Nat) : List Fr := List.replicate k y46
theorem l46_succ (k : Nat) : l46 (k + 1) = l46 k ++ [y46] := List.replicate_succ'
set_option maxRecDepth 100000 in
set_option maxHeartbeats 800000 in
attribute [-go_sem] Instr.build Instr.fill Instr.buildSlice loadVar in
theorem eight26_any (w : World) : Calls Tryz.prog 64 #[] w fun x w' => ∃ v, x = .returned v ∧ w'.ownsRow w.heap.size 43 2 v 8 (fcells (l46 8)) ∧ Below w.heap.size w w' := by
  obtain ⟨i0, hi0, hz0, hz1, hz2⟩ := info_parts info_fr
  have hbd : ∀ (s : ByteArray) (W : World), (Instr.build 43 #[(0, .int .i64 3), (1, .string s)]).run Tryz.prog W = .ok (frV 3 s) W := fun s W => by kernel_rfl
  have hbs := build_frs1
  obtain ⟨Y, hY⟩ : ∃ Y, (Lib.byteCells z46).toArray = Y := ⟨_, rfl⟩
  have hmk : ∀ W : World, (Instr.makeSlice 141 (.int .i64 46) (.int .i64 46)).run Tryz.prog W = .ok (.slice (some ⟨W.heap.size, 0, none⟩) 46 46) (W.alloc (.cells Y 5)) := fun W => by rw [← hY]; exact make_bytes 46 (by omega) W
  have hcv : ∀ W : World, (convert 141 9 (.slice (some ⟨W.heap.size, 0, none⟩) 46 46)).run Tryz.prog (W.alloc (.cells Y 5)) = .ok (.string p46) (W.alloc (.cells Y 5)) := fun W => arr_string46 (by rw [hY]; exact alloc_at W _)
  clear hY
  go_enter Tryz.func64, Tryz.ntmps64
  go_wp2_with fail
  go_loopw [1, 2] (fun rv i wr => ∃ k : Nat, k ≤ 8 ∧ i = .int .i64 k ∧ wr.ownsRow w.heap.size 43 2 rv k (fcells (l46 k)) ∧ Below w.heap.size w wr) (fun _ i _ => 8 - (intOf i).toNat)
  case atStart => exact ⟨0, Nat.zero_le _, rfl, World.ownsRow_nil _ _ _ _, Below.refl _ _⟩
  case round =>
    obtain ⟨k, hk, rfl, hown, hB⟩ := hrel
    have HO := Lib.hid hown
    have HB := Lib.hid hB
    obtain ⟨so, sc, hv⟩ := row_slice3 hown
    subst hv
    clear hown hB
    by_cases hk8 : k < 8
    · have hszr := HB.out.size
      have k8 : (k : Int) < 8 := by omega
      have hcv1 := hcv wr
      have hmk1 := hmk wr
      clear hcv hmk
      obtain ⟨w1, hw1⟩ : ∃ w1, wr.alloc (.cells Y 5) = w1 := ⟨_, rfl⟩
      have HO1 : Hid (w1.ownsRow w.heap.size 43 2 (.slice so k sc) k (fcells (l46 k))) := Lib.hid (by rw [← hw1]; exact HO.out.alloc _)
      have HB1 : Hid (Below w.heap.size w w1) := Lib.hid (by rw [← hw1]; exact HB.out.alloc hszr _)
      rw [hw1] at hcv1 hmk1
      clear hw1
      have hsz1 := HB1.out.size
      go_wp2_with (at_builtin; refine wpList_append_lies _ rfl (.tmp 4) (.tmp 8) 49 rfl w.heap.size 43 i0 _ 2 24 Tryz.underlying49 hi0 hz0 hz1 hz2 rfl (by omega) (.slice so k sc) _ _ rfl (HO1.out.alloc _) ⟨w1.heap.size, 0, none⟩ 1 1 [.int .i64 3, .string p46] rfl rfl (World.news_of_block (cs := #[.int .i64 3, .string p46]) (t := 43) (fr := (0, 0)) (heap_alloc_new w1 _)) (by simp [Value.oneCell']) (by omega) (by unfold maxLen; omega) (by omega) (by simp; omega) _ rfl ?_; intro gg cap2 wn hown9 hgrow hat hlt9; have HOWN2 := Lib.hid hown9; have HGROW2 := Lib.hid hgrow; clear hown9 hgrow hat hlt9)
      have HBn : Hid (Below w.heap.size w wn) := Lib.hid ((HB1.out.alloc hsz1 _).grown HGROW2.out (Nat.le_trans hsz1 (by simp)) (fun i hi => (HO1.out.lt i hi).1))
      have HON : Hid (wn.ownsRow w.heap.size 43 2 (.slice (some ⟨gg, 0, none⟩) (k + 1) cap2) (k + 1) (fcells (l46 (k + 1)))) := Lib.hid (by rw [l46_succ, fcells_snoc]; exact HOWN2.out)
      go_wp2
      go_roundw
      case rel => exact ⟨k + 1, hk8, by simp, HON.out, HBn.out⟩
      case measure => simp [intOf]; omega
    · obtain rfl : k = 8 := by omega
      go_wp2
      go_ret
      exact ⟨_, rfl, HO.out, HB.out⟩
/-- Anew, of frames that all go in. -/
def rn3 (f : Nat) (P : PoolM) (L : LogM) (W : List (Nat × List UInt8)) (l : List Fr) : S3 := run3 f (P, newLog L.id (L.gen + 1) 0, W) l
structure AnewAt (j kj v p : Nat) (lies : List (List UInt8)) (f N : Nat) (s : S3) (L : LogM) (w : World) (X J : Foot) (w' : World) (X' K : Foot) : Prop where
  vp : VP v p lies s.2.2 f N s.1 w' X'
  new : JIs kj v p s.2.1 w' K
  old : JIs j v p L w' J
  xk : Apart X' K
  xj : Apart X' J
  kj : Apart K J
  upd : Upd X w w'
  xs : ∀ i, X' i → X i ∨ w.heap.size ≤ i
  ks : ∀ i, K i → X i ∨ w.heap.size ≤ i
set_option linter.unusedSimpArgs false in
set_option maxRecDepth 100000 in
set_option maxHeartbeats 1600000 in
attribute [-go_sem] Instr.build Instr.fill Instr.buildSlice loadVar in
theorem janew_ok {f N j v p : Nat} {lies : List (List UInt8)} {W : List (Nat × List UInt8)} {P : PoolM} {L : LogM} {w : World} {X J : Foot} {ao : Option Addr} {l : List Fr} (hX : VP v p lies W f N P w X) (hJ : JIs j v p L w J) (ha : Apart X J) (hP : PoolOk N P) (kL : LogOk N L) (hl : FrsAt w ao l) (cap : Nat) (hll : l.length ≤ 900)
    (hA : ∀ a, ao = some a → ¬ X a.block) (hW : W.length ≤ 700000000) (hg : L.gen + 1 < 4294967296) (hok : ∀ i (h : i < l.length), er3 (rn3 f P L W (l.take i)) l[i] = 0) :
    Calls Tryz.prog 26 #[.pointer (some ⟨j, 0, none⟩), .slice ao l.length cap] w fun x w' => ∃ (kj : Nat) (X' K : Foot), x = .returned (.tuple #[.pointer (some ⟨kj, 0, none⟩), .int .i64 0]) ∧ AnewAt j kj v p lies f N (rn3 f P L W l) L w X J w' X' K := by
  obtain ⟨g, G, h1, h2, h3, hJJ⟩ := hJ
  obtain ⟨c0, c1, c2, cf⟩ := three_of h1
  have hbd : Below w.heap.size w w.drew := (Below.refl _ _).drew
  have KID : Hid (Calls Tryz.prog 56 #[.pointer (some ⟨g, 0, none⟩)] w.drew fun e w' => e = .returned (.int .i64 L.id) ∧ w' = w.drew) := Lib.hid ((lid_any (LogIs.stays.below h2 hbd)).mono fun _ _ ⟨a, b⟩ => ⟨a, b.symm⟩)
  have KGE : Hid (Calls Tryz.prog 35 #[.pointer (some ⟨j, 0, none⟩)] w.drew fun e w' => e = .returned (.int .u32 L.gen) ∧ w' = w.drew) := Lib.hid ((jgen_any (JIs.stays.below ⟨g, G, h1, h2, h3, hJJ⟩ hbd)).mono fun _ _ ⟨a, b⟩ => ⟨a, b.symm⟩)
  have KN := Lib.hid (jnew_ok v p L.id (L.gen + 1) kL.id1 kL.id2 w.drew L.id ((L.gen : Int) + 1) rfl (by omega))
  have hwr : IntKind.u32.wrap ((L.gen : Int) + 1) = (L.gen : Int) + 1 := by rw [IntKind.wrap_u32]; omega
  have HJ := Lib.hid (show JIs j v p L w J from ⟨g, G, h1, h2, h3, hJJ⟩)
  have HX := Lib.hid hX
  have HA := Lib.hid ha
  have HL := Lib.hid hl
  have HAO := Lib.hid hA
  have HOK := Lib.hid hok
  have h3ok : S3Ok N 0 0 (P, newLog L.id (L.gen + 1) 0, W) := ⟨hP, ⟨kL.id1, kL.id2, hg, Nat.zero_le _, Nat.zero_le _, fun s hs => absurd hs (by simp [newLog]), Nat.zero_le _⟩, Nat.le_refl _, Nat.le_refl _⟩
  have H3 := Lib.hid (fun i hi => h3ok.run f (l := l) (by omega) (by omega) i hi)
  have HW3 := Lib.hid (fun i hi => run3_W f (P, newLog L.id (L.gen + 1) 0, W) l i hi)
  clear h1 h2 h3 hJJ hX ha hl hA hok h3ok
  go_enter Tryz.func26, Tryz.ntmps26
  go_wp2_with fail
  refine wp_region_split 16 6 (by kernel_rfl) rfl (by kernel_rfl) (by kernel_rfl) ?_
  simp only [List.take_succ_cons, List.take_zero]
  repeat still_step
  still_call KID.out
  repeat still_step
  still_call KGE.out
  repeat still_step
  refine wpStill_nil ?_
  rw [show Array.replicate 16 true ++ Array.replicate 6 false = #[true, true, true, true, true, true, true, true, true, true, true, true, true, true, true, true, false, false, false, false, false, false] from rfl]
  refine wpAny_ready (rs := [16]) (by kernel_rfl) (by simp) ?_
  refine AllReady.cons rfl (fun K' hK => ?_) AllReady.nil
  simp only [List.getElem_toArray, List.getElem_cons_zero, List.getElem_cons_succ]
  go_simp
  go_at_call 18; (with_reducible refine KN.out.mono ?_); rintro x w1 ⟨kj, K0, rfl, hK0, hb0, hK0n⟩
  refine hK _ _ ?_
  clear hK K'
  simp only [Act.put, List.getElem_toArray, List.getElem_cons_zero, List.getElem_cons_succ, List.setIfInBounds_toArray, List.set_cons_zero, List.set_cons_succ]
  refine wpAny_take (i := 17) (v := ?_) rfl (by kernel_rfl) (by kernel_rfl) (by kernel_rfl) (fun _ _ _ h => h) (Or.inl ⟨by rfl, ?_⟩) ?_
  rotate_left 1
  · (intro w'; simp only [List.getElem_toArray, List.getElem_cons_zero, List.getElem_cons_succ]; go_simp; try with_reducible rfl)
  simp only [Act.put, List.getElem_toArray, List.getElem_cons_zero, List.getElem_cons_succ, List.setIfInBounds_toArray, List.set_cons_zero, List.set_cons_succ]
  refine wpAny_take (i := 18) (v := ?_) rfl (by kernel_rfl) (by kernel_rfl) (by kernel_rfl) (fun _ _ _ h => h) (Or.inl ⟨by rfl, ?_⟩) ?_
  rotate_left 1
  · (intro w'; simp only [List.getElem_toArray, List.getElem_cons_zero, List.getElem_cons_succ]; go_simp; try with_reducible rfl)
  simp only [Act.put, List.getElem_toArray, List.getElem_cons_zero, List.getElem_cons_succ, List.setIfInBounds_toArray, List.set_cons_zero, List.set_cons_succ]
  refine wpAny_take (i := 19) (v := ?_) rfl (by kernel_rfl) (by kernel_rfl) (by kernel_rfl) (fun _ _ _ h => h) (Or.inl ⟨by rfl, ?_⟩) ?_
  rotate_left 1
  · (intro w'; simp only [List.getElem_toArray, List.getElem_cons_zero, List.getElem_cons_succ]; go_simp; try with_reducible rfl)
  simp only [Act.put, List.getElem_toArray, List.getElem_cons_zero, List.getElem_cons_succ, List.setIfInBounds_toArray, List.set_cons_zero, List.set_cons_succ]
  refine wpAny_take (i := 20) (v := ?_) rfl (by kernel_rfl) (by kernel_rfl) (by kernel_rfl) (fun _ _ _ h => h) (Or.inl ⟨by rfl, ?_⟩) ?_
  rotate_left 1
  · (intro w'; simp only [List.getElem_toArray, List.getElem_cons_zero, List.getElem_cons_succ]; go_simp; try with_reducible rfl)
  simp only [Act.put, List.getElem_toArray, List.getElem_cons_zero, List.getElem_cons_succ, List.setIfInBounds_toArray, List.set_cons_zero, List.set_cons_succ]
  refine wpAny_take (i := 21) (v := ?_) rfl (by kernel_rfl) (by kernel_rfl) (by kernel_rfl) (fun _ _ _ h => h) (Or.inl ⟨by rfl, ?_⟩) ?_
  rotate_left 1
  · (intro w'; simp only [List.getElem_toArray, List.getElem_cons_zero, List.getElem_cons_succ]; go_simp; try with_reducible rfl)
  simp only [Act.put, List.getElem_toArray, List.getElem_cons_zero, List.getElem_cons_succ, List.setIfInBounds_toArray, List.set_cons_zero, List.set_cons_succ]
  refine wpAny_done (by kernel_rfl) ?_ _

  have HS1 := Lib.hid (show AnewAt j kj v p lies f N (rn3 f P L W (l.take 0)) L w X J w1 X K0 from by
    have hbw : Below w.heap.size w w1 := hbd.trans hb0
    refine ⟨VP.stays.below HX.out hbw, hK0, JIs.stays.below HJ.out hbw, fun i hi hc => ?_, HA.out, fun i hi hc => ?_, Upd.of_below' hbw, fun i hi => .inl hi, fun i hi => .inr (hK0n i hi)⟩
    · have := VP.there HX.out i hi; have h := hK0n i hc; rw [show w.drew.heap.size = w.heap.size from rfl] at h; omega
    · have := JIs.there HJ.out i hc; have h := hK0n i hi; rw [show w.drew.heap.size = w.heap.size from rfl] at h; omega)
  clear hK0 hb0 hK0n hbd KN KID KGE hwr
  go_wp2_with fail
  go_loopw [38] (fun i wr => ∃ k : Nat, k ≤ l.length ∧ i = .int .i64 k ∧ ∃ X' K, AnewAt j kj v p lies f N (rn3 f P L W (l.take k)) L w X J wr X' K) (fun i _ => l.length - (intOf i).toNat)
  case atStart => exact ⟨0, Nat.zero_le _, rfl, X, K0, HS1.out⟩
  case round =>
    obtain ⟨k, hk, rfl, X', K, hS⟩ := hrel
    have HS := Lib.hid hS
    clear hS HS1
    by_cases hkl : k < l.length
    · obtain ⟨ad, had, hld⟩ := (HL.out.keep HS.out.upd (fun a e _ => HAO.out a e)).load k hkl
      have her := HOK.out k hkl
      have HNX := Lib.hid (run3_take f (P, newLog L.id (L.gen + 1) 0, W) hkl)
      have h3 := H3.out k hk
      have hw3 := HW3.out k hk
      obtain ⟨x, hx⟩ : ∃ x, l[k] = x := ⟨_, rfl⟩
      obtain ⟨s, hs⟩ : ∃ s, rn3 f P L W (l.take k) = s := ⟨_, rfl⟩
      rw [show run3 f (P, newLog L.id (L.gen + 1) 0, W) (l.take k) = rn3 f P L W (l.take k) from rfl, hs] at h3 hw3 HNX
      rw [hx] at hld her HNX
      rw [hs] at her HS
      obtain ⟨kk, pp⟩ := x
      simp only at hld
      have hb1 := (Below.alloc (Below.refl wr.heap.size wr) (Nat.le_refl _) (.cells #[.int .i64 kk, .string pp] 43))
      have KA := Lib.hid (jappend_any (VP.stays.below HS.out.vp hb1) (JIs.stays.below HS.out.new hb1) HS.out.xk h3.pool h3.log (by have h : s.2.2.length ≤ W.length + 16 * k := hw3; omega) (by have := h3.next; omega) (by have := h3.segs; omega) kk pp)
      have HERR : Hid ((appendM s.1 s.2.1 kk pp).er = 0) := Lib.hid her
      rw [HERR.out] at KA
      have HB1 := Lib.hid hb1
      have hlb := load_fr (alloc_at wr (.cells #[.int .i64 kk, .string pp] 43))
      have k1 : (k : Int) < (l.length : Int) := by omega
      subst had
      clear her h3 hw3 hs hx hb1
      go_wp2_with fail
      refine KA.out.mono ?_
      rintro y w2 ⟨rfl, hP2⟩
      have HP2 := Lib.hid hP2
      clear hP2 KA hlb hld
      have HN : Hid (∃ X' K, AnewAt j kj v p lies f N (rn3 f P L W (l.take (k + 1))) L w X J w2 X' K) := Lib.hid (by
        obtain ⟨X2, K2, a1, a2, a3, a4, a5⟩ := HP2.out
        have S := HS.out
        rw [show rn3 f P L W (l.take (k + 1)) = step3 f s (kk, pp) from HNX.out]
        have hz := HB1.out.size
        have hzu := S.upd.size
        have hJw : ∀ i, J i → i < w.heap.size := fun i hi => JIs.there HJ.out i hi
        have hnb : ∀ i, J i → ¬ Both X' K i := fun i hi hc => hc.elim (fun h => S.xj i h hi) (fun h => S.kj i h hi)
        refine ⟨X2, K2, a1, a2, JIs.stays (JIs.stays.below S.old HB1.out) a4 hnb, a3, fun i hi hc => ?_, fun i hi hc => ?_, ?_, fun i hi => ?_, fun i hi => ?_⟩
        · rcases a5 i (.inl hi) with h | h
          · exact hnb i hc h
          · have := hJw i hc; omega
        · rcases a5 i (.inr hi) with h | h
          · exact hnb i hc h
          · have := hJw i hc; omega
        · refine (S.upd.trans (Upd.of_below' HB1.out) (fun i _ h => h)).trans a4 (fun i hi hc => ?_)
          rcases hc with h | h
          · rcases S.xs i h with h' | h'
            · exact h'
            · omega
          · rcases S.ks i h with h' | h'
            · exact h'
            · omega
        · rcases a5 i (.inl hi) with h | h
          · rcases h with h | h
            · exact S.xs i h
            · exact S.ks i h
          · exact .inr (by omega)
        · rcases a5 i (.inr hi) with h | h
          · rcases h with h | h
            · exact S.xs i h
            · exact S.ks i h
          · exact .inr (by omega))
      go_wp2
      go_roundw
      case rel => exact ⟨k + 1, hkl, by simp, HN.out⟩
      case measure => simp [intOf]; omega
    · obtain rfl : k = l.length := by omega
      rw [List.take_length] at HS
      go_wp2
      exact bodyPost_ret (v := .tuple #[.pointer (some ⟨kj, 0, none⟩), .int .i64 0]) (by simp [results, Tryz.results26, go_sem]) rfl ⟨kj, X', K, rfl, HS.out⟩
end Go.Proofs.YtoobiffhjjfpgaaGreat.Print
