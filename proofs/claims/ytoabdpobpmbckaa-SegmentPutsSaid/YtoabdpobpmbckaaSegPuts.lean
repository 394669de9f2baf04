/- SegmentPuts, the walk. -/
import Derived.Test.YtoabdpobpmbckaaPutsV
namespace Go.Proofs.Ytoabdpobpmbckaa.Print
open Go.RowKit
attribute [local go_sem] run_loadVar_scalar

theorem ld_hdr {w : World} {b : Nat} {h : H4} (hW : w.heap[b]? = some (.cells #[.int .i64 h.1, .int .u32 h.2.1, .int .u32 h.2.2.1, .int .i64 h.2.2.2] 41)) : (loadVar 41 ⟨b, 0, none⟩).run Try.prog w = .ok (hdV h.1 h.2.1 h.2.2.1 h.2.2.2) w :=
  run_loadVar_row w b 41 41 #[.int .i64 h.1, .int .u32 h.2.1, .int .u32 h.2.2.1, .int .i64 h.2.2.2] (0, 0) _ hW Try.underlying41 rfl (by kernel_rfl)
theorem ld_hdr4 {w : World} {b : Nat} {x y z u : Int} (hW : w.heap[b]? = some (.cells #[.int .i64 x, .int .u32 y, .int .u32 z, .int .i64 u] 41)) : (loadVar 41 ⟨b, 0, none⟩).run Try.prog w = .ok (hdV x y z u) w :=
  run_loadVar_row w b 41 41 #[.int .i64 x, .int .u32 y, .int .u32 z, .int .i64 u] (0, 0) _ hW Try.underlying41 rfl (by kernel_rfl)
set_option maxRecDepth 100000 in
set_option maxHeartbeats 1600000 in
attribute [-go_sem] loadVar in
/-- What is not gone through here: put. -/
theorem puts_put (a b c d n : Int) {w : World} {ao : Option Addr} {l : List Fr} (cap : Nat) (hA : FrsAt w ao l) (hl : l.length ≤ 9223372036854775807) (hsz : ∀ x ∈ l, x.2.size ≤ 9223372036854775807) (hno : lgB l = true ∨ (n < 0 ∨ 1 < n) ∨ mayB a d = false) :
    Calls Try.prog 6 #[hdV a b c d, .slice ao l.length cap, .int .i64 n] w fun x w' => x = .returned (.bool true) ∧ Below w.heap.size w w' := by
  have hg1 := alloc_at w (.cells #[.int .i64 a, .int .u32 b, .int .u32 c, .int .i64 d] 41)
  have hB : Below w.heap.size w (w.alloc (.cells #[.int .i64 a, .int .u32 b, .int .u32 c, .int .i64 d] 41)) := (Below.refl _ _).alloc (Nat.le_refl _) _
  have KL := Lib.hid (large_any (hA.below hB) cap hl hsz)
  have HN := Lib.hid hno
  clear hA hl hsz hno
  go_enter Try.func6, Try.ntmps6
  go_wp2_with fail
  refine KL.out.mono ?_
  rintro x w1 ⟨rfl, hb1⟩
  have q1 := later_of hg1 hb1
  have HB1 := Lib.hid (hB.trans (hb1.mono hB.size))
  clear hb1 hB hg1
  by_cases hlg : lgB l = true
  · rw [hlg]
    go_wp2_with fail
    refine (put_any _).mono ?_
    rintro x w2 ⟨rfl, hb2⟩
    go_wp2
    go_ret
    exact ⟨rfl, HB1.out.trans (hb2.mono HB1.out.size)⟩
  · have hm := HN.out.resolve_left hlg
    have hlf : lgB l = false := by simpa using hlg
    rw [hlf]
    clear HN hlg hlf
    go_wp2_with fail
    refine (fresh13_any _).mono ?_
    rintro x w4 ⟨v, F4, rfl, V4, hb4, hF4⟩
    have HB4 := Lib.hid (HB1.out.trans (hb4.mono HB1.out.size))
    have q4 := later_of q1 hb4
    have hld := ld_hdr4 q4
    clear hb4 q1
    by_cases hr : n < 0 ∨ 1 < n
    · have KC := Lib.hid (create_range V4 n a b c d (by omega) (by omega) (by have : (34 - 2) / 16 = 2 := rfl; omega))
      clear V4 hF4 hm
      go_wp2_with fail
      refine KC.out.mono ?_
      rintro x w5 ⟨rfl, hb5⟩
      have HB5 := Lib.hid (HB4.out.trans (hb5.mono HB4.out.size))
      clear hb5
      by_cases h0 : n < 0
      · have k1 : decide (n < 0) = true := decide_eq_true h0
        clear h0 hr
        go_wp2_with fail
        refine (put_any _).mono ?_
        rintro x w6 ⟨rfl, hb6⟩
        go_wp2
        go_ret
        exact ⟨rfl, HB5.out.trans (hb6.mono HB5.out.size)⟩
      · have k1 : decide (n < 0) = false := decide_eq_false h0
        have k2 : decide (1 < n) = true := decide_eq_true (by omega)
        clear h0 hr
        go_wp2_with fail
        refine (put_any _).mono ?_
        rintro x w6 ⟨rfl, hb6⟩
        go_wp2
        go_ret
        exact ⟨rfl, HB5.out.trans (hb6.mono HB5.out.size)⟩
    · have hmf := hm.resolve_left hr
      have k1 : decide (n < 0) = false := decide_eq_false (by omega)
      have k2 : decide (1 < n) = false := decide_eq_false (by omega)
      have KC := Lib.hid (create_arg V4 n.toNat a b c d (by omega) (by omega) (by
        rintro ⟨h1, h2, h3, h4⟩
        have : mayB a d = true := by unfold mayB; simp [h1, h2, h3, h4]
        rw [this] at hmf; cases hmf) n (by omega))
      clear V4 hF4 hm hr
      go_wp2_with fail
      refine KC.out.mono ?_
      rintro x w5 ⟨rfl, hb5⟩
      have HB5 := Lib.hid (HB4.out.trans (hb5.mono HB4.out.size))
      have hld5 := ld_hdr4 (later_of q4 hb5)
      clear hb5 hld q4
      go_wp2_with fail
      refine (lref_any a b c d _).mono ?_
      rintro x w6 ⟨rfl, hb6⟩
      have HB6 := Lib.hid (HB5.out.trans (hb6.mono HB5.out.size))
      clear hb6 hld5
      go_wp2_with fail
      refine (may_any a b c d _).mono ?_
      rintro x w7 ⟨rfl, hb7⟩
      have HB7 := Lib.hid (HB6.out.trans (hb7.mono HB6.out.size))
      clear hb7
      rw [hmf]
      go_wp2_with fail
      refine (put_any _).mono ?_
      rintro x w8 ⟨rfl, hb8⟩
      go_wp2
      go_ret
      exact ⟨rfl, HB7.out.trans (hb8.mono HB7.out.size)⟩
theorem hold_l {P : Program} {T : TypeId} {q : Addr} {v : Value} {wB w1 w' : World} (KH : ∀ W, Below wB.heap.size wB W → (loadVar T q).run P W = .ok v W) (h : (loadVar T q).run P w1 = .ok v w1 ∧ Below wB.heap.size wB w1) (hb : Below w1.heap.size w1 w') :
    (loadVar T q).run P w' = .ok v w' ∧ Below wB.heap.size wB w' := ⟨KH _ (h.2.trans (hb.mono h.2.size)), h.2.trans (hb.mono h.2.size)⟩
theorem hold_l0 {P : Program} {T : TypeId} {q : Addr} {v : Value} {wB : World} (KH : ∀ W, Below wB.heap.size wB W → (loadVar T q).run P W = .ok v W) : (loadVar T q).run P wB.drew = .ok v wB.drew ∧ Below wB.heap.size wB wB.drew := ⟨KH _ (Below.refl _ _).drew, (Below.refl _ _).drew⟩
theorem hold_la {P : Program} {T : TypeId} {q : Addr} {v : Value} {wB w1 : World} (KH : ∀ W, Below wB.heap.size wB W → (loadVar T q).run P W = .ok v W) (h : (loadVar T q).run P w1 = .ok v w1 ∧ Below wB.heap.size wB w1) (o : Obj) :
    (loadVar T q).run P (w1.alloc o) = .ok v (w1.alloc o) ∧ Below wB.heap.size wB (w1.alloc o) := ⟨KH _ (h.2.alloc h.2.size o), h.2.alloc h.2.size o⟩
theorem hold_lr {P : Program} {T : TypeId} {q : Addr} {v : Value} {wB w1 : World} (KH : ∀ W, Below wB.heap.size wB W → (loadVar T q).run P W = .ok v W) (h : (loadVar T q).run P w1 = .ok v w1 ∧ Below wB.heap.size wB w1) (g : Nat) (hg : wB.heap.size ≤ g) (A : Array Value) :
    (loadVar T q).run P (w1.setRow g A) = .ok v (w1.setRow g A) ∧ Below wB.heap.size wB (w1.setRow g A) := ⟨KH _ (below_setRow h.2 hg A), below_setRow h.2 hg A⟩
theorem hold_lz {P : Program} {T : TypeId} {q : Addr} {v : Value} {wB w1 : World} (KH : ∀ W, Below wB.heap.size wB W → (loadVar T q).run P W = .ok v W) {o : Obj} (h : (loadVar T q).run P (w1.alloc o) = .ok v (w1.alloc o) ∧ Below wB.heap.size wB (w1.alloc o)) (hg : wB.heap.size ≤ w1.heap.size) (o' : Obj) :
    (loadVar T q).run P (w1.alloc o') = .ok v (w1.alloc o') ∧ Below wB.heap.size wB (w1.alloc o') := by
  have hb : Below wB.heap.size wB (w1.alloc o') := ⟨h.2.os, h.2.tape, h.2.output, by simp; omega, fun k hk => (Below.heap_alloc w1 o' k (by omega)).trans ((Below.heap_alloc w1 o k (by omega)).symm.trans (h.2.block k hk))⟩
  exact ⟨KH _ hb, hb⟩
theorem le_held {P : Program} {T : TypeId} {q : Addr} {v : Value} {wB w1 w' : World} (h : (loadVar T q).run P w1 = .ok v w1 ∧ Below wB.heap.size wB w1) (hb : Below w1.heap.size w1 w') : wB.heap.size ≤ w'.heap.size := Nat.le_trans h.2.size hb.size
/-- What a round's last region reads. -/
abbrev RdS (bM g : Nat) (lv : Value) (e : Nat) (X : Nat → ByteArray) (wB W : World) : Prop :=
  W.cell? ⟨g, 16, none⟩ = some (.bool true) ∧ (loadVar 49 ⟨g, 0, none⟩).run Try.prog W = .ok (.agg (secA X)) W ∧ (loadVar 49 ⟨bM, 6, none⟩).run Try.prog W = .ok (.agg (secA X)) W ∧ W.cell? ⟨bM, 5, none⟩ = some (.int .i64 e) ∧ W.cell? ⟨bM, 4, none⟩ = some lv ∧ Below wB.heap.size wB W
theorem rdS_of {h : H4} {bM g : Nat} {lv : Value} {e : Nat} {X : Nat → ByteArray} {wB W : World} (hM : wB.heap[bM]? = some (.cells (madeA h lv e X) 51)) (hR : wB.heap[g]? = some (.cells (rdA X true) 79)) (hb : Below wB.heap.size wB W) : RdS bM g lv e X wB W := by
  have M := made_at (later_of hM hb)
  have R := later_of hR hb
  exact ⟨rd_ok R, rd_secs R, M.secs, M.end_, M.list, hb⟩
abbrev ExS (h : H4) (B bM : Nat) (lv : Value) (wB W : World) : Prop :=
  (loadVar 41 ⟨B, 0, none⟩).run Try.prog W = .ok (hdV h.1 h.2.1 h.2.2.1 h.2.2.2) W ∧ W.cell? ⟨bM, 4, none⟩ = some lv ∧ Below wB.heap.size wB W
theorem exS_of {h : H4} {B bM : Nat} {lv : Value} {e : Nat} {X : Nat → ByteArray} {wB W : World} (hM : wB.heap[bM]? = some (.cells (madeA h lv e X) 51)) (hH : wB.heap[B]? = some (.cells #[.int .i64 h.1, .int .u32 h.2.1, .int .u32 h.2.2.1, .int .i64 h.2.2.2] 41)) (hb : Below wB.heap.size wB W) : ExS h B bM lv wB W :=
  ⟨ld_hdr (later_of hH hb), (made_at (later_of hM hb)).list, hb⟩
theorem exS_call {h : H4} {B bM : Nat} {lv : Value} {e : Nat} {X : Nat → ByteArray} {wB w1 W : World} (hM : wB.heap[bM]? = some (.cells (madeA h lv e X) 51)) (hH : wB.heap[B]? = some (.cells #[.int .i64 h.1, .int .u32 h.2.1, .int .u32 h.2.2.1, .int .i64 h.2.2.2] 41)) (hS : ExS h B bM lv wB w1) (hb : Below w1.heap.size w1 W) : ExS h B bM lv wB W :=
  exS_of hM hH (hS.2.2.trans (hb.mono hS.2.2.size))
set_option maxRecDepth 100000 in
set_option maxHeartbeats 6400000 in
attribute [-go_sem] loadVar Instr.build Instr.fill in
theorem puts_walk (h : H4) (hf : HFits h) (hmay : mayB h.1 h.2.2.2 = true) {w : World} {ao : Option Addr} {l : List Fr} (cap : Nat) (hA : FrsAt w ao l) (hlg : lgB l = false) (n : Nat) (hn : n < 2) :
    Calls Try.prog 6 #[hdV h.1 h.2.1 h.2.2.1 h.2.2.2, .slice ao l.length cap, .int .i64 n] w fun x w' => x = .returned (.bool true) ∧ Below w.heap.size w w' := by
  obtain ⟨hl40, hl900⟩ := lgB_false hlg
  have hg1 := alloc_at w (.cells #[.int .i64 h.1, .int .u32 h.2.1, .int .u32 h.2.2.1, .int .i64 h.2.2.2] 41)
  have hB : Below w.heap.size w (w.alloc (.cells #[.int .i64 h.1, .int .u32 h.2.1, .int .u32 h.2.2.1, .int .i64 h.2.2.2] 41)) := (Below.refl _ _).alloc (Nat.le_refl _) _
  have KL := Lib.hid (large_any (hA.below hB) cap (by omega) (fun x hx => by have := hl900 x hx; omega))
  have HA := Lib.hid hA
  have HF := Lib.hid hf
  have k1 : decide ((n : Int) < 0) = false := decide_eq_false (by omega)
  have k2 : decide (1 < (n : Int)) = false := decide_eq_false (by omega)
  have hzm := zero_made
  have hzs := madeA_size (0, 0, 0, 0) (.slice none 0 0) 0 (fun _ => eB)
  obtain ⟨Z, hZ⟩ : ∃ Z, madeA (0, 0, 0, 0) (.slice none 0 0) 0 (fun _ => eB) = Z := ⟨_, rfl⟩
  have hza := zero_ap
  have hzas := apA_size (0, 0, 0, 0) (.slice none 0 0) 0 (fun _ => eB) 0 0
  obtain ⟨ZA, hZA⟩ : ∃ ZA, apA (0, 0, 0, 0) (.slice none 0 0) 0 (fun _ => eB) 0 0 = ZA := ⟨_, rfl⟩
  have hzr := zero_rd
  have hzrs := rdA_size (fun _ => eB) false
  obtain ⟨ZR, hZR⟩ : ∃ ZR, rdA (fun _ => eB) false = ZR := ⟨_, rfl⟩
  rw [hZ] at hzm hzs
  rw [hZA] at hza hzas
  rw [hZR] at hzr hzrs
  clear hA hf hZ hZA hZR
  go_enter Try.func6, Try.ntmps6
  go_wp2_with fail
  refine KL.out.mono ?_
  rintro x w1 ⟨rfl, hb1⟩
  have q1 := later_of hg1 hb1
  have HB1 := Lib.hid (hB.trans (hb1.mono hB.size))
  clear hb1 hB hg1 KL
  rw [hlg]
  go_wp2_with fail
  refine (fresh13_any _).mono ?_
  rintro x w4 ⟨v, F4, rfl, V4, hb4, hF4⟩
  have HB4 := Lib.hid (HB1.out.trans (hb4.mono HB1.out.size))
  have q4 := later_of q1 hb4
  have hF4' : ∀ i, F4 i → w.heap.size + 1 ≤ i := fun i hi => by have := hF4 i hi; have := lt_of q1; omega
  have hld4 := ld_hdr q4
  have KC := Lib.hid (puts_create V4 n h HF.out hn n rfl)
  have Q4 := Lib.hid q4
  clear hb4 q1 HB1 V4 hF4 q4
  go_wp2_with fail
  refine KC.out.mono ?_
  rintro x w5 ⟨s, F5, G5, rfl, P5, U5, hFr5, hG5⟩
  have hF5 : ∀ i, F5 i → w.heap.size + 1 ≤ i := fun i hi => by
    rcases hFr5 i hi with hh | hh
    · exact hF4' i hh
    · have := lt_of Q4.out; omega
  have hG5' : ∀ i, G5 i → w.heap.size + 1 ≤ i := fun i hi => by have := hG5 i hi; have := lt_of Q4.out; omega
  have HB5 := Lib.hid (HB4.out.trans (U5.below HB4.out.size (fun i hi hc => by have := hF4' i hc; omega)))
  have q5 := U5.at_ Q4.out (fun hc => by have := hF4' _ hc; omega)
  have hld5 := ld_hdr q5
  have HP5 := Lib.hid P5
  have Q5 := Lib.hid q5
  clear P5 U5 hFr5 hG5 hF4' KC HB4 Q4 hld4 q5
  go_wp2_with fail
  refine (lref_any _ _ _ _ _).mono ?_
  rintro x w6 ⟨rfl, hb6⟩
  have HB6 := Lib.hid (HB5.out.trans (hb6.mono HB5.out.size))
  have HP6 := Lib.hid (HP5.out.below hb6)
  have Q6 := Lib.hid (later_of Q5.out hb6)
  clear hb6 HB5 HP5 Q5 hld5
  go_wp2_with fail
  refine (may_any _ _ _ _ _).mono ?_
  rintro x w7 ⟨rfl, hb7⟩
  have HB7 := Lib.hid (HB6.out.trans (hb7.mono HB6.out.size))
  have HP7 := Lib.hid (HP6.out.below hb7)
  have Q7 := Lib.hid (later_of Q6.out hb7)
  clear hb7 HB6 HP6 Q6
  rw [hmay]
  have KH := Lib.hid (fun (W8 : World) (hb : Below w7.heap.size w7 W8) => ld_hdr (h := h) (later_of Q7.out hb))
  have hld7 := ld_hdr Q7.out
  have KB := Lib.hid blank_any
  have KR := Lib.hid (fun w => rcreate_any (fun _ => zeroB) h HF.out w)
  obtain ⟨Y0, hY0⟩ : ∃ Y0, secA (fun _ => zeroB) = Y0 := ⟨_, rfl⟩
  have hsA := madeA_size h (.slice none 0 0) 1 (putS (fun _ => zeroB) h.2.2.1 1 0 [pad52 (hdrL h)])
  have hoA := madeA_one (lv := .slice none 0 0) rfl h 1 (putS (fun _ => zeroB) h.2.2.1 1 0 [pad52 (hdrL h)])
  obtain ⟨A0, hA0⟩ : ∃ A0, madeA h (.slice none 0 0) 1 (putS (fun _ => zeroB) h.2.2.1 1 0 [pad52 (hdrL h)]) = A0 := ⟨_, rfl⟩
  rw [hY0] at KB KR
  rw [hA0] at KR hsA hoA
  have hst1 : ∀ W : World, (storeCells ⟨W.heap.size, 0, none⟩ A0.toList).run Try.prog (W.alloc (.cells Z 51)) = .ok () (W.alloc (.cells A0 51)) := fun W => store_new W _ rfl Z A0 _ (by rw [hzs, hsA]) hoA
  have hst2 : ∀ (W : World) (g : Nat), W.heap[g]? = some (.cells Z 51) → (storeCells ⟨g, 0, none⟩ A0.toList).run Try.prog W = .ok () (W.setRow g A0) := fun W g hW => store_all hW A0 (by rw [hzs, hsA]) hoA
  have HA0 := Lib.hid hA0
  clear hY0 hA0 hoA
  go_wp2_with fail
  go_cut [10] (fun pm wx => ∃ g, pm = .pointer (some ⟨g, 0, none⟩) ∧ w7.heap.size ≤ g ∧ wx.heap[g]? = some (.cells A0 51) ∧ Below w7.heap.size w7 wx)
  case first =>
    (go_region_held3 (fun w' => (loadVar 41 ⟨w.heap.size, 0, none⟩).run Try.prog w' = .ok (hdV h.1 h.2.1 h.2.2.1 h.2.2.2) w' ∧ Below w7.heap.size w7 w')
      (first | assumption | exact hold_l0 KH.out | exact hold_l KH.out (by assumption) hb | exact hold_la KH.out (by assumption) _ | exact hold_lz KH.out (by assumption) hgw _ | exact hold_lr KH.out (by assumption) _ hgx _)
      (first
      | (go_at_call 27; (with_reducible refine (KB.out _).mono ?_); rintro x wf ⟨rfl, hb⟩; have hgw := le_held (by assumption) hb; (first | (have zx : wf.heap[w7.heap.size]? = some (.cells Z 51) := later_of (w1 := w7.drew.alloc (.cells Z 51)) (alloc_at w7.drew _) hb; have hgx : w7.heap.size ≤ w7.heap.size := Nat.le_refl _) | skip))
      | (go_at_call 24; (with_reducible refine (lref_any _ _ _ _ _).mono ?_); rintro x wf ⟨rfl, hb⟩; (first | (have zx := later_of zx hb) | (have zx := later_of (alloc_at _ (.cells Z 51)) hb; have hgx := hgw) | skip); have hgw := le_held (by assumption) hb)
      | (go_at_call 26; (with_reducible refine (KR.out _).mono ?_); rintro x wf ⟨rfl, hb⟩; (first | (have zx := later_of zx hb) | (have zx := later_of (alloc_at _ (.cells Z 51)) hb; have hgx := hgw) | skip); have hgw := le_held (by assumption) hb)))
    all_goals
      have hBx := (‹_ ∧ Below _ _ _›).2
      go_wp2_with fail
      go_meet
      first
        | exact ⟨_, rfl, hgx, row_set zx A0, hBx⟩
        | exact ⟨_, rfl, hgw, alloc_at _ _, hBx⟩
  case rest =>
    obtain ⟨bM, rfl, hgM, hM, hbc⟩ := hcut
    have hM0 : wc.heap[bM]? = some (.cells (madeA h (.slice none 0 0) 1 (putS (fun _ => zeroB) h.2.2.1 1 0 [pad52 (hdrL h)])) 51) := by rw [HA0.out]; exact hM
    have hw7 := HB7.out.size
    have hq7 := lt_of Q7.out
    have HR0 := Lib.hid (show PutsRel v s n h bM (w.heap.size + 1) [] 1 (putS (fun _ => zeroB) h.2.2.1 1 0 [pad52 (hdrL h)]) none 0 wc F5 G5 from
      ⟨⟨_, HP7.out.below hbc, secs_put (secs_zero n hn) _ _ _ _⟩, hM0, .inl ⟨rfl, rfl, rfl⟩, hF5, hG5', ⟨by omega, fun hc => by have := HP7.out.there.1 _ hc; omega, fun hc => by have := HP7.out.there.2 _ hc; omega⟩, fun a ha => by cases ha⟩)
    have HBc := Lib.hid (HB7.out.trans (hbc.mono hw7))
    have Qc := Lib.hid (later_of Q7.out hbc)
    clear hM hM0 hbc HP7 HB7 Q7 KH hld7 KB KR hst1 hst2 HA0 hsA hF5 hG5' hzm hzs
    go_wp2
    go_loopw [64] (fun i wr => ∃ (j : Nat) (fs : List Fr) (e : Nat) (X : Nat → ByteArray) (ao' : Option Addr) (cap' : Nat) (F G : Foot), j ≤ l.length ∧ i = .int .i64 j ∧ PutsRel v s n h bM (w.heap.size + 1) fs e X ao' cap' wr F G ∧ fs.length ≤ j ∧ Below w.heap.size w wr ∧ wr.heap[w.heap.size]? = some (.cells #[.int .i64 h.1, .int .u32 h.2.1, .int .u32 h.2.2.1, .int .i64 h.2.2.2] 41)) (fun i _ => l.length - (intOf i).toNat)
    case atStart => exact ⟨0, [], 1, _, none, 0, F5, G5, Nat.zero_le _, rfl, HR0.out, Nat.le_refl _, HBc.out, Qc.out⟩
    case round =>
      obtain ⟨j, fs, e, X, ao', cap', F, G, hj, rfl, R, hfj, hB, q⟩ := hrel
      have HR := Lib.hid R
      have HB := Lib.hid hB
      have Q := Lib.hid q
      clear R hB q HR0 HBc Qc
      by_cases hlt : j < l.length
      · obtain ⟨a, rfl, hld⟩ := (HA.out.below HB.out).load j hlt
        obtain ⟨x, hxx⟩ : ∃ x, l[j] = x := ⟨_, rfl⟩
        rw [hxx] at hld
        clear hxx
        obtain ⟨k, p⟩ := x
        have hBz : Below wr.heap.size wr (wr.alloc (.cells #[.int .i64 k, .string p] 55)) := (Below.refl _ _).alloc (Nat.le_refl _) _
        have KA := Lib.hid (puts_step (HR.out.below hBz) HF.out hn k p)
        have hgz := alloc_at wr (.cells #[.int .i64 k, .string p] 55)
        have hld2 := load_fr hgz
        have hbF : ¬ F wr.heap.size ∧ ¬ G wr.heap.size := by
          obtain ⟨W, P, _⟩ := HR.out.put
          exact ⟨fun hc => by have := P.there.1 _ hc; omega, fun hc => by have := P.there.2 _ hc; omega⟩
        have HBz := Lib.hid (HB.out.trans (hBz.mono HB.out.size))
        have HGz := Lib.hid hgz
        have Qz := Lib.hid (later_of Q.out hBz)
        have hFG0 : ∀ i, i < w.heap.size + 1 → ¬ Both F G i := fun i hi hc => hc.elim (fun hc => by have := HR.out.fF i hc; omega) (fun hc => by have := HR.out.fG i hc; omega)
        have HFG := Lib.hid hFG0
        have hqz := lt_of Q.out
        have hMlt := lt_of HR.out.made
        clear hBz hgz hFG0
        go_wp2_with fail
        refine KA.out.mono ?_
        rintro x w6 ⟨fs', e', X', at_, er, F', G', rfl, R6, hRS, hfl, U6⟩
        have HB6 := Lib.hid (HBz.out.trans (U6.below HBz.out.size (fun i hi hc => HFG.out i (by omega) hc)))
        have g6 := U6.at_ HGz.out (fun hc => hc.elim hbF.1 hbF.2)
        have q6 := U6.at_ Qz.out (HFG.out _ (by omega))
        have hld6 := load_fr g6
        have hlm6 := (made_at R6.made).load
        have KR := Lib.hid (hRS w6 ao' cap' R6.list)
        have HR6 := Lib.hid R6
        have Q6 := Lib.hid q6
        obtain ⟨M6, hM6⟩ : ∃ M6, madeA h (.slice ao' fs.length cap') e X = M6 := ⟨_, rfl⟩
        rw [hM6] at hlm6 KR
        clear R6 hRS U6 g6 q6 KA HBz Qz HGz hM6 hld hld2
        go_wp2_with fail
        refine KR.out.mono ?_
        rintro x w7' ⟨ao2, cap2, rfl, L7, hao, hb7⟩
        have R7 := HR6.out.below hb7
        have hoAp := apA_one (lv := .slice ao2 fs'.length cap2) rfl h e' X' at_ er
        have hsAp := apA_size h (.slice ao2 fs'.length cap2) e' X' at_ er
        have hBa : Below w7'.heap.size w7' (w7'.alloc (.cells (apA h (.slice ao2 fs'.length cap2) e' X' at_ er) 57)) := (Below.refl _ _).alloc (Nat.le_refl _) _
        have hap := ap_at (alloc_at w7' (.cells (apA h (.slice ao2 fs'.length cap2) e' X' at_ er) 57))
        have R8 := R7.below hBa
        have L8 := L7.below hBa
        have hst8 := store_new w7' w7'.heap.size rfl ZA (apA h (.slice ao2 fs'.length cap2) e' X' at_ er) 57 (by rw [hzas, hsAp]) hoAp
        have HB8 := Lib.hid ((HB6.out.trans (hb7.mono HB6.out.size)).trans (hBa.mono (by have := HB6.out.size; have := hb7.size; omega)))
        have Q8 := Lib.hid (later_of (later_of Q6.out hb7) hBa)
        have hlb8 : ∀ a, ao2 = some a → w.heap.size + 1 ≤ a.block ∧ ¬ F' a.block ∧ ¬ G' a.block ∧ a.block ≠ bM := by
          intro a ha
          rcases hao a ha with hh | hh
          · exact HR6.out.lb a hh
          · obtain ⟨W, P, _⟩ := HR6.out.put
            have h1 := lt_of HR6.out.made
            have h2 := lt_of Q6.out
            exact ⟨by omega, fun hc => by have := P.there.1 _ hc; omega, fun hc => by have := P.there.2 _ hc; omega, fun hc => by omega⟩
        obtain ⟨W8, hW8⟩ : ∃ W8, w7'.alloc (.cells (apA h (.slice ao2 fs'.length cap2) e' X' at_ er) 57) = W8 := ⟨_, rfl⟩
        rw [hW8] at hap R8 L8 hst8 HB8 Q8
        obtain ⟨hM8, hat8, her8⟩ := hap
        have hlM8 := hM8.load
        have hsM := madeA_size h (.slice ao2 fs'.length cap2) e' X'
        have hoM := madeA_one (lv := .slice ao2 fs'.length cap2) rfl h e' X'
        have hstM := store_all R8.made (madeA h (.slice ao2 fs'.length cap2) e' X') (by rw [madeA_size, madeA_size]) hoM
        have R9 := R8.whole L8 hlb8
        have hsM6 := madeA_size h (.slice ao' fs.length cap') e X
        have HU9 := Lib.hid (show Upd (fun i => i = bM) W8 (W8.setRow bM (madeA h (.slice ao2 fs'.length cap2) e' X')) from (Upd.refl (fun i => i = bM) W8).setRow (fun _ => rfl) _)
        obtain ⟨AP, hAP⟩ : ∃ AP, apA h (.slice ao2 fs'.length cap2) e' X' at_ er = AP := ⟨_, rfl⟩
        obtain ⟨M9, hM9⟩ : ∃ M9, madeA h (.slice ao2 fs'.length cap2) e' X' = M9 := ⟨_, rfl⟩
        rw [hAP] at hst8 hsAp hW8 ⊢
        rw [hM9] at hlM8 hstM R9 HU9 hsM
        have HR9 := Lib.hid R9
        have HW8 := Lib.hid hW8
        clear hAP hM9 hoM hoAp hM8 L8 L7 R7 R8 hBa hao hW8 R9 HR6 Q6 HB6
        obtain ⟨W9, hW9⟩ : ∃ W9, W8.setRow bM M9 = W9 := ⟨_, rfl⟩
        rw [hW9] at hstM HR9 HU9
        obtain ⟨WW, P9, hX9⟩ := HR9.out.put
        have hwl : WW.length ≤ 16 := by have := P9.2.2.2.2; have := P9.2.2.2.1.e16; omega
        have KRd := Lib.hid (lread_any P9.1 n (by omega) (by omega) (by omega) (n : Int) rfl X' hX9)
        have HB9 := Lib.hid (HB8.out.trans (HU9.out.below HB8.out.size (fun i hi hc => by have := HR9.out.mb.1; omega)))
        have Q9 := Lib.hid (HU9.out.at_ Q8.out (fun hc => by have := HR9.out.mb.1; omega))
        have ksz := madeA_size h (.slice ao2 fs'.length cap2) e' X'
        clear P9 hX9 hwl hW9 HU9 HB8 Q8 ksz
        go_wp2_with fail
        refine KRd.out.mono ?_
        rintro x w10 ⟨rfl, hb10⟩
        have R10 := HR9.out.below hb10
        have hBr : Below w10.heap.size w10 (w10.alloc (.cells (rdA X' true) 79)) := (Below.refl _ _).alloc (Nat.le_refl _) _
        have R11 := R10.below hBr
        have hR11 := alloc_at w10 (.cells (rdA X' true) 79)
        have hsr := rdA_size X' true
        have hst11 := store_new w10 w10.heap.size rfl ZR (rdA X' true) 79 (by rw [hzrs, hsr]) (rdA_one _ _)
        have HB11 := Lib.hid ((HB9.out.trans (hb10.mono HB9.out.size)).trans (hBr.mono (by have := HB9.out.size; have := hb10.size; omega)))
        have Q11 := Lib.hid (later_of (later_of Q9.out hb10) hBr)
        obtain ⟨W11, hW11⟩ : ∃ W11, w10.alloc (.cells (rdA X' true) 79) = W11 := ⟨_, rfl⟩
        rw [hW11] at R11 hR11 hst11 HB11 Q11
        obtain ⟨RD, hRD⟩ : ∃ RD, rdA X' true = RD := ⟨_, rfl⟩
        have HR11 := Lib.hid R11
        have hMade := R11.made
        have hS0 := rdS_of (h := h) (g := w10.heap.size) hMade hR11 (Below.refl W11.heap.size W11).drew
        have HSS := Lib.hid (fun (W : World) (hb : Below W11.heap.size W11 W) => rdS_of (h := h) (g := w10.heap.size) hMade hR11 hb)
        rw [hRD] at hst11 hsr
        have heq := fun W => eq_secs X' W
        obtain ⟨WX, P11, _⟩ := HR11.out.put
        have KE := Lib.hid (fun (W : World) (hS : RdS bM w10.heap.size (.slice ao2 fs'.length cap2) e' X' W11 W) => end_any (SegIs.stays.below P11.2.1 hS.2.2.2.2.2))
        have KLn := Lib.hid (fun (W : World) (hS : RdS bM w10.heap.size (.slice ao2 fs'.length cap2) e' X' W11 W) => len_any (SegIs.stays.below P11.2.1 hS.2.2.2.2.2))
        have HRD := Lib.hid hRD
        clear R10 hBr hb10 R11 hR11 hMade HB9 Q9 HR9 hW11 hRD P11 KRd
        rw [HRD.out]
        go_wp2_with fail
        (go_region_held3 (fun W => W.cell? ⟨w10.heap.size, 16, none⟩ = some (.bool true) ∧ (loadVar 49 ⟨w10.heap.size, 0, none⟩).run Try.prog W = .ok (.agg (secA X')) W ∧ (loadVar 49 ⟨bM, 6, none⟩).run Try.prog W = .ok (.agg (secA X')) W ∧ W.cell? ⟨bM, 5, none⟩ = some (.int .i64 e') ∧ W.cell? ⟨bM, 4, none⟩ = some (.slice ao2 fs'.length cap2) ∧ Below W11.heap.size W11 W)
          (first | assumption | exact hS0)
          (first
          | (go_at_call 38; (with_reducible refine (KE.out _ (by assumption)).mono ?_); rintro x we ⟨rfl, rfl⟩)
          | (go_at_call 39; (with_reducible refine (KLn.out _ (by assumption)).mono ?_); rintro x we ⟨rfl, rfl⟩)))
        all_goals
          have hBf := (‹_ ∧ _ ∧ _ ∧ _ ∧ _ ∧ Below _ _ _›).2.2.2.2.2
          go_wp2_with fail
          go_roundw
          case rel => exact ⟨j + 1, fs', e', X', ao2, cap2, F', G', hlt, by simp, HR11.out.below hBf, by omega, HB11.out.trans (hBf.mono HB11.out.size), later_of Q11.out hBf⟩
          case measure => simp [intOf]; omega
      · obtain rfl : j = l.length := by omega
        clear hlt hj
        obtain ⟨W, P, hX⟩ := HR.out.put
        have hsG : G s := by
          obtain ⟨fv, hs, hrow, hne, hG⟩ := P.2.1
          exact (hG s).2 (.inl rfl)
        have hfl := P.2.2.2.1.runs.le
        have hf16 := P.2.2.2.1.e16
        have KSl := Lib.hid (seal_seg P.2.1)
        have hbf := fun W => run_build (P := Try.prog) W 55 #[(0, .int .i64 1)] #[.int .i64 1, .string eB] (by kernel_rfl)
        have hqz := lt_of Q.out
        have hMlt := lt_of HR.out.made
        clear P hX
        go_wp2_with fail
        refine KSl.out.mono ?_
        rintro x w6 ⟨rfl, S6, U6⟩
        have HB6 := Lib.hid (HB.out.trans (U6.below HB.out.size (fun i hi hc => by have := HR.out.fG s hsG; omega)))
        have Q6 := Lib.hid (U6.at_ Q.out (fun hc => by have := HR.out.fG s hsG; omega))
        have M6 := Lib.hid (U6.at_ HR.out.made (fun hc => HR.out.mb.2.2 (hc ▸ hsG)))
        have L6 := Lib.hid (HR.out.list.keep U6 (fun a ha hc => (HR.out.lb a ha).2.2.1 (hc ▸ hsG)))
        have KA := Lib.hid (append_sealed S6 1 eB)
        have HS6 := Lib.hid S6
        clear S6 U6 KSl HR HB Q
        go_wp2_with fail
        refine KA.out.mono ?_
        rintro x w7' ⟨rfl, hb7⟩
        have HB7' := Lib.hid (HB6.out.trans (hb7.mono HB6.out.size))
        have q7 := later_of Q6.out hb7
        have m7 := later_of M6.out hb7
        have l7 := L6.out.below hb7
        have s7 := SegIs.stays.below HS6.out hb7
        have hS0 := exS_of (h := h) m7 q7 (Below.refl w7'.heap.size w7').drew
        have HC := Lib.hid (fun (w1 W : World) (hS : ExS h w.heap.size bM (.slice ao' fs.length cap') w7' w1) (hb : Below w1.heap.size w1 W) => exS_call (h := h) m7 q7 hS hb)
        have KSd := Lib.hid (fun (W : World) (hS : ExS h w.heap.size bM (.slice ao' fs.length cap') w7' W) => sealed_any (SegIs.stays.below s7 hS.2.2))
        have KFr := Lib.hid (fun (W : World) (hS : ExS h w.heap.size bM (.slice ao' fs.length cap') w7' W) => (frames_any (SegIs.stays.below s7 hS.2.2) (by omega)).mono (fun x w9 ⟨v', hx, hrow, hb⟩ => by
          obtain ⟨bo, bc, rfl, hfr⟩ := FrsAt.of_row hrow
          exact (⟨bo, bc, hx, hfr, hb⟩ : ∃ (bo : Option Addr) (bc : Nat), x = .returned (.slice bo fs.length bc) ∧ FrsAt w9 bo fs ∧ Below W.heap.size W w9)))
        have KLs := Lib.hid (fun (W : World) (hS : ExS h w.heap.size bM (.slice ao' fs.length cap') w7' W) => (l7.below hS.2.2).frs)
        have KHd := Lib.hid (fun (W : World) (hS : ExS h w.heap.size bM (.slice ao' fs.length cap') w7' W) => header_any (SegIs.stays.below s7 hS.2.2))
        have KNm := Lib.hid (fun (W : World) (hS : ExS h w.heap.size bM (.slice ao' fs.length cap') w7' W) => snumber_any (SegIs.stays.below s7 hS.2.2))
        have hfm : fs.length ≤ 1000000 := by omega
        clear q7 m7 l7 s7 hb7 KA HB6 Q6 M6 L6 HS6
        go_wp2_with fail
        (go_region_held3 (fun W => (loadVar 41 ⟨w.heap.size, 0, none⟩).run Try.prog W = .ok (hdV h.1 h.2.1 h.2.2.1 h.2.2.2) W ∧ W.cell? ⟨bM, 4, none⟩ = some (.slice ao' fs.length cap') ∧ Below w7'.heap.size w7' W)
          (first | assumption | exact hS0 | exact HC.out _ _ (by assumption) hb)
          (first
          | (go_at_call 40; (with_reducible refine (KSd.out _ (by assumption)).mono ?_); rintro x we ⟨rfl, rfl⟩)
          | (go_at_call 37; (with_reducible refine (KFr.out _ (by assumption)).mono ?_); rintro x we ⟨bo, bc, rfl, rg, hb⟩)
          | (go_at_call 36; (with_reducible refine (same_any rg (KLs.out _ (by assumption)) _ _ hfm).mono ?_); rintro x we ⟨rfl, hb⟩)
          | (go_at_call 35; (with_reducible refine (KHd.out _ (by assumption)).mono ?_); rintro x we ⟨rfl, hb⟩)
          | (go_at_call 45; (with_reducible refine (KNm.out _ (by assumption)).mono ?_); rintro x we ⟨rfl, rfl⟩)
          | (go_at_call 25; (with_reducible refine (put_any _).mono ?_); rintro x we ⟨rfl, hb⟩)))
        all_goals
          have hBf := (‹_ ∧ _ ∧ Below _ _ _›).2.2
          go_wp2_with fail
          go_ret
          exact ⟨rfl, HB7'.out.trans (hBf.mono HB7'.out.size)⟩
theorem puts_any (a b c d n : Int) (hb : 0 ≤ b ∧ b < 4294967296) (hc : 0 ≤ c ∧ c < 4294967296) {w : World} {ao : Option Addr} {l : List Fr} (cap : Nat) (hA : FrsAt w ao l) (hl : l.length ≤ 9223372036854775807) (hsz : ∀ x ∈ l, x.2.size ≤ 9223372036854775807) :
    Calls Try.prog 6 #[hdV a b c d, .slice ao l.length cap, .int .i64 n] w fun x w' => x = .returned (.bool true) ∧ Below w.heap.size w w' := by
  by_cases hlg : lgB l = true
  · exact puts_put a b c d n cap hA hl hsz (.inl hlg)
  by_cases hr : n < 0 ∨ 1 < n
  · exact puts_put a b c d n cap hA hl hsz (.inr (.inl hr))
  by_cases hm : mayB a d = true
  · obtain ⟨m1, m2, m3, m4⟩ := mayB_true hm
    obtain ⟨A, rfl⟩ := Int.eq_ofNat_of_zero_le (show 0 ≤ a by omega)
    obtain ⟨B, rfl⟩ := Int.eq_ofNat_of_zero_le hb.1
    obtain ⟨C, rfl⟩ := Int.eq_ofNat_of_zero_le hc.1
    obtain ⟨D, rfl⟩ := Int.eq_ofNat_of_zero_le m3
    obtain ⟨N, rfl⟩ := Int.eq_ofNat_of_zero_le (show 0 ≤ n by omega)
    exact puts_walk (A, B, C, D) ⟨by show 1 ≤ A; omega, by show A ≤ 65535; omega, by show B < 4294967296; omega, by show C < 4294967296; omega, by show D ≤ 1099511627776; omega⟩ hm cap hA (by simpa using hlg) N (by omega)
  · exact puts_put a b c d n cap hA hl hsz (.inr (.inr (by simpa using hm)))
end Go.Proofs.Ytoabdpobpmbckaa.Print
