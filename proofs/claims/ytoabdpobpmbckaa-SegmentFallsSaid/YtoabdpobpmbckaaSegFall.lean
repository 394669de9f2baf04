/- SegmentFalls, the walk. -/
import Derived.Test.YtoabdpobpmbckaaFallV
namespace Go.Proofs.Ytoabdpobpmbckaa.Print
open Go.RowKit
attribute [local go_sem] run_loadVar_scalar

theorem FallAt.there {v s : Nat} {h : H4} {lies : List (List UInt8)} {e0 sure : Nat} {done : List Fr} {fu : Int} {dead : Bool} {w : World} {F G : Foot} (P : FallAt v s h lies e0 sure done fu dead w F G) : (∀ i, F i → i < w.heap.size) ∧ ∀ i, G i → i < w.heap.size := by
  obtain ⟨W, fs, e, V, S, A, I⟩ := P
  exact ⟨ViewIs.there V, SegIs.there S⟩
theorem FallAt.stays {v s : Nat} {h : H4} {lies : List (List UInt8)} {e0 sure : Nat} {done : List Fr} {fu : Int} {dead : Bool} {w w' : World} {F G S : Foot} (P : FallAt v s h lies e0 sure done fu dead w F G) (hU : Upd S w w') (hF : ∀ i, F i → ¬ S i) (hG : ∀ i, G i → ¬ S i) : FallAt v s h lies e0 sure done fu dead w' F G := by
  obtain ⟨W, fs, e, V, S, A, I⟩ := P
  exact ⟨W, fs, e, ViewIs.stays V hU hF, SegIs.stays S hU hG, A, I⟩
theorem FrsAt.first {w : World} {ao : Option Addr} {l : List Fr} (h : FrsAt w ao l) (n : Nat) : FrsAt w ao (l.take n) := by
  intro i hi
  have hil : i < l.length := by rw [List.length_take] at hi; omega
  obtain ⟨a, ha, hc⟩ := h i hil
  exact ⟨a, ha, fun j u hu => hc j u (by rw [List.getElem_take] at hu; exact hu)⟩
theorem row_slice {w : World} {B : Nat} {T : TypeId} {k n : Nat} {v : Value} {xs : List Value} (h : w.ownsRow B T k v n xs) : ∃ (ao : Option Addr) (ac : Nat), v = .slice ao n ac := by
  rcases h.2 with ⟨h1, h0⟩ | ⟨g, cap, cur, h1, _⟩
  · exact ⟨none, 0, by rw [h1, h0]⟩
  · exact ⟨_, _, h1⟩
theorem hold_hd {P : Program} {T : TypeId} {q : Addr} {v : Value} {wB w1 w' : World} (KH : ∀ W, Below wB.heap.size wB W → (loadVar T q).run P W = .ok v W) (h : (loadVar T q).run P w1 = .ok v w1 ∧ Below wB.heap.size wB w1) (hb : Below w1.heap.size w1 w') :
    (loadVar T q).run P w' = .ok v w' ∧ Below wB.heap.size wB w' := ⟨KH _ (h.2.trans (hb.mono h.2.size)), h.2.trans (hb.mono h.2.size)⟩
theorem hold_hd0 {P : Program} {T : TypeId} {q : Addr} {v : Value} {wB : World} (KH : ∀ W, Below wB.heap.size wB W → (loadVar T q).run P W = .ok v W) : (loadVar T q).run P wB.drew = .ok v wB.drew ∧ Below wB.heap.size wB wB.drew := ⟨KH _ (Below.refl _ _).drew, (Below.refl _ _).drew⟩
theorem slice_to (a : Option Addr) (len cap n : Nat) (hn : n ≤ cap) (W : World) : (Instr.slice 37 (.slice a len cap) none (some (.int .i64 (n : Int))) none).run Try.prog W = .ok (.slice a n cap) W := by
  have h0 : (0 : Int) ≤ (n : Int) := by omega
  have h1 : (n : Int) ≤ (cap : Int) := by omega
  have hm : ∀ s, a.map (·.add (0 * s)) = a := fun s => by
    cases a with
    | none => rfl
    | some x => obtain ⟨b, o, m⟩ := x; cases m <;> simp [Addr.add]
  have hs : ∀ s, sliced a 0 n cap s = .slice a n cap := fun s => by unfold sliced; rw [hm]; simp
  rw [run_slice_h _ 37 a len cap (by kernel_rfl) .i64 n h0 h1]
  simp only [Int.toNat_natCast, hs]
  go_simp
theorem slice_first (a : Option Addr) (len cap n : Nat) (hn : n ≤ cap) (W : World) : (Instr.sliceAt 37 (.slice a len cap) none (some (.int .i64 (n : Int))) none).run Try.prog W = .ok (.slice a n cap) W := by
  rw [run_sliceAt_slice _ 37 _ _ _ _ (by kernel_rfl), slice_to a len cap n hn]
theorem fall_cells {w : World} {b : Nat} {x y z : Value} {t : TypeId} (h : w.heap[b]? = some (.cells #[x, y, z] t)) : w.cell? ⟨b, 0, none⟩ = some x ∧ w.cell? ⟨b, 1, none⟩ = some y ∧ w.cell? ⟨b, 2, none⟩ = some z := by
  refine ⟨?_, ?_, ?_⟩ <;> rw [cell_of h] <;> rfl
theorem load_hdr {w : World} {b : Nat} {h : H4} (hW : w.heap[b]? = some (.cells #[.int .i64 h.1, .int .u32 h.2.1, .int .u32 h.2.2.1, .int .i64 h.2.2.2] 41)) : (loadVar 41 ⟨b, 0, none⟩).run Try.prog w = .ok (hdV h.1 h.2.1 h.2.2.1 h.2.2.2) w :=
  run_loadVar_row w b 41 41 #[.int .i64 h.1, .int .u32 h.2.1, .int .u32 h.2.2.1, .int .i64 h.2.2.2] (0, 0) _ hW Try.underlying41 rfl (by kernel_rfl)
abbrev hdObj (h : H4) : Obj := .cells #[.int .i64 h.1, .int .u32 h.2.1, .int .u32 h.2.2.1, .int .i64 h.2.2.2] 41
abbrev fallObj (fl fz : Int) (ko : Option Addr) (n kc : Nat) : Obj := .cells #[.int .i64 fl, .int .i64 fz, .slice ko n kc] 85
abbrev fallV (fl fz : Int) (ko : Option Addr) (n kc : Nat) : Value := .agg #[.int .i64 fl, .int .i64 fz, .slice ko n kc]

set_option maxRecDepth 100000 in
set_option maxHeartbeats 1600000 in
/-- What is not gone through here: put. -/
theorem falls_put (a b c d : Int) {w : World} {ao : Option Addr} {l : List Fr} (cap : Nat) (hA : FrsAt w ao l) (hl : l.length ≤ 9223372036854775807) (hsz : ∀ x ∈ l, x.2.size ≤ 9223372036854775807) (fl fz : Int) (ko : Option Addr) (n kc : Nat) (hno : lgB l = true ∨ mayB a d = false ∨ 60 < n) :
    Calls Try.prog 8 #[hdV a b c d, .slice ao l.length cap, fallV fl fz ko n kc] w fun x w' => x = .returned (.bool true) ∧ Below w.heap.size w w' := by
  have qh := alloc_old (alloc_at w (.cells #[.int .i64 a, .int .u32 b, .int .u32 c, .int .i64 d] 41)) (fallObj fl fz ko n kc)
  have qq := alloc_at' (w.alloc (.cells #[.int .i64 a, .int .u32 b, .int .u32 c, .int .i64 d] 41)) (fallObj fl fz ko n kc) (w.heap.size + 1) (by simp)
  have hB : Below w.heap.size w ((w.alloc (.cells #[.int .i64 a, .int .u32 b, .int .u32 c, .int .i64 d] 41)).alloc (fallObj fl fz ko n kc)) := ((Below.refl _ _).alloc (Nat.le_refl _) _).alloc (by simp) _
  have KL := Lib.hid (large_any (hA.below hB) cap hl hsz)
  have QH := Lib.hid qh
  have QQ := Lib.hid qq
  have HB := Lib.hid hB
  clear hA hl hsz qh qq hB
  go_enter Try.func8, Try.ntmps8
  go_wp2_with fail
  refine KL.out.mono ?_
  rintro x w1 ⟨rfl, hb1⟩
  have q1 := later_of QH.out hb1
  have qq1 := later_of QQ.out hb1
  have HB1 := Lib.hid (HB.out.trans (hb1.mono HB.out.size))
  clear hb1 HB QH QQ KL
  by_cases hlg : lgB l = true
  · rw [hlg]
    go_wp2_with fail
    refine (put_any _).mono ?_
    rintro x w2 ⟨rfl, hb2⟩
    go_wp2
    go_ret
    exact ⟨rfl, HB1.out.trans (hb2.mono HB1.out.size)⟩
  · have hm := hno.resolve_left hlg
    have hlf : lgB l = false := by simpa using hlg
    rw [hlf]
    clear hno hlg hlf
    obtain ⟨c0, c1, c2, c3, _⟩ := four_of q1
    go_wp2_with fail
    refine (lref_any a b c d _).mono ?_
    rintro x w2 ⟨rfl, hb2⟩
    have HB2 := Lib.hid (HB1.out.trans (hb2.mono HB1.out.size))
    have qq2 := later_of qq1 hb2
    clear hb2 c0 c1 c2 c3
    go_wp2_with fail
    refine (may_any a b c d _).mono ?_
    rintro x w3 ⟨rfl, hb3⟩
    have HB3 := Lib.hid (HB2.out.trans (hb3.mono HB2.out.size))
    have qq3 := later_of qq2 hb3
    clear hb3
    cases hmb : mayB a d with
    | false =>
      go_wp2_with fail
      refine (put_any _).mono ?_
      rintro x w4 ⟨rfl, hb4⟩
      go_wp2
      go_ret
      exact ⟨rfl, HB3.out.trans (hb4.mono HB3.out.size)⟩
    | true =>
      have hn : 60 < n := hm.resolve_left (by rw [hmb]; simp)
      have k60 : decide ((60 : Int) < (n : Int)) = true := decide_eq_true (by omega)
      obtain ⟨e0, e1, e2⟩ := fall_cells qq3
      go_wp2_with fail
      refine (put_any _).mono ?_
      rintro x w4 ⟨rfl, hb4⟩
      go_wp2
      go_ret
      exact ⟨rfl, HB3.out.trans (hb4.mono HB3.out.size)⟩

set_option maxRecDepth 100000 in
set_option maxHeartbeats 6400000 in
attribute [-go_sem] loadVar Instr.buildSlice in
theorem falls_walk (h : H4) (hf : HFits h) (hmay : mayB h.1 h.2.2.2 = true) {w : World} {ao : Option Addr} {l : List Fr} (cap : Nat) (hA : FrsAt w ao l) (hlg : lgB l = false) (fl fz : Int) (hfz : fz ≤ 9223372036854775807) (ko : Option Addr) (kc : Nat) (ks : List K2) (hK : KeepsAt w ko ks) (hks : ks.length ≤ 60) :
    Calls Try.prog 8 #[hdV h.1 h.2.1 h.2.2.1 h.2.2.2, .slice ao l.length cap, fallV fl fz ko ks.length kc] w fun x w' => x = .returned (.bool true) ∧ Below w.heap.size w w' := by
  obtain ⟨hl40, hl900⟩ := lgB_false hlg
  obtain ⟨S7, hS7⟩ : ∃ n : Nat, n = (h.2.2.1 + 1) % 4294967296 := ⟨_, rfl⟩
  have hst := hf.2.2.2.1
  have hwr : IntKind.u32.wrap ((h.2.2.1 : Int) + 1) = (S7 : Int) := by rw [IntKind.wrap_u32]; omega
  have hf7 : HFits (7, 3, S7, 0) := ⟨by show (1 : Nat) ≤ 7; omega, by show (7 : Nat) ≤ 65535; omega, by show (3 : Nat) < 4294967296; omega, by show S7 < 4294967296; omega, by show (0 : Nat) ≤ 1099511627776; omega⟩
  have hne7 : S7 ≠ h.2.2.1 := by omega
  have hkb : ∀ a, ko = some a → 0 < ks.length → a.block < w.heap.size := by
    rintro a rfl h0
    obtain ⟨a', ha, hc⟩ := hK 0 h0
    cases ha
    have := World.block_lt_of_cell? w _ (hc 0 _ rfl)
    rwa [addr_block] at this
  have hzo : ∀ k, k < 16 → Other h.2.2.1 ((zeroDisk 36).getD (3 + k) []) := fun k hk => .inl (by rw [List.getD_eq_getElem?_getD, zeroDisk_at _ _ (by omega)]; rfl)
  have hzo7 : ∀ k, k < 16 → Other S7 ((zeroDisk 36).getD (3 + k) []) := fun k hk => .inl (by rw [List.getD_eq_getElem?_getD, zeroDisk_at _ _ (by omega)]; rfl)
  obtain ⟨i0, hi0, hz0, hz1, hz2⟩ := info_parts info_fr
  have qh := alloc_old (alloc_at w (hdObj h)) (fallObj fl fz ko ks.length kc)
  have qq := alloc_at' (w.alloc (hdObj h)) (fallObj fl fz ko ks.length kc) (w.heap.size + 1) (by simp)
  have hB : Below w.heap.size w ((w.alloc (hdObj h)).alloc (fallObj fl fz ko ks.length kc)) := ((Below.refl _ _).alloc (Nat.le_refl _) _).alloc (by simp) _
  have KL := Lib.hid (large_any (hA.below hB) cap (by omega) (fun x hx => by have := hl900 x hx; omega))
  have QH := Lib.hid qh
  have QQ := Lib.hid qq
  have HB := Lib.hid hB
  have HA := Lib.hid hA
  have HF := Lib.hid hf
  have HF7 := Lib.hid hf7
  have HK := Lib.hid hK
  have HKB := Lib.hid hkb
  have HZ7 := Lib.hid hzo7
  have HNE := Lib.hid hne7
  clear hA hf hf7 hK hkb qh qq hB hzo hzo7 hne7 hS7
  go_enter Try.func8, Try.ntmps8
  go_wp2_with fail
  refine KL.out.mono ?_
  rintro x w1 ⟨rfl, hb1⟩
  have q1 := later_of QH.out hb1
  have qq1 := later_of QQ.out hb1
  have HB1 := Lib.hid (HB.out.trans (hb1.mono HB.out.size))
  have hld1 := load_hdr q1
  clear hb1 HB QH QQ KL
  rw [hlg]
  go_wp2_with fail
  refine (lref_any _ _ _ _ _).mono ?_
  rintro x w2 ⟨rfl, hb2⟩
  have HB2 := Lib.hid (HB1.out.trans (hb2.mono HB1.out.size))
  have q2 := later_of q1 hb2
  have qq2 := later_of qq1 hb2
  clear hb2 q1 qq1 HB1 hld1
  go_wp2_with fail
  refine (may_any _ _ _ _ _).mono ?_
  rintro x w3 ⟨rfl, hb3⟩
  have HB3 := Lib.hid (HB2.out.trans (hb3.mono HB2.out.size))
  have q3 := later_of q2 hb3
  have qq3 := later_of qq2 hb3
  clear hb3 q2 qq2 HB2
  rw [hmay]
  have k60 : decide ((60 : Int) < (ks.length : Int)) = false := decide_eq_false (by omega)
  obtain ⟨f0, f1, f2⟩ := fall_cells qq3
  go_wp2_with fail
  refine (fresh13_any _).mono ?_
  rintro x w4 ⟨v, F4, rfl, V4, hb4, hF4⟩
  have HB4 := Lib.hid (HB3.out.trans (hb4.mono HB3.out.size))
  have q4 := later_of q3 hb4
  have qq4 := later_of qq3 hb4
  have hF4' : ∀ i, F4 i → w.heap.size + 2 ≤ i := fun i hi => by have := hF4 i hi; have := lt_of qq3; omega
  have KC := Lib.hid (fall_new V4 (zeroDisk_length 36) (7, 3, S7, 0) HF7.out HZ7.out 0 rfl)
  obtain ⟨c0, c1, c2, c3, _⟩ := four_of q4
  have Q4 := Lib.hid q4
  have QQ4 := Lib.hid qq4
  clear hb4 q3 qq3 HB3 V4 hF4 q4 qq4 f0 f1 f2
  go_wp2_with fail
  refine KC.out.mono ?_
  rintro x w5 ⟨s5, F5, G5, rfl, P5, U5, hFr5, hG5⟩
  have hF5 : ∀ i, F5 i → w.heap.size + 2 ≤ i := fun i hi => by
    rcases hFr5 i hi with hh | hh
    · exact hF4' i hh
    · have := lt_of QQ4.out; omega
  have hG5' : ∀ i, G5 i → w.heap.size + 2 ≤ i := fun i hi => by have := hG5 i hi; have := lt_of QQ4.out; omega
  have hB5 : Below w.heap.size w w5 := HB4.out.trans (U5.below HB4.out.size (fun i hi hc => by have := hF4' i hc; omega))
  have Q5 := Lib.hid (U5.at_ Q4.out (fun hc => by have := hF4' _ hc; omega))
  have QQ5 := Lib.hid (U5.at_ QQ4.out (fun hc => by have := hF4' _ hc; omega))
  have HP5 := Lib.hid P5
  have HB5 := Lib.hid hB5
  clear P5 U5 hFr5 hG5 hB5 hF4' KC HB4 Q4 QQ4 c0 c1 c2 c3
  go_wp2
  go_loopw [52] (fun i wr => ∃ (j : Nat) (done : List Fr) (F G : Foot), j ≤ l.length ∧ i = .int .i64 j ∧ FallAt v s5 (7, 3, S7, 0) (zeroDisk 36) 0 0 done (-1) false wr F G ∧ (∀ i, F i → w.heap.size + 2 ≤ i) ∧ (∀ i, G i → w.heap.size + 2 ≤ i) ∧ Below w.heap.size w wr ∧ wr.heap[w.heap.size]? = some (hdObj h) ∧ wr.heap[w.heap.size + 1]? = some (fallObj fl fz ko ks.length kc)) (fun i _ => l.length - (intOf i).toNat)
  case atStart => exact ⟨0, [], F5, G5, Nat.zero_le _, rfl, HP5.out, hF5, hG5', HB5.out, Q5.out, QQ5.out⟩
  case round =>
    obtain ⟨j, done, F, G, hj, rfl, P, hF, hG, hB, q, qq⟩ := hrel
    have HP := Lib.hid P
    have HB := Lib.hid hB
    have Q := Lib.hid q
    have QQ := Lib.hid qq
    clear P hB q qq
    by_cases hlt : j < l.length
    · obtain ⟨a, rfl, hld⟩ := (HA.out.below HB.out).load j hlt
      obtain ⟨x, hxx⟩ : ∃ x, l[j] = x := ⟨_, rfl⟩
      rw [hxx] at hld
      clear hxx
      obtain ⟨k, p⟩ := x
      have hBz : Below wr.heap.size wr (wr.alloc (.cells #[.int .i64 k, .string p] 55)) := (Below.refl _ _).alloc (Nat.le_refl _) _
      have KA := Lib.hid (fall_go (FallAt.below HP.out hBz) HF7.out k p)
      have hld2 := load_fr (w := wr.alloc (.cells #[.int .i64 k, .string p] 55)) (g := wr.heap.size) (alloc_at wr _)
      have HBz := Lib.hid hBz
      have hwz : w.heap.size + 2 ≤ wr.heap.size := by have := lt_of QQ.out; omega
      clear hBz
      go_wp2_with fail
      refine KA.out.mono ?_
      rintro x w6 ⟨a6, er6, fu6, dead6, F', G', rfl, P6, hal6, U6, hFr6, hGr6⟩
      obtain ⟨rfl, rfl⟩ := hal6 (by first | rfl | trivial) (by first | rfl | trivial)
      have hFG : ∀ i, i < w.heap.size + 2 → ¬ Both F G i := fun i hi hc => by
        rcases hc with hc | hc
        · have := hF i hc; omega
        · have := hG i hc; omega
      have hB6 : Below w.heap.size w w6 := (HB.out.trans (HBz.out.mono HB.out.size)).trans (U6.below (by have := HBz.out.size; omega) (fun i hi hc => hFG i (by omega) hc))
      have HP6 := Lib.hid P6
      have HB6 := Lib.hid hB6
      have Q6 := Lib.hid (U6.at_ (later_of Q.out HBz.out) (hFG _ (by omega)))
      have QQ6 := Lib.hid (U6.at_ (later_of QQ.out HBz.out) (hFG _ (by omega)))
      have HFG := Lib.hid (And.intro (show ∀ i, F' i → w.heap.size + 2 ≤ i from fun i hi => by
        rcases hFr6 i hi with hh | hh
        · exact hF i hh
        · have := HBz.out.size; omega) (show ∀ i, G' i → w.heap.size + 2 ≤ i from fun i hi => by
        rcases hGr6 i hi with hh | hh
        · exact hG i hh
        · have := HBz.out.size; omega))
      clear P6 U6 hFr6 hGr6 hB6 hFG hal6
      go_wp2
      go_roundw
      case rel => exact ⟨j + 1, _, F', G', hlt, by simp, HP6.out, HFG.out.1, HFG.out.2, HB6.out, Q6.out, QQ6.out⟩
      case measure => simp [intOf]; omega
    · obtain rfl : j = l.length := by omega
      clear hlt hj
      have KO := Lib.hid (fall_old HF7.out HP.out HNE.out)
      have hFG : ∀ i, i < w.heap.size + 2 → ¬ F i := fun i hi hc => by have := hF i hc; omega
      have hsz2 := lt_of QQ.out
      go_wp2_with fail
      refine KO.out.mono ?_
      rintro x w6 ⟨rfl, lies6, F6, V6, hl6, ho6, U6, hFr6⟩
      have hF6 : ∀ i, F6 i → w.heap.size + 2 ≤ i := fun i hi => by
        rcases hFr6 i hi with hh | hh
        · exact hF i hh
        · omega
      have hB6 : Below w.heap.size w w6 := HB.out.trans (U6.below HB.out.size (fun i hi hc => hFG i (by omega) hc))
      have q6 := U6.at_ Q.out (hFG _ (by omega))
      have qq6 := U6.at_ QQ.out (hFG _ (by omega))
      have hld6 := load_hdr q6
      have KC2 := Lib.hid (fall_new V6 hl6 h HF.out ho6 0 rfl)
      have Q6 := Lib.hid q6
      have QQ6 := Lib.hid qq6
      have HB6 := Lib.hid hB6
      clear V6 hl6 ho6 U6 hFr6 q6 qq6 hB6 KO HP HB Q QQ hF hG hFG HP5 HB5 Q5 QQ5 hF5 hG5' hsz2
      go_wp2_with fail
      refine KC2.out.mono ?_
      rintro x w7 ⟨s7, F7, G7, rfl, P7, U7, hFr7, hG7⟩
      have hsz2 := lt_of QQ6.out
      have hFG : ∀ i, i < w.heap.size + 2 → ¬ F6 i := fun i hi hc => by have := hF6 i hc; omega
      have hF7 : ∀ i, F7 i → w.heap.size + 2 ≤ i := fun i hi => by
        rcases hFr7 i hi with hh | hh
        · exact hF6 i hh
        · omega
      have hG7' : ∀ i, G7 i → w.heap.size + 2 ≤ i := fun i hi => by have := hG7 i hi; omega
      have HB7 := Lib.hid (HB6.out.trans (U7.below HB6.out.size (fun i hi hc => hFG i (by omega) hc)))
      have Q7 := Lib.hid (U7.at_ Q6.out (hFG _ (by omega)))
      have QQ7 := Lib.hid (U7.at_ QQ6.out (hFG _ (by omega)))
      have KF := Lib.hid (fall_flushed P7)
      clear P7 U7 hFr7 hG7 hF6 HB6 Q6 QQ6 KC2 hFG hsz2 hld6
      go_wp2_with fail
      refine KF.out.mono ?_
      rintro x w8 ⟨rfl, lies8, e8, F8, he8, P8, U8, hFr8⟩
      have hsz2 := lt_of QQ7.out
      have hFG : ∀ i, i < w.heap.size + 2 → ¬ F7 i := fun i hi hc => by have := hF7 i hc; omega
      have hF8 : ∀ i, F8 i → w.heap.size + 2 ≤ i := fun i hi => by
        rcases hFr8 i hi with hh | hh
        · exact hF7 i hh
        · omega
      have HB8 := Lib.hid (HB7.out.trans (U8.below HB7.out.size (fun i hi hc => hFG i (by omega) hc)))
      have Q8 := Lib.hid (U8.at_ Q7.out (hFG _ (by omega)))
      have QQ8 := Lib.hid (U8.at_ QQ7.out (hFG _ (by omega)))
      have HP8 := Lib.hid P8
      clear P8 U8 hFr8 hF7 HB7 Q7 QQ7 KF hFG hsz2
      go_wp2
      go_loopw [16, 17, 72] (fun dv sv i wr => ∃ (j : Nat) (done : List Fr) (sure e0 : Nat) (lies : List (List UInt8)) (fu : Int) (dead : Bool) (F G : Foot), j ≤ l.length ∧ i = .int .i64 j ∧ sv = .int .i64 sure ∧ wr.ownsRow 0 55 2 dv done.length (fcells done) ∧ 1 ≤ e0 ∧ FallAt v s7 h lies e0 sure done fu dead wr F G ∧ (∀ i, F i → w.heap.size + 2 ≤ i) ∧ (∀ i, G i → w.heap.size + 2 ≤ i) ∧ (∀ i, dv.ownBlock = some i → w.heap.size + 2 ≤ i ∧ ¬ F i ∧ ¬ G i) ∧ ((j : Int) ≤ fl → fu = -1 ∧ dead = false) ∧ done.length ≤ j ∧ Below w.heap.size w wr ∧ wr.heap[w.heap.size]? = some (hdObj h) ∧ wr.heap[w.heap.size + 1]? = some (fallObj fl fz ko ks.length kc)) (fun _ _ i _ => l.length - (intOf i).toNat)
      case atStart => exact ⟨0, [], 0, e8, lies8, -1, false, F8, G7, Nat.zero_le _, rfl, rfl, ⟨rfl, .inl ⟨rfl, rfl⟩⟩, he8, HP8.out, hF8, hG7', fun i hi => by simp [Value.ownBlock] at hi, fun _ => ⟨rfl, rfl⟩, Nat.le_refl _, HB8.out, Q8.out, QQ8.out⟩
      case round =>
        obtain ⟨j, done, sure, e0, lies, fu, dead, F, G, hj, rfl, rfl, hown, he0, P, hF, hG, hdF, hfu, hdj, hB, q, qq⟩ := hrel
        obtain ⟨dO, dc, rfl⟩ := row_slice hown
        have HP := Lib.hid P
        have HB := Lib.hid hB
        have Q := Lib.hid q
        have QQ := Lib.hid qq
        have HO := Lib.hid hown
        have HDF := Lib.hid hdF
        have HFU := Lib.hid hfu
        clear P hB q qq hown hdF hfu
        by_cases hlt : j < l.length
        · obtain ⟨a, rfl, hld⟩ := (HA.out.below HB.out).load j hlt
          obtain ⟨x, hxx⟩ : ∃ x, l[j] = x := ⟨_, rfl⟩
          rw [hxx] at hld
          clear hxx
          obtain ⟨k, p⟩ := x
          have hgz : wr.heap.size < (wr.alloc (.cells #[.int .i64 k, .string p] 55)).heap.size := by simp
          have hbz := alloc_at wr (.cells #[.int .i64 k, .string p] 55)
          have hBz : Below wr.heap.size wr (wr.alloc (.cells #[.int .i64 k, .string p] 55)) := (Below.refl _ _).alloc (Nat.le_refl _) _
          have hPz := FallAt.below HP.out hBz
          have hqz := later_of Q.out hBz
          have hqqz := later_of QQ.out hBz
          have hOz := ownsRow_below HO.out hBz
          have hwz : w.heap.size + 2 ≤ wr.heap.size := by have := lt_of QQ.out; omega
          have hbF : ¬ F wr.heap.size ∧ ¬ G wr.heap.size := ⟨fun hc => by have := HP.out.there.1 _ hc; omega, fun hc => by have := HP.out.there.2 _ hc; omega⟩
          have HBz := Lib.hid (HB.out.trans (hBz.mono HB.out.size))
          have HPz := Lib.hid hPz
          have HQz := Lib.hid hqz
          have HOz := Lib.hid hOz
          have HGz := Lib.hid hbz
          obtain ⟨f0, f1, f2⟩ := fall_cells hqqz
          have HQQz := Lib.hid hqqz
          clear hBz hPz hqz hqqz hOz hbz
          have hdl : ∀ i, (Value.slice dO done.length dc).ownBlock = some i → i < wr.heap.size := fun i hi => (HO.out.lt i hi).2
          have HDL := Lib.hid hdl
          have HFF := Lib.hid hF
          have HGG := Lib.hid hG
          clear hdl hF hG
          go_upto_if 80 with fail
          go_cut [17, 72] from 72 to 106 (fun sv iv wx => ∃ (sure7 e7 : Nat) (lies7 : List (List UInt8)) (fu7 : Int) (dead7 : Bool) (F7 : Foot), sv = .int .i64 sure7 ∧ iv = .int .i64 j ∧ 1 ≤ e7 ∧ FallAt v s7 h lies7 e7 sure7 done fu7 dead7 wx F7 G ∧ (∀ i, F7 i → w.heap.size + 2 ≤ i) ∧ (∀ i, (Value.slice dO done.length dc).ownBlock = some i → w.heap.size + 2 ≤ i ∧ ¬ F7 i ∧ ¬ G i) ∧ ¬ F7 wr.heap.size ∧
            (((j + 1 : Nat) : Int) ≤ fl → fu7 = -1 ∧ dead7 = false) ∧ Below w.heap.size w wx ∧ wx.heap[w.heap.size]? = some (hdObj h) ∧ wx.heap[w.heap.size + 1]? = some (fallObj fl fz ko ks.length kc) ∧ wx.ownsRow 0 55 2 (.slice dO done.length dc) done.length (fcells done) ∧ wx.heap[wr.heap.size]? = some (.cells #[.int .i64 k, .string p] 55) ∧ wr.heap.size < wx.heap.size)
          case first =>
            by_cases hqe : (j : Int) = fl
            · have k1 : ((j : Int) == fl) = true := by simp [hqe]
              obtain ⟨rfl, rfl⟩ := HFU.out (by omega)
              have HQE := Lib.hid hqe
              clear hqe
              have KFl := Lib.hid (fall_flushed HPz.out)
              go_wp2_with fail
              refine KFl.out.mono ?_
              rintro x w6 ⟨rfl, lies7, e7, F6, he7, P6, U6, hFr6⟩
              have hFG : ∀ i, i < w.heap.size + 2 → ¬ F i := fun i hi hc => by have := HFF.out i hc; omega
              have HB6 := Lib.hid (HBz.out.trans (U6.below HBz.out.size (fun i hi hc => hFG i (by omega) hc)))
              have Q6 := Lib.hid (U6.at_ HQz.out (hFG _ (by omega)))
              have qq6 := U6.at_ HQQz.out (hFG _ (by omega))
              have HO6 := Lib.hid (ownsRow_upd U6 HOz.out (fun i hi hc => (HDF.out i hi).2.1 hc))
              have HG6 := Lib.hid (U6.at_ HGz.out hbF.1)
              have KFu := Lib.hid (fall_fuse P6 fz hfz)
              clear f0 f1 f2
              obtain ⟨f0, f1, f2⟩ := fall_cells qq6
              have QQ6 := Lib.hid qq6
              have hsz6 := U6.size
              clear P6 U6 qq6 KFl
              go_wp2_with fail
              refine KFu.out.mono ?_
              rintro x w7 ⟨rfl, F7, P7, U7, hFr7⟩
              have hF6 : ∀ i, F6 i → w.heap.size + 2 ≤ i := fun i hi => by
                rcases hFr6 i hi with hh | hh
                · exact HFF.out i hh
                · have := HBz.out.size; omega
              have hFG : ∀ i, i < w.heap.size + 2 → ¬ F6 i := fun i hi hc => by have := hF6 i hc; omega
              have hzF6 : ∀ i, i ≤ wr.heap.size → ¬ F i → ¬ F6 i := fun i hi hn hc => by
                rcases hFr6 i hc with hh | hh
                · exact hn hh
                · omega
              have hzF7 : ∀ i, i ≤ wr.heap.size → ¬ F i → ¬ F7 i := fun i hi hn hc => by
                rcases hFr7 i hc with hh | hh
                · exact hzF6 i hi hn hh
                · omega
              have hg7 := U7.at_ HG6.out (hzF6 _ (Nat.le_refl _) hbF.1)
              have HREL := Lib.hid (show FallAt v s7 h lies7 e7 done.length done (max fz (-1)) false w7 F7 G ∧ (∀ i, F7 i → w.heap.size + 2 ≤ i) ∧ (∀ i, (Value.slice dO done.length dc).ownBlock = some i → w.heap.size + 2 ≤ i ∧ ¬ F7 i ∧ ¬ G i) ∧ ¬ F7 wr.heap.size ∧
                (((j + 1 : Nat) : Int) ≤ fl → max fz (-1) = -1 ∧ false = false) ∧ Below w.heap.size w w7 ∧ w7.heap[w.heap.size]? = some (hdObj h) ∧ w7.heap[w.heap.size + 1]? = some (fallObj fl fz ko ks.length kc) ∧ w7.ownsRow 0 55 2 (.slice dO done.length dc) done.length (fcells done) ∧ w7.heap[wr.heap.size]? = some (.cells #[.int .i64 k, .string p] 55) ∧ wr.heap.size < w7.heap.size from
                ⟨P7, fun i hi => by
                  rcases hFr7 i hi with hh | hh
                  · exact hF6 i hh
                  · omega, fun i hi => ⟨(HDF.out i hi).1, hzF7 i (by have := HDL.out i hi; omega) (HDF.out i hi).2.1, (HDF.out i hi).2.2⟩, hzF7 _ (Nat.le_refl _) hbF.1, fun hh => by have := HQE.out; omega,
                  HB6.out.trans (U7.below HB6.out.size (fun i hi hc => hFG i (by omega) hc)), U7.at_ Q6.out (hFG _ (by omega)), U7.at_ QQ6.out (hFG _ (by omega)), ownsRow_upd U7 HO6.out (fun i hi hc => hzF6 i (by have := HDL.out i hi; omega) (HDF.out i hi).2.1 hc), hg7, lt_of hg7⟩)
              clear P7 U7 hFr7 hFr6 hF6 hFG hzF6 hzF7 hg7 KFu f0 f1 f2
              go_wp2_with fail
              go_meet
              exact ⟨done.length, e7, lies7, max fz (-1), false, F7, rfl, rfl, he7, HREL.out.1, HREL.out.2.1, HREL.out.2.2.1, HREL.out.2.2.2.1, fun hh => ⟨(HREL.out.2.2.2.2.1 hh).1, rfl⟩, HREL.out.2.2.2.2.2⟩
            · have k1 : ((j : Int) == fl) = false := by simp [hqe]
              go_wp2_with fail
              go_meet
              exact ⟨sure, e0, lies, fu, dead, F, rfl, rfl, he0, HPz.out, HFF.out, HDF.out, hbF.1, fun hh => HFU.out (by omega), HBz.out, HQz.out, HQQz.out, HOz.out, HGz.out, hgz⟩
          case rest =>
            obtain ⟨sure7, e7, lies7, fu7, dead7, F7, rfl, rfl, he7, P7, hF7, hdF7, hbF7, hfu7, hB7, q7, qq7, hO7, hg7, hsz7⟩ := hcut
            have KA := Lib.hid (fall_go P7 HF.out k p)
            have hld7 := load_fr hg7
            have hFG : ∀ i, i < w.heap.size + 2 → ¬ Both F7 G i := fun i hi hc => by
              rcases hc with hc | hc
              · have := hF7 i hc; omega
              · have := HGG.out i hc; omega
            have HP7 := Lib.hid P7
            have HB7 := Lib.hid hB7
            have Q7 := Lib.hid q7
            have QQ7 := Lib.hid qq7
            have HO7 := Lib.hid hO7
            have HG7 := Lib.hid hg7
            have HDF7 := Lib.hid hdF7
            have HFU7 := Lib.hid hfu7
            clear P7 hB7 q7 qq7 hO7 hg7 hdF7 hfu7 HPz HBz HQz HQQz HOz HGz HFU HDF f0 f1 f2 hld HP HB Q QQ HO
            go_wp2_with fail
            refine KA.out.mono ?_
            rintro x w8 ⟨a8, er, fu8, dead8, F8, G8, rfl, P8, hal8, U8, hFr8, hGr8⟩
            have hF8 : ∀ i, F8 i → w.heap.size + 2 ≤ i := fun i hi => by
              rcases hFr8 i hi with hh | hh
              · exact hF7 i hh
              · omega
            have hG8 : ∀ i, G8 i → w.heap.size + 2 ≤ i := fun i hi => by
              rcases hGr8 i hi with hh | hh
              · exact HGG.out i hh
              · omega
            have HB8 := Lib.hid (HB7.out.trans (U8.below HB7.out.size (fun i hi hc => hFG i (by omega) hc)))
            have Q8 := Lib.hid (U8.at_ Q7.out (hFG _ (by omega)))
            have QQ8 := Lib.hid (U8.at_ QQ7.out (hFG _ (by omega)))
            have HO8 := Lib.hid (ownsRow_upd U8 HO7.out (fun i hi hc => hc.elim (HDF7.out i hi).2.1 (HDF7.out i hi).2.2))
            have hg8 := U8.at_ HG7.out (fun hc => hc.elim hbF7 hbF.2)
            have hsz8 := U8.size
            have HDF8 := Lib.hid (show ∀ i, (Value.slice dO done.length dc).ownBlock = some i → w.heap.size + 2 ≤ i ∧ ¬ F8 i ∧ ¬ G8 i from fun i hi => ⟨(HDF7.out i hi).1, fun hc => by
              rcases hFr8 i hc with hh | hh
              · exact (HDF7.out i hi).2.1 hh
              · have := HDL.out i hi; omega, fun hc => by
              rcases hGr8 i hc with hh | hh
              · exact (HDF7.out i hi).2.2 hh
              · have := HDL.out i hi; omega⟩)
            have HFU8 := Lib.hid (show ((j + 1 : Nat) : Int) ≤ fl → fu8 = -1 ∧ dead8 = false from fun hh => hal8 (HFU7.out hh).2 (HFU7.out hh).1)
            have HP8 := Lib.hid P8
            have hld8 := load_fr hg8
            have HG8 := Lib.hid hg8
            have HF8 := Lib.hid hF8
            have HG8' := Lib.hid hG8
            have hbs := fun (w' : World) => run_buildSlice_one (P := Try.prog) w' 37 55 _ 2 #[.int .i64 k, .string p] Try.underlying37 info_fr2 (by omega) (by omega) rfl
            clear P8 hal8 U8 hFr8 hGr8 hF8 hG8 hF7 hFG KA HP7 HB7 Q7 QQ7 HO7 HG7 HDF7 HFU7 hld7 hg8
            by_cases he : er = 0 ∨ er = 21
            · have HE := Lib.hid he
              rcases he with rfl | rfl
              all_goals
                go_wp2_with (at_builtin; refine wpList_append_lies _ rfl (.tmp 102) (.tmp 104) 37 rfl 0 55 i0 _ 2 24 Try.underlying37 hi0 hz0 hz1 hz2 rfl (by omega) (.slice dO done.length dc) _ _ rfl (HO8.out.alloc _) ⟨w8.heap.size, 0, none⟩ 1 1 (frC (k, p)) rfl rfl (World.news_of_block (cs := #[.int .i64 k, .string p]) (t := 55) (fr := (0, 0)) (heap_alloc_new w8 _)) (by simp [frC, Value.oneCell']) (by omega) (by unfold maxLen; omega) (by omega) (by simp) _ rfl ?_; intro gg cap9 w9 hown9 hgrow hat hlt9; have HOWN := Lib.hid hown9; have HGROW := Lib.hid hgrow; have HAT := Lib.hid hat; clear hown9 hgrow hat)
                go_roundw
                case rel =>
                  have hUa : Upd (fun i => (Value.slice dO done.length dc).ownBlock = some i) w8 w9 := ⟨HGROW.out.os, HGROW.out.tape, HGROW.out.output, Nat.le_trans (by simp) HGROW.out.size, fun i hi hn => (HGROW.out.block i (by simp; omega) (fun e => hn e.symm)).trans (Below.heap_alloc _ _ _ hi)⟩
                  have hP9 := HP8.out
                  rw [if_pos HE.out] at hP9
                  have hPt := hP9.there
                  have hg9 : w.heap.size + 2 ≤ gg ∧ ¬ F8 gg ∧ ¬ G8 gg := by
                    rcases HAT.out with hh | hh
                    · exact HDF8.out gg hh
                    · have hge : w8.heap.size ≤ gg := by rw [hh]; simp
                      exact ⟨by omega, fun hc => by have := hPt.1 gg hc; omega, fun hc => by have := hPt.2 gg hc; omega⟩
                  have hrel := (⟨j + 1, done ++ [(k, p)], sure7, e7, lies7, fu8, dead8, F8, G8, hlt, by simp, rfl, by rw [List.length_append, fcells_snoc]; exact HOWN.out, he7,
                    FallAt.stays hP9 hUa (fun i hi hc => (HDF8.out i hc).2.1 hi) (fun i hi hc => (HDF8.out i hc).2.2 hi), HF8.out, HG8'.out, fun i hi => by
                      have : i = gg := by simp [Value.ownBlock] at hi; omega
                      rw [this]; exact hg9, HFU8.out, by rw [List.length_append]; show done.length + 1 ≤ j + 1; omega,
                    HB8.out.trans (hUa.below HB8.out.size (fun i hi hc => by have := (HDF8.out i hc).1; omega)), hUa.at_ Q8.out (fun hc => by have := (HDF8.out _ hc).1; omega), hUa.at_ QQ8.out (fun hc => by have := (HDF8.out _ hc).1; omega)⟩ : ∃ (j' : Nat) (done' : List Fr) (sure' e0' : Nat) (lies' : List (List UInt8)) (fu' : Int) (dead' : Bool) (F' G' : Foot), j' ≤ l.length ∧ (Value.int .i64 ((j : Int) + 1)) = .int .i64 j' ∧ (Value.int .i64 (sure7 : Int)) = .int .i64 sure' ∧ w9.ownsRow 0 55 2 (.slice (some ⟨gg, 0, none⟩) (done.length + 1) cap9) done'.length (fcells done') ∧ 1 ≤ e0' ∧ FallAt v s7 h lies' e0' sure' done' fu' dead' w9 F' G' ∧ (∀ i, F' i → w.heap.size + 2 ≤ i) ∧ (∀ i, G' i → w.heap.size + 2 ≤ i) ∧ (∀ i, (Value.slice (some ⟨gg, 0, none⟩) (done.length + 1) cap9).ownBlock = some i → w.heap.size + 2 ≤ i ∧ ¬ F' i ∧ ¬ G' i) ∧ ((j' : Int) ≤ fl → fu' = -1 ∧ dead' = false) ∧ done'.length ≤ j' ∧ Below w.heap.size w w9 ∧ w9.heap[w.heap.size]? = some (hdObj h) ∧ w9.heap[w.heap.size + 1]? = some (fallObj fl fz ko ks.length kc))
                  exact hrel
                case measure => simp [intOf]; omega
            · have k2 : (er == 0) = false := by simp; omega
              have k3 : (er == 21) = false := by simp; omega
              go_wp2_with fail
              go_roundw
              case rel =>
                have hP9 := HP8.out
                rw [if_neg he] at hP9
                exact ⟨j + 1, done, sure7, e7, lies7, fu8, dead8, F8, G8, hlt, by simp, rfl, HO8.out, he7, hP9, HF8.out, HG8'.out, HDF8.out, HFU8.out, by omega, HB8.out, Q8.out, QQ8.out⟩
              case measure => simp [intOf]; omega
        · obtain rfl : j = l.length := by omega
          clear hlt hj
          obtain ⟨f0, f1, f2⟩ := fall_cells QQ.out
          have hsz2 := lt_of QQ.out
          have KCr := Lib.hid (fall_crash HP.out HF.out he0 ko kc ks (HK.out.keep (S := fun _ => False) (Upd.of_below HB.out) (fun _ _ _ hc => hc)) (fun a ha h0 hc => by have := HKB.out a ha h0; have := hF _ hc; omega) (by omega))
          have hFG : ∀ i, i < w.heap.size + 2 → ¬ F i := fun i hi hc => by have := hF i hc; omega
          go_wp2_with fail
          refine KCr.out.mono ?_
          rintro x w9 ⟨rfl, lies9, F9, V9, hhd, ⟨n, hn1, hn2, hgs⟩, U9, hFr9⟩
          obtain ⟨gs, hgs2⟩ : ∃ gs, done.take n = gs := ⟨_, rfl⟩
          have hgl : gs.length = n := by rw [← hgs2, List.length_take]; omega
          rw [hgs2] at hgs
          subst hgl
          have HB9 := Lib.hid (HB.out.trans (U9.below HB.out.size (fun i hi hc => hFG i (by omega) hc)))
          have Q9 := Lib.hid (U9.at_ Q.out (hFG _ (by omega)))
          have HO9 := Lib.hid (ownsRow_upd U9 HO.out (fun i hi hc => (HDF.out i hi).2.1 hc))
          have KLd := Lib.hid (fall_load V9 hhd hgs 0 rfl)
          have HGS := Lib.hid hgs2
          clear V9 hhd hgs U9 hFr9 KCr hFG f0 f1 f2 hsz2 HP QQ HB Q HO HFU HDF hF hG hgs2 HK HKB HA
          go_wp2_with fail
          refine KLd.out.mono ?_
          rintro x w10 ⟨t, e10, T, rfl, S10, hb10⟩
          have HB10 := Lib.hid (HB9.out.trans (hb10.mono HB9.out.size))
          have q10 := later_of Q9.out hb10
          have HO10 := Lib.hid (ownsRow_below HO9.out hb10)
          have HS10 := Lib.hid S10
          have KFr := Lib.hid (frames_any S10 (by omega))
          have Q10 := Lib.hid q10
          clear S10 hb10 q10 KLd HB9 Q9 HO9
          go_wp2_with fail
          refine KFr.out.mono ?_
          rintro x w11 ⟨v', rfl, hrow, hb11⟩
          obtain ⟨go, gc, rfl, hfr⟩ := FrsAt.of_row hrow
          obtain ⟨do', dc', hdv, hfd⟩ := FrsAt.of_row (ownsRow_below HO10.out hb11)
          obtain ⟨rfl, rfl⟩ : dO = do' ∧ dc = dc' := by simp at hdv; exact hdv
          have hfd2 := hfd.first gs.length
          rw [HGS.out] at hfd2
          have HB11 := Lib.hid (HB10.out.trans (hb11.mono HB10.out.size))
          have q11 := later_of Q10.out hb11
          have hcap : (gs.length : Int) ≤ (dc : Int) := by
            rcases HO10.out.2 with ⟨h1, h0⟩ | ⟨g, cap, cur, h1, _, _, hc, _⟩
            · have : done.length = 0 := h0
              omega
            · have : dc = cap := by simp at h1; exact h1.2
              omega
          have HT := Lib.hid (SegIs.stays.below HS10.out hb11)
          have k2 : (sure : Int) ≤ (gs.length : Int) := by omega
          have k3 : (gs.length : Int) ≤ (done.length : Int) := by omega
          have k5 : (0 : Int) ≤ (gs.length : Int) := by omega
          have hsl1 := fun W => slice_first dO done.length dc gs.length (by omega) W
          have hsl2 := fun W => slice_to dO done.length dc gs.length (by omega) W
          have k4 : min (gs.length : Int) (done.length : Int) = (gs.length : Int) := by omega
          have KLH := Lib.hid (fun (W8 : World) (hb : Below w11.heap.size w11 W8) => load_hdr (h := h) (later_of q11 hb))
          have KSm := Lib.hid (fun (w8 : World) (hS : (loadVar 41 ⟨w.heap.size, 0, none⟩).run Try.prog w8 = .ok (hdV h.1 h.2.1 h.2.2.1 h.2.2.2) w8 ∧ Below w11.heap.size w11 w8) => same_any (hfr.below hS.2) (hfd2.below hS.2) gc dc (by omega))
          have KHd := Lib.hid (fun (w8 : World) (hS : (loadVar 41 ⟨w.heap.size, 0, none⟩).run Try.prog w8 = .ok (hdV h.1 h.2.1 h.2.2.1 h.2.2.2) w8 ∧ Below w11.heap.size w11 w8) => header_any (SegIs.stays.below HT.out hS.2))
          clear hfr hfd hfd2 hrow hb11 q11 KFr HO10 Q10 HS10 hdv
          go_wp2_with fail
          (go_region_held3 (fun w' => (loadVar 41 ⟨w.heap.size, 0, none⟩).run Try.prog w' = .ok (hdV h.1 h.2.1 h.2.2.1 h.2.2.2) w' ∧ Below w11.heap.size w11 w')
            (first | assumption | exact hold_hd0 KLH.out | exact hold_hd KLH.out (by assumption) hb)
            (first
            | (go_at_call 36; (with_reducible refine (KSm.out _ (by assumption)).mono ?_); rintro x wm ⟨rfl, hb⟩)
            | (go_at_call 35; (with_reducible refine (KHd.out _ (by assumption)).mono ?_); rintro x wh ⟨rfl, hb⟩)
            | (go_at_call 25; (with_reducible refine (put_any _).mono ?_); rintro x wp ⟨rfl, hb⟩)))
          all_goals
            go_wp2_with fail
            go_ret
            exact ⟨rfl, HB11.out.trans ((‹_ ∧ Below _ _ _›).2.mono HB11.out.size)⟩
theorem falls_any (a b c d : Int) (hb : 0 ≤ b ∧ b < 4294967296) (hc : 0 ≤ c ∧ c < 4294967296) {w : World} {ao : Option Addr} {l : List Fr} (cap : Nat) (hA : FrsAt w ao l) (hl : l.length ≤ 9223372036854775807) (hsz : ∀ x ∈ l, x.2.size ≤ 9223372036854775807) (fl fz : Int) (hfz : fz ≤ 9223372036854775807) (ko : Option Addr) (kc : Nat) (ks : List K2) (hK : KeepsAt w ko ks) :
    Calls Try.prog 8 #[hdV a b c d, .slice ao l.length cap, fallV fl fz ko ks.length kc] w fun x w' => x = .returned (.bool true) ∧ Below w.heap.size w w' := by
  by_cases hlg : lgB l = true
  · exact falls_put a b c d cap hA hl hsz fl fz ko ks.length kc (.inl hlg)
  by_cases hm : mayB a d = true
  · by_cases hn : 60 < ks.length
    · exact falls_put a b c d cap hA hl hsz fl fz ko ks.length kc (.inr (.inr hn))
    obtain ⟨m1, m2, m3, m4⟩ := mayB_true hm
    obtain ⟨A, rfl⟩ := Int.eq_ofNat_of_zero_le (show 0 ≤ a by omega)
    obtain ⟨B, rfl⟩ := Int.eq_ofNat_of_zero_le hb.1
    obtain ⟨C, rfl⟩ := Int.eq_ofNat_of_zero_le hc.1
    obtain ⟨D, rfl⟩ := Int.eq_ofNat_of_zero_le m3
    exact falls_walk (A, B, C, D) ⟨by show 1 ≤ A; omega, by show A ≤ 65535; omega, by show B < 4294967296; omega, by show C < 4294967296; omega, by show D ≤ 1099511627776; omega⟩ hm cap hA (by simpa using hlg) fl fz hfz ko kc ks hK (by omega)
  · exact falls_put a b c d cap hA hl hsz fl fz ko ks.length kc (.inr (.inl (by simpa using hm)))
end Go.Proofs.Ytoabdpobpmbckaa.Print
