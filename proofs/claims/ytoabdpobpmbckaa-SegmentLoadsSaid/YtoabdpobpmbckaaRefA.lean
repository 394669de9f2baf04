/- weighlockref13: Append of a segment by value. -/
import Derived.Test.YtoabdpobpmbckaaRefM
namespace Go.Proofs.Ytoabdpobpmbckaa.Print
open Go.RowKit
attribute [local go_sem] run_loadVar_scalar

theorem rwrong_any (at_ : Nat) (k : Int) (p : ByteArray) (h2 : 1 ≤ at_) (h3 : at_ < 16) (w : World) :
    Calls Try.prog 75 #[.int .i64 at_, frV k p] w fun e w' => e = .returned (.int .i64 (wrongP k p.size)) ∧ Below w.heap.size w w' := by
  by_cases hk : k < 1 ∨ 255 < k
  · refine (rwrong_bad (at_ : Int) k p (hk.imp id (fun h => .inl h)) w).mono fun e w' ⟨he, hb⟩ => ⟨?_, hb⟩
    rw [he, wrongP, if_pos hk]
  · refine (rwrong_long (at_ : Int) k p (by omega) (by omega) (by omega) (by omega) (decide (773 < (p.size : Int))) rfl w).mono fun e w' ⟨he, hb⟩ => ⟨?_, hb⟩
    rw [he, wrongP, if_neg hk]
    by_cases hp : 773 < p.size
    · rw [if_pos hp, if_pos (by simp; omega)]
    · rw [if_neg hp, if_neg (by simp; omega)]
/-- Frames in memory from a block's first cell on, or none. -/
def LAt (w : World) (ao : Option Addr) (cap : Nat) (l : List Fr) : Prop := (ao = none ∧ cap = 0 ∧ l = []) ∨ ∃ g, ao = some ⟨g, 0, none⟩ ∧ 0 < l.length ∧ ∀ j u, (fcells l)[j]? = some u → w.cell? ⟨g, j, none⟩ = some u
theorem LAt.keep {S : Nat → Prop} {w w1 : World} {ao : Option Addr} {cap : Nat} {l : List Fr} (h : LAt w ao cap l) (hU : Upd S w w1) (hn : ∀ a, ao = some a → ¬ S a.block) : LAt w1 ao cap l := by
  rcases h with h | ⟨g, rfl, h0, hc⟩
  · exact .inl h
  · refine .inr ⟨g, rfl, h0, fun j u hu => ?_⟩
    have hcw := hc j u hu
    rw [World.cell?_of_block (a := ⟨g, j, none⟩) (hU.other g (World.block_lt_of_cell? w _ hcw) (hn _ rfl))]
    exact hcw
theorem LAt.below {w w1 : World} {ao : Option Addr} {cap : Nat} {l : List Fr} (h : LAt w ao cap l) (hb : Below w.heap.size w w1) : LAt w1 ao cap l := h.keep (S := fun _ => False) (Upd.of_below hb) (fun _ _ h => h)
theorem LAt.lt {w : World} {ao : Option Addr} {cap : Nat} {l : List Fr} (h : LAt w ao cap l) : ∀ a, ao = some a → a.block < w.heap.size := by
  rcases h with ⟨rfl, _⟩ | ⟨g, rfl, h0, hc⟩
  · intro a ha; cases ha
  · intro a ha
    cases ha
    exact World.block_lt_of_cell? w _ (hc 0 ((fcells l)[0]'(by rw [fcells_length]; omega)) (by rw [List.getElem?_eq_getElem]))
theorem LAt.frs {w : World} {ao : Option Addr} {cap : Nat} {l : List Fr} (h : LAt w ao cap l) : FrsAt w ao l := by
  rcases h with ⟨rfl, _, rfl⟩ | ⟨g, rfl, h0, hc⟩
  · exact fun i hi => absurd hi (by simp)
  · refine fun i hi => ⟨⟨g, 0, none⟩, rfl, fun j u hu => ?_⟩
    have hj : j < 2 := (List.getElem?_eq_some_iff.1 hu).1
    rw [Addr.add_lit, Nat.zero_add]
    exact hc _ u (by rw [fcells_at l i hi j hj]; exact hu)
theorem wrong_zero {k : Int} {n : Nat} (h : wrongP k n = 0) : 1 ≤ k ∧ k ≤ 255 ∧ n ≤ 773 := by
  unfold wrongP at h
  by_cases h1 : k < 1 ∨ 255 < k
  · rw [if_pos h1] at h; omega
  · rw [if_neg h1] at h
    by_cases h2 : 773 < n
    · rw [if_pos h2] at h; omega
    · omega
theorem row_slice2 {w : World} {B : Nat} {T : TypeId} {k n : Nat} {v : Value} {xs : List Value} (h : w.ownsRow B T k v n xs) : ∃ (ao : Option Addr) (ac : Nat), v = .slice ao n ac := by
  rcases h.2 with ⟨h1, h0⟩ | ⟨g, cap, cur, h1, _⟩
  · exact ⟨none, 0, by rw [h1, h0]⟩
  · exact ⟨_, _, h1⟩
/-- A frame as bytes, and as pieces. -/
theorem rput_pieces (st pl K : Nat) (p : ByteArray) (h1 : st < 4294967296) (h2 : pl < 65536) (h3 : K < 256) (h4 : p.size ≤ 773) :
    (∀ w, Calls Try.prog 76 #[.int .u32 st, .int .i64 pl, frV K p] w fun e w' => e = .returned (.string (bs (frL st pl K p))) ∧ Below w.heap.size w w') ∧
    ∀ w, Calls Try.prog 73 #[.string (bs (frL st pl K p))] w fun e w' => ∃ v, e = .returned v ∧ w'.ownsRow w.heap.size 9 1 v (frP st pl K p).length ((frP st pl K p).map fun l => .string (bs l)) ∧ Below w.heap.size w w' := by
  refine ⟨fun w => renc_any st pl K p h1 h2 h3 (by omega) w, fun w => ?_⟩
  have := rpieces_any 1000 (bs (frL st pl K p)) (by rw [bs_size, frL_length]; omega) (by rw [bs_size, frL_length]; omega) w
  rw [bs_size, frL_length, bs_list] at this
  rw [frP_length]
  exact this
/-- What is read of the segment's and the frame's blocks. -/
abbrev mhdr (h : H4) : Value := hdV h.1 h.2.1 h.2.2.1 h.2.2.2
set_option maxRecDepth 100000 in
set_option maxHeartbeats 1600000 in
attribute [-go_sem] Instr.build Instr.fill loadVar in
/-- What is refused. -/
theorem rappend_no (h : H4) (hst : h.2.2.1 < 4294967296) (ao : Option Addr) (ll cap e : Nat) (X : Nat → ByteArray) (he1 : 1 ≤ e) (he2 : e ≤ 16) (k : Int) (p : ByteArray) (er : Int) (hno : (wrongP k p.size ≠ 0 ∧ er = wrongP k p.size) ∨ (wrongP k p.size = 0 ∧ 16 < e + many (7 + p.size) ∧ er = 5)) (w : World) :
    Calls Try.prog 28 #[.agg (madeA h (.slice ao ll cap) e X), frV k p] w fun x w' => x = .returned (.agg (apA h (.slice ao ll cap) e X 0 er)) ∧ Below w.heap.size w w' := by
  have hz := zero_ap
  have hsz := apA_size (0, 0, 0, 0) (.slice none 0 0) 0 (fun _ => eB) 0 0
  obtain ⟨Z, hZ⟩ : ∃ Z, apA (0, 0, 0, 0) (.slice none 0 0) 0 (fun _ => eB) 0 0 = Z := ⟨_, rfl⟩
  rw [hZ] at hz hsz
  clear hZ
  have hsm := madeA_size h (.slice ao ll cap) e X
  have HM := Lib.hid (fun (W : World) (g : Nat) (hg : W.heap[g]? = some (.cells (madeA h (.slice ao ll cap) e X) 51)) => made_at hg)
  have hba := fun w => build_ap h (.slice ao ll cap) e X 0 er w
  have hsA := apA_size h (.slice ao ll cap) e X 0 er
  have hoA := apA_one (lv := .slice ao ll cap) rfl h e X 0 er
  have hlA := fun (W : World) (g : Nat) (hg : W.heap[g]? = some (.cells (apA h (.slice ao ll cap) e X 0 er) 57)) => load_ap hg
  have HL := Lib.hid (fun (W : World) (g : Nat) (hg : W.heap[g]? = some (.cells (madeA h (.slice ao ll cap) e X) 51)) => (made_at hg).load)
  obtain ⟨M, hM⟩ : ∃ M, madeA h (.slice ao ll cap) e X = M := ⟨_, rfl⟩
  obtain ⟨A, hA⟩ : ∃ A, apA h (.slice ao ll cap) e X 0 er = A := ⟨_, rfl⟩
  rw [hM] at hsm HM hba HL ⊢
  rw [hA] at hba hsA hoA hlA ⊢
  have hst2 : ∀ W : World, W.heap[w.heap.size + 1 + 1]? = some (.cells Z 57) → (storeCells ⟨w.heap.size + 1 + 1, 0, none⟩ A.toList).run Try.prog W = .ok () (W.setRow (w.heap.size + 1 + 1) A) := fun W hW => store_all hW A (by rw [hsz, hsA]) hoA
  have HLA := Lib.hid hlA
  clear hlA hM hA hoA
  have e0 := alloc_old (alloc_old (alloc_at w (.cells M 51)) (.cells #[.int .i64 k, .string p] 55)) (.cells Z 57)
  have e1 := alloc_old (alloc_at' (w.alloc (.cells M 51)) (.cells #[.int .i64 k, .string p] 55) (w.heap.size + 1) (by simp)) (.cells Z 57)
  have e2 := alloc_at' ((w.alloc (.cells M 51)).alloc (.cells #[.int .i64 k, .string p] 55)) (.cells Z 57) (w.heap.size + 1 + 1) (by simp)
  have hB0 : Below w.heap.size w (((w.alloc (.cells M 51)).alloc (.cells #[.int .i64 k, .string p] 55)).alloc (.cells Z 57)) := (((Below.refl _ _).alloc (Nat.le_refl _) _).alloc (by simp) _).alloc (by simp; omega) _
  have c5 := (HM.out _ _ e0).end_
  obtain ⟨pl, hpl⟩ : ∃ pl : Nat, pl = min e 15 := ⟨_, rfl⟩
  have HN := Lib.hid hno
  clear hno
  go_enter Try.func28, Try.ntmps28
  go_upto_if 12 with fail
  generalize ((w.alloc (.cells M 51)).alloc (.cells #[.int .i64 k, .string p] 55)).alloc (.cells Z 57) = W0 at e0 e1 e2 hB0 c5 ⊢
  go_cut [5] (fun t wx => t = .int .i64 (pl : Int) ∧ wx = W0)
  case first =>
    by_cases h16 : e = 16
    · have k1 : ((e : Int) == 16) = true := by simp; omega
      have H6 := Lib.hid h16
      clear h16
      go_wp2_with fail
      go_meet
      exact ⟨by rw [hpl, H6.out]; rfl, rfl⟩
    · have k1 : ((e : Int) == 16) = false := by simp; omega
      go_wp2_with fail
      go_meet
      exact ⟨by rw [hpl, Nat.min_eq_left (by omega)], rfl⟩
  case rest =>
    obtain ⟨rfl, rfl⟩ := hcut
    have hp1 : 1 ≤ pl := by omega
    have hp2 : pl < 16 := by omega
    have HPL := Lib.hid hpl
    have hldf := load_fr e1
    clear hpl c5
    go_wp2_with fail
    refine (rwrong_any pl k p hp1 hp2 _).mono ?_
    rintro x w1 ⟨rfl, hb1⟩
    have hB1 := hB0.trans (hb1.mono hB0.size)
    have f0 := later_of e0 hb1
    have f1 := later_of e1 hb1
    have f2 := later_of e2 hb1
    rcases HN.out with ⟨hw, rfl⟩ | ⟨hw, hbig, rfl⟩
    · have k2 : (wrongP k p.size != 0) = true := by simpa using hw
      have hld := HL.out _ _ f0
      have hl2 := HLA.out _ _ (row_set f2 A)
      have hBn := below_setRow hB1 (show w.heap.size ≤ w.heap.size + 1 + 1 by omega) A
      go_wp2_with fail
      exact bodyPost_ret (v := .agg A) (by simp [results, Try.results28, asAddr, hl2]) rfl ⟨rfl, hBn⟩
    · obtain ⟨hk1, hk2, hk3⟩ := wrong_zero hw
      obtain ⟨K, rfl⟩ := Int.eq_ofNat_of_zero_le (show 0 ≤ k by omega)
      have k2 : (wrongP (K : Int) p.size != 0) = false := by rw [hw]; rfl
      have hpt := rput_pieces h.2.2.1 pl K p hst (by omega) (by omega) hk3
      have KE := Lib.hid hpt.1
      have KP := Lib.hid hpt.2
      have hst3 := (HM.out _ _ f0).stamp
      have hldf1 := load_fr f1
      have HW := Lib.hid hw
      clear hpt hldf hw
      go_wp2_with fail
      refine (KE.out _).mono ?_
      rintro x w2 ⟨rfl, hb2⟩
      go_wp2_with fail
      refine (KP.out _).mono ?_
      rintro x w3 ⟨pv, rfl, hown, hb3⟩
      obtain ⟨po, pc, rfl⟩ := row_slice2 hown
      have hB3 := below_chain (below_chain hB1 hb2) hb3
      have g0 := later_of (later_of f0 hb2) hb3
      have g2 := later_of (later_of f2 hb2) hb3
      rw [frP_length] at hown ⊢
      have hMn : many (7 + p.size) ≤ 16 := by unfold many; split <;> omega
      generalize many (7 + p.size) = Mn at hbig hown hMn ⊢
      have c5 := (HM.out _ _ g0).end_
      have k3 : IntKind.i64.wrap ((e : Int) + (Mn : Int)) = (e : Int) + (Mn : Int) := by rw [IntKind.wrap_i64]; omega
      have k4 : decide ((16 : Int) < (e : Int) + (Mn : Int)) = true := decide_eq_true (by omega)
      have hld := HL.out _ _ g0
      have hl2 := HLA.out _ _ (row_set g2 A)
      have hBn := below_setRow hB3 (show w.heap.size ≤ w.heap.size + 1 + 1 by omega) A
      clear hown hst3 hldf1
      go_wp2_with fail
      exact bodyPost_ret (v := .agg A) (by simp [results, Try.results28, asAddr, hl2]) rfl ⟨rfl, hBn⟩
theorem fcells_one (l : List Fr) : ∀ u ∈ fcells l, u.oneCell' = true := by
  intro u hu
  obtain ⟨x, _, hx⟩ := List.mem_flatMap.1 hu
  simp only [frC, List.mem_cons, List.not_mem_nil, or_false] at hx
  rcases hx with rfl | rfl <;> rfl
theorem LAt.of_row {w : World} {B : Nat} {fv : Value} {fs : List Fr} (h : w.ownsRow B 55 2 fv fs.length (fcells fs)) (h0 : 0 < fs.length) : ∃ g cap, fv = .slice (some ⟨g, 0, none⟩) fs.length cap ∧ LAt w (some ⟨g, 0, none⟩) cap fs ∧ B ≤ g := by
  have hge := ownBlock_ge h
  rcases h.2 with ⟨rfl, h1⟩ | ⟨g, cap, cur, rfl, _, hg, _, _, hsz, htake⟩
  · omega
  · refine ⟨g, cap, rfl, .inr ⟨g, rfl, h0, fun j u hu => ?_⟩, hge g (by simp [Value.ownBlock])⟩
    have hj : j < fs.length * 2 := by have := (List.getElem?_eq_some_iff.1 hu).1; rwa [fcells_length] at this
    rw [cell_of hg, ← hu, ← htake, List.getElem?_take_of_lt hj]
    simp
theorem LAt.of_row' {w : World} {B g cap : Nat} {fs : List Fr} (h : w.ownsRow B 55 2 (.slice (some ⟨g, 0, none⟩) fs.length cap) fs.length (fcells fs)) (h0 : 0 < fs.length) : LAt w (some ⟨g, 0, none⟩) cap fs ∧ B ≤ g := by
  obtain ⟨g', cap', he, hL, hB⟩ := LAt.of_row h h0
  simp at he
  obtain ⟨rfl, rfl⟩ := he
  exact ⟨hL, hB⟩
/-- What Append's last region reads, behind anything that leaves all below its result's block. -/
abbrev ApS (B : Nat) (h : H4) (lv : Value) (e : Nat) (X : Nat → ByteArray) (g : Nat) (wB w' : World) : Prop :=
  (loadVar 45 ⟨g, 0, none⟩).run Try.prog w' = .ok (mhdr h) w' ∧ (loadVar 49 ⟨g, 6, none⟩).run Try.prog w' = .ok (.agg (secA X)) w' ∧ w'.cell? ⟨g, 2, none⟩ = some (.int .u32 h.2.2.1) ∧ w'.cell? ⟨g, 4, none⟩ = some lv ∧ w'.cell? ⟨g, 5, none⟩ = some (.int .i64 e) ∧ Below B wB w'
theorem apS_of {B : Nat} {h : H4} {lv : Value} {e : Nat} {X : Nat → ByteArray} {g : Nat} {wB w' : World} (hg : g < B) (h0 : wB.heap[g]? = some (.cells (madeA h lv e X) 51)) (hb : Below B wB w') : ApS B h lv e X g wB w' := by
  have M := made_at ((hb.block g hg).trans h0)
  exact ⟨M.head, M.secs, M.stamp, M.list, M.end_, hb⟩
theorem apS_call {B : Nat} {h : H4} {lv : Value} {e : Nat} {X : Nat → ByteArray} {g : Nat} {wB w1 w' : World} (hg : g < B) (hB : B ≤ wB.heap.size) (h0 : wB.heap[g]? = some (.cells (madeA h lv e X) 51)) (hS : ApS B h lv e X g wB w1) (hb : Below w1.heap.size w1 w') : ApS B h lv e X g wB w' :=
  apS_of hg h0 (hS.2.2.2.2.2.trans (hb.mono (by have := hS.2.2.2.2.2.size; omega)))
theorem apS_row {B : Nat} {h : H4} {lv : Value} {e : Nat} {X : Nat → ByteArray} {g : Nat} {wB w1 : World} (hg : g < B) (h0 : wB.heap[g]? = some (.cells (madeA h lv e X) 51)) (hS : ApS B h lv e X g wB w1) (A : Array Value) : ApS B h lv e X g wB (w1.setRow B A) :=
  apS_of hg h0 (below_setRow hS.2.2.2.2.2 (Nat.le_refl _) A)
set_option maxRecDepth 100000 in
set_option maxHeartbeats 3200000 in
attribute [-go_sem] Instr.build Instr.fill Instr.buildSlice loadVar in
/-- What is put. -/
theorem rappend_go (h : H4) (hst : h.2.2.1 < 4294967296) (ao : Option Addr) (cap e : Nat) (X : Nat → ByteArray) (l : List Fr) (he1 : 1 ≤ e) (he2 : e ≤ 16) (hl : l.length ≤ 1000) (K : Nat) (p : ByteArray) (hk1 : 1 ≤ K) (hk2 : K ≤ 255) (hk3 : p.size ≤ 773) (hfit : e + many (7 + p.size) ≤ 16) {w : World} (hL : LAt w ao cap l) :
    Calls Try.prog 28 #[.agg (madeA h (.slice ao l.length cap) e X), frV K p] w fun x w' => ∃ (ao' : Option Addr) (cap' : Nat), x = .returned (.agg (apA h (.slice ao' (l.length + 1) cap') (e + many (7 + p.size)) (putS X h.2.2.1 (l.length + 2) e (frP h.2.2.1 e K p)) e 0)) ∧
      LAt w' ao' cap' (l ++ [((K : Int), p)]) ∧ (∀ a, ao' = some a → w.heap.size ≤ a.block) ∧ Below w.heap.size w w' := by
  have hm1 : 1 ≤ many (7 + p.size) := by unfold many; split <;> omega
  obtain ⟨i0, hi0, hz0, hz1, hz2⟩ := info_parts info_fr
  have hz := zero_ap
  have hsz := apA_size (0, 0, 0, 0) (.slice none 0 0) 0 (fun _ => eB) 0 0
  obtain ⟨Z, hZ⟩ : ∃ Z, apA (0, 0, 0, 0) (.slice none 0 0) 0 (fun _ => eB) 0 0 = Z := ⟨_, rfl⟩
  rw [hZ] at hz hsz
  clear hZ
  have hsm := madeA_size h (.slice ao l.length cap) e X
  have e0 := alloc_old (alloc_old (alloc_at w (.cells (madeA h (.slice ao l.length cap) e X) 51)) (.cells #[.int .i64 K, .string p] 55)) (.cells Z 57)
  have e1 := alloc_old (alloc_at' (w.alloc (.cells (madeA h (.slice ao l.length cap) e X) 51)) (.cells #[.int .i64 K, .string p] 55) (w.heap.size + 1) (by simp)) (.cells Z 57)
  have e2 := alloc_at' ((w.alloc (.cells (madeA h (.slice ao l.length cap) e X) 51)).alloc (.cells #[.int .i64 K, .string p] 55)) (.cells Z 57) (w.heap.size + 1 + 1) (by simp)
  have hB0 : Below w.heap.size w (((w.alloc (.cells (madeA h (.slice ao l.length cap) e X) 51)).alloc (.cells #[.int .i64 K, .string p] 55)).alloc (.cells Z 57)) := (((Below.refl _ _).alloc (Nat.le_refl _) _).alloc (by simp) _).alloc (by simp; omega) _
  have c5 := (made_at e0).end_
  have hw0 : wrongP (K : Int) p.size = 0 := by
    unfold wrongP
    rw [if_neg (by omega), if_neg (by omega)]
  have k2 : (wrongP (K : Int) p.size != 0) = false := by rw [hw0]; rfl
  have hpt := rput_pieces h.2.2.1 e K p hst (by omega) (by omega) hk3
  have KE := Lib.hid hpt.1
  have KP := Lib.hid hpt.2
  have KS := Lib.hid (fun (w : World) (B : Nat) (pv : Value) hp i j hi hj => sput_any X h.2.2.1 (l.length + 2) e (frP h.2.2.1 e K p) hst (by omega) (pieces_52 _ _) (by rw [frP_length]; omega) (w := w) B pv hp i j hi hj)
  have HL := Lib.hid hL
  have k1 : ((e : Int) == 16) = false := by simp; omega
  obtain ⟨MA, hMA⟩ : ∃ MA, madeA h (.slice ao l.length cap) e X = MA := ⟨_, rfl⟩
  rw [hMA] at hsm e0 e1 e2 hB0 c5 ⊢
  have HMA := Lib.hid hMA
  have hldf := load_fr e1
  clear hpt hw0 hL hMA
  go_enter Try.func28, Try.ntmps28
  go_wp2_with fail
  generalize ((w.alloc (.cells MA 51)).alloc (.cells #[.int .i64 K, .string p] 55)).alloc (.cells Z 57) = W0 at e0 e1 e2 hB0 c5 hldf ⊢
  clear c5
  refine (rwrong_any e (K : Int) p he1 (by omega) _).mono ?_
  rintro x w1 ⟨rfl, hb1⟩
  have hB1 := hB0.trans (hb1.mono hB0.size)
  have f0 := later_of e0 hb1
  have f1 := later_of e1 hb1
  have f2 := later_of e2 hb1
  have hst1 := (made_at (h := h) (lv := .slice ao l.length cap) (e := e) (X := X) (by rw [HMA.out]; exact f0)).stamp
  have hldf1 := load_fr f1
  clear hldf
  go_wp2_with fail
  refine (KE.out _).mono ?_
  rintro x w2 ⟨rfl, hb2⟩
  go_wp2_with fail
  refine (KP.out _).mono ?_
  rintro x w3 ⟨pv, rfl, hown, hb3⟩
  obtain ⟨po, pc, rfl⟩ := row_slice2 hown
  have hB3 := below_chain (below_chain hB1 hb2) hb3
  have HOW := Lib.hid hown
  have g0 := later_of (later_of f0 hb2) hb3
  have g1 := later_of (later_of f1 hb2) hb3
  have g2 := later_of (later_of f2 hb2) hb3
  have hfl := frP_length h.2.2.1 e K p
  obtain ⟨Mn, hMn⟩ : ∃ Mn, many (7 + p.size) = Mn := ⟨_, rfl⟩
  rw [hMn] at hfl hfit hm1
  have HMN := Lib.hid hMn
  have HFL := Lib.hid hfl
  have M3 := made_at (h := h) (lv := .slice ao l.length cap) (e := e) (X := X) (by rw [HMA.out]; exact g0)
  have c5 := M3.end_
  have c4 := M3.list
  have k3 : IntKind.i64.wrap ((e : Int) + (Mn : Int)) = (e : Int) + (Mn : Int) := by rw [IntKind.wrap_i64]; omega
  have k4 : decide ((16 : Int) < (e : Int) + (Mn : Int)) = false := decide_eq_false (by omega)
  have L3 := HL.out.below hB3
  rw [hfl]
  clear hMn hown hst1 hldf1 hb1 hb2 hb3 f0 f1 f2 e0 e1 e2 hB0 hB1 hfl M3
  go_upto_region 11 with fail
  have hin := lt_of g2
  go_cut [8] (fun v wx => ∃ (o1 : Option Addr) (c1 : Nat), v = .slice o1 l.length c1 ∧ wx.ownsRow w3.heap.size 55 2 (.slice o1 l.length c1) l.length (fcells l) ∧ Below w3.heap.size w3 wx)
  case first =>
    rcases L3 with ⟨rfl, rfl, rfl⟩ | ⟨g, rfl, h0, hc⟩
    · have hnil : w3.ownsRow w3.heap.size 55 2 (.slice none 0 0) 0 [] := ⟨rfl, .inl ⟨rfl, rfl⟩⟩
      go_wp2_with (at_builtin; refine wpList_append_own_none rfl (.tmp 36) (.tmp 38) 37 rfl w3.heap.size 55 i0 2 Try.underlying37 hi0 (.slice none 0 0) 0 [] rfl hnil rfl ?_)
      go_meet
      exact ⟨none, 0, rfl, hnil, Below.refl _ _⟩
    · have hnil : w3.ownsRow w3.heap.size 55 2 (.slice none 0 0) 0 [] := ⟨rfl, .inl ⟨rfl, rfl⟩⟩
      have HNW := Lib.hid (show ∀ j u, (fcells l)[j]? = some u → w3.cell? ((⟨g, 0, none⟩ : Addr).add j) = some u from fun j u hu => by rw [Addr.add_lit, Nat.zero_add]; exact hc j u hu)
      have HFL1 := Lib.hid (fcells_length l)
      have HONE := Lib.hid (fcells_one l)
      clear hc
      go_wp2_with (at_builtin; refine wpList_append_lies _ rfl (.tmp 36) (.tmp 38) 37 rfl w3.heap.size 55 i0 _ 2 24 Try.underlying37 hi0 hz0 hz1 hz2 rfl (by omega) (.slice none 0 0) _ _ rfl hnil ⟨g, 0, none⟩ l.length cap (fcells l) rfl HFL1.out HNW.out HONE.out h0 (by unfold maxLen; omega) (by omega) (Nat.le_refl _) _ rfl ?_; intro gg cap9 w4 hown9 hgrow hat hlt9; have HOWN := Lib.hid hown9; have HGROW := Lib.hid hgrow; have HAT := Lib.hid hat; clear hown9 hgrow hat)
      go_meet
      have hrow := HOWN.out
      rw [List.nil_append] at hrow
      exact ⟨_, _, rfl, by rw [Nat.zero_add] at hrow; exact hrow, ⟨HGROW.out.os, HGROW.out.tape, HGROW.out.output, HGROW.out.size, fun k hk => HGROW.out.block k hk (by simp [Value.ownBlock])⟩⟩
  case rest =>
    obtain ⟨o1, c1, rfl, hrow, hbc⟩ := hcut
    have p0 := later_of g0 hbc
    have p1 := later_of g1 hbc
    have hld := load_fr p1
    have hbs := fun (w' : World) => run_buildSlice_one (P := Try.prog) w' 37 55 _ 2 #[.int .i64 K, .string p] Try.underlying37 info_fr2 (by omega) (by omega) rfl
    have HR := Lib.hid hrow
    have hszc := hbc.size
    have HP0 := Lib.hid p0
    have G0 := Lib.hid g0
    have G2 := Lib.hid g2
    clear hrow p1 c5 c4 L3 g0 g1 g2 p0
    go_wp2_with (at_builtin; refine wpList_append_lies _ rfl (.tmp 40) (.tmp 42) 37 rfl w3.heap.size 55 i0 _ 2 24 Try.underlying37 hi0 hz0 hz1 hz2 rfl (by omega) (.slice o1 l.length c1) _ _ rfl (HR.out.alloc _) ⟨wc.heap.size, 0, none⟩ 1 1 (frC ((K : Int), p)) rfl rfl (World.news_of_block (cs := #[.int .i64 K, .string p]) (t := 55) (fr := (0, 0)) (heap_alloc_new wc _)) (by simp [frC, Value.oneCell']) (by omega) (by unfold maxLen; omega) (by omega) (by simp; omega) _ rfl ?_; intro gg cap9 w9 hown9 hgrow hat hlt9; have HOWN := Lib.hid hown9; have HGROW := Lib.hid hgrow; have HAT := Lib.hid hat; clear hown9 hgrow hat)
    have hUa : Upd (fun i => (Value.slice o1 l.length c1).ownBlock = some i) wc w9 := ⟨HGROW.out.os, HGROW.out.tape, HGROW.out.output, Nat.le_trans (by simp) HGROW.out.size, fun i hi hn => (HGROW.out.block i (by simp; omega) (fun e => hn e.symm)).trans (Below.heap_alloc _ _ _ hi)⟩
    have hb39 : Below w3.heap.size w3 w9 := hbc.trans (hUa.below hszc (fun i hi hc => by have := ownBlock_ge HR.out i hc; omega))
    have q0 := later_of G0.out hb39
    have q2 := later_of G2.out hb39
    obtain ⟨LA9, hge9⟩ := LAt.of_row' (w := w9) (B := w3.heap.size) (g := gg) (cap := cap9) (fs := l ++ [((K : Int), p)]) (by rw [fcells_snoc, List.length_append]; exact HOWN.out) (by simp)
    have hslv : Value.slice po (frP h.2.2.1 e K p).length pc = .slice po Mn pc := by rw [HFL.out]
    have how9 := ownsRow_below (ownsRow_below HOW.out hb39) (Below.refl w9.heap.size w9).drew
    rw [hslv] at how9
    have hB9 := hB3.trans (hb39.mono hB3.size)
    have HLA9 := Lib.hid LA9
    obtain ⟨Xn, hXn⟩ : ∃ Xn, putS X h.2.2.1 (l.length + 2) e (frP h.2.2.1 e K p) = Xn := ⟨_, rfl⟩
    rw [hXn] at KS
    have K9 := Lib.hid (fun i j hi hj => KS.out _ _ _ how9 i j hi hj)
    have HXN := Lib.hid hXn
    have hbm : ∀ W : World, (Instr.build 51 #[(0, hdV h.1 h.2.1 h.2.2.1 h.2.2.2), (1, .slice (some ⟨gg, 0, none⟩) (l.length + 1) cap9), (2, .int .i64 ((e : Int) + (Mn : Int))), (3, .agg (secA Xn))]).run Try.prog W = .ok (.agg (madeA h (.slice (some ⟨gg, 0, none⟩) (l.length + 1) cap9) (e + Mn) Xn)) W := fun W => build_made4 h (some ⟨gg, 0, none⟩) (l.length + 1) cap9 (e + Mn) Xn W
    have hba := fun W => build_ap h (.slice (some ⟨gg, 0, none⟩) (l.length + 1) cap9) (e + Mn) Xn e 0 W
    have hsA := apA_size h (.slice (some ⟨gg, 0, none⟩) (l.length + 1) cap9) (e + Mn) Xn e 0
    have hoA := apA_one (lv := .slice (some ⟨gg, 0, none⟩) (l.length + 1) cap9) rfl h (e + Mn) Xn e 0
    have hlA := fun (W : World) (g : Nat) (hg : W.heap[g]? = some (.cells (apA h (.slice (some ⟨gg, 0, none⟩) (l.length + 1) cap9) (e + Mn) Xn e 0) 57)) => load_ap hg
    obtain ⟨Y, hY⟩ : ∃ Y, secA Xn = Y := ⟨_, rfl⟩
    obtain ⟨M2, hM2⟩ : ∃ M2, madeA h (.slice (some ⟨gg, 0, none⟩) (l.length + 1) cap9) (e + Mn) Xn = M2 := ⟨_, rfl⟩
    obtain ⟨A, hA⟩ : ∃ A, apA h (.slice (some ⟨gg, 0, none⟩) (l.length + 1) cap9) (e + Mn) Xn e 0 = A := ⟨_, rfl⟩
    rw [hY] at K9 hbm
    rw [hM2] at hbm hba
    rw [hA] at hba hsA hoA hlA
    have hst2 : ∀ W : World, W.heap[w.heap.size + 1 + 1]? = some (.cells Z 57) → (storeCells ⟨w.heap.size + 1 + 1, 0, none⟩ A.toList).run Try.prog W = .ok () (W.setRow (w.heap.size + 1 + 1) A) := fun W hW => store_all hW A (by rw [hsz, hsA]) hoA
    have HLA := Lib.hid hlA
    have HA := Lib.hid hA
    have hgl : w.heap.size < w.heap.size + 1 + 1 := by omega
    have hszW : w.heap.size + 1 + 1 ≤ w9.heap.size := by have := hb39.size; omega
    have k5 : IntKind.i64.wrap ((l.length : Int) + 2) = (l.length : Int) + 2 := by rw [IntKind.wrap_i64]; omega
    rw [← HMA.out] at q0
    clear hlA hA hoA hM2 hY hXn how9 hslv LA9 hld hUa HP0
    (go_region_held3 (fun w' => (loadVar 45 ⟨w.heap.size, 0, none⟩).run Try.prog w' = .ok (mhdr h) w' ∧ (loadVar 49 ⟨w.heap.size, 6, none⟩).run Try.prog w' = .ok (.agg (secA X)) w' ∧ w'.cell? ⟨w.heap.size, 2, none⟩ = some (.int .u32 h.2.2.1) ∧ w'.cell? ⟨w.heap.size, 4, none⟩ = some (.slice ao l.length cap) ∧ w'.cell? ⟨w.heap.size, 5, none⟩ = some (.int .i64 e) ∧ Below (w.heap.size + 1 + 1) w9 w')
      (first | assumption | exact apS_of hgl q0 (Below.refl _ _).drew | exact apS_call hgl hszW q0 (by assumption) hb | exact apS_row hgl q0 (by assumption) A)
      (first
      | (go_at_call 72; (with_reducible refine (K9.out _ _ (by omega) (by omega)).mono ?_); rintro x w10 ⟨rfl, hb⟩; have q3 := later_of (w1 := w9.drew) q2 hb; have HB10 := Lib.hid hb)))
    all_goals
      have hBx := (‹_ ∧ _ ∧ _ ∧ _ ∧ _ ∧ Below _ _ _›).2.2.2.2.2
      have hl2 := HLA.out _ _ (row_set q3 A)
      go_wp2_with fail
      refine bodyPost_ret (v := .agg A) (by simp [results, Try.results28, asAddr, hl2]) rfl ⟨some ⟨gg, 0, none⟩, cap9, by rw [HMN.out, HXN.out, HA.out], ?_, ?_, hB9.trans (hBx.mono (by omega))⟩
      · have hb9 : Below w9.heap.size w9 w10 := (Below.refl w9.heap.size w9).drew.trans HB10.out
        refine (HLA9.out.below hb9).keep (S := fun i => i = w.heap.size + 1 + 1) ((Upd.refl (fun i => i = w.heap.size + 1 + 1) w10).setRow (fun _ => rfl) A) (fun a ha hc => ?_)
        cases ha
        simp only at hc
        omega
      · intro a ha
        cases ha
        have := hB3.size
        show w.heap.size ≤ gg
        omega
end Go.Proofs.Ytoabdpobpmbckaa.Print
