/- segment: Load. What was put is loaded: the plain law. The sectors of a segment that is being put. Create and Append while no power goes. The small case that each statement of layer 13 asks: put. -/
import Derived.Test.YtoobiffhjjfpgaaGreatLdF
import Derived.Test.YtoobiffhjjfpgaaGreatSegA
import Derived.Test.YtoobiffhjjfpgaaGreatLd
namespace Go.Proofs.YtoobiffhjjfpgaaGreat.Print
open Go.RowKit
attribute [local go_sem] run_loadVar_scalar

abbrev frOf (b : List UInt8) : Fr := (((b.headD 0).toNat : Int), bs b.tail)
def loopP (O : Nat → Op3) (stamp : Nat) : Nat → List Fr → Nat → List Fr × Nat
  | 0, fs, e => (fs, e)
  | q + 1, fs, e => match nextP O stamp e fs.length with | none => (fs, e) | some b => loopP O stamp q (fs ++ [frOf b]) (e + many (6 + b.length))
def headP (O : Nat → Op3) : Option H4 := match O 0 with
  | some x => if x.2.1 = 1 then (match hdP x.2.2 with | some h => if h.2.2.1 = x.1 then some h else none | none => none) else none
  | none => none
theorem headP_some {O : Nat → Op3} {h : H4} (e : headP O = some h) : ∃ d, O 0 = some (h.2.2.1, 1, d) ∧ hdP d = some h := by
  unfold headP at e
  split at e
  · rename_i x hx
    split at e
    · rename_i h1
      split at e
      · rename_i h' hh
        split at e
        · rename_i hs
          cases e
          exact ⟨x.2.2, by rw [hx, hs, ← h1], hh⟩
        · cases e
      · cases e
    · cases e
  · cases e
theorem load_first_no (v : Value) (n e : Int) (he : (e != 0) = true) (w : World) (hF : Calls Tryz.prog 117 #[v, .int .i64 n] w fun x w' => x = .returned (.tuple #[.int .i64 0, .int .i64 e]) ∧ w = w') :
    Calls Tryz.prog 82 #[v, .int .i64 n] w fun x w' => x = .returned (.tuple #[.pointer none, .int .i64 e]) ∧ w = w' := by
  have HF := Lib.hid hF
  clear hF
  go_enter Tryz.func82, Tryz.ntmps82
  go_wp2_with fail
  refine HF.out.mono ?_
  rintro x w1 ⟨rfl, rfl⟩
  go_wp2
  exact bodyPost_ret (v := .tuple #[.pointer none, .int .i64 e]) (by simp [results, Tryz.results82, go_sem]) rfl ⟨rfl, rfl⟩
theorem load_nil (n : Int) (w : World) : Calls Tryz.prog 82 #[.pointer none, .int .i64 n] w fun x w' => x = .returned (.tuple #[.pointer none, .int .i64 7]) ∧ w = w' :=
  load_first_no _ _ 7 rfl w (first_nil n w)
theorem build_ld (s : Nat) (w : World) : (Instr.build 168 #[(0, .pointer (some ⟨s, 0, none⟩))]).run Tryz.prog w = .ok (.agg (ldArr s (fun _ => ⟨#[]⟩) (fun _ => 0) (fun _ => 0))) w := run_build w 168 _ _ (by kernel_rfl)
theorem secX_O52 (lies : List (List UInt8)) (waits : List (Nat × List UInt8)) (f n : Nat) : O52 (fun k => opnP (secX lies waits f (n + k))) := O52_of fun _ => ⟨_, rfl⟩

set_option maxRecDepth 100000 in
set_option maxHeartbeats 1600000 in
attribute [-go_sem] Instr.build Instr.fill in
theorem load_any {w : World} {v : Nat} {lies : List (List UInt8)} {waits : List (Nat × List UInt8)} {f N : Nat} {fu : Int} {F : Foot} (V : ViewIs v lies waits f N fu false w F)
    (n : Nat) (hN : N ≤ 8192) (hn : 2 + 16 * n + 16 ≤ N) (hw : waits.length ≤ 1000000000) (i : Int) (hi : i = n) (O : Nat → Op3) (hO : ∀ k, O k = opnP (secX lies waits f (2 + 16 * n + k))) :
    Calls Tryz.prog 82 #[.pointer (some ⟨v, 0, none⟩), .int .i64 i] w fun x w' =>
      (headP O = none ∧ x = .returned (.tuple #[.pointer none, .int .i64 4]) ∧ Below w.heap.size w w') ∨
      (∃ h s G, headP O = some h ∧ x = .returned (.tuple #[.pointer (some ⟨s, 0, none⟩), .int .i64 0]) ∧ SegIs s v n h (loopP O h.2.2.1 16 [] 1).1 (loopP O h.2.2.1 16 [] 1).2 true w' G ∧ Below w.heap.size w w' ∧ ∀ i, G i → w.heap.size ≤ i) := by
  subst hi
  have h52 : O52 O := O52_of fun k => ⟨_, hO k⟩
  obtain ⟨hvF, d, st, hv⟩ := view_at V
  have KF := Lib.hid (first_ok hv n hN hn)
  have HV := Lib.hid V
  have HO := Lib.hid hO
  clear V hv hO
  have hbl := build_ld w.heap.size
  have hbs : ∀ w' : World, (Instr.build 155 #[(0, .pointer (some ⟨v, 0, none⟩)), (1, .int .i64 n), (4, .int .i64 1), (5, .bool true)]).run Tryz.prog w' = .ok (.agg #[.pointer (some ⟨v, 0, none⟩), .int .i64 n, .int .i64 (0 : Nat), .int .u32 (0 : Nat), .int .u32 (0 : Nat), .int .i64 (0 : Nat), .slice none 0 0, .int .i64 (1 : Nat), .bool true]) w' := fun w' => run_build w' 155 _ _ (by kernel_rfl)
  have hs1 := alloc_at w (segObj v n (0, 0, 0, 0) (.slice none 0 0) (1 : Nat) true)
  have hs2 := alloc_old hs1 (ldObj w.heap.size (fun _ => ⟨#[]⟩) (fun _ => 0) (fun _ => 0))
  have hl2 := alloc_at (w.alloc (segObj v n (0, 0, 0, 0) (.slice none 0 0) (1 : Nat) true)) (ldObj w.heap.size (fun _ => ⟨#[]⟩) (fun _ => 0) (fun _ => 0))
  have hB2 : Below w.heap.size w ((w.alloc (segObj v n (0, 0, 0, 0) (.slice none 0 0) (1 : Nat) true)).alloc (ldObj w.heap.size (fun _ => ⟨#[]⟩) (fun _ => 0) (fun _ => 0))) := ((Below.refl _ _).alloc (Nat.le_refl _) _).alloc (by simp) _
  have hsz2 : ((w.alloc (segObj v n (0, 0, 0, 0) (.slice none 0 0) (1 : Nat) true)).alloc (ldObj w.heap.size (fun _ => ⟨#[]⟩) (fun _ => 0) (fun _ => 0))).heap.size = w.heap.size + 2 := by simp
  rw [World.size_alloc] at hl2
  have hFlt : ∀ i, F i → i < w.heap.size := fun i hi => ViewIs.there HV.out i hi
  clear hs1
  go_enter Tryz.func82, Tryz.ntmps82
  go_wp2_with fail
  refine KF.out.mono ?_
  rintro x w1 ⟨rfl, rfl⟩
  go_wp2_with fail
  generalize (w.alloc (segObj v n (0, 0, 0, 0) (.slice none 0 0) (1 : Nat) true)).alloc (ldObj w.heap.size (fun _ => ⟨#[]⟩) (fun _ => 0) (fun _ => 0)) = W2 at hs2 hl2 hB2 hsz2 ⊢
  generalize hss : w.heap.size = S0 at *
  have hSec := fun i hi => sectors_any (ViewIs.stays.below HV.out (hss ▸ hB2)) (S0 + 1) S0 n (0, 0, 0, 0) (.slice none 0 0) (1 : Nat) true hl2 hs2 (by omega) (fun hc => by have := hFlt _ hc; omega) (2 + 16 * n) hN (by omega) hw i hi O HO.out
  have HSec := Lib.hid hSec
  clear hSec
  refine (HSec.out _ (by omega)).mono ?_
  rintro x w3 ⟨rfl, hW3⟩
  have hl3 := hW3.at_
  have hs3 := (hW3.other S0 (lt_of hs2) (by omega)).trans hs2
  have hB3 : Below S0 w w3 := hB2.trans (hW3.under (by omega))
  have hd := hdec_all (oD (O 0))
  cases hhp : headP O with
  | none =>
    have HL3 := Lib.hid hl3
    have hbad : ∃ (h : H4) (e : Int), (∀ w, Calls Tryz.prog 137 #[.string (oD (O 0))] w fun x w' => x = .returned (hdD h.1 h.2.1 h.2.2.1 h.2.2.2 e) ∧ Below w.heap.size w w') ∧ (oN (O 0) ≠ 1 ∨ e ≠ 0 ∨ h.2.2.1 ≠ oS (O 0)) := by
      rcases hd with ⟨h1, e, he, hD⟩ | ⟨h, h1, hD⟩
      · exact ⟨(0, 0, 0, 0), e, hD, .inr (.inl he)⟩
      · refine ⟨h, 0, hD, ?_⟩
        cases hO0 : O 0 with
        | none => exact .inl (by simp [oN])
        | some x =>
          by_cases hx1 : x.2.1 = 1
          · refine .inr (.inr fun hx2 => ?_)
            rw [hO0] at h1
            simp only [oD, bs_list] at h1
            simp only [oS] at hx2
            unfold headP at hhp
            rw [hO0] at hhp
            simp [hx1, h1, hx2] at hhp
          · exact .inl hx1
    obtain ⟨h, e, hD, hno⟩ := hbad
    have HH := Lib.hid (head_of (S0 + 1) S0 (fun k => oD (O k)) (fun k => oS (O k)) (fun k => oN (O k)) hl3 h e hD hno)
    have HHP := Lib.hid hhp
    clear hl3 hs3 hd hD hno hhp
    go_wp2_with fail
    refine HH.out.mono ?_
    rintro x w4 ⟨rfl, hb4⟩
    go_wp2
    exact bodyPost_ret (v := .tuple #[.pointer none, .int .i64 4]) (by simp [results, Tryz.results82, go_sem]) rfl (.inl ⟨HHP.out, rfl, by subst hss; exact hB3.trans (hb4.mono hB3.size)⟩)
  | some h =>
    obtain ⟨dd, hO0, hdd⟩ := headP_some hhp
    have hfit := (hdP_fits hdd).1
    have hD : ∀ w, Calls Tryz.prog 137 #[.string (oD (O 0))] w fun x w' => x = .returned (hdD h.1 h.2.1 h.2.2.1 h.2.2.2 0) ∧ Below w.heap.size w w' := by
      rcases hd with ⟨h1, e, he, hD⟩ | ⟨h', h1, hD⟩
      · rw [hO0] at h1
        simp only [oD, bs_list] at h1
        rw [hdd] at h1; cases h1
      · rw [hO0] at h1
        simp only [oD, bs_list] at h1
        rw [hdd] at h1
        cases h1
        exact hD
    have HH := Lib.hid (head_yes (S0 + 1) S0 v n (0, 0, 0, 0) (.slice none 0 0) (1 : Nat) true (fun k => oD (O k)) (fun k => oS (O k)) (fun k => oN (O k)) hl3 hs3 h hD (by simp only [hO0]; rfl) (by simp only [hO0]; rfl))
    have HL3 := Lib.hid hl3
    have HHP := Lib.hid hhp
    clear hl3 hs3 hd hD hhp hO0 hdd
    go_wp2_with fail
    refine HH.out.mono ?_
    rintro x w4 ⟨rfl, hU4, hs4⟩
    have hl4 := hU4.at_ HL3.out (by omega)
    have hB4 : Below S0 w w4 := hB3.trans (hU4.below (by have := hB3.size; omega) (fun i hi => by omega))
    have hS4 : SegIs S0 v n h [] 1 true w4 (fun i => i = S0) := ⟨.slice none 0 0, hs4, ⟨rfl, .inl ⟨rfl, rfl⟩⟩, by simp [Value.ownBlock], fun i => by simp [Value.ownBlock]⟩
    have HS4 := Lib.hid hS4
    have HL4 := Lib.hid hl4
    have HB4 := Lib.hid hB4
    clear hS4 hl4 hB4 hU4 hs4
    go_wp2_with fail
    go_loopw [] (fun wr => ∃ (q : Nat) (fs : List Fr) (e : Nat) (G' : Foot), loopP O h.2.2.1 16 [] 1 = loopP O h.2.2.1 q fs e ∧ 17 ≤ q + e ∧ 1 ≤ e ∧ e ≤ 16 ∧ fs.length + 1 ≤ e ∧ SegIs S0 v n h fs e true wr G' ∧ wr.heap[S0 + 1]? = some (ldO S0 O) ∧ ¬ G' (S0 + 1) ∧ (∀ i, G' i → S0 ≤ i) ∧ Below S0 w wr) (fun wr => 16 - (intOf ((wr.cell? ⟨S0, 7, none⟩).getD undef)).toNat)
    case atStart => exact ⟨16, [], 1, _, rfl, by omega, by omega, by omega, by simp, HS4.out, HL4.out, by simp, fun i hi => by omega, HB4.out⟩
    case round =>
      obtain ⟨q, fs, e, G', hq, hqe, he1, he2, hfl, hSg, hlr, hGl, hG, hBr⟩ := hrel
      have HN := Lib.hid (next_any hSg O h52 hlr he1 he2 (by omega) hfit.2.2.2.1 hGl)
      have HSg := Lib.hid hSg
      have HLr := Lib.hid hlr
      have hltl := lt_of hlr
      have hcell : ∀ (w' : World) (fs : List Fr) (e : Nat) (G : Foot), SegIs S0 v n h fs e true w' G → (intOf ((w'.cell? ⟨S0, 7, none⟩).getD undef)).toNat = e := by
        rintro w' fs e G ⟨fv, hs', _⟩
        obtain ⟨_, _, _, _, _, _, _, c7, _⟩ := nine_of hs'
        rw [c7]; simp [intOf]
      have HCell := Lib.hid hcell
      clear hcell
      have HQ := Lib.hid hq
      have HBr := Lib.hid hBr
      clear hSg hq hlr hBr
      go_wp2_with fail
      refine HN.out.mono ?_
      rintro x w5 (⟨hnn, rfl, hb5⟩ | ⟨b, G2, hnn, hlen, rfl, hS5, hU5, hF5, hl5⟩)
      · have HS5 := Lib.hid (SegIs.stays.below HSg.out hb5)
        have hB5 : Below S0 w w5 := HBr.out.trans (hb5.mono (by have := HBr.out.size; omega))
        have c0 := ld_seg (later_of HLr.out hb5)
        have HB5 := Lib.hid hB5
        have hfin : loopP O h.2.2.1 16 [] 1 = (fs, e) := by
          rw [HQ.out]
          obtain ⟨q', rfl⟩ : ∃ q', q = q' + 1 := ⟨q - 1, by omega⟩
          simp only [loopP, hnn]
        have HFin := Lib.hid hfin
        clear hB5 hb5 hfin hnn
        go_wp2_with fail
        refine bodyPost_ret (v := .tuple #[.pointer (some ⟨S0, 0, none⟩), .int .i64 0]) (by simp [results, Tryz.results82, go_sem]) rfl (.inr ⟨h, S0, G', HHP.out, rfl, ?_, by subst hss; exact HB5.out, fun i hi => by have := hG i hi; omega⟩)
        rw [HFin.out]
        exact HS5.out
      · have hB5 : Below S0 w w5 := HBr.out.trans (hU5.below (by have := HBr.out.size; omega) (fun i hi hc => by have := hG i hc; omega))
        have HB5 := Lib.hid hB5
        have HS5 := Lib.hid hS5
        have HL5 := Lib.hid hl5
        have hstep : loopP O h.2.2.1 16 [] 1 = loopP O h.2.2.1 (q - 1) (fs ++ [frOf b]) (e + many (6 + b.length)) := by
          rw [HQ.out]
          have hm : 1 ≤ many (6 + b.length) := by unfold many; split <;> omega
          obtain ⟨q', rfl⟩ : ∃ q', q = q' + 1 := ⟨q - 1, by omega⟩
          simp only [loopP, hnn]
          rfl
        have HStep := Lib.hid hstep
        have hm : 1 ≤ many (6 + b.length) := by unfold many; split <;> omega
        clear hB5 hS5 hl5 hU5 hstep hnn
        go_wp2_with fail
        go_roundw
        case rel =>
          refine ⟨q - 1, fs ++ [frOf b], e + many (6 + b.length), G2, HStep.out, by omega, by omega, hlen, by simp; omega, HS5.out, HL5.out, ?_, ?_, HB5.out⟩
          · intro hc
            rcases hF5 _ hc with hh | hh
            · exact hGl hh
            · omega
          · intro i hi
            rcases hF5 i hi with hh | hh
            · exact hG i hh
            · have := HBr.out.size; omega
        case measure => rw [HCell.out _ _ _ _ HS5.out, HCell.out _ _ _ _ HSg.out]; omega
end Go.Proofs.YtoobiffhjjfpgaaGreat.Print

namespace Go.Proofs.YtoobiffhjjfpgaaGreat.Print
open Go.RowKit

theorem pieces_flat : ∀ (n : Nat) (l : List UInt8), l.length ≤ 52 * n → ∃ z, (pieces n l).flatten = l ++ z
  | 0, l, h => ⟨[], by
    have : l = [] := List.length_eq_zero_iff.1 (by omega)
    rw [this]; rfl⟩
  | n + 1, l, h => by
    obtain ⟨z, hz⟩ := pieces_flat n (l.drop 52) (by rw [List.length_drop]; omega)
    rcases Nat.lt_or_ge l.length 52 with hl | hl
    · refine ⟨List.replicate (52 - l.length) 0 ++ z, ?_⟩
      have hd : l.drop 52 = [] := List.drop_of_length_le (by omega)
      rw [hd, List.nil_append] at hz
      show (pad52 l :: pieces n (l.drop 52)).flatten = _
      rw [List.flatten_cons, hd, hz, pad52, List.take_of_length_le (by omega), List.append_assoc]
    · refine ⟨z, ?_⟩
      show (pad52 l :: pieces n (l.drop 52)).flatten = _
      rw [List.flatten_cons, hz, pad52, show 52 - l.length = 0 by omega, List.replicate_zero, List.append_nil, ← List.append_assoc, List.take_append_drop]
theorem lastOf_sealAt (W : List (Nat × List UInt8)) (s c : Nat) (L : List (List UInt8)) (K : Nat) (z : List UInt8) : ∀ b, lastOf (W ++ sealAt b s c L) K z = if h : b ≤ K ∧ K < b + L.length then sealL s c (L[K - b]'(by omega)) else lastOf W K z := by
  induction L generalizing W with
  | nil => intro b; rw [dif_neg (by simp only [List.length_nil]; omega)]; simp [sealAt]
  | cons p r ih =>
    intro b
    have e : W ++ sealAt b s c (p :: r) = (W ++ [(b, sealL s c p)]) ++ sealAt (b + 1) s c r := by simp [sealAt]
    rw [e, ih]
    by_cases h1 : b + 1 ≤ K ∧ K < b + 1 + r.length
    · rw [dif_pos h1, dif_pos (by simp only [List.length_cons]; omega)]
      obtain ⟨j, hj⟩ : ∃ j, K - b = j + 1 := ⟨K - b - 1, by omega⟩
      congr 1
      simp only [hj, List.getElem_cons_succ]
      congr 1
      omega
    · rw [dif_neg h1, lastOf_snoc]
      by_cases h2 : b = K
      · subst h2
        rw [if_pos rfl, dif_pos (by simp only [List.length_cons]; omega)]
        simp
      · rw [if_neg h2, dif_neg (by simp only [List.length_cons]; omega)]
/-- Frames that lie one behind the other. -/
def Runs (O : Nat → Op3) (st : Nat) : List Fr → Nat → Nat → Nat → Prop
  | [], _, e, e' => e = e'
  | x :: r, c, e, e' => (∃ K : Nat, x.1 = K ∧ 1 ≤ K ∧ K ≤ 255 ∧ x.2.size ≤ 773 ∧ e + many (7 + x.2.size) ≤ 16 ∧ ∀ j (h : j < (frP st e K x.2).length), O (e + j) = some (st, c + 2, (frP st e K x.2)[j])) ∧ Runs O st r (c + 1) (e + many (7 + x.2.size)) e'
theorem Runs.le {O : Nat → Op3} {st : Nat} : ∀ {fs : List Fr} {c e e' : Nat}, Runs O st fs c e e' → e + fs.length ≤ e'
  | [], _, _, _, h => by cases h; simp
  | x :: r, c, e, e', ⟨_, h⟩ => by
    have := Runs.le h
    have hm : 1 ≤ many (7 + x.2.size) := by unfold many; split <;> omega
    simp only [List.length_cons]; omega
theorem frP_length (st e k : Nat) (p : ByteArray) : (frP st e k p).length = many (7 + p.size) := pieces_length _ _
theorem Runs.congr {O O' : Nat → Op3} {st : Nat} : ∀ {fs : List Fr} {c e e' : Nat}, Runs O st fs c e e' → (∀ k, e ≤ k → k < e' → O' k = O k) → Runs O' st fs c e e'
  | [], _, _, _, h, _ => h
  | x :: r, c, e, e', ⟨⟨K, h1, h2, h3, h4, h5, h6⟩, h⟩, hO => by
    have hl := Runs.le h
    refine ⟨⟨K, h1, h2, h3, h4, h5, fun j hj => ?_⟩, Runs.congr h (fun k hk1 hk2 => hO k (by omega) hk2)⟩
    have := frP_length st e K x.2
    rw [hO (e + j) (by omega) (by omega)]
    exact h6 j hj
theorem Runs.snoc {O : Nat → Op3} {st : Nat} {K : Nat} {p : ByteArray} (h2 : 1 ≤ K) (h3 : K ≤ 255) (h4 : p.size ≤ 773) : ∀ {fs : List Fr} {c e e' : Nat}, Runs O st fs c e e' → e' + many (7 + p.size) ≤ 16 →
    (∀ j (h : j < (frP st e' K p).length), O (e' + j) = some (st, c + fs.length + 2, (frP st e' K p)[j])) → Runs O st (fs ++ [((K : Int), p)]) c e (e' + many (7 + p.size))
  | [], c, e, e', h, h5, h6 => by
    cases h
    exact ⟨⟨K, rfl, h2, h3, h4, h5, h6⟩, rfl⟩
  | x :: r, c, e, e', ⟨hx, h⟩, h5, h6 => by
    refine ⟨hx, Runs.snoc h2 h3 h4 h h5 (fun j hj => ?_)⟩
    rw [h6 j hj, List.length_cons, show c + 1 + r.length + 2 = c + (r.length + 1) + 2 by omega]
theorem frOf_body (K : Nat) (p : ByteArray) (h : K ≤ 255) : frOf (UInt8.ofNat K :: p.data.toList) = ((K : Int), p) := by
  simp only [frOf, List.headD_cons, List.tail_cons, bs_of]
  rw [UInt8.toNat_ofNat_of_lt' (by have : UInt8.size = 256 := rfl; omega)]
/-- The frame that lies at a place. -/
theorem next_put {O : Nat → Op3} (h52 : O52 O) {st e c K : Nat} {p : ByteArray} (h2 : 1 ≤ K) (h3 : K ≤ 255) (h4 : p.size ≤ 773) (h5 : e + many (7 + p.size) ≤ 16)
    (h6 : ∀ j (h : j < (frP st e K p).length), O (e + j) = some (st, c + 2, (frP st e K p)[j])) : nextP O st e c = some (UInt8.ofNat K :: p.data.toList) := by
  have hl := frP_length st e K p
  have hm : 1 ≤ many (7 + p.size) := by unfold many; split <;> omega
  have hbl : (UInt8.ofNat K :: p.data.toList).length = 1 + p.size := by rw [List.length_cons, ← size_list]; omega
  obtain ⟨z, hz⟩ := pieces_flat (many (7 + p.size)) (frL st e K p) (by rw [frL_length]; exact many_le _)
  have hjoin : ∀ n, n ≤ many (7 + p.size) → joinP O e n = ((frP st e K p).take n).flatten := by
    intro n hn
    induction n with
    | zero => rfl
    | succ n ih =>
      have hlt : n < (frP st e K p).length := by omega
      rw [joinP_succ, ih (by omega), h6 n hlt, List.take_succ_eq_append_getElem hlt, List.flatten_append]
      simp [oD, bs]
  have hJ : joinP O e (many (7 + p.size)) = frL st e K p ++ z := by
    rw [hjoin _ (Nat.le_refl _), List.take_of_length_le (by omega)]; exact hz
  have h0 : 0 < (frP st e K p).length := by omega
  have hg0 : gate O st (c + 2) e = some (frP st e K p)[0] := gate_of (h6 0 h0)
  have ht2 : ((frP st e K p)[0]).take 2 = beL (1 + p.size) 2 := by
    have h1 := hjoin 1 hm
    have h52' := h52 _ _ (h6 0 h0)
    simp only at h52'
    have hj1 : joinP O e 1 = (frP st e K p)[0] := by
      rw [h1]
      match hfr : frP st e K p, h0 with
      | a :: r, _ => simp
    have hpre := joinP_add O e 1 (many (7 + p.size)) hm
    rw [hj1, hJ] at hpre
    have : (frL st e K p ++ z).take 2 = ((frP st e K p)[0]).take 2 := by
      rw [← hpre, List.take_take, Nat.min_eq_left (by omega)]
    rw [← this, frL, encL, hbl, List.append_assoc, List.take_left' (beL_length _ _)]
  have hr : readL (((frP st e K p)[0]).take 2) = 1 + p.size := by rw [ht2, readL_beL _ _ (by omega)]
  have hn : many (readL (((frP st e K p)[0]).take 2) + 6) = many (7 + p.size) := by rw [hr]; congr 1; omega
  have := (next_law h52 (stamp := st) (c := c) (show e < 16 by omega)).2.1 _ hg0 (by rw [hn]; exact ⟨by omega, fun k hk => ⟨_, gate_of (h6 k (by omega))⟩⟩)
  rw [this, hn, hJ]
  refine decP_enc (by omega) (by omega) ?_
  simp only [List.headD_cons]
  intro h
  have := congrArg UInt8.toNat h
  rw [UInt8.toNat_ofNat_of_lt' (by have : UInt8.size = 256 := rfl; omega)] at this
  simp at this
  omega
/-- What lies one behind the other is loaded. -/
theorem loop_runs {O : Nat → Op3} (h52 : O52 O) {st : Nat} : ∀ {fs fs0 : List Fr} {e e' q : Nat}, Runs O st fs fs0.length e e' → loopP O st (q + fs.length) fs0 e = loopP O st q (fs0 ++ fs) e'
  | [], fs0, e, e', q, h => by cases h; simp
  | x :: r, fs0, e, e', q, ⟨⟨K, h1, h2, h3, h4, h5, h6⟩, h⟩ => by
    have hn := next_put h52 h2 h3 h4 h5 h6
    have hbl : (6 + (UInt8.ofNat K :: x.2.data.toList).length) = 7 + x.2.size := by rw [List.length_cons, ← size_list]; omega
    have hx : frOf (UInt8.ofNat K :: x.2.data.toList) = x := by rw [frOf_body K x.2 h3]; exact Prod.ext h1.symm rfl
    rw [List.length_cons, show q + (r.length + 1) = (q + r.length) + 1 by omega, loopP, hn]
    simp only [hbl, hx]
    rw [loop_runs h52 (fs := r) (fs0 := fs0 ++ [x]) (e' := e') (q := q) (by rw [List.length_append]; exact h)]
    simp
theorem next_stop {O : Nat → Op3} {st e c : Nat} (h : e < 16 → gate O st (c + 2) e = none) : nextP O st e c = none := by
  unfold nextP
  by_cases he : e < 16
  · rw [if_pos he]
    obtain ⟨q, hq⟩ : ∃ q, 16 - e = q + 1 := ⟨16 - e - 1, by omega⟩
    rw [hq, runP, h he]
    exact decP_none (.inl (by simp))
  · rw [if_neg he]
/-- Whole. -/
theorem load_back {O : Nat → Op3} (h52 : O52 O) {st : Nat} {fs : List Fr} {e : Nat} (h : Runs O st fs 0 1 e) (he : e ≤ 16) (hend : e < 16 → gate O st (fs.length + 2) e = none) : loopP O st 16 [] 1 = (fs, e) := by
  have hl := Runs.le h
  have := loop_runs h52 (fs := fs) (fs0 := []) (e := 1) (e' := e) (q := 16 - fs.length) h
  rw [show 16 - fs.length + fs.length = 16 by omega, List.nil_append] at this
  rw [this]
  obtain ⟨q, hq⟩ : ∃ q, 16 - fs.length = q + 1 := ⟨16 - fs.length - 1, by omega⟩
  rw [hq, loopP, next_stop hend]
theorem head_back {O : Nat → Op3} {h : H4} (hf : HFits h) (h0 : O 0 = some (h.2.2.1, 1, pad52 (hdrL h))) : headP O = some h := by
  have hp : pad52 (hdrL h) = hdrL h ++ List.replicate (52 - (hdrL h).length) 0 := by rw [pad52, List.take_of_length_le (by rw [hdrL_length]; omega)]
  have := hdP_enc hf (List.replicate (52 - (hdrL h).length) 0)
  rw [← hp] at this
  unfold headP
  rw [h0]
  simp [this]
end Go.Proofs.YtoobiffhjjfpgaaGreat.Print

namespace Go.Proofs.YtoobiffhjjfpgaaGreat.Print
open Go.RowKit

/-- The sectors of segment n, as they open. -/
def secO (lies : List (List UInt8)) (W : List (Nat × List UInt8)) (f n : Nat) : Nat → Op3 := fun k => opnP (secX lies W f (2 + 16 * n + k))
theorem secO_52 (lies : List (List UInt8)) (W : List (Nat × List UInt8)) (f n : Nat) : O52 (secO lies W f n) := O52_of fun _ => ⟨_, rfl⟩
structure PutInv (O : Nat → Op3) (h : H4) (fs : List Fr) (e : Nat) : Prop where
  head : O 0 = some (h.2.2.1, 1, pad52 (hdrL h))
  runs : Runs O h.2.2.1 fs 0 1 e
  e1 : 1 ≤ e
  e16 : e ≤ 16
  rest : ∀ k, e ≤ k → k < 16 → ∀ x, O k = some x → x.1 ≠ h.2.2.1
theorem secO_seal (lies : List (List UInt8)) (W : List (Nat × List UInt8)) (f n e s c : Nat) (L : List (List UInt8)) (h52 : ∀ p ∈ L, p.length = 52) (hs : s < 4294967296) (hc1 : 1 ≤ c) (hc2 : c < 65536) (k : Nat) :
    secO lies (W ++ sealAt (f + (2 + 16 * n + e)) s c L) f n k = if hk : e ≤ k ∧ k < e + L.length then some (s, c, L[k - e]'(by omega)) else secO lies W f n k := by
  unfold secO secX
  rw [lastOf_sealAt]
  by_cases hk : e ≤ k ∧ k < e + L.length
  · rw [dif_pos hk, dif_pos (by omega), opnP_seal hs hc1 hc2 (h52 _ (List.getElem_mem _))]
    congr 4
    omega
  · rw [dif_neg hk, dif_neg (by omega)]
theorem putInv_create {lies : List (List UInt8)} {W : List (Nat × List UInt8)} {f n : Nat} {h : H4} (hf : HFits h) (hr : ∀ k, 1 ≤ k → k < 16 → ∀ x, secO lies W f n k = some x → x.1 ≠ h.2.2.1) :
    PutInv (secO lies (W ++ sealAt (f + (2 + 16 * n + 0)) h.2.2.1 1 [pad52 (hdrL h)]) f n) h [] 1 := by
  have hO := secO_seal lies W f n 0 h.2.2.1 1 [pad52 (hdrL h)] (by intro p hp; rw [List.mem_singleton.1 hp]; exact pad52_length _) hf.2.2.2.1 (by omega) (by omega)
  refine ⟨?_, rfl, Nat.le_refl _, by omega, fun k hk1 hk2 x hx => ?_⟩
  · rw [hO 0, dif_pos (by simp)]; rfl
  · rw [hO k, dif_neg (by simp; omega)] at hx
    exact hr k hk1 hk2 x hx
theorem putInv_append {lies : List (List UInt8)} {W : List (Nat × List UInt8)} {f n : Nat} {h : H4} {fs : List Fr} {e : Nat} (I : PutInv (secO lies W f n) h fs e) (hst : h.2.2.1 < 4294967296) {K : Nat} {p : ByteArray} (h2 : 1 ≤ K) (h3 : K ≤ 255) (h4 : p.size ≤ 773) (h5 : e + many (7 + p.size) ≤ 16) :
    PutInv (secO lies (W ++ sealAt (f + (2 + 16 * n + e)) h.2.2.1 (fs.length + 2) (frP h.2.2.1 e K p)) f n) h (fs ++ [((K : Int), p)]) (e + many (7 + p.size)) := by
  have hl := I.runs.le
  have h16 := I.e16
  have hO := secO_seal lies W f n e h.2.2.1 (fs.length + 2) (frP h.2.2.1 e K p) (pieces_52 _ _) hst (by omega) (by omega)
  have hpl := frP_length h.2.2.1 e K p
  have he1 := I.e1
  refine ⟨?_, ?_, by omega, h5, fun k hk1 hk2 x hx => ?_⟩
  · rw [hO 0, dif_neg (by omega)]; exact I.head
  · refine Runs.snoc h2 h3 h4 (I.runs.congr fun k hk1 hk2 => ?_) h5 (fun j hj => ?_)
    · rw [hO k, dif_neg (by omega)]
    · rw [hO (e + j), dif_pos (by omega)]
      simp
  · rw [hO k, dif_neg (by omega)] at hx
    exact I.rest k (by omega) hk2 x hx
theorem putInv_load {O : Nat → Op3} {h : H4} {fs : List Fr} {e : Nat} (h52 : O52 O) (hf : HFits h) (I : PutInv O h fs e) : headP O = some h ∧ loopP O h.2.2.1 16 [] 1 = (fs, e) := by
  refine ⟨head_back hf I.head, load_back h52 I.runs I.e16 (fun he => ?_)⟩
  cases hg : gate O h.2.2.1 (fs.length + 2) e with
  | none => rfl
  | some d => exact absurd rfl (I.rest e (Nat.le_refl _) he _ (gate_some hg))
theorem zeroSec_shut : opnP zeroSec = none := opnP_zero (by decide)
theorem secO_zero (n' f n k : Nat) (h : f + (2 + 16 * n + k) < n') : secO (zeroDisk n') [] f n k = none := by
  unfold secO secX
  rw [List.getD_eq_getElem?_getD, zeroDisk_at _ _ h]
  exact zeroSec_shut
end Go.Proofs.YtoobiffhjjfpgaaGreat.Print

namespace Go.Proofs.YtoobiffhjjfpgaaGreat.Print
open Go.RowKit

theorem create_go {w : World} {v : Nat} {lies : List (List UInt8)} {W : List (Nat × List UInt8)} {f N : Nat} {F : Foot} (V : ViewIs v lies W f N (-1) false w F)
    (n : Nat) (h : H4) (hf : HFits h) (hN : N ≤ 8192) (hn : 2 + 16 * n + 16 ≤ N) (hw : W.length ≤ 900000000) (i : Int) (hi : i = n) :
    Calls Tryz.prog 115 #[.pointer (some ⟨v, 0, none⟩), .int .i64 i, hdV h.1 h.2.1 h.2.2.1 h.2.2.2] w fun x w' => ∃ (s : Nat) (F' G' : Foot), x = .returned (.tuple #[.pointer (some ⟨s, 0, none⟩), .int .i64 0]) ∧
      ViewIs v lies (W ++ sealAt (f + (2 + 16 * n + 0)) h.2.2.1 1 [pad52 (hdrL h)]) f N (-1) false w' F' ∧ SegIs s v n h [] 1 false w' G' ∧ Apart F' G' ∧ Upd F w w' ∧ Fresh w F F' ∧ ∀ i, G' i → w.heap.size ≤ i := by
  refine (create_any V n h hf hN hn hw i hi).mono ?_
  rintro x w' ⟨e, w1, s, hx, hB, hs1, hs2, hseg, j, fu', dead', hj, ⟨F', hV, hU, hF'⟩, hc1, hc2, hc3, hc4⟩
  obtain ⟨rfl, rfl⟩ := hc3 rfl rfl
  rcases hc1 with ⟨_, rfl, rfl⟩ | ⟨h0, _⟩
  · rw [if_pos rfl] at hx
    rw [List.take_length] at hV
    have hsF : ¬ F s := fun hc => by have := ViewIs.there V s hc; omega
    have hseg' := hU.at_ hseg hsF
    refine ⟨s, F', (fun i => i = s), hx, hV, ⟨.slice none 0 0, hseg', ⟨rfl, .inl ⟨rfl, rfl⟩⟩, by simp [Value.ownBlock], fun i => by simp [Value.ownBlock]⟩, ?_, (Upd.of_below hB).trans hU (fun _ _ h => h), fun i hi => (hF' i hi).imp id (fun hh => by have := hB.size; omega), fun i hi => by omega⟩
    intro i hi hc
    subst hc
    rcases hF' i hi with hh | hh
    · exact hsF hh
    · omega
  · cases h0
theorem append_go {w : World} {v : Nat} {lies : List (List UInt8)} {W : List (Nat × List UInt8)} {f N : Nat} {F G : Foot} {s n : Nat} {h : H4} {fs : List Fr} {e : Nat}
    (V : ViewIs v lies W f N (-1) false w F) (S : SegIs s v n h fs e false w G) (ha : Apart F G) (hst : h.2.2.1 < 4294967296) (hN : N ≤ 8192) (hn : 2 + 16 * n + 16 ≤ N) (he1 : 1 ≤ e) (he2 : e ≤ 16) (hfs : fs.length ≤ 1000) (hw : W.length ≤ 900000000)
    (k : Nat) (p : ByteArray) (hk1 : 1 ≤ k) (hk2 : k ≤ 255) (hp : p.size ≤ 773) (hfit : e + many (7 + p.size) ≤ 16) (K : Int) (hK : K = k) :
    Calls Tryz.prog 77 #[.pointer (some ⟨s, 0, none⟩), frV K p] w fun x w' => ∃ F' G' : Foot, x = .returned (.tuple #[.int .i64 e, .int .i64 0]) ∧
      ViewIs v lies (W ++ sealAt (f + (2 + 16 * n + e)) h.2.2.1 (fs.length + 2) (frP h.2.2.1 e k p)) f N (-1) false w' F' ∧ SegIs s v n h (fs ++ [((k : Int), p)]) (e + many (7 + p.size)) false w' G' ∧ Upd (Both F G) w w' ∧ Fresh w F F' ∧ Fresh w G G' ∧ Apart F' G' := by
  subst hK
  refine (append_any V S ha hst hN hn he1 he2 hfs hw k p hk1 hk2 hp).mono ?_
  rintro x w' (⟨h1, _⟩ | ⟨_, er, hx, j, fu', dead', F', G', hj, hV, hS, hU, hF, hG, hA, hc1, hc2, hc3⟩)
  · omega
  · obtain ⟨rfl, rfl⟩ := hc3 rfl rfl
    rcases hc1 with ⟨_, rfl, rfl⟩ | ⟨h0, _⟩
    · rw [if_pos rfl] at hx
      rw [if_pos rfl, if_pos rfl] at hS
      rw [List.take_of_length_le (by rw [frP_length]; exact Nat.le_refl _)] at hV
      exact ⟨F', G', hx, hV, hS, hU, hF, hG, hA⟩
    · cases h0
end Go.Proofs.YtoobiffhjjfpgaaGreat.Print

namespace Go.Proofs.YtoobiffhjjfpgaaGreat.Print
open Go.RowKit

def abcB : ByteArray := ⟨#[97, 98, 99]⟩
abbrev hPut : H4 := (4, 1, 9, 5)
theorem hPut_fits : HFits hPut := ⟨by decide, by decide, by decide, by decide, by decide⟩

end Go.Proofs.YtoobiffhjjfpgaaGreat.Print
