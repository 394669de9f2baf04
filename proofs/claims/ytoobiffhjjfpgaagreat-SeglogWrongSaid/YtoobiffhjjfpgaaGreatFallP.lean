/- A torn sector opens by the new stamp only if it is the new one. SegmentFalls, the plain law: what was flushed is loaded, and of what was put the first ones alone. -/
import Derived.Test.YtoobiffhjjfpgaaGreatPut
import Derived.Test.YtoobiffhjjfpgaaGreatViewC
import Derived.Test.YtoobiffhjjfpgaaGreatViewF
namespace Go.Proofs.YtoobiffhjjfpgaaGreat.Print
open Go.RowKit

/-- A sector that is none of a stamp's: bytes 0, or sealed by another stamp. -/
def Other (st : Nat) (s : List UInt8) : Prop := s = zeroSec ∨ ∃ m n d, s = sealL m n d ∧ d.length = 52 ∧ m < 4294967296 ∧ m ≠ st
theorem Other.length {st : Nat} {s : List UInt8} (h : Other st s) : s.length = 64 := by
  rcases h with rfl | ⟨m, n, d, rfl, hd, _⟩
  · rfl
  · exact sealL_length m n d hd
theorem tail_stamp {st : Nat} {s : List UInt8} (h : Other st s) : readL ((s.drop 58).take 4) ≠ st ∨ readL (((s.drop 58).drop 4).take 2) = 0 := by
  rcases h with rfl | ⟨m, n, d, rfl, hd, hm, hne⟩
  · exact .inr (by decide)
  · refine .inl ?_
    rw [sealL_last m n d hd, markL, List.take_left' (beL_length m 4), readL_beL _ _ hm]
    exact hne
theorem drop_at (A B : List UInt8) (k n : Nat) (hA : A.length = k) (hn : k ≤ n) : (A ++ B).drop n = B.drop (n - k) := by
  rw [List.drop_append, List.drop_of_length_le (by omega), List.nil_append, hA]
theorem torn_open {st c : Nat} {p s : List UInt8} (hp : p.length = 52) (hst : st < 4294967296) (hs : Other st s) (k : Nat) {x : Nat × Nat × List UInt8} (hx : opnP ((sealL st c p).take k ++ s.drop k) = some x) (h1 : x.1 = st) : (sealL st c p).take k ++ s.drop k = sealL st c p := by
  have hsl := hs.length
  have hdl := sealL_length st c p hp
  obtain ⟨m, n, d⟩ := x
  simp only at h1
  subst h1
  obtain ⟨hM, hn1, hn2, hm2, hd⟩ := opnP_back hx
  have h6 := sealL_six m n d
  have h58 := sealL_last m n d hd
  rw [← hM] at h6 h58
  rcases Nat.lt_or_ge k 58 with hk | hk
  · exfalso
    have hA : ((sealL m c p).take k).length = k := by rw [List.length_take, hdl]; omega
    have hdr : ((sealL m c p).take k ++ s.drop k).drop 58 = s.drop 58 := by
      rw [drop_at _ _ k 58 hA (by omega), List.drop_drop]
      congr 1
      omega
    rw [hdr] at h58
    rcases tail_stamp hs with h | h
    · rw [h58, markL, List.take_left' (beL_length m 4), readL_beL _ _ hm2] at h
      exact h rfl
    · rw [h58, markL, List.drop_left' (beL_length m 4), List.take_of_length_le (by rw [beL_length]; exact Nat.le_refl _), readL_beL _ _ hn2] at h
      omega
  · rcases Nat.lt_or_ge k 64 with hk2 | hk2
    · have hA : ((sealL m c p).take k).length = k := by rw [List.length_take, hdl]; omega
      have e6 : ((sealL m c p).take k ++ s.drop k).take 6 = markL m c := by
        rw [List.take_append_of_le_length (by omega), List.take_take, Nat.min_eq_left (by omega), sealL_six]
      have hmk : markL m c = markL m n := by rw [← e6, h6]
      have e58 : ((sealL m c p).take k ++ s.drop k).drop 58 = (sealL m c p).drop 58 := by
        rw [h58, sealL_last m c p hp, hmk]
      have h0 : ((sealL m c p).take k ++ s.drop k).take 58 = (sealL m c p).take 58 := by
        rw [List.take_append_of_le_length (by omega), List.take_take, Nat.min_eq_left (by omega)]
      rw [← List.take_append_drop 58 ((sealL m c p).take k ++ s.drop k), h0, e58, List.take_append_drop]
    · rw [List.take_of_length_le (by omega), List.drop_of_length_le (by omega), List.append_nil]
/-- Sectors of which those of a stamp are the put ones. -/
def Sub (st : Nat) (O P : Nat → Op3) : Prop := ∀ k x, O k = some x → x.1 = st → P k = some x
theorem frP_first (st e K : Nat) (p : ByteArray) (h4 : p.size ≤ 773) (h0 : 0 < (frP st e K p).length) : readL (((frP st e K p)[0]).take 2) = 1 + p.size := by
  have hm1 : 1 ≤ many (7 + p.size) := by unfold many; split <;> omega
  obtain ⟨n, hn⟩ : ∃ n, many (7 + p.size) = n + 1 := ⟨many (7 + p.size) - 1, by omega⟩
  have hf : frP st e K p = pad52 (frL st e K p) :: pieces n ((frL st e K p).drop 52) := by rw [frP, hn]; rfl
  have hg : (frP st e K p)[0] = pad52 (frL st e K p) := by simp only [hf, List.getElem_cons_zero]
  have hl := frL_length st e K p
  have hbl : (UInt8.ofNat K :: p.data.toList).length = 1 + p.size := by rw [List.length_cons, ← size_list]; omega
  rw [hg, pad52, List.take_append_of_le_length (by rw [List.length_take]; omega), List.take_take, Nat.min_eq_left (by omega), frL, encL, hbl, List.take_left' (beL_length _ _), readL_beL _ _ (by omega)]
/-- What is loaded of them are the first frames; all those that lie there. -/
theorem prefix_load {O P : Nat → Op3} (h52 : O52 O) {st : Nat} (hsub : Sub st O P) : ∀ {fs fs0 : List Fr} {e e' q : Nat}, Runs P st fs fs0.length e e' → fs.length ≤ q → (∀ k, e' ≤ k → k < 16 → ∀ x, P k = some x → x.1 ≠ st) →
    ∃ n, n ≤ fs.length ∧ (loopP O st (q + 1) fs0 e).1 = fs0 ++ fs.take n ∧ (∀ m e2, m ≤ fs.length → Runs O st (fs.take m) fs0.length e e2 → m ≤ n)
  | [], fs0, e, e', q, h, hq, hend => by
    cases h
    refine ⟨0, Nat.le_refl _, ?_, fun m _ hm _ => hm⟩
    have : nextP O st e fs0.length = none := next_stop fun he => by
      cases hg : gate O st (fs0.length + 2) e with
      | none => rfl
      | some d => exact absurd rfl (hend e (Nat.le_refl _) he _ (hsub e _ (gate_some hg) rfl))
    simp [loopP, this]
  | x :: r, fs0, e, e', q, ⟨⟨K, h1, h2, h3, h4, h5, h6⟩, h⟩, hq, hend => by
    have hfl := frP_length st e K x.2
    have hm1 : 1 ≤ many (7 + x.2.size) := by unfold many; split <;> omega
    have hbl : (6 + (UInt8.ofNat K :: x.2.data.toList).length) = 7 + x.2.size := by rw [List.length_cons, ← size_list]; omega
    have hx : frOf (UInt8.ofNat K :: x.2.data.toList) = x := by rw [frOf_body K x.2 h3]; exact Prod.ext h1.symm rfl
    by_cases hall : ∀ j (hj : j < (frP st e K x.2).length), O (e + j) = some (st, fs0.length + 2, (frP st e K x.2)[j])
    · have hn := next_put h52 h2 h3 h4 h5 hall
      obtain ⟨q', rfl⟩ : ∃ q', q = q' + 1 := ⟨q - 1, by simp only [List.length_cons] at hq; omega⟩
      obtain ⟨n, hn1, hn2, hn3⟩ := prefix_load h52 hsub (fs := r) (fs0 := fs0 ++ [x]) (e := e + many (7 + x.2.size)) (e' := e') (q := q') (by rw [List.length_append]; exact h) (by simp only [List.length_cons] at hq; omega) hend
      refine ⟨n + 1, by simp only [List.length_cons]; omega, ?_, fun m e2 hm hr => ?_⟩
      · rw [loopP, hn]
        simp only [hbl, hx]
        rw [hn2]
        simp
      · cases m with
        | zero => omega
        | succ m =>
          rw [List.take_succ_cons] at hr
          obtain ⟨_, hr⟩ := hr
          have := hn3 m e2 (by simp only [List.length_cons] at hm; omega) (by rw [List.length_append]; exact hr)
          omega
    · have hnone : nextP O st e fs0.length = none := by
        have he : e < 16 := by omega
        obtain ⟨L1, L2, L3⟩ := next_law h52 (O := O) (stamp := st) (c := fs0.length) he
        cases hg : gate O st (fs0.length + 2) e with
        | none => exact L1 hg
        | some d =>
          have h0 : 0 < (frP st e K x.2).length := by omega
          have hPe := hsub e _ (gate_some hg) rfl
          have hP0 := h6 0 h0
          rw [Nat.add_zero, hPe] at hP0
          have hd0 : d = (frP st e K x.2)[0] := by cases hP0; rfl
          have hgP : gate P st (fs0.length + 2) e = some d := gate_of hPe
          refine L3 d hg fun hc => hall fun j hj => ?_
          have hM : many (readL (d.take 2) + 6) = many (7 + x.2.size) := by rw [hd0, frP_first st e K x.2 h4 h0]; congr 1; omega
          rw [hM] at hc
          obtain ⟨d', hd'⟩ := hc.2 j (by omega)
          have hPj := hsub (e + j) _ (gate_some hd') rfl
          have h6j := h6 j hj
          rw [hPj] at h6j
          rw [gate_some hd']
          exact h6j
      refine ⟨0, Nat.zero_le _, ?_, fun m e2 hm hr => ?_⟩
      · simp [loopP, hnone]
      · cases m with
        | zero => exact Nat.le_refl _
        | succ m =>
          rw [List.take_succ_cons] at hr
          obtain ⟨⟨K', h1', _, _, _, _, h6'⟩, _⟩ := hr
          obtain rfl : K = K' := by have : (K : Int) = K' := h1.symm.trans h1'; omega
          exact absurd h6' hall
/-- What a crash leaves of sectors each of which is written once at most: the old one, or a torn one. -/
def Kept (ins : List (Nat × List UInt8)) (lies : List (List UInt8)) (st : List (List UInt8) × (Nat → Int)) : Prop :=
  st.1.length = lies.length ∧ ∀ p, (st.2 p = 0 ∧ st.1.getD p [] = lies.getD p []) ∨ (∃ (i : Nat) (hi : i < ins.length) (n : Int), (ins[i]).1 = p ∧ st.1.getD p [] = mix (ins[i]).2 (lies.getD p []) n ∧ st.2 p = i + 1)
theorem kept_step {ins : List (Nat × List UInt8)} {lies : List (List UInt8)} (hu : ∀ i j (hi : i < ins.length) (hj : j < ins.length), (ins[i]).1 = (ins[j]).1 → i = j) (hin : ∀ x ∈ ins, x.1 < lies.length) {st : List (List UInt8) × (Nat → Int)} (h : Kept ins lies st) (k : K2) : Kept ins lies (kstep ins st k) := by
  unfold kstep
  by_cases hk : 0 ≤ k.1 ∧ k.1.toNat < ins.length
  · rw [dif_pos hk]
    by_cases hn : st.2 (ins[k.1.toNat]).1 ≤ k.1
    · rw [if_pos hn]
      have hlt := hin _ (List.getElem_mem hk.2)
      refine ⟨by rw [List.length_set]; exact h.1, fun p => ?_⟩
      by_cases hp : p = (ins[k.1.toNat]).1
      · subst hp
        rcases h.2 (ins[k.1.toNat]).1 with ⟨_, h2⟩ | ⟨i, hi, n, h1, _, h3⟩
        · refine .inr ⟨k.1.toNat, hk.2, k.2, rfl, ?_, ?_⟩
          · rw [h2, List.getD_eq_getElem?_getD, List.getElem?_set_self (by rw [h.1]; exact hlt)]; rfl
          · simp; omega
        · have := hu i k.1.toNat hi hk.2 h1
          subst this
          rw [h3] at hn
          omega
      · rcases h.2 p with ⟨h1, h2⟩ | ⟨i, hi, n, h1, h2, h3⟩
        · refine .inl ⟨by simp only [if_neg hp]; exact h1, ?_⟩
          rw [List.getD_eq_getElem?_getD, List.getElem?_set_ne (fun e => hp e.symm), ← List.getD_eq_getElem?_getD]; exact h2
        · refine .inr ⟨i, hi, n, h1, ?_, by simp only [if_neg hp]; exact h3⟩
          rw [List.getD_eq_getElem?_getD, List.getElem?_set_ne (fun e => hp e.symm), ← List.getD_eq_getElem?_getD]; exact h2
    · rw [if_neg hn]; exact h
  · rw [dif_neg hk]; exact h
theorem kept_fold {ins : List (Nat × List UInt8)} {lies : List (List UInt8)} (hu : ∀ i j (hi : i < ins.length) (hj : j < ins.length), (ins[i]).1 = (ins[j]).1 → i = j) (hin : ∀ x ∈ ins, x.1 < lies.length) (ks : List K2) : Kept ins lies (kfold ins lies ks) := by
  induction ks using snoc_ind with
  | h0 => exact ⟨rfl, fun p => .inl ⟨rfl, rfl⟩⟩
  | h1 l k ih => rw [kfold_snoc]; exact kept_step hu hin ih k
end Go.Proofs.YtoobiffhjjfpgaaGreat.Print

namespace Go.Proofs.YtoobiffhjjfpgaaGreat.Print
open Go.RowKit

theorem set_getD (lies : List (List UInt8)) (a p : Nat) (x : List UInt8) (hp : p < lies.length) : (lies.set a x).getD p [] = if a = p then x else lies.getD p [] := by
  by_cases h : a = p
  · subst h
    rw [List.getD_eq_getElem?_getD, List.getElem?_set_self hp, if_pos rfl]; rfl
  · rw [List.getD_eq_getElem?_getD, List.getElem?_set_ne h, if_neg h, ← List.getD_eq_getElem?_getD]
theorem landed_getD : ∀ (W : List (Nat × List UInt8)) (lies : List (List UInt8)) (p : Nat), p < lies.length → (landed lies W).getD p [] = lastOf W p (lies.getD p [])
  | [], _, _, _ => rfl
  | x :: r, lies, p, hp => by
    have ih := landed_getD r (lies.set x.1 x.2) p (by rw [List.length_set]; exact hp)
    rw [set_getD _ _ _ _ hp] at ih
    exact ih
theorem lastOf_none {W : List (Nat × List UInt8)} {p : Nat} (s : List UInt8) (h : ∀ x ∈ W, x.1 ≠ p) : lastOf W p s = s := by
  induction W using snoc_ind with
  | h0 => rfl
  | h1 l a ih => rw [lastOf_snoc, if_neg (h a (by simp)), ih (fun x hx => h x (by simp [hx]))]
theorem lastOf_mem {W : List (Nat × List UInt8)} {p : Nat} (s : List UInt8) (h : ∃ x ∈ W, x.1 = p) : ∃ x ∈ W, x.1 = p ∧ lastOf W p s = x.2 := by
  induction W using snoc_ind with
  | h0 => obtain ⟨x, hx, _⟩ := h; cases hx
  | h1 l a ih =>
    rw [lastOf_snoc]
    by_cases ha : a.1 = p
    · exact ⟨a, by simp, ha, if_pos ha⟩
    · rw [if_neg ha]
      obtain ⟨x, hx, hp⟩ := h
      have hxl : x ∈ l := by
        rcases List.mem_append.1 hx with h | h
        · exact h
        · rw [List.mem_singleton.1 h] at hp; exact absurd hp ha
      obtain ⟨y, hy, h1, h2⟩ := ih ⟨x, hxl, hp⟩
      exact ⟨y, by simp [hy], h1, h2⟩
theorem sealAt_get : ∀ (L : List (List UInt8)) (b s c i : Nat) (hi : i < (sealAt b s c L).length), (sealAt b s c L)[i] = (b + i, sealL s c (L[i]'(by rw [sealAt_length] at hi; exact hi)))
  | [], _, _, _, _, h => by simp [sealAt] at h
  | p :: r, b, s, c, 0, _ => rfl
  | p :: r, b, s, c, i + 1, h => by
    have := sealAt_get r (b + 1) s c i (by simp only [sealAt, List.length_cons] at h; omega)
    simp only [sealAt, List.getElem_cons_succ, this]
    congr 1
    omega
theorem sealAt_take : ∀ (L : List (List UInt8)) (b s c j : Nat), sealAt b s c (L.take j) = (sealAt b s c L).take j
  | [], b, s, c, j => by simp [sealAt]
  | p :: r, b, s, c, 0 => by simp [sealAt]
  | p :: r, b, s, c, j + 1 => by simp only [List.take_succ_cons, sealAt, sealAt_take r]
theorem secO_pos (lies : List (List UInt8)) (W : List (Nat × List UInt8)) (k : Nat) : secO lies W 1 0 k = opnP (lastOf W (3 + k) (lies.getD (3 + k) [])) := by
  unfold secO secX
  rw [show 1 + (2 + 16 * 0 + k) = 3 + k by omega]

/-- The writes since the last flush lie one behind the other, from the sector e0 on; all put frames, as they would lie. -/
def Ghost (h : H4) (lies : List (List UInt8)) (WP : List (Nat × List UInt8)) (e0 sure : Nat) (fsP : List Fr) (eP : Nat) : Prop :=
  PutInv (secO lies WP 1 0) h fsP eP ∧ e0 + WP.length = eP ∧ (∀ i (hi : i < WP.length), (WP[i]).1 = 3 + e0 + i ∧ ∃ c d, (WP[i]).2 = sealL h.2.2.1 c d ∧ d.length = 52 ∧ 1 ≤ c ∧ c < 65536) ∧
    sure ≤ fsP.length ∧ (1 ≤ e0 → Runs (secO lies WP 1 0) h.2.2.1 (fsP.take sure) 0 1 e0)
/-- A segment that is being put, over what is of other stamps, while the power may go. -/
structure FallInv (h : H4) (lies : List (List UInt8)) (W : List (Nat × List UInt8)) (e0 sure : Nat) (fs : List Fr) (e : Nat) (done : List Fr) (dead : Bool) : Prop where
  l36 : lies.length = 36
  e1 : 1 ≤ e
  fe : fs.length + 1 ≤ e
  e16 : e ≤ 16
  ghost : ∃ (fsP : List Fr) (eP : Nat) (T : List (Nat × List UInt8)) (extra : List Fr), done = fsP ++ extra ∧ Ghost h lies (W ++ T) e0 sure fsP eP ∧ (dead = false → T = [] ∧ extra = [] ∧ fsP = fs ∧ eP = e)
  other : ∀ k, e0 ≤ k → k < 16 → Other h.2.2.1 (lies.getD (3 + k) [])
theorem FallInv.alive {h : H4} {lies : List (List UInt8)} {W : List (Nat × List UInt8)} {e0 sure : Nat} {fs : List Fr} {e : Nat} {done : List Fr} (I : FallInv h lies W e0 sure fs e done false) : done = fs ∧ Ghost h lies W e0 sure fs e := by
  obtain ⟨fsP, eP, T, extra, hd, hg, ha⟩ := I.ghost
  obtain ⟨rfl, rfl, rfl, rfl⟩ := ha rfl
  rw [List.append_nil] at hd hg
  exact ⟨hd, hg⟩
theorem FallInv.wlen {h : H4} {lies : List (List UInt8)} {W : List (Nat × List UInt8)} {e0 sure : Nat} {fs : List Fr} {e : Nat} {done : List Fr} {dead : Bool} (I : FallInv h lies W e0 sure fs e done dead) : W.length ≤ 16 := by
  obtain ⟨fsP, eP, T, extra, hd, hg, ha⟩ := I.ghost
  have h1 := hg.1.e16
  have h2 := hg.2.1
  rw [List.length_append] at h2
  omega
theorem FallInv.span {h : H4} {lies : List (List UInt8)} {W : List (Nat × List UInt8)} {e0 sure : Nat} {fs : List Fr} {e : Nat} {done : List Fr} {dead : Bool} (I : FallInv h lies W e0 sure fs e done dead) : ∀ x ∈ W, 3 + e0 ≤ x.1 ∧ x.1 < 19 ∧ ∃ c d, x.2 = sealL h.2.2.1 c d ∧ d.length = 52 ∧ 1 ≤ c ∧ c < 65536 := by
  obtain ⟨fsP, eP, T, extra, hd, hg, ha⟩ := I.ghost
  intro x hx
  obtain ⟨i, hi, rfl⟩ := List.mem_iff_getElem.1 hx
  have h1 := hg.1.e16
  have h2 := hg.2.1
  have hlt : i < (W ++ T).length := by rw [List.length_append]; omega
  obtain ⟨h3, h4⟩ := hg.2.2.1 i hlt
  rw [List.getElem_append_left hi] at h3 h4
  exact ⟨by omega, by omega, h4⟩
theorem FallInv.inside {h : H4} {lies : List (List UInt8)} {W : List (Nat × List UInt8)} {e0 sure : Nat} {fs : List Fr} {e : Nat} {done : List Fr} {dead : Bool} (I : FallInv h lies W e0 sure fs e done dead) : W.filter (inSpan 1 34) = W ∧ W.filter (fun x => !inSpan 1 34 x) = [] := by
  have hs := I.span
  have hin : ∀ x ∈ W, inSpan 1 34 x = true := fun x hx => by
    obtain ⟨h1, h2, _⟩ := hs x hx
    unfold inSpan
    rw [Bool.and_eq_true]
    exact ⟨decide_eq_true (by omega), decide_eq_true (by omega)⟩
  refine ⟨List.filter_eq_self.2 hin, List.filter_eq_nil_iff.2 fun x hx => ?_⟩
  rw [hin x hx]; simp
theorem ghost_put {h : H4} {lies : List (List UInt8)} {W : List (Nat × List UInt8)} {e0 sure : Nat} {fs : List Fr} {e : Nat} (g : Ghost h lies W e0 sure fs e) (hst : h.2.2.1 < 4294967296) {K : Nat} {p : ByteArray} (h2 : 1 ≤ K) (h3 : K ≤ 255) (h4 : p.size ≤ 773) (h5 : e + many (7 + p.size) ≤ 16) :
    Ghost h lies (W ++ sealAt (1 + (2 + 16 * 0 + e)) h.2.2.1 (fs.length + 2) (frP h.2.2.1 e K p)) e0 sure (fs ++ [((K : Int), p)]) (e + many (7 + p.size)) := by
  obtain ⟨I, g1, g2, g3, g4⟩ := g
  have hl := I.runs.le
  have h16 := I.e16
  have he1 := I.e1
  have hpl := frP_length h.2.2.1 e K p
  refine ⟨putInv_append I hst h2 h3 h4 h5, by rw [List.length_append, sealAt_length]; omega, fun i hi => ?_, by rw [List.length_append]; omega, fun h0 => ?_⟩
  · by_cases hiw : i < W.length
    · rw [List.getElem_append_left hiw]; exact g2 i hiw
    · rw [List.length_append, sealAt_length] at hi
      rw [List.getElem_append_right (by omega), sealAt_get]
      exact ⟨by show 1 + (2 + 16 * 0 + e) + (i - W.length) = _; omega, fs.length + 2, _, rfl, pieces_52 _ _ _ (List.getElem_mem _), by omega, by omega⟩
  · have hO := secO_seal lies W 1 0 e h.2.2.1 (fs.length + 2) (frP h.2.2.1 e K p) (pieces_52 _ _) hst (by omega) (by omega)
    rw [List.take_append_of_le_length g3]
    exact (g4 h0).congr fun k hk1 hk2 => by rw [hO k, dif_neg (by omega)]
theorem fall_create {h : H4} (hf : HFits h) {lies : List (List UInt8)} (hl : lies.length = 36) (ho : ∀ k, k < 16 → Other h.2.2.1 (lies.getD (3 + k) [])) : FallInv h lies ([] ++ sealAt (1 + (2 + 16 * 0 + 0)) h.2.2.1 1 [pad52 (hdrL h)]) 0 0 [] 1 [] false := by
  refine ⟨hl, Nat.le_refl _, by simp, by omega, ⟨[], 1, [], [], rfl, ?_, fun _ => ⟨rfl, rfl, rfl, rfl⟩⟩, fun k _ hk => ho k hk⟩
  rw [List.append_nil]
  refine ⟨putInv_create hf fun k hk1 hk2 x hx => ?_, rfl, fun i hi => ?_, Nat.le_refl _, fun h => absurd h (by omega)⟩
  · rw [secO_pos] at hx
    rcases ho k hk2 with h0 | ⟨m, n, d, h0, hd, hm, hne⟩
    · rw [show lastOf [] (3 + k) (lies.getD (3 + k) []) = lies.getD (3 + k) [] from rfl, h0, zeroSec_shut] at hx
      cases hx
    · rw [show lastOf [] (3 + k) (lies.getD (3 + k) []) = lies.getD (3 + k) [] from rfl, h0] at hx
      obtain ⟨hM, hn1, hn2, hm2, hd2⟩ := opnP_back (m := x.1) (n := x.2.1) (d := x.2.2) hx
      have h6 : (sealL m n d).take 6 = (sealL x.1 x.2.1 x.2.2).take 6 := by rw [hM]
      rw [sealL_six, sealL_six] at h6
      have h7 := congrArg (fun l => readL (l.take 4)) h6
      simp only [markL] at h7
      rw [List.take_left' (beL_length m 4), List.take_left' (beL_length x.1 4), readL_beL _ _ hm, readL_beL _ _ hm2] at h7
      rw [← h7]; exact hne
  · have : i = 0 := by simp [sealAt] at hi; exact hi
    subst this
    exact ⟨rfl, 1, pad52 (hdrL h), rfl, pad52_length _, by omega, by omega⟩
theorem other_shut {st : Nat} {s : List UInt8} (ho : Other st s) {x : Nat × Nat × List UInt8} (hx : opnP s = some x) : x.1 ≠ st := by
  rcases ho with h0 | ⟨m, n, d, h0, hd, hm, hne⟩
  · rw [h0, zeroSec_shut] at hx
    cases hx
  · rw [h0] at hx
    obtain ⟨hM, hn1, hn2, hm2, hd2⟩ := opnP_back (m := x.1) (n := x.2.1) (d := x.2.2) hx
    have h6 : (sealL m n d).take 6 = (sealL x.1 x.2.1 x.2.2).take 6 := by rw [hM]
    rw [sealL_six, sealL_six] at h6
    have h7 := congrArg (fun l => readL (l.take 4)) h6
    simp only [markL] at h7
    rw [List.take_left' (beL_length m 4), List.take_left' (beL_length x.1 4), readL_beL _ _ hm, readL_beL _ _ hm2] at h7
    rw [← h7]; exact hne
/-- A frame that was put whole. -/
theorem fall_put {h : H4} {lies : List (List UInt8)} {W : List (Nat × List UInt8)} {e0 sure : Nat} {fs : List Fr} {e : Nat} {done : List Fr} (I : FallInv h lies W e0 sure fs e done false) (hst : h.2.2.1 < 4294967296) {K : Nat} {p : ByteArray} (h2 : 1 ≤ K) (h3 : K ≤ 255) (h4 : p.size ≤ 773) (h5 : e + many (7 + p.size) ≤ 16) :
    FallInv h lies (W ++ sealAt (1 + (2 + 16 * 0 + e)) h.2.2.1 (fs.length + 2) (frP h.2.2.1 e K p)) e0 sure (fs ++ [((K : Int), p)]) (e + many (7 + p.size)) (done ++ [((K : Int), p)]) false := by
  obtain ⟨rfl, g⟩ := I.alive
  have hm1 : 1 ≤ many (7 + p.size) := by unfold many; split <;> omega
  have h1 := I.e1
  have h6 := I.fe
  refine ⟨I.l36, by omega, by rw [List.length_append]; show done.length + 1 + 1 ≤ _; omega, h5, ⟨_, _, [], [], (List.append_nil _).symm, ?_, fun _ => ⟨rfl, rfl, rfl, rfl⟩⟩, I.other⟩
  rw [List.append_nil]
  exact ghost_put g hst h2 h3 h4 h5
/-- One in which the power went. -/
theorem fall_torn {h : H4} {lies : List (List UInt8)} {W : List (Nat × List UInt8)} {e0 sure : Nat} {fs : List Fr} {e : Nat} {done : List Fr} (I : FallInv h lies W e0 sure fs e done false) (hst : h.2.2.1 < 4294967296) {K : Nat} {p : ByteArray} (h2 : 1 ≤ K) (h3 : K ≤ 255) (h4 : p.size ≤ 773) (h5 : e + many (7 + p.size) ≤ 16) (j : Nat) :
    FallInv h lies (W ++ sealAt (1 + (2 + 16 * 0 + e)) h.2.2.1 (fs.length + 2) ((frP h.2.2.1 e K p).take j)) e0 sure fs e (done ++ [((K : Int), p)]) true := by
  obtain ⟨rfl, g⟩ := I.alive
  refine ⟨I.l36, I.e1, I.fe, I.e16, ⟨done ++ [((K : Int), p)], e + many (7 + p.size), (sealAt (1 + (2 + 16 * 0 + e)) h.2.2.1 (done.length + 2) (frP h.2.2.1 e K p)).drop j, [], (List.append_nil _).symm, ?_, fun h => by cases h⟩, I.other⟩
  rw [sealAt_take, List.append_assoc, List.take_append_drop]
  exact ghost_put g hst h2 h3 h4 h5
theorem fall_dead {h : H4} {lies : List (List UInt8)} {W : List (Nat × List UInt8)} {e0 sure : Nat} {fs : List Fr} {e : Nat} {done : List Fr} (I : FallInv h lies W e0 sure fs e done true) (x : Fr) : FallInv h lies W e0 sure fs e (done ++ [x]) true := by
  obtain ⟨fsP, eP, T, extra, hd, hg, _⟩ := I.ghost
  exact ⟨I.l36, I.e1, I.fe, I.e16, ⟨fsP, eP, T, extra ++ [x], by rw [hd, List.append_assoc], hg, fun h => by cases h⟩, I.other⟩
theorem fall_flush {h : H4} {lies : List (List UInt8)} {W : List (Nat × List UInt8)} {e0 sure : Nat} {fs : List Fr} {e : Nat} {done : List Fr} (I : FallInv h lies W e0 sure fs e done false) : FallInv h (landed lies W) [] e done.length fs e done false := by
  obtain ⟨rfl, g⟩ := I.alive
  obtain ⟨P, g1, g2, g3, g4⟩ := g
  have hl := I.l36
  have hO : ∀ k, k < 16 → secO (landed lies W) [] 1 0 k = secO lies W 1 0 k := fun k hk => by
    rw [secO_pos, secO_pos, ← landed_getD W lies (3 + k) (by omega)]; rfl
  have h16 := P.e16
  have he1 := I.e1
  refine ⟨by rw [landed_length]; exact hl, I.e1, I.fe, I.e16, ⟨done, e, [], [], (List.append_nil _).symm, ?_, fun _ => ⟨rfl, rfl, rfl, rfl⟩⟩, fun k hk1 hk2 => ?_⟩
  · rw [List.append_nil]
    refine ⟨⟨by rw [hO 0 (by omega)]; exact P.head, P.runs.congr fun k hk1 hk2 => hO k (by omega), P.e1, P.e16, fun k hk1 hk2 x hx => ?_⟩, rfl, (fun i hi => absurd hi (by simp)), Nat.le_refl _, fun _ => ?_⟩
    · rw [hO k hk2] at hx
      exact P.rest k hk1 hk2 x hx
    · rw [List.take_length]
      exact P.runs.congr fun k hk1 hk2 => hO k (by omega)
  · rw [landed_getD W lies (3 + k) (by omega), lastOf_none]
    · exact I.other k (by omega) hk2
    · intro x hx
      obtain ⟨i, hi, rfl⟩ := List.mem_iff_getElem.1 hx
      have := (g2 i hi).1
      omega
/-- What lies there once it was flushed is of another stamp. -/
theorem fall_over {h : H4} {lies : List (List UInt8)} {W : List (Nat × List UInt8)} {e0 sure : Nat} {fs : List Fr} {e : Nat} {done : List Fr} {dead : Bool} (I : FallInv h lies W e0 sure fs e done dead) (hst : h.2.2.1 < 4294967296) {st : Nat} (hne : h.2.2.1 ≠ st) (hz : ∀ k, k < 16 → lies.getD (3 + k) [] = zeroSec) : ∀ k, k < 16 → Other st ((landed lies W).getD (3 + k) []) := by
  intro k hk
  rw [landed_getD W lies (3 + k) (by have := I.l36; omega), hz k hk]
  by_cases hx : ∃ x ∈ W, x.1 = 3 + k
  · obtain ⟨x, hx, _, h2⟩ := lastOf_mem (W := W) (p := 3 + k) zeroSec hx
    obtain ⟨_, _, c, d, h3, h4, h5, h6⟩ := I.span x hx
    exact .inr ⟨h.2.2.1, c, d, by rw [h2, h3], h4, hst, hne⟩
  · rw [lastOf_none zeroSec (fun x hx' hp => hx ⟨x, hx', hp⟩)]
    exact .inl rfl
theorem runP_congr {O O' : Nat → Op3} (hO : ∀ k, k < 16 → O k = O' k) (st c : Nat) : ∀ q k, k + q ≤ 16 → runP O st c q k = runP O' st c q k
  | 0, _, _ => rfl
  | q + 1, k, hk => by
    simp only [runP, gate]
    rw [hO k (by omega), runP_congr hO st c q (k + 1) (by omega)]
theorem loopP_congr {O O' : Nat → Op3} (hO : ∀ k, k < 16 → O k = O' k) (st : Nat) : ∀ q fs e, loopP O st q fs e = loopP O' st q fs e
  | 0, _, _ => rfl
  | q + 1, fs, e => by
    have hn : nextP O st e fs.length = nextP O' st e fs.length := by
      unfold nextP
      split
      · rw [runP_congr hO st _ _ _ (by omega)]
      · rfl
    rw [loopP, loopP, hn]
    split
    · rfl
    · exact loopP_congr hO st q _ _
/-- HOWEVER THE POWER WENT, AND WHATEVER STAYS. -/
theorem fall_end {h : H4} (hf : HFits h) {lies : List (List UInt8)} {W : List (Nat × List UInt8)} {e0 sure : Nat} {fs : List Fr} {e : Nat} {done : List Fr} {dead : Bool} (I : FallInv h lies W e0 sure fs e done dead) (he0 : 1 ≤ e0) (ks : List K2) :
    headP (secO (kfold W lies ks).1 [] 1 0) = some h ∧ ∃ n, n ≤ done.length ∧ sure ≤ n ∧ (loopP (secO (kfold W lies ks).1 [] 1 0) h.2.2.1 16 [] 1).1 = done.take n := by
  obtain ⟨fsP, eP, T, extra, hd, ⟨P, g1, g2, g3, g4⟩, _⟩ := I.ghost
  have hst := hf.2.2.2.1
  have hl := I.l36
  have h16 := P.e16
  have hWT := g1
  rw [List.length_append] at hWT
  have hW : ∀ i (hi : i < W.length), (W[i]).1 = 3 + e0 + i ∧ ∃ c d, (W[i]).2 = sealL h.2.2.1 c d ∧ d.length = 52 ∧ 1 ≤ c ∧ c < 65536 := fun i hi => by
    have := g2 i (by rw [List.length_append]; omega)
    rwa [List.getElem_append_left hi] at this
  obtain ⟨hkl, hk⟩ := kept_fold (ins := W) (lies := lies) (fun i j hi hj hij => by have := (hW i hi).1; have := (hW j hj).1; omega) (fun x hx => by obtain ⟨i, hi, rfl⟩ := List.mem_iff_getElem.1 hx; have := (hW i hi).1; omega) ks
  generalize (kfold W lies ks).1 = fin at hkl hk ⊢
  have hO : ∀ k, secO fin [] 1 0 k = opnP (fin.getD (3 + k) []) := fun k => secO_pos fin [] k
  -- of the sectors that were flushed nothing is lost
  have hlow : ∀ k, k < e0 → secO fin [] 1 0 k = secO lies (W ++ T) 1 0 k := fun k hk0 => by
    rw [hO, secO_pos, lastOf_none]
    · rcases hk (3 + k) with ⟨_, h2⟩ | ⟨i, hi, n, h1, _⟩
      · rw [h2]
      · have := (hW i hi).1; omega
    · intro x hx
      obtain ⟨i, hi, rfl⟩ := List.mem_iff_getElem.1 hx
      have := (g2 i hi).1
      omega
  have hsub : Sub h.2.2.1 (fun k => if k < 16 then secO fin [] 1 0 k else none) (secO lies (W ++ T) 1 0) := by
    intro k x hx h1
    by_cases hk16 : k < 16
    · simp only [if_pos hk16] at hx
      by_cases hk0 : k < e0
      · rw [← hlow k hk0]; exact hx
      · have hoth := I.other k (by omega) hk16
        rw [hO] at hx
        rcases hk (3 + k) with ⟨_, h2⟩ | ⟨i, hi, n, h2, h3, _⟩
        · rw [h2] at hx
          exact absurd h1 (other_shut hoth hx)
        · obtain ⟨h4, c, d, h5, h6, h7, h8⟩ := hW i hi
          rw [h3, h5] at hx
          have hmx : mix (sealL h.2.2.1 c d) (lies.getD (3 + k) []) n = (sealL h.2.2.1 c d).take (min (max n 0) 64).toNat ++ (lies.getD (3 + k) []).drop (min (max n 0) 64).toNat := rfl
          rw [hmx] at hx
          rw [torn_open h6 hst hoth _ hx h1] at hx
          obtain ⟨y, hy, hy1, hy2⟩ := lastOf_mem (W := W ++ T) (p := 3 + k) (lies.getD (3 + k) []) ⟨W[i], List.mem_append_left _ (List.getElem_mem hi), h2⟩
          obtain ⟨i', hi', rfl⟩ := List.mem_iff_getElem.1 hy
          have h9 := (g2 i' hi').1
          obtain rfl : i' = i := by omega
          rw [List.getElem_append_left hi, h5] at hy2
          rw [secO_pos, hy2]
          exact hx
    · simp only [if_neg hk16] at hx
      cases hx
  have h52 : O52 (fun k => if k < 16 then secO fin [] 1 0 k else none) := by
    intro k x hx
    by_cases hk16 : k < 16
    · simp only [if_pos hk16] at hx
      exact secO_52 _ _ _ _ k x hx
    · simp only [if_neg hk16] at hx
      cases hx
  have hle := P.runs.le
  refine ⟨head_back hf (by rw [hlow 0 he0]; exact P.head), ?_⟩
  obtain ⟨n, hn1, hn2, hn3⟩ := prefix_load h52 hsub (fs := fsP) (fs0 := []) (e := 1) (e' := eP) (q := 15) P.runs (by omega) P.rest
  rw [loopP_congr (O := secO fin [] 1 0) (O' := fun k => if k < 16 then secO fin [] 1 0 k else none) (fun k hk => (if_pos hk).symm)]
  refine ⟨n, by rw [hd, List.length_append]; omega, hn3 sure e0 g3 ((g4 he0).congr fun k hk1 hk2 => ?_), ?_⟩
  · have he016 : e0 ≤ 16 := by omega
    simp only [if_pos (show k < 16 by omega)]
    exact hlow k hk2
  · rw [hn2, List.nil_append, hd, List.take_append_of_le_length hn1]
end Go.Proofs.YtoobiffhjjfpgaaGreat.Print
