/- ScanChains, plain: what was laid, and what All tells of it; what Clean leaves. -/
import Derived.Test.YtoobiffhjjfpgaaScanD
namespace Go.Proofs.Ytoobiffhjjfpgaa.Print
open Go.RowKit

theorem fm_congr {α β : Type} {f g : α → Option β} : ∀ {l : List α}, (∀ x ∈ l, f x = g x) → l.filterMap f = l.filterMap g
  | [], _ => rfl
  | a :: r, h => by
    rw [List.filterMap_cons, List.filterMap_cons, h a (by simp), fm_congr (l := r) fun x hx => h x (List.mem_cons_of_mem _ hx)]
/-- A segment that is made. -/
structure MadeM where
  n : Nat
  fr : Nat
  h : H4
def MadeOk (m : MadeM) : Prop := m.n < 6 ∧ m.fr ≤ 9 ∧ HFits m.h
def madeL (l : List MadeM) (n : Nat) : Option MadeM := l.foldl (fun o m => if m.n = n then some m else o) none
theorem madeL_snoc (l : List MadeM) (m : MadeM) (n : Nat) : madeL (l ++ [m]) n = if m.n = n then some m else madeL l n := by simp [madeL]
def madeW (l : List MadeM) : List (Nat × List UInt8) := l.foldl (fun W m => W ++ laidW 0 m.n m.h m.fr) []
theorem madeW_snoc (l : List MadeM) (m : MadeM) : madeW (l ++ [m]) = madeW l ++ laidW 0 m.n m.h m.fr := by simp [madeW]
theorem madeW_length (l : List MadeM) (h : ∀ m ∈ l, m.fr ≤ 9) : (madeW l).length ≤ 10 * l.length := by
  induction l using snoc_ind with
  | h0 => simp [madeW]
  | h1 l m ih =>
    have ih := ih (fun x hx => h x (by simp [hx]))
    have := h m (by simp)
    rw [madeW_snoc, List.length_append, List.length_append, laidW_length]
    simp
    omega
def segM (m : MadeM) : SegL := ⟨m.n, m.h, framesP m.fr, 1 + m.fr⟩
/-- What lies on the disk. -/
structure MInv (l : List MadeM) : Prop where
  none_ : ∀ n, n < 6 → madeL l n = none → ∀ k, k < 16 → secO (zeroDisk 98) (madeW l) 0 n k = none
  some_ : ∀ n, n < 6 → ∀ m, madeL l n = some m → m.n = n ∧ m ∈ l ∧ MadeOk m ∧ PutInv (secO (zeroDisk 98) (madeW l) 0 n) m.h (framesP m.fr) (1 + m.fr)
  stamp : ∀ n, n < 6 → ∀ k, k < 16 → ∀ x, secO (zeroDisk 98) (madeW l) 0 n k = some x → ∃ m ∈ l, m.n = n ∧ m.h.2.2.1 = x.1
theorem MInv.nil : MInv [] := ⟨fun n hn _ k hk => t_zero n k hn hk, fun n hn m h => (by simp [madeL] at h), fun n hn k hk x hx => by
  rw [show madeW [] = [] from rfl, t_zero n k hn hk] at hx
  cases hx⟩
theorem MInv.snoc {l : List MadeM} (I : MInv l) {m : MadeM} (hm : MadeOk m) (hs : ∀ o ∈ l, o.n = m.n → o.h.2.2.1 ≠ m.h.2.2.1) : MInv (l ++ [m]) := by
  have hfr := hm.2.1
  refine ⟨fun n hn h k hk => ?_, fun n hn m' h => ?_, fun n hn k hk x hx => ?_⟩
  · rw [madeL_snoc] at h
    by_cases hmn : m.n = n
    · rw [if_pos hmn] at h; cases h
    · rw [if_neg hmn] at h
      rw [madeW_snoc, laid_other (fun e => hmn e.symm) hk (by omega)]
      exact I.none_ n hn h k hk
  · rw [madeL_snoc] at h
    by_cases hmn : m.n = n
    · rw [if_pos hmn] at h
      cases h
      refine ⟨hmn, by simp, hm, ?_⟩
      subst hmn
      rw [madeW_snoc]
      refine laid_inv hm.2.2 (fun k h1 h2 x hx e => ?_) (by omega)
      obtain ⟨o, ho, hon, hos⟩ := I.stamp _ hn k h2 x hx
      exact hs o ho hon (hos.trans e)
    · rw [if_neg hmn] at h
      obtain ⟨h1, h2, h3, h4⟩ := I.some_ n hn m' h
      refine ⟨h1, by simp [h2], h3, h4.congr fun k hk => ?_⟩
      rw [madeW_snoc, laid_other (fun e => hmn e.symm) hk (by omega)]
  · rw [madeW_snoc] at hx
    by_cases hmn : m.n = n
    · subst hmn
      rcases laid_stamp hm.2.2 (by omega) hx with h | h
      · exact ⟨m, by simp, rfl, h.symm⟩
      · obtain ⟨o, ho, h1, h2⟩ := I.stamp _ hn k hk x h
        exact ⟨o, by simp [ho], h1, h2⟩
    · rw [laid_other (fun e => hmn e.symm) hk (by omega)] at hx
      obtain ⟨o, ho, h1, h2⟩ := I.stamp n hn k hk x hx
      exact ⟨o, by simp [ho], h1, h2⟩
/-- What All tells. -/
def allM (l : List MadeM) : List SegL := (List.range 6).filterMap fun n => (madeL l n).map segM
theorem MInv.all {l : List MadeM} (I : MInv l) : allP (zeroDisk 98) (madeW l) 0 6 = allM l := by
  unfold allP allM
  refine fm_congr fun n hn => ?_
  have hn := List.mem_range.1 hn
  cases h : madeL l n with
  | none => rw [loadP_none (headP_none (I.none_ n hn h 0 (by omega)))]; rfl
  | some m =>
    obtain ⟨h1, _, h3, h4⟩ := I.some_ n hn m h
    rw [loadP_inv (secO_52 _ _ _ _) h3.2.2 h4, Option.map_some, segM, h1]
/-- A disk whose segments are whole, or have no header. -/
def DInv (lies : List (List UInt8)) (W : List (Nat × List UInt8)) : Prop := ∀ n, n < 6 → headP (secO lies W 0 n) = none ∨ ∃ h fs e, HFits h ∧ PutInv (secO lies W 0 n) h fs e
theorem MInv.disk {l : List MadeM} (I : MInv l) : DInv (zeroDisk 98) (madeW l) := fun n hn => by
  cases h : madeL l n with
  | none => exact .inl (headP_none (I.none_ n hn h 0 (by omega)))
  | some m =>
    obtain ⟨_, _, h3, h4⟩ := I.some_ n hn m h
    exact .inr ⟨_, _, _, h3.2.2, h4⟩
theorem allP_n {lies : List (List UInt8)} {W : List (Nat × List UInt8)} {f m : Nat} {S : SegL} (h : S ∈ allP lies W f m) : S.n < m ∧ loadP (secO lies W f S.n) S.n = some S := by
  obtain ⟨n, hn, h2⟩ := List.mem_filterMap.1 h
  have : S.n = n := by
    unfold loadP at h2
    split at h2
    · cases h2
    · cases h2; rfl
  subst this
  exact ⟨List.mem_range.1 hn, h2⟩
/-- What Clean leaves. -/
theorem clean_plain {lies : List (List UInt8)} {W : List (Nat × List UInt8)} (hl : lies.length = 98) (I : DInv lies W) (kept : List Nat) :
    allP (landed lies ((W ++ wipesP 0 kept (allP lies W 0 6)).filter (inSpan 0 98))) ((W ++ wipesP 0 kept (allP lies W 0 6)).filter fun x => !inSpan 0 98 x) 0 6 = (allP lies W 0 6).filter (fun S => decide (S.n ∈ kept)) ∧
    DInv (landed lies ((W ++ wipesP 0 kept (allP lies W 0 6)).filter (inSpan 0 98))) ((W ++ wipesP 0 kept (allP lies W 0 6)).filter fun x => !inSpan 0 98 x) := by
  have L : ∀ n k, n < 6 → k < 16 → secO (landed lies ((W ++ wipesP 0 kept (allP lies W 0 6)).filter (inSpan 0 98))) ((W ++ wipesP 0 kept (allP lies W 0 6)).filter fun x => !inSpan 0 98 x) 0 n k = secO lies (W ++ wipesP 0 kept (allP lies W 0 6)) 0 n k := fun n k hn hk => sec_landed (by omega) (by omega)
  have K : ∀ n, n < 6 → (headP (secO (landed lies ((W ++ wipesP 0 kept (allP lies W 0 6)).filter (inSpan 0 98))) ((W ++ wipesP 0 kept (allP lies W 0 6)).filter fun x => !inSpan 0 98 x) 0 n) = none ∧ ((loadP (secO lies W 0 n) n).filter fun S => decide (S.n ∈ kept)) = none) ∨ (∃ h fs e, HFits h ∧ PutInv (secO (landed lies ((W ++ wipesP 0 kept (allP lies W 0 6)).filter (inSpan 0 98))) ((W ++ wipesP 0 kept (allP lies W 0 6)).filter fun x => !inSpan 0 98 x) 0 n) h fs e ∧ ((loadP (secO lies W 0 n) n).filter fun S => decide (S.n ∈ kept)) = some ⟨n, h, fs, e⟩) := by
    intro n hn
    rcases I n hn with h0 | ⟨h, fs, e, hf, hP⟩
    · left
      have hld := loadP_none h0 n
      refine ⟨?_, by rw [hld]; rfl⟩
      rw [headP_congr (L n 0 hn (by omega)), headP_congr (wipes_keep (.inr fun S hS e => ?_) (by omega))]
      · exact h0
      · have := (allP_n hS).2
        rw [e, hld] at this
        cases this
    · have hld := loadP_inv (secO_52 _ _ _ _) hf hP n
      by_cases hk : n ∈ kept
      · right
        refine ⟨h, fs, e, hf, hP.congr fun k hk16 => by rw [L n k hn hk16, wipes_keep (.inl hk) hk16], ?_⟩
        rw [hld]
        simp [Option.filter, hk]
      · left
        refine ⟨?_, by rw [hld]; simp [Option.filter, hk]⟩
        rw [headP_congr (L n 0 hn (by omega))]
        exact headP_none (wipes_gone (S := ⟨n, h, fs, e⟩) (List.mem_filterMap.2 ⟨n, List.mem_range.2 hn, hld⟩) hk)
  revert K
  generalize landed lies ((W ++ wipesP 0 kept (allP lies W 0 6)).filter (inSpan 0 98)) = lies'
  generalize ((W ++ wipesP 0 kept (allP lies W 0 6)).filter fun x => !inSpan 0 98 x) = W'
  intro K
  refine ⟨?_, fun n hn => ?_⟩
  · unfold allP
    rw [List.filter_filterMap]
    refine fm_congr fun n hn => ?_
    have hn := List.mem_range.1 hn
    rcases K n hn with ⟨h1, h2⟩ | ⟨h, fs, e, hf, h1, h2⟩
    · rw [loadP_none h1]
      exact h2.symm
    · rw [loadP_inv (secO_52 _ _ _ _) hf h1]
      exact h2.symm
  · rcases K n hn with ⟨h1, _⟩ | ⟨h, fs, e, hf, h1, _⟩
    · exact .inl h1
    · exact .inr ⟨h, fs, e, hf, h1⟩
end Go.Proofs.Ytoobiffhjjfpgaa.Print
