/- Several appends, one behind the other: plain. -/
import Derived.Test.YtoobiffhjjfpgaaGreatLogF
namespace Go.Proofs.YtoobiffhjjfpgaaGreat.Print
open Go.RowKit

abbrev S3 := PoolM × LogM × List (Nat × List UInt8)
def step3 (f : Nat) (s : S3) (x : Fr) : S3 := ((appendM s.1 s.2.1 x.1 x.2).p, (appendM s.1 s.2.1 x.1 x.2).g, appendW f s.1 s.2.1 x.1 x.2 s.2.2)
def run3 (f : Nat) (s : S3) (l : List Fr) : S3 := l.foldl (step3 f) s
def er3 (s : S3) (x : Fr) : Int := (appendM s.1 s.2.1 x.1 x.2).er
theorem run3_snoc (f : Nat) (s : S3) (l : List Fr) (x : Fr) : run3 f s (l ++ [x]) = step3 f (run3 f s l) x := by simp [run3]
theorem run3_take (f : Nat) (s : S3) {l : List Fr} {i : Nat} (h : i < l.length) : run3 f s (l.take (i + 1)) = step3 f (run3 f s (l.take i)) l[i] := by
  rw [List.take_succ_eq_append_getElem h, run3_snoc]
theorem rollM_next (P : PoolM) (L : LogM) (k : Int) (p : ByteArray) : (rollM P L k p).g.next ≤ L.next + 1 ∧ (rollM P L k p).g.segs.length ≤ L.segs.length + 1 := by
  unfold rollM
  cases takeM P L.id with
  | none => exact ⟨Nat.le_succ _, Nat.le_succ _⟩
  | some y => exact ⟨Nat.le_refl _, by simp⟩
theorem appendM_next (P : PoolM) (L : LogM) (k : Int) (p : ByteArray) : (appendM P L k p).g.next ≤ L.next + 1 ∧ (appendM P L k p).g.segs.length ≤ L.segs.length + 1 := by
  unfold appendM
  split
  · exact ⟨Nat.le_succ _, Nat.le_succ _⟩
  · split
    · rename_i s hl
      split
      · refine ⟨Nat.le_refl _, ?_⟩
        have h := congrArg List.length (lastM_some hl).1
        simp only [List.length_append, List.length_singleton] at h ⊢
        omega
      · exact rollM_next _ _ _ _
    · exact rollM_next _ _ _ _
structure S3Ok (N b n : Nat) (s : S3) : Prop where
  pool : PoolOk N s.1
  log : LogOk N s.2.1
  next : s.2.1.next ≤ b + n
  segs : s.2.1.segs.length ≤ n
theorem S3Ok.step {N b n : Nat} {s : S3} (h : S3Ok N b n s) (hb : b + n + 1 ≤ 1099511627776) (hn : n + 1 ≤ 1000) (f : Nat) (x : Fr) : S3Ok N b (n + 1) (step3 f s x) := by
  obtain ⟨h1, h2⟩ := appendM_next s.1 s.2.1 x.1 x.2
  have h3 := h.next
  have h4 := h.segs
  obtain ⟨h5, h6⟩ := appendM_ok h.pool h.log x.1 x.2 (by omega) (by omega)
  exact ⟨h5, h6, by show (appendM s.1 s.2.1 x.1 x.2).g.next ≤ _; omega, by show (appendM s.1 s.2.1 x.1 x.2).g.segs.length ≤ _; omega⟩
theorem S3Ok.run {N b : Nat} {s : S3} (h : S3Ok N b 0 s) (f : Nat) {l : List Fr} (h1 : b + l.length ≤ 1099511627776) (h2 : l.length ≤ 1000) : ∀ i, i ≤ l.length → S3Ok N b i (run3 f s (l.take i))
  | 0, _ => by rw [List.take_zero]; exact h
  | i + 1, hi => by
    rw [run3_take f s (by omega)]
    exact (S3Ok.run h f h1 h2 i (by omega)).step (by omega) (by omega) f _
theorem run3_W (f : Nat) (s : S3) (l : List Fr) : ∀ i, i ≤ l.length → (run3 f s (l.take i)).2.2.length ≤ s.2.2.length + 16 * i
  | 0, _ => by simp [run3]
  | i + 1, hi => by
    rw [run3_take f s (by omega)]
    have := run3_W f s l i (by omega)
    have := (appendW_length f (run3 f s (l.take i)).1 (run3 f s (l.take i)).2.1 (l[i]'(by omega)).1 (l[i]'(by omega)).2 (run3 f s (l.take i)).2.2).2
    show (appendW f _ _ _ _ _).length ≤ _
    omega
/-- How many segments frames take. -/
def needStep (s : Nat × Nat) (x : Fr) : Nat × Nat := if 16 < s.2 + many (7 + x.2.size) then (s.1 + 1, 1 + many (7 + x.2.size)) else (s.1, s.2 + many (7 + x.2.size))
def needS (l : List Fr) : Nat × Nat := l.foldl needStep (0, 16)
theorem needS_snoc (l : List Fr) (x : Fr) : needS (l ++ [x]) = needStep (needS l) x := by simp [needS]
theorem needS_take {l : List Fr} {i : Nat} (h : i < l.length) : needS (l.take (i + 1)) = needStep (needS (l.take i)) l[i] := by rw [List.take_succ_eq_append_getElem h, needS_snoc]
theorem many_20k (n : Nat) (h : n ≤ 1000007) : many n ≤ 20000 := by unfold many; split <;> omega
theorem needS_le {l : List Fr} (hs : ∀ x ∈ l, x.2.size ≤ 1000000) : ∀ i, i ≤ l.length → (needS (l.take i)).1 ≤ i ∧ (needS (l.take i)).2 ≤ 20001
  | 0, _ => ⟨Nat.le_refl _, by show 16 ≤ 20001; omega⟩
  | i + 1, hi => by
    rw [needS_take (by omega)]
    obtain ⟨h1, h2⟩ := needS_le hs i (by omega)
    have h3 := many_20k (7 + (l[i]'(by omega)).2.size) (by have := hs _ (List.getElem_mem (show i < l.length by omega)); omega)
    unfold needStep
    split <;> simp only <;> omega
end Go.Proofs.YtoobiffhjjfpgaaGreat.Print
