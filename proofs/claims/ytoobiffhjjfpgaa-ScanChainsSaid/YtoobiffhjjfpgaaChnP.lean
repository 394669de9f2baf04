/- A chain's places are distinct; how many segments Clean keeps: plain. -/
import Derived.Test.YtoobiffhjjfpgaaMade
namespace Go.Proofs.Ytoobiffhjjfpgaa.Print
open Go.RowKit

theorem chainI_base {ss : List SegL} {id gen frm : Int} : ∀ {f : Nat} {o : Option Nat}, (∀ k, o = some k → k < ss.length ∧ 0 < (ss.getD k seg0).fs.length) → ∀ i ∈ chainI ss id gen frm f o, i < ss.length ∧ ∃ k, o = some k ∧ (ss.getD k seg0).h.2.2.2 ≤ (ss.getD i seg0).h.2.2.2 := by
  intro f
  induction f with
  | zero => intro o _ i hi; simp [chainI] at hi
  | succ f ih =>
    intro o ho i hi
    cases o with
    | none => simp [chainI] at hi
    | some k =>
      obtain ⟨hk, hl⟩ := ho k rfl
      rcases List.mem_cons.1 hi with rfl | hi
      · exact ⟨hk, i, rfl, Nat.le_refl _⟩
      · have hN : ∀ j, nextI ss id gen frm k = some j → j < ss.length ∧ 0 < (ss.getD j seg0).fs.length := fun j hj => by
          obtain ⟨hj1, hc⟩ := firstI_cnt hj
          refine ⟨hj1, ?_⟩
          rw [getD_at hj1]
          unfold afterC ownP at hc
          simp at hc
          omega
        obtain ⟨h1, j, hj, h2⟩ := ih hN i hi
        obtain ⟨hj1, hc⟩ := firstI_cnt hj
        refine ⟨h1, k, rfl, Nat.le_trans ?_ h2⟩
        unfold afterC at hc
        rw [Bool.and_eq_true] at hc
        have := hc.2
        simp only [beq_iff_eq] at this
        rw [getD_at hj1]
        unfold behindP at this
        omega
theorem chainI_nodup {ss : List SegL} {id gen frm : Int} : ∀ {f : Nat} {o : Option Nat}, (∀ k, o = some k → k < ss.length ∧ 0 < (ss.getD k seg0).fs.length) → (chainI ss id gen frm f o).Nodup := by
  intro f
  induction f with
  | zero => intro o _; exact List.nodup_nil
  | succ f ih =>
    intro o ho
    cases o with
    | none => exact List.nodup_nil
    | some k =>
      obtain ⟨hk, hl⟩ := ho k rfl
      have hN : ∀ j, nextI ss id gen frm k = some j → j < ss.length ∧ 0 < (ss.getD j seg0).fs.length := fun j hj => by
        obtain ⟨hj1, hc⟩ := firstI_cnt hj
        refine ⟨hj1, ?_⟩
        rw [getD_at hj1]
        unfold afterC ownP at hc
        simp at hc
        omega
      refine List.nodup_cons.2 ⟨fun hi => ?_, ih hN⟩
      obtain ⟨_, j, hj, h2⟩ := chainI_base hN k hi
      obtain ⟨hj1, hc⟩ := firstI_cnt hj
      unfold afterC at hc
      rw [Bool.and_eq_true] at hc
      have := hc.2
      simp only [beq_iff_eq] at this
      rw [getD_at hj1] at h2
      unfold behindP at this
      omega
theorem startI_ok {ss : List SegL} {id gen frm : Int} : ∀ k, firstI (startC id gen frm) ss ss.length = some k → k < ss.length ∧ 0 < (ss.getD k seg0).fs.length := fun k hk => by
  obtain ⟨hk1, hc⟩ := firstI_cnt hk
  refine ⟨hk1, ?_⟩
  rw [getD_at hk1]
  unfold startC ownP at hc
  simp at hc
  omega
theorem chainP_nodup (ss : List SegL) (id gen frm : Int) : (chainP ss id gen frm).Nodup := chainI_nodup startI_ok
theorem chainP_lt {ss : List SegL} {id gen frm : Int} {i : Nat} (h : i ∈ chainP ss id gen frm) : i < ss.length := (chainI_base startI_ok i h).1
theorem allP_sorted (lies : List (List UInt8)) (W : List (Nat × List UInt8)) (f : Nat) : ∀ m, (allP lies W f m).Pairwise fun S T => S.n < T.n
  | 0 => List.Pairwise.nil
  | m + 1 => by
    rw [allP_succ, List.pairwise_append]
    refine ⟨allP_sorted lies W f m, ?_, fun S hS T hT => ?_⟩
    · cases loadP (secO lies W f m) m <;> simp
    · have h1 := (allP_n hS).1
      have h2 : T.n = m := by
        rw [Option.mem_toList] at hT
        unfold loadP at hT
        split at hT
        · cases hT
        · cases hT; rfl
      omega
theorem one_of {ss : List SegL} (h : ss.Pairwise fun S T => S.n < T.n) {i : Nat} (hi : i < ss.length) : (ss.filter fun S => decide (S.n = ss[i].n)).length = 1 := by
  induction ss generalizing i with
  | nil => simp at hi
  | cons a r ih =>
    obtain ⟨h1, h2⟩ := List.pairwise_cons.1 h
    cases i with
    | zero =>
      rw [List.filter_cons_of_pos (by simp)]
      have : r.filter (fun S => decide (S.n = a.n)) = [] := List.filter_eq_nil_iff.2 fun x hx => by
        have := h1 x hx
        simp; omega
      simp only [List.getElem_cons_zero, this, List.length_cons, List.length_nil]
    | succ i =>
      have hir : i < r.length := by simpa using hi
      have := h1 r[i] (List.getElem_mem hir)
      rw [List.filter_cons_of_neg (by simp; omega)]
      simpa using ih h2 hir
theorem filter_or {α : Type} {p q : α → Bool} : ∀ {l : List α}, (∀ x ∈ l, p x = true → q x = false) → (l.filter fun x => p x || q x).length = (l.filter p).length + (l.filter q).length
  | [], _ => rfl
  | a :: r, h => by
    have ih := filter_or (l := r) fun x hx => h x (List.mem_cons_of_mem _ hx)
    cases hp : p a with
    | true =>
      have hq := h a (by simp) hp
      rw [List.filter_cons_of_pos (by simp [hp]), List.filter_cons_of_pos hp, List.filter_cons_of_neg (by simp [hq])]
      simp only [List.length_cons, ih]
      omega
    | false =>
      cases hq : q a with
      | true =>
        rw [List.filter_cons_of_pos (by simp [hq]), List.filter_cons_of_neg (by simp [hp]), List.filter_cons_of_pos hq]
        simp only [List.length_cons, ih]
        omega
      | false =>
        rw [List.filter_cons_of_neg (by simp [hp, hq]), List.filter_cons_of_neg (by simp [hp]), List.filter_cons_of_neg (by simp [hq])]
        exact ih
theorem sorted_ne {ss : List SegL} (h : ss.Pairwise fun S T => S.n < T.n) {i j : Nat} (hi : i < ss.length) (hj : j < ss.length) (hij : ss[i].n = ss[j].n) : i = j := by
  rcases Nat.lt_trichotomy i j with hlt | he | hlt
  · have := List.pairwise_iff_getElem.1 h i j hi hj hlt; omega
  · exact he
  · have := List.pairwise_iff_getElem.1 h j i hj hi hlt; omega
/-- As many are kept as the chain has. -/
theorem kept_count {ss : List SegL} (h : ss.Pairwise fun S T => S.n < T.n) : ∀ {l : List Nat}, l.Nodup → (∀ i ∈ l, i < ss.length) → (ss.filter fun S => decide (S.n ∈ (pickL ss l).map (·.n))).length = l.length
  | [], _, _ => by simp [pickL]
  | i :: r, hn, hl => by
    obtain ⟨hir, hnr⟩ := List.nodup_cons.1 hn
    have hi := hl i (by simp)
    have ih := kept_count h hnr fun j hj => hl j (List.mem_cons_of_mem _ hj)
    have he : (fun S : SegL => decide (S.n ∈ (pickL ss (i :: r)).map (·.n))) = fun S => decide (S.n = ss[i].n) || decide (S.n ∈ (pickL ss r).map (·.n)) := by
      funext S
      have : (pickL ss (i :: r)).map (·.n) = ss[i].n :: (pickL ss r).map (·.n) := by
        show (ss.getD i seg0).n :: _ = _
        rw [getD_at hi]
        rfl
      rw [this]
      simp only [List.mem_cons, Bool.decide_or]
    rw [he, filter_or, one_of h hi, ih, List.length_cons]
    · omega
    · intro S _ hS
      have hS := of_decide_eq_true hS
      rw [decide_eq_false_iff_not]
      intro hm
      obtain ⟨T, hT, hTn⟩ := List.mem_map.1 hm
      obtain ⟨j, hj, rfl⟩ := List.mem_map.1 hT
      have hjl := hl j (List.mem_cons_of_mem _ hj)
      rw [getD_at hjl] at hTn
      have := sorted_ne h hjl hi (hTn.trans hS)
      exact hir (this ▸ hj)
end Go.Proofs.Ytoobiffhjjfpgaa.Print
