/- SeglogWrong, plain: what the law's log comes to; which chains are not. -/
import Derived.Test.YtoobiffhjjfpgaaGreatAdopt3
namespace Go.Proofs.YtoobiffhjjfpgaaGreat.Print
open Go.RowKit

/-- The law's second log, when so many frames were put. -/
def wS (l : List Fr) (i : Nat) : S3 := run3 0 (newPool 6 1, newLog 2 7 50, []) (l.take i)
structure WrI (l : List Fr) (i : Nat) : Prop where
  ok : S3Ok 98 50 i (wS l i)
  disk : DiskL (zeroDisk 98) (wS l i).2.2 0 (wS l i).1 [(wS l i).2.1, newLog 1 7 0]
  chain : ChainOk (wS l i).2.1.base (wS l i).2.1.segs (wS l i).2.1.next
  same : (wS l i).2.1.id = 2 ∧ (wS l i).2.1.gen = 7 ∧ (wS l i).2.1.base = 50
  w : (wS l i).2.2.length ≤ 16 * i
  len : (wS l i).1.O.length = 6 ∧ (wS l i).1.ep = 1
theorem takeM_len {P : PoolM} {id i st : Nat} {P' : PoolM} (h : takeM P id = some (i, st, P')) : P'.O.length = P.O.length ∧ P'.ep = P.ep := by
  obtain ⟨_, _, _, rfl⟩ := takeM_some h
  exact ⟨by simp, rfl⟩
theorem appendM_pool (P : PoolM) (L : LogM) (k : Int) (p : ByteArray) : (appendM P L k p).p.O.length = P.O.length ∧ (appendM P L k p).p.ep = P.ep := by
  have hr : (rollM P L k p).p.O.length = P.O.length ∧ (rollM P L k p).p.ep = P.ep := by
    unfold rollM
    cases ht : takeM P L.id with
    | none => exact ⟨rfl, rfl⟩
    | some y => exact takeM_len ht
  unfold appendM
  repeat' split
  all_goals first | exact ⟨rfl, rfl⟩ | exact hr
theorem wrI {l : List Fr} (hl : l.length ≤ 40) : ∀ i, i ≤ l.length → WrI l i
  | 0, _ => by
    refine ⟨⟨newPool_ok 6 1 98 (by omega) (by omega) (by omega) (by omega), ⟨by show 1 ≤ 2; omega, by show 2 ≤ 65535; omega, by show 7 < _; omega, by show 50 ≤ _; omega, by show 50 ≤ _; omega, fun s hs => absurd hs (by simp [wS, run3, newLog]), Nat.zero_le _⟩, Nat.le_refl _, Nat.le_refl _⟩, ?_, rfl, ⟨rfl, rfl, rfl⟩, Nat.le_refl _, ⟨rfl, rfl⟩⟩
    refine DiskL.empty (fun n hn k hk => t_zero n k (by simpa [wS, run3, newPool] using hn) hk) (fun M hM => ?_) (fun M hM => ?_) ?_
    · simp [wS, run3] at hM; rcases hM with rfl | rfl <;> rfl
    · simp [wS, run3] at hM; rcases hM with rfl | rfl <;> (simp [newLog])
    · simp [wS, run3, newLog]
  | i + 1, hi => by
    have h := wrI hl i (by omega)
    have he : wS l (i + 1) = step3 0 (wS l i) (l[i]'(by omega)) := run3_take 0 _ (by omega)
    have ho := h.ok.step (by omega) (by omega) 0 (l[i]'(by omega))
    have hs := appendM_same (wS l i).1 (wS l i).2.1 (l[i]'(by omega)).1 (l[i]'(by omega)).2
    have hp := appendM_pool (wS l i).1 (wS l i).2.1 (l[i]'(by omega)).1 (l[i]'(by omega)).2
    have hw := (appendW_length 0 (wS l i).1 (wS l i).2.1 (l[i]'(by omega)).1 (l[i]'(by omega)).2 (wS l i).2.2).2
    have hwi := h.w
    refine ⟨by rw [he]; exact ho, by rw [he]; exact h.disk.append h.ok.pool h.ok.log _ _, by rw [he]; exact appendM_chain h.chain _ _, by rw [he]; exact ⟨hs.1.trans h.same.1, hs.2.1.trans h.same.2.1, hs.2.2.trans h.same.2.2⟩, ?_, by rw [he]; exact ⟨hp.1.trans h.len.1, hp.2.trans h.len.2⟩⟩
    rw [he]
    show (appendW _ _ _ _ _ _).length ≤ _
    omega
theorem ChainOk.ne : ∀ {b : Nat} {l : List SegM} {nx : Nat}, ChainOk b l nx → ∀ s ∈ l, s.fs ≠ []
  | _, [], _, _, s, hs => by cases hs
  | b, a :: r, nx, ⟨_, h2, h3⟩, s, hs => by
    rcases List.mem_cons.1 hs with rfl | hs
    · exact h2
    · exact ChainOk.ne h3 s hs
theorem stepQ_of {id gen id' gen' base : Nat} {l : List SegM} {ps : List Nat} (hp : ps.length = l.length) (j : Nat) (hj : j < l.length) : stepQ id' gen' base (qsOf id gen l ps) j = (decide (id = id') && decide (gen = gen') && posQ base (qsOf id gen l ps) ⟨l[j].n, l[j].hdr id gen, l[j].fs, l[j].e⟩ j) :=
  stepQ_at (s := ps[j]'(by omega)) (by rw [qsOf_length hp]; exact hj) (qsOf_at j hj (by omega) _)
theorem posQ_of {id gen base nx : Nat} {l : List SegM} {ps : List Nat} (hp : ps.length = l.length) (hc : ChainOk base l nx) (j : Nat) (hj : j < l.length) : posQ base (qsOf id gen l ps) ⟨l[j].n, l[j].hdr id gen, l[j].fs, l[j].e⟩ j = true := by
  cases j with
  | zero =>
    have h := hc.base_at 0 hj
    simp only [posQ, SegM.hdr]
    simp [allF] at h
    simp [h]
  | succ q =>
    have h := (hc.next_at q (by omega)).1 hj
    simp only [posQ, SegM.hdr]
    rw [List.getElem?_eq_getElem (by rw [qsOf_length hp]; omega), qsOf_at q (by omega) (by omega)]
    simp [SegM.hdr, h]
theorem chainQ_of {id gen base nx : Nat} {l : List SegM} {ps : List Nat} (hp : ps.length = l.length) (hc : ChainOk base l nx) : chainQ id gen base (qsOf id gen l ps) = true :=
  chainQ_yes fun j hj => by
    rw [qsOf_length hp] at hj
    rw [stepQ_of hp j hj, posQ_of hp hc j hj]
    simp
theorem chainQ_id {id gen id' gen' base : Nat} {l : List SegM} {ps : List Nat} (hp : ps.length = l.length) (h0 : 0 < l.length) (h : id ≠ id' ∨ gen ≠ gen') : chainQ id' gen' base (qsOf id gen l ps) = false :=
  chainQ_no (k := 0) (by rw [qsOf_length hp]; exact h0) (by
    rw [stepQ_of hp 0 h0]
    rcases h with h | h <;> simp [h])
theorem chainQ_base {id gen base base' nx : Nat} {l : List SegM} {ps : List Nat} (hp : ps.length = l.length) (h0 : 0 < l.length) (hc : ChainOk base l nx) (h : base' < base) : chainQ id gen base' (qsOf id gen l ps) = false :=
  chainQ_no (k := 0) (by rw [qsOf_length hp]; exact h0) (by
    rw [stepQ_of hp 0 h0]
    have hb := hc.base_at 0 h0
    simp [allF] at hb
    have : ¬ l[0].base ≤ base' := by omega
    simp [posQ, SegM.hdr, this])
theorem chainQ_nil {id gen base : Nat} {qs : List QS} : chainQ id gen base (qs ++ [none]) = false :=
  chainQ_no (k := qs.length) (by simp) (by simp [stepQ])
theorem chainQ_again {id gen base nx q : Nat} {l : List SegM} {ps : List Nat} (hp : ps.length = l.length) (h0 : 0 < l.length) (hc : ChainOk base l nx) {S : SegL} (hS : S.h.2.2.2 = base) : chainQ id gen base (qsOf id gen l ps ++ [some (q, S)]) = false := by
  have hql := qsOf_length (id := id) (gen := gen) hp
  refine chainQ_no (k := l.length) (by rw [List.length_append, hql]; simp) ?_
  rw [stepQ_at (s := q) (S := S) (by rw [List.length_append, hql]; simp) (by rw [List.getElem_append_right (by omega)]; simp [hql])]
  obtain ⟨m, hm⟩ : ∃ m, l.length = m + 1 := ⟨l.length - 1, by omega⟩
  have hpos : posQ base (qsOf id gen l ps ++ [some (q, S)]) S l.length = false := by
    rw [hm]
    simp only [posQ]
    rw [List.getElem?_append_left (by omega), List.getElem?_eq_getElem (by omega), qsOf_at m (by omega) (by omega)]
    have h1 := (hc.le m (by omega)).1
    have h2 : 0 < (l[m]'(by omega)).fs.length := by
      have hne := hc.ne _ (List.getElem_mem (show m < l.length by omega))
      exact List.length_pos_iff.2 hne
    simp [SegM.hdr, hS]
    omega
  rw [hpos]
  simp
theorem qat_row {v : Nat} {w : World} {B n c : Nat} {ao : Option Addr} {qs : List QS} (hr : w.ownsRow B 83 1 (.slice ao n c) n (qs.map QV)) (hs : ∀ s S, some (s, S) ∈ qs → ∃ G, SegIs s v S.n S.h S.fs S.e true w G) : QAt v ao qs w := by
  intro j hj
  refine ⟨?_, fun s S e => hs s S (by rw [← e]; exact List.getElem_mem hj)⟩
  have hn : n = qs.length := by have := hr.1; simp at this; omega
  rcases hr.2 with ⟨_, h0⟩ | ⟨g, cap, cur, e, _, hg, _, _, hsz, htake⟩
  · omega
  · cases e
    refine ⟨⟨g, 0, none⟩, rfl, ?_⟩
    have h1 : (qs.map QV)[j]? = some (QV qs[j]) := by rw [List.getElem?_map, List.getElem?_eq_getElem hj]; rfl
    rw [Addr.add_lit, Nat.zero_add, cell_of hg, ← h1, ← htake, List.getElem?_take_of_lt (by omega)]
    simp
theorem qsOf_map {id gen : Nat} : ∀ {l : List SegM} {ps : List Nat}, ps.length = l.length → (qsOf id gen l ps).map QV = ps.map ptrV
  | [], [], _ => rfl
  | _ :: _, [], h => by simp at h
  | [], _ :: _, h => by simp at h
  | a :: r, p :: q, h => by
    have ih := qsOf_map (id := id) (gen := gen) (l := r) (ps := q) (by simpa using h)
    show QV _ :: (qsOf id gen r q).map QV = ptrV p :: q.map ptrV
    rw [ih]
    rfl
theorem chain_seal : ∀ {b : Nat} {l : List SegM} {nx : Nat}, ChainOk b l nx → ChainOk b (l.map SegM.seal) nx
  | _, [], _, h => h
  | _, _ :: _, _, ⟨h1, h2, h3⟩ => ⟨h1, h2, chain_seal h3⟩
theorem segs_q {v id gen : Nat} {l : List SegM} {ps : List Nat} {w : World} {G : Foot} (hS : SegsAre v id gen l ps w G) (hsl : ∀ s ∈ l, s.sealed = true) : ∀ s S, some (s, S) ∈ qsOf id gen l ps → ∃ G, SegIs s v S.n S.h S.fs S.e true w G := by
  intro s S h
  obtain ⟨j, hj, e⟩ := List.mem_iff_getElem.1 h
  have hl := hS.length
  have hj1 : j < l.length := by rw [qsOf_length hl] at hj; exact hj
  rw [qsOf_at j hj1 (by omega)] at e
  cases e
  obtain ⟨_, G1, h1, _⟩ := hS.at_ j hj1
  rw [hsl _ (List.getElem_mem hj1)] at h1
  exact ⟨G1, h1⟩
theorem build_nilp (W : World) : (Instr.buildSlice 73 1 #[(0, .pointer none)]).run Tryz.prog W = .ok (.slice (some ⟨W.heap.size, 0, none⟩) 1 1) (W.alloc (.cells #[.pointer none] 83)) := by kernel_rfl
theorem app_keep {w4 w6 wa : World} {bx : Nat} {x : Value} {o : Obj} {sv : Value} {B : Nat} (h : w6.cell? ⟨bx, 0, none⟩ = some x ∧ Below w4.heap.size w4 w6) (hbx : bx < w4.heap.size) (hl : ∀ i, sv.ownBlock = some i → B ≤ i ∧ i < w6.heap.size) (hB : w4.heap.size ≤ B) (hg : (w6.alloc o).grownBy wa sv.ownBlock) : wa.cell? ⟨bx, 0, none⟩ = some x ∧ Below w4.heap.size w4 wa := by
  have hz := h.2.size
  refine ⟨?_, (h.2.alloc hz o).grown hg (Nat.le_trans hz (by simp)) (fun i hi => Nat.le_trans hB (hl i hi).1)⟩
  rw [World.cell?_of_block (w := w6) ((hg.block bx (by simp; omega) (fun e => by have := (hl bx e.symm).1; omega)).trans (Below.heap_alloc _ _ _ (by omega)))]
  exact h.1
theorem zeros_set : ∀ (O : List Nat) (i v : Nat), O[i]? = some 0 → v ≠ 0 → ((O.set i v).filter isFree).length + 1 = (O.filter isFree).length
  | [], i, v, h, _ => by simp at h
  | a :: r, 0, v, h, hv => by
    have e : a = 0 := by simpa using h
    subst e
    simp [isFree, hv]
  | a :: r, i + 1, v, h, hv => by
    have ih := zeros_set r i v (by simpa using h) hv
    simp only [List.set_cons_succ, List.filter_cons]
    split
    · simp only [List.length_cons]; omega
    · exact ih
theorem claims_at {P : PoolM} {id : Nat} {ns : List Nat} (hn : ns.Nodup) (hf : ∀ n ∈ ns, P.O[n]? = some 0) (k : Nat) (hk : k < ns.length) : (claimsM P id (ns.take k)).O[ns[k]]? = some 0 := by
  rw [claimsM_other, hf _ (List.getElem_mem hk)]
  intro n hn' e
  obtain ⟨j, hj, hje⟩ := List.mem_iff_getElem.1 hn'
  rw [List.length_take] at hj
  rw [List.getElem_take] at hje
  exact (List.pairwise_iff_getElem.1 hn) j k (by omega) hk (by omega) (by rw [hje, e])
theorem claims_free {P : PoolM} {id : Nat} (h1 : 1 ≤ id) {ns : List Nat} (hn : ns.Nodup) (hf : ∀ n ∈ ns, P.O[n]? = some 0) : ∀ k, k ≤ ns.length → (freeL (claimsM P id (ns.take k)).O).length + k = (freeL P.O).length
  | 0, _ => by simp [claimsM]
  | k + 1, hk => by
    have ih := claims_free h1 hn hf k (by omega)
    have hc := claims_at (id := id) hn hf k (by omega)
    rw [List.take_succ_eq_append_getElem (by omega), claimsM_snoc]
    have hz := zeros_set _ _ id hc (by omega)
    unfold freeL at ih ⊢
    rw [idxs_length] at ih ⊢
    rw [idxs_length] at ih ⊢
    simp only at ih hz ⊢
    omega
theorem seal_n (l : List SegM) : (l.map SegM.seal).map (·.n) = l.map (·.n) := by simp [SegM.seal, List.map_map, Function.comp_def]
end Go.Proofs.YtoobiffhjjfpgaaGreat.Print
