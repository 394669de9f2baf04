/- Logs of one pool on a disk, plain: what lies in their segments; what an append keeps. -/
import Derived.Test.YtoobiffhjjfpgaaGreatRun
import Derived.Test.YtoobiffhjjfpgaaGreatScanD
namespace Go.Proofs.YtoobiffhjjfpgaaGreat.Print
open Go.RowKit

theorem sealed_stamp {lies : List (List UInt8)} {W : List (Nat × List UInt8)} {f n n' e s c k : Nat} {L : List (List UInt8)} (h52 : ∀ p ∈ L, p.length = 52) (hs : s < 4294967296) (hc1 : 1 ≤ c) (hc2 : c < 65536) (hk : k < 16) (hL : e + L.length ≤ 16) {x : Nat × Nat × List UInt8} (hx : secO lies (W ++ sealAt (f + (2 + 16 * n + e)) s c L) f n' k = some x) :
    x.1 = s ∨ secO lies W f n' k = some x := by
  by_cases hn : n' = n
  · subst hn
    rw [secO_seal lies W f n' e s c L h52 hs hc1 hc2] at hx
    split at hx
    · cases hx; exact .inl rfl
    · exact .inr hx
  · rw [secO_other hn hk hL] at hx
    exact .inr hx
/-- Logs of one pool, and what lies in their segments. -/
structure DiskL (lies : List (List UInt8)) (W : List (Nat × List UInt8)) (f : Nat) (P : PoolM) (Ls : List LogM) : Prop where
  stamp : ∀ n, n < P.O.length → ∀ k, k < 16 → ∀ x, secO lies W f n k = some x → x.1 < 65536 * P.ep + P.ct
  put : ∀ L ∈ Ls, ∀ s ∈ L.segs, PutInv (secO lies W f s.n) (s.hdr L.id L.gen) s.fs s.e
  own : ∀ L ∈ Ls, ∀ s ∈ L.segs, P.O[s.n]? = some L.id
  old : ∀ L ∈ Ls, ∀ s ∈ L.segs, s.st < 65536 * P.ep + P.ct
  one : ∀ L ∈ Ls, (L.segs.map (·.n)).Nodup
  ids : ∀ L ∈ Ls, 1 ≤ L.id
  two : (Ls.map (·.id)).Nodup
theorem DiskL.swap {lies : List (List UInt8)} {W : List (Nat × List UInt8)} {f : Nat} {P : PoolM} {A B : LogM} (h : DiskL lies W f P [A, B]) : DiskL lies W f P [B, A] := by
  have hm : ∀ L, L ∈ [B, A] → L ∈ [A, B] := fun L hL => by simp at hL ⊢; exact hL.symm
  refine ⟨h.stamp, fun L hL => h.put L (hm L hL), fun L hL => h.own L (hm L hL), fun L hL => h.old L (hm L hL), fun L hL => h.one L (hm L hL), fun L hL => h.ids L (hm L hL), ?_⟩
  have := h.two
  simp at this ⊢
  exact fun e => this e.symm
theorem DiskL.empty {lies : List (List UInt8)} {W : List (Nat × List UInt8)} {f : Nat} {P : PoolM} {Ls : List LogM} (hs : ∀ n, n < P.O.length → ∀ k, k < 16 → secO lies W f n k = none) (he : ∀ L ∈ Ls, L.segs = []) (hi : ∀ L ∈ Ls, 1 ≤ L.id) (h2 : (Ls.map (·.id)).Nodup) : DiskL lies W f P Ls := by
  refine ⟨fun n hn k hk x hx => by (rw [hs n hn k hk] at hx; cases hx), fun L hL s hs' => ?_, fun L hL s hs' => ?_, fun L hL s hs' => ?_, fun L hL => by rw [he L hL]; exact List.nodup_nil, hi, h2⟩ <;> (rw [he L hL] at hs'; cases hs')
theorem nodup_last {l : List SegM} {s : SegM} (h : ((l ++ [s]).map (·.n)).Nodup) : ∀ s' ∈ l, s'.n ≠ s.n := by
  intro s' hs' e
  rw [List.map_append, List.nodup_append] at h
  exact h.2.2 s'.n (List.mem_map.2 ⟨s', hs', rfl⟩) s.n (by simp) e
theorem DiskL.append {N : Nat} {lies : List (List UInt8)} {W : List (Nat × List UInt8)} {f : Nat} {P : PoolM} {L : LogM} {Ls : List LogM} (h : DiskL lies W f P (L :: Ls)) (hP : PoolOk N P) (kL : LogOk N L) (k : Int) (p : ByteArray) :
    DiskL lies (appendW f P L k p W) f (appendM P L k p).p ((appendM P L k p).g :: Ls) := by
  by_cases hw : wrongP k p.size ≠ 0
  · rw [appendM_wrong hw, appendW_wrong hw]; exact h
  have hw := Decidable.not_not.1 hw
  obtain ⟨k1, k2, k3⟩ := wrong_none hw
  obtain ⟨K, rfl⟩ : ∃ K : Nat, k = K := ⟨k.toNat, by omega⟩
  have hids := h.two
  simp only [List.map_cons, List.nodup_cons, List.mem_map, not_exists, not_and] at hids
  have hot : ∀ M ∈ Ls, ∀ s' ∈ M.segs, ∀ s : SegM, P.O[s.n]? = some L.id → s'.n ≠ s.n := fun M hM s' hs' s hs e => by
    have h1 := h.own M (List.mem_cons_of_mem _ hM) s' hs'
    rw [e, hs] at h1
    exact hids.1 M hM (Option.some.inj h1).symm
  by_cases hfit : ∃ s, lastM L = some s ∧ s.e + many (7 + p.size) ≤ 16
  · obtain ⟨s, hl, hf⟩ := hfit
    rw [appendM_fit hw hl hf, appendW_fit hw hl hf]
    have hsegs := (lastM_some hl).1
    obtain ⟨l0, hl0⟩ : ∃ l0, L.segs.dropLast = l0 := ⟨_, rfl⟩
    rw [hl0] at hsegs ⊢
    have hsm : s ∈ L.segs := by rw [hsegs]; simp
    have hso := h.own L (by simp) s hsm
    have hst := h.old L (by simp) s hsm
    have hsk := kL.segs s hsm
    have hsp := h.put L (by simp) s hsm
    have hnd := h.one L (by simp)
    rw [hsegs] at hnd
    have hne := nodup_last hnd
    have hlen : s.e + (frP s.st s.e K p).length ≤ 16 := by rw [show (frP s.st s.e K p).length = many (7 + p.size) from pieces_length _ _]; exact hf
    have hkt : (K : Int).toNat = K := by omega
    rw [hkt]
    refine ⟨fun n hn k' hk' x hx => ?_, fun M hM s' hs' => ?_, fun M hM s' hs' => ?_, fun M hM s' hs' => ?_, fun M hM => ?_, fun M hM => ?_, ?_⟩
    · rcases sealed_stamp (pieces_52 _ _) hsk.st (by omega) (by have := hsk.fe; have := hsk.e16; omega) hk' hlen hx with e | hx
      · rw [e]; exact hst
      · exact h.stamp n hn k' hk' x hx
    · rcases List.mem_cons.1 hM with rfl | hM
      · rcases List.mem_append.1 hs' with hs' | hs'
        · exact (h.put L (by simp) s' (by rw [hsegs]; exact List.mem_append_left _ hs')).congr fun k' hk' => secO_other (hne s' hs') hk' hlen
        · rw [List.mem_singleton.1 hs']
          exact putInv_append hsp hsk.st (by omega) (by omega) k3 hf
      · exact (h.put M (List.mem_cons_of_mem _ hM) s' hs').congr fun k' hk' => secO_other (hot M hM s' hs' s hso) hk' hlen
    · rcases List.mem_cons.1 hM with rfl | hM
      · rcases List.mem_append.1 hs' with hs' | hs'
        · exact h.own L (by simp) s' (by rw [hsegs]; exact List.mem_append_left _ hs')
        · rw [List.mem_singleton.1 hs']; exact hso
      · exact h.own M (List.mem_cons_of_mem _ hM) s' hs'
    · rcases List.mem_cons.1 hM with rfl | hM
      · rcases List.mem_append.1 hs' with hs' | hs'
        · exact h.old L (by simp) s' (by rw [hsegs]; exact List.mem_append_left _ hs')
        · rw [List.mem_singleton.1 hs']; exact hst
      · exact h.old M (List.mem_cons_of_mem _ hM) s' hs'
    · rcases List.mem_cons.1 hM with rfl | hM
      · rw [List.map_append] at hnd ⊢; exact hnd
      · exact h.one M (List.mem_cons_of_mem _ hM)
    · rcases List.mem_cons.1 hM with rfl | hM
      · exact h.ids L (by simp)
      · exact h.ids M (List.mem_cons_of_mem _ hM)
    · exact h.two
  · have hnf : noFit L p := by
      unfold noFit
      cases hl : lastM L with
      | none => exact .inl rfl
      | some s =>
        by_cases hf : s.e + many (7 + p.size) ≤ 16
        · exact absurd ⟨s, hl, hf⟩ hfit
        · exact .inr ⟨s, rfl, by omega⟩
    rw [appendM_roll hw hnf, appendW_roll hw hnf]
    unfold rollM rollW
    cases ht : takeM P L.id with
    | none => exact h
    | some y =>
      obtain ⟨i, st, P'⟩ := y
      obtain ⟨_, hct, hst, rfl⟩ := takeM_some ht
      obtain ⟨hi, hi0⟩ := takeM_lt ht
      have hep := hP.ep
      have hfh := hfits_new hP kL ht
      have hne : ∀ M ∈ L :: Ls, ∀ s' ∈ M.segs, s'.n ≠ i := fun M hM s' hs' e => by
        have h1 := h.own M hM s' hs'
        have h2 := h.ids M hM
        rw [e, List.getElem?_eq_getElem hi, hi0] at h1
        have := Option.some.inj h1
        omega
      have hl1 : 0 + [pad52 (hdrL (L.id, L.gen, st, L.next))].length ≤ 16 := by simp
      have hmf := many_fits p k3
      have hl2 : 1 + (frP st 1 K p).length ≤ 16 := by rw [show (frP st 1 K p).length = many (7 + p.size) from pieces_length _ _]; exact hmf
      have h52 : ∀ q ∈ [pad52 (hdrL (L.id, L.gen, st, L.next))], q.length = 52 := by intro q hq; rw [List.mem_singleton.1 hq]; exact pad52_length _
      have hstl : st < 4294967296 := hfh.2.2.2.1
      have hcr := putInv_create (lies := lies) (W := W) (f := f) (n := i) hfh (fun k' h1 h2 x hx => by have := h.stamp i hi k' h2 x hx; show x.1 ≠ st; omega)
      simp only at hcr
      have hap := putInv_append hcr hstl (K := K) (p := p) (by omega) (by omega) k3 hmf
      have hkt : (K : Int).toNat = K := by omega
      simp only [hkt]
      have hcg : ∀ M ∈ L :: Ls, ∀ s' ∈ M.segs, PutInv (secO lies ((W ++ sealAt (f + (2 + 16 * i + 0)) st 1 [pad52 (hdrL (L.id, L.gen, st, L.next))]) ++ sealAt (f + (2 + 16 * i + 1)) st 2 (frP st 1 K p)) f s'.n) (s'.hdr M.id M.gen) s'.fs s'.e := fun M hM s' hs' =>
        (h.put M hM s' hs').congr fun k' hk' => by rw [secO_other (hne M hM s' hs') hk' hl2, secO_other (hne M hM s' hs') hk' hl1]
      have hset : ∀ M ∈ L :: Ls, ∀ s' ∈ M.segs, (P.O.set i L.id)[s'.n]? = some M.id := fun M hM s' hs' => by
        rw [List.getElem?_set_ne (fun e => hne M hM s' hs' e.symm)]
        exact h.own M hM s' hs'
      refine ⟨fun n hn k' hk' x hx => ?_, fun M hM s' hs' => ?_, fun M hM s' hs' => ?_, fun M hM s' hs' => ?_, fun M hM => ?_, fun M hM => ?_, ?_⟩
      · show x.1 < 65536 * P.ep + (P.ct + 1)
        rcases sealed_stamp (pieces_52 _ _) hstl (by omega) (by omega) hk' hl2 hx with e | hx
        · omega
        · rcases sealed_stamp h52 hstl (by omega) (by omega) hk' hl1 hx with e | hx
          · omega
          · have := h.stamp n (by simpa using hn) k' hk' x hx; omega
      · rcases List.mem_cons.1 hM with rfl | hM
        · rcases List.mem_append.1 hs' with hs' | hs'
          · exact hcg L (by simp) s' hs'
          · rw [List.mem_singleton.1 hs']; exact hap
        · exact hcg M (List.mem_cons_of_mem _ hM) s' hs'
      · rcases List.mem_cons.1 hM with rfl | hM
        · rcases List.mem_append.1 hs' with hs' | hs'
          · exact hset L (by simp) s' hs'
          · rw [List.mem_singleton.1 hs']
            show (P.O.set i L.id)[i]? = some L.id
            rw [List.getElem?_set_self hi]
        · exact hset M (List.mem_cons_of_mem _ hM) s' hs'
      · show s'.st < 65536 * P.ep + (P.ct + 1)
        rcases List.mem_cons.1 hM with rfl | hM
        · rcases List.mem_append.1 hs' with hs' | hs'
          · have := h.old L (by simp) s' hs'; omega
          · rw [List.mem_singleton.1 hs']; show st < _; omega
        · have := h.old M (List.mem_cons_of_mem _ hM) s' hs'; omega
      · rcases List.mem_cons.1 hM with rfl | hM
        · show ((L.segs ++ [(newSeg i st L.next).more K p]).map (·.n)).Nodup
          rw [List.map_append, List.nodup_append]
          refine ⟨h.one L (by simp), by simp, fun a ha b hb e => ?_⟩
          obtain ⟨s', hs', rfl⟩ := List.mem_map.1 ha
          rw [List.map_singleton, List.mem_singleton] at hb
          rw [hb] at e
          exact hne L (by simp) s' hs' e
        · exact h.one M (List.mem_cons_of_mem _ hM)
      · rcases List.mem_cons.1 hM with rfl | hM
        · exact h.ids L (by simp)
        · exact h.ids M (List.mem_cons_of_mem _ hM)
      · exact h.two
theorem ChainOk.snoc : ∀ {b : Nat} {l : List SegM} {s : SegM} {nx : Nat}, ChainOk b (l ++ [s]) nx ↔ ChainOk b l s.base ∧ s.fs ≠ [] ∧ s.base + s.fs.length = nx
  | b, [], s, nx => by
    simp only [List.nil_append, ChainOk]
    exact ⟨fun ⟨h1, h2, h3⟩ => ⟨h1.symm, h2, by omega⟩, fun ⟨h1, h2, h3⟩ => ⟨h1.symm, h2, by omega⟩⟩
  | b, a :: r, s, nx => by
    simp only [List.cons_append, ChainOk]
    rw [ChainOk.snoc (l := r)]
    exact ⟨fun ⟨h1, h2, h3, h4⟩ => ⟨⟨h1, h2, h3⟩, h4⟩, fun ⟨⟨h1, h2, h3⟩, h4⟩ => ⟨h1, h2, h3, h4⟩⟩
theorem appendM_same (P : PoolM) (L : LogM) (k : Int) (p : ByteArray) : (appendM P L k p).g.id = L.id ∧ (appendM P L k p).g.gen = L.gen ∧ (appendM P L k p).g.base = L.base := by
  unfold appendM rollM
  repeat' split
  all_goals exact ⟨rfl, rfl, rfl⟩
theorem appendM_chain {P : PoolM} {L : LogM} (h : ChainOk L.base L.segs L.next) (k : Int) (p : ByteArray) : ChainOk (appendM P L k p).g.base (appendM P L k p).g.segs (appendM P L k p).g.next := by
  unfold appendM
  split
  · exact h
  · have hroll : ChainOk (rollM P L k p).g.base (rollM P L k p).g.segs (rollM P L k p).g.next := by
      unfold rollM
      cases takeM P L.id with
      | none => exact h
      | some y => exact ChainOk.snoc.2 ⟨h, by simp [SegM.more, newSeg], by simp [SegM.more, newSeg]⟩
    split
    · rename_i s hl
      split
      · have hs := (lastM_some hl).1
        rw [hs] at h
        obtain ⟨h1, h2, h3⟩ := ChainOk.snoc.1 h
        exact ChainOk.snoc.2 ⟨h1, by simp [SegM.more], by simp [SegM.more]; omega⟩
      · exact hroll
    · exact hroll
end Go.Proofs.YtoobiffhjjfpgaaGreat.Print
