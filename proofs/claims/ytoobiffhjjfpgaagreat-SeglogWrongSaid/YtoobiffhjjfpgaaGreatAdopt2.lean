/- seglog: Adopt. -/
import Derived.Test.YtoobiffhjjfpgaaGreatAdopt
namespace Go.Proofs.YtoobiffhjjfpgaaGreat.Print
open Go.RowKit
attribute [local go_sem] run_loadVar_scalar

theorem adopt_busy {g v p : Nat} {L : LogM} {w : World} {G : Foot} (h : LogIs g v p L w G) (h0 : L.segs ≠ []) (hm : L.segs.length ≤ 1000) (a : Value) :
    Calls Tryz.prog 44 #[.pointer (some ⟨g, 0, none⟩), a] w fun x w' => x = .returned (.int .i64 7) ∧ Below w.heap.size w w' := by
  obtain ⟨sv, ps, hp, hobj, hrow, hrest⟩ := h.row
  obtain ⟨so, sc, hv⟩ := hrow.slice
  subst hv
  obtain ⟨y0, y1, y2, y3, y4, y5, y6, yf⟩ := seven_of hobj
  obtain ⟨n, hn⟩ : ∃ n, L.segs.length = n := ⟨_, rfl⟩
  have hn0 : 0 < n := by rw [← hn]; exact List.length_pos_iff.2 h0
  have hd : decide ((0 : Int) < (n : Int)) = true := decide_eq_true (by omega)
  rw [hn] at y6
  clear hobj hrow hrest h hn hp h0
  go_enter Tryz.func44, Tryz.ntmps44
  go_wp2_with fail
  go_ret
  exact ⟨rfl, Below.refl _ _⟩
theorem log_empty {g v p : Nat} {L : LogM} {w : World} {G : Foot} (h : LogIs g v p L w G) (h0 : L.segs = []) : ∃ so sc, w.heap[g]? = some (logObj v p L.id L.gen L.base L.next (.slice so 0 sc)) := by
  obtain ⟨sv, ps, hp, hobj, hrow, _⟩ := h.row
  obtain ⟨so, sc, hv⟩ := hrow.slice
  subst hv
  rw [h0] at hobj
  exact ⟨so, sc, hobj⟩
theorem adopt_no {g v p : Nat} {L : LogM} {w : World} {G : Foot} (h : LogIs g v p L w G) (h0 : L.segs = []) {ao : Option Addr} {qs : List QS} (hQ : QAt v ao qs w) (cap : Nat) (hm : qs.length ≤ 1000) (hf : QFit qs) (hc : chainQ L.id L.gen L.base qs = false) :
    Calls Tryz.prog 44 #[.pointer (some ⟨g, 0, none⟩), .slice ao qs.length cap] w fun x w' => x = .returned (.int .i64 4) ∧ Below w.heap.size w w' := by
  obtain ⟨so, sc, hobj⟩ := log_empty h h0
  obtain ⟨y0, y1, y2, y3, y4, y5, y6, yf⟩ := seven_of hobj
  have KC := Lib.hid (lchain_any h hQ cap hm hf)
  rw [hc] at KC
  clear h hobj hQ hf hc
  go_enter Tryz.func44, Tryz.ntmps44
  go_wp2_with fail
  refine KC.out.mono ?_
  rintro x w1 ⟨rfl, hb⟩
  go_wp2
  go_ret
  exact ⟨rfl, hb⟩
/-- The pool, when so many segments were claimed. -/
def claimsM (P : PoolM) (id : Nat) (ns : List Nat) : PoolM := ns.foldl (fun P n => ⟨P.O.set n id, P.ep, P.ct⟩) P
theorem claimsM_snoc (P : PoolM) (id : Nat) (ns : List Nat) (n : Nat) : claimsM P id (ns ++ [n]) = ⟨(claimsM P id ns).O.set n id, (claimsM P id ns).ep, (claimsM P id ns).ct⟩ := by simp [claimsM]
theorem claimsM_len (P : PoolM) (id : Nat) : ∀ (k : Nat) (ns : List Nat), (claimsM P id (ns.take k)).O.length = P.O.length ∧ (claimsM P id (ns.take k)).ep = P.ep ∧ (claimsM P id (ns.take k)).ct = P.ct
  | 0, ns => by simp [claimsM]
  | k + 1, ns => by
    by_cases hk : k < ns.length
    · rw [List.take_succ_eq_append_getElem hk, claimsM_snoc]
      obtain ⟨h1, h2, h3⟩ := claimsM_len P id k ns
      exact ⟨by simp [h1], h2, h3⟩
    · rw [List.take_of_length_le (by omega), ← List.take_of_length_le (l := ns) (i := k) (by omega)]
      exact claimsM_len P id k ns
theorem claimsM_other (P : PoolM) (id m : Nat) : ∀ (k : Nat) (ns : List Nat), (∀ n ∈ ns.take k, n ≠ m) → (claimsM P id (ns.take k)).O[m]? = P.O[m]?
  | 0, ns, _ => by simp [claimsM]
  | k + 1, ns, h => by
    by_cases hk : k < ns.length
    · rw [List.take_succ_eq_append_getElem hk] at h ⊢
      rw [claimsM_snoc]
      show ((claimsM P id (ns.take k)).O.set ns[k] id)[m]? = _
      rw [List.getElem?_set_ne (h ns[k] (List.mem_append_right _ (by simp)))]
      exact claimsM_other P id m k ns (fun n hn => h n (List.mem_append_left _ hn))
    · rw [List.take_of_length_le (by omega)] at h ⊢
      rw [← List.take_of_length_le (l := ns) (i := k) (by omega)] at h ⊢
      exact claimsM_other P id m k ns h
/-- A log, its segments' blocks told. -/
def LogQ (g v p : Nat) (L : LogM) (ps : List Nat) (w : World) (G : Foot) : Prop :=
  ∃ (sv : Value) (Gs : Foot), w.heap[g]? = some (logObj v p L.id L.gen L.base L.next sv) ∧ OffRow w 83 sv ps.length (ps.map ptrV) ∧ SegsAre v L.id L.gen L.segs ps w Gs ∧ sv.ownBlock ≠ some g ∧ ¬ Gs g ∧ (∀ i, sv.ownBlock = some i → ¬ Gs i) ∧ ∀ i, G i ↔ i = g ∨ sv.ownBlock = some i ∨ Gs i
theorem LogQ.log {g v p : Nat} {L : LogM} {ps : List Nat} {w : World} {G : Foot} (h : LogQ g v p L ps w G) : LogIs g v p L w G := by
  obtain ⟨sv, Gs, h1⟩ := h
  exact ⟨sv, ps, Gs, h1⟩
theorem LogIs.q {g v p : Nat} {L : LogM} {w : World} {G : Foot} (h : LogIs g v p L w G) : ∃ ps, LogQ g v p L ps w G := by
  obtain ⟨sv, ps, Gs, h1⟩ := h
  exact ⟨ps, sv, Gs, h1⟩
theorem LogQ.stays {g v p : Nat} {L : LogM} {ps : List Nat} : Stays (LogQ g v p L ps) := by
  rintro w w' S G ⟨sv, Gs, h1, h2, h3, h4, h5, h6, hG⟩ hU hn
  exact ⟨sv, Gs, hU.at_ h1 (hn g ((hG g).2 (.inl rfl))), h2.keep hU (fun i hi => hn i ((hG i).2 (.inr (.inl hi)))), SegsAre.stays h3 hU (fun i hi => hn i ((hG i).2 (.inr (.inr hi)))), h4, h5, h6, hG⟩
theorem LogQ.nums {g v p : Nat} {L : LogM} {ps : List Nat} {w w' : World} {G : Foot} (h : LogQ g v p L ps w G) (base next : Nat) (hU : Upd (fun k => k = g) w w') (hg : ∀ sv, w.heap[g]? = some (logObj v p L.id L.gen L.base L.next sv) → w'.heap[g]? = some (logObj v p L.id L.gen base next sv)) :
    LogQ g v p ⟨L.id, L.gen, base, next, L.segs⟩ ps w' G ∧ Upd G w w' := by
  obtain ⟨sv, Gs, h1, h2, h3, h4, h5, h6, hG⟩ := h
  refine ⟨⟨sv, Gs, hg sv h1, h2.keep hU (fun i hi e => h4 (by rw [hi, e])), SegsAre.stays h3 hU (fun i hi e => h5 (e ▸ hi)), h4, h5, h6, hG⟩, hU.mono (fun k _ e => (hG k).2 (.inl e))⟩
theorem LogQ.seg {g v p : Nat} {L : LogM} {ps : List Nat} {w : World} {G : Foot} (h : LogQ g v p L ps w G) (j : Nat) (hj : j < L.segs.length) : ∃ (hp : j < ps.length) (G1 : Foot), SegIs ps[j] v L.segs[j].n (L.segs[j].hdr L.id L.gen) L.segs[j].fs L.segs[j].e L.segs[j].sealed w G1 ∧ ∀ i, G1 i → G i := by
  obtain ⟨sv, Gs, _, _, h3, _, _, _, hG⟩ := h
  obtain ⟨hp, G1, h1, h2⟩ := h3.at_ j hj
  exact ⟨hp, G1, h1, fun i hi => (hG i).2 (.inr (.inr (h2 i hi)))⟩
theorem LogQ.obj {g v p : Nat} {L : LogM} {ps : List Nat} {w : World} {G : Foot} (h : LogQ g v p L ps w G) : ∃ sv, w.heap[g]? = some (logObj v p L.id L.gen L.base L.next sv) := h.log.obj
theorem LogQ.len {g v p : Nat} {L : LogM} {ps : List Nat} {w : World} {G : Foot} (h : LogQ g v p L ps w G) : ps.length = L.segs.length := by
  obtain ⟨sv, Gs, _, _, h3, _⟩ := h
  exact h3.length
theorem LogQ.push {g v p : Nat} {L : LogM} {ps : List Nat} {w : World} {G : Foot} (h : LogQ g v p L ps w G) {s : Nat} {S : SegM} {G1 : Foot} (hS : SegIs s v S.n (S.hdr L.id L.gen) S.fs S.e S.sealed w G1) (ha : Apart G G1) :
    ∃ (sv : Value) (xs : List Value), w.heap[g]? = some (logObj v p L.id L.gen L.base L.next sv) ∧ OffRow w 83 sv L.segs.length xs ∧ sv.ownBlock ≠ some g ∧
      ∀ (wa w1 : World) (sv' : Value), Below w.heap.size w wa → OffRow w1 83 sv' (L.segs.length + 1) (xs ++ [ptrV s]) → wa.grownBy w1 sv.ownBlock → (sv'.ownBlock = sv.ownBlock ∨ ∃ b, sv'.ownBlock = some b ∧ wa.heap.size ≤ b) →
        w1.heap[g]? = some (logObj v p L.id L.gen L.base L.next sv) ∧ ∃ G2 : Foot, LogQ g v p ⟨L.id, L.gen, L.base, L.next, L.segs ++ [S]⟩ (ps ++ [s]) (w1.setCell ⟨g, 6, none⟩ sv') G2 ∧ Upd G w (w1.setCell ⟨g, 6, none⟩ sv') ∧ ∀ i, G2 i → G i ∨ G1 i ∨ w.heap.size ≤ i := by
  have htS := SegIs.there hS
  obtain ⟨sv, Gs, h1, h2, h3, h4, h5, h6, hG⟩ := h
  have hpl := h3.length
  refine ⟨sv, ps.map ptrV, h1, by rw [← hpl]; exact h2, h4, fun wa w1 sv' hb hrow hgrow hat => ?_⟩
  have hgG : G g := (hG g).2 (.inl rfl)
  have hsG : ∀ i, sv.ownBlock = some i → G i := fun i hi => (hG i).2 (.inr (.inl hi))
  have hssG : ∀ i, Gs i → G i := fun i hi => (hG i).2 (.inr (.inr hi))
  have hU1 : Upd (fun i => sv.ownBlock = some i) w w1 := (Upd.of_below' hb).trans ⟨hgrow.os, hgrow.tape, hgrow.output, hgrow.size, fun i hi hn => hgrow.block i hi (fun e => hn e.symm)⟩ (fun _ _ h => h)
  have hg1 := hU1.at_ h1 h4
  have hU2 : Upd (fun k => k = g) w1 (w1.setCell ⟨g, 6, none⟩ sv') := (Upd.refl (fun k => k = g) w1).setCell (p := ⟨g, 6, none⟩) (fun _ => rfl) _
  have hU : Upd G w (w1.setCell ⟨g, 6, none⟩ sv') := (hU1.mono (T := G) (fun i _ hi => hsG i hi)).trans hU2 (fun i _ e => by rw [e]; exact hgG)
  have hnew : ∀ b, sv'.ownBlock = some b → sv.ownBlock = some b ∨ w.heap.size ≤ b := by
    intro b hb'
    rcases hat with e | ⟨b2, e, hge⟩
    · exact .inl (e ▸ hb')
    · rw [e] at hb'; cases hb'; exact .inr (by have := hb.size; omega)
  have hg' : sv'.ownBlock ≠ some g := fun e => (hnew g e).elim h4 (fun hh => by have := lt_of h1; omega)
  have hsU : ∀ i, Gs i → ¬ (sv.ownBlock = some i) := fun i hi e => h6 i e hi
  have hSegs := SegsAre.stays (SegsAre.stays h3 hU1 hsU) hU2 (fun i hi e => h5 (e ▸ hi))
  have hSn := SegIs.stays (SegIs.stays hS hU1 (fun i hi e => ha i (hsG i e) hi)) hU2 (fun i hi e => ha g hgG (e ▸ hi))
  refine ⟨hg1, fun i => i = g ∨ sv'.ownBlock = some i ∨ Both Gs G1 i, ⟨sv', Both Gs G1, by rw [cells_set _ _ _ _ _ _ hg1]; rfl, ?_, hSegs.snoc hSn (fun i hi hc => ha i (hssG i hi) hc), hg', fun hc => hc.elim h5 (ha g hgG), fun i hi hc => ?_, fun i => Iff.rfl⟩, hU, fun i hi => ?_⟩
  · rw [List.length_append, List.map_append]
    refine OffRow.keep (S := fun k => k = g) ?_ hU2 (fun i hi e => hg' (by rw [hi, e]))
    rw [hpl]
    exact hrow
  · rcases hnew i hi with e | e
    · exact hc.elim (h6 i e) (ha i (hsG i e))
    · exact hc.elim (fun hc => by have := SegsAre.there h3 i hc; omega) (fun hc => by have := htS i hc; omega)
  · rcases hi with rfl | hi | hi | hi
    · exact .inl hgG
    · exact (hnew i hi).elim (fun e => .inl (hsG i e)) (fun e => .inr (.inr e))
    · exact .inl (hssG i hi)
    · exact .inr (.inl hi)
end Go.Proofs.YtoobiffhjjfpgaaGreat.Print
