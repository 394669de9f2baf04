/- seglog: a log as an object: its block, the row of its segments, and these, one beside the other. seglog: New, getters, last, put. A drawn region whose first operations read alone and are all waited for by one that all later ones wait for: the first ones in the order of the text, then the others. seglog: roll, Append. seglog: Append. -/
import Derived.Test.YtoobiffhjjfpgaaGreatInts
import Derived.Test.YtoobiffhjjfpgaaGreatPool
import Derived.StillTail
import Derived.Deep.RegionWith
import Derived.Test.YtoobiffhjjfpgaaGreatPut
import Derived.StillTailTactics
namespace Go.Proofs.YtoobiffhjjfpgaaGreat.Print
open Go.RowKit
attribute [local go_sem] run_loadVar_scalar

abbrev logObj (v p id gen base next : Nat) (sv : Value) : Obj := .cells #[.pointer (some ⟨v, 0, none⟩), .pointer (some ⟨p, 0, none⟩), .int .i64 id, .int .u32 gen, .int .i64 base, .int .i64 next, sv] 133
theorem seven_of {w : World} {b : Nat} {c0 c1 c2 c3 c4 c5 c6 : Value} {t : TypeId} (h : w.heap[b]? = some (.cells #[c0, c1, c2, c3, c4, c5, c6] t)) :
    w.cell? ⟨b, 0, none⟩ = some c0 ∧ w.cell? ⟨b, 1, none⟩ = some c1 ∧ w.cell? ⟨b, 2, none⟩ = some c2 ∧ w.cell? ⟨b, 3, none⟩ = some c3 ∧ w.cell? ⟨b, 4, none⟩ = some c4 ∧ w.cell? ⟨b, 5, none⟩ = some c5 ∧ w.cell? ⟨b, 6, none⟩ = some c6 ∧ ∀ o, w.frozen? ⟨b, o, none⟩ = false :=
  ⟨by rw [cell_of h]; rfl, by rw [cell_of h]; rfl, by rw [cell_of h]; rfl, by rw [cell_of h]; rfl, by rw [cell_of h]; rfl, by rw [cell_of h]; rfl, by rw [cell_of h]; rfl, fun o => free_of h o⟩
/-- Segments, one beside the other. -/
def SegsAre (v id gen : Nat) : List SegM → List Nat → World → Foot → Prop
  | [], ps, _, G => ps = [] ∧ ∀ i, ¬ G i
  | S :: r, ps, w, G => ∃ (s : Nat) (ps' : List Nat) (G1 G2 : Foot), ps = s :: ps' ∧ SegIs s v S.n (S.hdr id gen) S.fs S.e S.sealed w G1 ∧ SegsAre v id gen r ps' w G2 ∧ Apart G1 G2 ∧ ∀ i, G i ↔ G1 i ∨ G2 i
set_option linter.unusedVariables false in
theorem SegsAre.length {v id gen : Nat} : ∀ {l : List SegM} {ps : List Nat} {w : World} {G : Foot}, SegsAre v id gen l ps w G → ps.length = l.length
  | [], _, _, _, h => by rw [h.1]; rfl
  | S :: r, _, _, _, ⟨s, ps', G1, G2, rfl, _, h2, _⟩ => by rw [List.length_cons, List.length_cons, SegsAre.length h2]
set_option linter.unusedVariables false in
theorem SegsAre.there {v id gen : Nat} : ∀ {l : List SegM} {ps : List Nat}, There (SegsAre v id gen l ps)
  | [], _, _, _, h => fun i hi => absurd hi (h.2 i)
  | S :: r, _, w, G, ⟨s, ps', G1, G2, rfl, h1, h2, _, hG⟩ => fun i hi => ((hG i).1 hi).elim (SegIs.there h1 i) (SegsAre.there h2 i)
set_option linter.unusedVariables false in
theorem SegsAre.stays {v id gen : Nat} : ∀ {l : List SegM} {ps : List Nat}, Stays (SegsAre v id gen l ps)
  | [], _, _, _, _, _, h => fun _ _ => h
  | S :: r, _, w, w', U, G, ⟨s, ps', G1, G2, rfl, h1, h2, h3, hG⟩ => fun hU hn =>
    ⟨s, ps', G1, G2, rfl, SegIs.stays h1 hU (fun i hi => hn i ((hG i).2 (.inl hi))), SegsAre.stays h2 hU (fun i hi => hn i ((hG i).2 (.inr hi))), h3, hG⟩
theorem SegsAre.nil (v id gen : Nat) (w : World) : SegsAre v id gen [] [] w (fun _ => False) := ⟨rfl, fun _ h => h⟩
set_option linter.unusedVariables false in
theorem SegsAre.congr {v id gen : Nat} {w : World} : ∀ {l : List SegM} {ps : List Nat} {G G' : Foot}, SegsAre v id gen l ps w G → (∀ i, G' i ↔ G i) → SegsAre v id gen l ps w G'
  | [], _, _, _, h, e => ⟨h.1, fun i hi => h.2 i ((e i).1 hi)⟩
  | S :: r, _, _, _, ⟨s, ps', G1, G2, h0, h1, h2, h3, hG⟩, e => ⟨s, ps', G1, G2, h0, h1, h2, h3, fun i => (e i).trans (hG i)⟩
set_option linter.unusedVariables false in
theorem SegsAre.snoc {v id gen : Nat} {w : World} {s : Nat} {S : SegM} {G1 : Foot} (h1 : SegIs s v S.n (S.hdr id gen) S.fs S.e S.sealed w G1) : ∀ {l : List SegM} {ps : List Nat} {G : Foot}, SegsAre v id gen l ps w G → Apart G G1 → SegsAre v id gen (l ++ [S]) (ps ++ [s]) w (Both G G1)
  | [], _, _, h, ha => by
    obtain ⟨rfl, hG⟩ := h
    exact ⟨s, [], G1, fun _ => False, rfl, h1, SegsAre.nil _ _ _ _, fun _ _ h => h, fun i => ⟨fun h => h.elim (fun h => absurd h (hG i)) .inl, fun h => h.elim .inr (fun h => h.elim)⟩⟩
  | S' :: r, _, G, ⟨s', ps', A, B, rfl, a1, a2, a3, hG⟩, ha => by
    refine ⟨s', ps' ++ [s], A, Both B G1, rfl, a1, SegsAre.snoc h1 a2 (fun i hi hc => ha i ((hG i).2 (.inr hi)) hc), fun i hi hc => hc.elim (a3 i hi) (ha i ((hG i).2 (.inl hi))), fun i => ?_⟩
    exact ⟨fun h => h.elim (fun h => ((hG i).1 h).elim .inl (fun h => .inr (.inl h))) (fun h => .inr (.inr h)), fun h => h.elim (fun h => .inl ((hG i).2 (.inl h))) (fun h => h.elim (fun h => .inl ((hG i).2 (.inr h))) .inr)⟩
set_option linter.unusedVariables false in
theorem SegsAre.last {v id gen : Nat} {w : World} {S : SegM} : ∀ {l : List SegM} {ps : List Nat} {G : Foot}, SegsAre v id gen (l ++ [S]) ps w G → ∃ (ps' : List Nat) (s : Nat) (G0 G1 : Foot), ps = ps' ++ [s] ∧ SegsAre v id gen l ps' w G0 ∧ SegIs s v S.n (S.hdr id gen) S.fs S.e S.sealed w G1 ∧ Apart G0 G1 ∧ ∀ i, G i ↔ G0 i ∨ G1 i
  | [], _, G, ⟨s, ps', A, B, h0, a1, ⟨h9, a2⟩, a3, hG⟩ => ⟨[], s, fun _ => False, A, by rw [h0, h9]; rfl, SegsAre.nil _ _ _ _, a1, fun _ h => h.elim, fun i => ⟨fun h => ((hG i).1 h).elim .inr (fun h => absurd h (a2 i)), fun h => h.elim (fun h => h.elim) (fun h => (hG i).2 (.inl h))⟩⟩
  | S' :: r, _, G, ⟨s', ps', A, B, rfl, a1, a2, a3, hG⟩ => by
    obtain ⟨qs, s, B0, B1, rfl, b1, b2, b3, hB⟩ := SegsAre.last a2
    refine ⟨s' :: qs, s, Both A B0, B1, rfl, ⟨s', qs, A, B0, rfl, a1, b1, fun i hi hc => a3 i hi ((hB i).2 (.inl hc)), fun i => Iff.rfl⟩, b2, fun i hi hc => hi.elim (fun h => a3 i h ((hB i).2 (.inr hc))) (fun h => b3 i h hc), fun i => ?_⟩
    rw [hG i, hB i]
    exact ⟨fun h => h.elim (fun h => .inl (.inl h)) (fun h => h.elim (fun h => .inl (.inr h)) .inr), fun h => h.elim (fun h => h.elim .inl (fun h => .inr (.inl h))) (fun h => .inr (.inr h))⟩
set_option linter.unusedVariables false in
theorem SegsAre.at_ {v id gen : Nat} {w : World} : ∀ {l : List SegM} {ps : List Nat} {G : Foot}, SegsAre v id gen l ps w G → ∀ (j : Nat) (hj : j < l.length), ∃ (hp : j < ps.length) (G1 : Foot), SegIs ps[j] v l[j].n (l[j].hdr id gen) l[j].fs l[j].e l[j].sealed w G1 ∧ ∀ i, G1 i → G i
  | [], _, _, _, j, hj => absurd hj (by simp)
  | S :: r, _, G, ⟨s, ps', A, B, rfl, a1, a2, a3, hG⟩, 0, _ => ⟨by simp, A, a1, fun i hi => (hG i).2 (.inl hi)⟩
  | S :: r, _, G, ⟨s, ps', A, B, rfl, a1, a2, a3, hG⟩, j + 1, hj => by
    obtain ⟨hp, G1, h1, h2⟩ := SegsAre.at_ a2 j (by simpa using hj)
    exact ⟨by simpa using hp, G1, by simpa using h1, fun i hi => (hG i).2 (.inr (h2 i hi))⟩
/-- A log as an object. -/
def LogIs (g v p : Nat) (L : LogM) (w : World) (G : Foot) : Prop :=
  ∃ (sv : Value) (ps : List Nat) (Gs : Foot), w.heap[g]? = some (logObj v p L.id L.gen L.base L.next sv) ∧ OffRow w 83 sv ps.length (ps.map ptrV) ∧ SegsAre v L.id L.gen L.segs ps w Gs ∧ sv.ownBlock ≠ some g ∧ ¬ Gs g ∧ (∀ i, sv.ownBlock = some i → ¬ Gs i) ∧ ∀ i, G i ↔ i = g ∨ sv.ownBlock = some i ∨ Gs i
theorem LogIs.there {g v p : Nat} {L : LogM} : There (LogIs g v p L) := by
  rintro w G ⟨sv, ps, Gs, h1, h2, h3, h4, h5, h6, hG⟩ i hi
  rcases (hG i).1 hi with rfl | h | h
  · exact lt_of h1
  · exact h2.lt _ h
  · exact SegsAre.there h3 i h
theorem LogIs.stays {g v p : Nat} {L : LogM} : Stays (LogIs g v p L) := by
  rintro w w' S G ⟨sv, ps, Gs, h1, h2, h3, h4, h5, h6, hG⟩ hU hn
  exact ⟨sv, ps, Gs, hU.at_ h1 (hn g ((hG g).2 (.inl rfl))), h2.keep hU (fun i hi => hn i ((hG i).2 (.inr (.inl hi)))), SegsAre.stays h3 hU (fun i hi => hn i ((hG i).2 (.inr (.inr hi)))), h4, h5, h6, hG⟩
/-- A log whose numbers alone are others. -/
theorem LogIs.nums {g v p : Nat} {L : LogM} {w w' : World} {G : Foot} (h : LogIs g v p L w G) (base next : Nat) (hU : Upd (fun k => k = g) w w') (hg : ∀ sv, w.heap[g]? = some (logObj v p L.id L.gen L.base L.next sv) → w'.heap[g]? = some (logObj v p L.id L.gen base next sv)) :
    LogIs g v p ⟨L.id, L.gen, base, next, L.segs⟩ w' G ∧ Upd G w w' := by
  obtain ⟨sv, ps, Gs, h1, h2, h3, h4, h5, h6, hG⟩ := h
  refine ⟨⟨sv, ps, Gs, hg sv h1, h2.keep hU (fun i hi e => h4 (by rw [hi, e])), SegsAre.stays h3 hU (fun i hi e => h5 (e ▸ hi)), h4, h5, h6, hG⟩, hU.mono (fun k _ e => (hG k).2 (.inl e))⟩
theorem LogIs.obj {g v p : Nat} {L : LogM} {w : World} {G : Foot} (h : LogIs g v p L w G) : ∃ sv, w.heap[g]? = some (logObj v p L.id L.gen L.base L.next sv) := by
  obtain ⟨sv, ps, Gs, h1, _⟩ := h
  exact ⟨sv, h1⟩
/-- The log, seen from its last segment. -/
theorem LogIs.top {g v p : Nat} {L : LogM} {w : World} {G : Foot} (h : LogIs g v p L w G) {l0 : List SegM} {S : SegM} (hl : L.segs = l0 ++ [S]) :
    ∃ (s : Nat) (G1 : Foot) (sv : Value) (ps : List Nat), w.heap[g]? = some (logObj v p L.id L.gen L.base L.next sv) ∧ OffRow w 83 sv (l0.length + 1) (ps.map ptrV ++ [ptrV s]) ∧ ps.length = l0.length ∧ SegIs s v S.n (S.hdr L.id L.gen) S.fs S.e S.sealed w G1 ∧ (∀ i, G1 i → G i) ∧
      ∀ (w' : World) (S' : SegM) (G1' U : Foot), SegIs s v S'.n (S'.hdr L.id L.gen) S'.fs S'.e S'.sealed w' G1' → Upd U w w' → (∀ i, G i → ¬ G1 i → ¬ U i) → Fresh w G1 G1' → LogIs g v p ⟨L.id, L.gen, L.base, L.next, l0 ++ [S']⟩ w' (fun i => (G i ∧ ¬ G1 i) ∨ G1' i) := by
  have ht := LogIs.there h
  obtain ⟨sv, ps, Gs, h1, h2, h3, h4, h5, h6, hG⟩ := h
  rw [hl] at h3
  obtain ⟨ps', s, G0, G1, rfl, b1, b2, b3, hb⟩ := SegsAre.last h3
  have hpl := b1.length
  have h2' := h2
  rw [List.length_append, List.map_append, hpl] at h2'
  refine ⟨s, G1, sv, ps', h1, h2', hpl, b2, fun i hi => (hG i).2 (.inr (.inr ((hb i).2 (.inr hi)))), fun w' S' G1' U hS hU hn hF => ?_⟩
  have hgn : ¬ G1 g := fun hc => h5 ((hb g).2 (.inr hc))
  have hsn : ∀ i, sv.ownBlock = some i → ¬ G1 i := fun i hi hc => h6 i hi ((hb i).2 (.inr hc))
  have hgG : G g := (hG g).2 (.inl rfl)
  have hsG : ∀ i, sv.ownBlock = some i → G i := fun i hi => (hG i).2 (.inr (.inl hi))
  have h0G : ∀ i, G0 i → G i := fun i hi => (hG i).2 (.inr (.inr ((hb i).2 (.inl hi))))
  have c1 := SegsAre.stays b1 hU (fun i hi => hn i (h0G i hi) (b3 i hi))
  have ha : ∀ i, G i → ¬ G1 i → ¬ G1' i := fun i hi hni hc => (hF i hc).elim hni (fun hh => by have := ht i hi; omega)
  refine ⟨sv, ps' ++ [s], Both G0 G1', hU.at_ h1 (hn g hgG hgn), h2.keep hU (fun i hi => hn i (hsG i hi) (hsn i hi)), SegsAre.snoc hS c1 (fun i hi => ha i (h0G i hi) (b3 i hi)), h4, fun hc => hc.elim (fun hc => h5 ((hb g).2 (.inl hc))) (ha g hgG hgn), fun i hi hc => hc.elim (fun hc => h6 i hi ((hb i).2 (.inl hc))) (ha i (hsG i hi) (hsn i hi)), fun i => ?_⟩
  constructor
  · rintro (⟨hi, hni⟩ | hi)
    · rcases (hG i).1 hi with rfl | h | h
      · exact .inl rfl
      · exact .inr (.inl h)
      · rcases (hb i).1 h with h | h
        · exact .inr (.inr (.inl h))
        · exact absurd h hni
    · exact .inr (.inr (.inr hi))
  · rintro (rfl | h | h | h)
    · exact .inl ⟨hgG, hgn⟩
    · exact .inl ⟨hsG i h, hsn i h⟩
    · exact .inl ⟨h0G i h, b3 i h⟩
    · exact .inr h
theorem LogIs.row {g v p : Nat} {L : LogM} {w : World} {G : Foot} (h : LogIs g v p L w G) : ∃ (sv : Value) (ps : List Nat) (hp : ps.length = L.segs.length), w.heap[g]? = some (logObj v p L.id L.gen L.base L.next sv) ∧ OffRow w 83 sv L.segs.length (ps.map ptrV) ∧ ∀ (j : Nat) (hj : j < L.segs.length), ∃ G1 : Foot, SegIs (ps[j]'(by omega)) v L.segs[j].n (L.segs[j].hdr L.id L.gen) L.segs[j].fs L.segs[j].e L.segs[j].sealed w G1 ∧ ∀ i, G1 i → G i := by
  obtain ⟨sv, ps, Gs, h1, h2, h3, h4, h5, h6, hG⟩ := h
  have hpl := h3.length
  refine ⟨sv, ps, hpl, h1, by rw [← hpl]; exact h2, fun j hj => ?_⟩
  obtain ⟨hp, G1, a1, a2⟩ := h3.at_ j hj
  exact ⟨G1, a1, fun i hi => (hG i).2 (.inr (.inr (a2 i hi)))⟩
end Go.Proofs.YtoobiffhjjfpgaaGreat.Print

namespace Go.Proofs.YtoobiffhjjfpgaaGreat.Print
open Go.RowKit
attribute [local go_sem] run_loadVar_scalar

set_option maxRecDepth 100000 in
set_option maxHeartbeats 400000 in
theorem lognew_nil (v : Value) (id gen base : Int) (hv : v = .pointer none) (w : World) : Calls Tryz.prog 43 #[v, .pointer none, .int .i64 id, .int .u32 gen, .int .i64 base] w fun x w' => x = .returned (.tuple #[.pointer none, .int .i64 7]) ∧ w = w' := by
  subst hv
  go_enter Tryz.func43, Tryz.ntmps43
  go_wp2
  exact bodyPost_ret (v := .tuple #[.pointer none, .int .i64 7]) (by simp [results, Tryz.results43, go_sem]) rfl ⟨rfl, rfl⟩
/-- A 2^40. -/
def big40 : Int := 1099511627776
theorem big40_eq : big40 = 1099511627776 := rfl
set_option maxRecDepth 100000 in
set_option maxHeartbeats 400000 in
theorem lognew_arg (v p : Nat) (id gen base : Int) (h : id < 1 ∨ 65535 < id ∨ base < 0 ∨ 1099511627776 < base) (w : World) : Calls Tryz.prog 43 #[.pointer (some ⟨v, 0, none⟩), .pointer (some ⟨p, 0, none⟩), .int .i64 id, .int .u32 gen, .int .i64 base] w fun x w' => x = .returned (.tuple #[.pointer none, .int .i64 1]) ∧ w = w' := by
  have HH := Lib.hid h
  clear h
  by_cases h1 : id < 1
  · have k1 : decide (id < 1) = true := decide_eq_true h1
    clear h1
    go_enter Tryz.func43, Tryz.ntmps43
    go_wp2
    exact bodyPost_ret (v := .tuple #[.pointer none, .int .i64 1]) (by simp [results, Tryz.results43, go_sem]) rfl ⟨rfl, rfl⟩
  have k1 : decide (id < 1) = false := decide_eq_false h1
  by_cases h2 : 65535 < id
  · have k2 : decide (65535 < id) = true := decide_eq_true h2
    clear h1 h2
    go_enter Tryz.func43, Tryz.ntmps43
    go_wp2
    exact bodyPost_ret (v := .tuple #[.pointer none, .int .i64 1]) (by simp [results, Tryz.results43, go_sem]) rfl ⟨rfl, rfl⟩
  have k2 : decide (65535 < id) = false := decide_eq_false h2
  by_cases h3 : base < 0
  · have k3 : decide (base < 0) = true := decide_eq_true h3
    clear h1 h2 h3
    go_enter Tryz.func43, Tryz.ntmps43
    go_wp2
    exact bodyPost_ret (v := .tuple #[.pointer none, .int .i64 1]) (by simp [results, Tryz.results43, go_sem]) rfl ⟨rfl, rfl⟩
  have k3 : decide (base < 0) = false := decide_eq_false h3
  have k4 : decide (1099511627776 < base) = true := decide_eq_true (by have := HH.out; omega)
  clear h1 h2 h3
  go_enter Tryz.func43, Tryz.ntmps43
  go_wp2
  exact bodyPost_ret (v := .tuple #[.pointer none, .int .i64 1]) (by simp [results, Tryz.results43, go_sem]) rfl ⟨rfl, rfl⟩
def newLog (id gen base : Nat) : LogM := ⟨id, gen, base, base, []⟩
set_option maxRecDepth 100000 in
set_option maxHeartbeats 400000 in
theorem lognew_ok (v p id gen base : Nat) (h1 : 1 ≤ id) (h2 : id ≤ 65535) (h3 : base ≤ 1099511627776) (w : World) (a b c : Int) (ha : a = id) (hb : b = gen) (hc : c = base) : Calls Tryz.prog 43 #[.pointer (some ⟨v, 0, none⟩), .pointer (some ⟨p, 0, none⟩), .int .i64 a, .int .u32 b, .int .i64 c] w fun x w' =>
    x = .returned (.tuple #[.pointer (some ⟨w.heap.size, 0, none⟩), .int .i64 0]) ∧ LogIs w.heap.size v p (newLog id gen base) w' (fun i => i = w.heap.size) ∧ Below w.heap.size w w' ∧ w'.heap.size = w.heap.size + 1 := by
  subst ha hb hc
  have k1 : decide ((id : Int) < 1) = false := decide_eq_false (by omega)
  have k2 : decide (65535 < (id : Int)) = false := decide_eq_false (by omega)
  have k3 : decide ((base : Int) < 0) = false := decide_eq_false (by omega)
  have k4 : decide (1099511627776 < (base : Int)) = false := decide_eq_false (by omega)
  clear h1 h2 h3
  go_enter Tryz.func43, Tryz.ntmps43
  go_wp2
  refine bodyPost_ret (v := .tuple #[.pointer (some ⟨w.heap.size, 0, none⟩), .int .i64 0]) (by simp [results, Tryz.results43, go_sem]) rfl ⟨rfl, ⟨.slice none 0 0, [], fun _ => False, alloc_at _ _, OffRow.nil _ _, SegsAre.nil _ _ _ _, by simp [Value.ownBlock], fun h => h, fun _ h => by simp [Value.ownBlock] at h, fun i => by simp [Value.ownBlock]⟩, (Below.refl _ _).alloc (Nat.le_refl _) _, by simp⟩
theorem lbase_nil (w : World) : Calls Tryz.prog 46 #[.pointer none] w fun x w' => x = .returned (.int .i64 0) ∧ w = w' := by
  go_enter Tryz.func46, Tryz.ntmps46
  go_wp2
  go_ret
  exact ⟨rfl, rfl⟩
theorem lnext_nil (w : World) : Calls Tryz.prog 45 #[.pointer none] w fun x w' => x = .returned (.int .i64 0) ∧ w = w' := by
  go_enter Tryz.func45, Tryz.ntmps45
  go_wp2
  go_ret
  exact ⟨rfl, rfl⟩
theorem lid_nil (w : World) : Calls Tryz.prog 56 #[.pointer none] w fun x w' => x = .returned (.int .i64 0) ∧ w = w' := by
  go_enter Tryz.func56, Tryz.ntmps56
  go_wp2
  go_ret
  exact ⟨rfl, rfl⟩
theorem lgen_nil (w : World) : Calls Tryz.prog 57 #[.pointer none] w fun x w' => x = .returned (.int .u32 0) ∧ w = w' := by
  go_enter Tryz.func57, Tryz.ntmps57
  go_wp2
  go_ret
  exact ⟨rfl, rfl⟩
theorem lbase_any {g v p : Nat} {L : LogM} {w : World} {G : Foot} (h : LogIs g v p L w G) : Calls Tryz.prog 46 #[.pointer (some ⟨g, 0, none⟩)] w fun x w' => x = .returned (.int .i64 L.base) ∧ w = w' := by
  obtain ⟨sv, hs⟩ := h.obj
  obtain ⟨c0, c1, c2, c3, c4, c5, c6, cf⟩ := seven_of hs
  clear h hs
  go_enter Tryz.func46, Tryz.ntmps46
  go_wp2
  go_ret
  exact ⟨rfl, rfl⟩
theorem lnext_any {g v p : Nat} {L : LogM} {w : World} {G : Foot} (h : LogIs g v p L w G) : Calls Tryz.prog 45 #[.pointer (some ⟨g, 0, none⟩)] w fun x w' => x = .returned (.int .i64 L.next) ∧ w = w' := by
  obtain ⟨sv, hs⟩ := h.obj
  obtain ⟨c0, c1, c2, c3, c4, c5, c6, cf⟩ := seven_of hs
  clear h hs
  go_enter Tryz.func45, Tryz.ntmps45
  go_wp2
  go_ret
  exact ⟨rfl, rfl⟩
theorem lid_any {g v p : Nat} {L : LogM} {w : World} {G : Foot} (h : LogIs g v p L w G) : Calls Tryz.prog 56 #[.pointer (some ⟨g, 0, none⟩)] w fun x w' => x = .returned (.int .i64 L.id) ∧ w = w' := by
  obtain ⟨sv, hs⟩ := h.obj
  obtain ⟨c0, c1, c2, c3, c4, c5, c6, cf⟩ := seven_of hs
  clear h hs
  go_enter Tryz.func56, Tryz.ntmps56
  go_wp2
  go_ret
  exact ⟨rfl, rfl⟩
theorem lgen_any {g v p : Nat} {L : LogM} {w : World} {G : Foot} (h : LogIs g v p L w G) : Calls Tryz.prog 57 #[.pointer (some ⟨g, 0, none⟩)] w fun x w' => x = .returned (.int .u32 L.gen) ∧ w = w' := by
  obtain ⟨sv, hs⟩ := h.obj
  obtain ⟨c0, c1, c2, c3, c4, c5, c6, cf⟩ := seven_of hs
  clear h hs
  go_enter Tryz.func57, Tryz.ntmps57
  go_wp2
  go_ret
  exact ⟨rfl, rfl⟩
/-- put: one more. -/
theorem put_log {g v p : Nat} {L : LogM} {w : World} {G : Foot} (h : LogIs g v p L w G) (hn : L.next ≤ 1099511627776) : Calls Tryz.prog 78 #[.pointer (some ⟨g, 0, none⟩)] w fun x w' => x = .returned (.int .i64 L.next) ∧ LogIs g v p ⟨L.id, L.gen, L.base, L.next + 1, L.segs⟩ w' G ∧ Upd G w w' := by
  obtain ⟨sv, hs⟩ := h.obj
  obtain ⟨c0, c1, c2, c3, c4, c5, c6, cf⟩ := seven_of hs
  have hU : Upd (fun k => k = g) w (w.setCell ⟨g, 5, none⟩ (.int .i64 ((L.next : Int) + 1))) := (Upd.refl (fun k => k = g) w).setCell (p := ⟨g, 5, none⟩) (fun _ => rfl) _
  have hnx : ((L.next + 1 : Nat) : Int) = (L.next : Int) + 1 := by omega
  have HN := Lib.hid (h.nums L.base (L.next + 1) hU (fun sv' hs' => by rw [cells_set _ _ _ _ _ _ hs', ← hnx]; rfl))
  have k1 : IntKind.i64.wrap ((L.next : Int) + 1) = (L.next : Int) + 1 := by rw [IntKind.wrap_i64]; omega
  have k2 : wrap64 (L.next : Int) = (L.next : Int) := by unfold wrap64; omega
  clear h hs hU hnx hn
  go_enter Tryz.func78, Tryz.ntmps78
  go_wp2
  go_ret
  exact ⟨by show Ending.returned (.int .i64 (wrap64 (L.next : Int))) = _; rw [k2], HN.out⟩
set_option maxRecDepth 100000 in
set_option maxHeartbeats 800000 in
/-- last: the last segment. -/
theorem last_top {g v p id gen base next m s n e : Nat} {h : H4} {fs : List Fr} {sealed : Bool} {sv : Value} {xs : List Value} {w : World} {G1 : Foot} (hobj : w.heap[g]? = some (logObj v p id gen base next sv)) (hrow : OffRow w 83 sv (m + 1) (xs ++ [ptrV s])) (hx : xs.length = m) (hm : m ≤ 100000) (hS : SegIs s v n h fs e sealed w G1) :
    Calls Tryz.prog 76 #[.pointer (some ⟨g, 0, none⟩)] w fun x w' => x = .returned (if sealed then .pointer none else ptrV s) ∧ Below w.heap.size w w' := by
  obtain ⟨b, o, cap, hv, hc, hcap⟩ := hrow.at_ m (by omega)
  subst hv
  have hcs : w.cell? ⟨b, o + m, none⟩ = some (ptrV s) := by
    rw [hc, List.getElem_append_right (by omega)]
    simp
  obtain ⟨c0, c1, c2, c3, c4, c5, c6, cf⟩ := seven_of hobj
  have KS := Lib.hid (fun k => sealed_any (SegIs.stays.below hS (below_drewN (Below.refl w.heap.size w) k)))
  obtain ⟨q, hq⟩ : ∃ q, m + 1 = q := ⟨_, rfl⟩
  rw [hq] at c6
  have k1 : ((q : Int) == 0) = false := by simp; omega
  have k2 : IntKind.i64.wrap ((q : Int) - 1) = (m : Int) := by rw [IntKind.wrap_i64]; omega
  have k3 : (m : Int) < (q : Int) := by omega
  have k4 : (0 : Int) ≤ (m : Int) := by omega
  clear hrow hobj hc hS hx hq hm hcap
  go_enter Tryz.func76, Tryz.ntmps76
  go_wp2_with fail
  go_quiet ((go_at_call 111; exact quiet_eq (KS.out _)))
  cases sealed
  · go_wp2_with fail
    go_quiet (fail)
    go_wp2
    go_ret
    exact ⟨rfl, below_drewN (Below.refl _ _) _⟩
  · go_wp2
    go_ret
    exact ⟨rfl, below_drewN (Below.refl _ _) _⟩
set_option maxRecDepth 100000 in
set_option maxHeartbeats 800000 in
theorem last_empty {g v p id gen base next : Nat} {sv : Value} {w : World} (hobj : w.heap[g]? = some (logObj v p id gen base next sv)) (hrow : OffRow w 83 sv 0 []) :
    Calls Tryz.prog 76 #[.pointer (some ⟨g, 0, none⟩)] w fun x w' => x = .returned (.pointer none) ∧ Below w.heap.size w w' := by
  obtain ⟨ao, ac, rfl⟩ := hrow.slice
  obtain ⟨c0, c1, c2, c3, c4, c5, c6, cf⟩ := seven_of hobj
  clear hobj hrow
  go_enter Tryz.func76, Tryz.ntmps76
  go_wp2_with fail
  go_quiet (fail)
  go_wp2
  go_ret
  exact ⟨rfl, below_drewN (Below.refl _ _) _⟩
end Go.Proofs.YtoobiffhjjfpgaaGreat.Print

namespace Go.Proofs.YtoobiffhjjfpgaaGreat.Print
open Go

section
variable {P : Program} {Q : Exit → Act → World → Prop} {md : Region.Mode}

theorem wpAny_more {ops : Array Oper} : ∀ (f k : Nat) (listed : Array Bool) (a : Act) (w : World), wpAny P md ops Q f listed a w → wpAny P md ops Q (f + k) listed a w
  | 0, 0, _, _, _, h => h
  | 0, k + 1, listed, a, w, h => by
    rw [Nat.zero_add]
    exact ⟨fun _ => h.2, fun i hi => by rw [h.1] at hi; cases hi⟩
  | f + 1, k, listed, a, w, h => by
    rw [show f + 1 + k = (f + k) + 1 by omega]
    exact ⟨h.1, fun i hi => wpOp_mono (fun a' w' h' => wpAny_more f k _ a' w' h') (h.2 i hi)⟩
/-- What the first ones leave: the others are to come. -/
def splitQ (P : Program) (md : Region.Mode) (ops : Array Oper) (m : Nat) (listed : Array Bool) (Q : Exit → Act → World → Prop) : Exit → Act → World → Prop
  | .normal, a, w => wpAny P md ops Q m listed a w
  | e, a, w => Q e a w
def splitB (md : Region.Mode) (ops : Array Oper) (n : Nat) : Bool :=
  decide (n < ops.size) && Region.sinkB md ops n &&
  ((List.range n).all fun j => match ops[j]? with
    | some o => o.guard.isNone && o.after.all (fun e => decide (e.on < j))
    | none => false) &&
  ((List.range ops.size).all fun t => decide (t ≤ n) || (List.range t).any fun j => decide (n ≤ j) && Region.waitsFor md ops t j)
structure SplitIs (md : Region.Mode) (ops opsP : Array Oper) (n : Nat) : Prop where
  size : n < ops.size
  same : ∀ j, j < n → opsP[j]? = ops[j]?
  psize : opsP.size = n
  free : ∀ (j : Nat) (o : Oper), j < n → ops[j]? = some o → o.guard = none
  back : ∀ (j : Nat) (o : Oper), j < n → ops[j]? = some o → ∀ e ∈ o.after, e.on < j
  sink : ∀ i, i < n → ∃ j, i < j ∧ j ≤ n ∧ Region.waitsFor md ops j i = true
  chain : ∀ t, n < t → t < ops.size → ∃ j, n ≤ j ∧ j < t ∧ Region.waitsFor md ops t j = true
theorem split_is {l : List Oper} {n : Nat} (h : splitB md l.toArray n = true) : SplitIs md l.toArray (l.take n).toArray n := by
  simp only [splitB, Bool.and_eq_true, decide_eq_true_eq] at h
  obtain ⟨⟨⟨h1, h2⟩, h3⟩, h4⟩ := h
  have hl : n < l.length := by simpa using h1
  have hg : ∀ (j : Nat) (o : Oper), j < n → l.toArray[j]? = some o → o.guard.isNone = true ∧ o.after.all (fun e => decide (e.on < j)) = true := by
    intro j o hjn hj
    have := List.all_eq_true.1 h3 j (List.mem_range.2 hjn)
    rw [hj] at this
    simpa using this
  refine ⟨h1, fun j hj => by simp [hj], by simp; omega, fun j o hjn hj => by simpa using (hg j o hjn hj).1, fun j o hjn hj e he => by
    have := Array.all_eq_true'.1 (hg j o hjn hj).2 e he
    simpa using this, fun i hi => ?_, fun t ht hts => ?_⟩
  · have := List.all_eq_true.1 h2 i (List.mem_range.2 hi)
    obtain ⟨j, hj, hj2⟩ := List.any_eq_true.1 this
    simp only [Bool.and_eq_true, decide_eq_true_eq] at hj2
    exact ⟨j, hj2.1, by have := List.mem_range.1 hj; omega, hj2.2⟩
  · have := List.all_eq_true.1 h4 t (List.mem_range.2 hts)
    rw [Bool.or_eq_true] at this
    rcases this with h | h
    · have := of_decide_eq_true h; omega
    · obtain ⟨j, hj, hj2⟩ := List.any_eq_true.1 h
      simp only [Bool.and_eq_true, decide_eq_true_eq] at hj2
      exact ⟨j, hj2.1, List.mem_range.1 hj, hj2.2⟩
/-- What is listed has all that it waits for listed. -/
def ClosedS (md : Region.Mode) (ops : Array Oper) (listed : Array Bool) : Prop := ∀ (j : Nat) (o : Oper), ops[j]? = some o → listed.getD j false = true → ∀ e ∈ o.after, Region.binds md e = true → listed.getD e.on false = true
theorem ClosedS.set {ops : Array Oper} {listed : Array Bool} (h : ClosedS md ops listed) {i : Nat} (hi : i ∈ Region.ready md ops listed) : ClosedS md ops (listed.setIfInBounds i true) := by
  obtain ⟨_, oi, hoi, hall⟩ := mem_ready.1 hi
  intro j oj hj hl e he hb
  by_cases hij : i = j
  · subst hij
    have : oj = oi := Option.some.inj (hj.symm.trans hoi)
    subst this
    exact getD_set_true (hall e he hb)
  · rw [getD_set_ne false hij] at hl
    exact getD_set_true (h j oj hj hl e he hb)
theorem split_all {ops opsP : Array Oper} {n : Nat} (hp : SplitIs md ops opsP n) {listed : Array Bool} (hl : listed.size = n) (h : Region.ready md opsP listed = []) : ∀ j, j < n → listed.getD j false = true := by
  intro j
  induction j using Nat.strongRecOn with
  | _ j ih =>
    intro hj
    cases hc : listed.getD j false with
    | true => rfl
    | false =>
      exfalso
      have hu : listed.getD j true = false := getD_in (by omega) hc
      have hjs : j < opsP.size := by rw [hp.psize]; exact hj
      have hr : j ∈ Region.ready md opsP listed := mem_ready.2 ⟨hu, opsP[j], Array.getElem?_eq_getElem hjs, fun e he hb => by
        have hlt := hp.back j opsP[j] hj (by rw [← hp.same j hj]; exact Array.getElem?_eq_getElem hjs) e he
        exact ih e.on hlt (by omega)⟩
      rw [h] at hr
      cases hr
theorem getD_app {listed : Array Bool} {n : Nat} (hl : listed.size = n) (t : Array Bool) (d : Bool) (j : Nat) (hj : j < n) : (listed ++ t).getD j d = listed.getD j d := by
  have h1 : j < listed.size := by omega
  have h2 : j < (listed ++ t).size := by simp; omega
  simp only [Array.getD, h1, h2, dif_pos]
  exact Array.getElem_append_left h1
theorem getD_app_tail {listed : Array Bool} {n m : Nat} (hl : listed.size = n) (j : Nat) (hj : n ≤ j) : (listed ++ Array.replicate m false).getD j false = false := by
  simp only [Array.getD]
  split
  · rename_i h
    show (listed ++ Array.replicate m false)[j] = false
    rw [Array.getElem_append_right (by omega)]
    simp
  · rfl
theorem set_app {listed : Array Bool} {n : Nat} (hl : listed.size = n) (t : Array Bool) (i : Nat) (hi : i < n) : (listed ++ t).setIfInBounds i true = listed.setIfInBounds i true ++ t := by
  rw [Array.setIfInBounds_append_left (by omega)]
theorem all_true {listed : Array Bool} {n : Nat} (hl : listed.size = n) (h : ∀ j, j < n → listed.getD j false = true) : listed = Array.replicate n true := by
  apply Array.ext
  · simp [hl]
  · intro i h1 h2
    have := h i (by omega)
    simp [Array.getD, h1] at this
    simp [this]
/-- As long as one of the first is to come, none of the others may. -/
theorem split_head {ops opsP : Array Oper} {n m : Nat} (hp : SplitIs md ops opsP n) {listed : Array Bool} (hl : listed.size = n) (hcl : ClosedS md opsP listed) {k : Nat} (hk : k < n) (hku : listed.getD k false = false) :
    ∀ i, i ∈ Region.ready md ops (listed ++ Array.replicate m false) → i < n ∧ i ∈ Region.ready md opsP listed := by
  intro i hi
  obtain ⟨hu, o, ho, hall⟩ := mem_ready.1 hi
  rcases Nat.lt_or_ge i n with hlt | hge
  · refine ⟨hlt, mem_ready.2 ⟨by rw [getD_app hl _ _ _ hlt] at hu; exact hu, o, by rw [hp.same i hlt]; exact ho, fun e he hb => ?_⟩⟩
    have h1 := hall e he hb
    have hb2 := hp.back i o hlt ho e he
    rwa [getD_app hl _ _ _ (by omega)] at h1
  · exfalso
    by_cases hin : i = n
    · subst hin
      have hall2 : ∀ d j, i - j = d → j < i → listed.getD j false = true := by
        intro d
        induction d using Nat.strongRecOn with
        | _ d ih =>
          intro j hd hj
          obtain ⟨q, hq1, hq2, hq3⟩ := hp.sink j hj
          obtain ⟨oq, hoq, e, he, hb, hon⟩ := Region.waitsFor_spec hq3
          by_cases hqi : q = i
          · subst hqi
            have : oq = o := Option.some.inj (hoq.symm.trans ho)
            subst this
            have h1 := hall e he hb
            rwa [hon, getD_app hl _ _ _ hj] at h1
          · have hlq := ih (i - q) (by omega) q rfl (by omega)
            have := hcl q oq (by rw [hp.same q (by omega)]; exact hoq) hlq e he hb
            rwa [hon] at this
      rw [hall2 _ k rfl hk] at hku
      cases hku
    · have hts : i < ops.size := (Array.getElem?_eq_some_iff.1 ho).1
      obtain ⟨j, hj1, hj2, hj3⟩ := hp.chain i (by omega) hts
      obtain ⟨o', ho', e, he, hb, hon⟩ := Region.waitsFor_spec hj3
      have : o' = o := Option.some.inj (ho'.symm.trans ho)
      subst this
      have h1 := hall e he hb
      rw [hon, getD_app_tail hl _ hj1] at h1
      cases h1
theorem wpOp_split {ops opsP : Array Oper} {n m : Nat} {t : Array Bool} (hp : SplitIs md ops opsP n) {i : Nat} (hi : i < n) {K K' : Act → World → Prop} (hK : ∀ a w, K a w → K' a w) {a : Act} {w : World}
    (h : wpOp P opsP (splitQ P md ops m t Q) i K a w) : wpOp P ops Q i K' a w := by
  have h' := wpOp_mono hK h
  unfold wpOp at h' ⊢
  rw [hp.same i hi] at h'
  cases ho : ops[i]? with
  | none => rw [ho] at h'; exact h'
  | some o =>
    rw [ho] at h'
    have hg := hp.free i o hi ho
    have hw : ∀ y, Region.wanted o y = true := fun y => by simp [Region.wanted, hg]
    simp only [hw, if_true] at h' ⊢
    rcases h' with h' | ⟨h1, h2⟩
    · left
      unfold Oper.wp at h' ⊢
      generalize (execOp a.eval o).run P w = r at h' ⊢
      cases r with
      | ok m w' => cases m <;> exact h'
      | halt x w' => cases x <;> exact h'
    · exact .inr ⟨h1, h2⟩
theorem wpAny_split {ops opsP : Array Oper} {n m : Nat} (hp : SplitIs md ops opsP n) : ∀ (f : Nat) (listed : Array Bool) (a : Act) (w : World), listed.size = n → ClosedS md opsP listed →
    wpAny P md opsP (splitQ P md ops m (Array.replicate n true ++ Array.replicate m false) Q) f listed a w → wpAny P md ops Q (f + m) (listed ++ Array.replicate m false) a w := by
  have hlast : ∀ (f : Nat) (listed : Array Bool) (a : Act) (w : World), listed.size = n → Region.ready md opsP listed = [] → splitQ P md ops m (Array.replicate n true ++ Array.replicate m false) Q .normal a w → wpAny P md ops Q (f + m) (listed ++ Array.replicate m false) a w := by
    intro f listed a w hl hr hq
    rw [all_true hl (split_all hp hl hr), Nat.add_comm]
    exact wpAny_more _ _ _ _ _ hq
  intro f
  induction f with
  | zero => intro listed a w hl _ h; exact hlast 0 listed a w hl h.1 h.2
  | succ f ih =>
    intro listed a w hl hcl h
    by_cases hr : Region.ready md opsP listed = []
    · exact hlast (f + 1) listed a w hl hr (h.1 hr)
    · obtain ⟨k, hk⟩ := List.exists_mem_of_ne_nil _ hr
      obtain ⟨hku, ok, hok, hall⟩ := mem_ready.1 hk
      have hkn : k < n := by have := (Array.getElem?_eq_some_iff.1 hok).1; rw [hp.psize] at this; exact this
      have hsub := split_head (m := m) hp hl hcl hkn (getD_both hku)
      rw [show f + 1 + m = (f + m) + 1 by omega]
      refine ⟨fun h0 => ?_, fun i hi => ?_⟩
      · exfalso
        have : k ∈ Region.ready md ops (listed ++ Array.replicate m false) := mem_ready.2 ⟨by rw [getD_app hl _ _ _ hkn]; exact hku, ok, by rw [← hp.same k hkn]; exact hok, fun e he hb => by
          have h1 := hall e he hb
          have hb2 := hp.back k ok hkn (by rw [← hp.same k hkn]; exact hok) e he
          rwa [getD_app hl _ _ _ (by omega)]⟩
        rw [h0] at this
        cases this
      · obtain ⟨hin, hir⟩ := hsub i hi
        have h2 := h.2 i hir
        rw [set_app hl _ i hin]
        exact wpOp_split hp hin (fun a' w' h' => ih _ a' w' (by simp [hl]) (hcl.set hir) h') h2
/-- The first n operations in the order of the text, then all others in whatever order may be. -/
theorem wp_region_split {id : Nat} {a : Act} {w : World} {l : List Oper} (n m : Nat) (hm : P.follows .mixedOrders = true) (hnm : l.length = n + m) (h1 : splitB .any l.toArray n = true) (h2 : Region.lexB .any (l.take n).toArray = true)
    (h : wpStill P (l.take n).toArray w.drew (fun a' => wpAny P .any l.toArray Q m (Array.replicate n true ++ Array.replicate m false) a' w.drew) (l.take n) a) : (Code.region id l.toArray true).wp P Q a w := by
  have hp := split_is h1
  simp only [Region.lexB, Bool.and_eq_true] at h2
  have hln : (l.take n).length = n := by simp; omega
  refine wp_region_any hm ?_
  rw [show l.toArray.size = n + m by simpa using hnm, ← Array.replicate_append_replicate]
  refine wpAny_split hp n (Array.replicate n false) a _ (by simp) (fun j o _ hl => by rw [getD_replicate_false] at hl; cases hl) ?_
  refine wpAny_of_still (Q := fun a' => wpAny P .any l.toArray Q m (Array.replicate n true ++ Array.replicate m false) a' w.drew) (fun _ h => h) _ _ _ ?_
  have := wpAnyS_lex (md := .any) (w := w.drew) (Q := fun a' => wpAny P .any l.toArray Q m (Array.replicate n true ++ Array.replicate m false) a' w.drew) h2.1 (l.take n) 0 (Array.replicate (l.take n).toArray.size false) a (by simp) (by simpa using h2.2) h
  rw [show (l.take n).toArray.size = n by simpa using hln, hln] at this
  exact this
end
end Go.Proofs.YtoobiffhjjfpgaaGreat.Print

namespace Go.Proofs.YtoobiffhjjfpgaaGreat.Print
open Go.RowKit
attribute [local go_sem] run_loadVar_scalar

theorem hfits_new {N : Nat} {P : PoolM} {L : LogM} {i st : Nat} {P' : PoolM} (hP : PoolOk N P) (hL : LogOk N L) (ht : takeM P L.id = some (i, st, P')) : HFits (L.id, L.gen, st, L.next) := by
  obtain ⟨_, hc, rfl, _⟩ := takeM_some ht
  have := hP.ep
  exact ⟨hL.id1, hL.id2, hL.gen, by show 65536 * P.ep + P.ct < _; omega, hL.next⟩
set_option maxRecDepth 100000 in
set_option maxHeartbeats 800000 in
theorem roll_none {N g v p : Nat} {P : PoolM} {L : LogM} {w : World} {H G : Foot} (hO : PoolIs p P w H) (hL : LogIs g v p L w G) (hP : PoolOk N P) (kL : LogOk N L) (ht : takeM P L.id = none) :
    Calls Tryz.prog 79 #[.pointer (some ⟨g, 0, none⟩)] w fun x w' => x = .returned (.tuple #[.pointer none, .int .i64 32]) ∧ Below w.heap.size w w' := by
  obtain ⟨sv, hs⟩ := hL.obj
  obtain ⟨c0, c1, c2, c3, c4, c5, c6, cf⟩ := seven_of hs
  have hOd : PoolIs p P w.drew H := PoolIs.stays.below hO (Below.refl _ _).drew
  have KT := Lib.hid (take_none hOd hP L.id kL.id1 kL.id2 ht)
  clear hs hO hL ht hOd
  go_enter Tryz.func79, Tryz.ntmps79
  go_wp2_with fail
  go_region_with (go_at_call 114; (with_reducible refine KT.out.mono ?_); rintro x w1 ⟨rfl, hb⟩)
  all_goals
   go_wp2
   exact bodyPost_ret (v := .tuple #[.pointer none, .int .i64 32]) (by simp [results, Tryz.results79, go_sem]) rfl ⟨rfl, (Below.refl _ _).drew.trans hb⟩
set_option linter.unusedSimpArgs false in
set_option maxRecDepth 100000 in
set_option maxHeartbeats 1600000 in
theorem roll_some {N f g v p : Nat} {lies : List (List UInt8)} {W : List (Nat × List UInt8)} {P : PoolM} {L : LogM} {w : World} {F H G : Foot} (hV : ViewIs v lies W f N (-1) false w F) (hO : PoolIs p P w H) (hL : LogIs g v p L w G) (aFH : Apart F H) (aFG : Apart F G) (aHG : Apart H G) (hP : PoolOk N P) (kL : LogOk N L) (hW : W.length ≤ 900000000) {i st : Nat} {P' : PoolM} (ht : takeM P L.id = some (i, st, P')) :
    Calls Tryz.prog 79 #[.pointer (some ⟨g, 0, none⟩)] w fun x w' => ∃ (s : Nat) (F' G1 : Foot), x = .returned (.tuple #[.pointer (some ⟨s, 0, none⟩), .int .i64 0]) ∧
      ViewIs v lies (W ++ sealAt (f + (2 + 16 * i + 0)) st 1 [pad52 (hdrL (L.id, L.gen, st, L.next))]) f N (-1) false w' F' ∧ PoolIs p P' w' H ∧ LogIs g v p L w' G ∧ SegIs s v i (L.id, L.gen, st, L.next) [] 1 false w' G1 ∧ Upd (Both F H) w w' ∧ Fresh w F F' ∧ (∀ k, G1 k → w.heap.size ≤ k) ∧ Apart F' G1 := by
  obtain ⟨sv, hs⟩ := hL.obj
  obtain ⟨c0, c1, c2, c3, c4, c5, c6, cf⟩ := seven_of hs
  have hOd : PoolIs p P w.drew H := PoolIs.stays.below hO (Below.refl _ _).drew
  have KT := Lib.hid (take_some hOd hP L.id kL.id1 kL.id2 ht)
  have HF := Lib.hid (hfits_new hP kL ht)
  obtain ⟨hi, _⟩ := takeM_lt ht
  have hfit := hP.fit
  have hbig := hP.big
  have HV := Lib.hid hV
  have HL := Lib.hid hL
  have HA := Lib.hid aFH
  have HB := Lib.hid aFG
  have HC := Lib.hid aHG
  have HPV := Lib.hid (fun k hk => PoolIs.there hO k hk)
  clear hs hO hL ht hOd hV aFH aFG aHG
  go_enter Tryz.func79, Tryz.ntmps79
  go_wp2_with fail
  go_region_with (go_at_call 114; (with_reducible refine KT.out.mono ?_); rintro x w1 ⟨rfl, hO1, hU1⟩)
  all_goals
    have hU1' : Upd H w w1 := (Upd.of_below (Below.refl _ _).drew).trans hU1 (fun _ _ h => h)
    have hL1 := LogIs.stays HL.out hU1' (fun k hk hc => HC.out k hc hk)
    have hV1 := ViewIs.stays HV.out hU1' (fun k hk hc => HA.out k hk hc)
    obtain ⟨sv1, hs1⟩ := hL1.obj
    have HO1 := Lib.hid hO1
    have HU1 := Lib.hid hU1'
    have HL1 := Lib.hid hL1
    have HV1 := Lib.hid hV1
    clear c0 c1 c2 c3 c4 c5 c6 cf hO1 hU1 hU1' hL1 hV1 KT
    obtain ⟨c0, c1, c2, c3, c4, c5, c6, cf⟩ := seven_of hs1
    have hVd : ViewIs v lies W f N (-1) false w1.drew F := ViewIs.stays.below HV1.out (Below.refl _ _).drew
    have KC := Lib.hid (create_go hVd i (L.id, L.gen, st, L.next) HF.out (by omega) (by omega) hW i rfl)
    clear hs1 hVd
    go_wp2_with fail
    refine wp_region_split 19 6 (by kernel_rfl) rfl (by kernel_rfl) (by kernel_rfl) ?_
    simp only [List.take_succ_cons, List.take_zero]
    repeat still_step
    refine wpStill_nil ?_
    rw [show Array.replicate 19 true ++ Array.replicate 6 false = #[true, true, true, true, true, true, true, true, true, true, true, true, true, true, true, true, true, true, true, false, false, false, false, false, false] from rfl]
    refine wpAny_ready (rs := [19]) (by kernel_rfl) (by simp) ?_
    refine AllReady.cons rfl (fun K' hK => ?_) AllReady.nil
    simp only [List.getElem_toArray, List.getElem_cons_zero, List.getElem_cons_succ]
    go_simp
    (go_at_call 115; (with_reducible refine KC.out.mono ?_); rintro x w2 ⟨s, F2, G2, rfl, hV2, hS2, hA2, hU2, hF2, hG2⟩)
    refine hK _ _ ?_
    clear hK K'
    simp only [Act.put, List.getElem_toArray, List.getElem_cons_zero, List.getElem_cons_succ, List.setIfInBounds_toArray, List.set_cons_zero, List.set_cons_succ]
    refine wpAny_take (i := 20) (v := ?_) rfl (by kernel_rfl) (by kernel_rfl) (by kernel_rfl) (fun _ _ _ h => h) (Or.inl ⟨by rfl, ?_⟩) ?_
    rotate_left 1
    · (intro w'; simp only [List.getElem_toArray, List.getElem_cons_zero, List.getElem_cons_succ]; go_simp; try with_reducible rfl)
    simp only [Act.put, List.getElem_toArray, List.getElem_cons_zero, List.getElem_cons_succ, List.setIfInBounds_toArray, List.set_cons_zero, List.set_cons_succ]
    refine wpAny_take (i := 21) (v := ?_) rfl (by kernel_rfl) (by kernel_rfl) (by kernel_rfl) (fun _ _ _ h => h) (Or.inl ⟨by rfl, ?_⟩) ?_
    rotate_left 1
    · (intro w'; simp only [List.getElem_toArray, List.getElem_cons_zero, List.getElem_cons_succ]; go_simp; try with_reducible rfl)
    simp only [Act.put, List.getElem_toArray, List.getElem_cons_zero, List.getElem_cons_succ, List.setIfInBounds_toArray, List.set_cons_zero, List.set_cons_succ]
    refine wpAny_take (i := 22) (v := ?_) rfl (by kernel_rfl) (by kernel_rfl) (by kernel_rfl) (fun _ _ _ h => h) (Or.inl ⟨by rfl, ?_⟩) ?_
    rotate_left 1
    · (intro w'; simp only [List.getElem_toArray, List.getElem_cons_zero, List.getElem_cons_succ]; go_simp; try with_reducible rfl)
    simp only [Act.put, List.getElem_toArray, List.getElem_cons_zero, List.getElem_cons_succ, List.setIfInBounds_toArray, List.set_cons_zero, List.set_cons_succ]
    refine wpAny_take (i := 23) (v := ?_) rfl (by kernel_rfl) (by kernel_rfl) (by kernel_rfl) (fun _ _ _ h => h) (Or.inl ⟨by rfl, ?_⟩) ?_
    rotate_left 1
    · (intro w'; simp only [List.getElem_toArray, List.getElem_cons_zero, List.getElem_cons_succ]; go_simp; try with_reducible rfl)
    simp only [Act.put, List.getElem_toArray, List.getElem_cons_zero, List.getElem_cons_succ, List.setIfInBounds_toArray, List.set_cons_zero, List.set_cons_succ]
    refine wpAny_take (i := 24) (v := ?_) rfl (by kernel_rfl) (by kernel_rfl) (by kernel_rfl) (fun _ _ _ h => h) (Or.inl ⟨by rfl, ?_⟩) ?_
    rotate_left 1
    · (intro w'; simp only [List.getElem_toArray, List.getElem_cons_zero, List.getElem_cons_succ]; go_simp; try with_reducible rfl)
    simp only [Act.put, List.getElem_toArray, List.getElem_cons_zero, List.getElem_cons_succ, List.setIfInBounds_toArray, List.set_cons_zero, List.set_cons_succ]
    refine wpAny_done (by kernel_rfl) ?_ _
    all_goals
      have hU2' : Upd F w1 w2 := (Upd.of_below (Below.refl _ _).drew).trans hU2 (fun _ _ h => h)
      have HO2 := Lib.hid (PoolIs.stays HO1.out hU2' (fun k hk hc => HA.out k hc hk))
      have HL2 := Lib.hid (LogIs.stays HL1.out hU2' (fun k hk hc => HB.out k hc hk))
      have HU2 := Lib.hid hU2'
      have HV2 := Lib.hid hV2
      have HS2 := Lib.hid hS2
      have HF2 := Lib.hid hF2
      have HG2 := Lib.hid hG2
      have HA2 := Lib.hid hA2
      clear c0 c1 c2 c3 c4 c5 c6 cf hV2 hS2 hA2 hU2 hF2 hG2 hU2' KC
      go_wp2
      refine bodyPost_ret (v := .tuple #[.pointer (some ⟨s, 0, none⟩), .int .i64 0]) (by simp [results, Tryz.results79, go_sem]) rfl ⟨s, F2, G2, rfl, HV2.out, HO2.out, HL2.out, HS2.out, (HU1.out.mono (T := Both F H) (fun _ _ h => .inr h)).trans HU2.out (fun _ _ h => .inl h), fun k hk => (HF2.out k hk).imp id (fun hh => ?_), fun k hk => ?_, HA2.out⟩
      · have := HU1.out.size; exact Nat.le_trans this hh
      · have := HU1.out.size; exact Nat.le_trans this (HG2.out k hk)
/-- A view and its pool. -/
def VP (v p : Nat) (lies : List (List UInt8)) (W : List (Nat × List UInt8)) (f N : Nat) (P : PoolM) (w : World) (X : Foot) : Prop :=
  ∃ F H : Foot, ViewIs v lies W f N (-1) false w F ∧ PoolIs p P w H ∧ Apart F H ∧ ∀ i, X i ↔ F i ∨ H i
theorem VP.there {v p : Nat} {lies : List (List UInt8)} {W : List (Nat × List UInt8)} {f N : Nat} {P : PoolM} : There (VP v p lies W f N P) := by
  rintro w X ⟨F, H, hV, hP, _, hX⟩ i hi
  exact ((hX i).1 hi).elim (ViewIs.there hV i) (PoolIs.there hP i)
theorem VP.stays {v p : Nat} {lies : List (List UInt8)} {W : List (Nat × List UInt8)} {f N : Nat} {P : PoolM} : Stays (VP v p lies W f N P) := by
  rintro w w' S X ⟨F, H, hV, hP, ha, hX⟩ hU hn
  exact ⟨F, H, ViewIs.stays hV hU (fun i hi => hn i ((hX i).2 (.inl hi))), PoolIs.stays hP hU (fun i hi => hn i ((hX i).2 (.inr hi))), ha, hX⟩
/-- What a call leaves of a view, its pool and a log. -/
def LPost (g v p : Nat) (lies : List (List UInt8)) (W : List (Nat × List UInt8)) (f N : Nat) (P : PoolM) (L : LogM) (w : World) (X G : Foot) (w' : World) : Prop :=
  ∃ X' G' : Foot, VP v p lies W f N P w' X' ∧ LogIs g v p L w' G' ∧ Apart X' G' ∧ Upd (Both X G) w w' ∧ Fresh w (Both X G) (Both X' G')
theorem LPost.of_below {g v p : Nat} {lies : List (List UInt8)} {W : List (Nat × List UInt8)} {f N : Nat} {P : PoolM} {L : LogM} {w w' : World} {X G : Foot} (hX : VP v p lies W f N P w X) (hG : LogIs g v p L w G) (ha : Apart X G) (hb : Below w.heap.size w w') : LPost g v p lies W f N P L w X G w' :=
  ⟨X, G, VP.stays.below hX hb, LogIs.stays.below hG hb, ha, Upd.of_below' hb, Fresh.refl _ _⟩
/-- A segment behind all. -/
theorem LogIs.push {g v p : Nat} {L : LogM} {w : World} {G : Foot} (h : LogIs g v p L w G) {s : Nat} {S : SegM} {G1 : Foot} (hS : SegIs s v S.n (S.hdr L.id L.gen) S.fs S.e S.sealed w G1) (ha : Apart G G1) :
    ∃ (sv : Value) (xs : List Value), w.heap[g]? = some (logObj v p L.id L.gen L.base L.next sv) ∧ OffRow w 83 sv L.segs.length xs ∧ sv.ownBlock ≠ some g ∧
      ∀ (wa w1 : World) (sv' : Value), Below w.heap.size w wa → OffRow w1 83 sv' (L.segs.length + 1) (xs ++ [ptrV s]) → wa.grownBy w1 sv.ownBlock → (sv'.ownBlock = sv.ownBlock ∨ ∃ b, sv'.ownBlock = some b ∧ wa.heap.size ≤ b) →
        w1.heap[g]? = some (logObj v p L.id L.gen L.base L.next sv) ∧ ∃ G2 : Foot, LogIs g v p ⟨L.id, L.gen, L.base, L.next, L.segs ++ [S]⟩ (w1.setCell ⟨g, 6, none⟩ sv') G2 ∧ Upd G w (w1.setCell ⟨g, 6, none⟩ sv') ∧ ∀ i, G2 i → G i ∨ G1 i ∨ w.heap.size ≤ i := by
  have htS := SegIs.there hS
  obtain ⟨sv, ps, Gs, h1, h2, h3, h4, h5, h6, hG⟩ := h
  have hpl := h3.length
  refine ⟨sv, ps.map ptrV, h1, by rw [← hpl]; exact h2, h4, fun wa w1 sv' hb hrow hgrow hat => ?_⟩
  have hgG : G g := (hG g).2 (.inl rfl)
  have hsG : ∀ i, sv.ownBlock = some i → G i := fun i hi => (hG i).2 (.inr (.inl hi))
  have hssG : ∀ i, Gs i → G i := fun i hi => (hG i).2 (.inr (.inr hi))
  have hU1 : Upd (fun i => sv.ownBlock = some i) w w1 := (Upd.of_below' hb).trans ⟨hgrow.os, hgrow.tape, hgrow.output, hgrow.size, fun i hi hn => hgrow.block i hi (fun e => hn e.symm)⟩ (fun _ _ h => h)
  have hg1 := hU1.at_ h1 h4
  have hU2 : Upd (fun k => k = g) w1 (w1.setCell ⟨g, 6, none⟩ sv') := (Upd.refl (fun k => k = g) w1).setCell (p := ⟨g, 6, none⟩) (fun _ => rfl) _
  have hU : Upd G w (w1.setCell ⟨g, 6, none⟩ sv') := (hU1.mono (T := G) (fun i _ hi => hsG i hi)).trans hU2 (fun i _ e => by rw [e]; exact hgG)
  have hnew : ∀ b, sv'.ownBlock = some b → sv.ownBlock = some b ∨ w.heap.size ≤ b := by
    intro b hb'
    rcases hat with e | ⟨b2, e, hge⟩
    · exact .inl (e ▸ hb')
    · rw [e] at hb'; cases hb'; exact .inr (by have := hb.size; omega)
  have hg' : sv'.ownBlock ≠ some g := fun e => (hnew g e).elim h4 (fun hh => by have := lt_of h1; omega)
  have hsU : ∀ i, Gs i → ¬ (sv.ownBlock = some i) := fun i hi e => h6 i e hi
  have hSegs := SegsAre.stays (SegsAre.stays h3 hU1 hsU) hU2 (fun i hi e => h5 (e ▸ hi))
  have hSn := SegIs.stays (SegIs.stays hS hU1 (fun i hi e => ha i (hsG i e) hi)) hU2 (fun i hi e => ha g hgG (e ▸ hi))
  refine ⟨hg1, fun i => i = g ∨ sv'.ownBlock = some i ∨ Both Gs G1 i, ⟨sv', ps ++ [s], Both Gs G1, by rw [cells_set _ _ _ _ _ _ hg1]; rfl, ?_, hSegs.snoc hSn (fun i hi hc => ha i (hssG i hi) hc), hg', fun hc => hc.elim h5 (ha g hgG), fun i hi hc => ?_, fun i => Iff.rfl⟩, hU, fun i hi => ?_⟩
  · rw [List.length_append, List.map_append]
    refine OffRow.keep (S := fun k => k = g) ?_ hU2 (fun i hi e => hg' (by rw [hi, e]))
    rw [hpl]
    exact hrow
  · rcases hnew i hi with e | e
    · exact hc.elim (h6 i e) (ha i (hsG i e))
    · exact hc.elim (fun hc => by have := SegsAre.there h3 i hc; omega) (fun hc => by have := htS i hc; omega)
  · rcases hi with rfl | hi | hi | hi
    · exact .inl hgG
    · exact (hnew i hi).elim (fun e => .inl (hsG i e)) (fun e => .inr (.inr e))
    · exact .inl (hssG i hi)
    · exact .inr (.inl hi)
end Go.Proofs.YtoobiffhjjfpgaaGreat.Print

namespace Go.Proofs.YtoobiffhjjfpgaaGreat.Print
open Go.RowKit
attribute [local go_sem] run_loadVar_scalar

/-- Append, by what it makes of a log. -/
theorem appendM_wrong {P : PoolM} {L : LogM} {k : Int} {p : ByteArray} (h : wrongP k p.size ≠ 0) : appendM P L k p = ⟨L, P, 0, wrongP k p.size⟩ := by unfold appendM; rw [if_pos h]
theorem appendW_wrong {f : Nat} {P : PoolM} {L : LogM} {k : Int} {p : ByteArray} {W : List (Nat × List UInt8)} (h : wrongP k p.size ≠ 0) : appendW f P L k p W = W := by unfold appendW; rw [if_pos h]
theorem appendM_fit {P : PoolM} {L : LogM} {k : Int} {p : ByteArray} (h : wrongP k p.size = 0) {s : SegM} (hl : lastM L = some s) (hf : s.e + many (7 + p.size) ≤ 16) : appendM P L k p = ⟨⟨L.id, L.gen, L.base, L.next + 1, L.segs.dropLast ++ [s.more k p]⟩, P, L.next, 0⟩ := by
  unfold appendM; rw [if_neg (by omega), hl]; simp only; rw [if_pos hf]
theorem appendW_fit {f : Nat} {P : PoolM} {L : LogM} {k : Int} {p : ByteArray} {W : List (Nat × List UInt8)} (h : wrongP k p.size = 0) {s : SegM} (hl : lastM L = some s) (hf : s.e + many (7 + p.size) ≤ 16) : appendW f P L k p W = W ++ sealAt (f + (2 + 16 * s.n + s.e)) s.st (s.fs.length + 2) (frP s.st s.e k.toNat p) := by
  unfold appendW; rw [if_neg (by omega), hl]; simp only; rw [if_pos hf]
def noFit (L : LogM) (p : ByteArray) : Prop := lastM L = none ∨ ∃ s, lastM L = some s ∧ 16 < s.e + many (7 + p.size)
theorem appendM_roll {P : PoolM} {L : LogM} {k : Int} {p : ByteArray} (h : wrongP k p.size = 0) (hn : noFit L p) : appendM P L k p = rollM P L k p := by
  unfold appendM; rw [if_neg (by omega)]
  rcases hn with hl | ⟨s, hl, hf⟩
  · rw [hl]
  · rw [hl]; simp only; rw [if_neg (by omega)]
theorem appendW_roll {f : Nat} {P : PoolM} {L : LogM} {k : Int} {p : ByteArray} {W : List (Nat × List UInt8)} (h : wrongP k p.size = 0) (hn : noFit L p) : appendW f P L k p W = rollW f P L k p W := by
  unfold appendW; rw [if_neg (by omega)]
  rcases hn with hl | ⟨s, hl, hf⟩
  · rw [hl]
  · rw [hl]; simp only; rw [if_neg (by omega)]
set_option maxRecDepth 100000 in
set_option maxHeartbeats 800000 in
attribute [-go_sem] Instr.build Instr.fill Instr.buildSlice loadVar in
theorem append_log_wrong {f N g v p : Nat} {lies : List (List UInt8)} {W : List (Nat × List UInt8)} {P : PoolM} {L : LogM} {w : World} {X G : Foot} (hX : VP v p lies W f N P w X) (hG : LogIs g v p L w G) (ha : Apart X G) (k : Int) (pl : ByteArray) (hw : wrongP k pl.size ≠ 0) :
    Calls Tryz.prog 40 #[.pointer (some ⟨g, 0, none⟩), frV k pl] w fun x w' => x = .returned (.tuple #[.int .i64 (appendM P L k pl).n, .int .i64 (appendM P L k pl).er]) ∧ LPost g v p lies (appendW f P L k pl W) f N (appendM P L k pl).p (appendM P L k pl).g w X G w' := by
  rw [appendM_wrong hw, appendW_wrong hw]
  have hg1 := alloc_at w (.cells #[.int .i64 k, .string pl] 43)
  have hld := load_fr hg1
  have hB : Below w.heap.size w (w.alloc (.cells #[.int .i64 k, .string pl] 43)) := (Below.refl _ _).alloc (Nat.le_refl _) _
  have KE := Lib.hid (fun w => enc_wrong 0 1 k pl (by omega) (by omega) hw w)
  have HK := Lib.hid (fun w' (hb : Below w.heap.size w w') => LPost.of_below (f := f) (N := N) hX hG ha hb)
  obtain ⟨er, her⟩ : ∃ er, wrongP k pl.size = er := ⟨_, rfl⟩
  rw [her] at KE hw ⊢
  have k1 : (er != 0) = true := by simpa using hw
  clear her hX hG ha hg1
  go_enter Tryz.func40, Tryz.ntmps40
  go_wp2_with fail
  refine (KE.out _).mono ?_
  rintro x w1 ⟨rfl, hb⟩
  go_wp2
  exact bodyPost_ret (v := .tuple #[.int .i64 0, .int .i64 er]) (by simp [results, Tryz.results40, go_sem]) rfl ⟨rfl, HK.out _ (hB.trans (hb.mono hB.size))⟩
set_option maxRecDepth 100000 in
set_option maxHeartbeats 1600000 in
attribute [-go_sem] Instr.build Instr.fill Instr.buildSlice loadVar in
theorem append_log_fit {f N g v p : Nat} {lies : List (List UInt8)} {W : List (Nat × List UInt8)} {P : PoolM} {L : LogM} {w : World} {X G : Foot} (hX : VP v p lies W f N P w X) (hG : LogIs g v p L w G) (ha : Apart X G) (hP : PoolOk N P) (kL : LogOk N L) (hW : W.length ≤ 900000000) (hnx : L.next + 1 ≤ 1099511627776) (K : Nat) (pl : ByteArray) (hw : wrongP (K : Int) pl.size = 0) {S : SegM} (hl : lastM L = some S) (hf : S.e + many (7 + pl.size) ≤ 16) :
    Calls Tryz.prog 40 #[.pointer (some ⟨g, 0, none⟩), frV K pl] w fun x w' => x = .returned (.tuple #[.int .i64 (appendM P L K pl).n, .int .i64 (appendM P L K pl).er]) ∧ LPost g v p lies (appendW f P L K pl W) f N (appendM P L K pl).p (appendM P L K pl).g w X G w' := by
  rw [appendM_fit hw hl hf, appendW_fit hw hl hf]
  obtain ⟨hk1, hk2, hk3⟩ := wrong_none hw
  obtain ⟨hsegs, hsealed⟩ := lastM_some hl
  have kS := kL.segs S (by rw [hsegs]; simp)
  have hg1 := alloc_at w (.cells #[.int .i64 K, .string pl] 43)
  have hld := load_fr hg1
  have hB : Below w.heap.size w (w.alloc (.cells #[.int .i64 K, .string pl] 43)) := (Below.refl _ _).alloc (Nat.le_refl _) _
  have KE := Lib.hid (fun w => enc_ok 0 1 K pl (by omega) (by omega) (by omega) (by omega) (by omega) hk3 w)
  obtain ⟨bb, hbb⟩ : ∃ bb, bs (encL 0 1 (UInt8.ofNat K :: pl.data.toList)) = bb := ⟨_, rfl⟩
  rw [hbb] at KE
  have HX := Lib.hid hX
  have HG := Lib.hid hG
  have HA := Lib.hid ha
  have HG1 := Lib.hid hg1
  have HSEG := Lib.hid hsegs
  have hfits := hP.fit
  have hbig := hP.big
  clear hbb hX hG ha hg1 hsegs hl
  go_enter Tryz.func40, Tryz.ntmps40
  go_wp2_with fail
  refine (KE.out _).mono ?_
  rintro x w1 ⟨rfl, hb⟩
  have hB1 : Below w.heap.size w w1 := hB.trans (hb.mono hB.size)
  have HB1 := Lib.hid hB1
  have HG2 := Lib.hid (later_of HG1.out hb)
  have hG1 := LogIs.stays.below HG.out hB1
  obtain ⟨s, G1, sv, ps, hobj, hrow, hpl, hS, hG1G, hback⟩ := LogIs.top hG1 HSEG.out
  have kdl : L.segs.dropLast.length ≤ 1000 := by rw [List.length_dropLast]; have := kL.many; omega
  have KL := Lib.hid (last_top hobj hrow (by simpa using hpl) (by omega) hS)
  rw [hsealed] at hS
  have HS := Lib.hid hS
  have HBK := Lib.hid hback
  have HGG := Lib.hid hG1G
  have HSE := Lib.hid hsealed
  clear hb hG1 hobj hrow hpl hS hG1G hback hld hB1 hsealed
  go_wp2_with fail
  refine KL.out.mono ?_
  rintro x w2 ⟨rfl, hb2⟩
  rw [HSE.out]
  have hB2 := HB1.out.trans (hb2.mono HB1.out.size)
  have hld2 := load_fr (later_of HG2.out hb2)
  obtain ⟨F, H, hV, hO, aFH, hXF⟩ := HX.out
  have hV2 := ViewIs.stays.below hV hB2
  have hS2 := SegIs.stays.below HS.out hb2
  have aFG : Apart F G1 := fun i hi hc => HA.out i ((hXF i).2 (.inl hi)) (HGG.out i hc)
  have KA := Lib.hid (append_go hV2 hS2 aFG kS.st (by omega) kS.n kS.e1 kS.e16 (by have := kS.fe; have := kS.e16; omega) hW K pl (by omega) (by omega) hk3 hf K rfl)
  have HB2 := Lib.hid hB2
  have HXF := Lib.hid hXF
  have HO := Lib.hid hO
  have HFH := Lib.hid aFH
  have hb2w := Lib.hid hb2
  clear hV hO aFH hXF hV2 hS2 aFG hb2 hB2
  go_wp2_with fail
  refine KA.out.mono ?_
  rintro x w3 ⟨F', G1', rfl, hV3, hS3, hU3, hF3, hG3, hA3⟩
  have hU3w : Upd (Both F G1) w1 w3 := (Upd.of_below' hb2w.out).trans hU3 (fun _ _ h => h)
  have hL3 := HBK.out w3 (S.more K pl) G1' (Both F G1) (by rw [show (S.more K pl).sealed = false from HSE.out]; exact hS3) hU3w (fun i hi hni hc => hc.elim (fun hc => HA.out i ((HXF.out i).2 (.inl hc)) hi) hni) (fun i hi => (hG3 i hi).imp id (fun hh => by have := hb2w.out.size; omega))
  have HL3 := Lib.hid hL3
  have KP := Lib.hid (put_log hL3 (show L.next ≤ _ by omega))
  have HV3 := Lib.hid hV3
  have HU3 := Lib.hid ((Upd.of_below' HB1.out).trans hU3w (fun _ _ h => h))
  have HF3 := Lib.hid hF3
  have HG3 := Lib.hid hG3
  have HA3 := Lib.hid hA3
  clear hV3 hS3 hU3 hF3 hG3 hA3 hU3w hL3 KA hld2
  go_wp2_with fail
  refine KP.out.mono ?_
  rintro x w4 ⟨rfl, hL4, hU4⟩
  have HL4 := Lib.hid hL4
  have HU4 := Lib.hid hU4
  clear hL4 hU4 KP
  go_wp2
  refine bodyPost_ret (v := .tuple #[.int .i64 L.next, .int .i64 0]) (by simp [results, Tryz.results40, go_sem]) rfl ⟨rfl, ?_⟩
  have hFlt := fun i (hi : F i) => VP.there HX.out i ((HXF.out i).2 (.inl hi))
  have hHlt := fun i (hi : H i) => VP.there HX.out i ((HXF.out i).2 (.inr hi))
  have hGlt := fun i (hi : G i) => LogIs.there HG.out i hi
  have hsz2 := HB2.out.size
  have hF' : ∀ i, F' i → F i ∨ w.heap.size ≤ i := fun i hi => (HF3.out i hi).imp id (fun hh => by omega)
  have hG' : ∀ i, G1' i → G1 i ∨ w.heap.size ≤ i := fun i hi => (HG3.out i hi).imp id (fun hh => by omega)
  have haFL : ∀ i, F' i → ¬ ((G i ∧ ¬ G1 i) ∨ G1' i) := fun i hi hc => by
    rcases hc with ⟨hc, _⟩ | hc
    · rcases hF' i hi with h | h
      · exact HA.out i ((HXF.out i).2 (.inl h)) hc
      · have := hGlt i hc; omega
    · exact HA3.out i hi hc
  have haHL : ∀ i, H i → ¬ ((G i ∧ ¬ G1 i) ∨ G1' i) := fun i hi hc => by
    rcases hc with ⟨hc, _⟩ | hc
    · exact HA.out i ((HXF.out i).2 (.inr hi)) hc
    · rcases hG' i hc with h | h
      · exact HA.out i ((HXF.out i).2 (.inr hi)) (HGG.out i h)
      · have := hHlt i hi; omega
  have hO3 : PoolIs p P w3 H := PoolIs.stays HO.out HU3.out (fun i hi hc => hc.elim (fun hc => HFH.out i hc hi) (fun hc => HA.out i ((HXF.out i).2 (.inr hi)) (HGG.out i hc)))
  refine ⟨fun i => F' i ∨ H i, _, ⟨F', H, ViewIs.stays HV3.out HU4.out haFL, PoolIs.stays hO3 HU4.out haHL, fun i hi hc => ?_, fun i => Iff.rfl⟩, HL4.out, fun i hi hc => hi.elim (fun hi => haFL i hi hc) (fun hi => haHL i hi hc), ?_, ?_⟩
  · rcases hF' i hi with h | h
    · exact HFH.out i h hc
    · have := hHlt i hc; omega
  · refine (HU3.out.mono (T := Both X G) (fun i _ hi => hi.elim (fun hi => .inl ((HXF.out i).2 (.inl hi))) (fun hi => .inr (HGG.out i hi)))).trans HU4.out (fun i hiw hi => ?_)
    rcases hi with ⟨hi, _⟩ | hi
    · exact .inr hi
    · rcases hG' i hi with h | h
      · exact .inr (HGG.out i h)
      · omega
  · rintro i ((hi | hi) | (⟨hi, _⟩ | hi))
    · exact (hF' i hi).imp (fun h => .inl ((HXF.out i).2 (.inl h))) id
    · exact .inl (.inl ((HXF.out i).2 (.inr hi)))
    · exact .inl (.inr hi)
    · exact (hG' i hi).imp (fun h => .inr (HGG.out i h)) id
theorem build_ptr (s : Nat) (W : World) : (Instr.buildSlice 73 1 #[(0, ptrV s)]).run Tryz.prog W = .ok (.slice (some ⟨W.heap.size, 0, none⟩) 1 1) (W.alloc (.cells #[ptrV s] 83)) := by kernel_rfl
set_option maxRecDepth 100000 in
set_option maxHeartbeats 3200000 in
attribute [-go_sem] Instr.build Instr.fill Instr.buildSlice loadVar in
theorem append_log_roll {f N g v p : Nat} {lies : List (List UInt8)} {W : List (Nat × List UInt8)} {P : PoolM} {L : LogM} {w : World} {X G : Foot} (hX : VP v p lies W f N P w X) (hG : LogIs g v p L w G) (ha : Apart X G) (hP : PoolOk N P) (kL : LogOk N L) (hW : W.length ≤ 800000000) (hnx : L.next + 1 ≤ 1099511627776) (hmany : L.segs.length + 1 ≤ 1000) (K : Nat) (pl : ByteArray) (hw : wrongP (K : Int) pl.size = 0) (hnf : noFit L pl) :
    Calls Tryz.prog 40 #[.pointer (some ⟨g, 0, none⟩), frV K pl] w fun x w' => x = .returned (.tuple #[.int .i64 (appendM P L K pl).n, .int .i64 (appendM P L K pl).er]) ∧ LPost g v p lies (appendW f P L K pl W) f N (appendM P L K pl).p (appendM P L K pl).g w X G w' := by
  rw [appendM_roll hw hnf, appendW_roll hw hnf]
  obtain ⟨hk1, hk2, hk3⟩ := wrong_none hw
  obtain ⟨i0, hi0, hz0, hz1, hz2⟩ := info_parts info_ptr
  have hg1 := alloc_at w (.cells #[.int .i64 K, .string pl] 43)
  have hld := load_fr hg1
  have hB : Below w.heap.size w (w.alloc (.cells #[.int .i64 K, .string pl] 43)) := (Below.refl _ _).alloc (Nat.le_refl _) _
  have KE := Lib.hid (fun w => enc_ok 0 1 K pl (by omega) (by omega) (by omega) (by omega) (by omega) hk3 w)
  obtain ⟨bb, hbb⟩ : ∃ bb, bs (encL 0 1 (UInt8.ofNat K :: pl.data.toList)) = bb := ⟨_, rfl⟩
  rw [hbb] at KE
  have HX := Lib.hid hX
  have HG := Lib.hid hG
  have HA := Lib.hid ha
  have HG1 := Lib.hid hg1
  have HNF := Lib.hid hnf
  have HK3 := Lib.hid hk3
  have hfits := hP.fit
  have hbig := hP.big
  clear hbb hX hG ha hg1 hnf hk3
  go_enter Tryz.func40, Tryz.ntmps40
  go_wp2_with fail
  refine (KE.out _).mono ?_
  rintro x w1 ⟨rfl, hb⟩
  have hB1 : Below w.heap.size w w1 := hB.trans (hb.mono hB.size)
  have HB1 := Lib.hid hB1
  have HG2 := Lib.hid (later_of HG1.out hb)
  have HL1 := Lib.hid (LogIs.stays.below HG.out hB1)
  clear hb hld hB1
  have hways : L.segs = [] ∨ (∃ S, L.segs = L.segs.dropLast ++ [S] ∧ S.sealed = true) ∨ ∃ S, lastM L = some S ∧ 16 < S.e + many (7 + pl.size) := by
    rcases HNF.out with h | h
    · exact (lastM_none h).imp id .inl
    · exact .inr (.inr h)
  rcases hways with hnil | ⟨S, hsegs, hsl⟩ | ⟨S, hls, hfull⟩
  case' inl =>
    obtain ⟨sv, ps, hp, hobj, hrow, _⟩ := HL1.out.row
    rw [hnil] at hp
    rw [hnil, List.length_nil, List.eq_nil_of_length_eq_zero hp, List.map_nil] at hrow
    have KL := Lib.hid (last_empty hobj hrow)
    clear hp hobj hrow hnil
    go_wp2_with fail
    refine KL.out.mono ?_
    rintro x wc ⟨rfl, hbc⟩
    have HBc := Lib.hid hbc
    clear hbc KL
    go_wp2_with fail
  case' inr.inl =>
    obtain ⟨s, G1, sv, ps, hobj, hrow, hpl, hS, hG1G, hback⟩ := LogIs.top HL1.out hsegs
    have KL := Lib.hid (last_top hobj hrow (by simpa using hpl) (by rw [List.length_dropLast]; have := kL.many; omega) hS)
    rw [hsl] at KL
    clear hobj hrow hpl hS hG1G hback hsegs hsl
    go_wp2_with fail
    refine KL.out.mono ?_
    rintro x wc ⟨rfl, hbc⟩
    have HBc := Lib.hid hbc
    clear hbc KL
    go_wp2_with fail
  case' inr.inr =>
    obtain ⟨hsegs, hsealed⟩ := lastM_some hls
    have kS := kL.segs S (by rw [hsegs]; simp)
    obtain ⟨s, G1, sv, ps, hobj, hrow, hpl, hS, hG1G, hback⟩ := LogIs.top HL1.out hsegs
    have KL := Lib.hid (last_top hobj hrow (by simpa using hpl) (by rw [List.length_dropLast]; have := kL.many; omega) hS)
    rw [hsealed] at KL hS
    have HS := Lib.hid hS
    have HFULL := Lib.hid hfull
    have HGG := Lib.hid hG1G
    clear hobj hrow hpl hS hG1G hback hsegs hsealed hls hfull
    go_wp2_with fail
    refine KL.out.mono ?_
    rintro x w2 ⟨rfl, hb2⟩
    have hB2 := HB1.out.trans (hb2.mono HB1.out.size)
    have hld2 := load_fr (later_of HG2.out hb2)
    obtain ⟨F, H, hV, hO, aFH, hXF⟩ := HX.out
    have hV2 := ViewIs.stays.below hV hB2
    have hS2 := SegIs.stays.below HS.out hb2
    have aFG : Apart F G1 := fun i hi hc => HA.out i ((hXF i).2 (.inl hi)) (HGG.out i hc)
    have KA := Lib.hid (append_any hV2 hS2 aFG kS.st (by omega) kS.n kS.e1 kS.e16 (by have := kS.fe; have := kS.e16; omega) (by omega) K pl (by omega) (by omega) HK3.out)
    have HB2 := Lib.hid hb2
    clear hV hO aFH hXF hV2 hS2 aFG hb2 hB2 KL
    go_wp2_with fail
    refine KA.out.mono ?_
    rintro x wc (⟨_, rfl, hbc⟩ | ⟨hno, _⟩)
    rotate_left
    · have := HFULL.out
      omega
    have HBc := Lib.hid (HB2.out.trans (hbc.mono HB2.out.size))
    clear hbc KA hld2
    go_wp2_with fail
  all_goals
    have hBc := HB1.out.trans (HBc.out.mono HB1.out.size)
    have HBw := Lib.hid hBc
    have HLc := Lib.hid (LogIs.stays.below HG.out hBc)
    have HXc := Lib.hid (VP.stays.below HX.out hBc)
    have HG3 := Lib.hid (later_of HG2.out HBc.out)
    obtain ⟨F, H, hV, hO, aFH, hXF⟩ := HXc.out
    have aFG : Apart F G := fun i hi => HA.out i ((hXF i).2 (.inl hi))
    have aHG : Apart H G := fun i hi => HA.out i ((hXF i).2 (.inr hi))
    cases ht : takeM P L.id with
    | none =>
      have KR := Lib.hid (roll_none hO HLc.out hP kL ht)
      have hrM : rollM P L (K : Int) pl = ⟨L, P, 0, 32⟩ := by unfold rollM; rw [ht]
      have hrW : rollW f P L (K : Int) pl W = W := by unfold rollW; rw [ht]
      have HrM := Lib.hid hrM
      have HrW := Lib.hid hrW
      clear hrM hrW ht hV hO aFH hXF aFG aHG hBc
      refine KR.out.mono ?_
      rintro x w5 ⟨rfl, hb5⟩
      go_wp2
      exact bodyPost_ret (v := .tuple #[.int .i64 0, .int .i64 32]) (by simp [results, Tryz.results40, go_sem]) rfl ⟨by rw [HrM.out]; rfl, by rw [HrM.out, HrW.out]; exact LPost.of_below HX.out HG.out HA.out (HBw.out.trans (hb5.mono HBw.out.size))⟩
    | some y =>
      obtain ⟨i, st, P'⟩ := y
      have KR := Lib.hid (roll_some hV hO HLc.out aFH aFG aHG hP kL (by omega) ht)
      have hrM : rollM P L (K : Int) pl = ⟨⟨L.id, L.gen, L.base, L.next + 1, L.segs ++ [(newSeg i st L.next).more K pl]⟩, P', L.next, 0⟩ := by unfold rollM; rw [ht]
      have hrW : rollW f P L (K : Int) pl W = (W ++ sealAt (f + (2 + 16 * i + 0)) st 1 [pad52 (hdrL (L.id, L.gen, st, L.next))]) ++ sealAt (f + (2 + 16 * i + 1)) st 2 (frP st 1 K pl) := by unfold rollW; rw [ht]; rfl
      have HrM := Lib.hid hrM
      have HrW := Lib.hid hrW
      obtain ⟨hil, _⟩ := takeM_lt ht
      obtain ⟨_, hct, hst, _⟩ := takeM_some ht
      have hep := hP.ep
      have hst2 : st < 4294967296 := by omega
      have HXF := Lib.hid hXF
      have HFH := Lib.hid aFH
      clear hrM hrW ht hV hO aFH hXF aFG aHG hBc hst
      refine KR.out.mono ?_
      rintro x w5 ⟨s, F', G1, rfl, hV5, hO5, hL5, hS5, hU5, hF5, hG5, hA5⟩
      have hg5 := hU5.at_ HG3.out (fun hc => by
        have := VP.there HX.out w.heap.size ((HXF.out _).2 hc)
        omega)
      have hld5 := load_fr hg5
      have KA := Lib.hid (append_go hV5 hS5 hA5 hst2 (by omega) (by omega) (by omega) (by omega) (by simp) (by simp [sealAt]; omega) K pl (by omega) (by omega) HK3.out (many_fits pl HK3.out) K rfl)
      have HU5 := Lib.hid hU5
      have HL5 := Lib.hid hL5
      have HO5 := Lib.hid hO5
      have HF5 := Lib.hid hF5
      have HGn5 := Lib.hid hG5
      have HA5 := Lib.hid hA5
      clear hV5 hO5 hL5 hS5 hU5 hF5 hG5 hA5 hg5 KR
      go_wp2_with fail
      refine KA.out.mono ?_
      rintro x w6 ⟨F6, G6, rfl, hV6, hS6, hU6, hF6, hG6, hA6⟩
      have hw5 := HU5.out.size
      have hwc := HBw.out.size
      have hFX : ∀ i, F i → X i := fun i hi => (HXF.out i).2 (.inl hi)
      have hHX : ∀ i, H i → X i := fun i hi => (HXF.out i).2 (.inr hi)
      have hXlt := fun i (hi : X i) => VP.there HX.out i hi
      have hGlt := fun i (hi : G i) => LogIs.there HG.out i hi
      have hF5w : ∀ i, F' i → F i ∨ wc.heap.size ≤ i := HF5.out
      have hL6 := LogIs.stays HL5.out hU6 (fun i hi hc => hc.elim (fun hc => (hF5w i hc).elim (fun h => HA.out i (hFX i h) hi) (fun h => by have := hGlt i hi; omega)) (fun hc => by have := HGn5.out i hc; have := hGlt i hi; omega))
      have hO6 := PoolIs.stays HO5.out hU6 (fun i hi hc => hc.elim (fun hc => (hF5w i hc).elim (fun h => HFH.out i h hi) (fun h => by have := hXlt i (hHX i hi); omega)) (fun hc => by have := HGn5.out i hc; have := hXlt i (hHX i hi); omega))
      have hF6w : ∀ i, F6 i → F i ∨ w.heap.size ≤ i := fun i hi => (hF6 i hi).elim (fun h => (hF5w i h).imp id (fun h => by omega)) (fun h => .inr (by omega))
      have hG6w : ∀ i, G6 i → w.heap.size ≤ i := fun i hi => (hG6 i hi).elim (fun h => by have := HGn5.out i h; omega) (fun h => by omega)
      have hS6' : SegIs s v ((newSeg i st L.next).more K pl).n (((newSeg i st L.next).more K pl).hdr L.id L.gen) ((newSeg i st L.next).more K pl).fs ((newSeg i st L.next).more K pl).e ((newSeg i st L.next).more K pl).sealed w6 G6 := hS6
      obtain ⟨sv, xs, hobj6, hrow6, hne6, hpush⟩ := LogIs.push hL6 hS6' (fun i hi hc => by have := hG6w i hc; have := hGlt i hi; omega)
      obtain ⟨c0, c1, c2, c3, c4, c5, c6, cf⟩ := seven_of hobj6
      have hU6w : Upd (Both X G) w w6 := ((Upd.of_below' HBw.out).trans (HU5.out.mono (T := Both X G) (fun i _ hi => .inl (hi.elim (hFX i) (hHX i)))) (fun _ _ h => h)).trans hU6 (fun i hiw hi => by
        rcases hi with hi | hi
        · rcases hF5w i hi with h | h
          · exact .inl (hFX i h)
          · omega
        · have := HGn5.out i hi; omega)
      have HV6 := Lib.hid hV6
      have HO6 := Lib.hid hO6
      have HU6w := Lib.hid hU6w
      have HF6w := Lib.hid hF6w
      have HG6w := Lib.hid hG6w
      have HA6 := Lib.hid hA6
      have HPU := Lib.hid hpush
      have HR6 := Lib.hid hrow6
      have hsz6 := hU6w.size
      have HFX := Lib.hid hFX
      have HHX := Lib.hid hHX
      have HXL := Lib.hid hXlt
      have HGL := Lib.hid hGlt
      have hsegL := kL.many
      obtain ⟨sn, hsn⟩ : ∃ sn, L.segs.length = sn := ⟨_, rfl⟩
      obtain ⟨svo, svc, rfl⟩ := hrow6.slice
      rw [hsn] at HR6 HPU c6 hsegL hne6 hmany
      clear hV6 hS6 hU6 hF6 hG6 hA6 hL6 hO6 hF6w hG6w hS6' hobj6 hrow6 hpush hU6w KA hld5 hFX hHX hXlt hGlt hF5w hne6
      have hbs := build_ptr s
      clear hsn
      go_wp2_with (at_builtin; refine wpList_append_off _ rfl (.tmp 70) (.tmp 72) 73 rfl 83 i0 _ 8 Tryz.underlying73 hi0 hz0 hz1 hz2 rfl (.slice svo sn svc) sn xs rfl (HR6.out.below ((Below.refl _ _).alloc (Nat.le_refl _) (.cells #[ptrV s] 83))) ⟨w6.heap.size, 0, none⟩ 1 (ptrV s) rfl (by rw [cell_of (alloc_at w6 _)]; rfl) rfl (by unfold maxLen; omega) (by omega) ?_; intro v9 w9 hrow9 hgrow hat; obtain ⟨vo, vc, rfl⟩ := hrow9.slice; obtain ⟨hobj9, G2, hL9, hU9, hG9⟩ := HPU.out _ w9 _ ((Below.refl _ _).alloc (Nat.le_refl _) _) hrow9 hgrow hat; obtain ⟨d0, d1, d2, d3, d4, d5, d6, df⟩ := seven_of hobj9; have KP := Lib.hid (put_log hL9 (show L.next ≤ _ by omega)); have HL9 := Lib.hid hL9; have HU9 := Lib.hid hU9; have HG9 := Lib.hid hG9; clear hrow9 hgrow hat hobj9 hL9 hU9 hG9)
      refine KP.out.mono ?_
      rintro x w11 ⟨rfl, hL11, hU11⟩
      have HL11 := Lib.hid hL11
      have HU11 := Lib.hid hU11
      clear hL11 hU11 KP
      go_wp2
      refine bodyPost_ret (v := .tuple #[.int .i64 L.next, .int .i64 0]) (by simp [results, Tryz.results40, go_sem]) rfl ⟨by rw [HrM.out], ?_⟩
      rw [HrM.out, HrW.out]
      have hsw6 : w.heap.size ≤ w6.heap.size := hsz6
      have hGg : ∀ i, G2 i → G i ∨ w.heap.size ≤ i := fun i hi => (HG9.out i hi).elim .inl (fun h => h.elim (fun h => .inr (HG6w.out i h)) (fun h => .inr (by omega)))
      have hF6G2 : ∀ i, F6 i → ¬ G2 i := fun i hi hc => (HG9.out i hc).elim (fun h => (HF6w.out i hi).elim (fun hf => HA.out i (HFX.out i hf) h) (fun hf => by have := HGL.out i h; omega)) (fun h => h.elim (fun h => HA6.out i hi h) (fun h => by have := ViewIs.there HV6.out i hi; omega))
      have hHG2 : ∀ i, H i → ¬ G2 i := fun i hi hc => (hGg i hc).elim (fun h => HA.out i (HHX.out i hi) h) (fun h => by have := HXL.out i (HHX.out i hi); omega)
      have hF6G : ∀ i, F6 i → ¬ G i := fun i hi hc => (HF6w.out i hi).elim (fun hf => HA.out i (HFX.out i hf) hc) (fun hf => by have := HGL.out i hc; omega)
      have hHG : ∀ i, H i → ¬ G i := fun i hi hc => HA.out i (HHX.out i hi) hc
      refine ⟨fun i => F6 i ∨ H i, G2, ⟨F6, H, ViewIs.stays (ViewIs.stays HV6.out HU9.out hF6G) HU11.out hF6G2, PoolIs.stays (PoolIs.stays HO6.out HU9.out hHG) HU11.out hHG2, fun i hi hc => (HF6w.out i hi).elim (fun hf => HFH.out i hf hc) (fun hf => by have := HXL.out i (HHX.out i hc); omega), fun i => Iff.rfl⟩, HL11.out, fun i hi hc => hi.elim (fun hi => hF6G2 i hi hc) (fun hi => hHG2 i hi hc), ?_, ?_⟩
      · exact (HU6w.out.trans HU9.out (fun i _ hi => .inr hi)).trans HU11.out (fun i hiw hi => (hGg i hi).elim .inr (fun h => by omega))
      · rintro i ((hi | hi) | hi)
        · exact (HF6w.out i hi).imp (fun h => .inl (HFX.out i h)) id
        · exact .inl (.inl (HHX.out i hi))
        · exact (hGg i hi).imp .inr id
/-- Append, whole. -/
theorem append_log {f N g v p : Nat} {lies : List (List UInt8)} {W : List (Nat × List UInt8)} {P : PoolM} {L : LogM} {w : World} {X G : Foot} (hX : VP v p lies W f N P w X) (hG : LogIs g v p L w G) (ha : Apart X G) (hP : PoolOk N P) (kL : LogOk N L) (hW : W.length ≤ 800000000) (hnx : L.next + 1 ≤ 1099511627776) (hmany : L.segs.length + 1 ≤ 1000) (k : Int) (pl : ByteArray) :
    Calls Tryz.prog 40 #[.pointer (some ⟨g, 0, none⟩), frV k pl] w fun x w' => x = .returned (.tuple #[.int .i64 (appendM P L k pl).n, .int .i64 (appendM P L k pl).er]) ∧ LPost g v p lies (appendW f P L k pl W) f N (appendM P L k pl).p (appendM P L k pl).g w X G w' := by
  by_cases hw : wrongP k pl.size = 0
  · obtain ⟨K, rfl⟩ := Int.eq_ofNat_of_zero_le (show 0 ≤ k by have := (wrong_none hw).1; omega)
    cases hl : lastM L with
    | none => exact append_log_roll hX hG ha hP kL hW hnx hmany K pl hw (.inl hl)
    | some S =>
      by_cases hf : S.e + many (7 + pl.size) ≤ 16
      · exact append_log_fit hX hG ha hP kL (by omega) hnx K pl hw hl hf
      · exact append_log_roll hX hG ha hP kL hW hnx hmany K pl hw (.inr ⟨S, hl, by omega⟩)
  · exact append_log_wrong hX hG ha k pl hw
end Go.Proofs.YtoobiffhjjfpgaaGreat.Print
