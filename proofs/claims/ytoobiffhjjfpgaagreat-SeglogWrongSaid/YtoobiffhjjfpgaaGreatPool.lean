/- A row of one-cell elements that lies in a block from a place on: what is left of an owned row behind s = s[1:]; append. weighlock: a pool and a log as plain data: what calls make of them. pool: New, Size, those, free, Take, Claim, Give, Free; a pool as an object. pool: New, Take, Claim, Give. -/
import Derived.Test.YtoobiffhjjfpgaaGreatOff
import Derived.Test.YtoobiffhjjfpgaaGreatSeg
import Derived.Deep.AppendLies
import Derived.ArgAppend
import Derived.Test.YtoobiffhjjfpgaaGreatSegA
namespace Go.Proofs.YtoobiffhjjfpgaaGreat.Print
open Go.RowKit

/-- Places of what counts. -/
def idxs (p : Nat → Bool) : Nat → List Nat → List Nat
  | _, [] => []
  | k, o :: r => if p o then k :: idxs p (k + 1) r else idxs p (k + 1) r
theorem idxs_snoc (p : Nat → Bool) (o : Nat) : ∀ (l : List Nat) (k : Nat), idxs p k (l ++ [o]) = idxs p k l ++ (if p o then [k + l.length] else [])
  | [], k => by simp only [List.nil_append, idxs, List.length_nil, Nat.add_zero]
  | a :: r, k => by
    simp only [List.cons_append, idxs, idxs_snoc p o r (k + 1), List.length_cons]
    rw [show k + 1 + r.length = k + (r.length + 1) by omega]
    split <;> simp
theorem idxs_length (p : Nat → Bool) : ∀ (l : List Nat) (k : Nat), (idxs p k l).length = (l.filter p).length
  | [], _ => rfl
  | a :: r, k => by
    simp only [idxs, List.filter_cons]
    split <;> simp [idxs_length p r (k + 1)]
theorem idxs_mem (p : Nat → Bool) : ∀ (l : List Nat) (k i : Nat), i ∈ idxs p k l → k ≤ i ∧ ∃ (h : i - k < l.length), p l[i - k] = true
  | [], _, _, h => by simp [idxs] at h
  | a :: r, k, i, h => by
    simp only [idxs] at h
    have hr : i ∈ idxs p (k + 1) r → k ≤ i ∧ ∃ (h : i - k < (a :: r).length), p (a :: r)[i - k] = true := fun h => by
      obtain ⟨h1, h2, h3⟩ := idxs_mem p r (k + 1) i h
      refine ⟨by omega, by simp only [List.length_cons]; omega, ?_⟩
      have e : i - k = (i - (k + 1)) + 1 := by omega
      simp only [e, List.getElem_cons_succ]
      exact h3
    by_cases hp : p a = true
    · rw [if_pos hp] at h
      rcases List.mem_cons.1 h with rfl | h
      · exact ⟨Nat.le_refl _, by simp, by simpa using hp⟩
      · exact hr h
    · rw [if_neg hp] at h
      exact hr h
def isFree (o : Nat) : Bool := decide (o = 0)
/-- The free segments. -/
def freeL (O : List Nat) : List Nat := idxs isFree 0 O
theorem freeL_snoc (l : List Nat) (o : Nat) : freeL (l ++ [o]) = freeL l ++ (if o = 0 then [l.length] else []) := by
  unfold freeL
  rw [idxs_snoc, Nat.zero_add]
  congr 1
  unfold isFree
  by_cases h : o = 0 <;> simp [h]
theorem freeL_mem {O : List Nat} {i : Nat} (h : i ∈ freeL O) : ∃ (h : i < O.length), O[i] = 0 := by
  obtain ⟨_, h2, h3⟩ := idxs_mem _ _ _ _ h
  exact ⟨h2, of_decide_eq_true h3⟩
/-- A pool. -/
structure PoolM where
  O : List Nat
  ep : Nat
  ct : Nat
structure PoolOk (N : Nat) (P : PoolM) : Prop where
  fit : 2 + 16 * P.O.length ≤ N
  some_ : 1 ≤ P.O.length
  big : N ≤ 8192
  ep : P.ep ≤ 65535
  ct : P.ct ≤ 65536
/-- Take. -/
def takeM (P : PoolM) (id : Nat) : Option (Nat × Nat × PoolM) :=
  match freeL P.O with
  | [] => none
  | i :: _ => if P.ct ≤ 65535 then some (i, 65536 * P.ep + P.ct, ⟨P.O.set i id, P.ep, P.ct + 1⟩) else none
def giveM (P : PoolM) (i : Nat) : PoolM := ⟨P.O.set i 0, P.ep, P.ct⟩
theorem takeM_some {P : PoolM} {id i st : Nat} {P' : PoolM} (h : takeM P id = some (i, st, P')) : (∃ r, freeL P.O = i :: r) ∧ P.ct ≤ 65535 ∧ st = 65536 * P.ep + P.ct ∧ P' = ⟨P.O.set i id, P.ep, P.ct + 1⟩ := by
  unfold takeM at h
  cases hf : freeL P.O with
  | nil => rw [hf] at h; cases h
  | cons a r =>
    rw [hf] at h
    simp only at h
    by_cases hc : P.ct ≤ 65535
    · rw [if_pos hc] at h
      simp only [Option.some.injEq, Prod.mk.injEq] at h
      obtain ⟨rfl, rfl, rfl⟩ := h
      exact ⟨⟨r, rfl⟩, hc, rfl, rfl⟩
    · rw [if_neg hc] at h; cases h
theorem takeM_none {P : PoolM} {id : Nat} (h : takeM P id = none) : freeL P.O = [] ∨ 65535 < P.ct := by
  unfold takeM at h
  cases hf : freeL P.O with
  | nil => exact .inl rfl
  | cons a r =>
    rw [hf] at h
    simp only at h
    by_cases hc : P.ct ≤ 65535
    · rw [if_pos hc] at h; cases h
    · exact .inr (by omega)
theorem takeM_lt {P : PoolM} {id i st : Nat} {P' : PoolM} (h : takeM P id = some (i, st, P')) : ∃ (h : i < P.O.length), P.O[i] = 0 := by
  obtain ⟨⟨r, hr⟩, _⟩ := takeM_some h
  exact freeL_mem (by rw [hr]; exact List.mem_cons_self)
theorem takeM_ok {N : Nat} {P : PoolM} (hP : PoolOk N P) {id i st : Nat} {P' : PoolM} (h : takeM P id = some (i, st, P')) : PoolOk N P' := by
  obtain ⟨_, hc, _, rfl⟩ := takeM_some h
  exact ⟨by simpa using hP.fit, by simpa using hP.some_, hP.big, hP.ep, by show P.ct + 1 ≤ 65536; omega⟩
theorem giveM_ok {N : Nat} {P : PoolM} (hP : PoolOk N P) (i : Nat) : PoolOk N (giveM P i) :=
  ⟨by simpa [giveM] using hP.fit, by simpa [giveM] using hP.some_, hP.big, hP.ep, hP.ct⟩
/-- A segment of a log. -/
structure SegM where
  n : Nat
  st : Nat
  base : Nat
  e : Nat
  fs : List Fr
  sealed : Bool
/-- With a frame more. -/
def SegM.more (s : SegM) (k : Int) (p : ByteArray) : SegM := ⟨s.n, s.st, s.base, s.e + many (7 + p.size), s.fs ++ [(k, p)], s.sealed⟩
/-- A log. -/
structure LogM where
  id : Nat
  gen : Nat
  base : Nat
  next : Nat
  segs : List SegM
def SegM.hdr (s : SegM) (id gen : Nat) : H4 := (id, gen, s.st, s.base)
/-- A segment as it may be in a log. -/
structure SegOk (N : Nat) (s : SegM) : Prop where
  n : 2 + 16 * s.n + 16 ≤ N
  st : s.st < 4294967296
  base : s.base ≤ 1099511627776
  e1 : 1 ≤ s.e
  e16 : s.e ≤ 16
  fe : s.fs.length + 1 ≤ s.e
theorem SegOk.more {N : Nat} {s : SegM} (h : SegOk N s) (k : Int) (p : ByteArray) (hf : s.e + many (7 + p.size) ≤ 16) : SegOk N (s.more k p) := by
  have hm : 1 ≤ many (7 + p.size) := by unfold many; split <;> omega
  have := h.fe
  have := h.e1
  exact ⟨h.n, h.st, h.base, by show 1 ≤ s.e + _; omega, hf, by show (s.fs ++ [(k, p)]).length + 1 ≤ s.e + _; rw [List.length_append]; simp; omega⟩
structure LogOk (N : Nat) (L : LogM) : Prop where
  id1 : 1 ≤ L.id
  id2 : L.id ≤ 65535
  gen : L.gen < 4294967296
  base : L.base ≤ 1099511627776
  next : L.next ≤ 1099511627776
  segs : ∀ s ∈ L.segs, SegOk N s
  many : L.segs.length ≤ 1000
/-- Does a frame take no new segment? -/
def fitsM (L : LogM) (k : Int) (p : ByteArray) : Bool := decide (wrongP k p.size = 0) && match L.segs.getLast? with
  | some s => !s.sealed && decide (s.e + many (7 + p.size) ≤ 16)
  | none => false
theorem dropLast_last {α : Type} {l : List α} {x : α} (h : l.getLast? = some x) : l = l.dropLast ++ [x] := by
  obtain ⟨ys, rfl⟩ := List.getLast?_eq_some_iff.1 h
  simp
/-- The last segment, if it takes frames. -/
def lastM (L : LogM) : Option SegM := match L.segs.getLast? with
  | some s => if s.sealed then none else some s
  | none => none
theorem lastM_some {L : LogM} {s : SegM} (h : lastM L = some s) : L.segs = L.segs.dropLast ++ [s] ∧ s.sealed = false := by
  unfold lastM at h
  cases hl : L.segs.getLast? with
  | none => rw [hl] at h; cases h
  | some x =>
    rw [hl] at h
    simp only at h
    by_cases hs : x.sealed = true
    · rw [if_pos hs] at h; cases h
    · rw [if_neg hs] at h
      obtain rfl := Option.some.inj h
      exact ⟨dropLast_last hl, by simpa using hs⟩
theorem lastM_none {L : LogM} (h : lastM L = none) : L.segs = [] ∨ ∃ s, L.segs = L.segs.dropLast ++ [s] ∧ s.sealed = true := by
  unfold lastM at h
  cases hl : L.segs.getLast? with
  | none => exact .inl (List.getLast?_eq_none_iff.1 hl)
  | some x =>
    rw [hl] at h
    simp only at h
    by_cases hs : x.sealed = true
    · exact .inr ⟨x, dropLast_last hl, hs⟩
    · rw [if_neg hs] at h; cases h
theorem fitsM_eq (L : LogM) (k : Int) (p : ByteArray) : fitsM L k p = (decide (wrongP k p.size = 0) && match lastM L with
  | some s => decide (s.e + many (7 + p.size) ≤ 16)
  | none => false) := by
  unfold fitsM lastM
  cases L.segs.getLast? with
  | none => rfl
  | some x => cases hx : x.sealed <;> simp [hx]
/-- What an Append comes to. -/
structure PutM where
  g : LogM
  p : PoolM
  n : Nat
  er : Int
def newSeg (i st base : Nat) : SegM := ⟨i, st, base, 1, [], false⟩
def rollM (P : PoolM) (L : LogM) (k : Int) (p : ByteArray) : PutM := match takeM P L.id with
  | none => ⟨L, P, 0, 32⟩
  | some (i, st, P') => ⟨⟨L.id, L.gen, L.base, L.next + 1, L.segs ++ [(newSeg i st L.next).more k p]⟩, P', L.next, 0⟩
def appendM (P : PoolM) (L : LogM) (k : Int) (p : ByteArray) : PutM :=
  if wrongP k p.size ≠ 0 then ⟨L, P, 0, wrongP k p.size⟩
  else match lastM L with
  | some s => if s.e + many (7 + p.size) ≤ 16 then ⟨⟨L.id, L.gen, L.base, L.next + 1, L.segs.dropLast ++ [s.more k p]⟩, P, L.next, 0⟩ else rollM P L k p
  | none => rollM P L k p
/-- What waits behind it. -/
def rollW (f : Nat) (P : PoolM) (L : LogM) (k : Int) (p : ByteArray) (W : List (Nat × List UInt8)) : List (Nat × List UInt8) := match takeM P L.id with
  | none => W
  | some (i, st, _) => (W ++ sealAt (f + (2 + 16 * i + 0)) st 1 [pad52 (hdrL (L.id, L.gen, st, L.next))]) ++ sealAt (f + (2 + 16 * i + 1)) st 2 (frP st 1 k.toNat p)
def appendW (f : Nat) (P : PoolM) (L : LogM) (k : Int) (p : ByteArray) (W : List (Nat × List UInt8)) : List (Nat × List UInt8) :=
  if wrongP k p.size ≠ 0 then W
  else match lastM L with
  | some s => if s.e + many (7 + p.size) ≤ 16 then W ++ sealAt (f + (2 + 16 * s.n + s.e)) s.st (s.fs.length + 2) (frP s.st s.e k.toNat p) else rollW f P L k p W
  | none => rollW f P L k p W
theorem frP_le (st e k : Nat) (p : ByteArray) (h : p.size ≤ 773) : (frP st e k p).length ≤ 15 := by rw [show (frP st e k p).length = many (7 + p.size) from pieces_length _ _]; unfold many; split <;> omega
theorem many_fits (p : ByteArray) (h : p.size ≤ 773) : 1 + many (7 + p.size) ≤ 16 := by unfold many; split <;> omega
theorem rollW_length (f : Nat) (P : PoolM) (L : LogM) (k : Int) (p : ByteArray) (W : List (Nat × List UInt8)) (h : p.size ≤ 773) : W.length ≤ (rollW f P L k p W).length ∧ (rollW f P L k p W).length ≤ W.length + 16 := by
  unfold rollW
  cases takeM P L.id with
  | none => exact ⟨Nat.le_refl _, by simp⟩
  | some x =>
    obtain ⟨i, st, P'⟩ := x
    have := frP_le st 1 k.toNat p h
    simp only [List.length_append, sealAt_length, List.length_cons, List.length_nil]
    omega
theorem appendW_length (f : Nat) (P : PoolM) (L : LogM) (k : Int) (p : ByteArray) (W : List (Nat × List UInt8)) : W.length ≤ (appendW f P L k p W).length ∧ (appendW f P L k p W).length ≤ W.length + 16 := by
  unfold appendW
  by_cases hw : wrongP k p.size ≠ 0
  · rw [if_pos hw]; omega
  · rw [if_neg hw]
    have hp := (wrong_none (k := k) (n := p.size) (by omega)).2.2
    have hr := rollW_length f P L k p W hp
    cases lastM L with
    | none => exact hr
    | some s =>
      simp only
      by_cases hf : s.e + many (7 + p.size) ≤ 16
      · rw [if_pos hf]
        have := frP_le s.st s.e k.toNat p hp
        rw [List.length_append, sealAt_length]
        omega
      · rw [if_neg hf]; exact hr
theorem rollM_ok {N : Nat} {P : PoolM} {L : LogM} (hP : PoolOk N P) (hL : LogOk N L) (k : Int) (p : ByteArray) (hw : wrongP k p.size = 0) (hn : L.next + 1 ≤ 1099511627776) (hs : L.segs.length + 1 ≤ 1000) : PoolOk N (rollM P L k p).p ∧ LogOk N (rollM P L k p).g := by
  have hp := (wrong_none hw).2.2
  unfold rollM
  cases ht : takeM P L.id with
  | none => exact ⟨hP, hL⟩
  | some x =>
    obtain ⟨i, st, P'⟩ := x
    obtain ⟨hi, _⟩ := takeM_lt ht
    obtain ⟨_, hc, rfl, _⟩ := takeM_some ht
    have hfit := hP.fit
    have hep := hP.ep
    refine ⟨takeM_ok hP ht, hL.id1, hL.id2, hL.gen, hL.base, hn, fun s hs => ?_, by show (L.segs ++ _).length ≤ 1000; rw [List.length_append]; simpa using hs⟩
    rcases List.mem_append.1 hs with h | h
    · exact hL.segs s h
    · obtain rfl := List.mem_singleton.1 h
      exact SegOk.more ⟨by show 2 + 16 * i + 16 ≤ N; omega, by show 65536 * P.ep + P.ct < _; omega, hL.next, Nat.le_refl _, by show 1 ≤ 16; omega, Nat.le_refl _⟩ k p (many_fits p hp)
theorem appendM_ok {N : Nat} {P : PoolM} {L : LogM} (hP : PoolOk N P) (hL : LogOk N L) (k : Int) (p : ByteArray) (hn : L.next + 1 ≤ 1099511627776) (hs : L.segs.length + 1 ≤ 1000) : PoolOk N (appendM P L k p).p ∧ LogOk N (appendM P L k p).g := by
  unfold appendM
  by_cases hw : wrongP k p.size ≠ 0
  · rw [if_pos hw]; exact ⟨hP, hL⟩
  · rw [if_neg hw]
    have hr := rollM_ok hP hL k p (by omega) hn hs
    cases hl : lastM L with
    | none => exact hr
    | some s =>
      simp only
      by_cases hf : s.e + many (7 + p.size) ≤ 16
      · rw [if_pos hf]
        obtain ⟨hsegs, _⟩ := lastM_some hl
        refine ⟨hP, hL.id1, hL.id2, hL.gen, hL.base, hn, fun x hx => ?_, ?_⟩
        · rcases List.mem_append.1 hx with h | h
          · exact hL.segs x (List.dropLast_subset _ h)
          · obtain rfl := List.mem_singleton.1 h
            exact (hL.segs s (by rw [hsegs]; simp)).more k p hf
        · have : L.segs.length = L.segs.dropLast.length + 1 := by conv => lhs; rw [hsegs]
                                                                  simp
          show (L.segs.dropLast ++ _).length ≤ 1000
          rw [List.length_append]
          have := hL.many
          simp only [List.length_cons, List.length_nil]
          omega
      · rw [if_neg hf]; exact hr
end Go.Proofs.YtoobiffhjjfpgaaGreat.Print

namespace Go.Proofs.YtoobiffhjjfpgaaGreat.Print
open Go.RowKit
attribute [local go_sem] run_loadVar_scalar

abbrev poolObj (ov : Value) (ep ct : Nat) : Obj := .cells #[ov, .int .i64 ep, .int .i64 ct] 109
/-- A pool as an object. -/
def PoolIs (p : Nat) (P : PoolM) (w : World) (H : Foot) : Prop :=
  ∃ ov, w.heap[p]? = some (poolObj ov P.ep P.ct) ∧ w.ownsRow 0 3 1 ov P.O.length (oC P.O) ∧ ov.ownBlock ≠ some p ∧ ∀ i, H i ↔ i = p ∨ ov.ownBlock = some i
theorem PoolIs.there {p : Nat} {P : PoolM} : There (PoolIs p P) := by
  rintro w H ⟨ov, h1, h2, h3, hH⟩ i hi
  rcases (hH i).1 hi with rfl | h
  · exact lt_of h1
  · exact (h2.lt _ h).2
theorem PoolIs.stays {p : Nat} {P : PoolM} : Stays (PoolIs p P) := by
  rintro w w' S H ⟨ov, h1, h2, h3, hH⟩ hU hn
  exact ⟨ov, hU.at_ h1 (hn p ((hH p).2 (.inl rfl))), ownsRow_upd hU h2 (fun i hi => hn i ((hH i).2 (.inr hi))), h3, hH⟩
theorem PoolIs.at_ {p : Nat} {P : PoolM} {w : World} {H : Foot} (h : PoolIs p P w H) (h0 : 1 ≤ P.O.length) : ∃ (b cap : Nat) (cur : Array Value), w.heap[p]? = some (poolObj (.slice (some ⟨b, 0, none⟩) P.O.length cap) P.ep P.ct) ∧ w.heap[b]? = some (.cells cur 3 (0, 0)) ∧ b ≠ p ∧ P.O.length ≤ cap ∧ cap ≤ maxLen ∧ cur.size = cap ∧ (∀ j, (hj : j < P.O.length) → cur[j]? = some (.int .i64 P.O[j])) ∧ ∀ i, H i ↔ i = p ∨ i = b := by
  obtain ⟨ov, h1, h2, h3, hH⟩ := h
  rcases h2.2 with ⟨rfl, h⟩ | ⟨g, cap, cur, rfl, _, hg, a1, a2, a3, a4⟩
  · omega
  · refine ⟨g, cap, cur, h1, hg, fun e => h3 (by rw [e]; rfl), a1, a2, by omega, fun j hj => ?_, fun i => ?_⟩
    · rw [← oC_at _ j hj, ← a4, List.getElem?_take_of_lt (by omega)]
      simp
    · rw [hH i]
      simp only [Value.ownBlock, Option.some.injEq]
      exact or_congr Iff.rfl ⟨fun e => e.symm, fun e => e.symm⟩
/-- One owner is another one, and so is the count. -/
theorem PoolIs.set_ {p : Nat} {P : PoolM} {w : World} {H : Foot} (h : PoolIs p P w H) {b cap : Nat} (hp : w.heap[p]? = some (poolObj (.slice (some ⟨b, 0, none⟩) P.O.length cap) P.ep P.ct)) (i o : Nat) (_hi : i < P.O.length) :
    PoolIs p ⟨P.O.set i o, P.ep, P.ct⟩ (w.setCell ⟨b, i, none⟩ (.int .i64 o)) H ∧ Upd H w (w.setCell ⟨b, i, none⟩ (.int .i64 o)) := by
  obtain ⟨ov, h1, h2, h3, hH⟩ := h
  rw [h1] at hp
  simp at hp
  subst hp
  have hbp : b ≠ p := fun e => h3 (by rw [e]; rfl)
  have hU : Upd (fun k => k = b) w (w.setCell ⟨b, i, none⟩ (.int .i64 o)) := (Upd.refl (fun k => k = b) w).setCell (p := ⟨b, i, none⟩) (fun _ => rfl) _
  refine ⟨⟨.slice (some ⟨b, 0, none⟩) P.O.length cap, hU.at_ h1 (fun e => hbp e.symm), ?_, h3, hH⟩, hU.mono (fun k _ e => (hH k).2 (.inr (by rw [e]; rfl)))⟩
  rcases h2.2 with ⟨h, _⟩ | ⟨g, cap', cur, hv, _, hg, a1, a2, a3, a4⟩
  · cases h
  · simp at hv
    obtain ⟨rfl, rfl⟩ := hv
    refine ⟨by simp [oC], .inr ⟨b, cap, cur.setIfInBounds i (.int .i64 o), by simp, Nat.zero_le _, cells_set _ _ _ _ _ _ hg _, by simpa using a1, a2, by simpa using a3, ?_⟩⟩
    rw [← oC_set, ← a4]
    simp [List.take_set]
theorem PoolIs.count {p : Nat} {P : PoolM} {w : World} {H : Foot} (h : PoolIs p P w H) (c : Int) (c' : Nat) (hc : c = c') :
    PoolIs p ⟨P.O, P.ep, c'⟩ (w.setCell ⟨p, 2, none⟩ (.int .i64 c)) H ∧ Upd H w (w.setCell ⟨p, 2, none⟩ (.int .i64 c)) := by
  subst hc
  obtain ⟨ov, h1, h2, h3, hH⟩ := h
  have hU : Upd (fun k => k = p) w (w.setCell ⟨p, 2, none⟩ (.int .i64 c')) := (Upd.refl (fun k => k = p) w).setCell (p := ⟨p, 2, none⟩) (fun _ => rfl) _
  exact ⟨⟨ov, by rw [cells_set _ _ _ _ _ _ h1]; rfl, ownsRow_upd hU h2 (fun i hi e => h3 (by rw [hi, e])), h3, hH⟩, hU.mono (fun k _ e => (hH k).2 (.inl e))⟩
theorem psize_any {p : Nat} {P : PoolM} {w : World} {H : Foot} (h : PoolIs p P w H) (h0 : 1 ≤ P.O.length) : Calls Tryz.prog 133 #[.pointer (some ⟨p, 0, none⟩)] w fun x w' => x = .returned (.int .i64 P.O.length) ∧ w = w' := by
  obtain ⟨b, cap, cur, hp, hb, hne, hl, hm, hs, hc, hH⟩ := h.at_ h0
  obtain ⟨c0, c1, c2, hf⟩ := three_of hp
  clear hc hH
  go_enter Tryz.func133, Tryz.ntmps133
  go_wp2
  go_ret
  exact ⟨rfl, rfl⟩
def mayLog (id : Int) : Bool := decide (0 < id) && decide (id ≤ 65535)
theorem pmay_any (id : Int) (w : World) : Calls Tryz.prog 121 #[.int .i64 id] w fun x w' => x = .returned (.bool (mayLog id)) ∧ w = w' := by
  obtain ⟨m, hm⟩ : ∃ m, mayLog id = m := ⟨_, rfl⟩
  rw [hm]
  unfold mayLog at hm
  generalize h1 : decide (0 < id) = b1 at hm
  generalize h2 : decide (id ≤ 65535) = b2 at hm
  go_enter Tryz.func121, Tryz.ntmps121
  cases b1
  · obtain rfl : false = m := by simpa using hm
    go_wp2
    go_ret
    exact ⟨rfl, rfl⟩
  · obtain rfl : b2 = m := by simpa using hm
    go_wp2
    go_ret
    exact ⟨rfl, rfl⟩
def isB (n : Nat) (s : Int) : Bool := decide (0 ≤ s) && decide (s < (n : Int))
theorem pis_any {p : Nat} {P : PoolM} {w : World} {H : Foot} (h : PoolIs p P w H) (h0 : 1 ≤ P.O.length) (s : Int) : Calls Tryz.prog 116 #[.pointer (some ⟨p, 0, none⟩), .int .i64 s] w fun x w' => x = .returned (.bool (isB P.O.length s)) ∧ w = w' := by
  have K := Lib.hid (psize_any h h0)
  obtain ⟨m, hm⟩ : ∃ m, isB P.O.length s = m := ⟨_, rfl⟩
  rw [hm]
  unfold isB at hm
  generalize h1 : decide (0 ≤ s) = b1 at hm
  generalize h2 : decide (s < (P.O.length : Int)) = b2 at hm
  clear h
  go_enter Tryz.func116, Tryz.ntmps116
  cases b1
  · obtain rfl : false = m := by simpa using hm
    go_wp2
    go_ret
    exact ⟨rfl, rfl⟩
  · obtain rfl : b2 = m := by simpa using hm
    go_wp2_with fail
    refine K.out.mono ?_
    rintro x w1 ⟨rfl, rfl⟩
    go_wp2
    go_ret
    exact ⟨rfl, rfl⟩
theorem free1_any (o : Int) (w : World) : Calls Tryz.prog 101 #[.int .i64 o] w fun x w' => x = .returned (.bool (o == 0)) ∧ w = w' := by
  go_enter Tryz.func101, Tryz.ntmps101
  go_wp2
  go_ret
  exact ⟨rfl, rfl⟩
theorem callFree1 (args : Array Value) (w : World) : (callFunc 101 args).run Tryz.prog w = .ok (.enter 101 args) w := by kernel_rfl
set_option maxRecDepth 100000 in
set_option maxHeartbeats 800000 in
/-- The free segments. -/
theorem those_free {p : Nat} {P : PoolM} {w : World} {H : Foot} (h : PoolIs p P w H) (h0 : 1 ≤ P.O.length) (hn : P.O.length ≤ 1000) :
    Calls Tryz.prog 100 #[.pointer (some ⟨p, 0, none⟩), .func (.func 101) #[] #[]] w fun x w' => ∃ v, x = .returned v ∧ w'.ownsRow w.heap.size 3 1 v (freeL P.O).length (oC (freeL P.O)) ∧ Below w.heap.size w w' := by
  obtain ⟨i0, hi0, hz0, hz1, hz2⟩ := info_parts info_int
  obtain ⟨b, cap, cur, hp, hb, hne, hl, hm, hs, hc, hH⟩ := h.at_ h0
  obtain ⟨c0, c1, c2, hf⟩ := three_of hp
  have HB := Lib.hid hb
  have HC := Lib.hid hc
  have HI := Lib.hid hi0
  clear hc hH h hb
  go_enter Tryz.func100, Tryz.ntmps100
  go_wp2_with fail
  go_loopw [5, 15] (fun v i wr => ∃ j : Nat, j ≤ P.O.length ∧ i = .int .i64 j ∧ wr.ownsRow w.heap.size 3 1 v (freeL (P.O.take j)).length (oC (freeL (P.O.take j))) ∧ Below w.heap.size w wr) (fun _ i _ => P.O.length - (intOf i).toNat)
  case atStart => exact ⟨0, Nat.zero_le _, rfl, World.ownsRow_nil _ _ _ _, Below.refl _ _⟩
  case round =>
    obtain ⟨j, hj, rfl, hown, hB⟩ := hrel
    have HO := Lib.hid hown
    have HBw := Lib.hid hB
    clear hown hB
    by_cases hlt : j < P.O.length
    · have hcell : wr.cell? ⟨b, j, none⟩ = some (.int .i64 P.O[j]) := by rw [cell_of (later_of HB.out HBw.out), HC.out j hlt]
      have hle : (freeL (P.O.take j)).length ≤ j := by
        unfold freeL
        rw [idxs_length]
        exact Nat.le_trans (List.length_filter_le _ _) (by rw [List.length_take]; omega)
      have hsn : freeL (P.O.take (j + 1)) = freeL (P.O.take j) ++ (if P.O[j] = 0 then [j] else []) := by
        rw [List.take_succ_eq_append_getElem hlt, freeL_snoc, List.length_take, Nat.min_eq_left (by omega)]
      obtain ⟨y, hy⟩ : ∃ y, P.O[j] = y := ⟨_, rfl⟩
      rw [hy] at hcell hsn
      have HS := Lib.hid hsn
      clear hsn hy
      obtain ⟨sl, slc, hv⟩ := row_slice3 HO.out
      subst hv
      by_cases h0y : y = 0
      · subst h0y
        have HS2 : freeL (P.O.take (j + 1)) = freeL (P.O.take j) ++ [j] := by rw [HS.out, if_pos rfl]
        have HS3 := Lib.hid HS2
        clear HS HS2
        go_wp2_with (first | (go_at_call 101; (with_reducible refine (free1_any _ _).mono ?_); rintro x w1 ⟨rfl, rfl⟩) | (at_builtin; refine wpList_append_lies _ rfl (.tmp 23) (.tmp 25) 36 rfl w.heap.size 3 i0 _ 1 8 Tryz.underlying36 hi0 hz0 hz1 hz2 rfl (by omega) (.slice sl (freeL (P.O.take j)).length slc) _ _ rfl (HO.out.alloc _) ⟨wr.heap.size, 0, none⟩ 1 1 [.int .i64 j] rfl rfl (World.news_of_block (cs := #[.int .i64 j]) (t := 3) (fr := (0, 0)) (heap_alloc_new wr _)) (by simp [Value.oneCell']) (by omega) (by unfold maxLen; omega) (by omega) (by have := HBw.out.size; simp; omega) _ rfl ?_; intro gg cap9 w9 hown9 hgrow hat hlt9))
        have hown10 : w9.ownsRow w.heap.size 3 1 (.slice (some ⟨gg, 0, none⟩) ((freeL (P.O.take j)).length + 1) cap9) (freeL (P.O.take (j + 1))).length (oC (freeL (P.O.take (j + 1)))) := by
          rw [HS3.out, oC_snoc, List.length_append]; exact hown9
        have hB9 : Below w.heap.size w w9 := (HBw.out.alloc HBw.out.size _).trans ⟨hgrow.os, hgrow.tape, hgrow.output, by have := HBw.out.size; refine Nat.le_trans ?_ hgrow.size; (try simp); (try omega), fun k hk => hgrow.block k (by have := HBw.out.size; simp; omega) (fun e => by have := ownBlock_ge HO.out k e.symm; omega)⟩
        have HO10 := Lib.hid hown10
        have HB9 := Lib.hid hB9
        clear hown9 hgrow hat hown10 hB9
        go_wp2
        go_roundw
        case rel => exact ⟨j + 1, hlt, by simp, HO10.out, HB9.out⟩
        case measure => simp [intOf]; omega
      · have HS2 : freeL (P.O.take (j + 1)) = freeL (P.O.take j) := by rw [HS.out, if_neg h0y, List.append_nil]
        have HS3 := Lib.hid HS2
        have k0 : ((y : Int) == 0) = false := by simp; omega
        clear HS HS2
        go_wp2_with (first | (go_at_call 101; (with_reducible refine (free1_any _ _).mono ?_); rintro x w1 ⟨rfl, rfl⟩))
        go_roundw
        case rel => exact ⟨j + 1, hlt, by simp, by rw [HS3.out]; exact HO.out, HBw.out⟩
        case measure => simp [intOf]; omega
    · obtain rfl : j = P.O.length := by omega
      have HT := Lib.hid (List.take_length (l := P.O))
      go_wp2
      go_ret
      have := HO.out
      rw [HT.out] at this
      exact ⟨_, rfl, this, HBw.out⟩
theorem pfree_any {p : Nat} {P : PoolM} {w : World} {H : Foot} (h : PoolIs p P w H) (h0 : 1 ≤ P.O.length) (hn : P.O.length ≤ 1000) :
    Calls Tryz.prog 70 #[.pointer (some ⟨p, 0, none⟩)] w fun x w' => ∃ v, x = .returned v ∧ w'.ownsRow w.heap.size 3 1 v (freeL P.O).length (oC (freeL P.O)) ∧ Below w.heap.size w w' := by
  have K := Lib.hid (those_free h h0 hn)
  clear h
  go_enter Tryz.func70, Tryz.ntmps70
  go_wp2_with fail
  refine K.out.mono ?_
  rintro x w1 ⟨v, rfl, hown, hb⟩
  go_wp2
  go_ret
  exact ⟨v, rfl, hown, hb⟩
theorem pFree_any {p : Nat} {P : PoolM} {w : World} {H : Foot} (h : PoolIs p P w H) (h0 : 1 ≤ P.O.length) (hn : P.O.length ≤ 1000) :
    Calls Tryz.prog 25 #[.pointer (some ⟨p, 0, none⟩)] w fun x w' => x = .returned (.int .i64 (freeL P.O).length) ∧ Below w.heap.size w w' := by
  have K := Lib.hid (pfree_any h h0 hn)
  clear h
  go_enter Tryz.func25, Tryz.ntmps25
  go_wp2_with fail
  refine K.out.mono ?_
  rintro x w1 ⟨v, rfl, hown, hb⟩
  obtain ⟨sl, slc, rfl⟩ := row_slice3 hown
  clear hown
  go_wp2
  go_ret
  exact ⟨rfl, hb⟩
end Go.Proofs.YtoobiffhjjfpgaaGreat.Print

namespace Go.Proofs.YtoobiffhjjfpgaaGreat.Print
open Go.RowKit
attribute [local go_sem] run_loadVar_scalar

theorem stamp_bits (ep ct : Nat) (h1 : ep ≤ 65535) (h2 : ct ≤ 65535) : bits .or .u32 ((ep : Int) * 65536) (ct : Int) = ((65536 * ep + ct : Nat) : Int) := by
  have e1 : ((ep : Int) * 65536) = ((65536 * ep : Nat) : Int) := by omega
  rw [e1]
  have g1 : (BitVec.ofInt 32 ((65536 * ep : Nat) : Int)).toNat = 65536 * ep := by
    rw [BitVec.ofInt_natCast, BitVec.toNat_ofNat]; exact Nat.mod_eq_of_lt (by omega)
  have g2 : (BitVec.ofInt 32 (ct : Int)).toNat = ct := by
    rw [BitVec.ofInt_natCast, BitVec.toNat_ofNat]; exact Nat.mod_eq_of_lt (by omega)
  show IntKind.u32.wrap ((BitVec.ofInt 32 ((65536 * ep : Nat) : Int) ||| BitVec.ofInt 32 (ct : Int)).toNat : Int) = _
  have g3 : 65536 * ep ||| ct = 65536 * ep + ct := by
    have := Nat.two_pow_add_eq_or_of_lt (i := 16) (b := ct) (by omega) ep
    rw [← this]
  rw [BitVec.toNat_or, g1, g2, g3, IntKind.wrap_u32]
  omega
set_option maxHeartbeats 400000 in
theorem stamp_any (ep ct : Nat) (h1 : ep ≤ 65535) (h2 : ct ≤ 65535) (w : World) : Calls Tryz.prog 131 #[.int .i64 ep, .int .i64 ct] w fun x w' => x = .returned (.tuple #[.int .u32 (65536 * ep + ct : Nat), .int .i64 0]) ∧ w = w' := by
  have hb := stamp_bits ep ct h1 h2
  obtain ⟨S, hS⟩ : ∃ S : Int, ((65536 * ep + ct : Nat) : Int) = S := ⟨_, rfl⟩
  rw [hS] at hb ⊢
  clear hS
  go_enter Tryz.func131, Tryz.ntmps131
  go_wp2
  exact bodyPost_ret (v := .tuple #[.int .u32 S, .int .i64 0]) (by simp [results, Tryz.results131, go_sem]) rfl ⟨rfl, rfl⟩
set_option maxHeartbeats 400000 in
theorem stamp_big (ep ct : Nat) (h1 : ep ≤ 65535) (h2 : 65535 < ct) (w : World) : Calls Tryz.prog 131 #[.int .i64 ep, .int .i64 ct] w fun x w' => x = .returned (.tuple #[.int .u32 0, .int .i64 1]) ∧ w = w' := by
  have k1 : decide ((ep : Int) < 0) = false := decide_eq_false (by omega)
  have k2 : decide ((65535 : Int) < (ep : Int)) = false := decide_eq_false (by omega)
  have k3 : decide ((ct : Int) < 0) = false := decide_eq_false (by omega)
  have k4 : decide ((65535 : Int) < (ct : Int)) = true := decide_eq_true (by omega)
  clear h1 h2
  go_enter Tryz.func131, Tryz.ntmps131
  go_wp2
  exact bodyPost_ret (v := .tuple #[.int .u32 0, .int .i64 1]) (by simp [results, Tryz.results131, go_sem]) rfl ⟨rfl, rfl⟩
theorem made_ints (n : Nat) : madeCells #[Value.int .i64 0] n = (oC (List.replicate n 0)).toArray := by
  apply Array.ext
  · simp [madeCells, oC]
  · intro i h1 h2
    have h3 : i % 1 < 1 := Nat.mod_lt _ (by omega)
    have h4 : i % 1 = 0 := by omega
    simp [madeCells, oC, h4]
theorem make_ints (n : Nat) (h : n ≤ 1000000) (w : World) : (Instr.makeSlice 36 (.int .i64 n) (.int .i64 n)).run Tryz.prog w = .ok (.slice (some ⟨w.heap.size, 0, none⟩) n n) (w.alloc (.cells (oC (List.replicate n 0)).toArray 3)) := by
  obtain ⟨i, hi, hz, hs, hb⟩ := info_parts info_int
  have hr := run_make (P := Tryz.prog) w 36 3 i _ Tryz.underlying36 hi hz .i64 .i64 n n (by omega) (by omega) (by rw [hb]; omega) (by omega)
  rw [hr, Int.toNat_natCast, hs, Nat.mul_one]
  show Result.ok _ (w.alloc (.cells (madeCells #[Value.int .i64 0] n) _)) = _
  rw [made_ints]
/-- A pool as it is made. -/
def newPool (n ep : Nat) : PoolM := ⟨List.replicate n 0, ep, 0⟩
theorem newPool_ok (n ep N : Nat) (h1 : 1 ≤ n) (h2 : 2 + 16 * n ≤ N) (h3 : N ≤ 8192) (h4 : ep ≤ 65535) : PoolOk N (newPool n ep) := ⟨by simpa [newPool] using h2, by simpa [newPool] using h1, h3, h4, Nat.zero_le _⟩
set_option maxRecDepth 100000 in
set_option maxHeartbeats 800000 in
attribute [-go_sem] Instr.build Instr.fill in
theorem pnew_any (n ep : Nat) (h1 : 6 ≤ n) (h2 : n ≤ 64) (h3 : ep ≤ 65535) (w : World) (i j : Int) (hi : i = n) (hj : j = ep) : Calls Tryz.prog 17 #[.int .i64 i, .int .i64 j] w fun x w' => ∃ p H, x = .returned (.tuple #[.pointer (some ⟨p, 0, none⟩), .int .i64 0]) ∧ PoolIs p (newPool n ep) w' H ∧ Below w.heap.size w w' ∧ ∀ k, H k → w.heap.size ≤ k := by
  subst hi hj
  have k1 : decide ((n : Int) < 6) = false := decide_eq_false (by omega)
  have k2 : decide ((64 : Int) < (n : Int)) = false := decide_eq_false (by omega)
  have k3 : decide ((ep : Int) < 0) = false := decide_eq_false (by omega)
  have k4 : decide ((65535 : Int) < (ep : Int)) = false := decide_eq_false (by omega)
  have hmk := make_ints n (by omega) w
  have hb := fun (W : World) => run_build (P := Tryz.prog) W 109 #[(0, .slice (some ⟨w.heap.size, 0, none⟩) n n), (1, .int .i64 ep)] #[.slice (some ⟨w.heap.size, 0, none⟩) n n, .int .i64 ep, .int .i64 0] (by kernel_rfl)
  have hg0 := alloc_at w (.cells (oC (List.replicate n 0)).toArray 3)
  have hB0 : Below w.heap.size w (w.alloc (.cells (oC (List.replicate n 0)).toArray 3)) := (Below.refl _ _).alloc (Nat.le_refl _) _
  obtain ⟨W, hW⟩ : ∃ W, w.alloc (.cells (oC (List.replicate n 0)).toArray 3) = W := ⟨_, rfl⟩
  have hsz : W.heap.size = w.heap.size + 1 := by rw [← hW]; simp
  rw [hW] at hmk hg0 hB0
  have HSZ := Lib.hid hsz
  have HN := Lib.hid (And.intro h1 h2)
  clear h1 h2 h3 hW hsz
  go_enter Tryz.func17, Tryz.ntmps17
  go_wp2
  have hg1 := alloc_old hg0 (poolObj (.slice (some ⟨w.heap.size, 0, none⟩) n n) ep 0)
  have hg2 := alloc_at W (poolObj (.slice (some ⟨w.heap.size, 0, none⟩) n n) ep 0)
  refine bodyPost_ret (v := .tuple #[.pointer (some ⟨W.heap.size, 0, none⟩), .int .i64 0]) (by simp [results, Tryz.results17, go_sem]) rfl ⟨W.heap.size, fun k => k = W.heap.size ∨ k = w.heap.size, rfl, ⟨.slice (some ⟨w.heap.size, 0, none⟩) n n, hg2, ?_, ?_, fun k => ?_⟩, hB0.alloc hB0.size _, ?_⟩
  · have := HN.out
    refine ⟨by simp [oC, newPool], .inr ⟨w.heap.size, n, _, by simp [newPool], Nat.zero_le _, hg1, by simp [newPool], by unfold maxLen; omega, by simp [oC], by simp [oC, newPool]⟩⟩
  · have := HSZ.out
    simp [Value.ownBlock]
    omega
  · simp only [Value.ownBlock, Option.some.injEq]
    exact or_congr Iff.rfl ⟨fun e => e.symm, fun e => e.symm⟩
  · have := HSZ.out
    rintro k (rfl | rfl) <;> omega
set_option maxRecDepth 100000 in
set_option maxHeartbeats 800000 in
theorem take_none {N p : Nat} {P : PoolM} {w : World} {H : Foot} (h : PoolIs p P w H) (hP : PoolOk N P) (id : Nat) (h1 : 1 ≤ id) (h2 : id ≤ 65535) (ht : takeM P id = none) :
    Calls Tryz.prog 114 #[.pointer (some ⟨p, 0, none⟩), .int .i64 id] w fun x w' => x = .returned (.tuple #[.int .i64 0, .int .u32 0, .int .i64 32]) ∧ Below w.heap.size w w' := by
  have hfit := hP.fit
  have hbig := hP.big
  have K := Lib.hid (pfree_any h hP.some_ (by omega))
  have HH := Lib.hid h
  obtain ⟨ov, hp, _⟩ := h
  have hmay : mayLog id = true := by unfold mayLog; simp; omega
  have HM := Lib.hid hmay
  have hep := hP.ep
  have hct := hP.ct
  have HT := Lib.hid (takeM_none ht)
  clear ht hmay hfit hbig
  go_enter Tryz.func114, Tryz.ntmps114
  go_wp2_with fail
  refine (pmay_any _ _).mono ?_
  rintro x w1 ⟨rfl, rfl⟩
  rw [HM.out]
  go_wp2_with fail
  refine K.out.mono ?_
  rintro x w1 ⟨v, rfl, hown, hb⟩
  obtain ⟨sl, slc, rfl⟩ := row_slice3 hown
  obtain ⟨c0, c1, c2, _⟩ := three_of (later_of hp hb)
  clear hown
  by_cases hc : P.ct ≤ 65535
  · have h0 : (freeL P.O).length = 0 := by rw [HT.out.resolve_right (by omega)]; rfl
    have KS := fun w => stamp_any P.ep P.ct hep hc w
    obtain ⟨S, hS⟩ : ∃ S : Int, ((65536 * P.ep + P.ct : Nat) : Int) = S := ⟨_, rfl⟩
    rw [hS] at KS
    have HKS := Lib.hid KS
    obtain ⟨l, hl⟩ : ∃ l, (freeL P.O).length = l := ⟨_, rfl⟩
    rw [hl] at h0
    subst h0
    rw [hl]
    clear hl hS KS
    go_wp2_with fail
    go_quiet ((go_at_call 131; exact quiet_eq (HKS.out _)))
    go_wp2
    exact bodyPost_ret (v := .tuple #[.int .i64 0, .int .u32 0, .int .i64 32]) (by simp [results, Tryz.results114, go_sem]) rfl ⟨rfl, below_drewN hb _⟩
  · have HKS := Lib.hid (fun w => stamp_big P.ep P.ct hep (by omega) w)
    obtain ⟨l, hl⟩ : ∃ l, (freeL P.O).length = l := ⟨_, rfl⟩
    rw [hl]
    clear hl
    obtain ⟨bb, hbb⟩ : ∃ bb, ((l : Int) == 0) = bb := ⟨_, rfl⟩
    go_wp2_with fail
    go_quiet ((go_at_call 131; exact quiet_eq (HKS.out _)))
    cases bb
    all_goals
      go_wp2
      exact bodyPost_ret (v := .tuple #[.int .i64 0, .int .u32 0, .int .i64 32]) (by simp [results, Tryz.results114, go_sem]) rfl ⟨rfl, below_drewN hb _⟩
set_option maxRecDepth 100000 in
set_option maxHeartbeats 1600000 in
theorem take_some {N p : Nat} {P : PoolM} {w : World} {H : Foot} (h : PoolIs p P w H) (hP : PoolOk N P) (id : Nat) (h1 : 1 ≤ id) (h2 : id ≤ 65535) {i st : Nat} {P' : PoolM} (ht : takeM P id = some (i, st, P')) :
    Calls Tryz.prog 114 #[.pointer (some ⟨p, 0, none⟩), .int .i64 id] w fun x w' => x = .returned (.tuple #[.int .i64 i, .int .u32 st, .int .i64 0]) ∧ PoolIs p P' w' H ∧ Upd H w w' := by
  have hfit := hP.fit
  have hbig := hP.big
  have K := Lib.hid (pfree_any h hP.some_ (by omega))
  have HH := Lib.hid h
  obtain ⟨b, cap, cur, hp, hb0, hbp, hl, hm, hcs, hcur, hHp⟩ := h.at_ hP.some_
  have hmay : mayLog id = true := by unfold mayLog; simp; omega
  have HM := Lib.hid hmay
  have hep := hP.ep
  obtain ⟨hi, _⟩ := takeM_lt ht
  obtain ⟨⟨r, hr⟩, hct, hst, hP'⟩ := takeM_some ht
  have HR := Lib.hid hr
  have HST := Lib.hid hst
  have HP' := Lib.hid hP'
  have HB0 := Lib.hid hb0
  have HHp := Lib.hid hHp
  have KS := fun w => stamp_any P.ep P.ct hep hct w
  rw [← hst] at KS
  have HKS := Lib.hid KS
  have HCUR := Lib.hid hcur
  clear ht hmay hbig hr hst hP' hb0 hHp hcur KS h
  go_enter Tryz.func114, Tryz.ntmps114
  go_wp2_with fail
  refine (pmay_any _ _).mono ?_
  rintro x w1 ⟨rfl, rfl⟩
  rw [HM.out]
  go_wp2_with fail
  refine K.out.mono ?_
  rintro x w1 ⟨v, rfl, hown, hb⟩
  rw [HR.out] at hown
  obtain ⟨g, fc, fcur, rfl, hgB, hg2, _, hg3⟩ := row_of hown (by simp)
  have hf0 : w1.cell? ⟨g, 0, none⟩ = some (.int .i64 i) := by rw [cell_of hg2, hg3 0 (by simp)]; rfl
  have HO := Lib.hid (PoolIs.stays.below HH.out hb)
  have HP1 := Lib.hid (later_of hp hb)
  have HB1 := Lib.hid (later_of HB0.out hb)
  have hgl := lt_of hp
  have hgl2 := lt_of HB0.out
  obtain ⟨c0, c1, c2, cf⟩ := three_of (later_of hp hb)
  obtain ⟨n, hn⟩ : ∃ n, r.length = n := ⟨_, rfl⟩
  have hnl : (i :: r).length = n + 1 := by rw [List.length_cons, hn]
  rw [hnl]
  have hl0 : (((n : Int) + 1) == 0) = false := by simp; omega
  have hl1 : ((((n + 1 : Nat) : Int)) == 0) = false := by simp; omega
  have hii : (i : Int) < (P.O.length : Int) := by omega
  have hfz : ∀ o, w1.frozen? ⟨b, o, none⟩ = false := fun o => free_of HB1.out o
  have HB := Lib.hid hb
  clear hown hg2 hg3 hb hp hn hnl
  go_wp2_with fail
  go_quiet ((go_at_call 131; exact quiet_eq (HKS.out _)))
  go_wp2_with fail
  obtain ⟨W3, hW3⟩ : ∃ W3, w1.drewN nq = W3 := ⟨_, rfl⟩
  have hO3 : PoolIs p P W3 H := by
    obtain ⟨ov, a1, a2, a3, a4⟩ := HO.out
    rw [← hW3]
    exact ⟨ov, a1, a2, a3, a4⟩
  have hp3 : W3.heap[p]? = some (poolObj (.slice (some ⟨b, 0, none⟩) P.O.length cap) P.ep P.ct) := by rw [← hW3]; exact HP1.out
  have hb3 : W3.heap[b]? = some (.cells cur 3 (0, 0)) := by rw [← hW3]; exact HB1.out
  have hg3 : W3.cell? ⟨g, 0, none⟩ = some (.int .i64 i) := by rw [← hW3]; exact hf0
  have hB3 : Below w.heap.size w W3 := by rw [← hW3]; exact below_drewN HB.out _
  rw [hW3]
  have HO3 := Lib.hid hO3
  have HP3 := Lib.hid hp3
  have HBB3 := Lib.hid hb3
  have HB3 := Lib.hid hB3
  clear c0 c1 c2 cf hf0 hfz hW3 hO3 hB3 HO HP1 HB1 HB
  obtain ⟨c0, c1, c2, cf⟩ := three_of hp3
  have hfz : ∀ o, W3.frozen? ⟨b, o, none⟩ = false := fun o => free_of hb3 o
  have hci : W3.cell? ⟨b, i, none⟩ = some (.int .i64 P.O[i]) := by
    rw [cell_of hb3]
    exact HCUR.out i hi
  clear hp3 hb3
  go_still_tail 9, (by kernel_rfl)
  change wpList _ _ _ _ _ W3.drew
  obtain ⟨W4, hW4⟩ : ∃ W4, W3.drew = W4 := ⟨_, rfl⟩
  have hO4 : PoolIs p P W4 H := by
    obtain ⟨ov, a1, a2, a3, a4⟩ := HO3.out
    rw [← hW4]
    exact ⟨ov, a1, a2, a3, a4⟩
  have hp4 : W4.heap[p]? = some (poolObj (.slice (some ⟨b, 0, none⟩) P.O.length cap) P.ep P.ct) := by rw [← hW4]; exact HP3.out
  have hf4 : W4.frozen? ⟨b, i, none⟩ = false := by rw [← hW4]; exact hfz i
  have hc4 : W4.cell? ⟨b, i, none⟩ = some (.int .i64 P.O[i]) := by rw [← hW4]; exact hci
  have hg4 : W4.cell? ⟨g, 0, none⟩ = some (.int .i64 i) := by rw [← hW4]; exact hg3
  have hB4 : Below w.heap.size w W4 := by rw [← hW4]; exact HB3.out.drew
  rw [hW4]
  obtain ⟨hO5, hU5⟩ := hO4.set_ hp4 i id hi
  have HO5 := Lib.hid hO5
  have HU5 := Lib.hid hU5
  have hp5 := (Upd.refl (fun k => k = b) W4).setCell (p := ⟨b, i, none⟩) (fun _ => rfl) (.int .i64 id) |>.at_ hp4 (fun e => hbp e.symm)
  have hg5 : (W4.setCell ⟨b, i, none⟩ (.int .i64 id)).cell? ⟨g, 0, none⟩ = some (.int .i64 i) := by
    have hgb := World.block_lt_of_cell? W4 _ hg4
    have := ((Upd.refl (fun k => k = b) W4).setCell (p := ⟨b, i, none⟩) (fun _ => rfl) (.int .i64 id)).other g hgb (by omega)
    rw [World.cell?_of_block (a := ⟨g, 0, none⟩) this]
    exact hg4
  obtain ⟨W5, hW5⟩ : ∃ W5, W4.setCell ⟨b, i, none⟩ (.int .i64 id) = W5 := ⟨_, rfl⟩
  rw [hW5] at HO5 HU5 hp5 hg5
  have HW5 := Lib.hid hW5
  clear c0 c1 c2 cf hfz hci hg3 HP3 HBB3 hO5 hU5 hW4 HO3 hW5 hO4 hp4 hg4
  obtain ⟨c0, c1, c2, cf⟩ := three_of hp5
  obtain ⟨hO6, hU6⟩ := HO5.out.count ((P.ct : Int) + 1) (P.ct + 1) (by omega)
  have hg6 : (W5.setCell ⟨p, 2, none⟩ (.int .i64 ((P.ct : Int) + 1))).cell? ⟨g, 0, none⟩ = some (.int .i64 i) := by
    have hgb := World.block_lt_of_cell? W5 _ hg5
    have := ((Upd.refl (fun k => k = p) W5).setCell (p := ⟨p, 2, none⟩) (fun _ => rfl) (.int .i64 ((P.ct : Int) + 1))).other g hgb (by omega)
    rw [World.cell?_of_block (a := ⟨g, 0, none⟩) this]
    exact hg5
  have HO6 := Lib.hid hO6
  have HU6 := Lib.hid hU6
  obtain ⟨W6, hW6⟩ : ∃ W6, W5.setCell ⟨p, 2, none⟩ (.int .i64 ((P.ct : Int) + 1)) = W6 := ⟨_, rfl⟩
  rw [hW6] at HO6 HU6 hg6
  have hw5 := HW5.out
  have kw : IntKind.i64.wrap ((P.ct : Int) + 1) = (P.ct : Int) + 1 := by rw [IntKind.wrap_i64]; omega
  clear hO6 hU6 hp5
  go_wp2
  exact bodyPost_ret (v := .tuple #[.int .i64 i, .int .u32 st, .int .i64 0]) (by simp [results, Tryz.results114, go_sem]) rfl ⟨rfl, by rw [HP'.out]; exact HO6.out, ((Upd.of_below hB4).trans HU5.out (fun _ _ h => h)).trans HU6.out (fun _ _ h => h)⟩
set_option maxRecDepth 100000 in
set_option maxHeartbeats 800000 in
theorem give_ok {p : Nat} {P : PoolM} {w : World} {H : Foot} (h : PoolIs p P w H) (i : Nat) (hi : i < P.O.length) (h0 : P.O[i] ≠ 0) (I : Int) (hI : I = i) :
    Calls Tryz.prog 80 #[.pointer (some ⟨p, 0, none⟩), .int .i64 I] w fun x w' => x = .returned (.int .i64 0) ∧ PoolIs p (giveM P i) w' H ∧ Upd H w w' := by
  subst hI
  have K := Lib.hid (pis_any h (by omega) (i : Int))
  have hib : isB P.O.length (i : Int) = true := by unfold isB; simp; omega
  have HIB := Lib.hid hib
  obtain ⟨b, cap, cur, hp, hb0, hbp, hl, hm, hcs, hcur, hHp⟩ := h.at_ (by omega)
  obtain ⟨c0, c1, c2, cf⟩ := three_of hp
  have hfz : w.frozen? ⟨b, i, none⟩ = false := free_of hb0 i
  have hci : w.cell? ⟨b, i, none⟩ = some (.int .i64 P.O[i]) := by rw [cell_of hb0]; exact hcur i hi
  obtain ⟨y, hy⟩ : ∃ y, P.O[i] = y := ⟨_, rfl⟩
  rw [hy] at hci h0
  have k0 : ((y : Int) == 0) = false := by simp; omega
  have hii : (i : Int) < (P.O.length : Int) := by omega
  have HS := Lib.hid (h.set_ hp i 0 hi)
  clear hy hb0 hcur hHp hib h hp
  go_enter Tryz.func80, Tryz.ntmps80
  go_wp2_with fail
  refine K.out.mono ?_
  rintro x w1 ⟨rfl, rfl⟩
  rw [HIB.out]
  go_wp2
  go_ret
  exact ⟨rfl, HS.out⟩
set_option maxRecDepth 100000 in
set_option maxHeartbeats 800000 in
theorem claim_ok {p : Nat} {P : PoolM} {w : World} {H : Foot} (h : PoolIs p P w H) (i id : Nat) (hi : i < P.O.length) (h0 : P.O[i] = 0) (h1 : 1 ≤ id) (h2 : id ≤ 65535) (I : Int) (hI : I = i) :
    Calls Tryz.prog 84 #[.pointer (some ⟨p, 0, none⟩), .int .i64 I, .int .i64 id] w fun x w' => x = .returned (.int .i64 0) ∧ PoolIs p ⟨P.O.set i id, P.ep, P.ct⟩ w' H ∧ Upd H w w' := by
  subst hI
  have K := Lib.hid (pis_any h (by omega) (i : Int))
  have hib : isB P.O.length (i : Int) = true := by unfold isB; simp; omega
  have HIB := Lib.hid hib
  have hmay : mayLog id = true := by unfold mayLog; simp; omega
  have HM := Lib.hid hmay
  obtain ⟨b, cap, cur, hp, hb0, hbp, hl, hm, hcs, hcur, hHp⟩ := h.at_ (by omega)
  obtain ⟨c0, c1, c2, cf⟩ := three_of hp
  have hfz : w.frozen? ⟨b, i, none⟩ = false := free_of hb0 i
  have hci : w.cell? ⟨b, i, none⟩ = some (.int .i64 0) := by rw [cell_of hb0, hcur i hi, h0]; rfl
  have hii : (i : Int) < (P.O.length : Int) := by omega
  have HS := Lib.hid (h.set_ hp i id hi)
  clear h0 hb0 hcur hHp hib h hp hmay
  go_enter Tryz.func84, Tryz.ntmps84
  go_wp2_with fail
  refine K.out.mono ?_
  rintro x w1 ⟨rfl, rfl⟩
  rw [HIB.out]
  go_wp2_with fail
  refine (pmay_any _ _).mono ?_
  rintro x w1 ⟨rfl, rfl⟩
  rw [HM.out]
  go_wp2
  go_ret
  exact ⟨rfl, HS.out⟩
end Go.Proofs.YtoobiffhjjfpgaaGreat.Print
