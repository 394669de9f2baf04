/- ScanChains: the law's rows of what it made, plain; its reference's segments in memory. -/
import Derived.Test.YtoobiffhjjfpgaaLie
import Derived.Test.YtoobiffhjjfpgaaChnP
import Derived.Test.YtoobiffhjjfpgaaRefCh
namespace Go.Proofs.Ytoobiffhjjfpgaa.Print
open Go.RowKit
attribute [local go_sem] run_loadVar_scalar

def allK (LL : List MadeM) (j : Nat) : List SegL := (List.range j).filterMap fun n => (madeL LL n).map segM
theorem allK_six (LL : List MadeM) : allK LL 6 = allM LL := rfl
theorem allK_none {LL : List MadeM} {j : Nat} (h : madeL LL j = none) : allK LL (j + 1) = allK LL j := by
  unfold allK
  rw [List.range_succ, List.filterMap_append]
  simp [h]
theorem allK_some {LL : List MadeM} {j : Nat} {m : MadeM} (h : madeL LL j = some m) : allK LL (j + 1) = allK LL j ++ [segM m] := by
  unfold allK
  rw [List.range_succ, List.filterMap_append]
  simp [h]
theorem allK_le (LL : List MadeM) (j : Nat) : (allK LL j).length ≤ j := by
  unfold allK
  exact Nat.le_trans (List.length_filterMap_le _ _) (by simp)
theorem allM_fit {LL : List MadeM} (I : MInv LL) : ∀ S ∈ allM LL, S.n < 6 ∧ S.h.2.2.2 ≤ 1099511627776 ∧ S.fs.length ≤ 1000 := by
  intro S hS
  unfold allM at hS
  obtain ⟨n, hn, hm⟩ := List.mem_filterMap.1 hS
  have hn6 : n < 6 := by simpa using hn
  cases hL : madeL LL n with
  | none => rw [hL] at hm; cases hm
  | some m =>
    rw [hL] at hm
    obtain ⟨h1, _, h3, _⟩ := I.some_ n hn6 m hL
    have e : segM m = S := by simpa using hm
    subst e
    refine ⟨h3.1, h3.2.2.2.2.2.2, ?_⟩
    show (framesP m.fr).length ≤ 1000
    rw [framesP_length]
    have := h3.2.1
    omega
/-- A made segment as the law's reference has it. -/
theorem seg_of {d : Int} {t : T6} (h : ValT d t) (h2 : T6Ok t) : (#[.int .i64 t.2.2.1, .int .u32 t.2.2.2.1, .int .i64 t.2.2.2.2.2, .int .i64 t.2.1, .int .u32 t.2.2.2.2.1] : Array Value) = segA (segM (mOf t)) := by
  unfold ValT at h
  unfold T6Ok at h2
  unfold segA segM mOf
  simp only [framesP_length]
  rw [Int.toNat_of_nonneg (by omega), Int.toNat_of_nonneg (by omega), Int.toNat_of_nonneg (by omega), Int.toNat_of_nonneg (by omega), Int.toNat_of_nonneg (by omega)]
theorem n_of {d : Int} {t : T6} (h : ValT d t) : ((segM (mOf t)).n : Int) = t.1 := by
  unfold ValT at h
  unfold segM mOf
  simp only
  omega
theorem build_seg5 (a b c d e : Int) (W : World) : (Instr.build 37 #[(0, .int .i64 a), (1, .int .u32 b), (2, .int .i64 c), (3, .int .i64 d), (4, .int .u32 e)]).run Try.prog W = .ok (.agg #[.int .i64 a, .int .u32 b, .int .i64 c, .int .i64 d, .int .u32 e]) W := by kernel_rfl
theorem build_segs1 (a b c d e : Int) (W : World) : (Instr.buildSlice 34 1 #[(0, .agg #[.int .i64 a, .int .u32 b, .int .i64 c, .int .i64 d, .int .u32 e])]).run Try.prog W = .ok (.slice (some ⟨W.heap.size, 0, none⟩) 1 1) (W.alloc (.cells #[.int .i64 a, .int .u32 b, .int .i64 c, .int .i64 d, .int .u32 e] 37)) := by kernel_rfl
def zeroSeg : Value := .agg #[.int .i64 0, .int .u32 0, .int .i64 0, .int .i64 0, .int .u32 0]
theorem info_seg15 : (Try.prog.info? 37).map (fun i => (i.zero, i.size, i.bytes)) = some (some zeroSeg, 5, 40) := by kernel_rfl
def segsC (l : List SegL) : List Value := l.flatMap segC
theorem segsC_snoc (l : List SegL) (S : SegL) : segsC (l ++ [S]) = segsC l ++ segC S := by simp [segsC]
theorem segsC_at : ∀ (l : List SegL) (i : Nat) (hi : i < l.length) (j : Nat), j < 5 → (segsC l)[i * 5 + j]? = (segC l[i])[j]?
  | a :: r, 0, _, j, hj => by
    have : (segC a ++ segsC r)[j]? = (segC a)[j]? := List.getElem?_append_left (by exact hj)
    simpa [segsC] using this
  | a :: r, i + 1, hi, j, hj => by
    have h1 := segsC_at r i (by simpa using hi) j hj
    have : (segC a ++ segsC r)[(i + 1) * 5 + j]? = (segsC r)[i * 5 + j]? := by
      rw [List.getElem?_append_right (by show 5 ≤ _; omega), show (i + 1) * 5 + j - (segC a).length = i * 5 + j by show (i + 1) * 5 + j - 5 = _; omega]
    rw [show segsC (a :: r) = segC a ++ segsC r by simp [segsC], this, h1]
    simp
/-- A row of the reference's segments. -/
theorem SegsAt.of_row {w : World} {B : Nat} {v : Value} {l : List SegL} {n : Nat} (hn : n = l.length) (h : w.ownsRow B 37 5 v n (segsC l)) : ∃ ao ac, v = .slice ao n ac ∧ SegsAt w ao l := by
  subst hn
  rcases h.2 with ⟨rfl, h0⟩ | ⟨g, cap, cur, rfl, _, hg, _, _, hsz, htake⟩
  · exact ⟨none, 0, by rw [h0], fun i hi => by omega⟩
  · refine ⟨_, _, rfl, fun i hi => ⟨⟨g, 0, none⟩, rfl, fun j u hu => ?_⟩⟩
    have hj : j < 5 := (List.getElem?_eq_some_iff.1 hu).1
    have hfl : (segsC l)[i * 5 + j]? = some u := by
      rw [segsC_at l i hi j hj]; exact hu
    rw [Addr.add_lit, Nat.zero_add, cell_of hg, ← hfl, ← htake, List.getElem?_take_of_lt (by omega)]
    simp
/-- The part of the array lie of one number. -/
theorem lie_cells {w : World} {b : Nat} {f : Nat → T6} {T : TypeId} (h : w.heap[b]? = some (.cells (lieA f) T (0, 0))) (n : Nat) (hn : n < 6) (o : Nat) (ho : o = 6 * n) :
    w.cell? ⟨b, o + 1, none⟩ = some (.int .i64 (f n).2.1) ∧ w.cell? ⟨b, o + 2, none⟩ = some (.int .i64 (f n).2.2.1) ∧ w.cell? ⟨b, o + 3, none⟩ = some (.int .u32 (f n).2.2.2.1) ∧ w.cell? ⟨b, o + 4, none⟩ = some (.int .u32 (f n).2.2.2.2.1) ∧ w.cell? ⟨b, o + 5, none⟩ = some (.int .i64 (f n).2.2.2.2.2) := by
  subst ho
  refine ⟨?_, ?_, ?_, ?_, ?_⟩ <;> (rw [cell_of h, lie_at f n hn _ (by omega)]; rfl)
theorem load_hdr6 {w : World} {g o : Nat} {a b c d : Int} (h2 : w.cell? ⟨g, o + 2, none⟩ = some (.int .i64 a)) (h3 : w.cell? ⟨g, o + 3, none⟩ = some (.int .u32 b)) (h4 : w.cell? ⟨g, o + 4, none⟩ = some (.int .u32 c)) (h5 : w.cell? ⟨g, o + 5, none⟩ = some (.int .i64 d)) :
    (loadVar 25 ⟨g, o + 2, none⟩).run Try.prog w = .ok (hdV a b c d) w := by
  refine run_loadVar_cells w ⟨g, o + 2, none⟩ 25 [.int .i64 a, .int .u32 b, .int .u32 c, .int .i64 d] _ (fun j v hv => ?_) Try.underlying25 rfl (by kernel_rfl)
  match j, hv with
  | 0, hv => cases hv; exact h2
  | 1, hv => cases hv; exact h3
  | 2, hv => cases hv; exact h4
  | 3, hv => cases hv; exact h5
/-- Two clean-ups with the same list leave what the first left. -/
theorem filter_twice {α : Type} (p : α → Bool) (l : List α) : (l.filter p).filter p = l.filter p := by
  rw [List.filter_filter]
  congr 1
  funext x
  simp
theorem row_beside {w w' : World} {base : Nat} {e : TypeId} {size n : Nat} {v : Value} {xs : List Value} {row : Option Nat} (h : w.ownsRow base e size v n xs) (hg : w.grownBy w' row) (hne : ∀ k, row = some k → v.ownBlock ≠ some k) : w'.ownsRow base e size v n xs := h.kept hg (by
  cases hv : v.ownBlock with
  | none => exact .inl rfl
  | some k => exact .inr (fun e => hne k e.symm hv))
theorem DInv.len {lies : List (List UInt8)} {ws : List (Nat × List UInt8)} (h : lies.length = 98) : (landed lies ws).length = 98 := by rw [landed_length, h]
end Go.Proofs.Ytoobiffhjjfpgaa.Print
