/- queue: a queue's items; Push. -/
import Derived.Test.YtemdhcocbjcklaaQueue2
import Derived.Test.YtemdhcocbjcklaaSstore
namespace Go.Proofs.Ytemdhcocbjcklaa.Print
open Go.RowKit
attribute [local go_sem] run_loadVar_scalar

/-- An array with a part replaced. -/
def rowset (Q : Array Value) (o : Nat) (X : List Value) : Array Value := (Q.toList.take o ++ X ++ Q.toList.drop (o + X.length)).toArray
theorem rowset_size (Q : Array Value) (o : Nat) (X : List Value) (h : o + X.length ≤ Q.size) : (rowset Q o X).size = Q.size := by simp [rowset]; omega
theorem rowset_get (Q : Array Value) (o : Nat) (X : List Value) (h : o + X.length ≤ Q.size) (i : Nat) : (rowset Q o X)[i]? = if o ≤ i ∧ i < o + X.length then X[i - o]? else Q[i]? := by
  unfold rowset
  rw [List.getElem?_toArray, List.append_assoc]
  by_cases h1 : i < o
  · rw [List.getElem?_append_left (by simp; omega), List.getElem?_take, if_pos h1, if_neg (by omega)]; simp
  · rw [List.getElem?_append_right (by simp; omega)]
    have hl : (Q.toList.take o).length = o := by simp; omega
    rw [hl]
    by_cases h2 : i < o + X.length
    · rw [List.getElem?_append_left (by omega), if_pos ⟨by omega, h2⟩]
    · rw [List.getElem?_append_right (by omega), if_neg (by omega), List.getElem?_drop]; simp; congr 1; omega
theorem store_at {P : Program} {w : World} {b : Nat} {Q : Array Value} {T : TypeId} (hb : w.heap[b]? = some (.cells Q T (0, 0))) (o : Nat) (X : List Value) (h : o + X.length ≤ Q.size) (h1 : ∀ v ∈ X, v.oneCell' = true) :
    (storeCells ⟨b, o, none⟩ X).run P w = .ok () (w.setRow b (rowset Q o X)) := by
  have hst := run_storeCells_at P b o T X 0 Q w hb (by omega) h1
  simp only [Nat.add_zero] at hst
  rw [hst]; rfl

/-- An item: session, ID, kind, bytes, tick. -/
abbrev It := Int × Int × Int × Int × Int
def itV (x : It) : Array Value := itemV x.1 x.2.1 x.2.2.1 x.2.2.2.1 x.2.2.2.2
theorem itV_size (x : It) : (itV x).size = 23 := rfl
theorem itV_one (x : It) : ∀ v ∈ (itV x).toList, v.oneCell' = true := item_one _ _ _ _ _
/-- A queue in memory: its items, in order. -/
def QIs (w : World) (b : Nat) (its : List It) (room : Nat) : Prop :=
  ∃ Q first, QAt w b Q first its.length room ∧ Q.size = 371 ∧ ∀ j (h : j < its.length), ∀ k, k < 23 → Q[((first + j) % 16) * 23 + k]? = (itV its[j])[k]?
theorem QAt.keep {S : Nat → Prop} {w w1 : World} {b : Nat} {Q : Array Value} {first n room : Nat} (h : QAt w b Q first n room) (hU : Upd S w w1) (hn : ¬ S b) : QAt w1 b Q first n room :=
  ⟨hU.at_ h.at_ hn, h.first_, h.n_, h.room_, h.n_le, h.room_le, h.first_lt⟩
theorem QIs.keep {S : Nat → Prop} {w w1 : World} {b : Nat} {its : List It} {room : Nat} (h : QIs w b its room) (hU : Upd S w w1) (hn : ¬ S b) : QIs w1 b its room :=
  let ⟨Q, first, hq, r⟩ := h; ⟨Q, first, hq.keep hU hn, r⟩
theorem QIs.below {w w1 : World} {b : Nat} {its : List It} {room : Nat} (h : QIs w b its room) (hb : Below w.heap.size w w1) : QIs w1 b its room := h.keep (S := fun _ => False) (Upd.of_below hb) (fun h => h)
theorem QIs.le {w : World} {b : Nat} {its : List It} {room : Nat} (h : QIs w b its room) : its.length ≤ room ∧ room ≤ 16 := let ⟨_, _, hq, _⟩ := h; ⟨hq.n_le, hq.room_le⟩
theorem QIs.lt {w : World} {b : Nat} {its : List It} {room : Nat} (h : QIs w b its room) : b < w.heap.size := let ⟨_, _, hq, _⟩ := h; lt_of hq.at_
set_option maxRecDepth 100000 in
theorem clone_nil (w : World) : Calls Try.prog 53 #[.slice none 0 0] w fun x w' => x = .returned (.slice none 0 0) ∧ w = w' := by
  have he := fun (w : World) => run_eql_nil_slice (P := Try.prog) w 35 119 none 0 0 0 0 Try.underlying35
  go_enter Try.func53, Try.ntmps53
  go_wp2
  go_ret
  exact ⟨rfl, rfl⟩
/-- An item put behind all, in the ring's cells. -/
theorem ring_push {Q : Array Value} {first n room : Nat} {its : List It} (hQ : Q.size = 371) (hn : n = its.length) (hlt : n < room) (hr : room ≤ 16) (x : It)
    (h368 : Q[368]? = some (.int .i64 first)) (h369 : Q[369]? = some (.int .i64 n)) (h370 : Q[370]? = some (.int .i64 room)) (hit : ∀ j (h : j < its.length), ∀ k, k < 23 → Q[((first + j) % 16) * 23 + k]? = (itV its[j])[k]?) :
    ((rowset Q (((first + n) % 16) * 23) (itV x).toList).setIfInBounds 369 (.int .i64 ((n : Int) + 1))).size = 371 ∧ ((rowset Q (((first + n) % 16) * 23) (itV x).toList).setIfInBounds 369 (.int .i64 ((n : Int) + 1)))[368]? = some (.int .i64 first) ∧
    ((rowset Q (((first + n) % 16) * 23) (itV x).toList).setIfInBounds 369 (.int .i64 ((n : Int) + 1)))[369]? = some (.int .i64 ((its ++ [x]).length : Nat)) ∧ ((rowset Q (((first + n) % 16) * 23) (itV x).toList).setIfInBounds 369 (.int .i64 ((n : Int) + 1)))[370]? = some (.int .i64 room) ∧
    ∀ j (h : j < (its ++ [x]).length), ∀ k, k < 23 → ((rowset Q (((first + n) % 16) * 23) (itV x).toList).setIfInBounds 369 (.int .i64 ((n : Int) + 1)))[((first + j) % 16) * 23 + k]? = (itV (its ++ [x])[j])[k]? := by
  have hl : (itV x).toList.length = 23 := rfl
  have hp : (first + n) % 16 < 16 := Nat.mod_lt _ (by omega)
  have hfit : ((first + n) % 16) * 23 + (itV x).toList.length ≤ Q.size := by omega
  have hs := rowset_size Q _ _ hfit
  have hg := rowset_get Q _ _ hfit
  rw [hl] at hg
  refine ⟨by rw [Array.size_setIfInBounds, hs, hQ], ?_, ?_, ?_, ?_⟩
  · rw [Array.getElem?_setIfInBounds_ne (by omega), hg, if_neg (by omega), h368]
  · rw [Array.getElem?_setIfInBounds_self_of_lt (by omega)]; simp; omega
  · rw [Array.getElem?_setIfInBounds_ne (by omega), hg, if_neg (by omega), h370]
  · intro j hj k hk
    have hq : (first + j) % 16 < 16 := Nat.mod_lt _ (by omega)
    rw [Array.getElem?_setIfInBounds_ne (by omega), hg]
    rw [List.length_append, List.length_singleton] at hj
    by_cases hjn : j = its.length
    · subst hjn
      subst hn
      rw [if_pos (by omega), show ((first + its.length) % 16) * 23 + k - ((first + its.length) % 16) * 23 = k by omega]
      simp
    · have hj' : j < its.length := by omega
      have hne : (first + j) % 16 ≠ (first + n) % 16 := by omega
      rw [if_neg (by omega), hit j hj' k hk, List.getElem_append_left hj']
def QPost (w : World) (b : Nat) (its : List It) (room : Nat) (w' : World) : Prop := QIs w' b its room ∧ Upd (fun i => i = b) w w'
theorem load_row23 {w : World} {g : Nat} {X : Array Value} (hg : w.heap[g]? = some (.cells X 39)) (hX : X.size = 23) : (loadVar 39 ⟨g, 0, none⟩).run Try.prog w = .ok (.agg X) w :=
  load_item w g 39 (0, 0) X hX hg
set_option maxRecDepth 100000 in
set_option maxHeartbeats 800000 in
attribute [-go_sem] Instr.build Instr.fill loadVar in
theorem push_ok {w : World} {b room : Nat} {its : List It} (q : QIs w b its room) (hlt : its.length < room) (x : It) :
    Calls Try.prog 17 #[.pointer (some ⟨b, 0, none⟩), .agg (itV x)] w fun e w' => e = .returned (.int .i64 0) ∧ QPost w b (its ++ [x]) room w' := by
  obtain ⟨Q, first, hq, hQ, hit⟩ := q
  have hp : (first + its.length) % 16 < 16 := Nat.mod_lt _ (by omega)
  have hr16 := hq.room_le
  have HF := Lib.hid hq.first_lt
  have hdone := ring_push hQ rfl hlt hq.room_le x hq.first_ hq.n_ hq.room_ hit
  have hst0 := fun (W : World) (hb : W.heap[b]? = some (.cells Q 116)) => store_at (P := Try.prog) hb (((first + its.length) % 16) * 23) (itV x).toList (by have : (itV x).toList.length = 23 := rfl; omega) (itV_one x)
  have hX := itV_size x
  have h20 : (itV x)[20]? = some (.slice none 0 0) := rfl
  have hXl : (itV x).toList.length = 23 := rfl
  have hrs := rowset_size Q (((first + its.length) % 16) * 23) (itV x).toList (by omega)
  have hrg := rowset_get Q (((first + its.length) % 16) * 23) (itV x).toList (by omega)
  have hlb := lt_of hq.at_
  have hq1 : QAt (w.alloc (.cells (itV x) 39)) b Q first its.length room := hq.keep (S := fun _ => False) ((Upd.refl _ _).alloc _) (fun h => h)
  have hg1 := alloc_at w (.cells (itV x) 39)
  have hU1 : Upd (fun i => i = b) w (w.alloc (.cells (itV x) 39)) := (Upd.refl _ _).alloc _
  generalize itV x = X at hst0 hX h20 hXl hrs hrg hq1 hg1 hU1 hdone ⊢
  have c9 := (cell_of hq1.at_ 369).trans hq1.n_
  have c10 := (cell_of hq1.at_ 370).trans hq1.room_
  have ci := (cell_of hg1 20).trans h20
  have fi := free_of hg1 20
  have hne : (its.length == room) = false := by simp; omega
  have hgb : w.heap.size ≠ b := by omega
  have HST := Lib.hid hst0
  have HD := Lib.hid hdone
  have HRS := Lib.hid hrs
  have HRG := Lib.hid hrg
  have HQ := Lib.hid hQ
  have HX := Lib.hid hX
  have HXL := Lib.hid hXl
  have H20 := Lib.hid h20
  have HQ1 := Lib.hid hq1
  have HG1 := Lib.hid hg1
  clear hst0 hdone hrs hrg hQ hX hXl h20 hit hq hq1 hg1
  go_enter Try.func17, Try.ntmps17
  go_wp2
  go_quiet (fail)
  go_wp2_with fail
  refine (clone_nil _).mono ?_
  rintro y w1 ⟨rfl, rfl⟩
  have hsame : X.setIfInBounds 20 (.slice none 0 0) = X := by
    apply Array.ext_getElem?
    intro i
    by_cases h : i = 20
    · subst h; rw [Array.getElem?_setIfInBounds_self_of_lt (by rw [HX.out]; omega), H20.out]
    · rw [Array.getElem?_setIfInBounds_ne (by omega)]
  have g2 : (((w.alloc (.cells X 39)).drewN nq).setCell ⟨w.heap.size, 20, none⟩ (.slice none 0 0)).heap[w.heap.size]? = some (.cells X 39) := by
    have := cells_set ((w.alloc (.cells X 39)).drewN nq) w.heap.size 20 X 39 (0, 0) HG1.out (.slice none 0 0)
    rwa [hsame] at this
  have hU2 : Upd (fun i => i = b) w (((w.alloc (.cells X 39)).drewN nq).setCell ⟨w.heap.size, 20, none⟩ (.slice none 0 0)) := (hU1.drewN nq).setCell (p := ⟨w.heap.size, 20, none⟩) (fun h => absurd h (Nat.lt_irrefl _)) _
  have q2 : QAt (((w.alloc (.cells X 39)).drewN nq).setCell ⟨w.heap.size, 20, none⟩ (.slice none 0 0)) b Q first its.length room := HQ1.out.keep (S := fun i => i = w.heap.size) (((Upd.refl (fun i => i = w.heap.size) _).drewN nq).setCell (p := ⟨w.heap.size, 20, none⟩) (fun _ => rfl) _) (fun e => hgb e.symm)
  obtain ⟨p, hpe⟩ : ∃ p, (first + its.length) % 16 = p := ⟨_, rfl⟩
  have hat := qat_any b Q first its.length room its.length (by omega) (((((w.alloc (.cells X 39)).drewN nq).setCell ⟨w.heap.size, 20, none⟩ (.slice none 0 0))).drew) (q2.keep (S := fun _ => False) (Upd.refl _ _).drew (fun h => h))
  rw [hpe] at hat HST hp HD HRS HRG
  have HAT := Lib.hid hat
  have hld := load_row23 (w := ((((w.alloc (.cells X 39)).drewN nq).setCell ⟨w.heap.size, 20, none⟩ (.slice none 0 0))).drew) g2 HX.out
  have hst := HST.out ((((w.alloc (.cells X 39)).drewN nq).setCell ⟨w.heap.size, 20, none⟩ (.slice none 0 0))).drew q2.at_
  have c92 := (cell_of q2.at_ 369).trans q2.n_
  have hp0 : (0 : Int) ≤ (p : Int) := Int.natCast_nonneg _
  have hp1 : (p : Int) < 16 := by omega
  have HPE := Lib.hid hpe
  have HG2 := Lib.hid g2
  have HQ2 := Lib.hid q2
  have HU2 := Lib.hid hU2
  clear hat hpe g2 q2 hU2 c9 c10 HG1 HQ1 hU1
  go_wp2_with fail
  clear ci fi
  generalize hWe : (((w.alloc (.cells X 39)).drewN nq).setCell ⟨w.heap.size, 20, none⟩ (.slice none 0 0)) = W2 at HAT hld hst c92 HG2 HQ2 HU2 ⊢
  clear hWe
  have g3 : (W2.drew.setRow b (rowset Q (p * 23) X.toList)).heap[b]? = some (.cells (rowset Q (p * 23) X.toList) 116) := setRow_block (w := W2.drew) HQ2.out.at_
  have c93 : (W2.drew.setRow b (rowset Q (p * 23) X.toList)).cell? ⟨b, 369, none⟩ = some (.int .i64 its.length) := by
    have := HQ2.out.n_
    rw [cell_of g3, HRG.out, if_neg (by rw [HXL.out]; omega), this]
  have f93 := free_of g3 369
  have hU3 : Upd (fun i => i = b) w (W2.drew.setRow b (rowset Q (p * 23) X.toList)) := HU2.out.drew.setRow (fun _ => rfl) _
  have HG3 := Lib.hid g3
  have HU3 := Lib.hid hU3
  clear g3 hU3
  go_region_with (go_at_call 54; (with_reducible refine HAT.out.mono ?_); rintro y w3 ⟨rfl, rfl⟩)
  all_goals
    go_wp2
    go_ret
    obtain ⟨d1, d2, d3, d4, d5⟩ := HD.out
    refine ⟨rfl, ⟨_, first, ⟨cells_set _ _ _ _ _ _ HG3.out _, d2, d3, d4, ?_, hr16, HF.out⟩, d1, d5⟩, HU3.out.setCell (p := ⟨b, 369, none⟩) (fun _ => rfl) _⟩
    rw [List.length_append, List.length_singleton]; omega
end Go.Proofs.Ytemdhcocbjcklaa.Print
