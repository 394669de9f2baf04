/- Frames that came in; large, ref, May, Same. One more frame: what any Append leaves of a segment that is being put. -/
import Derived.Test.YtoobiffhjjfpgaaGreatSegA
import Derived.ProofKit
import Derived.OpenShut
import Derived.Deep.Slices
import Derived.ChangeSame
import Derived.Test.YtoobiffhjjfpgaaGreatPut
namespace Go.Proofs.YtoobiffhjjfpgaaGreat.Print
open Go.RowKit
attribute [local go_sem] run_loadVar_scalar

/-- Frames in memory. -/
def FrsAt (w : World) (ao : Option Addr) (l : List Fr) : Prop := ∀ i (h : i < l.length), ∃ a, ao = some a ∧ ∀ j u, (frC l[i])[j]? = some u → w.cell? (a.add (i * 2 + j)) = some u
theorem FrsAt.keep {S : Nat → Prop} {w w1 : World} {ao : Option Addr} {l : List Fr} (h : FrsAt w ao l) (hU : Upd S w w1) (hn : ∀ a, ao = some a → 0 < l.length → ¬ S a.block) : FrsAt w1 ao l := by
  intro i hi
  obtain ⟨a, ha, hc⟩ := h i hi
  refine ⟨a, ha, fun j u hu => ?_⟩
  have hcw := hc j u hu
  rw [World.cell?_of_block (hU.other _ (World.block_lt_of_cell? w _ hcw) (by rw [addr_block]; exact hn a ha (by omega)))]
  exact hcw
theorem FrsAt.below {w w1 : World} {ao : Option Addr} {l : List Fr} (h : FrsAt w ao l) (hb : Below w.heap.size w w1) : FrsAt w1 ao l := h.keep (S := fun _ => False) (Upd.of_below hb) (fun _ _ _ h => h)
theorem frSize (x : Fr) : (Tryz.prog.info? 43).map (·.size) = some (frC x).length := by kernel_rfl
theorem FrsAt.load {w : World} {ao : Option Addr} {l : List Fr} (h : FrsAt w ao l) (i : Nat) (hi : i < l.length) : ∃ a, ao = some a ∧ (loadVar 43 (a.add (i * 2))).run Tryz.prog w = .ok (frV l[i].1 l[i].2) w := by
  obtain ⟨a, ha, hc⟩ := h i hi
  refine ⟨a, ha, run_loadVar_cells w (a.add (i * 2)) 43 (frC l[i]) _ (fun j v hv => ?_) Tryz.underlying43 rfl (frSize _)⟩
  rw [Go.Deep.add_add]
  exact hc j v hv
theorem fcells_at : ∀ (fs : List Fr) (i : Nat) (hi : i < fs.length) (j : Nat), j < 2 → (fcells fs)[i * 2 + j]? = (frC fs[i])[j]?
  | a :: r, 0, _, j, hj => by
    have : (frC a ++ fcells r)[j]? = (frC a)[j]? := List.getElem?_append_left (by exact hj)
    simpa [fcells] using this
  | a :: r, i + 1, hi, j, hj => by
    have h1 := fcells_at r i (by simpa using hi) j hj
    have : (frC a ++ fcells r)[(i + 1) * 2 + j]? = (fcells r)[i * 2 + j]? := by
      rw [List.getElem?_append_right (by show 2 ≤ _; omega), show (i + 1) * 2 + j - (frC a).length = i * 2 + j by show (i + 1) * 2 + j - 2 = _; omega]
    rw [show fcells (a :: r) = frC a ++ fcells r by simp [fcells], this, h1]
    simp
/-- A row of frames of a block of its own. -/
theorem FrsAt.of_row {w : World} {B : Nat} {fv : Value} {fs : List Fr} (h : w.ownsRow B 43 2 fv fs.length (fcells fs)) : ∃ ao ac, fv = .slice ao fs.length ac ∧ FrsAt w ao fs := by
  rcases h.2 with ⟨rfl, h0⟩ | ⟨g, cap, cur, rfl, _, hg, _, _, hsz, htake⟩
  · exact ⟨none, 0, by rw [h0], fun i hi => by omega⟩
  · refine ⟨_, _, rfl, fun i hi => ⟨⟨g, 0, none⟩, rfl, fun j u hu => ?_⟩⟩
    have hj : j < 2 := (List.getElem?_eq_some_iff.1 hu).1
    have hfl : (fcells fs)[i * 2 + j]? = some u := by
      rw [fcells_at fs i hi j hj]; exact hu
    rw [Addr.add_lit, Nat.zero_add, cell_of hg, ← hfl, ← htake, List.getElem?_take_of_lt (by omega)]
    simp

/-- Are frames more than are gone through? -/
def lgB (l : List Fr) : Bool := decide (40 < l.length) || l.any fun x => decide (900 < x.2.size)
theorem lgB_false {l : List Fr} (h : lgB l = false) : l.length ≤ 40 ∧ ∀ x ∈ l, x.2.size ≤ 900 := by
  unfold lgB at h
  rw [Bool.or_eq_false_iff] at h
  refine ⟨by have := of_decide_eq_false h.1; omega, fun x hx => ?_⟩
  have := List.any_eq_false.1 h.2 x hx
  simp at this; omega
theorem lgB_one {l : List Fr} {x : Fr} (hx : x ∈ l) (h : 900 < x.2.size) : lgB l = true := by
  unfold lgB
  rw [Bool.or_eq_true]
  exact .inr (List.any_eq_true.2 ⟨x, hx, by simpa using h⟩)
theorem lgB_none {l : List Fr} (h : l.length ≤ 40) (h2 : ∀ x ∈ l, x.2.size ≤ 900) : lgB l = false := by
  unfold lgB
  rw [Bool.or_eq_false_iff]
  refine ⟨decide_eq_false (by omega), List.any_eq_false.2 fun x hx => ?_⟩
  have := h2 x hx
  simp; omega

/-- May a header be? -/
def mayB (a d : Int) : Bool := decide (1 ≤ a) && (decide (a ≤ 65535) && (decide (0 ≤ d) && decide (d ≤ 1099511627776)))
theorem mayB_true {a d : Int} (h : mayB a d = true) : 1 ≤ a ∧ a ≤ 65535 ∧ 0 ≤ d ∧ d ≤ 1099511627776 := by
  unfold mayB at h
  simp only [Bool.and_eq_true, decide_eq_true_eq] at h
  exact ⟨h.1, h.2.1, h.2.2.1, h.2.2.2⟩

set_option maxRecDepth 100000 in
set_option maxHeartbeats 1600000 in
attribute [-go_sem] loadVar in
/-- Two rows of the same frames are the same. -/
theorem same_any {w : World} {ao bo : Option Addr} {l : List Fr} (h : FrsAt w ao l) (g : FrsAt w bo l) (ca cb : Nat) (hl : l.length ≤ 1000000) :
    Calls Tryz.prog 29 #[.slice ao l.length ca, .slice bo l.length cb] w fun x w' => x = .returned (.bool true) ∧ Below w.heap.size w w' := by
  have H := Lib.hid h
  have H2 := Lib.hid g
  clear h g
  go_enter Tryz.func29, Tryz.ntmps29
  go_wp2
  go_loopw [14] (fun i wr => ∃ j : Nat, j ≤ l.length ∧ i = .int .i64 j ∧ Below w.heap.size w wr) (fun i _ => l.length - (intOf i).toNat)
  case atStart => exact ⟨0, Nat.zero_le _, rfl, Below.refl _ _⟩
  case round =>
    obtain ⟨j, hj, rfl, hB⟩ := hrel
    by_cases hlt : j < l.length
    · obtain ⟨a, rfl, hld⟩ := (H.out.below hB).load j hlt
      have hl3 := fun (W : World) (hb : Below wr.heap.size wr W) => ((H2.out.below hB).below hb).load j hlt
      obtain ⟨x, hxx⟩ : ∃ x, l[j] = x := ⟨_, rfl⟩
      rw [hxx] at hld hl3
      obtain ⟨k, p⟩ := x
      have hBz : Below wr.heap.size wr (wr.alloc (.cells #[.int .i64 k, .string p] 43)).drew := ((Below.refl _ _).alloc (Nat.le_refl _) _).drew
      obtain ⟨b, rfl, hld2⟩ := hl3 _ hBz
      have hld3 := load_fr (w := (wr.alloc (.cells #[.int .i64 k, .string p] 43)).drew) (g := wr.heap.size) (alloc_at wr _)
      have HL3 := Lib.hid hl3
      clear hl3 hxx
      have q1 : (j : Int) < (l.length : Int) := by omega
      go_wp2_with fail
      go_region
      all_goals
        go_wp2
        go_roundw
        case rel => exact ⟨j + 1, hlt, by simp, hB.trans (hBz.mono hB.size)⟩
        case measure => simp [intOf]; omega
    · obtain rfl : j = l.length := by omega
      go_wp2
      go_ret
      exact ⟨rfl, hB⟩
end Go.Proofs.YtoobiffhjjfpgaaGreat.Print

namespace Go.Proofs.YtoobiffhjjfpgaaGreat.Print
open Go.RowKit

/-- A segment that is being put into the law's view. -/
def PutAt (v s n : Nat) (h : H4) (fs : List Fr) (e : Nat) (W : List (Nat × List UInt8)) (w : World) (F G : Foot) : Prop :=
  ViewIs v (zeroDisk 36) W 1 34 (-1) false w F ∧ SegIs s v n h fs e false w G ∧ Apart F G ∧ PutInv (secO (zeroDisk 36) W 1 n) h fs e ∧ W.length ≤ e
theorem PutAt.below {v s n : Nat} {h : H4} {fs : List Fr} {e : Nat} {W : List (Nat × List UInt8)} {w w' : World} {F G : Foot} (P : PutAt v s n h fs e W w F G) (hb : Below w.heap.size w w') : PutAt v s n h fs e W w' F G :=
  ⟨ViewIs.stays.below P.1 hb, SegIs.stays.below P.2.1 hb, P.2.2.1, P.2.2.2.1, P.2.2.2.2⟩
theorem put_create {w : World} {v : Nat} {F : Foot} (V : ViewIs v (zeroDisk 36) [] 1 34 (-1) false w F) (n : Nat) (h : H4) (hf : HFits h) (hn : n < 2) (i : Int) (hi : i = n) :
    Calls Tryz.prog 115 #[.pointer (some ⟨v, 0, none⟩), .int .i64 i, hdV h.1 h.2.1 h.2.2.1 h.2.2.2] w fun x w' => ∃ (s : Nat) (W : List (Nat × List UInt8)) (F' G' : Foot), x = .returned (.tuple #[.pointer (some ⟨s, 0, none⟩), .int .i64 0]) ∧
      PutAt v s n h [] 1 W w' F' G' ∧ Upd F w w' ∧ Fresh w F F' ∧ ∀ i, G' i → w.heap.size ≤ i := by
  refine (create_go V n h hf (by omega) (by omega) (by simp) i hi).mono ?_
  rintro x w' ⟨s, F', G', hx, hV, hS, hA, hU, hF, hG⟩
  exact ⟨s, _, F', G', hx, ⟨hV, hS, hA, putInv_create hf (fun k hk1 hk2 x hx => by rw [secO_zero 36 1 n k (by omega)] at hx; cases hx), by simp [sealAt]⟩, hU, hF, hG⟩
theorem put_step {w : World} {v s n : Nat} {h : H4} {fs : List Fr} {e : Nat} {W : List (Nat × List UInt8)} {F G : Foot} (P : PutAt v s n h fs e W w F G) (hf : HFits h) (hn : n < 2) (k : Int) (p : ByteArray) :
    Calls Tryz.prog 77 #[.pointer (some ⟨s, 0, none⟩), frV k p] w fun x w' => ∃ (r : Value) (fs' : List Fr) (e' : Nat) (W' : List (Nat × List UInt8)) (F' G' : Foot), x = .returned r ∧
      PutAt v s n h fs' e' W' w' F' G' ∧ Upd (Both F G) w w' ∧ Fresh w F F' ∧ Fresh w G G' := by
  obtain ⟨V, S, A, I, hW⟩ := P
  have he1 := I.e1
  have he2 := I.e16
  have hl := I.runs.le
  by_cases hw : wrongP k p.size = 0
  · have hk : 1 ≤ k ∧ k ≤ 255 ∧ p.size ≤ 773 := by
      unfold wrongP at hw
      by_cases h1 : k < 1 ∨ 255 < k
      · rw [if_pos h1] at hw; omega
      · rw [if_neg h1] at hw
        by_cases h2 : 773 < p.size
        · rw [if_pos h2] at hw; omega
        · omega
    obtain ⟨K, rfl⟩ := Int.eq_ofNat_of_zero_le (show 0 ≤ k by omega)
    by_cases hfit : e + many (7 + p.size) ≤ 16
    · refine (append_go V S A hf.2.2.2.1 (by omega) (by omega) he1 he2 (by omega) (by omega) K p (by omega) (by omega) hk.2.2 hfit K rfl).mono ?_
      rintro x w' ⟨F', G', hx, hV, hS, hU, hF, hG, hA⟩
      exact ⟨_, _, _, _, F', G', hx, ⟨hV, hS, hA, putInv_append I hf.2.2.2.1 (by omega) (by omega) hk.2.2 hfit, by rw [List.length_append, sealAt_length, frP_length]; omega⟩, hU, hF, hG⟩
    · refine (append_any V S A hf.2.2.2.1 (by omega) (by omega) he1 he2 (by omega) (by omega) K p (by omega) (by omega) hk.2.2).mono ?_
      rintro x w' (⟨_, hx, hb⟩ | ⟨h1, _⟩)
      · exact ⟨_, fs, e, W, F, G, hx, PutAt.below ⟨V, S, A, I, hW⟩ hb, Upd.of_below hb, Fresh.refl _ _, Fresh.refl _ _⟩
      · exact absurd h1 hfit
  · refine (append_wrong S k p he1 he2 hw).mono ?_
    rintro x w' ⟨hx, hb⟩
    exact ⟨_, fs, e, W, F, G, hx, PutAt.below ⟨V, S, A, I, hW⟩ hb, Upd.of_below hb, Fresh.refl _ _, Fresh.refl _ _⟩
/-- Loaded whole. -/
theorem put_load {w : World} {v s n : Nat} {h : H4} {fs : List Fr} {e : Nat} {W : List (Nat × List UInt8)} {F G : Foot} (P : PutAt v s n h fs e W w F G) (hf : HFits h) (hn : n < 2) (i : Int) (hi : i = n) :
    Calls Tryz.prog 82 #[.pointer (some ⟨v, 0, none⟩), .int .i64 i] w fun x w' => ∃ (t : Nat) (T : Foot), x = .returned (.tuple #[.pointer (some ⟨t, 0, none⟩), .int .i64 0]) ∧ SegIs t v n h fs e true w' T ∧ Below w.heap.size w w' := by
  obtain ⟨V, S, A, I, hW⟩ := P
  have he2 := I.e16
  obtain ⟨hh1, hh2⟩ := putInv_load (secO_52 _ _ _ _) hf I
  refine (load_any V n (by omega) (by omega) (by omega) i hi (secO (zeroDisk 36) W 1 n) (fun _ => rfl)).mono ?_
  rintro x w' (⟨hno, _⟩ | ⟨h', t, T, hsome, hx, hT, hb, _⟩)
  · rw [hh1] at hno; cases hno
  · rw [hh1] at hsome
    obtain rfl : h = h' := by cases hsome; rfl
    rw [hh2] at hT
    exact ⟨t, T, hx, hT, hb⟩
end Go.Proofs.YtoobiffhjjfpgaaGreat.Print
