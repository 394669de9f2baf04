/- segment: first, write. segment: write. segment: Create, and a segment as an object. -/
import Derived.Test.YtoobiffhjjfpgaaGreatHead
import Derived.Test.YtoobiffhjjfpgaaGreatFresh
namespace Go.Proofs.YtoobiffhjjfpgaaGreat.Print
open Go.RowKit

abbrev segObj (v : Nat) (n : Int) (h : H4) (fv : Value) (e : Int) (sealed : Bool) : Obj :=
  .cells #[.pointer (some ⟨v, 0, none⟩), .int .i64 n, .int .i64 h.1, .int .u32 h.2.1, .int .u32 h.2.2.1, .int .i64 h.2.2.2, fv, .int .i64 e, .bool sealed] 155
theorem nine_of {w : World} {b : Nat} {c0 c1 c2 c3 c4 c5 c6 c7 c8 : Value} {t : TypeId} (h : w.heap[b]? = some (.cells #[c0, c1, c2, c3, c4, c5, c6, c7, c8] t)) :
    w.cell? ⟨b, 0, none⟩ = some c0 ∧ w.cell? ⟨b, 1, none⟩ = some c1 ∧ w.cell? ⟨b, 2, none⟩ = some c2 ∧ w.cell? ⟨b, 3, none⟩ = some c3 ∧ w.cell? ⟨b, 4, none⟩ = some c4 ∧ w.cell? ⟨b, 5, none⟩ = some c5 ∧ w.cell? ⟨b, 6, none⟩ = some c6 ∧ w.cell? ⟨b, 7, none⟩ = some c7 ∧ w.cell? ⟨b, 8, none⟩ = some c8 ∧ ∀ o, w.frozen? ⟨b, o, none⟩ = false :=
  ⟨by rw [cell_of h]; rfl, by rw [cell_of h]; rfl, by rw [cell_of h]; rfl, by rw [cell_of h]; rfl, by rw [cell_of h]; rfl, by rw [cell_of h]; rfl, by rw [cell_of h]; rfl, by rw [cell_of h]; rfl, by rw [cell_of h]; rfl, fun o => free_of h o⟩

theorem vsize_any {w : World} {v d : Nat} {f n fu st : Int} {dead : Bool} (h : w.heap[v]? = some (viewObj d f n fu st dead)) :
    Calls Tryz.prog 134 #[.pointer (some ⟨v, 0, none⟩)] w fun x w' => x = .returned (.int .i64 n) ∧ w = w' := by
  obtain ⟨c0, c1, c2, c3, c4, c5, hf⟩ := six_of' h
  go_enter Tryz.func134, Tryz.ntmps134
  go_wp2
  go_ret
  exact ⟨rfl, rfl⟩

set_option maxHeartbeats 400000 in
theorem first_nil (n : Int) (w : World) :
    Calls Tryz.prog 117 #[.pointer none, .int .i64 n] w fun x w' => x = .returned (.tuple #[.int .i64 0, .int .i64 7]) ∧ w = w' := by
  go_enter Tryz.func117, Tryz.ntmps117
  go_wp2
  exact bodyPost_ret (v := .tuple #[.int .i64 0, .int .i64 7]) (by simp [results, Tryz.results117, go_sem]) rfl ⟨rfl, rfl⟩

set_option maxHeartbeats 400000 in
theorem first_bad {w : World} {v d : Nat} {f fu st : Int} {m : Nat} {dead : Bool} (h : w.heap[v]? = some (viewObj d f m fu st dead)) (n : Int) (hm : m ≤ 8192) (hm2 : 2 ≤ m) (hn : n < 0 ∨ (((m - 2) / 16 : Nat) : Int) ≤ n) :
    Calls Tryz.prog 117 #[.pointer (some ⟨v, 0, none⟩), .int .i64 n] w fun x w' => x = .returned (.tuple #[.int .i64 0, .int .i64 20]) ∧ w = w' := by
  have w1 : IntKind.i64.wrap ((m : Int) - 2) = ((m - 2 : Nat) : Int) := by rw [IntKind.wrap_i64]; omega
  have w2 : wrap64 (((m - 2 : Nat) : Int) / 16) = (((m - 2) / 16 : Nat) : Int) := by unfold wrap64; omega
  go_enter Tryz.func117, Tryz.ntmps117
  by_cases h0 : n < 0
  · have k0 : decide (n < 0) = true := decide_eq_true h0
    go_wp2
    exact bodyPost_ret (v := .tuple #[.int .i64 0, .int .i64 20]) (by simp [results, Tryz.results117, go_sem]) rfl ⟨rfl, rfl⟩
  · have k0 : decide (n < 0) = false := decide_eq_false h0
    have k1 : decide ((((m - 2) / 16 : Nat) : Int) ≤ n) = true := decide_eq_true (by omega)
    generalize (m - 2) / 16 = q at w2 k1
    generalize m - 2 = r at w1 w2
    go_wp2_with fail
    refine (vsize_any h).mono ?_
    rintro x w3 ⟨rfl, rfl⟩
    go_wp2
    exact bodyPost_ret (v := .tuple #[.int .i64 0, .int .i64 20]) (by simp [results, Tryz.results117, go_sem]) rfl ⟨rfl, rfl⟩

set_option maxHeartbeats 400000 in
theorem first_ok {w : World} {v d : Nat} {f fu st : Int} {m : Nat} {dead : Bool} (h : w.heap[v]? = some (viewObj d f m fu st dead)) (n : Nat) (hm : m ≤ 8192) (hn : 2 + 16 * n + 16 ≤ m) :
    Calls Tryz.prog 117 #[.pointer (some ⟨v, 0, none⟩), .int .i64 n] w fun x w' => x = .returned (.tuple #[.int .i64 (2 + 16 * n : Nat), .int .i64 0]) ∧ w = w' := by
  have w1 : IntKind.i64.wrap ((m : Int) - 2) = ((m - 2 : Nat) : Int) := by rw [IntKind.wrap_i64]; omega
  have w2 : wrap64 (((m - 2 : Nat) : Int) / 16) = (((m - 2) / 16 : Nat) : Int) := by unfold wrap64; omega
  have k0 : decide ((n : Int) < 0) = false := decide_eq_false (by omega)
  have k1 : ¬ (m - 2) / 16 ≤ n := by omega
  have w3 : IntKind.i64.wrap (16 * (n : Int)) = ((16 * n : Nat) : Int) := by rw [IntKind.wrap_i64]; omega
  have w4 : IntKind.i64.wrap (2 + ((16 * n : Nat) : Int)) = ((2 + 16 * n : Nat) : Int) := by rw [IntKind.wrap_i64]; omega
  generalize (m - 2) / 16 = q at w2 k1
  generalize m - 2 = r at w1 w2
  generalize 2 + 16 * n = A at w4
  generalize 16 * n = B at w3 w4
  go_enter Tryz.func117, Tryz.ntmps117
  go_wp2_with fail
  refine (vsize_any h).mono ?_
  rintro x w3 ⟨rfl, rfl⟩
  go_wp2
  exact bodyPost_ret (v := .tuple #[.int .i64 A, .int .i64 0]) (by simp [results, Tryz.results117, go_sem]) rfl ⟨rfl, rfl⟩
end Go.Proofs.YtoobiffhjjfpgaaGreat.Print

namespace Go.Proofs.YtoobiffhjjfpgaaGreat.Print
open Go.RowKit

/-- Pieces that are sealed, from a place on. -/
def sealAt : Nat → Nat → Nat → List (List UInt8) → List (Nat × List UInt8)
  | _, _, _, [] => []
  | b, s, c, p :: r => (b, sealL s c p) :: sealAt (b + 1) s c r
theorem sealAt_snoc (b s c : Nat) (l : List (List UInt8)) (p : List UInt8) : sealAt b s c (l ++ [p]) = sealAt b s c l ++ [(b + l.length, sealL s c p)] := by
  induction l generalizing b with
  | nil => rfl
  | cons a r ih => simp only [List.cons_append, sealAt, ih, List.length_cons]; rw [show b + 1 + r.length = b + (r.length + 1) by omega]
theorem sealAt_length (b s c : Nat) (l : List (List UInt8)) : (sealAt b s c l).length = l.length := by
  induction l generalizing b with
  | nil => rfl
  | cons a r ih => simp [sealAt, ih]
theorem VPost.refl {w : World} {v d lb : Nat} {wv : Value} {lies : List (List UInt8)} {waits : List (Nat × List UInt8)} {f n : Nat} {fu : Int} {dead : Bool} (V : VAt w v d lb wv lies waits f n fu dead) : VPost w v d lb wv lies waits f n fu dead w := ⟨wv, V, Upd.refl _ _, fun _ h => .inl h⟩
/-- What a write of pieces leaves of a view. -/
def WPost (w : World) (v d lb : Nat) (wv : Value) (lies : List (List UInt8)) (waits : List (Nat × List UInt8)) (f n : Nat) (fu : Int) (dead : Bool) (b stamp count : Nat) (L : List (List UInt8)) (e : Int) (w' : World) : Prop :=
  ∃ (j : Nat) (fu' : Int) (dead' : Bool), j ≤ L.length ∧ VPost w v d lb wv lies (waits ++ sealAt b stamp count (L.take j)) f n fu' dead' w' ∧
    ((e = 0 ∧ j = L.length ∧ dead' = dead) ∨ (e = 21 ∧ dead' = true)) ∧ (dead = true → j = 0) ∧ (dead = false → fu = -1 → e = 0 ∧ fu' = -1) ∧ (dead = true → 0 < L.length → e = 21)

set_option maxRecDepth 100000 in
set_option maxHeartbeats 1600000 in
theorem write_any {w : World} {v d lb : Nat} {wv : Value} {lies : List (List UInt8)} {waits : List (Nat × List UInt8)} {f N : Nat} {fu : Int} {dead : Bool} (V : VAt w v d lb wv lies waits f N fu dead)
    (s n : Nat) (h : H4) (fv : Value) (e : Int) (sealed : Bool) (hs : w.heap[s]? = some (segObj v n h fv e sealed)) (hsv : ¬ VFoot v d lb wv s) (hst : h.2.2.1 < 4294967296)
    (hN : N ≤ 8192) (hn : 2 + 16 * n + 16 ≤ N) (at_ count : Nat) (hc1 : 1 ≤ count) (hc2 : count < 65536) (L : List (List UInt8)) (hL : at_ + L.length ≤ 16) (h52 : ∀ p ∈ L, p.length = 52)
    (B : Nat) (pv : Value) (hp : w.ownsRow B 9 1 pv L.length (L.map fun l => .string (bs l))) (hpv : ∀ i, pv.ownBlock = some i → ¬ VFoot v d lb wv i) (hw : waits.length ≤ 900000000) :
    Calls Tryz.prog 113 #[.pointer (some ⟨s, 0, none⟩), .int .i64 at_, .int .i64 count, pv] w fun x w' => ∃ e : Int, x = .returned (.int .i64 e) ∧
      WPost w v d lb wv lies waits f N fu dead (f + (2 + 16 * n + at_)) h.2.2.1 count L e w' := by
  obtain ⟨st, hv⟩ := V.view_
  obtain ⟨c0, c1, c2, c3, c4, c5, c6, c7, c8, hfz⟩ := nine_of hs
  have hF := first_ok (w := w.drew) hv n hN hn
  have HF := Lib.hid hF
  have HV := Lib.hid V
  have HS := Lib.hid hs
  have HP := Lib.hid hp
  have hvl : ∃ ao ac, pv = .slice ao L.length ac := by
    rcases Nat.eq_zero_or_pos L.length with h0 | h0
    · rcases hp.2 with ⟨rfl, _⟩ | ⟨g, cap, cur, rfl, _⟩
      · exact ⟨none, 0, by rw [h0]⟩
      · exact ⟨_, _, rfl⟩
    · obtain ⟨g, cap, cur, rfl, _⟩ := row_of hp h0
      exact ⟨_, _, rfl⟩
  obtain ⟨ao, ac, rfl⟩ := hvl
  clear hF hv V hs hp
  have hlen : L.length ≤ 16 := by omega
  go_enter Tryz.func113, Tryz.ntmps113
  go_wp2_with fail
  go_region_with (go_at_call 117; (with_reducible refine HF.out.mono ?_); rintro x w1 ⟨rfl, rfl⟩)
  all_goals
    have hP0 : VPost w v d lb wv lies (waits ++ sealAt (f + (2 + 16 * n + at_)) h.2.2.1 count (L.take 0)) f N fu dead w.drew := by
      rw [List.take_zero, sealAt, List.append_nil]
      exact ⟨wv, HV.out.keep (Upd.refl (fun _ => False) w).drew (fun _ _ h => h), (Upd.refl _ _).drew, fun _ h => .inl h⟩
    have HP0 := Lib.hid hP0
    clear hP0
    go_wp2
    go_loopw [33] (fun i wr => ∃ (j : Nat) (fu' : Int), j ≤ L.length ∧ i = .int .i64 j ∧ VPost w v d lb wv lies (waits ++ sealAt (f + (2 + 16 * n + at_)) h.2.2.1 count (L.take j)) f N fu' dead wr ∧ (dead = true → j = 0) ∧ (fu = -1 → fu' = -1)) (fun i _ => L.length - (intOf i).toNat)
    case atStart => exact ⟨0, fu, Nat.zero_le _, rfl, HP0.out, fun _ => rfl, fun h => h⟩
    case round =>
      obtain ⟨j, fu', hj, rfl, ⟨wv1, V1, U1, hw1⟩, hd, hfu⟩ := hrel
      have hs1 := U1.at_ HS.out hsv
      obtain ⟨c0, c1, c2, c3, c4, c5, c6, c7, c8, hfz⟩ := nine_of hs1
      by_cases hlt : j < L.length
      · have hp1 := ownsRow_upd U1 HP.out hpv
        obtain ⟨g, cap, cur, hg1, _, hg2, _, hg3⟩ := row_of hp1 (by omega)
        have hk := hg3 j hlt
        have hcell : wr.cell? ⟨g, j, none⟩ = some (.string (bs L[j])) := by rw [cell_of hg2, hk]; simp [hlt]
        obtain ⟨rfl⟩ : ao = some ⟨g, 0, none⟩ := by cases hg1; rfl
        have p52 := h52 L[j] (List.getElem_mem hlt)
        have e1 : IntKind.i64.wrap (((2 + 16 * n : Nat) : Int) + (at_ : Int)) = ((2 + 16 * n + at_ : Nat) : Int) := by rw [IntKind.wrap_i64]; omega
        have e2 : IntKind.i64.wrap (((2 + 16 * n + at_ : Nat) : Int) + (j : Int)) = ((2 + 16 * n + at_ + j : Nat) : Int) := by rw [IntKind.wrap_i64]; omega
        have hSe := seal_any h.2.2.1 count (bs L[j]) hst hc1 hc2 (by rw [bs_size, p52]) wr
        rw [bs_list] at hSe
        have hsl : (bs (sealL h.2.2.1 count L[j])).size = 64 := by rw [bs_size, sealL_length _ _ _ p52]
        have hwl : (waits ++ sealAt (f + (2 + 16 * n + at_)) h.2.2.1 count (L.take j)).length ≤ 1000000000 := by rw [List.length_append, sealAt_length, List.length_take]; omega
        have hWd : ∀ (i : Int), i = ((2 + 16 * n + at_ + j : Nat) : Int) → ∀ w2, Below wr.heap.size wr w2 → (fu' = 0 ∨ dead = true) → Calls Tryz.prog 130 #[.pointer (some ⟨v, 0, none⟩), .int .i64 i, .string (bs (sealL h.2.2.1 count L[j]))] w2 fun x w' => x = .returned (.int .i64 21) ∧
            VPost w v d lb wv lies (waits ++ sealAt (f + (2 + 16 * n + at_)) h.2.2.1 count (L.take j)) f N fu' true w' := fun i hi w2 hb hdd => hi ▸
          (vwrite_dead (V1.below hb) hdd (2 + 16 * n + at_ + j) _ (by omega) hsl).mono fun x w' ⟨hx, hp⟩ => ⟨hx, VPost.trans (U1.trans (Upd.of_below hb) (fun _ _ h => h)) hw1 hp⟩
        have hWo : ∀ (i : Int), i = ((2 + 16 * n + at_ + j : Nat) : Int) → ∀ w2, Below wr.heap.size wr w2 → fu' ≠ 0 → dead = false → Calls Tryz.prog 130 #[.pointer (some ⟨v, 0, none⟩), .int .i64 i, .string (bs (sealL h.2.2.1 count L[j]))] w2 fun x w' => x = .returned (.int .i64 0) ∧
            VPost w v d lb wv lies (waits ++ sealAt (f + (2 + 16 * n + at_)) h.2.2.1 count (L.take (j + 1))) f N (burn fu') dead w' := by
          intro i hi w2 hb h0 hdd
          subst hdd hi
          refine (vwrite_ok (V1.below hb) h0 (2 + 16 * n + at_ + j) _ (by omega) hsl hwl).mono fun x w' ⟨hx, hp⟩ => ⟨hx, ?_⟩
          have := VPost.trans (U1.trans (Upd.of_below hb) (fun _ _ h => h)) hw1 hp
          rw [bs_list, List.append_assoc, show f + (2 + 16 * n + at_ + j) = f + (2 + 16 * n + at_) + (L.take j).length by rw [List.length_take]; omega, ← sealAt_snoc, List.take_append_getElem hlt] at this
          exact this
        have HSe := Lib.hid hSe
        have HWd := Lib.hid hWd
        have HWo := Lib.hid hWo
        have HV1 := Lib.hid V1
        have HU1 := Lib.hid U1
        clear hSe hWd hWo V1 U1 hp1 hg2 hg3 hk
        clear e1 e2
        go_wp2_with fail
        refine HSe.out.mono ?_
        rintro x w2 ⟨rfl, hb2⟩
        have hs2 := later_of hs1 hb2
        obtain ⟨a0, a1, a2, a3, a4, a5, a6, a7, a8, afz⟩ := nine_of hs2
        by_cases hdd : fu' = 0 ∨ dead = true
        · have hW := fun i hi => HWd.out i hi w2 hb2 hdd
          have HW := Lib.hid hW
          clear hW
          go_wp2_with fail
          refine (HW.out _ (by omega)).mono ?_
          rintro x w3 ⟨rfl, hp3⟩
          go_wp2
          go_ret
          refine ⟨21, rfl, j, fu', true, hj, hp3, .inr ⟨rfl, rfl⟩, hd, fun h1 h2 => ?_, fun _ _ => rfl⟩
          have := hfu h2
          rcases hdd with h | h
          · omega
          · rw [h1] at h; cases h
        · have hW := fun i hi => HWo.out i hi w2 hb2 (fun h => hdd (.inl h)) (by cases dead; rfl; exact absurd (.inr rfl) hdd)
          have HW := Lib.hid hW
          clear hW
          go_wp2_with fail
          refine (HW.out _ (by omega)).mono ?_
          rintro x w3 ⟨rfl, hp3⟩
          go_wp2
          go_roundw
          case rel => exact ⟨j + 1, burn fu', hlt, by simp, hp3, fun h => absurd (.inr h) hdd, fun h => by rw [hfu h]; rfl⟩
          case measure => simp [intOf]; omega
      · obtain rfl : j = L.length := by omega
        have hP3 : VPost w v d lb wv lies (waits ++ sealAt (f + (2 + 16 * n + at_)) h.2.2.1 count (L.take L.length)) f N fu' dead wr := ⟨wv1, V1, U1, hw1⟩
        have HP3 := Lib.hid hP3
        clear hP3 V1 U1
        go_wp2
        go_ret
        refine ⟨0, rfl, L.length, fu', dead, Nat.le_refl _, HP3.out, .inl ⟨rfl, rfl, rfl⟩, hd, fun _ h => ⟨rfl, hfu h⟩, fun h h0 => ?_⟩
        have := hd h
        omega
end Go.Proofs.YtoobiffhjjfpgaaGreat.Print

namespace Go.Proofs.YtoobiffhjjfpgaaGreat.Print
open Go.RowKit
attribute [local go_sem] run_loadVar_scalar

/-- What was an object's is its own still, or new. -/
def Fresh (w : World) (F F' : Foot) : Prop := ∀ i, F' i → F i ∨ w.heap.size ≤ i
theorem Fresh.refl (w : World) (F : Foot) : Fresh w F F := fun _ h => .inl h
theorem Fresh.trans {w w1 : World} {F F1 F2 : Foot} (h : Fresh w F F1) (hs : w.heap.size ≤ w1.heap.size) (k : Fresh w1 F1 F2) : Fresh w F F2 := fun i hi => by
  rcases k i hi with h1 | h1
  · exact h i h1
  · exact .inr (by omega)
/-- A frame, and its cells. -/
abbrev Fr := Int × ByteArray
def frC (x : Fr) : List Value := [.int .i64 x.1, .string x.2]
def fcells (l : List Fr) : List Value := l.flatMap frC
theorem fcells_snoc (l : List Fr) (x : Fr) : fcells (l ++ [x]) = fcells l ++ frC x := by simp [fcells]
theorem fcells_length (l : List Fr) : (fcells l).length = l.length * 2 := by
  induction l with
  | nil => rfl
  | cons a r ih => rw [fcells, List.flatMap_cons, List.length_append]; show 2 + (fcells r).length = _; rw [ih, List.length_cons]; omega
/-- A segment of a view. -/
def SegIs (s v n : Nat) (h : H4) (fs : List Fr) (e : Nat) (sealed : Bool) (w : World) (G : Foot) : Prop :=
  ∃ fv, w.heap[s]? = some (segObj v n h fv e sealed) ∧ w.ownsRow 0 43 2 fv fs.length (fcells fs) ∧ fv.ownBlock ≠ some s ∧ ∀ i, G i ↔ i = s ∨ fv.ownBlock = some i
theorem SegIs.there {s v n : Nat} {h : H4} {fs : List Fr} {e : Nat} {sealed : Bool} : There (SegIs s v n h fs e sealed) := by
  rintro w G ⟨fv, h1, h2, h3, hG⟩ i hi
  rcases (hG i).1 hi with rfl | h
  · exact lt_of h1
  · exact (h2.lt _ h).2
theorem SegIs.stays {s v n : Nat} {h : H4} {fs : List Fr} {e : Nat} {sealed : Bool} : Stays (SegIs s v n h fs e sealed) := by
  rintro w w' S G ⟨fv, h1, h2, h3, hG⟩ hU hn
  exact ⟨fv, hU.at_ h1 (hn s ((hG s).2 (.inl rfl))), ownsRow_upd hU h2 (fun i hi => hn i ((hG i).2 (.inr hi))), h3, hG⟩
theorem ViewIs.stays {v : Nat} {lies : List (List UInt8)} {waits : List (Nat × List UInt8)} {f n : Nat} {fu : Int} {dead : Bool} : Stays (ViewIs v lies waits f n fu dead) := by
  rintro w w' S F ⟨d, lb, wv, V, hF⟩ hU hn
  exact ⟨d, lb, wv, V.keep hU (fun i hi => hn i ((hF i).2 hi)), hF⟩
theorem Stays.below {Q : World → Foot → Prop} (hQ : Stays Q) {w w' : World} {F : Foot} (h : Q w F) (hb : Below w.heap.size w w') : Q w' F := hQ (S := fun _ => False) h (Upd.of_below hb) (fun _ _ h => h)
/-- What a write of pieces leaves of a view. -/
def WIs (v : Nat) (lies : List (List UInt8)) (waits : List (Nat × List UInt8)) (f n : Nat) (fu : Int) (dead : Bool) (b stamp count : Nat) (L : List (List UInt8)) (e : Int) (w : World) (F : Foot) (w' : World) : Prop :=
  ∃ (j : Nat) (fu' : Int) (dead' : Bool), j ≤ L.length ∧ Became (ViewIs v lies (waits ++ sealAt b stamp count (L.take j)) f n fu' dead') w F w' ∧
    ((e = 0 ∧ j = L.length ∧ dead' = dead) ∨ (e = 21 ∧ dead' = true)) ∧ (dead = true → j = 0) ∧ (dead = false → fu = -1 → e = 0 ∧ fu' = -1) ∧ (dead = true → 0 < L.length → e = 21)
theorem WIs.of_post {w w' : World} {v d lb : Nat} {wv : Value} {lies : List (List UInt8)} {waits : List (Nat × List UInt8)} {f n : Nat} {fu : Int} {dead : Bool} {b stamp count : Nat} {L : List (List UInt8)} {e : Int} {F : Foot} (hF : ∀ i, F i ↔ VFoot v d lb wv i)
    (h : WPost w v d lb wv lies waits f n fu dead b stamp count L e w') : WIs v lies waits f n fu dead b stamp count L e w F w' := by
  obtain ⟨j, fu', dead', hj, hp, hc⟩ := h
  exact ⟨j, fu', dead', hj, ViewIs.of_post hF hp, hc⟩
theorem WIs.below {w w1 w' : World} {v : Nat} {lies : List (List UInt8)} {waits : List (Nat × List UInt8)} {f n : Nat} {fu : Int} {dead : Bool} {b stamp count : Nat} {L : List (List UInt8)} {e : Int} {F : Foot} (hb : Below w.heap.size w w1)
    (h : WIs v lies waits f n fu dead b stamp count L e w1 F w') : WIs v lies waits f n fu dead b stamp count L e w F w' := by
  obtain ⟨j, fu', dead', hj, hp, hc⟩ := h
  exact ⟨j, fu', dead', hj, Became.of_below hb hp, hc⟩
/-- segment.write, of a segment that stands apart from its view. -/
theorem write_is {w : World} {v : Nat} {lies : List (List UInt8)} {waits : List (Nat × List UInt8)} {f N : Nat} {fu : Int} {dead : Bool} {F : Foot} (V : ViewIs v lies waits f N fu dead w F)
    (s n : Nat) (h : H4) (fv : Value) (e : Int) (sealed : Bool) (hs : w.heap[s]? = some (segObj v n h fv e sealed)) (hsv : ¬ F s) (hst : h.2.2.1 < 4294967296)
    (hN : N ≤ 8192) (hn : 2 + 16 * n + 16 ≤ N) (at_ count : Nat) (hc1 : 1 ≤ count) (hc2 : count < 65536) (L : List (List UInt8)) (hL : at_ + L.length ≤ 16) (h52 : ∀ p ∈ L, p.length = 52)
    (B : Nat) (pv : Value) (hp : w.ownsRow B 9 1 pv L.length (L.map fun l => .string (bs l))) (hpv : ∀ i, pv.ownBlock = some i → ¬ F i) (hw : waits.length ≤ 900000000) (i j : Int) (hi : i = at_) (hj : j = count) :
    Calls Tryz.prog 113 #[.pointer (some ⟨s, 0, none⟩), .int .i64 i, .int .i64 j, pv] w fun x w' => ∃ e : Int, x = .returned (.int .i64 e) ∧
      WIs v lies waits f N fu dead (f + (2 + 16 * n + at_)) h.2.2.1 count L e w F w' := by
  subst hi hj
  obtain ⟨d, lb, wv, V, hF⟩ := V
  exact (write_any V s n h fv e sealed hs (fun hc => hsv ((hF _).2 hc)) hst hN hn at_ count hc1 hc2 L hL h52 B pv hp (fun i hi hc => hpv i hi ((hF _).2 hc)) hw).mono fun x w' ⟨e, hx, hW⟩ => ⟨e, hx, WIs.of_post hF hW⟩

theorem view_at {w : World} {v : Nat} {lies : List (List UInt8)} {waits : List (Nat × List UInt8)} {f N : Nat} {fu : Int} {dead : Bool} {F : Foot} (V : ViewIs v lies waits f N fu dead w F) : F v ∧ ∃ d st, w.heap[v]? = some (viewObj d f N fu st dead) := by
  obtain ⟨d, lb, wv, V, hF⟩ := V
  obtain ⟨st, hv⟩ := V.view_
  exact ⟨(hF v).2 (.inl rfl), d, st, hv⟩
theorem zero_seg (w : World) : (zeroValue 155).run Tryz.prog w = .ok (.agg #[.pointer none, .int .i64 0, .int .i64 0, .int .u32 0, .int .u32 0, .int .i64 0, .slice none 0 0, .int .i64 0, .bool false]) w := by kernel_rfl

set_option maxRecDepth 100000 in
set_option maxHeartbeats 800000 in
theorem create_any {w : World} {v : Nat} {lies : List (List UInt8)} {waits : List (Nat × List UInt8)} {f N : Nat} {fu : Int} {dead : Bool} {F : Foot} (V : ViewIs v lies waits f N fu dead w F)
    (n : Nat) (h : H4) (hf : HFits h) (hN : N ≤ 8192) (hn : 2 + 16 * n + 16 ≤ N) (hw : waits.length ≤ 900000000) (i : Int) (hi : i = n) :
    Calls Tryz.prog 115 #[.pointer (some ⟨v, 0, none⟩), .int .i64 i, hdV h.1 h.2.1 h.2.2.1 h.2.2.2] w fun x w' => ∃ (e : Int) (w1 : World) (s : Nat), x = .returned (if e = 0 then .tuple #[.pointer (some ⟨s, 0, none⟩), .int .i64 0] else .tuple #[.pointer none, .int .i64 e]) ∧
      Below w.heap.size w w1 ∧ w.heap.size ≤ s ∧ s < w1.heap.size ∧ w1.heap[s]? = some (segObj v n h (.slice none 0 0) 1 false) ∧ WIs v lies waits f N fu dead (f + (2 + 16 * n + 0)) h.2.2.1 1 [pad52 (hdrL h)] e w1 F w' := by
  subst hi
  obtain ⟨hvF, d, st, hv⟩ := view_at V
  have hlv := lt_of hv
  have hg := alloc_at w (.cells #[.int .i64 h.1, .int .u32 h.2.1, .int .u32 h.2.2.1, .int .i64 h.2.2.2] 138)
  have hv0 := alloc_old hv (.cells #[.int .i64 h.1, .int .u32 h.2.1, .int .u32 h.2.2.1, .int .i64 h.2.2.2] 138)
  have hB0 : Below w.heap.size w (w.alloc (.cells #[.int .i64 h.1, .int .u32 h.2.1, .int .u32 h.2.2.1, .int .i64 h.2.2.2] 138)) := (Below.refl _ _).alloc (Nat.le_refl _) _
  have HE := Lib.hid (fun w => hencode_any h hf w)
  have HP := Lib.hid (fun w => pieces_any (bs (hdrL h)) (by rw [bs_size, hdrL_length]; omega) w)
  have HV := Lib.hid V
  have hst := hf.2.2.2.1
  clear hf V hv
  go_enter Tryz.func115, Tryz.ntmps115
  go_wp2_with fail
  generalize w.alloc (.cells #[.int .i64 h.1, .int .u32 h.2.1, .int .u32 h.2.2.1, .int .i64 h.2.2.2] 138) = w0 at hg hv0 hB0 ⊢
  refine (first_ok hv0 n hN hn).mono ?_
  rintro x w1 ⟨rfl, rfl⟩
  obtain ⟨a0, a1, a2, a3, _⟩ := four_of hg
  go_wp2_with fail
  refine (HE.out _).mono ?_
  rintro x w1 ⟨rfl, hb1⟩
  have hg1 := later_of hg hb1
  have hB1 : Below w.heap.size w w1 := hB0.trans (hb1.mono hB0.size)
  clear hb1 a0 a1 a2 a3 hg
  obtain ⟨a0, a1, a2, a3, _⟩ := four_of hg1
  go_wp2_with fail
  have hgs := alloc_at w1 (segObj v n h (.slice none 0 0) 1 false)
  have hB2 : Below w.heap.size w (w1.alloc (segObj v n h (.slice none 0 0) 1 false)) := hB1.alloc hB1.size _
  have hszs : w1.heap.size + 1 = (w1.alloc (segObj v n h (.slice none 0 0) 1 false)).heap.size := (World.size_alloc _ _).symm
  have hs0 := hB1.size
  generalize hS : w1.heap.size = S at hgs hszs hs0 ⊢
  generalize w1.alloc (segObj v n h (.slice none 0 0) 1 false) = w2 at hgs hB2 hszs ⊢
  refine (HP.out _).mono ?_
  rintro x w3 ⟨pv, rfl, hown, hb3⟩
  rw [bs_size, hdrL_length, bs_list] at hown
  have hgs3 := later_of hgs hb3
  have hB3 : Below w.heap.size w w3 := hB2.trans (hb3.mono hB2.size)
  have hs3 := hb3.size
  have hpc : pieces (many 32) (hdrL h) = [pad52 (hdrL h)] := rfl
  rw [hpc, show many 32 = 1 from rfl] at hown
  have hWr := write_is (ViewIs.stays.below HV.out hB3) S n h (.slice none 0 0) 1 false hgs3 (fun hc => by have := ViewIs.there HV.out S hc; omega) hst hN hn 0 1 (by omega) (by omega) [pad52 (hdrL h)] (by simp) (by
    intro p hp
    rw [List.mem_singleton.1 hp, pad52, List.length_append, List.length_take, hdrL_length, List.length_replicate]; rfl) w2.heap.size pv hown (fun i hi hc => by have := ViewIs.there HV.out i hc; have := (hown.lt i hi).1; omega) hw 0 1 rfl rfl
  have HW := Lib.hid hWr
  clear hWr hown hb3
  go_wp2_with fail
  refine HW.out.mono ?_
  rintro x w4 ⟨e, rfl, hpost⟩
  by_cases he : e = 0
  · subst he
    go_wp2
    exact bodyPost_ret (v := .tuple #[.pointer (some ⟨S, 0, none⟩), .int .i64 0]) (by simp [results, Tryz.results115, go_sem]) rfl ⟨0, w3, S, rfl, hB3, hs0, by omega, hgs3, hpost⟩
  · have k1 : (e != 0) = true := by simpa using he
    go_wp2
    exact bodyPost_ret (v := .tuple #[.pointer none, .int .i64 e]) (by simp [results, Tryz.results115, go_sem]) rfl ⟨e, w3, S, by rw [if_neg he], hB3, hs0, by omega, hgs3, hpost⟩

set_option maxRecDepth 100000 in
set_option maxHeartbeats 400000 in
/-- No segment is made where there is none. -/
theorem create_no (v : Value) (n a b c d e : Int) (he : (e != 0) = true) (w : World) (hF : ∀ w1, Below w.heap.size w w1 → Calls Tryz.prog 117 #[v, .int .i64 n] w1 fun x w' => x = .returned (.tuple #[.int .i64 0, .int .i64 e]) ∧ w1 = w') :
    Calls Tryz.prog 115 #[v, .int .i64 n, hdV a b c d] w fun x w' => x = .returned (.tuple #[.pointer none, .int .i64 e]) ∧ Below w.heap.size w w' := by
  have hB : Below w.heap.size w (w.alloc (.cells #[.int .i64 a, .int .u32 b, .int .u32 c, .int .i64 d] 138)) := (Below.refl _ _).alloc (Nat.le_refl _) _
  have HF := Lib.hid (hF _ hB)
  clear hF
  go_enter Tryz.func115, Tryz.ntmps115
  go_wp2_with fail
  refine HF.out.mono ?_
  rintro x w1 ⟨rfl, rfl⟩
  go_wp2
  exact bodyPost_ret (v := .tuple #[.pointer none, .int .i64 e]) (by simp [results, Tryz.results115, go_sem]) rfl ⟨rfl, hB⟩
theorem create_nil (n a b c d : Int) (w : World) :
    Calls Tryz.prog 115 #[.pointer none, .int .i64 n, hdV a b c d] w fun x w' => x = .returned (.tuple #[.pointer none, .int .i64 7]) ∧ Below w.heap.size w w' :=
  create_no _ _ _ _ _ _ 7 rfl w (fun w1 _ => first_nil n w1)
theorem create_range {w : World} {v : Nat} {lies : List (List UInt8)} {waits : List (Nat × List UInt8)} {f N : Nat} {fu : Int} {dead : Bool} {F : Foot} (V : ViewIs v lies waits f N fu dead w F) (n a b c d : Int)
    (hN : N ≤ 8192) (hN2 : 2 ≤ N) (hn : n < 0 ∨ (((N - 2) / 16 : Nat) : Int) ≤ n) :
    Calls Tryz.prog 115 #[.pointer (some ⟨v, 0, none⟩), .int .i64 n, hdV a b c d] w fun x w' => x = .returned (.tuple #[.pointer none, .int .i64 20]) ∧ Below w.heap.size w w' :=
  create_no _ _ _ _ _ _ 20 rfl w (fun w1 hb => by
    obtain ⟨_, d, st, hv⟩ := view_at V
    exact first_bad (later_of hv hb) n hN hN2 hn)
set_option maxRecDepth 100000 in
set_option maxHeartbeats 400000 in
theorem create_arg {w : World} {v : Nat} {lies : List (List UInt8)} {waits : List (Nat × List UInt8)} {f N : Nat} {fu : Int} {dead : Bool} {F : Foot} (V : ViewIs v lies waits f N fu dead w F) (n : Nat) (a b c d : Int)
    (hN : N ≤ 8192) (hn : 2 + 16 * n + 16 ≤ N) (hh : ¬ (1 ≤ a ∧ a ≤ 65535 ∧ 0 ≤ d ∧ d ≤ 1099511627776)) (i : Int) (hi : i = n) :
    Calls Tryz.prog 115 #[.pointer (some ⟨v, 0, none⟩), .int .i64 i, hdV a b c d] w fun x w' => x = .returned (.tuple #[.pointer none, .int .i64 1]) ∧ Below w.heap.size w w' := by
  subst hi
  obtain ⟨hvF, d', st, hv⟩ := view_at V
  have hg := alloc_at w (.cells #[.int .i64 a, .int .u32 b, .int .u32 c, .int .i64 d] 138)
  have hv0 := alloc_old hv (.cells #[.int .i64 a, .int .u32 b, .int .u32 c, .int .i64 d] 138)
  have hB : Below w.heap.size w (w.alloc (.cells #[.int .i64 a, .int .u32 b, .int .u32 c, .int .i64 d] 138)) := (Below.refl _ _).alloc (Nat.le_refl _) _
  have HE := Lib.hid (fun w => hencode_bad a b c d hh w)
  clear hh V hv
  go_enter Tryz.func115, Tryz.ntmps115
  go_wp2_with fail
  generalize w.alloc (.cells #[.int .i64 a, .int .u32 b, .int .u32 c, .int .i64 d] 138) = w0 at hg hv0 hB ⊢
  refine (first_ok hv0 n hN hn).mono ?_
  rintro x w1 ⟨rfl, rfl⟩
  obtain ⟨a0, a1, a2, a3, _⟩ := four_of hg
  go_wp2_with fail
  refine (HE.out _).mono ?_
  rintro x w1 ⟨rfl, hb1⟩
  go_wp2
  exact bodyPost_ret (v := .tuple #[.pointer none, .int .i64 1]) (by simp [results, Tryz.results115, go_sem]) rfl ⟨rfl, hB.trans (hb1.mono hB.size)⟩
end Go.Proofs.YtoobiffhjjfpgaaGreat.Print
