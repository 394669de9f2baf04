/- seglog: chain, Adopt. -/
import Derived.Test.YtoobiffhjjfpgaaGreatStart
namespace Go.Proofs.YtoobiffhjjfpgaaGreat.Print
open Go.RowKit
attribute [local go_sem] run_loadVar_scalar

/-- A pointer to a loaded segment, or nil. -/
abbrev QS := Option (Nat × SegL)
def QV : QS → Value
  | none => .pointer none
  | some (s, _) => ptrV s
def QAt (v : Nat) (ao : Option Addr) (qs : List QS) (w : World) : Prop :=
  ∀ j (hj : j < qs.length), (∃ a, ao = some a ∧ w.cell? (a.add j) = some (QV qs[j])) ∧ ∀ s S, qs[j] = some (s, S) → ∃ G, SegIs s v S.n S.h S.fs S.e true w G
theorem QAt.below {v : Nat} {ao : Option Addr} {qs : List QS} {w w1 : World} (h : QAt v ao qs w) (hb : Below w.heap.size w w1) : QAt v ao qs w1 := by
  intro j hj
  obtain ⟨⟨a, ha, hc⟩, hs⟩ := h j hj
  refine ⟨⟨a, ha, ?_⟩, fun s S e => ?_⟩
  · rw [World.cell?_of_block (hb.block _ (World.block_lt_of_cell? w _ hc))]; exact hc
  · obtain ⟨G, hG⟩ := hs s S e
    exact ⟨G, SegIs.stays.below hG hb⟩
def posQ (base : Nat) (qs : List QS) (S : SegL) : Nat → Bool
  | 0 => decide (S.h.2.2.2 ≤ base)
  | q + 1 => match qs[q]? with
    | some (some (_, T)) => decide (S.h.2.2.2 = T.h.2.2.2 + T.fs.length)
    | _ => true
def stepQ (id gen base : Nat) (qs : List QS) (k : Nat) : Bool := match qs[k]? with
  | some (some (_, S)) => decide (S.h.1 = id) && decide (S.h.2.1 = gen) && posQ base qs S k
  | _ => false
theorem stepQ_at {id gen base : Nat} {qs : List QS} {k s : Nat} {S : SegL} (hk : k < qs.length) (h : qs[k] = some (s, S)) : stepQ id gen base qs k = (decide (S.h.1 = id) && decide (S.h.2.1 = gen) && posQ base qs S k) := by
  unfold stepQ
  rw [List.getElem?_eq_getElem hk, h]
def chainQ (id gen base : Nat) (qs : List QS) : Bool := (List.range qs.length).all (stepQ id gen base qs)
theorem chainQ_no {id gen base : Nat} {qs : List QS} {k : Nat} (hk : k < qs.length) (h : stepQ id gen base qs k = false) : chainQ id gen base qs = false := by
  unfold chainQ
  rw [List.all_eq_false]
  exact ⟨k, by simpa using hk, by simp [h]⟩
theorem chainQ_yes {id gen base : Nat} {qs : List QS} (h : ∀ k, k < qs.length → stepQ id gen base qs k = true) : chainQ id gen base qs = true := by
  unfold chainQ
  rw [List.all_eq_true]
  exact fun k hk => h k (by simpa using hk)
def QFit (qs : List QS) : Prop := ∀ s S, some (s, S) ∈ qs → S.h.2.2.2 ≤ 1099511627776 ∧ S.fs.length ≤ 1000
theorem held_drew {W : World} {a b : Addr} {x y : Value} (h1 : W.cell? a = some x) (h2 : W.cell? b = some y) : W.drew.cell? a = some x ∧ W.drew.cell? b = some y ∧ Below W.heap.size W W.drew := ⟨h1, h2, (Below.refl _ _).drew⟩
theorem held_keep {W w1 w2 : World} {a b : Addr} {x y : Value} (h : w1.cell? a = some x ∧ w1.cell? b = some y ∧ Below W.heap.size W w1) (hb : Below w1.heap.size w1 w2) : w2.cell? a = some x ∧ w2.cell? b = some y ∧ Below W.heap.size W w2 :=
  ⟨(World.cell?_of_block (hb.block _ (World.block_lt_of_cell? _ _ h.1))).trans h.1, (World.cell?_of_block (hb.block _ (World.block_lt_of_cell? _ _ h.2.1))).trans h.2.1, h.2.2.trans (hb.mono h.2.2.size)⟩
set_option linter.unusedSimpArgs false in
set_option maxRecDepth 100000 in
set_option maxHeartbeats 1600000 in
theorem lchain_any {g v p : Nat} {L : LogM} {w : World} {G : Foot} (h : LogIs g v p L w G) {ao : Option Addr} {qs : List QS} (hQ : QAt v ao qs w) (cap : Nat) (hm : qs.length ≤ 1000) (hf : QFit qs) :
    Calls Tryz.prog 83 #[.pointer (some ⟨g, 0, none⟩), .slice ao qs.length cap] w fun x w' => x = .returned (.bool (chainQ L.id L.gen L.base qs)) ∧ Below w.heap.size w w' := by
  have HL := Lib.hid h
  have HQ := Lib.hid hQ
  have HF := Lib.hid hf
  obtain ⟨res, hres⟩ : ∃ r, chainQ L.id L.gen L.base qs = r := ⟨_, rfl⟩
  rw [hres]
  have HRES := Lib.hid hres
  clear h hQ hf hres
  go_enter Tryz.func83, Tryz.ntmps83
  go_wp2_with fail
  go_loopw [10] (fun i wr => ∃ k : Nat, k ≤ qs.length ∧ i = .int .i64 k ∧ (∀ q, q < k → stepQ L.id L.gen L.base qs q = true) ∧ Below w.heap.size w wr) (fun i _ => qs.length - (intOf i).toNat)
  case atStart => exact ⟨0, Nat.zero_le _, rfl, fun q hq => absurd hq (by omega), Below.refl _ _⟩
  case round =>
    obtain ⟨k, hk, rfl, hall, hB⟩ := hrel
    have HALL := Lib.hid hall
    have HB := Lib.hid hB
    clear hall hB
    by_cases hlt : k < qs.length
    · obtain ⟨⟨ad, had, hc⟩, hseg⟩ := (HQ.out.below HB.out) k hlt
      obtain ⟨sv, hl0⟩ := (LogIs.stays.below HL.out HB.out).obj
      have k1 : (k : Int) < (qs.length : Int) := by omega
      cases hq : qs[k] with
      | none =>
        rw [hq] at hc
        have hc' : wr.cell? (ad.add k) = some (.pointer none) := hc
        have hno : stepQ L.id L.gen L.base qs k = false := by unfold stepQ; rw [List.getElem?_eq_getElem hlt, hq]
        have HNO := Lib.hid (chainQ_no hlt hno)
        subst had
        clear hc hno hseg hl0 hq
        go_wp2_with fail
        refine (header_nil _).mono ?_
        rintro x w1 ⟨rfl, hb1⟩
        have HB1 := Lib.hid (HB.out.trans (hb1.mono HB.out.size))
        clear hb1
        go_wp2_with fail
        refine wp_region_any (by kernel_rfl) ?_
        simp only [List.size_toArray, List.length_cons, List.length_nil, Nat.reduceAdd]
        rw [show Array.replicate 21 false = #[false, false, false, false, false, false, false, false, false, false, false, false, false, false, false, false, false, false, false, false, false] from rfl]
        refine wpAny_take (i := 0) (v := ?_) rfl (by kernel_rfl) (by kernel_rfl) (by kernel_rfl) (fun _ _ _ h => h) (Or.inl ⟨by rfl, ?_⟩) ?_
        rotate_left 1
        · (intro w'; simp only [List.getElem_toArray, List.getElem_cons_zero, List.getElem_cons_succ]; go_simp; try with_reducible rfl)
        simp only [Act.put, List.getElem_toArray, List.getElem_cons_zero, List.getElem_cons_succ, List.setIfInBounds_toArray, List.set_cons_zero, List.set_cons_succ]
        refine wpAny_take (i := 1) (v := ?_) rfl (by kernel_rfl) (by kernel_rfl) (by kernel_rfl) (fun _ _ _ h => h) (Or.inl ⟨by rfl, ?_⟩) ?_
        rotate_left 1
        · (intro w'; simp only [List.getElem_toArray, List.getElem_cons_zero, List.getElem_cons_succ]; go_simp; try with_reducible rfl)
        simp only [Act.put, List.getElem_toArray, List.getElem_cons_zero, List.getElem_cons_succ, List.setIfInBounds_toArray, List.set_cons_zero, List.set_cons_succ]
        refine wpAny_take (i := 2) (v := ?_) rfl (by kernel_rfl) (by kernel_rfl) (by kernel_rfl) (fun _ _ _ h => h) (Or.inl ⟨by rfl, ?_⟩) ?_
        rotate_left 1
        · (intro w'; simp only [List.getElem_toArray, List.getElem_cons_zero, List.getElem_cons_succ]; go_simp; try with_reducible rfl)
        simp only [Act.put, List.getElem_toArray, List.getElem_cons_zero, List.getElem_cons_succ, List.setIfInBounds_toArray, List.set_cons_zero, List.set_cons_succ]
        refine wpAny_take (i := 3) (v := undef) rfl (by kernel_rfl) (by kernel_rfl) (by kernel_rfl) (fun _ _ _ h => h) (Or.inr ⟨by rfl, rfl⟩) ?_
        simp only [Act.put, List.getElem_toArray, List.getElem_cons_zero, List.getElem_cons_succ, List.setIfInBounds_toArray, List.set_cons_zero, List.set_cons_succ]
        refine wpAny_take (i := 4) (v := undef) rfl (by kernel_rfl) (by kernel_rfl) (by kernel_rfl) (fun _ _ _ h => h) (Or.inr ⟨by rfl, rfl⟩) ?_
        simp only [Act.put, List.getElem_toArray, List.getElem_cons_zero, List.getElem_cons_succ, List.setIfInBounds_toArray, List.set_cons_zero, List.set_cons_succ]
        refine wpAny_take (i := 5) (v := undef) rfl (by kernel_rfl) (by kernel_rfl) (by kernel_rfl) (fun _ _ _ h => h) (Or.inr ⟨by rfl, rfl⟩) ?_
        simp only [Act.put, List.getElem_toArray, List.getElem_cons_zero, List.getElem_cons_succ, List.setIfInBounds_toArray, List.set_cons_zero, List.set_cons_succ]
        refine wpAny_take (i := 6) (v := undef) rfl (by kernel_rfl) (by kernel_rfl) (by kernel_rfl) (fun _ _ _ h => h) (Or.inr ⟨by rfl, rfl⟩) ?_
        simp only [Act.put, List.getElem_toArray, List.getElem_cons_zero, List.getElem_cons_succ, List.setIfInBounds_toArray, List.set_cons_zero, List.set_cons_succ]
        refine wpAny_take (i := 7) (v := undef) rfl (by kernel_rfl) (by kernel_rfl) (by kernel_rfl) (fun _ _ _ h => h) (Or.inr ⟨by rfl, rfl⟩) ?_
        simp only [Act.put, List.getElem_toArray, List.getElem_cons_zero, List.getElem_cons_succ, List.setIfInBounds_toArray, List.set_cons_zero, List.set_cons_succ]
        refine wpAny_take (i := 8) (v := undef) rfl (by kernel_rfl) (by kernel_rfl) (by kernel_rfl) (fun _ _ _ h => h) (Or.inr ⟨by rfl, rfl⟩) ?_
        simp only [Act.put, List.getElem_toArray, List.getElem_cons_zero, List.getElem_cons_succ, List.setIfInBounds_toArray, List.set_cons_zero, List.set_cons_succ]
        refine wpAny_take (i := 9) (v := undef) rfl (by kernel_rfl) (by kernel_rfl) (by kernel_rfl) (fun _ _ _ h => h) (Or.inr ⟨by rfl, rfl⟩) ?_
        simp only [Act.put, List.getElem_toArray, List.getElem_cons_zero, List.getElem_cons_succ, List.setIfInBounds_toArray, List.set_cons_zero, List.set_cons_succ]
        refine wpAny_take (i := 10) (v := ?_) rfl (by kernel_rfl) (by kernel_rfl) (by kernel_rfl) (fun _ _ _ h => h) (Or.inl ⟨by rfl, ?_⟩) ?_
        rotate_left 1
        · (intro w'; simp only [List.getElem_toArray, List.getElem_cons_zero, List.getElem_cons_succ]; go_simp; try with_reducible rfl)
        simp only [Act.put, List.getElem_toArray, List.getElem_cons_zero, List.getElem_cons_succ, List.setIfInBounds_toArray, List.set_cons_zero, List.set_cons_succ]
        refine wpAny_take (i := 11) (v := ?_) rfl (by kernel_rfl) (by kernel_rfl) (by kernel_rfl) (fun _ _ _ h => h) (Or.inl ⟨by rfl, ?_⟩) ?_
        rotate_left 1
        · (intro w'; simp only [List.getElem_toArray, List.getElem_cons_zero, List.getElem_cons_succ]; go_simp; try with_reducible rfl)
        simp only [Act.put, List.getElem_toArray, List.getElem_cons_zero, List.getElem_cons_succ, List.setIfInBounds_toArray, List.set_cons_zero, List.set_cons_succ]
        refine wpAny_take (i := 12) (v := undef) rfl (by kernel_rfl) (by kernel_rfl) (by kernel_rfl) (fun _ _ _ h => h) (Or.inr ⟨by rfl, rfl⟩) ?_
        simp only [Act.put, List.getElem_toArray, List.getElem_cons_zero, List.getElem_cons_succ, List.setIfInBounds_toArray, List.set_cons_zero, List.set_cons_succ]
        refine wpAny_take (i := 13) (v := undef) rfl (by kernel_rfl) (by kernel_rfl) (by kernel_rfl) (fun _ _ _ h => h) (Or.inr ⟨by rfl, rfl⟩) ?_
        simp only [Act.put, List.getElem_toArray, List.getElem_cons_zero, List.getElem_cons_succ, List.setIfInBounds_toArray, List.set_cons_zero, List.set_cons_succ]
        refine wpAny_take (i := 14) (v := undef) rfl (by kernel_rfl) (by kernel_rfl) (by kernel_rfl) (fun _ _ _ h => h) (Or.inr ⟨by rfl, rfl⟩) ?_
        simp only [Act.put, List.getElem_toArray, List.getElem_cons_zero, List.getElem_cons_succ, List.setIfInBounds_toArray, List.set_cons_zero, List.set_cons_succ]
        refine wpAny_take (i := 15) (v := undef) rfl (by kernel_rfl) (by kernel_rfl) (by kernel_rfl) (fun _ _ _ h => h) (Or.inr ⟨by rfl, rfl⟩) ?_
        simp only [Act.put, List.getElem_toArray, List.getElem_cons_zero, List.getElem_cons_succ, List.setIfInBounds_toArray, List.set_cons_zero, List.set_cons_succ]
        refine wpAny_take (i := 16) (v := undef) rfl (by kernel_rfl) (by kernel_rfl) (by kernel_rfl) (fun _ _ _ h => h) (Or.inr ⟨by rfl, rfl⟩) ?_
        simp only [Act.put, List.getElem_toArray, List.getElem_cons_zero, List.getElem_cons_succ, List.setIfInBounds_toArray, List.set_cons_zero, List.set_cons_succ]
        refine wpAny_take (i := 17) (v := undef) rfl (by kernel_rfl) (by kernel_rfl) (by kernel_rfl) (fun _ _ _ h => h) (Or.inr ⟨by rfl, rfl⟩) ?_
        simp only [Act.put, List.getElem_toArray, List.getElem_cons_zero, List.getElem_cons_succ, List.setIfInBounds_toArray, List.set_cons_zero, List.set_cons_succ]
        refine wpAny_take (i := 18) (v := undef) rfl (by kernel_rfl) (by kernel_rfl) (by kernel_rfl) (fun _ _ _ h => h) (Or.inr ⟨by rfl, rfl⟩) ?_
        simp only [Act.put, List.getElem_toArray, List.getElem_cons_zero, List.getElem_cons_succ, List.setIfInBounds_toArray, List.set_cons_zero, List.set_cons_succ]
        refine wpAny_take (i := 19) (v := ?_) rfl (by kernel_rfl) (by kernel_rfl) (by kernel_rfl) (fun _ _ _ h => h) (Or.inl ⟨by rfl, ?_⟩) ?_
        rotate_left 1
        · (intro w'; simp only [List.getElem_toArray, List.getElem_cons_zero, List.getElem_cons_succ]; go_simp; try with_reducible rfl)
        simp only [Act.put, List.getElem_toArray, List.getElem_cons_zero, List.getElem_cons_succ, List.setIfInBounds_toArray, List.set_cons_zero, List.set_cons_succ]
        refine wpAny_ready (rs := [20]) (by kernel_rfl) (by simp) ?_
        refine AllReady.cons rfl (fun K' hK => ?_) AllReady.nil
        simp only [List.getElem_toArray, List.getElem_cons_zero, List.getElem_cons_succ]
        go_simp
        refine hK _ _ ?_
        clear hK K'
        simp only [Act.put, List.getElem_toArray, List.getElem_cons_zero, List.getElem_cons_succ, List.setIfInBounds_toArray, List.set_cons_zero, List.set_cons_succ]
        refine wpAny_done (by kernel_rfl) ?_ _
        obtain rfl : false = res := by rw [← HRES.out, HNO.out]
        go_wp2
        go_ret
        exact ⟨rfl, (HB1.out.alloc HB1.out.size _).drew⟩
      | some y =>
        obtain ⟨s, S⟩ := y
        obtain ⟨G1, hS⟩ := hseg s S hq
        rw [hq] at hc
        have hc' : wr.cell? (ad.add k) = some (ptrV s) := hc
        obtain ⟨hfb, hfl⟩ := HF.out s S (by rw [← hq]; exact List.getElem_mem hlt)
        have KH := Lib.hid (header_any hS)
        have hst := stepQ_at (id := L.id) (gen := L.gen) (base := L.base) hlt hq
        have HST := Lib.hid hst
        have HQK := Lib.hid hq
        obtain ⟨n, ⟨a0, a1, a2, a3⟩, fs, e⟩ := S
        simp only at hfb hfl KH
        subst had
        clear hc hseg hq hst
        go_wp2_with fail
        refine KH.out.mono ?_
        rintro x w1 ⟨rfl, hb1⟩
        have hat := alloc_at w1 (Obj.cells #[Value.int IntKind.i64 a0, Value.int IntKind.u32 a1, Value.int IntKind.u32 a2, Value.int IntKind.i64 a3] 138)
        have hl2 := alloc_old (later_of hl0 hb1) (Obj.cells #[Value.int IntKind.i64 a0, Value.int IntKind.u32 a1, Value.int IntKind.u32 a2, Value.int IntKind.i64 a3] 138)
        have hBW := (HB.out.trans (hb1.mono HB.out.size)).alloc (by have := HB.out.size; have := hb1.size; omega) (Obj.cells #[Value.int IntKind.i64 a0, Value.int IntKind.u32 a1, Value.int IntKind.u32 a2, Value.int IntKind.i64 a3] 138)
        obtain ⟨g9, hg9⟩ : ∃ g, w1.heap.size = g := ⟨_, rfl⟩
        go_wp2_with fail
        rw [hg9] at hat
        clear hl0 KH hS
        revert hat hl2 hBW
        generalize w1.alloc (Obj.cells #[Value.int IntKind.i64 a0, Value.int IntKind.u32 a1, Value.int IntKind.u32 a2, Value.int IntKind.i64 a3] 138) = W
        intro hl2 hBW hat
        have HBW := Lib.hid hBW
        have HAT := Lib.hid hat
        have HL2 := Lib.hid hl2
        obtain ⟨z0, z1, z2, z3⟩ := hdr_cells hat
        obtain ⟨y0, y1, y2, y3, y4, y5, y6, yf⟩ := seven_of hl2
        clear hat hl2 hBW hg9 hb1
        by_cases e0 : (a0 : Int) = (L.id : Int)
        · by_cases e1 : (a1 : Int) = (L.gen : Int)
          · have e0' : ((a0 : Int) == (L.id : Int)) = true := by simpa using e0
            have e1' : ((a1 : Int) == (L.gen : Int)) = true := by simpa using e1
            have n0 : a0 = L.id := by omega
            have n1 : a1 = L.gen := by omega
            go_quiet (fail)
            obtain ⟨W1, hW1⟩ : ∃ W1, W.drewN nq = W1 := ⟨_, rfl⟩
            have HBW1 : Hid (Below w.heap.size w W1) := Lib.hid (by rw [← hW1]; exact below_drewN HBW.out _)
            have HL3 : Hid (W1.heap[g]? = some (logObj v p L.id L.gen L.base L.next sv)) := Lib.hid (by rw [← hW1]; exact HL2.out)
            have HAT3 : Hid (W1.heap[g9]? = some (Obj.cells #[Value.int IntKind.i64 a0, Value.int IntKind.u32 a1, Value.int IntKind.u32 a2, Value.int IntKind.i64 a3] 138)) := Lib.hid (by rw [← hW1]; exact HAT.out)
            clear z0 z1 z2 z3 y0 y1 y2 y3 y4 y5 y6 yf HBW HL2 HAT
            rw [hW1]
            clear hW1
            obtain ⟨z0, z1, z2, z3⟩ := hdr_cells HAT3.out
            obtain ⟨y0, y1, y2, y3, y4, y5, y6, yf⟩ := seven_of HL3.out
            cases k with
            | zero =>
              by_cases hb : a3 ≤ L.base
              · have hb' : decide ((L.base : Int) < (a3 : Int)) = false := decide_eq_false (by omega)
                have HOK : Hid (∀ q, q < 0 + 1 → stepQ L.id L.gen L.base qs q = true) := Lib.hid (fun q hq => by
                  obtain rfl : q = 0 := by omega
                  rw [HST.out]
                  simp [posQ, n0, n1, hb])
                have z3' := z3
                go_wp2_with fail
                go_quiet (fail)
                go_wp2_with fail
                go_quiet (fail)
                go_wp2
                go_roundw
                case rel => exact ⟨1, hlt, by simp, HOK.out, below_drewN HBW1.out _⟩
                case measure => simp [intOf]; omega
              · have hb' : decide ((L.base : Int) < (a3 : Int)) = true := decide_eq_true (by omega)
                obtain rfl : false = res := by
                  rw [← HRES.out]
                  refine (chainQ_no hlt ?_).symm
                  rw [HST.out]
                  simp [posQ, n0, n1]
                  omega
                go_wp2_with fail
                go_quiet (fail)
                go_wp2
                go_ret
                exact ⟨rfl, below_drewN HBW1.out _⟩
            | succ q =>
              have hql : q < qs.length := by omega
              obtain ⟨⟨ad2, had2, hc2⟩, hseg2⟩ := (HQ.out.below HBW1.out) q hql
              cases had2
              have hsq := HALL.out q (by omega)
              cases hqq : qs[q] with
              | none => unfold stepQ at hsq; rw [List.getElem?_eq_getElem hql, hqq] at hsq; cases hsq
              | some y =>
              obtain ⟨t, T⟩ := y
              obtain ⟨G2, hT⟩ := hseg2 t T hqq
              obtain ⟨tb, tl⟩ := HF.out t T (by rw [← hqq]; exact List.getElem_mem hql)
              rw [hqq] at hc2
              have hc3 : W1.cell? (ad.add q) = some (ptrV t) := hc2
              have hpos : posQ L.base qs ⟨n, (a0, a1, a2, a3), fs, e⟩ (q + 1) = decide (a3 = T.h.2.2.2 + T.fs.length) := by
                simp only [posQ, List.getElem?_eq_getElem hql, hqq]
              have HPOS := Lib.hid hpos
              have HT := Lib.hid hT
              obtain ⟨nt, ⟨b0, b1, b2, b3⟩, tf, te⟩ := T
              obtain ⟨lt, hlt2⟩ : ∃ m, tf.length = m := ⟨_, rfl⟩
              simp only at tb tl HPOS
              rw [hlt2] at tl HPOS
              have HLT := Lib.hid hlt2
              have q1 : (q : Int) < (qs.length : Int) := by omega
              have q0 : (0 : Int) < (q : Int) + 1 := by omega
              have q2 : ((q : Int) + 1 == 0) = false := by simp; omega
              have hfb9 := field_base
              clear hseg2 hc2 hpos hsq hqq hlt2
              go_wp2_with fail
              go_quiet (fail)
              obtain ⟨W2, hW2⟩ : ∃ W2, W1.drewN nq = W2 := ⟨_, rfl⟩
              have HBW2 : Hid (Below w.heap.size w W2) := Lib.hid (by rw [← hW2]; exact below_drewN HBW1.out _)
              have c3 : W2.cell? (ad.add q) = some (ptrV t) := by rw [← hW2]; exact hc3
              have HT2 : Hid (SegIs t v nt (b0, b1, b2, b3) tf te true W2 G2) := Lib.hid (by rw [← hW2]; exact SegIs.stays.below hT (below_drewN (Below.refl _ _) _))
              have z3' : W2.cell? ⟨g9, 3, none⟩ = some (.int .i64 a3) := by rw [← hW2]; exact z3
              clear z0 z1 z2 z3 y0 y1 y2 y3 y4 y5 y6 yf hc3 hT HBW1 HL3 HAT3
              rw [hW2]
              clear hW2
              have KH2 := Lib.hid (fun (W' : World) (h : W'.cell? ⟨g9, 3, none⟩ = some (.int .i64 a3) ∧ W'.cell? (ad.add q) = some (ptrV t) ∧ Below W2.heap.size W2 W') => header_any (w := W') (SegIs.stays.below HT2.out h.2.2))
              have KL2 := Lib.hid (fun (W' : World) (h : W'.cell? ⟨g9, 3, none⟩ = some (.int .i64 a3) ∧ W'.cell? (ad.add q) = some (ptrV t) ∧ Below W2.heap.size W2 W') => len_any (w := W') (SegIs.stays.below HT2.out h.2.2))
              simp only at KH2 KL2
              rw [HLT.out] at KL2
              obtain ⟨m, hm⟩ : ∃ m : Int, (b3 : Int) + (lt : Int) = m := ⟨_, rfl⟩
              have hwm : IntKind.i64.wrap ((b3 : Int) + (lt : Int)) = m := by rw [IntKind.wrap_i64]; omega
              have hwq : IntKind.i64.wrap (q : Int) = q := by rw [IntKind.wrap_i64]; omega
              have hwq1 : IntKind.i64.wrap ((q : Int) + 1 - 1) = q := by rw [IntKind.wrap_i64]; omega
              have q00 : (0 : Int) ≤ (q : Int) := by omega
              have HM := Lib.hid hm
              clear hm
              go_wp2_with fail
              go_region_held3 (fun w' => w'.cell? ⟨g9, 3, none⟩ = some (.int .i64 a3) ∧ w'.cell? (ad.add q) = some (ptrV t) ∧ Below W2.heap.size W2 w')
                (first | assumption | exact held_drew z3' c3 | exact held_keep (by assumption) hb)
                (first
                | (go_at_call 87; (with_reducible refine (KL2.out _ (by assumption)).mono ?_); rintro x w3 ⟨rfl, rfl⟩)
                | (go_at_call 86; (with_reducible refine (KH2.out _ (by assumption)).mono ?_); rintro x w3 ⟨rfl, hb⟩))
              all_goals
                have hfin : Below W2.heap.size W2 w3 := by first | exact (held_keep (by assumption) hb).2.2 | exact (held_keep (held_drew z3' c3) hb).2.2
                have HFIN := Lib.hid (HBW2.out.trans (hfin.mono HBW2.out.size))
                have hmm := HM.out
                clear hfin
                by_cases hq3 : (a3 : Int) = m
                · have hq4 : ((a3 : Int) != m) = false := by simpa using hq3
                  have HOK : Hid (∀ i, i < q + 1 + 1 → stepQ L.id L.gen L.base qs i = true) := Lib.hid (fun i hi => by
                    by_cases hi2 : i < q + 1
                    · exact HALL.out i hi2
                    · obtain rfl : i = q + 1 := by omega
                      rw [HST.out, HPOS.out]
                      have : a3 = b3 + lt := by omega
                      simp [n0, n1, this])
                  clear hmm
                  go_wp2
                  go_roundw
                  case rel => exact ⟨q + 1 + 1, hlt, by simp, HOK.out, HFIN.out⟩
                  case measure => simp [intOf]; omega
                · have hq4 : ((a3 : Int) != m) = true := by simpa using hq3
                  obtain rfl : false = res := by
                    rw [← HRES.out]
                    refine (chainQ_no hlt ?_).symm
                    rw [HST.out, HPOS.out]
                    have : ¬ a3 = b3 + lt := by omega
                    simp [this]
                  clear hmm
                  go_wp2
                  go_ret
                  exact ⟨rfl, HFIN.out⟩
          · have e0' : ((a0 : Int) == (L.id : Int)) = true := by simpa using e0
            have e1' : ((a1 : Int) == (L.gen : Int)) = false := by simpa using e1
            obtain rfl : false = res := by
              rw [← HRES.out]
              refine (chainQ_no hlt ?_).symm
              rw [HST.out]
              have : ¬ a1 = L.gen := by omega
              simp [this]
            go_quiet (fail)
            go_wp2
            go_ret
            exact ⟨rfl, below_drewN HBW.out _⟩
        · have e0' : ((a0 : Int) == (L.id : Int)) = false := by simpa using e0
          obtain rfl : false = res := by
            rw [← HRES.out]
            refine (chainQ_no hlt ?_).symm
            rw [HST.out]
            have : ¬ a0 = L.id := by omega
            simp [this]
          go_quiet (fail)
          go_wp2
          go_ret
          exact ⟨rfl, below_drewN HBW.out _⟩
    · obtain rfl : k = qs.length := by omega
      obtain rfl : true = res := by rw [← HRES.out, chainQ_yes HALL.out]
      go_wp2
      go_ret
      exact ⟨rfl, HB.out⟩
end Go.Proofs.YtoobiffhjjfpgaaGreat.Print
