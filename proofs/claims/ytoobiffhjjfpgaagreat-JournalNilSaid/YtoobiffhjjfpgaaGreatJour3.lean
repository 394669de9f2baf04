/- journal: Frames (a range over a function). -/
import Derived.Test.YtoobiffhjjfpgaaGreatJour2
import Derived.RangeFuncNested
import Derived.RangeFuncBound
import Derived.RangeFuncCalls
import Derived.RangeFuncLeaves
import Derived.Shelf.Abstract
import Derived.Shelf.RegionOpen
import Derived.OwnWalkIn
import Derived.TacticsInMore
import Derived.LoopNIn
import Derived.LoopIn
import Derived.Maps.OwnIn
namespace Go.Proofs.YtoobiffhjjfpgaaGreat.Print
open Go.RowKit Go.Shelf
attribute [local go_sem] run_loadVar_scalar
attribute [local go_sem] Oper.semAt_some

/-- The block of the row that lies in a box. -/
def ownB (ob : Nat) (W : World) (i : Nat) : Prop := ∃ v, W.heap[ob]? = some (.cells #[v] 49 (0, 0)) ∧ v.ownBlock = some i
def noCells (W : World) (i : Nat) : Prop := ∃ o : Obj, W.heap[i]? = some o ∧ o.isCells = false
/-- What a round leaves as it lay: all but the box, its row, and what is no cells. -/
structure KpF (ob : Nat) (W W' : World) : Prop where
  upd : Upd (fun i => i = ob ∨ ownB ob W i ∨ noCells W i) W W'
  own : ∀ i, ownB ob W' i → ownB ob W i ∨ (W.heap.size ≤ i ∧ i < W'.heap.size)
theorem KpF.trans {ob : Nat} {A B C : World} (h : KpF ob A B) (k : KpF ob B C) : KpF ob A C := by
  have hs := h.upd.size
  have ks := k.upd.size
  refine ⟨h.upd.trans k.upd (fun i hi hc => ?_), fun i hc => ?_⟩
  · rcases hc with rfl | hc | hc
    · exact .inl rfl
    · rcases h.own i hc with h' | h'
      · exact .inr (.inl h')
      · omega
    · by_cases hS : i = ob ∨ ownB ob A i ∨ noCells A i
      · exact hS
      · obtain ⟨o, ho, hn⟩ := hc
        exact .inr (.inr ⟨o, (h.upd.other i hi hS).symm.trans ho, hn⟩)
  · rcases k.own i hc with h' | h'
    · rcases h.own i h' with h'' | h''
      · exact .inl h''
      · exact .inr (by omega)
    · exact .inr (by omega)
theorem KpF.put {ob : Nat} {w : World} (hob : ob < w.heap.size) (W : World) (l : Nat) (o o' : Obj) (hl : w.heap.size ≤ l) (h : W.heap[l]? = some o) (hn : o.isCells = false) (_ : o.isWalk = false) : KpF ob W (W.putObj l o') := by
  have hg := grownBy_putObj' W l o'
  refine ⟨⟨hg.os, hg.tape, hg.output, hg.size, fun i hi hc => hg.block i hi (fun e => hc (.inr (.inr (by cases e; exact ⟨o, h, hn⟩))))⟩, fun i hc => ?_⟩
  obtain ⟨v, hv, hi⟩ := hc
  by_cases hlt : ob < W.heap.size
  · rw [hg.block ob hlt (fun e => by cases e; omega)] at hv
    exact .inl ⟨v, hv, hi⟩
  · have := (Array.getElem?_eq_some_iff.1 h).1
    omega
theorem KpF.of_below {ob : Nat} {W W' : World} (h : Below W.heap.size W W') (hob : ob < W.heap.size) : KpF ob W W' := by
  refine ⟨Upd.of_below' h, fun i hc => ?_⟩
  obtain ⟨v, hv, hi⟩ := hc
  rw [h.block ob hob] at hv
  exact .inl ⟨v, hv, hi⟩
theorem row_cells {w : World} {B : Nat} {e : TypeId} {k n : Nat} {v : Value} {xs : List Value} (h : w.ownsRow B e k v n xs) {i : Nat} (hi : v.ownBlock = some i) : ¬ noCells w i := by
  rintro ⟨o, ho, hn⟩
  rcases h.2 with ⟨rfl, _⟩ | ⟨g, cap, cur, rfl, _, hg, _⟩
  · cases hi
  · have e : g = i := by simpa [Value.ownBlock] using hi
    subst e
    rw [hg] at ho
    cases ho
    cases hn
theorem obj_cells {w : World} {i : Nat} {c : Array Value} {t : TypeId} {fr : Nat × Nat} (h : w.heap[i]? = some (.cells c t fr)) : ¬ noCells w i := by
  rintro ⟨o, ho, hn⟩
  rw [h] at ho
  cases ho
  cases hn
theorem SegIs.cells {s v n : Nat} {h : H4} {fs : List Fr} {e : Nat} {sealed : Bool} {w : World} {G : Foot} (hS : SegIs s v n h fs e sealed w G) : ∀ i, G i → ¬ noCells w i := by
  obtain ⟨fv, h1, h2, _, hG⟩ := hS
  intro i hi
  rcases (hG i).1 hi with rfl | h
  · exact obj_cells h1
  · exact row_cells h2 h
theorem SegsAre.cells {v id gen : Nat} : ∀ {l : List SegM} {ps : List Nat} {w : World} {G : Foot}, SegsAre v id gen l ps w G → ∀ i, G i → ¬ noCells w i
  | [], _, _, _, h => fun i hi => absurd hi (h.2 i)
  | _ :: _, _, _, _, ⟨_, _, _, _, _, h1, h2, _, hG⟩ => fun i hi => ((hG i).1 hi).elim (SegIs.cells h1 i) (SegsAre.cells h2 i)
theorem off_cells {w : World} {e : TypeId} {n : Nat} {v : Value} {xs : List Value} (h : OffRow w e v n xs) {i : Nat} (hi : v.ownBlock = some i) : ¬ noCells w i := by
  rcases h.2 with ⟨rfl, _⟩ | ⟨b, o, cap, cur, rfl, hg, _⟩
  · cases hi
  · have e : b = i := by simpa [Value.ownBlock] using hi
    subst e
    exact obj_cells hg
theorem LogIs.cells {g v p : Nat} {L : LogM} {w : World} {G : Foot} (h : LogIs g v p L w G) : ∀ i, G i → ¬ noCells w i := by
  obtain ⟨sv, ps, Gs, h1, h2, h3, _, _, _, hG⟩ := h
  intro i hi
  rcases (hG i).1 hi with rfl | h | h
  · exact obj_cells h1
  · exact off_cells h2 h
  · exact SegsAre.cells h3 i h
theorem JIs.cells {j v p : Nat} {L : LogM} {w : World} {J : Foot} (h : JIs j v p L w J) : ∀ i, J i → ¬ noCells w i := by
  obtain ⟨g, G, h1, h2, _, hJ⟩ := h
  intro i hi
  rcases (hJ i).1 hi with rfl | h
  · exact obj_cells h1
  · exact LogIs.cells h2 i h
/-- What the iterator holds between two rounds. -/
structure ItInv (ob bx n1 j v p : Nat) (L : LogM) (J : Foot) (W : World) : Prop where
  jis : JIs j v p L W J
  box : W.heap[bx]? = some (.cells #[.pointer (some ⟨j, 0, none⟩)] 54)
  own : ∀ i, ownB ob W i → n1 ≤ i ∧ i < W.heap.size
  size : n1 ≤ W.heap.size
theorem ItInv.kept {ob bx n1 j v p : Nat} {L : LogM} {J : Foot} {W W' : World} (h : ItInv ob bx n1 j v p L J W) (hJ : ∀ i, J i → i < n1 ∧ i ≠ ob) (hbx : bx < n1) (hne : bx ≠ ob) (k : KpF ob W W') : ItInv ob bx n1 j v p L J W' := by
  have hs := k.upd.size
  refine ⟨JIs.stays h.jis k.upd (fun i hi hc => ?_), k.upd.at_ h.box (fun hc => ?_), fun i hc => ?_, Nat.le_trans h.size hs⟩
  · rcases hc with hc | hc | hc
    · exact (hJ i hi).2 hc
    · have := (h.own i hc).1; have := (hJ i hi).1; omega
    · exact JIs.cells h.jis i hi hc
  · rcases hc with hc | hc | hc
    · exact hne hc
    · have := (h.own bx hc).1; omega
    · exact obj_cells h.box hc
  · have h1 := h.size
    rcases k.own i hc with h' | h'
    · have := h.own i h'; omega
    · omega
theorem row_kept {ob : Nat} {W W' : World} {B : Nat} {e : TypeId} {s n : Nat} {v : Value} {xs : List Value} (h : W.ownsRow B e s v n xs) (hn : ∀ i, v.ownBlock = some i → i ≠ ob ∧ ¬ ownB ob W i) (k : KpF ob W W') : W'.ownsRow B e s v n xs ∧ ∀ i, v.ownBlock = some i → i ≠ ob ∧ ¬ ownB ob W' i := by
  refine ⟨ownsRow_upd k.upd h (fun i hi hc => ?_), fun i hi => ⟨(hn i hi).1, fun hc => ?_⟩⟩
  · rcases hc with hc | hc | hc
    · exact (hn i hi).1 hc
    · exact (hn i hi).2 hc
    · exact row_cells h hi hc
  · rcases k.own i hc with h' | h'
    · exact (hn i hi).2 h'
    · have := (h.lt i hi).2; omega
theorem jeach_any (j : Nat) (w : World) : Calls Tryz.prog 71 #[.pointer (some ⟨j, 0, none⟩)] w fun x w' => x = .returned (.func (.func 102) #[] #[.pointer (some ⟨w.heap.size, 0, none⟩)]) ∧ w' = w.alloc (.cells #[.pointer (some ⟨j, 0, none⟩)] 54) := by
  go_enter Tryz.func71, Tryz.ntmps71
  go_wp2
  go_ret
  exact ⟨rfl, rfl⟩
theorem grown_of_below {w w' : World} (h : Below w.heap.size w w') : w.grownBy w' none := ⟨h.os, h.tape, h.output, h.size, fun k hk _ => h.block k hk⟩
theorem from_chunk {L : LogM} (hc : ChainOk L.base L.segs L.next) (k : Nat) (hk : 16 * k < (allF L.segs).length) : fromM L ((L.base + 16 * k : Nat) : Int) 16 = ((allF L.segs).drop (16 * k)).take 16 := by
  have ht := hc.total
  unfold fromM
  rw [if_neg (by omega)]
  congr 1
  congr 1
  omega
set_option maxRecDepth 100000 in
set_option maxHeartbeats 1600000 in
attribute [-go_sem] Instr.build Instr.fill Instr.buildSlice loadVar in
theorem each1_stops {ob bx n1 j v p n : Nat} {L : LogM} {J : Foot} {W0 : World} (hn : 1 ≤ n) (hI : ItInv ob bx n1 j v p L J W0) (hJ : ∀ i, J i → i < n1 ∧ i ≠ ob) (hbx : bx < n1) (hne : bx ≠ ob) (hob : ob < n1) (hc : ChainOk L.base L.segs L.next) (hm : L.segs.length ≤ 1000) (hfs : ∀ s ∈ L.segs, s.fs.length ≤ 1000) (htot : (allF L.segs).length ≤ 1000000) (hbig : L.next ≤ 1000000000) :
    SeqStopsK Fence.wide n Tryz.prog 102 #[.pointer (some ⟨bx, 0, none⟩)] (fun x : Fr => #[frV x.1 x.2]) (KpF ob) (fun xs => xs = allF L.segs) (fun _ => True) (allF L.segs).length W0 := by
  intro l JJ Jx W hW hA hAx hY h0
  have ht := hc.total
  have HC := Lib.hid hc
  have HJ := Lib.hid hJ
  have HFS := Lib.hid hfs
  have HY := Lib.hid hY
  have HA := Lib.hid hA
  have hIW : ItInv ob bx n1 j v p L J W := hI.kept hJ hbx hne (KpF.of_below hW (by have := hI.size; omega))
  have HI := Lib.hid hIW
  have H0 := Lib.hid h0
  obtain ⟨g, G, h1, h2, _⟩ := hIW.jis.log
  have KB := Lib.hid (lbase_any h2)
  have hcb : W.cell? ⟨bx, 0, none⟩ = some (.pointer (some ⟨j, 0, none⟩)) := by rw [cell_of hIW.box]; rfl
  obtain ⟨c0, _, _, _⟩ := three_of h1
  obtain ⟨tot, hto⟩ : ∃ tot, (allF L.segs).length = tot := ⟨_, rfl⟩
  rw [hto] at ht htot
  have HTO := Lib.hid hto
  clear hc hJ hfs hY hA hAx hIW h0 h1 h2 hI hW hto
  refine callsIn_of_wp Tryz.func102 rfl trivial ?_ rfl
  simp only [Tryz.ntmps102, List.size_toArray, List.length_cons, List.length_nil, Nat.reduceAdd, Nat.reduceSub, Array.replicate_succ, Array.replicate_zero, List.push_toArray, List.append_toArray, List.nil_append, List.cons_append]
  gi_wp2_with (refine ⟨trivial, ?_⟩; gi_at_call 46; refine (callsIn_wide.2 KB.out).mono ?_; rintro e w' ⟨rfl, rfl⟩)
  clear c0 hcb KB
  gi_loopw [3] (fun at_ wr => ∃ k : Nat, 16 * k ≤ tot + 16 ∧ at_ = .int .i64 (L.base + 16 * k : Nat) ∧ ItInv ob bx n1 j v p L J wr ∧ JJ ((allF L.segs).take (16 * k)) wr ∧ Below W.heap.size W W ∧ W.heap.size ≤ wr.heap.size) (fun at_ _ => L.next + 20 - (intOf at_).toNat)
  case atStart => exact ⟨0, by omega, by simp, HI.out, by simpa using H0.out, Below.refl _ _, Nat.le_refl _⟩
  case round =>
    obtain ⟨k, hk, rfl, hI, hJJ, _, hsz⟩ := hrel
    have HI1 := Lib.hid hI
    have HJ1 := Lib.hid hJJ
    obtain ⟨g, G, h1, h2, _⟩ := hI.jis.log
    have KN := Lib.hid (lnext_any h2)
    have hcb : wr.cell? ⟨bx, 0, none⟩ = some (.pointer (some ⟨j, 0, none⟩)) := by rw [cell_of hI.box]; rfl
    obtain ⟨c0, _, _, _⟩ := three_of h1
    have HL := Lib.hid h2
    clear hI hJJ h1 h2
    by_cases hlt : 16 * k < tot
    · have hlt2 : ((L.base + 16 * k : Nat) : Int) < (L.next : Int) := by omega
      have KF := Lib.hid (lfrom_in HL.out HC.out (L.base + 16 * k) (by omega) (by omega) hm HFS.out (by rw [HTO.out]; exact htot) (by omega) 16)
      rw [from_chunk HC.out k (by rw [HTO.out]; exact hlt)] at KF
      obtain ⟨ch, hch⟩ : ∃ ch, ((allF L.segs).drop (16 * k)).take 16 = ch := ⟨_, rfl⟩
      rw [hch] at KF
      rw [show ((L.base + 16 * k : Nat) : Int) = (L.base : Int) + 16 * (k : Int) by omega] at KF
      have HCH := Lib.hid hch
      have hcl : ch.length ≤ 16 := by rw [← hch]; exact List.length_take_le _ _
      have hcl2 : 16 * k + ch.length ≤ tot := by rw [← hch, List.length_take, List.length_drop, HTO.out]; omega
      clear hch
      gi_wp2_with (first | (refine ⟨trivial, ?_⟩; gi_at_call 45; refine (callsIn_wide.2 KN.out).mono ?_; rintro e w' ⟨rfl, rfl⟩) | (refine ⟨trivial, ?_⟩; gi_at_call 49; refine (callsIn_wide.2 KF.out).mono ?_; rintro e w3 ⟨rv, rfl, hrow, hb3⟩; have HROW := Lib.hid hrow; have HB3 := Lib.hid hb3; obtain ⟨fo, fc, hv⟩ := row_slice3 hrow; subst hv; clear hrow hb3))
      have hob1 : ob < wr.heap.size := by have := HI1.out.size; omega
      have HI3 := Lib.hid (HI1.out.kept HJ.out hbx hne (KpF.of_below HB3.out hob1))
      have HR3 : Hid (∀ i, (Value.slice fo ch.length fc).ownBlock = some i → i ≠ ob ∧ ¬ ownB ob w3 i) := Lib.hid (fun i hi => by
        have h4 := (HROW.out.lt i hi).1
        refine ⟨by omega, fun hc => ?_⟩
        rcases (KpF.of_below HB3.out hob1).own i hc with h5 | h5
        · have := (HI1.out.own i h5).2; omega
        · obtain ⟨y, hy1, hy2⟩ := hc
          rw [HB3.out.block ob hob1] at hy1
          have := (HI1.out.own i ⟨y, hy1, hy2⟩).2
          omega)
      have HJ3 := Lib.hid (HA.out _ _ _ none HJ1.out (grown_of_below HB3.out) (fun r e => by cases e))
      have hsz3 := Nat.le_trans hsz HB3.out.size
      have HTK : Hid ((allF L.segs).take (16 * (k + 1)) = (allF L.segs).take (16 * k) ++ ch) := Lib.hid (by rw [← HCH.out, show 16 * (k + 1) = 16 * k + 16 by omega, List.take_add])
      have HLN : Hid (((allF L.segs).take (16 * k)).length = 16 * k) := Lib.hid (by rw [List.length_take, HTO.out]; omega)
      clear KN KF HL hcb c0
      gi_loopw [27] (fun i_ wr => ∃ q : Nat, q ≤ ch.length ∧ i_ = .int .i64 q ∧ ItInv ob bx n1 j v p L J wr ∧ (∃ B, wr.ownsRow B 43 2 (.slice fo ch.length fc) ch.length (fcells ch)) ∧ (∀ i, (Value.slice fo ch.length fc).ownBlock = some i → i ≠ ob ∧ ¬ ownB ob wr i) ∧ JJ ((allF L.segs).take (16 * k) ++ ch.take q) wr ∧ W.heap.size ≤ wr.heap.size) (fun i_ _ => ch.length - (intOf i_).toNat)
      case atStart => exact ⟨0, Nat.zero_le _, rfl, HI3.out, ⟨_, HROW.out⟩, HR3.out, by simpa using HJ3.out, hsz3⟩
      case round =>
        obtain ⟨q, hq, rfl, hI, ⟨B, hrow⟩, hrd, hJJ, hsz4⟩ := hrel
        have HI4 := Lib.hid hI
        have HRO := Lib.hid hrow
        have HRD := Lib.hid hrd
        have HJ4 := Lib.hid hJJ
        clear hI hrow hrd hJJ
        by_cases hql : q < ch.length
        · obtain ⟨_, _, e, hfr⟩ := FrsAt.of_row HRO.out
          cases e
          obtain ⟨ad, had, hld⟩ := hfr.load q hql
          obtain ⟨x, hx⟩ : ∃ x, ch[q] = x := ⟨_, rfl⟩
          rw [hx] at hld
          have HX := Lib.hid hx
          obtain ⟨kk, pp⟩ := x
          simp only at hld
          have hb5 := Below.alloc (Below.refl wr.heap.size wr) (Nat.le_refl _) (.cells #[.int .i64 kk, .string pp] 43)
          have hob4 : ob < wr.heap.size := by have := HI4.out.size; omega
          have HK5 := Lib.hid (KpF.of_below hb5 hob4)
          have HJ5 := Lib.hid (HA.out _ _ _ none HJ4.out (grown_of_below hb5) (fun r e => by cases e))
          have hlen : ((allF L.segs).take (16 * k) ++ ch.take q).length < (allF L.segs).length := by rw [List.length_append, HLN.out, List.length_take, HTO.out]; omega
          obtain ⟨fn, tmps, assign, body, hy, hR⟩ := HY.out _ (kk, pp) _ HJ5.out hlen
          dsimp only at hy
          have hlb := load_fr (alloc_at wr (.cells #[.int .i64 kk, .string pp] 43))
          have HR := Lib.hid hR
          have HTQ : Hid (ch.take (q + 1) = ch.take q ++ [(kk, pp)]) := Lib.hid (by rw [List.take_succ_eq_append_getElem hql, HX.out])
          subst had
          have q1 : (q : Int) < (ch.length : Int) := by omega
          clear hfr hx hb5 hlen hR
          gi_wp2
          refine HR.out.mono ?_
          rintro e W3 (⟨rfl, hJ6, hk6⟩ | ⟨rfl, hJx6⟩)
          · have HK6 := Lib.hid (HK5.out.trans hk6)
            have HI6 := Lib.hid (HI4.out.kept HJ.out hbx hne HK6.out)
            have HR6 := Lib.hid (row_kept HRO.out HRD.out HK6.out)
            have HJ6 : Hid (JJ ((allF L.segs).take (16 * k) ++ ch.take (q + 1)) W3) := Lib.hid (by rw [HTQ.out, ← List.append_assoc]; exact hJ6)
            have hsz6 := Nat.le_trans hsz4 HK6.out.upd.size
            clear hJ6 hk6 hy hld hlb
            gi_wp2
            go_roundw
            case rel => exact ⟨q + 1, hql, by simp, HI6.out, ⟨B, HR6.out.1⟩, HR6.out.2, HJ6.out, hsz6⟩
            case measure => simp [intOf]; omega
          · have HJX := Lib.hid hJx6
            clear hJx6 hy hld hlb
            gi_wp2
            refine bodyPost_ret (results_none rfl _ _ _) rfl ?_
            exact ⟨⟨_, rfl⟩, .inr ⟨_, trivial, HJX.out⟩⟩
        · obtain rfl : q = ch.length := by omega
          have HJ7 : Hid (JJ ((allF L.segs).take (16 * (k + 1))) wr) := Lib.hid (by have h := HJ4.out; rw [List.take_length] at h; rw [HTK.out]; exact h)
          gi_wp2
          go_roundw
          case rel => exact ⟨k + 1, by omega, by simp; omega, HI4.out, HJ7.out, Below.refl _ _, hsz4⟩
          case measure => simp [intOf]; omega
    · have hge : ¬ ((L.base : Int) + 16 * (k : Int) < (L.next : Int)) := by omega
      have HJ8 : Hid (JJ (allF L.segs) wr) := Lib.hid (by have h := HJ1.out; rwa [List.take_of_length_le (by rw [HTO.out]; omega)] at h)
      gi_wp2_with (refine ⟨trivial, ?_⟩; gi_at_call 45; refine (callsIn_wide.2 KN.out).mono ?_; rintro e w' ⟨rfl, rfl⟩)
      go_end0
      exact ⟨⟨_, rfl⟩, .inl ⟨_, rfl, HJ8.out⟩⟩
/-- What a round of Frames leaves: the frames that have come, in the box. -/
def FrI (w : World) (n1 ob : Nat) (pre : List Fr) (W : World) : Prop :=
  (∃ v, W.heap[ob]? = some (.cells #[v] 49 (0, 0)) ∧ W.ownsRow n1 43 2 v pre.length (fcells pre)) ∧ Below w.heap.size w W ∧ n1 ≤ W.heap.size
theorem FrI.own {w : World} {n1 ob B : Nat} (hB : w.heap.size ≤ B) : OwnFrom B (FrI w n1 ob) := by
  rintro s A A' row ⟨⟨v, h1, h2⟩, h3, h4⟩ hg hr
  refine ⟨⟨v, (hg.block ob (lt_of h1) (fun e => ?_)).trans h1, h2.kept hg ?_⟩, h3.grown hg h3.size (fun r e => by have := (hr r e).1; omega), Nat.le_trans h4 hg.size⟩
  · obtain ⟨_, o, ho, hn⟩ := hr ob e.symm
    exact obj_cells h1 ⟨o, ho, hn⟩
  · cases hv : v.ownBlock with
    | none => exact .inl rfl
    | some k =>
      refine .inr (fun e => ?_)
      obtain ⟨_, o, ho, hn⟩ := hr k e.symm
      exact row_cells h2 hv ⟨o, ho, hn⟩
set_option maxRecDepth 100000 in
set_option maxHeartbeats 1600000 in
attribute [-go_sem] Instr.build Instr.fill Instr.buildSlice loadVar in
theorem jframes_any {j v p : Nat} {L : LogM} {w : World} {J : Foot} (h : JIs j v p L w J) (hc : ChainOk L.base L.segs L.next) (hm : L.segs.length ≤ 1000) (hfs : ∀ s ∈ L.segs, s.fs.length ≤ 1000) (htot : (allF L.segs).length ≤ 1000000) (hbig : L.next ≤ 1000000000) :
    Calls Tryz.prog 30 #[.pointer (some ⟨j, 0, none⟩)] w fun x w' => ∃ v', x = .returned v' ∧ w'.ownsRow w.heap.size 43 2 v' (allF L.segs).length (fcells (allF L.segs)) ∧ Below w.heap.size w w' := by
  refine (callsIn_wide (n := 5)).1 ?_
  obtain ⟨i0, hi0, hz0, hz1, hz2⟩ := info_parts info_fr
  have HJ := Lib.hid h
  have HC := Lib.hid hc
  have HFS := Lib.hid hfs
  clear h hc hfs
  refine callsIn_of_wp_marks Tryz.func30 rfl trivial ?_ rfl
  simp only [Tryz.ntmps30, List.size_toArray, List.length_cons, List.length_nil, Nat.reduceAdd, Nat.reduceSub, Array.replicate_succ, Array.replicate_zero, List.push_toArray, List.append_toArray, List.nil_append, List.cons_append]
  gi_wp2_with (refine ⟨trivial, ?_⟩; gi_at_call 71; refine (callsIn_wide.2 (jeach_any _ _)).mono ?_; rintro e w' ⟨rfl, rfl⟩)
  have hob0 := alloc_old (alloc_at w (.cells #[.slice none 0 0] 49)) (.cells #[.pointer (some ⟨j, 0, none⟩)] 54)
  have hbx0 := alloc_at (w.alloc (.cells #[.slice none 0 0] 49)) (.cells #[.pointer (some ⟨j, 0, none⟩)] 54)
  have hB0 : Below w.heap.size w ((w.alloc (.cells #[.slice none 0 0] 49)).alloc (.cells #[.pointer (some ⟨j, 0, none⟩)] 54)) := ((Below.refl _ _).alloc (Nat.le_refl _) _).alloc (by simp) _
  have hsz : ((w.alloc (.cells #[.slice none 0 0] 49)).alloc (.cells #[.pointer (some ⟨j, 0, none⟩)] 54)).heap.size = w.heap.size + 2 := by simp
  rw [World.size_alloc] at hbx0
  obtain ⟨W0, hW0⟩ : ∃ W0, (w.alloc (.cells #[.slice none 0 0] 49)).alloc (.cells #[.pointer (some ⟨j, 0, none⟩)] 54) = W0 := ⟨_, rfl⟩
  rw [hW0] at hob0 hbx0 hB0 hsz ⊢
  clear hW0
  have hJlt : ∀ i, J i → i < w.heap.size + 2 ∧ i ≠ w.heap.size := fun i hi => by have := JIs.there HJ.out i hi; omega
  have hIt : ItInv w.heap.size (w.heap.size + 1) (w.heap.size + 2) j v p L J W0 := ⟨JIs.stays.below HJ.out hB0, hbx0, (fun i hi => by
    obtain ⟨y, hy1, hy2⟩ := hi
    rw [hob0] at hy1
    cases hy1
    cases hy2), by omega⟩
  refine wpIn_rangeFunc_ownH rfl (by omega) (gf := 102) (lb := #[.pointer (some ⟨w.heap.size + 1, 0, none⟩)]) rfl trivial (enters_of Tryz.func102 (by kernel_rfl) rfl)
    (each1_stops (n := 5 - 1) (by omega) hIt hJlt (by omega) (by omega) (by omega) HC.out hm HFS.out htot hbig) KpF.trans (KpF.put (by omega)) (Below.refl _ _) (fun _ => rfl)
    (FrI w (w.heap.size + 2) w.heap.size)
    (fun _ _ _ => False)
    (FrI.own (by omega))
    (fun _ _ _ _ _ hs _ _ => hs)
    ⟨⟨_, hob0, World.ownsRow_nil _ _ _ _⟩, hB0, by omega⟩
    (fun x a' W => ∃ Bx, w.heap.size + 2 ≤ Bx ∧ W.heap[Bx]? = some (.cells #[.int .i64 x.1, .string x.2] 43 (0, 0)) ∧ a' = { tmps := #[.pointer (some ⟨j, 0, none⟩), undef, .slice none 0 0, .pointer (some ⟨w.heap.size, 0, none⟩), .pointer (some ⟨Bx, 0, none⟩), .pointer (some ⟨j, 0, none⟩), .bool false, .pointer (some ⟨j, 0, none⟩), .func (.func 102) #[] #[.pointer (some ⟨w.heap.size + 1, 0, none⟩)], frV x.1 x.2, undef, undef, undef, undef, undef], defers := [] })
    (fun x a' _ A A' row hs hg hr => by
      obtain ⟨Bx, h1, h2, h3⟩ := hs
      exact ⟨Bx, h1, (hg.block Bx (lt_of h2) (fun e => by
        obtain ⟨_, o, ho, hn⟩ := hr Bx e.symm
        exact obj_cells h2 ⟨o, ho, hn⟩)).trans h2, h3⟩)
    ?assign ?body ?done ?stop
  case assign =>
    rintro l pre ⟨kk, pp⟩ W K hI hK
    have HI := Lib.hid hI
    have HK := Lib.hid hK
    clear hI hK
    gi_wp2
    have hb := Below.alloc (Below.refl W.heap.size W) (Nat.le_refl _) (.cells #[.int .i64 kk, .string pp] 43)
    obtain ⟨⟨y, h1, h2⟩, h3, h4⟩ := HI.out
    exact HK.out _ _ ((KeepsOthers.alloc _ _).from _) (KpF.of_below hb (lt_of h1)) ⟨⟨y, alloc_old h1 _, h2.alloc _⟩, h3.alloc h3.size _, Nat.le_trans h4 hb.size⟩ ⟨W.heap.size, h4, alloc_at W _, rfl⟩
  case body =>
    rintro l pre ⟨kk, pp⟩ a' W hl ⟨r, hr⟩ hI ⟨Bx, hBx, bX, rfl⟩ hlt
    obtain ⟨⟨y, h1, h2⟩, h3, h4⟩ := hI
    obtain ⟨so, sc, hy⟩ := row_slice3 h2
    subst hy
    have co : W.cell? ⟨w.heap.size, 0, none⟩ = some (.slice so pre.length sc) := by rw [cell_of h1]; rfl
    have hlf := load_fr bX
    have hbs := build_frs1
    have H1 := Lib.hid h1
    have H2 := Lib.hid h2
    have H3 := Lib.hid h3
    have hpl : pre.length ≤ 1000000 := by omega
    obtain ⟨pn, hpn⟩ : ∃ pn, pre.length = pn := ⟨_, rfl⟩
    rw [hpn] at co hpl H1 H2
    have HPN := Lib.hid hpn
    have hB2 : w.heap.size + 2 ≤ W.heap.size := h4
    clear h1 h2 h3 hr hpn hlt bX
    gi_wp2_with (gi_at_builtin; refine wpListIn_append_own_at _ rfl (.tmp 10) (.tmp 12) 49 rfl (w.heap.size + 2) 43 i0 _ 2 24 Tryz.underlying49 hi0 hz0 hz1 hz2 rfl (by omega) (.slice so pn sc) _ _ rfl (H2.out.alloc _) ⟨W.heap.size, 0, none⟩ 1 1 [.int .i64 kk, .string pp] rfl rfl (World.news_of_block (cs := #[.int .i64 kk, .string pp]) (t := 43) (fr := (0, 0)) (heap_alloc_new W _)) (by simp [Value.oneCell']) (by unfold maxLen; omega) (by omega) (by simp; omega) ?_; intro v9 w9 hown9 hgrow9 _ hat9; obtain ⟨s9, c9, hv9⟩ := row_slice3 hown9; subst hv9; have HOWN := Lib.hid hown9; have HGROW := Lib.hid hgrow9; have HAT := Lib.hid hat9; clear hown9 hgrow9 hat9; have hc9 : w9.heap[w.heap.size]? = some (.cells #[.slice so pn sc] 49 (0, 0)) := (HGROW.out.block _ (by simp; omega) (fun e => by have := (H2.out.lt _ e.symm).1; omega)).trans (alloc_old H1.out _); have HC9 := Lib.hid hc9; have hz9 := fun o => free_of hc9 o; have hcc9 : w9.cell? ⟨w.heap.size, 0, none⟩ = some (.slice so pn sc) := (by rw [cell_of hc9]; rfl); clear hc9)
    have hlt9 := HOWN.out.lt
    have hg1 : W.heap.size ≤ w9.heap.size := Nat.le_trans (by simp) HGROW.out.size
    have hU : Upd (fun i => i = w.heap.size ∨ ownB w.heap.size W i ∨ noCells W i) W (w9.setCell ⟨w.heap.size, 0, none⟩ (.slice s9 (pn + 1) c9)) := by
      have hU1 : Upd (fun i => i = w.heap.size ∨ ownB w.heap.size W i ∨ noCells W i) W w9 := ⟨HGROW.out.os, HGROW.out.tape, HGROW.out.output, hg1, fun i hi hc => (HGROW.out.block i (by simp; omega) (fun e => hc (.inr (.inl ⟨_, H1.out, e.symm⟩)))).trans (Below.heap_alloc _ _ _ hi)⟩
      exact hU1.setCell (p := ⟨w.heap.size, 0, none⟩) (fun _ => .inl rfl) _
    have hbox : (w9.setCell ⟨w.heap.size, 0, none⟩ (.slice s9 (pn + 1) c9)).heap[w.heap.size]? = some (.cells #[.slice s9 (pn + 1) c9] 49 (0, 0)) := by
      rw [cells_set _ _ _ _ _ _ HC9.out]; rfl
    refine ⟨(((KeepsOthers.alloc W _).trans (KeepsOthers.of_grownBy HGROW.out (fun i o e ho => ?_))).trans (KeepsOthers.setCell _ _ _)).from _, ⟨hU, fun i hi => ?_⟩, ⟨_, hbox, ?_⟩, ?_, ?_⟩
    · cases ho' : o.isCells with
      | true => rfl
      | false => exact absurd ⟨o, ho, ho'⟩ (row_cells (H2.out.alloc _) e)
    · obtain ⟨y, hy1, hy2⟩ := hi
      rw [hbox] at hy1
      cases hy1
      rcases HAT.out with h | h
      · exact .inl ⟨_, H1.out, h ▸ hy2⟩
      · refine .inr ⟨?_, ?_⟩
        · rw [h] at hy2; cases hy2; simp
        · have := (hlt9 i hy2).2; simpa using this
    · rw [List.length_append, HPN.out, List.length_singleton, fcells_snoc]
      refine (HOWN.out).kept (grownBy_setCell' w9 w.heap.size _) ?_
      cases hv : (Value.slice s9 (pn + 1) c9).ownBlock with
      | none => exact .inl rfl
      | some k => exact .inr (fun e => by cases e; have := (hlt9 _ hv).1; omega)
    · exact ((H3.out.alloc H3.out.size _).grown HGROW.out (by simp; omega) (fun k e => by have := (H2.out.lt k e).1; omega)).setCell (p := ⟨w.heap.size, 0, none⟩) (Nat.le_refl _) _
    · simp; omega
  case done =>
    rintro D xs W hD rfl hI hK
    obtain ⟨⟨y, h1, h2⟩, h3, h4⟩ := hI
    obtain ⟨so, sc, hy⟩ := row_slice3 h2
    subst hy
    have co : W.cell? ⟨w.heap.size, 0, none⟩ = some (.slice so (allF L.segs).length sc) := by rw [cell_of h1]; rfl
    have H2 := Lib.hid h2
    have H3 := Lib.hid h3
    have HK := Lib.hid hK
    clear h1 h2 h3 hK
    gi_wp2
    refine ⟨by simp, .inl ⟨_, _, rfl, run_takeDeferred HK.out, ?_⟩⟩
    refine ⟨_, results_tmp rfl _ _ _, _, rfl, ?_, H3.out.trans (belowK_b (w := w) (Nat.le_refl _) W D _ _ (by omega) HK.out rfl rfl)⟩
    have hkk : (W.putObj D (.deferred none)).ownsRow (w.heap.size + 2) 43 2 (.slice so (allF L.segs).length sc) (allF L.segs).length (fcells (allF L.segs)) := H2.out.kept (grownBy_putObj' W D _) (by
      cases hv : (Value.slice so (allF L.segs).length sc).ownBlock with
      | none => exact .inl rfl
      | some k => exact .inr (fun e => by cases e; exact row_cells H2.out hv ⟨_, HK.out, rfl⟩))
    exact ⟨hkk.1, hkk.2.imp id (fun ⟨g', cap, cur, e, hb, hr⟩ => ⟨g', cap, cur, e, by omega, hr⟩)⟩
  case stop =>
    rintro D c pre W _ _ h _
    exact h.elim
end Go.Proofs.YtoobiffhjjfpgaaGreat.Print
