/- A row with an offset; small laws of rows that all later texts use. -/
import Derived.Test.YtoobiffhjjfpgaaGreatSeg
import Derived.Deep.AppendLies
import Derived.ArgAppend
import Derived.Test.YtoobiffhjjfpgaaGreatSegA
namespace Go.Proofs.YtoobiffhjjfpgaaGreat.Print
open Go.RowKit

/-- A row of one-cell elements, whole or without its first ones. -/
def OffRow (w : World) (e : TypeId) (v : Value) (n : Nat) (xs : List Value) : Prop :=
  xs.length = n ∧ ((v = .slice none 0 0 ∧ n = 0) ∨ ∃ b o cap cur, v = .slice (some ⟨b, o, none⟩) n cap ∧ w.heap[b]? = some (.cells cur e (0, 0)) ∧ n ≤ cap ∧ cur.size = o + cap ∧ cap ≤ maxLen ∧ ∀ j, j < n → cur[o + j]? = xs[j]?)
theorem OffRow.of_owns {w : World} {B : Nat} {e : TypeId} {v : Value} {n : Nat} {xs : List Value} (h : w.ownsRow B e 1 v n xs) : OffRow w e v n xs := by
  refine ⟨by rw [h.1]; omega, ?_⟩
  rcases h.2 with h1 | ⟨g, cap, cur, rfl, _, hg, h2, h3, h4, h5⟩
  · exact .inl h1
  · refine .inr ⟨g, 0, cap, cur, rfl, hg, h2, by rw [h4]; omega, h3, fun j hj => ?_⟩
    rw [← h5, List.getElem?_take_of_lt (by omega), Nat.zero_add]
    simp
theorem OffRow.nil (w : World) (e : TypeId) : OffRow w e (.slice none 0 0) 0 [] := ⟨rfl, .inl ⟨rfl, rfl⟩⟩
theorem OffRow.slice {w : World} {e : TypeId} {v : Value} {n : Nat} {xs : List Value} (h : OffRow w e v n xs) : ∃ ao ac, v = .slice ao n ac := by
  rcases h.2 with ⟨rfl, rfl⟩ | ⟨b, o, cap, cur, rfl, _⟩
  · exact ⟨_, _, rfl⟩
  · exact ⟨_, _, rfl⟩
theorem OffRow.lt {w : World} {e : TypeId} {v : Value} {n : Nat} {xs : List Value} (h : OffRow w e v n xs) : ∀ i, v.ownBlock = some i → i < w.heap.size := by
  intro i hi
  rcases h.2 with ⟨rfl, rfl⟩ | ⟨b, o, cap, cur, rfl, hg, _⟩
  · cases hi
  · simp [Value.ownBlock] at hi
    subst hi
    exact lt_of hg
theorem OffRow.keep {S : Nat → Prop} {w w1 : World} {e : TypeId} {v : Value} {n : Nat} {xs : List Value} (h : OffRow w e v n xs) (hU : Upd S w w1) (hn : ∀ i, v.ownBlock = some i → ¬ S i) : OffRow w1 e v n xs := by
  refine ⟨h.1, ?_⟩
  rcases h.2 with h1 | ⟨b, o, cap, cur, rfl, hg, h2⟩
  · exact .inl h1
  · exact .inr ⟨b, o, cap, cur, rfl, hU.at_ hg (hn b rfl), h2⟩
theorem OffRow.below {w w1 : World} {e : TypeId} {v : Value} {n : Nat} {xs : List Value} (h : OffRow w e v n xs) (hb : Below w.heap.size w w1) : OffRow w1 e v n xs := h.keep (S := fun _ => False) (Upd.of_below hb) (fun _ _ h => h)
/-- An element. -/
theorem OffRow.at_ {w : World} {e : TypeId} {v : Value} {n : Nat} {xs : List Value} (h : OffRow w e v n xs) (j : Nat) (hj : j < n) : ∃ b o cap, v = .slice (some ⟨b, o, none⟩) n cap ∧ w.cell? ⟨b, o + j, none⟩ = some (xs[j]'(by have := h.1; omega)) ∧ n ≤ cap := by
  rcases h.2 with ⟨_, h0⟩ | ⟨b, o, cap, cur, hv, hg, h2, h3, h4, h5⟩
  · omega
  · refine ⟨b, o, cap, hv, ?_, h2⟩
    rw [cell_of hg, h5 j hj, List.getElem?_eq_getElem]
/-- Without the first element. -/
theorem OffRow.tail {w : World} {e : TypeId} {b o n cap : Nat} {x : Value} {xs : List Value} (h : OffRow w e (.slice (some ⟨b, o, none⟩) (n + 1) cap) (n + 1) (x :: xs)) (b2 o2 : Nat) (hb : b2 = b) (ho : o2 = o + 1 ∨ (cap = 1 ∧ o2 = o)) : n + 1 ≤ cap ∧ (o2 = o + 1 ∨ cap = 1) ∧ (o2 = o + 1 → OffRow w e (.slice (some ⟨b2, o2, none⟩) n (cap - 1)) n xs) := by
  subst hb
  rcases h.2 with ⟨h1, _⟩ | ⟨b', o', cap', cur, hv, hg, h2, h3, h4, h5⟩
  · cases h1
  · simp at hv
    obtain ⟨⟨rfl, rfl⟩, rfl⟩ := hv
    refine ⟨h2, ho.imp id (fun h => h.1), fun he => ?_⟩
    subst he
    refine ⟨by have := h.1; simpa using this, .inr ⟨b2, o + 1, cap - 1, cur, rfl, hg, by omega, by omega, by omega, fun j hj => ?_⟩⟩
    rw [show o + 1 + j = o + (j + 1) by omega, h5 (j + 1) (by omega), List.getElem?_cons_succ]
/-- One element more. -/
theorem run_append_off {P : Program} (w : World) (t ty e : TypeId) (i : TypeInfo) (z : Value) (bytes : Nat) (ht : P.underlying t = some (.slice e)) (hi : P.info? e = some i) (hz : i.zero = some z) (hsize : i.size = 1) (hby : i.bytes = bytes) (hzs : z.cells.size = 1)
    {v : Value} {n : Nat} {xs : List Value} (h : OffRow w e v n xs) (ad : Addr) (c : Nat) (x : Value) (hx : w.cell? ad = some x) (h1 : x.oneCell' = true) (h63 : n + 1 ≤ maxLen) (hbytes : (n + 1) * bytes ≤ 140737488355328) :
    ∃ v' w', (Builtin.append_ #[t, t] ty #[v, .slice (some ad) 1 c]).run P w = .ok v' w' ∧ OffRow w' e v' (n + 1) (xs ++ [x]) ∧ w.grownBy w' v.ownBlock ∧ (v'.ownBlock = v.ownBlock ∨ ∃ g, v'.ownBlock = some g ∧ w.heap.size ≤ g) := by
  have hnews : ∀ j u, [x][j]? = some u → w.cell? (ad.add j) = some u := by
    intro j u hu
    match j, hu with
    | 0, hu => cases hu; rw [show ad.add 0 = ad from if_pos rfl]; exact hx
    | k + 1, hu => simp at hu
  have hgrown : ∀ v' w', w'.ownsRow w.heap.size e 1 v' (n + 1) (xs ++ [x]) → w.grownBy w' none → OffRow w' e v' (n + 1) (xs ++ [x]) ∧ w.grownBy w' v.ownBlock ∧ (v'.ownBlock = v.ownBlock ∨ ∃ g, v'.ownBlock = some g ∧ w.heap.size ≤ g) := by
    intro v' w' r1 r2
    refine ⟨OffRow.of_owns r1, ⟨r2.os, r2.tape, r2.output, r2.size, fun k hk _ => r2.block k hk (by simp)⟩, .inr ?_⟩
    rcases r1.2 with ⟨_, h0⟩ | ⟨g, cap, cur, rfl, hg, _⟩
    · omega
    · exact ⟨g, rfl, hg⟩
  rcases h.2 with ⟨rfl, rfl⟩ | ⟨b, o, cap, cur, rfl, hg, h2, h3, h4, h5⟩
  · obtain rfl : xs = [] := List.eq_nil_of_length_eq_zero h.1
    obtain ⟨v', w', hrun, r1, r2, _⟩ := run_append_own (P := P) w w.heap.size t ty e i z 1 bytes ht hi hz hsize hby hzs (by omega) (.slice none 0 0) 0 [] (World.ownsRow_nil w _ e 1) ad 1 c [x] rfl hnews (by simpa using h1) (by simpa using h63) (by simpa using hbytes) (Nat.le_refl _)
    obtain ⟨a1, a2, a3⟩ := hgrown v' w' (by simpa using r1) ⟨r2.os, r2.tape, r2.output, r2.size, fun k hk _ => r2.block k hk (by simp [Value.ownBlock])⟩
    exact ⟨v', w', hrun, by simpa using a1, a2, a3⟩
  · have hxl := h.1
    by_cases hr : n + 1 ≤ cap
    · have hc : w.cell? ⟨b, o + n, none⟩ = some (cur[o + n]'(by omega)) := by rw [cell_of hg, Array.getElem?_eq_getElem]
      have hrun := run_append_room_cells (P := P) w t ty e i ht hi b o n cap ad 1 c [x] (by rw [hsize]; rfl) hnews (by simpa using h1) hr
        (fun j hj => by
          have : j = 0 := by simp at hj; exact hj
          subst this
          rw [hsize, Nat.mul_one, Nat.add_zero, hc]; rfl)
        (fun j _ => free_of hg _)
      rw [hsize, Nat.mul_one] at hrun
      have hs : w.setCells b (o + n) [x] = w.setCell ⟨b, o + n, none⟩ x := by simp [World.setCells]
      rw [hs] at hrun
      have hg2 : (w.setCell ⟨b, o + n, none⟩ x).heap[b]? = some (.cells (cur.setIfInBounds (o + n) x) e (0, 0)) := cells_set _ _ _ _ _ _ hg _
      refine ⟨_, _, hrun, ⟨by simp [hxl], .inr ⟨b, o, cap, _, rfl, hg2, hr, by simpa using h3, h4, fun j hj => ?_⟩⟩, ?_, .inl rfl⟩
      · rw [Array.getElem?_setIfInBounds]
        by_cases hj2 : o + n = o + j
        · obtain rfl : n = j := by omega
          rw [if_pos rfl, if_pos (by omega), List.getElem?_append_right (by omega), hxl]
          simp
        · rw [if_neg hj2, h5 j (by omega), List.getElem?_append_left (by omega)]
      · have hU : Upd (fun k => k = b) w (w.setCell ⟨b, o + n, none⟩ x) := (Upd.refl (fun k => k = b) w).setCell (p := ⟨b, o + n, none⟩) (fun _ => rfl) _
        exact ⟨hU.os, hU.tape, hU.output, hU.size, fun k hk hne => hU.other k hk (fun e => hne (by rw [e]; rfl))⟩
    · obtain ⟨v', w', hrun, r1, r2⟩ := run_append_arg_grows (P := P) w t ty e i z 1 bytes ht hi hz hsize hby hzs (by omega) ⟨b, o, none⟩ n cap xs (by omega) (by
        intro j u hj
        rw [Addr.add_lit, cell_of hg, h5 j (by have := (List.getElem?_eq_some_iff.1 hj).1; omega), hj]) ad 1 c [x] rfl hnews (by omega) h63 hbytes
      obtain ⟨a1, a2, a3⟩ := hgrown v' w' r1 r2
      exact ⟨v', w', hrun, a1, a2, a3⟩
/-- .. for the walk. -/
theorem wpList_append_off {P : Program} (w : World) {ops : Array Oper} {rest : List Oper} {o : Oper} {a : Act} {Q : Exit → Act → World → Prop}
    (hg : o.guard = none) (s x : Operand) (t : TypeId) (hop : o.op = Op.call { callee := Callee.builtin Builtin.append, args := #[s, x], argTypes := #[t, t] })
    (e : TypeId) (i : TypeInfo) (z : Value) (bytes : Nat) (ht : P.underlying t = some (.slice e)) (hi : P.info? e = some i) (hz : i.zero = some z) (hsize : i.size = 1) (hby : i.bytes = bytes) (hzs : z.cells.size = 1)
    (v : Value) (n : Nat) (xs : List Value) (hs : a.eval s = v) (h : OffRow w e v n xs) (ad : Addr) (c : Nat) (y : Value) (hx : a.eval x = .slice (some ad) 1 c) (hy : w.cell? ad = some y) (h1 : y.oneCell' = true) (h63 : n + 1 ≤ maxLen) (hbytes : (n + 1) * bytes ≤ 140737488355328)
    (hK : ∀ v' w', OffRow w' e v' (n + 1) (xs ++ [y]) → w.grownBy w' v.ownBlock → (v'.ownBlock = v.ownBlock ∨ ∃ g, v'.ownBlock = some g ∧ w.heap.size ≤ g) → wpList P ops Q rest (a.put o.dst v') w') :
    wpList P ops Q (o :: rest) a w := by
  refine wpList_plain hg fun K hK' => ?_
  obtain ⟨v', w', hrun, r1, r2, r3⟩ := run_append_off (P := P) w t o.type e i z bytes ht hi hz hsize hby hzs h ad c y hy h1 h63 hbytes
  unfold Oper.wp
  simp [execOp, hop, resolve, invoke, builtin, hs, hx, hrun, Result.andThen]
  exact hK' _ _ (hK v' w' r1 r2 r3)
theorem row_slice3 {w : World} {B : Nat} {T : TypeId} {k n : Nat} {v : Value} {xs : List Value} (h : w.ownsRow B T k v n xs) : ∃ (ao : Option Addr) (ac : Nat), v = .slice ao n ac := by
  rcases h.2 with ⟨h1, h0⟩ | ⟨g, cap, cur, h1, _⟩
  · exact ⟨none, 0, by rw [h1, h0]⟩
  · exact ⟨_, _, h1⟩
theorem wrong_none {k : Int} {n : Nat} (h : wrongP k n = 0) : 1 ≤ k ∧ k ≤ 255 ∧ n ≤ 773 := by
  unfold wrongP at h
  by_cases h1 : k < 1 ∨ 255 < k
  · rw [if_pos h1] at h; omega
  · rw [if_neg h1] at h
    by_cases h2 : 773 < n
    · rw [if_pos h2] at h; omega
    · omega
/-- Owners, as cells. -/
def oC (O : List Nat) : List Value := O.map fun o : Nat => .int .i64 o
theorem oC_length (O : List Nat) : (oC O).length = O.length := by simp [oC]
theorem oC_at (O : List Nat) (i : Nat) (h : i < O.length) : (oC O)[i]? = some (.int .i64 O[i]) := by simp [oC, h]
theorem oC_set (O : List Nat) (i o : Nat) : (oC O).set i (.int .i64 o) = oC (O.set i o) := by simp [oC, List.map_set]
theorem oC_snoc (O : List Nat) (o : Nat) : oC (O ++ [o]) = oC O ++ [.int .i64 o] := by simp [oC]
theorem three_of {w : World} {b : Nat} {c0 c1 c2 : Value} {t : TypeId} (h : w.heap[b]? = some (.cells #[c0, c1, c2] t)) :
    w.cell? ⟨b, 0, none⟩ = some c0 ∧ w.cell? ⟨b, 1, none⟩ = some c1 ∧ w.cell? ⟨b, 2, none⟩ = some c2 ∧ ∀ o, w.frozen? ⟨b, o, none⟩ = false :=
  ⟨by rw [cell_of h]; rfl, by rw [cell_of h]; rfl, by rw [cell_of h]; rfl, fun o => free_of h o⟩
theorem info_int : (Tryz.prog.info? 3).map (fun i => (i.zero, i.size, i.bytes)) = some (some (.int .i64 0), 1, 8) := by kernel_rfl
theorem quiet_eq {P : Program} {f : FuncId} {args : Array Value} {w : World} {n : Nat} {v : Value} (h : Calls P f args (w.drewN n) fun e w' => e = .returned v ∧ w.drewN n = w') : Calls P f args (w.drewN n) fun e w'' => e = .returned v ∧ ∃ m, w'' = w.drewN m :=
  h.mono fun _ _ ⟨he, hm⟩ => ⟨he, n, hm.symm⟩
theorem Upd.of_below' {S : Nat → Prop} {w w1 : World} (h : Below w.heap.size w w1) : Upd S w w1 := (Upd.of_below h).mono (fun _ _ hi => hi)
end Go.Proofs.YtoobiffhjjfpgaaGreat.Print
