/- SegmentPuts: what an Append comes to, in the program and in the reference; the sectors as they lie. -/
import Derived.Test.YtoabdpobpmbckaaRefA
import Derived.Test.YtoabdpobpmbckaaRead
namespace Go.Proofs.Ytoabdpobpmbckaa.Print
open Go.RowKit

/-- Why an Append is refused. -/
def NoPut (k : Int) (p : ByteArray) (e : Nat) (er : Int) : Prop := (wrongP k p.size ≠ 0 ∧ er = wrongP k p.size) ∨ (wrongP k p.size = 0 ∧ 16 < e + many (7 + p.size) ∧ er = 5)
theorem put_or_no (k : Int) (p : ByteArray) (e : Nat) : (∃ er, NoPut k p e er) ∨ (∃ K : Nat, k = K ∧ 1 ≤ K ∧ K ≤ 255 ∧ p.size ≤ 773 ∧ e + many (7 + p.size) ≤ 16) := by
  by_cases hw : wrongP k p.size = 0
  · obtain ⟨h1, h2, h3⟩ := wrong_zero hw
    by_cases hf : e + many (7 + p.size) ≤ 16
    · exact .inr ⟨k.toNat, by omega, by omega, by omega, h3, hf⟩
    · exact .inl ⟨5, .inr ⟨hw, by omega, rfl⟩⟩
  · exact .inl ⟨_, .inl ⟨hw, rfl⟩⟩
/-- The sectors of the segment n, as they lie. -/
def SecsAre (W : List (Nat × List UInt8)) (n : Nat) (X : Nat → ByteArray) : Prop := ∀ k, k < 16 → X k = bs (secX (zeroDisk 36) W 1 (2 + 16 * n + k))
theorem secs_put {W : List (Nat × List UInt8)} {n : Nat} {X : Nat → ByteArray} (h : SecsAre W n X) (st c e : Nat) (L : List (List UInt8)) : SecsAre (W ++ sealAt (1 + (2 + 16 * n + e)) st c L) n (putS X st c e L) := by
  intro k hk
  unfold secX putS
  rw [lastOf_sealAt]
  by_cases hc : e ≤ k ∧ k < e + L.length
  · rw [dif_pos hc, dif_pos (by omega)]
    congr 3
    omega
  · rw [dif_neg hc, dif_neg (by omega), h k hk]
    rfl
theorem secs_zero (n : Nat) (hn : n < 2) : SecsAre [] n fun _ => zeroB := by
  intro k hk
  unfold secX zeroB
  rw [List.getD_eq_getElem?_getD, zeroDisk_at _ _ (by omega)]
  rfl
theorem puts_create {w : World} {v : Nat} {F : Foot} (V : ViewIs v (zeroDisk 36) [] 1 34 (-1) false w F) (n : Nat) (h : H4) (hf : HFits h) (hn : n < 2) (i : Int) (hi : i = n) :
    Calls Try.prog 41 #[.pointer (some ⟨v, 0, none⟩), .int .i64 i, hdV h.1 h.2.1 h.2.2.1 h.2.2.2] w fun x w' => ∃ (s : Nat) (F' G' : Foot), x = .returned (.tuple #[.pointer (some ⟨s, 0, none⟩), .int .i64 0]) ∧
      PutAt v s n h [] 1 ([] ++ sealAt (1 + (2 + 16 * n + 0)) h.2.2.1 1 [pad52 (hdrL h)]) w' F' G' ∧ Upd F w w' ∧ Fresh w F F' ∧ ∀ i, G' i → w.heap.size ≤ i := by
  refine (create_go V n h hf (by omega) (by omega) (by simp) i hi).mono ?_
  rintro x w' ⟨s, F', G', hx, hV, hS, hA, hU, hF, hG⟩
  exact ⟨s, F', G', hx, ⟨hV, hS, hA, putInv_create hf (fun k hk1 hk2 x hx => by rw [secO_zero 36 1 n k (by omega)] at hx; cases hx), by simp [sealAt]⟩, hU, hF, hG⟩
theorem puts_go {w : World} {v s n : Nat} {h : H4} {fs : List Fr} {e : Nat} {W : List (Nat × List UInt8)} {F G : Foot} (P : PutAt v s n h fs e W w F G) (hf : HFits h) (hn : n < 2) (K : Nat) (p : ByteArray) (hk1 : 1 ≤ K) (hk2 : K ≤ 255) (hk3 : p.size ≤ 773) (hfit : e + many (7 + p.size) ≤ 16) :
    Calls Try.prog 34 #[.pointer (some ⟨s, 0, none⟩), frV K p] w fun x w' => x = .returned (.tuple #[.int .i64 e, .int .i64 0]) ∧ ∃ (F' G' : Foot),
      PutAt v s n h (fs ++ [((K : Int), p)]) (e + many (7 + p.size)) (W ++ sealAt (1 + (2 + 16 * n + e)) h.2.2.1 (fs.length + 2) (frP h.2.2.1 e K p)) w' F' G' ∧ Upd (Both F G) w w' ∧ Fresh w F F' ∧ Fresh w G G' := by
  obtain ⟨V, S, A, I, hW⟩ := P
  have he1 := I.e1
  have he2 := I.e16
  have hl := I.runs.le
  refine (append_go V S A hf.2.2.2.1 (by omega) (by omega) he1 he2 (by omega) (by omega) K p hk1 hk2 hk3 hfit K rfl).mono ?_
  rintro x w' ⟨F', G', hx, hV, hS, hU, hF, hG, hA⟩
  exact ⟨hx, F', G', ⟨hV, hS, hA, putInv_append I hf.2.2.2.1 hk1 hk2 hk3 hfit, by rw [List.length_append, sealAt_length, frP_length]; omega⟩, hU, hF, hG⟩
theorem puts_no {w : World} {v s n : Nat} {h : H4} {fs : List Fr} {e : Nat} {W : List (Nat × List UInt8)} {F G : Foot} (P : PutAt v s n h fs e W w F G) (hf : HFits h) (hn : n < 2) (k : Int) (p : ByteArray) (er : Int) (hno : NoPut k p e er) :
    Calls Try.prog 34 #[.pointer (some ⟨s, 0, none⟩), frV k p] w fun x w' => x = .returned (.tuple #[.int .i64 0, .int .i64 er]) ∧ Below w.heap.size w w' := by
  obtain ⟨V, S, A, I, hW⟩ := P
  have he1 := I.e1
  have he2 := I.e16
  have hl := I.runs.le
  rcases hno with ⟨hw, rfl⟩ | ⟨hw, hbig, rfl⟩
  · exact append_wrong S k p he1 he2 hw
  · obtain ⟨h1, h2, h3⟩ := wrong_zero hw
    obtain ⟨K, rfl⟩ := Int.eq_ofNat_of_zero_le (show 0 ≤ k by omega)
    refine (append_any V S A hf.2.2.2.1 (by omega) (by omega) he1 he2 (by omega) (by omega) K p (by omega) (by omega) h3).mono ?_
    rintro x w' (⟨_, hx, hb⟩ | ⟨h1, _⟩)
    · exact ⟨hx, hb⟩
    · exact absurd h1 (by omega)
/-- The segment by value, and the program's. -/
structure PutsRel (v s n : Nat) (h : H4) (bM base : Nat) (fs : List Fr) (e : Nat) (X : Nat → ByteArray) (ao : Option Addr) (cap : Nat) (w : World) (F G : Foot) : Prop where
  put : ∃ W, PutAt v s n h fs e W w F G ∧ SecsAre W n X
  made : w.heap[bM]? = some (.cells (madeA h (.slice ao fs.length cap) e X) 51)
  list : LAt w ao cap fs
  fF : ∀ i, F i → base ≤ i
  fG : ∀ i, G i → base ≤ i
  mb : base ≤ bM ∧ ¬ F bM ∧ ¬ G bM
  lb : ∀ a, ao = some a → base ≤ a.block ∧ ¬ F a.block ∧ ¬ G a.block ∧ a.block ≠ bM
theorem PutAt.there {v s n : Nat} {h : H4} {fs : List Fr} {e : Nat} {W : List (Nat × List UInt8)} {w : World} {F G : Foot} (P : PutAt v s n h fs e W w F G) : (∀ i, F i → i < w.heap.size) ∧ ∀ i, G i → i < w.heap.size := ⟨ViewIs.there P.1, SegIs.there P.2.1⟩
theorem PutAt.stays {v s n : Nat} {h : H4} {fs : List Fr} {e : Nat} {W : List (Nat × List UInt8)} {w w' : World} {F G S : Foot} (P : PutAt v s n h fs e W w F G) (hU : Upd S w w') (hF : ∀ i, F i → ¬ S i) (hG : ∀ i, G i → ¬ S i) : PutAt v s n h fs e W w' F G :=
  ⟨ViewIs.stays P.1 hU hF, SegIs.stays P.2.1 hU hG, P.2.2.1, P.2.2.2.1, P.2.2.2.2⟩
theorem PutsRel.below {v s n : Nat} {h : H4} {bM base : Nat} {fs : List Fr} {e : Nat} {X : Nat → ByteArray} {ao : Option Addr} {cap : Nat} {w w' : World} {F G : Foot} (R : PutsRel v s n h bM base fs e X ao cap w F G) (hb : Below w.heap.size w w') : PutsRel v s n h bM base fs e X ao cap w' F G := by
  obtain ⟨W, P, hX⟩ := R.put
  exact ⟨⟨W, P.below hb, hX⟩, later_of R.made hb, R.list.below hb, R.fF, R.fG, R.mb, R.lb⟩
/-- Behind an Append of the program's: the segment by value as it was. -/
structure HalfRel (v s n : Nat) (h : H4) (bM base : Nat) (fs0 fs : List Fr) (e0 e : Nat) (X0 X : Nat → ByteArray) (ao : Option Addr) (cap : Nat) (w : World) (F G : Foot) : Prop where
  put : ∃ W, PutAt v s n h fs e W w F G ∧ SecsAre W n X
  made : w.heap[bM]? = some (.cells (madeA h (.slice ao fs0.length cap) e0 X0) 51)
  list : LAt w ao cap fs0
  fF : ∀ i, F i → base ≤ i
  fG : ∀ i, G i → base ≤ i
  mb : base ≤ bM ∧ ¬ F bM ∧ ¬ G bM
  lb : ∀ a, ao = some a → base ≤ a.block ∧ ¬ F a.block ∧ ¬ G a.block ∧ a.block ≠ bM
theorem HalfRel.below {v s n : Nat} {h : H4} {bM base : Nat} {fs0 fs : List Fr} {e0 e : Nat} {X0 X : Nat → ByteArray} {ao : Option Addr} {cap : Nat} {w w' : World} {F G : Foot} (R : HalfRel v s n h bM base fs0 fs e0 e X0 X ao cap w F G) (hb : Below w.heap.size w w') : HalfRel v s n h bM base fs0 fs e0 e X0 X ao cap w' F G := by
  obtain ⟨W, P, hX⟩ := R.put
  exact ⟨⟨W, P.below hb, hX⟩, later_of R.made hb, R.list.below hb, R.fF, R.fG, R.mb, R.lb⟩
theorem PutsRel.half {v s n : Nat} {h : H4} {bM base : Nat} {fs : List Fr} {e : Nat} {X : Nat → ByteArray} {ao : Option Addr} {cap : Nat} {w w' : World} {F G F' G' : Foot} (R : PutsRel v s n h bM base fs e X ao cap w F G) {fs' : List Fr} {e' : Nat} {W' : List (Nat × List UInt8)} {X' : Nat → ByteArray} (P : PutAt v s n h fs' e' W' w' F' G') (hX : SecsAre W' n X') (hU : Upd (Both F G) w w') (hF : Fresh w F F') (hG : Fresh w G G') : HalfRel v s n h bM base fs fs' e e' X X' ao cap w' F' G' := by
  have hMl := lt_of R.made
  have hal := R.list.lt
  refine ⟨⟨W', P, hX⟩, hU.at_ R.made (fun hc => hc.elim R.mb.2.1 R.mb.2.2), R.list.keep hU (fun a ha hc => hc.elim (R.lb a ha).2.1 (R.lb a ha).2.2.1), fun i hi => ?_, fun i hi => ?_, ⟨R.mb.1, fun hc => ?_, fun hc => ?_⟩, fun a ha => ⟨(R.lb a ha).1, fun hc => ?_, fun hc => ?_, (R.lb a ha).2.2.2⟩⟩
  · rcases hF i hi with hh | hh
    · exact R.fF i hh
    · have := R.mb.1; omega
  · rcases hG i hi with hh | hh
    · exact R.fG i hh
    · have := R.mb.1; omega
  · rcases hF _ hc with hh | hh
    · exact R.mb.2.1 hh
    · omega
  · rcases hG _ hc with hh | hh
    · exact R.mb.2.2 hh
    · omega
  · rcases hF _ hc with hh | hh
    · exact (R.lb a ha).2.1 hh
    · have := hal a ha; omega
  · rcases hG _ hc with hh | hh
    · exact (R.lb a ha).2.2.1 hh
    · have := hal a ha; omega
/-- The segment by value is what came of it. -/
theorem HalfRel.whole {v s n : Nat} {h : H4} {bM base : Nat} {fs0 fs : List Fr} {e0 e : Nat} {X0 X : Nat → ByteArray} {ao ao' : Option Addr} {cap cap' : Nat} {w : World} {F G : Foot} (R : HalfRel v s n h bM base fs0 fs e0 e X0 X ao cap w F G) (hL : LAt w ao' cap' fs) (hb : ∀ a, ao' = some a → base ≤ a.block ∧ ¬ F a.block ∧ ¬ G a.block ∧ a.block ≠ bM) : PutsRel v s n h bM base fs e X ao' cap' (w.setRow bM (madeA h (.slice ao' fs.length cap') e X)) F G := by
  obtain ⟨W, P, hX⟩ := R.put
  have hU : Upd (fun i => i = bM) w (w.setRow bM (madeA h (.slice ao' fs.length cap') e X)) := (Upd.refl (fun i => i = bM) w).setRow (fun _ => rfl) _
  exact ⟨⟨W, P.stays hU (fun i hi e => R.mb.2.1 (e ▸ hi)) (fun i hi e => R.mb.2.2 (e ▸ hi)), hX⟩, row_set R.made _, hL.keep hU (fun a ha e => (hb a ha).2.2.2 e), R.fF, R.fG, R.mb, hb⟩
/-- What the reference makes of the same frame. -/
def RefStep (h : H4) (fs : List Fr) (e : Nat) (X : Nat → ByteArray) (k : Int) (p : ByteArray) (fs' : List Fr) (e' : Nat) (X' : Nat → ByteArray) (at_ er : Int) : Prop :=
  ∀ (w : World) (ao : Option Addr) (cap : Nat), LAt w ao cap fs → Calls Try.prog 28 #[.agg (madeA h (.slice ao fs.length cap) e X), frV k p] w fun x w' => ∃ (ao' : Option Addr) (cap' : Nat),
    x = .returned (.agg (apA h (.slice ao' fs'.length cap') e' X' at_ er)) ∧ LAt w' ao' cap' fs' ∧ (∀ a, ao' = some a → ao = some a ∨ w.heap.size ≤ a.block) ∧ Below w.heap.size w w'
theorem puts_step {v s n : Nat} {h : H4} {bM base : Nat} {fs : List Fr} {e : Nat} {X : Nat → ByteArray} {ao : Option Addr} {cap : Nat} {w : World} {F G : Foot} (R : PutsRel v s n h bM base fs e X ao cap w F G) (hf : HFits h) (hn : n < 2) (k : Int) (p : ByteArray) :
    Calls Try.prog 34 #[.pointer (some ⟨s, 0, none⟩), frV k p] w fun x w' => ∃ (fs' : List Fr) (e' : Nat) (X' : Nat → ByteArray) (at_ er : Int) (F' G' : Foot), x = .returned (.tuple #[.int .i64 at_, .int .i64 er]) ∧
      HalfRel v s n h bM base fs fs' e e' X X' ao cap w' F' G' ∧ RefStep h fs e X k p fs' e' X' at_ er ∧ fs'.length ≤ fs.length + 1 ∧ Upd (Both F G) w w' := by
  obtain ⟨W, P, hX⟩ := R.put
  have I := P.2.2.2.1
  have he1 := I.e1
  have he2 := I.e16
  have hl := I.runs.le
  rcases put_or_no k p e with ⟨er, hno⟩ | ⟨K, rfl, h1, h2, h3, h4⟩
  · refine (puts_no P hf hn k p er hno).mono ?_
    rintro x w' ⟨hx, hb⟩
    have R' := R.below hb
    obtain ⟨W', P', hX'⟩ := R'.put
    refine ⟨fs, e, X, 0, er, F, G, hx, ⟨⟨W', P', hX'⟩, R'.made, R'.list, R'.fF, R'.fG, R'.mb, R'.lb⟩, fun w2 ao2 cap2 hL => ?_, by omega, Upd.of_below hb⟩
    refine (rappend_no h hf.2.2.2.1 ao2 fs.length cap2 e X he1 he2 k p er hno w2).mono ?_
    rintro x w3 ⟨hx3, hb3⟩
    exact ⟨ao2, cap2, hx3, hL.below hb3, fun a ha => .inl ha, hb3⟩
  · refine (puts_go P hf hn K p h1 h2 h3 h4).mono ?_
    rintro x w' ⟨hx, F', G', P', hU, hF, hG⟩
    refine ⟨fs ++ [((K : Int), p)], e + many (7 + p.size), putS X h.2.2.1 (fs.length + 2) e (frP h.2.2.1 e K p), e, 0, F', G', hx, R.half P' (secs_put hX _ _ _ _) hU hF hG, fun w2 ao2 cap2 hL => ?_, by simp, hU⟩
    refine (rappend_go h hf.2.2.2.1 ao2 cap2 e X fs he1 he2 (by omega) K p h1 h2 h3 h4 hL).mono ?_
    rintro x w3 ⟨ao', cap', hx3, hL3, hao, hb3⟩
    exact ⟨ao', cap', by rw [List.length_append]; exact hx3, hL3, fun a ha => .inr (hao a ha), hb3⟩
end Go.Proofs.Ytoabdpobpmbckaa.Print
