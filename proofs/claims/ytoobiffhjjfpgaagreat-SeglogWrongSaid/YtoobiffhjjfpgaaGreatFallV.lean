/- SegmentFalls: Flush, Fuse and Crash of a view whose blocks are letters; an Append while the power may go. -/
import Derived.Test.YtoobiffhjjfpgaaGreatFallP
import Derived.Test.YtoobiffhjjfpgaaGreatViewC
import Derived.Test.YtoobiffhjjfpgaaGreatStep
namespace Go.Proofs.YtoobiffhjjfpgaaGreat.Print
open Go.RowKit


/-- A segment that is being put into the law's view, while the power may go. -/
def FallAt (v s : Nat) (h : H4) (lies : List (List UInt8)) (e0 sure : Nat) (done : List Fr) (fu : Int) (dead : Bool) (w : World) (F G : Foot) : Prop :=
  ∃ (W : List (Nat × List UInt8)) (fs : List Fr) (e : Nat), ViewIs v lies W 1 34 fu dead w F ∧ SegIs s v 0 h fs e false w G ∧ Apart F G ∧ FallInv h lies W e0 sure fs e done dead
theorem FallAt.below {v s : Nat} {h : H4} {lies : List (List UInt8)} {e0 sure : Nat} {done : List Fr} {fu : Int} {dead : Bool} {w w' : World} {F G : Foot} (P : FallAt v s h lies e0 sure done fu dead w F G) (hb : Below w.heap.size w w') : FallAt v s h lies e0 sure done fu dead w' F G := by
  obtain ⟨W, fs, e, V, S, A, I⟩ := P
  exact ⟨W, fs, e, ViewIs.stays.below V hb, SegIs.stays.below S hb, A, I⟩
/-- An object as it becomes, and one that stands apart. -/
theorem seg_beside {w w' : World} {s v n : Nat} {h : H4} {fs : List Fr} {e : Nat} {sealed : Bool} {F F' G : Foot} (S : SegIs s v n h fs e sealed w G) (hA : Apart F G) (hU : Upd F w w') (hF : Fresh w F F') : SegIs s v n h fs e sealed w' G ∧ Apart F' G :=
  ⟨SegIs.stays S hU (fun i hi hc => hA i hc hi), fun i hi hg => by
    rcases hF i hi with hh | hh
    · exact hA i hh hg
    · have := SegIs.there S i hg; omega⟩
theorem fall_go {w : World} {v s : Nat} {h : H4} {lies : List (List UInt8)} {e0 sure : Nat} {done : List Fr} {fu : Int} {dead : Bool} {F G : Foot} (P : FallAt v s h lies e0 sure done fu dead w F G) (hf : HFits h) (k : Int) (p : ByteArray) :
    Calls Tryz.prog 77 #[.pointer (some ⟨s, 0, none⟩), frV k p] w fun x w' => ∃ (a er : Int) (fu' : Int) (dead' : Bool) (F' G' : Foot), x = .returned (.tuple #[.int .i64 a, .int .i64 er]) ∧
      FallAt v s h lies e0 sure (if er = 0 ∨ er = 21 then done ++ [(k, p)] else done) fu' dead' w' F' G' ∧ (dead = false → fu = -1 → fu' = -1 ∧ dead' = false) ∧ Upd (Both F G) w w' ∧ Fresh w F F' ∧ Fresh w G G' := by
  obtain ⟨W, fs, e, V, S, A, I⟩ := P
  have he1 := I.e1
  have he2 := I.e16
  have hfe := I.fe
  have hwl := I.wlen
  have hst := hf.2.2.2.1
  by_cases hw : wrongP k p.size = 0
  · have hk : 1 ≤ k ∧ k ≤ 255 ∧ p.size ≤ 773 := by
      unfold wrongP at hw
      by_cases h1 : k < 1 ∨ 255 < k
      · rw [if_pos h1] at hw; omega
      · rw [if_neg h1] at hw
        by_cases h2 : 773 < p.size
        · rw [if_pos h2] at hw; omega
        · omega
    obtain ⟨K, rfl⟩ := Int.eq_ofNat_of_zero_le (show 0 ≤ k by omega)
    refine (append_any V S A hst (by omega) (by omega) he1 he2 (by omega) (by omega) K p (by omega) (by omega) hk.2.2).mono ?_
    rintro x w' (⟨_, hx, hb⟩ | ⟨hfit, er, hx, j, fu', dead', F', G', hj, hV, hS, hU, hF, hG, hA, hc1, hc2, hc3⟩)
    · exact ⟨0, 5, fu, dead, F, G, hx, by rw [if_neg (by omega)]; exact FallAt.below ⟨W, fs, e, V, S, A, I⟩ hb, fun a b => ⟨b, a⟩, Upd.of_below hb, Fresh.refl _ _, Fresh.refl _ _⟩
    · rcases hc1 with ⟨rfl, rfl, rfl⟩ | ⟨rfl, rfl⟩
      · rw [if_pos rfl] at hx
        rw [if_pos rfl, if_pos rfl] at hS
        rw [List.take_of_length_le (by rw [frP_length]; exact Nat.le_refl _)] at hV
        have hdf : dead' = false := by
          cases hd : dead' with
          | false => rfl
          | true => have := (hc2 hd).2; omega
        subst hdf
        refine ⟨e, 0, fu', false, F', G', hx, ?_, fun a b => ⟨(hc3 a b).2, rfl⟩, hU, hF, hG⟩
        rw [if_pos (.inl rfl)]
        exact ⟨_, _, _, hV, hS, hA, fall_put I hst (by omega) (by omega) hk.2.2 hfit⟩
      · rw [if_neg (by omega)] at hx
        rw [if_neg (by omega), if_neg (by omega)] at hS
        refine ⟨0, 21, fu', true, F', G', hx, ?_, fun a b => by have := (hc3 a b).1; omega, hU, hF, hG⟩
        rw [if_pos (.inr rfl)]
        cases dead with
        | false => exact ⟨_, fs, e, hV, hS, hA, fall_torn I hst (by omega) (by omega) hk.2.2 hfit j⟩
        | true =>
          obtain ⟨rfl, _⟩ := hc2 rfl
          rw [List.take_zero, sealAt, List.append_nil] at hV
          exact ⟨W, fs, e, hV, hS, hA, fall_dead I _⟩
  · refine (append_wrong S k p he1 he2 hw).mono ?_
    rintro x w' ⟨hx, hb⟩
    have hne : ¬ (wrongP k p.size = 0 ∨ wrongP k p.size = 21) := by
      unfold wrongP at hw ⊢
      split
      · omega
      · split <;> omega
    exact ⟨0, wrongP k p.size, fu, dead, F, G, hx, by rw [if_neg hne]; exact FallAt.below ⟨W, fs, e, V, S, A, I⟩ hb, fun a b => ⟨b, a⟩, Upd.of_below hb, Fresh.refl _ _, Fresh.refl _ _⟩
/-- The segment, made over what is of other stamps. -/
theorem fall_new {w : World} {v : Nat} {lies : List (List UInt8)} {F : Foot} (V : ViewIs v lies [] 1 34 (-1) false w F) (hl : lies.length = 36) (h : H4) (hf : HFits h) (ho : ∀ k, k < 16 → Other h.2.2.1 (lies.getD (3 + k) [])) (i : Int) (hi : i = 0) :
    Calls Tryz.prog 115 #[.pointer (some ⟨v, 0, none⟩), .int .i64 i, hdV h.1 h.2.1 h.2.2.1 h.2.2.2] w fun x w' => ∃ (s : Nat) (F' G' : Foot), x = .returned (.tuple #[.pointer (some ⟨s, 0, none⟩), .int .i64 0]) ∧
      FallAt v s h lies 0 0 [] (-1) false w' F' G' ∧ Upd F w w' ∧ Fresh w F F' ∧ ∀ i, G' i → w.heap.size ≤ i := by
  refine (create_go V 0 h hf (by omega) (by omega) (by simp) i hi).mono ?_
  rintro x w' ⟨s, F', G', hx, hV, hS, hA, hU, hF, hG⟩
  exact ⟨s, F', G', hx, ⟨_, [], 1, hV, hS, hA, fall_create hf hl ho⟩, hU, hF, hG⟩
/-- Loaded. -/
theorem fall_load {w : World} {v : Nat} {lies : List (List UInt8)} {F : Foot} (V : ViewIs v lies [] 1 34 (-1) false w F) {h : H4} {gs : List Fr} (hh : headP (secO lies [] 1 0) = some h) (hg : (loopP (secO lies [] 1 0) h.2.2.1 16 [] 1).1 = gs) (i : Int) (hi : i = 0) :
    Calls Tryz.prog 82 #[.pointer (some ⟨v, 0, none⟩), .int .i64 i] w fun x w' => ∃ (t e : Nat) (T : Foot), x = .returned (.tuple #[.pointer (some ⟨t, 0, none⟩), .int .i64 0]) ∧ SegIs t v 0 h gs e true w' T ∧ Below w.heap.size w w' := by
  refine (load_any V 0 (by omega) (by omega) (by simp) i hi (secO lies [] 1 0) (fun _ => rfl)).mono ?_
  rintro x w' (⟨h0, _⟩ | ⟨h', t, G, h0, hx, hS, hb, _⟩)
  · rw [hh] at h0; cases h0
  · rw [hh] at h0
    cases h0
    rw [hg] at hS
    exact ⟨t, _, G, hx, hS, hb⟩
end Go.Proofs.YtoobiffhjjfpgaaGreat.Print
