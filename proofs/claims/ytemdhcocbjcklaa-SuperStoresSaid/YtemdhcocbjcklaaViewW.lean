/- view: Write, Read, Flush through the closures. -/
import Derived.Test.YtemdhcocbjcklaaView
namespace Go.Proofs.Ytemdhcocbjcklaa.Print
open Go.RowKit

/-- A view on a disk, in memory. -/
structure VAt (w : World) (v d lb : Nat) (wv : Value) (lies : List (List UInt8)) (waits : List (Nat × List UInt8)) (f n : Nat) (fu : Int) (dead : Bool) : Prop where
  view_ : ViewAt w v d f n fu dead
  disk_ : DiskAt w d lb wv lies waits
  vd : v ≠ d
  vl : v ≠ lb
  vw : wv.ownBlock ≠ some v
  fn : f + n ≤ lies.length
  fu1 : -1 ≤ fu
  fu2 : fu ≤ 9223372036854775807
def VFoot (v d lb : Nat) (wv : Value) (i : Nat) : Prop := i = v ∨ DiskFoot d lb wv i
/-- What becomes of a view. -/
def VPost (w : World) (v d lb : Nat) (wv : Value) (lies : List (List UInt8)) (waits : List (Nat × List UInt8)) (f n : Nat) (fu : Int) (dead : Bool) (w' : World) : Prop :=
  ∃ wv', VAt w' v d lb wv' lies waits f n fu dead ∧ Upd (VFoot v d lb wv) w w' ∧ ∀ i, wv'.ownBlock = some i → wv.ownBlock = some i ∨ w.heap.size ≤ i
theorem VAt.lt {w : World} {v d lb : Nat} {wv : Value} {lies : List (List UInt8)} {waits : List (Nat × List UInt8)} {f n : Nat} {fu : Int} {dead : Bool} (V : VAt w v d lb wv lies waits f n fu dead) : ∀ i, VFoot v d lb wv i → i < w.heap.size := by
  rintro i (rfl | h)
  · obtain ⟨st, h⟩ := V.view_; exact lt_of h
  · exact V.disk_.lt i h
theorem VAt.keep {S : Nat → Prop} {w w1 : World} {v d lb : Nat} {wv : Value} {lies : List (List UInt8)} {waits : List (Nat × List UInt8)} {f n : Nat} {fu : Int} {dead : Bool} (V : VAt w v d lb wv lies waits f n fu dead) (h : Upd S w w1) (hn : ∀ i, VFoot v d lb wv i → ¬ S i) : VAt w1 v d lb wv lies waits f n fu dead :=
  ⟨let ⟨st, hs⟩ := V.view_; ⟨st, h.at_ hs (hn v (.inl rfl))⟩, V.disk_.keep h (fun i hi => hn i (.inr hi)), V.vd, V.vl, V.vw, V.fn, V.fu1, V.fu2⟩
theorem VAt.below {w w1 : World} {v d lb : Nat} {wv : Value} {lies : List (List UInt8)} {waits : List (Nat × List UInt8)} {f n : Nat} {fu : Int} {dead : Bool} (V : VAt w v d lb wv lies waits f n fu dead) (h : Below w.heap.size w w1) : VAt w1 v d lb wv lies waits f n fu dead :=
  V.keep (S := fun _ => False) (Upd.of_below h) (fun _ _ h => h)
theorem VPost.trans {w w1 w2 : World} {v d lb : Nat} {wv wv1 : Value} {lies : List (List UInt8)} {waits : List (Nat × List UInt8)} {f n : Nat} {fu : Int} {dead : Bool}
    (h : Upd (VFoot v d lb wv) w w1) (hw : ∀ i, wv1.ownBlock = some i → wv.ownBlock = some i ∨ w.heap.size ≤ i) (k : VPost w1 v d lb wv1 lies waits f n fu dead w2) : VPost w v d lb wv lies waits f n fu dead w2 := by
  obtain ⟨wv', V, U, hv⟩ := k
  refine ⟨wv', V, h.trans U ?_, ?_⟩
  · rintro i hi (rfl | rfl | rfl | hb)
    · exact .inl rfl
    · exact .inr (.inl rfl)
    · exact .inr (.inr (.inl rfl))
    · rcases hw i hb with e | e
      · exact .inr (.inr (.inr e))
      · omega
  · intro i hi
    rcases hv i hi with e | e
    · exact hw i e
    · have := h.size; exact .inr (by omega)

set_option maxRecDepth 100000 in
set_option maxHeartbeats 400000 in
theorem vclose_write {w : World} {v d lb : Nat} {wv : Value} {lies : List (List UInt8)} {waits : List (Nat × List UInt8)} {f n : Nat} {fu : Int} {dead : Bool} (V : VAt w v d lb wv lies waits f n fu dead)
    (b0 b1 b2 k : Nat) (s : ByteArray) (hk : k < n) (hs : s.size = 64) (hn : waits.length ≤ 1000000000) (g0 : w.cell? ⟨b0, 0, none⟩ = some (.pointer (some ⟨v, 0, none⟩))) (g1 : w.cell? ⟨b1, 0, none⟩ = some (.int .i64 k)) (g2 : w.cell? ⟨b2, 0, none⟩ = some (.string s)) :
    Calls Try.prog 78 #[.pointer (some ⟨b0, 0, none⟩), .pointer (some ⟨b1, 0, none⟩), .pointer (some ⟨b2, 0, none⟩)] w fun x w' => x = .returned (.int .i64 0) ∧ DWrote w d lb wv lies (waits ++ [(f + k, s.data.toList)]) w' := by
  obtain ⟨st, hv⟩ := V.view_
  obtain ⟨c0, c1, c2, c3, c4, c5, hf⟩ := six_of' hv
  have hfn := V.fn
  have n2 := V.disk_.n2
  have k2 : IntKind.i64.wrap ((f : Int) + (k : Int)) = ((f + k : Nat) : Int) := by rw [IntKind.wrap_i64]; omega
  have hD : Calls Try.prog 79 #[.pointer (some ⟨d, 0, none⟩), .int .i64 ((f : Int) + (k : Int)), .string s] w.drew fun x w' => x = .returned (.int .i64 0) ∧ DWrote w d lb wv lies (waits ++ [(f + k, s.data.toList)]) w' := by
    have hU : Upd (fun _ => False) w w.drew := (Upd.refl _ _).drew
    have hD' := V.disk_.keep hU (fun _ _ h => h)
    exact (dwrite_any hD' (f + k) (by omega) s hs hn).mono fun x w' ⟨hx, wv', D', U, hw⟩ => ⟨hx, wv', D', ⟨U.os, U.tape, U.output, U.size, U.other⟩, hw⟩
  have H := Lib.hid hD
  clear hD hv
  go_enter Try.func78, Try.ntmps78
  go_wp2_with fail
  go_still_tail 11, (by kernel_rfl)
  go_wp2_with fail
  refine H.out.mono ?_
  rintro x w' ⟨rfl, hw⟩
  go_wp2
  go_ret
  exact ⟨rfl, hw⟩

theorem vwrite_nil (k : Int) (s : ByteArray) (w : World) : Calls Try.prog 48 #[.pointer none, .int .i64 k, .string s] w fun x w' => x = .returned (.int .i64 7) ∧ Below w.heap.size w w' := by
  go_enter Try.func48, Try.ntmps48
  go_wp2
  go_ret
  exact ⟨rfl, (((Below.refl _ _).alloc (Nat.le_refl _) _).alloc (by simp) _).alloc (by simp; omega) _⟩
theorem alloc3 (w : World) (a b c : Value) (ta tb tc : TypeId) : Below w.heap.size w (((w.alloc (.cells #[a] ta)).alloc (.cells #[b] tb)).alloc (.cells #[c] tc)) ∧
    (((w.alloc (.cells #[a] ta)).alloc (.cells #[b] tb)).alloc (.cells #[c] tc)).cell? ⟨w.heap.size, 0, none⟩ = some a ∧ (((w.alloc (.cells #[a] ta)).alloc (.cells #[b] tb)).alloc (.cells #[c] tc)).cell? ⟨w.heap.size + 1, 0, none⟩ = some b ∧
    (((w.alloc (.cells #[a] ta)).alloc (.cells #[b] tb)).alloc (.cells #[c] tc)).cell? ⟨w.heap.size + 2, 0, none⟩ = some c ∧ (((w.alloc (.cells #[a] ta)).alloc (.cells #[b] tb)).alloc (.cells #[c] tc)).heap.size = w.heap.size + 3 := by
  refine ⟨(((Below.refl _ _).alloc (Nat.le_refl _) _).alloc (by simp) _).alloc (by simp; omega) _, ?_, ?_, ?_, by simp⟩
  · rw [cell_of (alloc_old (alloc_old (alloc_at w _) _) _)]; rfl
  · rw [cell_of (alloc_old (alloc_at' (w.alloc (.cells #[a] ta)) _ _ (by simp)) _)]; rfl
  · rw [cell_of (alloc_at' ((w.alloc (.cells #[a] ta)).alloc (.cells #[b] tb)) _ _ (by simp))]; rfl
set_option maxRecDepth 100000 in
set_option maxHeartbeats 400000 in
theorem vwrite_dead {w : World} {v d lb : Nat} {wv : Value} {lies : List (List UInt8)} {waits : List (Nat × List UInt8)} {f n : Nat} {fu : Int} {dead : Bool} (V : VAt w v d lb wv lies waits f n fu dead)
    (hdead : fu = 0 ∨ dead = true) (k : Nat) (s : ByteArray) (hk : k < n) (hs : s.size = 64) :
    Calls Try.prog 48 #[.pointer (some ⟨v, 0, none⟩), .int .i64 k, .string s] w fun x w' => x = .returned (.int .i64 21) ∧ VPost w v d lb wv lies waits f n fu true w' := by
  obtain ⟨hB, a0, a1, a2, hz⟩ := alloc3 w (.pointer (some ⟨v, 0, none⟩)) (.int .i64 k) (.string s) 101 3 9
  have V1 := V.below hB
  have kd : decide ((s.size : Int) = 64) = true := by simp; omega
  have hU1 : Upd (VFoot v d lb wv) w _ := Upd.of_below hB
  generalize hW : ((w.alloc (.cells #[.pointer (some ⟨v, 0, none⟩)] 101)).alloc (.cells #[.int .i64 k] 3)).alloc (.cells #[.string s] 9) = W at hB a0 a1 a2 hz V1 hU1
  obtain ⟨st, hv⟩ := V1.view_
  have HW := Lib.hid hW
  clear hW
  have hk' : (k : Int) < n := by omega
  go_enter Try.func48, Try.ntmps48
  go_wp2_with fail
  rw [HW.out]
  refine (vis_yes hv k (by omega) hk').mono ?_
  rintro x w1 ⟨rfl, rfl⟩
  by_cases h0 : fu = 0
  · subst h0
    have hs0 := step_dead0 hv (.func (.func 78) #[] #[.pointer (some ⟨w.heap.size, 0, none⟩), .pointer (some ⟨w.heap.size + 1, 0, none⟩), .pointer (some ⟨w.heap.size + 2, 0, none⟩)])
    go_wp2_with fail
    refine hs0.mono ?_
    rintro x w1 ⟨rfl, rfl⟩
    go_wp2
    go_ret
    refine ⟨rfl, wv, ⟨⟨st, (viewObj_set (fu' := 0) (st' := 0) hv).2.2⟩, V1.disk_.keep ((Upd.refl (fun i => i = v) W).setCell (p := ⟨v, 5, none⟩) (fun _ => rfl) _) ?_, V.vd, V.vl, V.vw, V.fn, V.fu1, V.fu2⟩, hU1.setCell (p := ⟨v, 5, none⟩) (fun _ => .inl rfl) _, fun i hi => .inl hi⟩
    rintro i hi rfl
    rcases hi with h | h | h
    · exact V.vd h
    · exact V.vl h
    · exact V.vw h
  · obtain rfl : dead = true := hdead.resolve_left h0
    have hs0 := step_dead1 hv h0 (.func (.func 78) #[] #[.pointer (some ⟨w.heap.size, 0, none⟩), .pointer (some ⟨w.heap.size + 1, 0, none⟩), .pointer (some ⟨w.heap.size + 2, 0, none⟩)])
    go_wp2_with fail
    refine hs0.mono ?_
    rintro x w1 ⟨rfl, rfl⟩
    go_wp2
    go_ret
    exact ⟨rfl, wv, V1, hU1, fun i hi => .inl hi⟩
set_option maxRecDepth 100000 in
set_option maxHeartbeats 400000 in
theorem vwrite_out {w : World} {v d lb : Nat} {wv : Value} {lies : List (List UInt8)} {waits : List (Nat × List UInt8)} {f n : Nat} {fu : Int} {dead : Bool} (V : VAt w v d lb wv lies waits f n fu dead)
    (k : Int) (s : ByteArray) (hk : k < 0 ∨ (n : Int) ≤ k) :
    Calls Try.prog 48 #[.pointer (some ⟨v, 0, none⟩), .int .i64 k, .string s] w fun x w' => x = .returned (.int .i64 20) ∧ Below w.heap.size w w' := by
  obtain ⟨hB, a0, a1, a2, hz⟩ := alloc3 w (.pointer (some ⟨v, 0, none⟩)) (.int .i64 k) (.string s) 101 3 9
  have V1 := V.below hB
  generalize hW : ((w.alloc (.cells #[.pointer (some ⟨v, 0, none⟩)] 101)).alloc (.cells #[.int .i64 k] 3)).alloc (.cells #[.string s] 9) = W at hB a0 a1 a2 hz V1
  obtain ⟨st, hv⟩ := V1.view_
  have HW := Lib.hid hW
  clear hW
  go_enter Try.func48, Try.ntmps48
  go_wp2_with fail
  rw [HW.out]
  refine (vis_no hv k hk).mono ?_
  rintro x w1 ⟨rfl, rfl⟩
  go_wp2
  go_ret
  exact ⟨rfl, hB⟩
theorem callWrite (caps : Array Value) (w : World) : (callFunc 78 caps).run Try.prog w = .ok (.enter 78 caps) w := by kernel_rfl
set_option maxRecDepth 100000 in
set_option maxHeartbeats 400000 in
theorem vwrite_ok {w : World} {v d lb : Nat} {wv : Value} {lies : List (List UInt8)} {waits : List (Nat × List UInt8)} {f n : Nat} {fu : Int} (V : VAt w v d lb wv lies waits f n fu false)
    (h0 : fu ≠ 0) (k : Nat) (s : ByteArray) (hk : k < n) (hs : s.size = 64) (hn : waits.length ≤ 1000000000) :
    Calls Try.prog 48 #[.pointer (some ⟨v, 0, none⟩), .int .i64 k, .string s] w fun x w' => x = .returned (.int .i64 0) ∧ VPost w v d lb wv lies (waits ++ [(f + k, s.data.toList)]) f n (burn fu) false w' := by
  obtain ⟨hB, a0, a1, a2, hz⟩ := alloc3 w (.pointer (some ⟨v, 0, none⟩)) (.int .i64 k) (.string s) 101 3 9
  have V1 := V.below hB
  have kd : decide ((s.size : Int) = 64) = true := by simp; omega
  have hU1 : Upd (VFoot v d lb wv) w _ := Upd.of_below hB
  generalize hW : ((w.alloc (.cells #[.pointer (some ⟨v, 0, none⟩)] 101)).alloc (.cells #[.int .i64 k] 3)).alloc (.cells #[.string s] 9) = W at hB a0 a1 a2 hz V1 hU1
  obtain ⟨st, hv⟩ := V1.view_
  have HW := Lib.hid hW
  clear hW
  have hk' : (k : Int) < n := by omega
  have hvlt : v < w.heap.size := V.lt v (.inl rfl)
  have hst := step_go hv h0 V.fu1 V.fu2 78 #[.pointer (some ⟨w.heap.size, 0, none⟩), .pointer (some ⟨w.heap.size + 1, 0, none⟩), .pointer (some ⟨w.heap.size + 2, 0, none⟩)] (callWrite _) 0
    (fun w' => VPost w v d lb wv lies (waits ++ [(f + k, s.data.toList)]) f n (burn fu) false w') (by
      intro w1 hU hV
      have hfu := V.fu1
      have hfu2 := V.fu2
      have V2 : VAt w1 v d lb wv lies waits f n (burn fu) false := ⟨hV, V1.disk_.keep hU (by
        rintro i hi rfl
        rcases hi with h | h | h
        · exact V.vd h
        · exact V.vl h
        · exact V.vw h), V.vd, V.vl, V.vw, V.fn, (burn_le fu hfu hfu2).1, (burn_le fu hfu hfu2).2⟩
      have e0 := (World.cell?_of_block (a := ⟨w.heap.size, 0, none⟩) (hU.other w.heap.size (by omega) (by omega))).trans a0
      have e1 := (World.cell?_of_block (a := ⟨w.heap.size + 1, 0, none⟩) (hU.other (w.heap.size + 1) (by omega) (by omega))).trans a1
      have e2 := (World.cell?_of_block (a := ⟨w.heap.size + 2, 0, none⟩) (hU.other (w.heap.size + 2) (by omega) (by omega))).trans a2
      refine (vclose_write V2 _ _ _ k s hk hs hn e0 e1 e2).mono fun x w' ⟨hx, wv', D', U', hw'⟩ => ⟨hx, wv', ⟨?_, D', V.vd, V.vl, ?_, V.fn, V2.fu1, V2.fu2⟩, ?_, ?_⟩
      · obtain ⟨st', hV'⟩ := V2.view_
        exact ⟨st', U'.at_ hV' (by
          rintro (h | h | h)
          · exact V.vd h
          · exact V.vl h
          · exact V.vw h)⟩
      · intro e
        rcases hw' v e with h | h
        · exact V.vw h
        · have := hU.size; omega
      · exact (hU1.trans hU (fun i _ e => .inl e)).trans U' (fun i _ h => .inr h)
      · intro i hi
        rcases hw' i hi with h | h
        · exact .inl h
        · have := hU.size; have := hB.size; exact .inr (by omega))
  have HS := Lib.hid hst
  clear hst
  go_enter Try.func48, Try.ntmps48
  go_wp2_with fail
  rw [HW.out]
  refine (vis_yes hv k (by omega) hk').mono ?_
  rintro x w1 ⟨rfl, rfl⟩
  go_wp2_with fail
  refine HS.out.mono ?_
  rintro x w' ⟨rfl, hw⟩
  go_wp2
  go_ret
  exact ⟨rfl, hw⟩
end Go.Proofs.Ytemdhcocbjcklaa.Print
