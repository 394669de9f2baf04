/- view: Flush. -/
import Derived.Test.YtemdhcocbjcklaaFlush
namespace Go.Proofs.Ytemdhcocbjcklaa.Print
open Go.RowKit

theorem alloc1 (w : World) (a : Value) (ta : TypeId) : Below w.heap.size w (w.alloc (.cells #[a] ta)) ∧ (w.alloc (.cells #[a] ta)).cell? ⟨w.heap.size, 0, none⟩ = some a ∧ (w.alloc (.cells #[a] ta)).heap.size = w.heap.size + 1 := by
  refine ⟨(Below.refl _ _).alloc (Nat.le_refl _) _, ?_, by simp⟩
  rw [cell_of (alloc_at w _)]; rfl
/-- Not the view's block. -/
theorem VAt.disk_ne {w : World} {v d lb : Nat} {wv : Value} {lies : List (List UInt8)} {waits : List (Nat × List UInt8)} {f n : Nat} {fu : Int} {dead : Bool} (V : VAt w v d lb wv lies waits f n fu dead) : ∀ i, DiskFoot d lb wv i → ¬ i = v := by
  rintro i hi rfl
  rcases hi with h | h | h
  · exact V.vd h
  · exact V.vl h
  · exact V.vw h
/-- Behind a step: the view counted. -/
theorem VAt.stepped {w w1 : World} {v d lb : Nat} {wv : Value} {lies : List (List UInt8)} {waits : List (Nat × List UInt8)} {f n : Nat} {fu : Int} {dead : Bool} (V : VAt w v d lb wv lies waits f n fu dead) (hU : Upd (fun i => i = v) w w1) (hV : ViewAt w1 v d f n (burn fu) false) :
    VAt w1 v d lb wv lies waits f n (burn fu) false :=
  ⟨hV, V.disk_.keep hU V.disk_ne, V.vd, V.vl, V.vw, V.fn, (burn_le fu V.fu1 V.fu2).1, (burn_le fu V.fu1 V.fu2).2⟩
/-- A view whose disk was turned. -/
theorem VAt.turned {w w0 w1 w' : World} {v d lb : Nat} {wv : Value} {lies lies' : List (List UInt8)} {waits waits' waits0 : List (Nat × List UInt8)} {f n : Nat} {fu fu0 : Int} {dead dead0 : Bool} (V0 : VAt w v d lb wv lies waits0 f n fu0 dead0) (V : VAt w1 v d lb wv lies waits f n fu dead) (hU1 : Upd (VFoot v d lb wv) w w0) (hU : Upd (fun i => i = v) w0 w1)
    (hl : lies'.length = lies.length) (h : DWrote w1 d lb wv lies' waits' w') : VPost w v d lb wv lies' waits' f n fu dead w' := by
  obtain ⟨wv', D', U', hw'⟩ := h
  refine ⟨wv', ⟨?_, D', V.vd, V.vl, ?_, by rw [hl]; exact V.fn, V.fu1, V.fu2⟩, ?_, ?_⟩
  · obtain ⟨st', hV'⟩ := V.view_
    exact ⟨st', U'.at_ hV' (fun h => V.disk_ne v h rfl)⟩
  · intro e
    rcases hw' v e with h | h
    · exact V.vw h
    · have := V0.lt v (.inl rfl); have := hU.size; have := hU1.size; omega
  · exact (hU1.trans hU (fun i _ e => .inl e)).trans U' (fun i _ h => .inr h)
  · intro i hi
    rcases hw' i hi with h | h
    · exact .inl h
    · have := hU.size; have := hU1.size; exact .inr (by omega)
/-- A view whose fuse has burnt. -/
theorem VAt.died {w w0 : World} {v d lb : Nat} {wv : Value} {lies : List (List UInt8)} {waits : List (Nat × List UInt8)} {f n : Nat} {fu st : Int} {dead : Bool} (V : VAt w0 v d lb wv lies waits f n fu dead) (hv : w0.heap[v]? = some (viewObj d f n fu st dead)) (hU1 : Upd (VFoot v d lb wv) w w0) :
    VPost w v d lb wv lies waits f n fu true (w0.setCell ⟨v, 5, none⟩ (.bool true)) :=
  ⟨wv, ⟨⟨st, (viewObj_set (fu' := 0) (st' := 0) hv).2.2⟩, V.disk_.keep ((Upd.refl (fun i => i = v) w0).setCell (p := ⟨v, 5, none⟩) (fun _ => rfl) _) V.disk_ne, V.vd, V.vl, V.vw, V.fn, V.fu1, V.fu2⟩, hU1.setCell (p := ⟨v, 5, none⟩) (fun _ => .inl rfl) _, fun _ hi => .inl hi⟩
set_option maxRecDepth 100000 in
set_option maxHeartbeats 400000 in
theorem vclose_flush {w : World} {v d lb : Nat} {wv : Value} {lies : List (List UInt8)} {waits : List (Nat × List UInt8)} {f n : Nat} {fu : Int} {dead : Bool} (V : VAt w v d lb wv lies waits f n fu dead)
    (b0 : Nat) (hn : waits.length ≤ 1000000000) (g0 : w.cell? ⟨b0, 0, none⟩ = some (.pointer (some ⟨v, 0, none⟩))) :
    Calls Try.prog 98 #[.pointer (some ⟨b0, 0, none⟩)] w fun x w' => x = .returned (.int .i64 0) ∧ DWrote w d lb wv (landed lies (waits.filter (inSpan f n))) (waits.filter (fun x => !inSpan f n x)) w' := by
  obtain ⟨st, hv⟩ := V.view_
  obtain ⟨c0, c1, c2, c3, c4, c5, hf⟩ := six_of' hv
  have hD : Calls Try.prog 99 #[.pointer (some ⟨d, 0, none⟩), .int .i64 f, .int .i64 n] w.drew fun x w' => x = .returned (.int .i64 0) ∧ DWrote w d lb wv (landed lies (waits.filter (inSpan f n))) (waits.filter (fun x => !inSpan f n x)) w' := by
    have hU : Upd (fun _ => False) w w.drew := (Upd.refl _ _).drew
    exact (flush_any (V.disk_.keep hU (fun _ _ h => h)) f n V.fn hn).mono fun x w' ⟨hx, wv', D', U, hw⟩ => ⟨hx, wv', D', ⟨U.os, U.tape, U.output, U.size, U.other⟩, hw⟩
  have H := Lib.hid hD
  clear hD hv
  go_enter Try.func98, Try.ntmps98
  go_wp2_with fail
  go_still_tail 12, (by kernel_rfl)
  go_wp2_with fail
  refine H.out.mono ?_
  rintro x w' ⟨rfl, hw⟩
  go_wp2
  go_ret
  exact ⟨rfl, hw⟩
theorem callFlush (caps : Array Value) (w : World) : (callFunc 98 caps).run Try.prog w = .ok (.enter 98 caps) w := by kernel_rfl
theorem vflush_nil (w : World) : Calls Try.prog 81 #[.pointer none] w fun x w' => x = .returned (.int .i64 7) ∧ Below w.heap.size w w' := by
  go_enter Try.func81, Try.ntmps81
  go_wp2
  go_ret
  exact ⟨rfl, (Below.refl _ _).alloc (Nat.le_refl _) _⟩
set_option maxRecDepth 100000 in
set_option maxHeartbeats 400000 in
theorem vflush_dead {w : World} {v d lb : Nat} {wv : Value} {lies : List (List UInt8)} {waits : List (Nat × List UInt8)} {f n : Nat} {fu : Int} {dead : Bool} (V : VAt w v d lb wv lies waits f n fu dead) (hdead : fu = 0 ∨ dead = true) :
    Calls Try.prog 81 #[.pointer (some ⟨v, 0, none⟩)] w fun x w' => x = .returned (.int .i64 21) ∧ VPost w v d lb wv lies waits f n fu true w' := by
  obtain ⟨hB, a0, hz⟩ := alloc1 w (.pointer (some ⟨v, 0, none⟩)) 101
  have V1 := V.below hB
  have hU1 : Upd (VFoot v d lb wv) w _ := Upd.of_below hB
  generalize hW : w.alloc (.cells #[.pointer (some ⟨v, 0, none⟩)] 101) = W at hB a0 hz V1 hU1
  obtain ⟨st, hv⟩ := V1.view_
  have HW := Lib.hid hW
  clear hW
  have hs : ∀ c, Calls Try.prog 77 #[.pointer (some ⟨v, 0, none⟩), c] W fun x w' => x = .returned (.int .i64 21) ∧ VPost w v d lb wv lies waits f n fu true w' := by
    intro c
    by_cases h0 : fu = 0
    · subst h0
      exact (step_dead0 hv c).mono fun x w' ⟨hx, hw⟩ => ⟨hx, by subst hw; exact V1.died hv hU1⟩
    · obtain rfl : dead = true := hdead.resolve_left h0
      exact (step_dead1 hv h0 c).mono fun x w' ⟨hx, hw⟩ => ⟨hx, by subst hw; exact ⟨wv, V1, hU1, fun _ hi => .inl hi⟩⟩
  have H := Lib.hid hs
  clear hs
  go_enter Try.func81, Try.ntmps81
  go_wp2_with fail
  rw [HW.out]
  refine (H.out _).mono ?_
  rintro x w1 ⟨rfl, hw⟩
  go_wp2
  go_ret
  exact ⟨rfl, hw⟩
set_option maxRecDepth 100000 in
set_option maxHeartbeats 400000 in
theorem vflush_ok {w : World} {v d lb : Nat} {wv : Value} {lies : List (List UInt8)} {waits : List (Nat × List UInt8)} {f n : Nat} {fu : Int} (V : VAt w v d lb wv lies waits f n fu false) (h0 : fu ≠ 0) (hn : waits.length ≤ 1000000000) :
    Calls Try.prog 81 #[.pointer (some ⟨v, 0, none⟩)] w fun x w' => x = .returned (.int .i64 0) ∧ VPost w v d lb wv (landed lies (waits.filter (inSpan f n))) (waits.filter (fun x => !inSpan f n x)) f n (burn fu) false w' := by
  obtain ⟨hB, a0, hz⟩ := alloc1 w (.pointer (some ⟨v, 0, none⟩)) 101
  have V1 := V.below hB
  have hU1 : Upd (VFoot v d lb wv) w _ := Upd.of_below hB
  generalize hW : w.alloc (.cells #[.pointer (some ⟨v, 0, none⟩)] 101) = W at hB a0 hz V1 hU1
  obtain ⟨st, hv⟩ := V1.view_
  have HW := Lib.hid hW
  clear hW
  have hvlt : v < w.heap.size := V.lt v (.inl rfl)
  have hst := step_go hv h0 V.fu1 V.fu2 98 #[.pointer (some ⟨w.heap.size, 0, none⟩)] (callFlush _) 0
    (fun w' => VPost w v d lb wv (landed lies (waits.filter (inSpan f n))) (waits.filter (fun x => !inSpan f n x)) f n (burn fu) false w') (by
      intro w1 hU hV
      have V2 := V1.stepped hU hV
      have e0 := (World.cell?_of_block (a := ⟨w.heap.size, 0, none⟩) (hU.other w.heap.size (by omega) (by omega))).trans a0
      exact (vclose_flush V2 _ hn e0).mono fun x w' ⟨hx, hD⟩ => ⟨hx, V.turned V2 hU1 hU (landed_length _ _) hD⟩)
  have HS := Lib.hid hst
  clear hst
  go_enter Try.func81, Try.ntmps81
  go_wp2_with fail
  rw [HW.out]
  refine HS.out.mono ?_
  rintro x w' ⟨rfl, hw⟩
  go_wp2
  go_ret
  exact ⟨rfl, hw⟩
end Go.Proofs.Ytemdhcocbjcklaa.Print
