/- view: a view's block; New, is, step, Read, Write, Fuse, Dead. view: Write, Read, Flush through the closures. disk: Read; view: Read. -/
import Derived.Test.YtoobiffhjjfpgaaGreatDisk
namespace Go.Proofs.YtoobiffhjjfpgaaGreat.Print
open Go.RowKit
/-- A view in memory. -/
abbrev viewObj (d : Nat) (from' n fuse steps : Int) (dead : Bool) : Obj := .cells #[.pointer (some ⟨d, 0, none⟩), .int .i64 from', .int .i64 n, .int .i64 fuse, .int .i64 steps, .bool dead] 147
theorem six_of' {w : World} {b : Nat} {c0 c1 c2 c3 c4 c5 : Value} {t : TypeId} (h : w.heap[b]? = some (.cells #[c0, c1, c2, c3, c4, c5] t)) :
    w.cell? ⟨b, 0, none⟩ = some c0 ∧ w.cell? ⟨b, 1, none⟩ = some c1 ∧ w.cell? ⟨b, 2, none⟩ = some c2 ∧ w.cell? ⟨b, 3, none⟩ = some c3 ∧ w.cell? ⟨b, 4, none⟩ = some c4 ∧ w.cell? ⟨b, 5, none⟩ = some c5 ∧
    (∀ o, w.frozen? ⟨b, o, none⟩ = false) :=
  ⟨by rw [cell_of h]; rfl, by rw [cell_of h]; rfl, by rw [cell_of h]; rfl, by rw [cell_of h]; rfl, by rw [cell_of h]; rfl, by rw [cell_of h]; rfl, free_of h⟩

theorem vnew_nil (f n : Int) (w : World) : Calls Tryz.prog 66 #[.pointer none, .int .i64 f, .int .i64 n] w fun x w' => x = .returned (.tuple #[.pointer none, .int .i64 7]) ∧ w = w' := by
  go_enter Tryz.func66, Tryz.ntmps66
  go_wp2
  go_ret2
  exact ⟨rfl, rfl⟩
theorem vnew_ok {w : World} {d lb m : Nat} {wv : Value} (h : w.heap[d]? = some (diskObj lb m wv)) (f n : Nat) (hn : 1 ≤ n) (hfn : f + n ≤ m) (hm : m ≤ 8192) :
    Calls Tryz.prog 66 #[.pointer (some ⟨d, 0, none⟩), .int .i64 f, .int .i64 n] w fun x w' => x = .returned (.tuple #[.pointer (some ⟨w.heap.size, 0, none⟩), .int .i64 0]) ∧ w' = w.alloc (viewObj d f n (-1) 0 false) := by
  have k1 : decide ((f : Int) < 0) = false := by simp
  have k2 : decide ((n : Int) < 1) = false := by simp; omega
  have k3 : decide ((m : Int) < (f : Int)) = false := by simp; omega
  have k4 : decide ((m : Int) - (f : Int) < (n : Int)) = false := by simp; omega
  have k5 : IntKind.i64.wrap ((m : Int) - (f : Int)) = (m : Int) - (f : Int) := by rw [IntKind.wrap_i64]; omega
  have hs := dsize_any h
  go_enter Tryz.func66, Tryz.ntmps66
  go_wp2_with fail
  refine hs.mono ?_
  rintro x w1 ⟨rfl, rfl⟩
  go_wp2_with fail
  refine hs.mono ?_
  rintro x w1 ⟨rfl, rfl⟩
  go_wp2
  go_ret2
  exact ⟨rfl, rfl⟩
theorem vis_any {w : World} {v d : Nat} {f n fu st : Int} {dead : Bool} (h : w.heap[v]? = some (viewObj d f n fu st dead)) (i : Int) :
    Calls Tryz.prog 152 #[.pointer (some ⟨v, 0, none⟩), .int .i64 i] w fun x w' => x = .returned (.bool (decide (0 ≤ i) && decide (i < n))) ∧ w = w' := by
  obtain ⟨c0, c1, c2, c3, c4, c5, hf⟩ := six_of' h
  by_cases h0 : 0 ≤ i
  · have k0 : decide (0 ≤ i) = true := by simpa using h0
    go_enter Tryz.func152, Tryz.ntmps152
    go_wp2
    go_ret
    exact ⟨by rw [k0, Bool.true_and]; rfl, rfl⟩
  · have k0 : decide (0 ≤ i) = false := by simpa using h0
    go_enter Tryz.func152, Tryz.ntmps152
    go_wp2
    go_ret
    exact ⟨rfl, rfl⟩
theorem vis_yes {w : World} {v d : Nat} {f n fu st : Int} {dead : Bool} (h : w.heap[v]? = some (viewObj d f n fu st dead)) (i : Int) (h0 : 0 ≤ i) (h1 : i < n) :
    Calls Tryz.prog 152 #[.pointer (some ⟨v, 0, none⟩), .int .i64 i] w fun x w' => x = .returned (.bool true) ∧ w = w' :=
  (vis_any h i).mono fun x w' ⟨a, b⟩ => ⟨by rw [a]; simp [h0, h1], b⟩
theorem vis_no {w : World} {v d : Nat} {f n fu st : Int} {dead : Bool} (h : w.heap[v]? = some (viewObj d f n fu st dead)) (i : Int) (h0 : i < 0 ∨ n ≤ i) :
    Calls Tryz.prog 152 #[.pointer (some ⟨v, 0, none⟩), .int .i64 i] w fun x w' => x = .returned (.bool false) ∧ w = w' :=
  (vis_any h i).mono fun x w' ⟨a, b⟩ => ⟨by rw [a]; simp; omega, b⟩
theorem vread_nil (i : Int) (w : World) : Calls Tryz.prog 135 #[.pointer none, .int .i64 i] w fun x w' => x = .returned (.tuple #[.string ⟨#[]⟩, .int .i64 7]) ∧ w = w' := by
  go_enter Tryz.func135, Tryz.ntmps135
  go_wp2
  go_ret2
  exact ⟨rfl, rfl⟩
theorem vread_out {w : World} {v d : Nat} {f n fu st : Int} {dead : Bool} (h : w.heap[v]? = some (viewObj d f n fu st dead)) (i : Int) (h0 : i < 0 ∨ n ≤ i) :
    Calls Tryz.prog 135 #[.pointer (some ⟨v, 0, none⟩), .int .i64 i] w fun x w' => x = .returned (.tuple #[.string ⟨#[]⟩, .int .i64 20]) ∧ w = w' := by
  go_enter Tryz.func135, Tryz.ntmps135
  go_wp2_with fail
  refine (vis_no h i h0).mono ?_
  rintro x w1 ⟨rfl, rfl⟩
  go_wp2
  go_ret2
  exact ⟨rfl, rfl⟩
theorem vread_dead {w : World} {v d : Nat} {f n fu st : Int} (h : w.heap[v]? = some (viewObj d f n fu st true)) (i : Int) (h0 : 0 ≤ i) (h1 : i < n) :
    Calls Tryz.prog 135 #[.pointer (some ⟨v, 0, none⟩), .int .i64 i] w fun x w' => x = .returned (.tuple #[.string ⟨#[]⟩, .int .i64 21]) ∧ w = w' := by
  obtain ⟨c0, c1, c2, c3, c4, c5, hf⟩ := six_of' h
  go_enter Tryz.func135, Tryz.ntmps135
  go_wp2_with fail
  refine (vis_yes h i h0 h1).mono ?_
  rintro x w1 ⟨rfl, rfl⟩
  go_wp2
  go_ret2
  exact ⟨rfl, rfl⟩
/-- A fuse behind a step. -/
def burn (fu : Int) : Int := if 0 < fu then fu - 1 else fu
theorem burn_le (fu : Int) : -1 ≤ fu → fu ≤ 9223372036854775807 → -1 ≤ burn fu ∧ burn fu ≤ 9223372036854775807 := by unfold burn; split <;> omega
/-- A view's block, whatever it counted. -/
def ViewAt (w : World) (v d : Nat) (f n fu : Int) (dead : Bool) : Prop := ∃ st, w.heap[v]? = some (viewObj d f n fu st dead)
theorem step_dead0 {w : World} {v d : Nat} {f n st : Int} {dead : Bool} (h : w.heap[v]? = some (viewObj d f n 0 st dead)) (c : Value) :
    Calls Tryz.prog 153 #[.pointer (some ⟨v, 0, none⟩), c] w fun x w' => x = .returned (.int .i64 21) ∧ w' = w.setCell ⟨v, 5, none⟩ (.bool true) := by
  obtain ⟨c0, c1, c2, c3, c4, c5, hf⟩ := six_of' h
  go_enter Tryz.func153, Tryz.ntmps153
  go_wp2
  go_ret
  exact ⟨rfl, rfl⟩
theorem step_dead1 {w : World} {v d : Nat} {f n fu st : Int} (h : w.heap[v]? = some (viewObj d f n fu st true)) (h0 : fu ≠ 0) (c : Value) :
    Calls Tryz.prog 153 #[.pointer (some ⟨v, 0, none⟩), c] w fun x w' => x = .returned (.int .i64 21) ∧ w = w' := by
  obtain ⟨c0, c1, c2, c3, c4, c5, hf⟩ := six_of' h
  have k0 : (fu == 0) = false := by simpa using h0
  go_enter Tryz.func153, Tryz.ntmps153
  go_wp2
  go_ret
  exact ⟨rfl, rfl⟩
theorem viewObj_set {w : World} {v d : Nat} {f n fu st fu' st' : Int} {dead dead' : Bool} (h : w.heap[v]? = some (viewObj d f n fu st dead)) :
    (w.setCell ⟨v, 3, none⟩ (.int .i64 fu')).heap[v]? = some (viewObj d f n fu' st dead) ∧ (w.setCell ⟨v, 4, none⟩ (.int .i64 st')).heap[v]? = some (viewObj d f n fu st' dead) ∧ (w.setCell ⟨v, 5, none⟩ (.bool dead')).heap[v]? = some (viewObj d f n fu st dead') :=
  ⟨by rw [cells_set _ _ _ _ _ _ h]; rfl, by rw [cells_set _ _ _ _ _ _ h]; rfl, by rw [cells_set _ _ _ _ _ _ h]; rfl⟩
set_option maxRecDepth 100000 in
set_option maxHeartbeats 400000 in
theorem step_go {w : World} {v d : Nat} {f n fu st : Int} (h : w.heap[v]? = some (viewObj d f n fu st false)) (h0 : fu ≠ 0) (h1 : -1 ≤ fu) (h2 : fu ≤ 9223372036854775807) (F : Nat) (caps : Array Value) (hF : ∀ w, (callFunc F caps).run Tryz.prog w = .ok (.enter F caps) w) (K : Int) (R : World → Prop)
    (hC : ∀ w1, Upd (fun i => i = v) w w1 → ViewAt w1 v d f n (burn fu) false → Calls Tryz.prog F caps w1 fun x w' => x = .returned (.int .i64 K) ∧ R w') :
    Calls Tryz.prog 153 #[.pointer (some ⟨v, 0, none⟩), .func (.func F) #[] caps] w fun x w' => x = .returned (.int .i64 K) ∧ R w' := by
  have H := Lib.hid hC
  clear hC
  obtain ⟨c0, c1, c2, c3, c4, c5, hf⟩ := six_of' h
  have k0 : (fu == 0) = false := by simpa using h0
  by_cases hp : 0 < fu
  · have k1 : decide (0 < fu) = true := by simpa using hp
    have k2 : IntKind.i64.wrap (fu - 1) = fu - 1 := by rw [IntKind.wrap_i64]; omega
    have g1 := (viewObj_set (fu' := fu - 1) (st' := 0) (dead' := false) h).1
    obtain ⟨e0, e1, e2, e3, e4, e5, hg⟩ := six_of' g1
    have g2 := fun st' => (viewObj_set (fu' := 0) (st' := st') (dead' := false) g1).2.1
    have HG := Lib.hid g2
    have HO := Lib.hid h
    clear h g1 g2 h2
    go_enter Tryz.func153, Tryz.ntmps153
    go_wp2_with fail
    refine (H.out _ ?ha ?hb).mono ?hc
    case ha => exact ((Upd.refl (fun i => i = v) w).setCell (p := ⟨v, 3, none⟩) (fun _ => rfl) _).setCell (p := ⟨v, 4, none⟩) (fun _ => rfl) _
    case hb => rw [burn, if_pos hp]; exact ⟨_, HG.out _⟩
    rintro x w' ⟨rfl, hr⟩
    go_wp2
    go_ret
    exact ⟨rfl, hr⟩
  · have k1 : decide (0 < fu) = false := by simpa using hp
    have g2 := fun st' => (viewObj_set (fu' := 0) (st' := st') (dead' := false) h).2.1
    have HG := Lib.hid g2
    clear h g2 h2
    go_enter Tryz.func153, Tryz.ntmps153
    go_wp2_with fail
    refine (H.out _ ?hd ?he).mono ?hg2
    case hd => exact (Upd.refl (fun i => i = v) w).setCell (p := ⟨v, 4, none⟩) (fun _ => rfl) _
    case he => rw [burn, if_neg (by omega)]; exact ⟨_, HG.out _⟩
    rintro x w' ⟨rfl, hr⟩
    go_wp2
    go_ret
    exact ⟨rfl, hr⟩
end Go.Proofs.YtoobiffhjjfpgaaGreat.Print

namespace Go.Proofs.YtoobiffhjjfpgaaGreat.Print
open Go.RowKit

/-- A view on a disk, in memory. -/
structure VAt (w : World) (v d lb : Nat) (wv : Value) (lies : List (List UInt8)) (waits : List (Nat × List UInt8)) (f n : Nat) (fu : Int) (dead : Bool) : Prop where
  view_ : ViewAt w v d f n fu dead
  disk_ : DiskAt w d lb wv lies waits
  vd : v ≠ d
  vl : v ≠ lb
  vw : wv.ownBlock ≠ some v
  fn : f + n ≤ lies.length
  fu1 : -1 ≤ fu
  fu2 : fu ≤ 9223372036854775807
def VFoot (v d lb : Nat) (wv : Value) (i : Nat) : Prop := i = v ∨ DiskFoot d lb wv i
/-- What becomes of a view. -/
def VPost (w : World) (v d lb : Nat) (wv : Value) (lies : List (List UInt8)) (waits : List (Nat × List UInt8)) (f n : Nat) (fu : Int) (dead : Bool) (w' : World) : Prop :=
  ∃ wv', VAt w' v d lb wv' lies waits f n fu dead ∧ Upd (VFoot v d lb wv) w w' ∧ ∀ i, wv'.ownBlock = some i → wv.ownBlock = some i ∨ w.heap.size ≤ i
theorem VAt.lt {w : World} {v d lb : Nat} {wv : Value} {lies : List (List UInt8)} {waits : List (Nat × List UInt8)} {f n : Nat} {fu : Int} {dead : Bool} (V : VAt w v d lb wv lies waits f n fu dead) : ∀ i, VFoot v d lb wv i → i < w.heap.size := by
  rintro i (rfl | h)
  · obtain ⟨st, h⟩ := V.view_; exact lt_of h
  · exact V.disk_.lt i h
theorem VAt.keep {S : Nat → Prop} {w w1 : World} {v d lb : Nat} {wv : Value} {lies : List (List UInt8)} {waits : List (Nat × List UInt8)} {f n : Nat} {fu : Int} {dead : Bool} (V : VAt w v d lb wv lies waits f n fu dead) (h : Upd S w w1) (hn : ∀ i, VFoot v d lb wv i → ¬ S i) : VAt w1 v d lb wv lies waits f n fu dead :=
  ⟨let ⟨st, hs⟩ := V.view_; ⟨st, h.at_ hs (hn v (.inl rfl))⟩, V.disk_.keep h (fun i hi => hn i (.inr hi)), V.vd, V.vl, V.vw, V.fn, V.fu1, V.fu2⟩
theorem VAt.below {w w1 : World} {v d lb : Nat} {wv : Value} {lies : List (List UInt8)} {waits : List (Nat × List UInt8)} {f n : Nat} {fu : Int} {dead : Bool} (V : VAt w v d lb wv lies waits f n fu dead) (h : Below w.heap.size w w1) : VAt w1 v d lb wv lies waits f n fu dead :=
  V.keep (S := fun _ => False) (Upd.of_below h) (fun _ _ h => h)
theorem VPost.trans {w w1 w2 : World} {v d lb : Nat} {wv wv1 : Value} {lies : List (List UInt8)} {waits : List (Nat × List UInt8)} {f n : Nat} {fu : Int} {dead : Bool}
    (h : Upd (VFoot v d lb wv) w w1) (hw : ∀ i, wv1.ownBlock = some i → wv.ownBlock = some i ∨ w.heap.size ≤ i) (k : VPost w1 v d lb wv1 lies waits f n fu dead w2) : VPost w v d lb wv lies waits f n fu dead w2 := by
  obtain ⟨wv', V, U, hv⟩ := k
  refine ⟨wv', V, h.trans U ?_, ?_⟩
  · rintro i hi (rfl | rfl | rfl | hb)
    · exact .inl rfl
    · exact .inr (.inl rfl)
    · exact .inr (.inr (.inl rfl))
    · rcases hw i hb with e | e
      · exact .inr (.inr (.inr e))
      · omega
  · intro i hi
    rcases hv i hi with e | e
    · exact hw i e
    · have := h.size; exact .inr (by omega)

set_option maxRecDepth 100000 in
set_option maxHeartbeats 400000 in
theorem vclose_write {w : World} {v d lb : Nat} {wv : Value} {lies : List (List UInt8)} {waits : List (Nat × List UInt8)} {f n : Nat} {fu : Int} {dead : Bool} (V : VAt w v d lb wv lies waits f n fu dead)
    (b0 b1 b2 k : Nat) (s : ByteArray) (hk : k < n) (hs : s.size = 64) (hn : waits.length ≤ 1000000000) (g0 : w.cell? ⟨b0, 0, none⟩ = some (.pointer (some ⟨v, 0, none⟩))) (g1 : w.cell? ⟨b1, 0, none⟩ = some (.int .i64 k)) (g2 : w.cell? ⟨b2, 0, none⟩ = some (.string s)) :
    Calls Tryz.prog 154 #[.pointer (some ⟨b0, 0, none⟩), .pointer (some ⟨b1, 0, none⟩), .pointer (some ⟨b2, 0, none⟩)] w fun x w' => x = .returned (.int .i64 0) ∧ DWrote w d lb wv lies (waits ++ [(f + k, s.data.toList)]) w' := by
  obtain ⟨st, hv⟩ := V.view_
  obtain ⟨c0, c1, c2, c3, c4, c5, hf⟩ := six_of' hv
  have hfn := V.fn
  have n2 := V.disk_.n2
  have k2 : IntKind.i64.wrap ((f : Int) + (k : Int)) = ((f + k : Nat) : Int) := by rw [IntKind.wrap_i64]; omega
  have hD : Calls Tryz.prog 155 #[.pointer (some ⟨d, 0, none⟩), .int .i64 ((f : Int) + (k : Int)), .string s] w.drew fun x w' => x = .returned (.int .i64 0) ∧ DWrote w d lb wv lies (waits ++ [(f + k, s.data.toList)]) w' := by
    have hU : Upd (fun _ => False) w w.drew := (Upd.refl _ _).drew
    have hD' := V.disk_.keep hU (fun _ _ h => h)
    exact (dwrite_any hD' (f + k) (by omega) s hs hn).mono fun x w' ⟨hx, wv', D', U, hw⟩ => ⟨hx, wv', D', ⟨U.os, U.tape, U.output, U.size, U.other⟩, hw⟩
  have H := Lib.hid hD
  clear hD hv
  go_enter Tryz.func154, Tryz.ntmps154
  go_wp2_with fail
  go_still_tail 11, (by kernel_rfl)
  go_wp2_with fail
  refine H.out.mono ?_
  rintro x w' ⟨rfl, hw⟩
  go_wp2
  go_ret
  exact ⟨rfl, hw⟩

theorem vwrite_nil (k : Int) (s : ByteArray) (w : World) : Calls Tryz.prog 130 #[.pointer none, .int .i64 k, .string s] w fun x w' => x = .returned (.int .i64 7) ∧ Below w.heap.size w w' := by
  go_enter Tryz.func130, Tryz.ntmps130
  go_wp2
  go_ret
  exact ⟨rfl, (((Below.refl _ _).alloc (Nat.le_refl _) _).alloc (by simp) _).alloc (by simp; omega) _⟩
theorem alloc3 (w : World) (a b c : Value) (ta tb tc : TypeId) : Below w.heap.size w (((w.alloc (.cells #[a] ta)).alloc (.cells #[b] tb)).alloc (.cells #[c] tc)) ∧
    (((w.alloc (.cells #[a] ta)).alloc (.cells #[b] tb)).alloc (.cells #[c] tc)).cell? ⟨w.heap.size, 0, none⟩ = some a ∧ (((w.alloc (.cells #[a] ta)).alloc (.cells #[b] tb)).alloc (.cells #[c] tc)).cell? ⟨w.heap.size + 1, 0, none⟩ = some b ∧
    (((w.alloc (.cells #[a] ta)).alloc (.cells #[b] tb)).alloc (.cells #[c] tc)).cell? ⟨w.heap.size + 2, 0, none⟩ = some c ∧ (((w.alloc (.cells #[a] ta)).alloc (.cells #[b] tb)).alloc (.cells #[c] tc)).heap.size = w.heap.size + 3 := by
  refine ⟨(((Below.refl _ _).alloc (Nat.le_refl _) _).alloc (by simp) _).alloc (by simp; omega) _, ?_, ?_, ?_, by simp⟩
  · rw [cell_of (alloc_old (alloc_old (alloc_at w _) _) _)]; rfl
  · rw [cell_of (alloc_old (alloc_at' (w.alloc (.cells #[a] ta)) _ _ (by simp)) _)]; rfl
  · rw [cell_of (alloc_at' ((w.alloc (.cells #[a] ta)).alloc (.cells #[b] tb)) _ _ (by simp))]; rfl
set_option maxRecDepth 100000 in
set_option maxHeartbeats 400000 in
theorem vwrite_dead {w : World} {v d lb : Nat} {wv : Value} {lies : List (List UInt8)} {waits : List (Nat × List UInt8)} {f n : Nat} {fu : Int} {dead : Bool} (V : VAt w v d lb wv lies waits f n fu dead)
    (hdead : fu = 0 ∨ dead = true) (k : Nat) (s : ByteArray) (hk : k < n) (hs : s.size = 64) :
    Calls Tryz.prog 130 #[.pointer (some ⟨v, 0, none⟩), .int .i64 k, .string s] w fun x w' => x = .returned (.int .i64 21) ∧ VPost w v d lb wv lies waits f n fu true w' := by
  obtain ⟨hB, a0, a1, a2, hz⟩ := alloc3 w (.pointer (some ⟨v, 0, none⟩)) (.int .i64 k) (.string s) 25 3 9
  have V1 := V.below hB
  have kd : decide ((s.size : Int) = 64) = true := by simp; omega
  have hU1 : Upd (VFoot v d lb wv) w _ := Upd.of_below hB
  generalize hW : ((w.alloc (.cells #[.pointer (some ⟨v, 0, none⟩)] 25)).alloc (.cells #[.int .i64 k] 3)).alloc (.cells #[.string s] 9) = W at hB a0 a1 a2 hz V1 hU1
  obtain ⟨st, hv⟩ := V1.view_
  have HW := Lib.hid hW
  clear hW
  have hk' : (k : Int) < n := by omega
  go_enter Tryz.func130, Tryz.ntmps130
  go_wp2_with fail
  rw [HW.out]
  refine (vis_yes hv k (by omega) hk').mono ?_
  rintro x w1 ⟨rfl, rfl⟩
  by_cases h0 : fu = 0
  · subst h0
    have hs0 := step_dead0 hv (.func (.func 154) #[] #[.pointer (some ⟨w.heap.size, 0, none⟩), .pointer (some ⟨w.heap.size + 1, 0, none⟩), .pointer (some ⟨w.heap.size + 2, 0, none⟩)])
    go_wp2_with fail
    refine hs0.mono ?_
    rintro x w1 ⟨rfl, rfl⟩
    go_wp2
    go_ret
    refine ⟨rfl, wv, ⟨⟨st, (viewObj_set (fu' := 0) (st' := 0) hv).2.2⟩, V1.disk_.keep ((Upd.refl (fun i => i = v) W).setCell (p := ⟨v, 5, none⟩) (fun _ => rfl) _) ?_, V.vd, V.vl, V.vw, V.fn, V.fu1, V.fu2⟩, hU1.setCell (p := ⟨v, 5, none⟩) (fun _ => .inl rfl) _, fun i hi => .inl hi⟩
    rintro i hi rfl
    rcases hi with h | h | h
    · exact V.vd h
    · exact V.vl h
    · exact V.vw h
  · obtain rfl : dead = true := hdead.resolve_left h0
    have hs0 := step_dead1 hv h0 (.func (.func 154) #[] #[.pointer (some ⟨w.heap.size, 0, none⟩), .pointer (some ⟨w.heap.size + 1, 0, none⟩), .pointer (some ⟨w.heap.size + 2, 0, none⟩)])
    go_wp2_with fail
    refine hs0.mono ?_
    rintro x w1 ⟨rfl, rfl⟩
    go_wp2
    go_ret
    exact ⟨rfl, wv, V1, hU1, fun i hi => .inl hi⟩
set_option maxRecDepth 100000 in
set_option maxHeartbeats 400000 in
theorem vwrite_out {w : World} {v d lb : Nat} {wv : Value} {lies : List (List UInt8)} {waits : List (Nat × List UInt8)} {f n : Nat} {fu : Int} {dead : Bool} (V : VAt w v d lb wv lies waits f n fu dead)
    (k : Int) (s : ByteArray) (hk : k < 0 ∨ (n : Int) ≤ k) :
    Calls Tryz.prog 130 #[.pointer (some ⟨v, 0, none⟩), .int .i64 k, .string s] w fun x w' => x = .returned (.int .i64 20) ∧ Below w.heap.size w w' := by
  obtain ⟨hB, a0, a1, a2, hz⟩ := alloc3 w (.pointer (some ⟨v, 0, none⟩)) (.int .i64 k) (.string s) 25 3 9
  have V1 := V.below hB
  generalize hW : ((w.alloc (.cells #[.pointer (some ⟨v, 0, none⟩)] 25)).alloc (.cells #[.int .i64 k] 3)).alloc (.cells #[.string s] 9) = W at hB a0 a1 a2 hz V1
  obtain ⟨st, hv⟩ := V1.view_
  have HW := Lib.hid hW
  clear hW
  go_enter Tryz.func130, Tryz.ntmps130
  go_wp2_with fail
  rw [HW.out]
  refine (vis_no hv k hk).mono ?_
  rintro x w1 ⟨rfl, rfl⟩
  go_wp2
  go_ret
  exact ⟨rfl, hB⟩
theorem callWrite (caps : Array Value) (w : World) : (callFunc 154 caps).run Tryz.prog w = .ok (.enter 154 caps) w := by kernel_rfl
set_option maxRecDepth 100000 in
set_option maxHeartbeats 400000 in
theorem vwrite_ok {w : World} {v d lb : Nat} {wv : Value} {lies : List (List UInt8)} {waits : List (Nat × List UInt8)} {f n : Nat} {fu : Int} (V : VAt w v d lb wv lies waits f n fu false)
    (h0 : fu ≠ 0) (k : Nat) (s : ByteArray) (hk : k < n) (hs : s.size = 64) (hn : waits.length ≤ 1000000000) :
    Calls Tryz.prog 130 #[.pointer (some ⟨v, 0, none⟩), .int .i64 k, .string s] w fun x w' => x = .returned (.int .i64 0) ∧ VPost w v d lb wv lies (waits ++ [(f + k, s.data.toList)]) f n (burn fu) false w' := by
  obtain ⟨hB, a0, a1, a2, hz⟩ := alloc3 w (.pointer (some ⟨v, 0, none⟩)) (.int .i64 k) (.string s) 25 3 9
  have V1 := V.below hB
  have kd : decide ((s.size : Int) = 64) = true := by simp; omega
  have hU1 : Upd (VFoot v d lb wv) w _ := Upd.of_below hB
  generalize hW : ((w.alloc (.cells #[.pointer (some ⟨v, 0, none⟩)] 25)).alloc (.cells #[.int .i64 k] 3)).alloc (.cells #[.string s] 9) = W at hB a0 a1 a2 hz V1 hU1
  obtain ⟨st, hv⟩ := V1.view_
  have HW := Lib.hid hW
  clear hW
  have hk' : (k : Int) < n := by omega
  have hvlt : v < w.heap.size := V.lt v (.inl rfl)
  have hst := step_go hv h0 V.fu1 V.fu2 154 #[.pointer (some ⟨w.heap.size, 0, none⟩), .pointer (some ⟨w.heap.size + 1, 0, none⟩), .pointer (some ⟨w.heap.size + 2, 0, none⟩)] (callWrite _) 0
    (fun w' => VPost w v d lb wv lies (waits ++ [(f + k, s.data.toList)]) f n (burn fu) false w') (by
      intro w1 hU hV
      have hfu := V.fu1
      have hfu2 := V.fu2
      have V2 : VAt w1 v d lb wv lies waits f n (burn fu) false := ⟨hV, V1.disk_.keep hU (by
        rintro i hi rfl
        rcases hi with h | h | h
        · exact V.vd h
        · exact V.vl h
        · exact V.vw h), V.vd, V.vl, V.vw, V.fn, (burn_le fu hfu hfu2).1, (burn_le fu hfu hfu2).2⟩
      have e0 := (World.cell?_of_block (a := ⟨w.heap.size, 0, none⟩) (hU.other w.heap.size (by omega) (by omega))).trans a0
      have e1 := (World.cell?_of_block (a := ⟨w.heap.size + 1, 0, none⟩) (hU.other (w.heap.size + 1) (by omega) (by omega))).trans a1
      have e2 := (World.cell?_of_block (a := ⟨w.heap.size + 2, 0, none⟩) (hU.other (w.heap.size + 2) (by omega) (by omega))).trans a2
      refine (vclose_write V2 _ _ _ k s hk hs hn e0 e1 e2).mono fun x w' ⟨hx, wv', D', U', hw'⟩ => ⟨hx, wv', ⟨?_, D', V.vd, V.vl, ?_, V.fn, V2.fu1, V2.fu2⟩, ?_, ?_⟩
      · obtain ⟨st', hV'⟩ := V2.view_
        exact ⟨st', U'.at_ hV' (by
          rintro (h | h | h)
          · exact V.vd h
          · exact V.vl h
          · exact V.vw h)⟩
      · intro e
        rcases hw' v e with h | h
        · exact V.vw h
        · have := hU.size; omega
      · exact (hU1.trans hU (fun i _ e => .inl e)).trans U' (fun i _ h => .inr h)
      · intro i hi
        rcases hw' i hi with h | h
        · exact .inl h
        · have := hU.size; have := hB.size; exact .inr (by omega))
  have HS := Lib.hid hst
  clear hst
  go_enter Tryz.func130, Tryz.ntmps130
  go_wp2_with fail
  rw [HW.out]
  refine (vis_yes hv k (by omega) hk').mono ?_
  rintro x w1 ⟨rfl, rfl⟩
  go_wp2_with fail
  refine HS.out.mono ?_
  rintro x w' ⟨rfl, hw⟩
  go_wp2
  go_ret
  exact ⟨rfl, hw⟩
end Go.Proofs.YtoobiffhjjfpgaaGreat.Print

namespace Go.Proofs.YtoobiffhjjfpgaaGreat.Print
open Go.RowKit
attribute [local go_sem] run_loadVar_scalar

/-- What is read of a sector: the last write that waits, else what lies there. -/
def lastOf (waits : List (Nat × List UInt8)) (k : Nat) (s : List UInt8) : List UInt8 := waits.foldl (fun s x => if x.1 = k then x.2 else s) s
theorem lastOf_snoc (waits : List (Nat × List UInt8)) (x : Nat × List UInt8) (k : Nat) (s : List UInt8) : lastOf (waits ++ [x]) k s = if x.1 = k then x.2 else lastOf waits k s := by simp [lastOf]
theorem lastOf_length (waits : List (Nat × List UInt8)) (k : Nat) (s : List UInt8) (hs : s.length = 64) (h : ∀ x ∈ waits, x.2.length = 64) : (lastOf waits k s).length = 64 := by
  induction waits generalizing s with
  | nil => exact hs
  | cons a r ih =>
    simp only [lastOf, List.foldl_cons] at ih ⊢
    refine ih _ ?_ (fun x hx => h x (List.mem_cons_of_mem _ hx))
    split
    · exact h a List.mem_cons_self
    · exact hs

theorem wflat_at (l : List (Nat × List UInt8)) (h : ∀ x ∈ l, x.2.length = 64) (k : Nat) (hk : k < l.length) (j : Nat) (hj : j < 65) : (wcells l)[k * 65 + j]? = (wcell l[k])[j]? := by
  induction l generalizing k with
  | nil => simp at hk
  | cons a r ih =>
    have ha : (wcell a).length = 65 := by simp [wcell, Lib.byteCells_length, h a List.mem_cons_self]
    show (wcell a ++ wcells r)[k * 65 + j]? = _
    cases k with
    | zero => rw [Nat.zero_mul, Nat.zero_add, List.getElem?_append_left (by omega)]; rfl
    | succ k =>
      rw [List.getElem?_append_right (by omega), show (k + 1) * 65 + j - (wcell a).length = k * 65 + j by omega, ih (fun s hs => h s (List.mem_cons_of_mem _ hs)) k (by simpa using hk)]
      rfl
/-- A write that waits, in its block. -/
theorem wait_range {w : World} {base g n cap : Nat} {waits : List (Nat × List UInt8)} (hown : w.ownsRow base 230 65 (.slice (some ⟨g, 0, none⟩) n cap) n (wcells waits)) (h : ∀ x ∈ waits, x.2.length = 64) (k : Nat) (hk : k < waits.length) :
    w.rangeAt g (k * 65) (wcell waits[k]) := by
  intro j v hv
  have hl : (wcell waits[k]).length = 65 := by simp [wcell, Lib.byteCells_length, h waits[k] (List.getElem_mem hk)]
  have hj : j < 65 := by have := (List.getElem?_eq_some_iff.1 hv).1; omega
  have hc := hown.cells (g := g) rfl (k * 65 + j) v (by rw [wflat_at waits h k hk j hj]; exact hv)
  rwa [Addr.add_mid, Nat.zero_add] at hc
theorem load_wait {w : World} {g o : Nat} {x : Nat × List UInt8} (hc : w.rangeAt g o (wcell x)) (hx : x.2.length = 64) : (loadVar 230 ⟨g, o, none⟩).run Tryz.prog w = .ok (.agg (wcell x).toArray) w :=
  run_loadVar_mid w g o 230 (wcell x) _ hc Tryz.underlying230 rfl (by rw [show (wcell x).length = 65 by simp [wcell, Lib.byteCells_length, hx]]; exact writeSize)
/-- A write's block that was made: stored, read. -/
theorem write_new (w : World) (x : Nat × List UInt8) (hx : x.2.length = 64) :
    (storeCells ⟨w.heap.size, 0, none⟩ (wcell x).toArray.toList).run Tryz.prog (w.alloc (.cells (wcell (0, zeroSec)).toArray 230)) = .ok () (w.alloc (.cells (wcell x).toArray 230)) := by
  have := run_storeCells_from (P := Tryz.prog) w.heap.size 230 (wcell x) 0 (wcell (0, zeroSec)).toArray (w.alloc (.cells (wcell (0, zeroSec)).toArray 230)) (alloc_at _ _) (by simp [wcell, Lib.byteCells_length, hx, zeroSec]) (wcell_one x)
  show (storeCells _ (wcell x) 0).run _ _ = _
  rw [this]
  simp only [List.take_zero, List.nil_append, World.setRow_alloc_new]
theorem write_bytes {w : World} {g : Nat} {x : Nat × List UInt8} (hg : w.heap[g]? = some (.cells (wcell x).toArray 230)) (hx : x.2.length = 64) :
    (convert 141 9 (.slice (some ⟨g, 1, none⟩) 64 64)).run Tryz.prog w = .ok (.string (bs x.2)) w := by
  have hcv := run_convert_bytes_back (P := Tryz.prog) w 141 9 5 (⟨g, 1, none⟩ : Addr) 64 x.2 Tryz.underlying141 Tryz.underlying5 Tryz.underlying9 (by
    intro j hj
    rw [Addr.add_mid, cell_of hg]
    simp [wcell, Lib.byteCells, Nat.add_comm 1 j, hj])
  rwa [hx] at hcv
theorem dread_out {d lb n : Nat} {wv : Value} {w : World} (h : w.heap[d]? = some (diskObj lb n wv)) (k : Int) (h0 : k < 0 ∨ n ≤ k) : Calls Tryz.prog 158 #[.pointer (some ⟨d, 0, none⟩), .int .i64 k] w fun x w' => x = .returned (.tuple #[.string ⟨#[]⟩, .int .i64 20]) ∧ w = w' := by
  go_enter Tryz.func158, Tryz.ntmps158
  go_wp2_with fail
  refine (dlies_out h k h0).mono ?_
  rintro x w1 ⟨rfl, rfl⟩
  go_wp2
  go_ret2
  exact ⟨rfl, rfl⟩
theorem int_beq_true {a b : Int} (h : a = b) : (a == b) = true := by simpa using h
theorem int_beq_false {a b : Int} (h : ¬ a = b) : (a == b) = false := by simpa using h
set_option maxRecDepth 100000 in
set_option maxHeartbeats 800000 in
attribute [-go_sem] Instr.build Instr.fill loadVar in
theorem dread_any {w : World} {d lb : Nat} {wv : Value} {lies : List (List UInt8)} {waits : List (Nat × List UInt8)} (D : DiskAt w d lb wv lies waits) (k : Nat) (hk : k < lies.length) (hn : waits.length ≤ 1000000000) :
    Calls Tryz.prog 158 #[.pointer (some ⟨d, 0, none⟩), .int .i64 k] w fun x w' => x = .returned (.tuple #[.string (bs (lastOf waits k lies[k])), .int .i64 0]) ∧ Below w.heap.size w w' := by
  obtain ⟨c0, c1, _, _⟩ := two_of D.at_
  have hd := dlies_any D k hk
  rcases D.waits_.2 with ⟨rfl, h0⟩ | ⟨g, cap, cur, rfl, _, hg, _⟩
  · have hw : waits = [] := List.eq_nil_of_length_eq_zero h0
    subst hw
    go_enter Tryz.func158, Tryz.ntmps158
    go_wp2_with fail
    refine hd.mono ?_
    rintro x w1 ⟨rfl, rfl⟩
    go_wp2
    go_loopw [6, 24] (fun s i wr => s = .string (bs lies[k]) ∧ i = .int .i64 0 ∧ w = wr) (fun _ _ _ => 0)
    case atStart => exact ⟨rfl, rfl, rfl⟩
    case round =>
      obtain ⟨rfl, rfl, rfl⟩ := hrel
      go_wp2
      go_ret2
      exact ⟨rfl, Below.refl _ _⟩
  · have hlt := lt_of hg
    have hdl := lt_of D.at_
    have hz := zero_write
    have hst0 := write_new
    generalize (wcell (0, zeroSec)).toArray = Z0 at hz hst0
    have HST := Lib.hid hst0
    clear hst0
    go_enter Tryz.func158, Tryz.ntmps158
    go_wp2_with fail
    refine hd.mono ?_
    rintro x w1 ⟨rfl, rfl⟩
    go_wp2
    go_loopw [6, 24] (fun s i wr => ∃ j : Nat, j ≤ waits.length ∧ i = .int .i64 j ∧ s = .string (bs (lastOf (waits.take j) k lies[k])) ∧ Below w.heap.size w wr) (fun _ i _ => waits.length - (intOf i).toNat)
    case atStart => exact ⟨0, Nat.zero_le _, rfl, rfl, Below.refl _ _⟩
    case round =>
      obtain ⟨j, hj, rfl, rfl, hB⟩ := hrel
      have c0' := (hB.cell (p := ⟨d, 0, none⟩) hdl).trans c0
      have c1' := (hB.cell (p := ⟨d, 1, none⟩) hdl).trans c1
      by_cases hl : j < waits.length
      · have hx := (D.w64 waits[j] (List.getElem_mem hl)).1
        have hr := wait_range (ownsRow_upd (S := fun _ => False) (Upd.of_below hB) D.waits_ (fun _ _ h => h)) (fun x hx => (D.w64 x hx).1) j hl
        have hld := load_wait hr hx
        have hst := HST.out wr waits[j] hx
        have hcv := write_bytes (alloc_at wr (.cells (wcell waits[j]).toArray 230)) hx
        have hR0 : (wcell waits[j]).toArray[0]? = some (.int .i64 (waits[j]).1) := rfl
        have hRs : (wcell waits[j]).toArray.size = 65 := by simp [wcell, Lib.byteCells_length, hx]
        have hR1 : (wr.alloc (.cells (wcell waits[j]).toArray 230)).cell? ⟨wr.heap.size, 0, none⟩ = some (.int .i64 (waits[j]).1) := by rw [cell_of (alloc_at _ _)]; rfl
        have htk : waits.take (j + 1) = waits.take j ++ [waits[j]] := by rw [List.take_succ_eq_append_getElem hl]
        have hBn : Below w.heap.size w (wr.alloc (.cells (wcell waits[j]).toArray 230)) := hB.alloc hB.size _
        have hRl : (wcell waits[j]).toArray.toList = wcell waits[j] := rfl
        generalize (wcell waits[j]).toArray = R at hld hst hcv hR0 hRs hR1 hBn hRl
        rw [← hRl] at hst
        clear hRl
        clear hr
        have HTK := Lib.hid htk
        clear htk
        by_cases he : (waits[j]).1 = k
        · have hb : (((waits[j]).1 : Int) == (k : Int)) = true := by simp [he]
          go_wp2
          go_roundw
          case rel => exact ⟨j + 1, by omega, by go_num, by rw [HTK.out, lastOf_snoc, if_pos he], hBn⟩
          case measure => simp [intOf]; omega
        · have hb : (((waits[j]).1 : Int) == (k : Int)) = false := by simp; omega
          go_wp2
          go_roundw
          case rel => exact ⟨j + 1, by omega, by go_num, by rw [HTK.out, lastOf_snoc, if_neg he], hBn⟩
          case measure => simp [intOf]; omega
      · have hj' : j = waits.length := by omega
        subst hj'
        go_wp2
        go_ret2
        exact ⟨by rw [List.take_length]; rfl, hB⟩
set_option maxRecDepth 100000 in
set_option maxHeartbeats 400000 in
theorem vread_ok {w : World} {v d lb : Nat} {wv : Value} {lies : List (List UInt8)} {waits : List (Nat × List UInt8)} {f n : Nat} {fu : Int} (V : VAt w v d lb wv lies waits f n fu false)
    (k : Nat) (hk : k < n) (hn : waits.length ≤ 1000000000) (s : List UInt8) (hs : lies[f + k]? = some s) :
    Calls Tryz.prog 135 #[.pointer (some ⟨v, 0, none⟩), .int .i64 k] w fun x w' => x = .returned (.tuple #[.string (bs (lastOf waits (f + k) s)), .int .i64 0]) ∧ Below w.heap.size w w' := by
  obtain ⟨st, hv⟩ := V.view_
  obtain ⟨c0, c1, c2, c3, c4, c5, hf⟩ := six_of' hv
  have hfn := V.fn
  have n2 := V.disk_.n2
  have hk' : (k : Int) < n := by omega
  have hlt : f + k < lies.length := by omega
  have hsl : lies[f + k] = s := by rw [List.getElem?_eq_getElem hlt] at hs; exact Option.some.inj hs
  have k2 : IntKind.i64.wrap ((f : Int) + (k : Int)) = (f : Int) + (k : Int) := by rw [IntKind.wrap_i64]; omega
  have hD : Calls Tryz.prog 158 #[.pointer (some ⟨d, 0, none⟩), .int .i64 ((f : Int) + (k : Int))] w.drew fun x w' => x = .returned (.tuple #[.string (bs (lastOf waits (f + k) s)), .int .i64 0]) ∧ Below w.heap.size w w' := by
    have hU : Upd (fun _ => False) w w.drew := (Upd.refl _ _).drew
    have := dread_any (V.disk_.keep hU (fun _ _ h => h)) (f + k) hlt hn
    rw [hsl] at this
    exact this.mono fun x w' ⟨hx, hB⟩ => ⟨hx, ⟨hB.os, hB.tape, hB.output, hB.size, hB.block⟩⟩
  have H := Lib.hid hD
  clear hD hsl hs
  go_enter Tryz.func135, Tryz.ntmps135
  go_wp2_with fail
  refine (vis_yes hv k (by omega) hk').mono ?_
  rintro x w1 ⟨rfl, rfl⟩
  go_wp2_with fail
  go_region_with (go_at_call 158; (with_reducible refine H.out.mono ?_); rintro x w' ⟨rfl, hB⟩)
  all_goals
    go_wp2
    go_ret2
    exact ⟨rfl, hB⟩
theorem run_loadVar_cells {P : Program} (w : World) (a : Addr) (ty : TypeId) (cs : List Value) (d : TypeDesc) (hc : ∀ j v, cs[j]? = some v → w.cell? (a.add j) = some v)
    (hu : P.underlying ty = some d) (hd : d.isRow = true) (hi : (P.info? ty).map (·.size) = some cs.length) : (loadVar ty a).run P w = .ok (.agg cs.toArray) w := by
  have hl := run_loadCells_list (P := P) w a cs hc
  have hg : (isAgg ty).run P w = .ok true w := by
    unfold isAgg
    rw [Sem.run_bind, run_underlying hu w]
    cases d <;> simp_all
  cases hq : P.info? ty with
  | none => simp [hq] at hi
  | some i =>
    have hs : i.size = cs.length := by simpa [hq] using hi
    simp [loadVar, Sem.run_bind, hg, sizeOf, typeInfo, hq, hs, hl]
theorem addr_block (a : Addr) (k : Nat) : (a.add k).block = a.block := by unfold Addr.add; split <;> rfl
end Go.Proofs.YtoobiffhjjfpgaaGreat.Print
