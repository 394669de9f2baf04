/- view: Crash. -/
import Derived.Test.YtemdhcocbjcklaaCrash
namespace Go.Proofs.Ytemdhcocbjcklaa.Print
open Go.RowKit

set_option maxRecDepth 100000 in
set_option maxHeartbeats 800000 in
theorem vcrash_ok {w : World} {v d lb : Nat} {wv : Value} {lies : List (List UInt8)} {waits : List (Nat × List UInt8)} {f n : Nat} {fu : Int} {dead : Bool} (V : VAt w v d lb wv lies waits f n fu dead) (hl : waits.length ≤ 1000000000)
    (ao : Option Addr) (cap : Nat) (ks : List K2) (hK : KeepsAt w ao ks) (hKn : ∀ a, ao = some a → 0 < ks.length → ¬ VFoot v d lb wv a.block) (hKl : ks.length ≤ 1000000000) :
    Calls Try.prog 52 #[.pointer (some ⟨v, 0, none⟩), .slice ao ks.length cap] w fun x w' => x = .returned (.int .i64 0) ∧
      VPost w v d lb wv (kfold (waits.filter (inSpan f n)) lies ks).1 (waits.filter (fun x => !inSpan f n x)) f n (-1) false w' := by
  obtain ⟨st, hv⟩ := V.view_
  obtain ⟨W, hW⟩ : ∃ W, ((w.setCell ⟨v, 3, none⟩ (.int .i64 (-1))).setCell ⟨v, 4, none⟩ (.int .i64 0)).setCell ⟨v, 5, none⟩ (.bool false) = W := ⟨_, rfl⟩
  have hv1 : W.heap[v]? = some (viewObj d f n (-1) 0 false) := by
    rw [← hW]
    have h1 := (viewObj_set (fu' := -1) (st' := 0) (dead' := false) hv).1
    have h2 := (viewObj_set (fu' := -1) (st' := 0) (dead' := false) h1).2.1
    exact (viewObj_set (fu' := -1) (st' := 0) (dead' := false) h2).2.2
  have hU : Upd (fun i => i = v) w W := by
    rw [← hW]
    exact (((Upd.refl (fun i => i = v) w).setCell (p := ⟨v, 3, none⟩) (fun _ => rfl) _).setCell (p := ⟨v, 4, none⟩) (fun _ => rfl) _).setCell (p := ⟨v, 5, none⟩) (fun _ => rfl) _
  have V1 : VAt W v d lb wv lies waits f n (-1) false := ⟨⟨0, hv1⟩, V.disk_.keep hU V.disk_ne, V.vd, V.vl, V.vw, V.fn, by omega, by omega⟩
  have hC := crash_any (w := W.drew) (V1.disk_.keep (S := fun _ => False) ((Upd.refl _ _).drew) (fun _ _ h => h)) f n V.fn hl ao cap ks (hK.keep (S := fun i => i = v) hU.drew (fun a ha hl e => hKn a ha hl (.inl e))) (fun a ha hl e => hKn a ha hl (.inr e)) hKl
  have hC2 : Calls Try.prog 82 #[.pointer (some ⟨d, 0, none⟩), .int .i64 f, .int .i64 n, .slice ao ks.length cap] W.drew fun x w' => x = .returned (.int .i64 0) ∧
      VPost w v d lb wv (kfold (waits.filter (inSpan f n)) lies ks).1 (waits.filter (fun x => !inSpan f n x)) f n (-1) false w' :=
    hC.mono fun x w' ⟨hx, wv', D', U, hw⟩ => ⟨hx, V.turned V1 (Upd.refl _ _) hU (kfold_good (fun x hx => V.disk_.w64 x (List.mem_filter.1 hx).1) rfl V.disk_.l64 ks).1 ⟨wv', D', ⟨U.os, U.tape, U.output, U.size, U.other⟩, hw⟩⟩
  obtain ⟨c0, c1, c2, c3, c4, c5, hf⟩ := six_of' hv
  obtain ⟨d0, d1, d2, d3, d4, d5, hg⟩ := six_of' hv1
  have HW := Lib.hid hW
  have HC := Lib.hid hC2
  have HD := Lib.hid (And.intro d0 (And.intro d1 d2))
  clear hW hC hC2 hK hKn V1 hU hv hv1 d0 d1 d2 d3 d4 d5 hg
  go_enter Try.func52, Try.ntmps52
  go_wp2_with fail
  rw [HW.out]
  obtain ⟨d0, d1, d2⟩ := HD.out
  clear c0 c1 c2 c3 c4 c5 hf
  go_still_tail 13, (by kernel_rfl)
  go_wp2_with fail
  refine HC.out.mono ?_
  rintro x w' ⟨rfl, hw⟩
  go_wp2
  go_ret
  exact ⟨rfl, hw⟩
end Go.Proofs.Ytemdhcocbjcklaa.Print
