/- scan: Clean. scan over a dead view: All, Clean; a fresh view; laid. What was laid, what was wiped, what has landed: plain. weighlocklaw15: three. -/
import Derived.Test.YtoobiffhjjfpgaaGreatScan
import Derived.Test.YtoobiffhjjfpgaaGreatFallV
namespace Go.Proofs.YtoobiffhjjfpgaaGreat.Print
open Go.RowKit
attribute [local go_sem] run_loadVar_scalar
set_option linter.unusedSimpArgs false

/-- What is wiped. -/
def wipesP (f : Nat) (kept : List Nat) (ss : List SegL) : List (Nat × List UInt8) := ss.filterMap fun S => if S.n ∈ kept then none else some (f + (2 + 16 * S.n), zeroSec)
theorem wipesP_snoc (f : Nat) (kept : List Nat) (ss : List SegL) (S : SegL) : wipesP f kept (ss ++ [S]) = wipesP f kept ss ++ if S.n ∈ kept then [] else [(f + (2 + 16 * S.n), zeroSec)] := by
  unfold wipesP
  rw [List.filterMap_append]
  by_cases h : S.n ∈ kept
  · rw [if_pos h]; simp [h]
  · rw [if_neg h]; simp [h]
theorem wipesP_le (f : Nat) (kept : List Nat) (ss : List SegL) : (wipesP f kept ss).length ≤ ss.length := List.length_filterMap_le _ _
end Go.Proofs.YtoobiffhjjfpgaaGreat.Print

namespace Go.Proofs.YtoobiffhjjfpgaaGreat.Print
open Go.RowKit
attribute [local go_sem] run_loadVar_scalar
set_option linter.unusedSimpArgs false

set_option maxHeartbeats 800000 in
theorem sectors_dead {w : World} {v d : Nat} {f N fu st : Int} (hv : w.heap[v]? = some (viewObj d f N fu st true)) (l s : Nat) (n : Int) (h : H4) (fv : Value) (e : Int) (sealed : Bool)
    (hl : w.heap[l]? = some (ldObj s (fun _ => ⟨#[]⟩) (fun _ => 0) (fun _ => 0))) (hs : w.heap[s]? = some (segObj v n h fv e sealed)) (at_ : Int) (h0 : 0 ≤ at_) (h1 : at_ < N) (h2 : N ≤ 8192) :
    Calls Tryz.prog 118 #[.pointer (some ⟨l, 0, none⟩), .int .i64 at_] w fun x w' => x = .returned (.int .i64 21) ∧ w = w' := by
  have K := Lib.hid (vread_dead hv at_ h0 h1)
  obtain ⟨c0, c1, c2, c3, c4, c5, c6, c7, c8, hfz⟩ := nine_of hs
  have d0 := ld_seg hl
  have k1 : IntKind.i64.wrap at_ = at_ := by rw [IntKind.wrap_i64]; omega
  clear hv hl hs h0 h1 h2
  go_enter Tryz.func118, Tryz.ntmps118
  go_wp2
  go_loopw [12] (fun i wr => i = .int .i64 0 ∧ w = wr) (fun _ _ => 0)
  case atStart => exact ⟨rfl, rfl⟩
  case round =>
    obtain ⟨rfl, rfl⟩ := hrel
    go_wp2_with fail
    refine K.out.mono ?_
    rintro x w1 ⟨rfl, rfl⟩
    go_wp2
    go_ret
    exact ⟨rfl, rfl⟩
set_option maxRecDepth 100000 in
set_option maxHeartbeats 1600000 in
attribute [-go_sem] Instr.build Instr.fill in
theorem load_dead {w : World} {v d : Nat} {f N : Nat} {fu st : Int} (hv : w.heap[v]? = some (viewObj d f N fu st true)) (n : Nat) (hN : N ≤ 8192) (hn : 2 + 16 * n + 16 ≤ N) :
    Calls Tryz.prog 82 #[.pointer (some ⟨v, 0, none⟩), .int .i64 n] w fun x w' => x = .returned (.tuple #[.pointer none, .int .i64 21]) ∧ Below w.heap.size w w' := by
  have KF := Lib.hid (first_ok hv n hN hn)
  have HV := Lib.hid hv
  have hvl := lt_of hv
  clear hv
  have hbl := build_ld w.heap.size
  have hbs : ∀ w' : World, (Instr.build 155 #[(0, .pointer (some ⟨v, 0, none⟩)), (1, .int .i64 n), (4, .int .i64 1), (5, .bool true)]).run Tryz.prog w' = .ok (.agg #[.pointer (some ⟨v, 0, none⟩), .int .i64 n, .int .i64 (0 : Nat), .int .u32 (0 : Nat), .int .u32 (0 : Nat), .int .i64 (0 : Nat), .slice none 0 0, .int .i64 (1 : Nat), .bool true]) w' := fun w' => run_build w' 155 _ _ (by kernel_rfl)
  have hs1 := alloc_at w (segObj v n (0, 0, 0, 0) (.slice none 0 0) (1 : Nat) true)
  have hs2 := alloc_old hs1 (ldObj w.heap.size (fun _ => ⟨#[]⟩) (fun _ => 0) (fun _ => 0))
  have hl2 := alloc_at (w.alloc (segObj v n (0, 0, 0, 0) (.slice none 0 0) (1 : Nat) true)) (ldObj w.heap.size (fun _ => ⟨#[]⟩) (fun _ => 0) (fun _ => 0))
  have hB2 : Below w.heap.size w ((w.alloc (segObj v n (0, 0, 0, 0) (.slice none 0 0) (1 : Nat) true)).alloc (ldObj w.heap.size (fun _ => ⟨#[]⟩) (fun _ => 0) (fun _ => 0))) := ((Below.refl _ _).alloc (Nat.le_refl _) _).alloc (by simp) _
  have hsz2 : ((w.alloc (segObj v n (0, 0, 0, 0) (.slice none 0 0) (1 : Nat) true)).alloc (ldObj w.heap.size (fun _ => ⟨#[]⟩) (fun _ => 0) (fun _ => 0))).heap.size = w.heap.size + 2 := by simp
  rw [World.size_alloc] at hl2
  clear hs1
  go_enter Tryz.func82, Tryz.ntmps82
  go_wp2_with fail
  refine KF.out.mono ?_
  rintro x w1 ⟨rfl, rfl⟩
  go_wp2_with fail
  generalize (w.alloc (segObj v n (0, 0, 0, 0) (.slice none 0 0) (1 : Nat) true)).alloc (ldObj w.heap.size (fun _ => ⟨#[]⟩) (fun _ => 0) (fun _ => 0)) = W2 at hs2 hl2 hB2 hsz2 ⊢
  have hv2 := (hB2.block _ hvl).trans HV.out
  generalize hss : w.heap.size = S0 at *
  have hSec := fun i (hi : i = ((2 + 16 * n : Nat) : Int)) => sectors_dead hv2 (S0 + 1) S0 n (0, 0, 0, 0) (.slice none 0 0) (1 : Nat) true hl2 hs2 i (by omega) (by omega) (by omega)
  have HSec := Lib.hid hSec
  have HB2 := Lib.hid hB2
  clear hSec hB2 hv2 hs2 hl2
  refine (HSec.out _ (by omega)).mono ?_
  rintro x w3 ⟨rfl, rfl⟩
  go_wp2
  exact bodyPost_ret (v := .tuple #[.pointer none, .int .i64 21]) (by simp [results, Tryz.results82, go_sem]) rfl ⟨rfl, hss ▸ HB2.out⟩
theorem all_dead {w : World} {v d : Nat} {f N : Nat} {fu st : Int} (hv : w.heap[v]? = some (viewObj d f N fu st true)) (hN : N ≤ 8192) (hn : 18 ≤ N) :
    Calls Tryz.prog 52 #[.pointer (some ⟨v, 0, none⟩), .int .i64 1] w fun x w' => x = .returned (.tuple #[.slice none 0 0, .int .i64 21]) ∧ Below w.heap.size w w' := by
  have K := Lib.hid (load_dead hv 0 hN (by omega))
  clear hv
  go_enter Tryz.func52, Tryz.ntmps52
  go_wp2_with fail
  go_loopw [6, 14] (fun _ i wr => i = .int .i64 0 ∧ w = wr) (fun _ _ _ => 0)
  case atStart => exact ⟨rfl, rfl⟩
  case round =>
    obtain ⟨rfl, rfl⟩ := hrel
    go_wp2_with fail
    refine K.out.mono ?_
    rintro x w2 ⟨rfl, hb⟩
    go_wp2
    exact bodyPost_ret (v := .tuple #[.slice none 0 0, .int .i64 21]) (by simp [results, Tryz.results52, go_sem]) rfl ⟨rfl, hb⟩
/-- Frames of nothing. -/
def framesP : Nat → List Fr
  | 0 => []
  | m + 1 => framesP m ++ [(((1 + m : Nat) : Int), ⟨#[]⟩)]
theorem framesP_length : ∀ m, (framesP m).length = m
  | 0 => rfl
  | m + 1 => by rw [framesP, List.length_append, framesP_length m]; rfl
/-- What waits, when a segment with so many of them was made. -/
def laidW (f n : Nat) (h : H4) : Nat → List (Nat × List UInt8)
  | 0 => sealAt (f + (2 + 16 * n + 0)) h.2.2.1 1 [pad52 (hdrL h)]
  | m + 1 => laidW f n h m ++ sealAt (f + (2 + 16 * n + (1 + m))) h.2.2.1 (m + 2) (frP h.2.2.1 (1 + m) (1 + m) ⟨#[]⟩)
theorem many7 : many (7 + (⟨#[]⟩ : ByteArray).size) = 1 := by decide
theorem frP1 (st e K : Nat) : (frP st e K ⟨#[]⟩).length = 1 := by rw [frP_length]; exact many7
theorem laidW_length (f n : Nat) (h : H4) : ∀ m, (laidW f n h m).length = 1 + m
  | 0 => by rw [laidW, sealAt_length]; rfl
  | m + 1 => by rw [laidW, List.length_append, laidW_length f n h m, sealAt_length, frP1]; omega
theorem build_fr1 (k : Int) (W : World) : (Instr.build 43 #[(0, .int .i64 k)]).run Tryz.prog W = .ok (frV k ⟨#[]⟩) W := by kernel_rfl
end Go.Proofs.YtoobiffhjjfpgaaGreat.Print

namespace Go.Proofs.YtoobiffhjjfpgaaGreat.Print
open Go.RowKit

theorem lastOf_app (A B : List (Nat × List UInt8)) (p : Nat) (s : List UInt8) : lastOf (A ++ B) p s = lastOf B p (lastOf A p s) := by simp [lastOf]
theorem lastOf_filter {q : Nat × List UInt8 → Bool} {p : Nat} (h : ∀ x, x.1 = p → q x = true) : ∀ (W : List (Nat × List UInt8)) (s : List UInt8), lastOf (W.filter q) p s = lastOf W p s
  | [], s => rfl
  | x :: r, s => by
    by_cases hq : q x = true
    · rw [List.filter_cons_of_pos hq]
      exact lastOf_filter h r (if x.1 = p then x.2 else s)
    · rw [List.filter_cons_of_neg hq]
      have hx : x.1 ≠ p := fun e => hq (h x e)
      have : lastOf (x :: r) p s = lastOf r p (if x.1 = p then x.2 else s) := rfl
      rw [this, if_neg hx]
      exact lastOf_filter h r s
/-- What has landed is what waited. -/
theorem sec_landed {lies : List (List UInt8)} {W : List (Nat × List UInt8)} {f N n k : Nat} (h1 : f + (2 + 16 * n + k) < lies.length) (h2 : 2 + 16 * n + k < N) :
    secO (landed lies (W.filter (inSpan f N))) (W.filter fun x => !inSpan f N x) f n k = secO lies W f n k := by
  have hin : ∀ x : Nat × List UInt8, x.1 = f + (2 + 16 * n + k) → inSpan f N x = true := fun x hx => by
    unfold inSpan
    rw [hx, Bool.and_eq_true, decide_eq_true_eq, decide_eq_true_eq]
    omega
  unfold secO secX
  rw [lastOf_none, landed_getD _ _ _ h1, lastOf_filter hin]
  intro x hx hxp
  have := (List.mem_filter.1 hx).2
  rw [hin x hxp] at this
  cases this
theorem secO_other {lies : List (List UInt8)} {W : List (Nat × List UInt8)} {f n n' e s c k : Nat} {L : List (List UInt8)} (hn : n' ≠ n) (hk : k < 16) (hL : e + L.length ≤ 16) :
    secO lies (W ++ sealAt (f + (2 + 16 * n + e)) s c L) f n' k = secO lies W f n' k := by
  unfold secO secX
  rw [lastOf_sealAt, dif_neg (by omega)]
theorem laid_other {lies : List (List UInt8)} {W : List (Nat × List UInt8)} {f n n' k : Nat} {h : H4} (hn : n' ≠ n) (hk : k < 16) : ∀ {m : Nat}, m ≤ 15 → secO lies (W ++ laidW f n h m) f n' k = secO lies W f n' k
  | 0, _ => secO_other hn hk (by simp)
  | m + 1, hm => by
    rw [laidW, ← List.append_assoc, secO_other hn hk (by rw [frP1]; omega)]
    exact laid_other hn hk (by omega)
theorem laid_inv {lies : List (List UInt8)} {W : List (Nat × List UInt8)} {f n : Nat} {h : H4} (hf : HFits h) (hr : ∀ k, 1 ≤ k → k < 16 → ∀ x, secO lies W f n k = some x → x.1 ≠ h.2.2.1) : ∀ {m : Nat}, m ≤ 15 →
    PutInv (secO lies (W ++ laidW f n h m) f n) h (framesP m) (1 + m)
  | 0, _ => putInv_create hf hr
  | m + 1, hm => by
    have ih := laid_inv hf hr (m := m) (by omega)
    have := putInv_append ih hf.2.2.2.1 (K := 1 + m) (p := ⟨#[]⟩) (by omega) (by omega) (by decide) (by rw [many7]; omega)
    rw [framesP_length, many7] at this
    rw [laidW, ← List.append_assoc]
    exact this
theorem laid_stamp {lies : List (List UInt8)} {W : List (Nat × List UInt8)} {f n k : Nat} {h : H4} (hf : HFits h) {x : Nat × Nat × List UInt8} : ∀ {m : Nat}, m ≤ 15 → secO lies (W ++ laidW f n h m) f n k = some x → x.1 = h.2.2.1 ∨ secO lies W f n k = some x
  | 0, _ => fun hx => by
    rw [laidW, secO_seal lies W f n 0 h.2.2.1 1 [pad52 (hdrL h)] (by intro p hp; rw [List.mem_singleton.1 hp]; exact pad52_length _) hf.2.2.2.1 (by omega) (by omega)] at hx
    by_cases hk : 0 ≤ k ∧ k < 0 + [pad52 (hdrL h)].length
    · rw [dif_pos hk] at hx; left; rw [← Option.some.inj hx]
    · rw [dif_neg hk] at hx; exact .inr hx
  | m + 1, hm => fun hx => by
    rw [laidW, ← List.append_assoc, secO_seal lies _ f n (1 + m) h.2.2.1 (m + 2) (frP h.2.2.1 (1 + m) (1 + m) ⟨#[]⟩) (pieces_52 _ _) hf.2.2.2.1 (by omega) (by omega)] at hx
    by_cases hk : 1 + m ≤ k ∧ k < 1 + m + (frP h.2.2.1 (1 + m) (1 + m) ⟨#[]⟩).length
    · rw [dif_pos hk] at hx; left; rw [← Option.some.inj hx]
    · rw [dif_neg hk] at hx; exact laid_stamp hf (by omega) hx
theorem PutInv.congr {O O' : Nat → Op3} {h : H4} {fs : List Fr} {e : Nat} (I : PutInv O h fs e) (hO : ∀ k, k < 16 → O' k = O k) : PutInv O' h fs e := by
  have h16 := I.e16
  exact ⟨by rw [hO 0 (by omega)]; exact I.head, I.runs.congr fun k hk1 hk2 => by rw [hO k (by omega)], I.e1, I.e16, fun k hk1 hk2 x hx => I.rest k hk1 hk2 x (by rw [← hO k hk2]; exact hx)⟩
theorem headP_none {O : Nat → Op3} (h : O 0 = none) : headP O = none := by unfold headP; rw [h]
theorem headP_congr {O O' : Nat → Op3} (h : O' 0 = O 0) : headP O' = headP O := by unfold headP; rw [h]
theorem loadP_inv {O : Nat → Op3} (h52 : O52 O) {h : H4} {fs : List Fr} {e : Nat} (hf : HFits h) (I : PutInv O h fs e) (n : Nat) : loadP O n = some ⟨n, h, fs, e⟩ := by
  obtain ⟨h1, h2⟩ := putInv_load h52 hf I
  unfold loadP
  rw [h1]
  simp only [h2]
theorem loadP_none {O : Nat → Op3} (h : headP O = none) (n : Nat) : loadP O n = none := by unfold loadP; rw [h]
theorem wipes_zero {f : Nat} {kept : List Nat} {ss : List SegL} {x : Nat × List UInt8} (h : x ∈ wipesP f kept ss) : ∃ S ∈ ss, S.n ∉ kept ∧ x = (f + (2 + 16 * S.n), zeroSec) := by
  unfold wipesP at h
  obtain ⟨S, hS, h2⟩ := List.mem_filterMap.1 h
  by_cases hk : S.n ∈ kept
  · rw [if_pos hk] at h2; cases h2
  · rw [if_neg hk] at h2; exact ⟨S, hS, hk, (Option.some.inj h2).symm⟩
theorem wipes_keep {lies : List (List UInt8)} {W : List (Nat × List UInt8)} {f n k : Nat} {kept : List Nat} {ss : List SegL} (h : n ∈ kept ∨ ∀ S ∈ ss, S.n ≠ n) (hk : k < 16) : secO lies (W ++ wipesP f kept ss) f n k = secO lies W f n k := by
  unfold secO secX
  rw [lastOf_app, lastOf_none]
  intro x hx
  obtain ⟨S, hS, hno, rfl⟩ := wipes_zero hx
  intro e
  have : S.n = n := by simp only at e; omega
  rcases h with h | h
  · exact hno (this ▸ h)
  · exact h S hS this
theorem wipes_gone {lies : List (List UInt8)} {W : List (Nat × List UInt8)} {f : Nat} {kept : List Nat} {ss : List SegL} {S : SegL} (hS : S ∈ ss) (hk : S.n ∉ kept) : secO lies (W ++ wipesP f kept ss) f S.n 0 = none := by
  unfold secO secX
  rw [lastOf_app]
  obtain ⟨x, hx, hx1, hx2⟩ := lastOf_mem (W := wipesP f kept ss) (p := f + (2 + 16 * S.n + 0)) (lastOf W (f + (2 + 16 * S.n + 0)) (lies.getD (f + (2 + 16 * S.n + 0)) [])) ⟨(f + (2 + 16 * S.n), zeroSec), List.mem_filterMap.2 ⟨S, hS, by rw [if_neg hk]⟩, rfl⟩
  rw [hx2]
  obtain ⟨_, _, _, rfl⟩ := wipes_zero hx
  exact zeroSec_shut
/-- three's segments. -/
def th1 : H4 := (3, 1, 1, 9)
def th2 : H4 := (3, 1, 2, 0)
def th3 : H4 := (3, 1, 3, 5)
theorem tf1 : HFits th1 := by unfold HFits th1; decide
theorem tf2 : HFits th2 := by unfold HFits th2; decide
theorem tf3 : HFits th3 := by unfold HFits th3; decide
def tW1 : List (Nat × List UInt8) := [] ++ laidW 0 0 th1 2
def tW2 : List (Nat × List UInt8) := tW1 ++ laidW 0 2 th2 5
def tW3 : List (Nat × List UInt8) := tW2 ++ laidW 0 3 th3 3
def tS1 : SegL := ⟨0, th1, framesP 2, 1 + 2⟩
def tS2 : SegL := ⟨2, th2, framesP 5, 1 + 5⟩
def tS3 : SegL := ⟨3, th3, framesP 3, 1 + 3⟩
theorem t_zero (n k : Nat) (hn : n < 6) (hk : k < 16) : secO (zeroDisk 98) [] 0 n k = none := secO_zero _ _ _ _ (by omega)
theorem t_w1 (n k : Nat) (hn : n < 6) (hk : k < 16) (h0 : n ≠ 0) : secO (zeroDisk 98) tW1 0 n k = none := by
  unfold tW1
  rw [laid_other h0 hk (by omega), t_zero n k hn hk]
theorem t_w2 (n k : Nat) (hn : n < 6) (hk : k < 16) (h0 : n ≠ 0) (h2 : n ≠ 2) : secO (zeroDisk 98) tW2 0 n k = none := by
  unfold tW2
  rw [laid_other h2 hk (by omega), t_w1 n k hn hk h0]
theorem t_w3 (n k : Nat) (hn : n < 6) (hk : k < 16) (h0 : n ≠ 0) (h2 : n ≠ 2) (h3 : n ≠ 3) : secO (zeroDisk 98) tW3 0 n k = none := by
  unfold tW3
  rw [laid_other h3 hk (by omega), t_w2 n k hn hk h0 h2]
theorem t_i1 : PutInv (secO (zeroDisk 98) tW3 0 0) th1 (framesP 2) (1 + 2) := by
  have h : PutInv (secO (zeroDisk 98) tW1 0 0) th1 (framesP 2) (1 + 2) := laid_inv tf1 (fun k h1 h2 x hx => by rw [t_zero 0 k (by omega) h2] at hx; cases hx) (by omega)
  refine h.congr fun k hk => ?_
  unfold tW3 tW2
  rw [laid_other (by omega) hk (by omega), laid_other (by omega) hk (by omega)]
theorem t_i2 : PutInv (secO (zeroDisk 98) tW3 0 2) th2 (framesP 5) (1 + 5) := by
  have h : PutInv (secO (zeroDisk 98) tW2 0 2) th2 (framesP 5) (1 + 5) := laid_inv tf2 (fun k h1 h2 x hx => by rw [t_w1 2 k (by omega) h2 (by omega)] at hx; cases hx) (by omega)
  refine h.congr fun k hk => ?_
  unfold tW3
  rw [laid_other (by omega) hk (by omega)]
theorem t_i3 : PutInv (secO (zeroDisk 98) tW3 0 3) th3 (framesP 3) (1 + 3) :=
  laid_inv tf3 (fun k h1 h2 x hx => by rw [t_w2 3 k (by omega) h2 (by omega) (by omega)] at hx; cases hx) (by omega)
theorem allP6 (lies : List (List UInt8)) (W : List (Nat × List UInt8)) (f : Nat) : allP lies W f 6 = (loadP (secO lies W f 0) 0).toList ++ (loadP (secO lies W f 1) 1).toList ++ (loadP (secO lies W f 2) 2).toList ++ (loadP (secO lies W f 3) 3).toList ++ (loadP (secO lies W f 4) 4).toList ++ (loadP (secO lies W f 5) 5).toList := by
  rw [allP_succ, allP_succ, allP_succ, allP_succ, allP_succ, allP_succ]
  rfl
theorem t_all : allP (zeroDisk 98) tW3 0 6 = [tS1, tS2, tS3] := by
  rw [allP6, loadP_inv (secO_52 _ _ _ _) tf1 t_i1, loadP_inv (secO_52 _ _ _ _) tf2 t_i2, loadP_inv (secO_52 _ _ _ _) tf3 t_i3,
    loadP_none (headP_none (t_w3 1 0 (by omega) (by omega) (by omega) (by omega) (by omega))), loadP_none (headP_none (t_w3 4 0 (by omega) (by omega) (by omega) (by omega) (by omega))), loadP_none (headP_none (t_w3 5 0 (by omega) (by omega) (by omega) (by omega) (by omega)))]
  rfl
theorem t_chain : chainP [tS1, tS2, tS3] 3 1 2 = [1, 2] := by decide
def tWx : List (Nat × List UInt8) := tW3 ++ wipesP 0 ([tS2, tS3].map (·.n)) [tS1, tS2, tS3]
theorem t_again : allP (landed (zeroDisk 98) (tWx.filter (inSpan 0 98))) (tWx.filter fun x => !inSpan 0 98 x) 0 6 = [tS2, tS3] := by
  have L : ∀ n k, n < 6 → k < 16 → secO (landed (zeroDisk 98) (tWx.filter (inSpan 0 98))) (tWx.filter fun x => !inSpan 0 98 x) 0 n k = secO (zeroDisk 98) tWx 0 n k := fun n k hn hk => sec_landed (by rw [zeroDisk_length]; omega) (by omega)
  have K : ∀ n k, n ≠ 0 → k < 16 → secO (zeroDisk 98) tWx 0 n k = secO (zeroDisk 98) tW3 0 n k := fun n k hn hk => wipes_keep (by
    by_cases h2 : n = 2
    · left; subst h2; decide
    · by_cases h3 : n = 3
      · left; subst h3; decide
      · right
        intro S hS
        simp at hS
        rcases hS with rfl | rfl | rfl
        · exact fun e => hn e.symm
        · exact fun e => h2 e.symm
        · exact fun e => h3 e.symm) hk
  have hz : ∀ n, n < 6 → n ≠ 0 → n ≠ 2 → n ≠ 3 → headP (secO (landed (zeroDisk 98) (tWx.filter (inSpan 0 98))) (tWx.filter fun x => !inSpan 0 98 x) 0 n) = none := fun n hn h0 h2 h3 => headP_none (by rw [L n 0 hn (by omega), K n 0 h0 (by omega), t_w3 n 0 hn (by omega) h0 h2 h3])
  have h0 : headP (secO (landed (zeroDisk 98) (tWx.filter (inSpan 0 98))) (tWx.filter fun x => !inSpan 0 98 x) 0 0) = none := headP_none (by
    rw [L 0 0 (by omega) (by omega)]
    exact wipes_gone (S := tS1) (by simp) (by decide))
  have I2 : PutInv (secO (landed (zeroDisk 98) (tWx.filter (inSpan 0 98))) (tWx.filter fun x => !inSpan 0 98 x) 0 2) th2 (framesP 5) (1 + 5) := t_i2.congr fun k hk => by rw [L 2 k (by omega) hk, K 2 k (by omega) hk]
  have I3 : PutInv (secO (landed (zeroDisk 98) (tWx.filter (inSpan 0 98))) (tWx.filter fun x => !inSpan 0 98 x) 0 3) th3 (framesP 3) (1 + 3) := t_i3.congr fun k hk => by rw [L 3 k (by omega) hk, K 3 k (by omega) hk]
  rw [allP6, loadP_inv (secO_52 _ _ _ _) tf2 I2, loadP_inv (secO_52 _ _ _ _) tf3 I3,
    loadP_none (hz 1 (by omega) (by omega) (by omega) (by omega)), loadP_none (hz 4 (by omega) (by omega) (by omega) (by omega)), loadP_none (hz 5 (by omega) (by omega) (by omega) (by omega)), loadP_none h0]
  rfl
end Go.Proofs.YtoobiffhjjfpgaaGreat.Print

namespace Go.Proofs.YtoobiffhjjfpgaaGreat.Print
open Go.RowKit
attribute [local go_sem] run_loadVar_scalar
set_option linter.unusedSimpArgs false

theorem lit_ints {W : World} {g : Nat} {l : List Nat} {A : Array Value} (hA : A = (oC l).toArray) (h : W.heap[g]? = some (.cells A 3)) : IntsAt W (some ⟨g, 0, none⟩) l := by
  subst hA
  intro i hi
  refine ⟨_, rfl, ?_⟩
  rw [Addr.add_lit, Nat.zero_add, cell_of h]
  simp [oC, hi]
theorem build_lit3 (a b c : Int) (W : World) : (Instr.buildSlice 36 3 #[(0, .int .i64 a), (1, .int .i64 b), (2, .int .i64 c)]).run Tryz.prog W = .ok (.slice (some ⟨W.heap.size, 0, none⟩) 3 3) (W.alloc (.cells #[.int .i64 a, .int .i64 b, .int .i64 c] 3)) := by kernel_rfl
theorem build_lit2 (a b : Int) (W : World) : (Instr.buildSlice 36 2 #[(0, .int .i64 a), (1, .int .i64 b)]).run Tryz.prog W = .ok (.slice (some ⟨W.heap.size, 0, none⟩) 2 2) (W.alloc (.cells #[.int .i64 a, .int .i64 b] 3)) := by kernel_rfl
theorem build_hd4 (a b c d : Int) (W : World) : (Instr.build 138 #[(0, .int .i64 a), (1, .int .u32 b), (2, .int .u32 c), (3, .int .i64 d)]).run Tryz.prog W = .ok (hdV a b c d) W := by kernel_rfl
/-- What was changed beside is new. -/
theorem grow_upd {B : Nat} {w w1 w2 : World} {F F' : Foot} (hb : Below B w w1) (hB : B ≤ w.heap.size) (hF : ∀ i, F i → B ≤ i) (hU : Upd F w1 w2) (hN : ∀ i, F' i → F i ∨ w1.heap.size ≤ i) : Below B w w2 ∧ ∀ i, F' i → B ≤ i :=
  ⟨hb.trans (hU.below (Nat.le_trans hB hb.size) (fun k hk hc => by have := hF k hc; omega)), fun i hi => (hN i hi).elim (hF i) (fun h => Nat.le_trans (Nat.le_trans hB hb.size) h)⟩
theorem t_len : tW3.length = 13 := by simp [tW3, tW2, tW1, laidW_length]
end Go.Proofs.YtoobiffhjjfpgaaGreat.Print
