/- weighlocklaw13: a turn of sectors. A drawn region whose last operation waits for all others: the others first, the last by itself. weighlocklaw13: a turn of one bit. weighlocklaw13: a sector sealed anew. -/
import Derived.Test.YtoabdpobpmbckaaRefM
import Derived.StillTail
import Derived.Deep.RegionHeld3
import Derived.StillTailTactics
import Derived.Deep.AppendLies
namespace Go.Proofs.Ytoabdpobpmbckaa.Print
open Go.RowKit
attribute [local go_sem] run_loadVar_scalar

abbrev turnA (a f s c b : Int) : Array Value := #[.int .i64 a, .int .i64 f, .int .u32 s, .int .i64 c, .int .i64 b]
set_option maxRecDepth 100000 in
set_option maxHeartbeats 3200000 in
attribute [-go_sem] Instr.build Instr.fill loadVar in
/-- What is no turn. -/
theorem turned_no (at_ fr st ct bit : Int) (X : Nat → ByteArray) (hno : (at_ < 0 ∨ 15 < at_ ∨ fr < 0 ∨ 15 < fr) ∨ (¬ (0 ≤ bit ∧ bit < 512) ∧ ¬ (1 ≤ ct ∧ ct ≤ 65535))) (w : World) :
    Calls Try.prog 29 #[.agg (turnA at_ fr st ct bit), .agg (secA X)] w fun x w' => x = .returned (.agg (secA X)) ∧ Below w.heap.size w w' := by
  have hz := zero_secs
  have hsz := secA_size (fun _ => eB)
  have hsy := secA_size X
  have hoy := secA_one X
  have hls := fun (W : World) (g : Nat) (hg : W.heap[g]? = some (.cells (secA X) 49)) => load_secs hg
  obtain ⟨Z, hZ⟩ : ∃ Z, secA (fun _ => eB) = Z := ⟨_, rfl⟩
  obtain ⟨Y, hY⟩ : ∃ Y, secA X = Y := ⟨_, rfl⟩
  rw [hZ] at hz hsz
  rw [hY] at hsy hoy hls ⊢
  have e0 := alloc_old (alloc_old (alloc_at w (.cells (turnA at_ fr st ct bit) 60)) (.cells Y 49)) (.cells Z 49)
  have e1 := alloc_old (alloc_at' (w.alloc (.cells (turnA at_ fr st ct bit) 60)) (.cells Y 49) (w.heap.size + 1) (by simp)) (.cells Z 49)
  have e2 := alloc_at' ((w.alloc (.cells (turnA at_ fr st ct bit) 60)).alloc (.cells Y 49)) (.cells Z 49) (w.heap.size + 1 + 1) (by simp)
  have hB : Below w.heap.size w (((w.alloc (.cells (turnA at_ fr st ct bit) 60)).alloc (.cells Y 49)).alloc (.cells Z 49)) := (((Below.refl _ _).alloc (Nat.le_refl _) _).alloc (by simp) _).alloc (by simp; omega) _
  obtain ⟨W, hW⟩ : ∃ W, ((w.alloc (.cells (turnA at_ fr st ct bit) 60)).alloc (.cells Y 49)).alloc (.cells Z 49) = W := ⟨_, rfl⟩
  rw [hW] at e0 e1 e2 hB
  have hl := hls _ _ e1
  have hst := store_all e2 Y (by rw [hsz, hsy]) hoy
  have hl2 := hls _ _ (row_set e2 Y)
  have hBn := below_setRow hB (show w.heap.size ≤ w.heap.size + 1 + 1 by omega) Y
  obtain ⟨c0, c1, c2, c3, c4, _⟩ := five_of e0
  have HN := Lib.hid hno
  clear hno hZ hY hls
  go_enter Try.func29, Try.ntmps29
  by_cases h1 : at_ < 0
  · have k1 : decide (at_ < 0) = true := decide_eq_true h1
    clear h1
    go_wp2
    exact bodyPost_ret (v := .agg Y) (by simp [results, Try.results29, asAddr, hl2]) rfl ⟨rfl, hBn⟩
  have k1 : decide (at_ < 0) = false := decide_eq_false h1
  by_cases h2 : 15 < at_
  · have k2 : decide (15 < at_) = true := decide_eq_true h2
    clear h1 h2
    go_wp2
    exact bodyPost_ret (v := .agg Y) (by simp [results, Try.results29, asAddr, hl2]) rfl ⟨rfl, hBn⟩
  have k2 : decide (15 < at_) = false := decide_eq_false h2
  by_cases h3 : fr < 0
  · have k3 : decide (fr < 0) = true := decide_eq_true h3
    clear h1 h2 h3
    go_wp2
    exact bodyPost_ret (v := .agg Y) (by simp [results, Try.results29, asAddr, hl2]) rfl ⟨rfl, hBn⟩
  have k3 : decide (fr < 0) = false := decide_eq_false h3
  by_cases h4 : 15 < fr
  · have k4 : decide (15 < fr) = true := decide_eq_true h4
    clear h1 h2 h3 h4
    go_wp2
    exact bodyPost_ret (v := .agg Y) (by simp [results, Try.results29, asAddr, hl2]) rfl ⟨rfl, hBn⟩
  have k4 : decide (15 < fr) = false := decide_eq_false h4
  have hno := HN.out.resolve_left (by omega)
  by_cases h5 : 0 ≤ bit
  · have k5 : decide (0 ≤ bit) = true := decide_eq_true h5
    have k6 : decide (bit < 512) = false := decide_eq_false (by omega)
    by_cases h7 : 1 ≤ ct
    · have k7 : decide (1 ≤ ct) = true := decide_eq_true h7
      have k8 : decide (ct ≤ 65535) = false := decide_eq_false (by omega)
      clear h1 h2 h3 h4 h5 h7 hno HN
      go_wp2
      exact bodyPost_ret (v := .agg Y) (by simp [results, Try.results29, asAddr, hl2]) rfl ⟨rfl, hBn⟩
    · have k7 : decide (1 ≤ ct) = false := decide_eq_false h7
      clear h1 h2 h3 h4 h5 h7 hno HN
      go_wp2
      exact bodyPost_ret (v := .agg Y) (by simp [results, Try.results29, asAddr, hl2]) rfl ⟨rfl, hBn⟩
  · have k5 : decide (0 ≤ bit) = false := decide_eq_false h5
    by_cases h7 : 1 ≤ ct
    · have k7 : decide (1 ≤ ct) = true := decide_eq_true h7
      have k8 : decide (ct ≤ 65535) = false := decide_eq_false (by omega)
      clear h1 h2 h3 h4 h5 h7 hno HN
      go_wp2
      exact bodyPost_ret (v := .agg Y) (by simp [results, Try.results29, asAddr, hl2]) rfl ⟨rfl, hBn⟩
    · have k7 : decide (1 ≤ ct) = false := decide_eq_false h7
      clear h1 h2 h3 h4 h5 h7 hno HN
      go_wp2
      exact bodyPost_ret (v := .agg Y) (by simp [results, Try.results29, asAddr, hl2]) rfl ⟨rfl, hBn⟩
end Go.Proofs.Ytoabdpobpmbckaa.Print

namespace Go.Proofs.Ytoabdpobpmbckaa.Print
open Go

section
variable {P : Program} {Q : Exit → Act → World → Prop} {md : Region.Mode} {S : World → Prop}

/-- What the others leave: the last operation is to come. -/
def popQ (P : Program) (ops : Array Oper) (n : Nat) (Q : Exit → Act → World → Prop) : Exit → Act → World → Prop
  | .normal, a, w => wpOp P ops Q n (fun a' w' => Q .normal a' w') a w
  | e, a, w => Q e a w
def popB (ops : Array Oper) (n : Nat) : Bool :=
  decide (ops.size = n + 1) && (List.range (n + 1)).all fun j => match ops[j]? with
    | some o => o.guard.isNone && o.after.all (fun e => decide (e.on < j))
    | none => false
def popLastB (md : Region.Mode) (ops : Array Oper) (n : Nat) : Bool := (List.range n).all fun i => Region.waitsFor md ops n i || (List.range n).any fun j => Region.waitsFor md ops n j && Region.waitsFor md ops j i

structure PopIs (md : Region.Mode) (ops opsP : Array Oper) (n : Nat) : Prop where
  size : ops.size = n + 1
  same : ∀ j, j < n → opsP[j]? = ops[j]?
  psize : opsP.size = n
  free : ∀ (j : Nat) (o : Oper), ops[j]? = some o → o.guard = none
  back : ∀ (j : Nat) (o : Oper), ops[j]? = some o → ∀ e ∈ o.after, e.on < j
  last : ∀ i, i < n → Region.waitsFor md ops n i = true ∨ ∃ j, j < n ∧ Region.waitsFor md ops n j = true ∧ Region.waitsFor md ops j i = true
/-- What is listed has all that it waits for listed. -/
def Closed (md : Region.Mode) (ops : Array Oper) (listed : Array Bool) : Prop := ∀ (j : Nat) (o : Oper), ops[j]? = some o → listed.getD j false = true → ∀ e ∈ o.after, Region.binds md e = true → listed.getD e.on false = true
theorem Closed.set {md : Region.Mode} {ops : Array Oper} {listed : Array Bool} (h : Closed md ops listed) {i : Nat} (hi : i ∈ Region.ready md ops listed) : Closed md ops (listed.setIfInBounds i true) := by
  obtain ⟨_, oi, hoi, hall⟩ := mem_ready.1 hi
  intro j oj hj hl e he hb
  by_cases hij : i = j
  · subst hij
    have : oj = oi := Option.some.inj (hj.symm.trans hoi)
    subst this
    exact getD_set_true (hall e he hb)
  · rw [getD_set_ne false hij] at hl
    exact getD_set_true (h j oj hj hl e he hb)
theorem pop_is {l : List Oper} {n : Nat} (h1 : popB l.toArray n = true) (h2 : popLastB md l.toArray n = true) : PopIs md l.toArray (l.take n).toArray n := by
  simp only [popB, Bool.and_eq_true, decide_eq_true_eq] at h1
  have hs := h1.1
  have ha := List.all_eq_true.1 h1.2
  have hl : l.length = n + 1 := by simpa using hs
  have hg : ∀ (j : Nat) (o : Oper), l.toArray[j]? = some o → o.guard.isNone = true ∧ o.after.all (fun e => decide (e.on < j)) = true := by
    intro j o hj
    have hlt : j < l.length := by
      have := (Array.getElem?_eq_some_iff.1 hj).1
      simpa using this
    have := ha j (List.mem_range.2 (by omega))
    rw [hj] at this
    simpa using this
  refine ⟨hs, fun j hj => by simp [hj], by simp; omega, fun j o hj => by simpa using (hg j o hj).1, fun j o hj e he => by
    have := Array.all_eq_true'.1 (hg j o hj).2 e he
    simpa using this, fun i hi => ?_⟩
  have h3 := List.all_eq_true.1 h2 i (List.mem_range.2 hi)
  rw [Bool.or_eq_true] at h3
  rcases h3 with h3 | h3
  · exact .inl h3
  · obtain ⟨j, hj, hj2⟩ := List.any_eq_true.1 h3
    rw [Bool.and_eq_true] at hj2
    exact .inr ⟨j, List.mem_range.1 hj, hj2.1, hj2.2⟩
theorem pop_all {ops opsP : Array Oper} {n : Nat} (hp : PopIs md ops opsP n) {listed : Array Bool} (hl : listed.size = n) (h : Region.ready md opsP listed = []) : ∀ j, j < n → listed.getD j false = true := by
  intro j
  induction j using Nat.strongRecOn with
  | _ j ih =>
    intro hj
    cases hc : listed.getD j false with
    | true => rfl
    | false =>
      exfalso
      have hu : listed.getD j true = false := getD_in (by omega) hc
      have hjs : j < opsP.size := by rw [hp.psize]; exact hj
      have hr : j ∈ Region.ready md opsP listed := mem_ready.2 ⟨hu, opsP[j], Array.getElem?_eq_getElem hjs, fun e he hb => by
        have hlt := hp.back j opsP[j] (by rw [← hp.same j hj]; exact Array.getElem?_eq_getElem hjs) e he
        exact ih e.on hlt (by omega)⟩
      rw [h] at hr
      cases hr
theorem getD_push {listed : Array Bool} {n : Nat} (hl : listed.size = n) (b d : Bool) (j : Nat) (hj : j < n) : (listed.push b).getD j d = listed.getD j d := by
  have h1 : j < listed.size := by omega
  have h2 : j < (listed.push b).size := by simp; omega
  simp only [Array.getD, h1, h2, dif_pos]
  exact Array.getElem_push_lt h1
theorem getD_push_last {listed : Array Bool} {n : Nat} (hl : listed.size = n) (b d : Bool) : (listed.push b).getD n d = b := by
  subst hl
  simp [Array.getD]
theorem set_push {listed : Array Bool} {n : Nat} (hl : listed.size = n) (i : Nat) (hi : i < n) : (listed.push false).setIfInBounds i true = (listed.setIfInBounds i true).push false := by
  apply Array.ext
  · simp
  · intro k h1 h2
    simp at h1
    by_cases hk : k < listed.size
    · rw [Array.getElem_push_lt (by simpa using hk), Array.getElem_setIfInBounds (by simp; omega), Array.getElem_setIfInBounds hk, Array.getElem_push_lt hk]
    · have : k = listed.size := by omega
      subst this
      rw [Array.getElem_setIfInBounds (by simp), if_neg (by omega)]
      simp [Array.getElem_push]
/-- An operation of the others is the same in the whole region. -/
theorem wpOp_whole {ops opsP : Array Oper} {n : Nat} (hp : PopIs md ops opsP n) {i : Nat} (hi : i < n) {K K' : Act → World → Prop} (hK : ∀ a w, K a w → K' a w) {a : Act} {w : World}
    (h : wpOp P opsP (popQ P ops n Q) i K a w) : wpOp P ops Q i K' a w := by
  have h' := wpOp_mono hK h
  unfold wpOp at h' ⊢
  rw [hp.same i hi] at h'
  cases ho : ops[i]? with
  | none => rw [ho] at h'; exact h'
  | some o =>
    rw [ho] at h'
    have hg := hp.free i o ho
    have hw : ∀ y, Region.wanted o y = true := fun y => by simp [Region.wanted, hg]
    simp only [hw, if_true] at h' ⊢
    rcases h' with h' | ⟨h1, h2⟩
    · left
      unfold Oper.wp at h' ⊢
      generalize (execOp a.eval o).run P w = r at h' ⊢
      cases r with
      | ok m w' => cases m <;> exact h'
      | halt x w' => cases x <;> exact h'
    · exact .inr ⟨h1, h2⟩
theorem wpAny_pop {ops opsP : Array Oper} {n : Nat} (hp : PopIs md ops opsP n) : ∀ (f : Nat) (listed : Array Bool) (a : Act) (w : World), listed.size = n → Closed md opsP listed →
    wpAny P md opsP (popQ P ops n Q) f listed a w → wpAny P md ops Q (f + 1) (listed.push false) a w := by
  have hlast : ∀ (f : Nat) (listed : Array Bool) (a : Act) (w : World), listed.size = n → Region.ready md opsP listed = [] → popQ P ops n Q .normal a w → wpAny P md ops Q (f + 1) (listed.push false) a w := by
    intro f listed a w hl hr hq
    have hall := pop_all hp hl hr
    have hn : n < ops.size := by rw [hp.size]; omega
    have hnr : n ∈ Region.ready md ops (listed.push false) := mem_ready.2 ⟨getD_push_last hl _ _, ops[n], Array.getElem?_eq_getElem hn, fun e he hb => by
      have hlt := hp.back n ops[n] (Array.getElem?_eq_getElem hn) e he
      rw [getD_push hl _ _ _ hlt]
      exact hall _ hlt⟩
    refine ⟨fun h0 => (by rw [h0] at hnr; cases hnr), fun i hi => ?_⟩
    obtain ⟨hu, o, ho, _⟩ := mem_ready.1 hi
    have hile : i < n + 1 := by have := (Array.getElem?_eq_some_iff.1 ho).1; rw [hp.size] at this; exact this
    have hin : i = n := by
      rcases Nat.lt_or_ge i n with h | h
      · rw [getD_push hl _ _ _ h] at hu
        have := hall i h
        rw [getD_both hu] at this
        cases this
      · omega
    subst hin
    have hnil : Region.ready md ops ((listed.push false).setIfInBounds i true) = [] := by
      apply List.eq_nil_iff_forall_not_mem.2
      intro k hk
      obtain ⟨hku, ok, hok, _⟩ := mem_ready.1 hk
      have hkl : k < i + 1 := by have := (Array.getElem?_eq_some_iff.1 hok).1; rw [hp.size] at this; exact this
      by_cases hki : i = k
      · subst hki
        simp [hl] at hku
      · rw [getD_set_ne true hki, getD_push hl _ _ _ (by omega)] at hku
        have := hall k (by omega)
        rw [getD_both hku] at this
        cases this
    refine wpOp_mono (fun a' w' h => ?_) hq
    cases f with
    | zero => exact ⟨hnil, h⟩
    | succ f => exact ⟨fun _ => h, by rw [hnil]; simp⟩
  intro f
  induction f with
  | zero => intro listed a w hl _ h; exact hlast 0 listed a w hl h.1 h.2
  | succ f ih =>
    intro listed a w hl hcl h
    by_cases hr : Region.ready md opsP listed = []
    · exact hlast (f + 1) listed a w hl hr (h.1 hr)
    · have hsub : ∀ i, i ∈ Region.ready md ops (listed.push false) → i < n ∧ i ∈ Region.ready md opsP listed := by
        intro i hi
        obtain ⟨hu, o, ho, hall⟩ := mem_ready.1 hi
        have hile : i < n + 1 := by have := (Array.getElem?_eq_some_iff.1 ho).1; rw [hp.size] at this; exact this
        rcases Nat.lt_or_ge i n with hlt | hge
        · refine ⟨hlt, mem_ready.2 ⟨by rw [getD_push hl _ _ _ hlt] at hu; exact hu, o, by rw [hp.same i hlt]; exact ho, fun e he hb => ?_⟩⟩
          have h1 := hall e he hb
          have hb2 := hp.back i o ho e he
          rwa [getD_push hl _ _ _ (by omega)] at h1
        · exfalso
          have hin : i = n := by omega
          subst hin
          obtain ⟨k, hk⟩ := List.exists_mem_of_ne_nil _ hr
          obtain ⟨hku, ok, hok, _⟩ := mem_ready.1 hk
          have hkn : k < i := by have := (Array.getElem?_eq_some_iff.1 hok).1; rw [hp.psize] at this; exact this
          have hgo : ∀ m, m < i → Region.waitsFor md ops i m = true → listed.getD m false = true := by
            intro m hm hwm
            obtain ⟨o', ho', e, he, hb, hon⟩ := Region.waitsFor_spec hwm
            have : o' = o := Option.some.inj (ho'.symm.trans ho)
            subst this
            have h1 := hall e he hb
            rwa [hon, getD_push hl _ _ _ hm] at h1
          rcases hp.last k hkn with hw | ⟨m, hm, hw1, hw2⟩
          · have h1 := hgo k hkn hw
            rw [getD_both hku] at h1
            cases h1
          · have h1 := hgo m hm hw1
            obtain ⟨o', ho', e, he, hb, hon⟩ := Region.waitsFor_spec hw2
            have h2 := hcl m o' (by rw [hp.same m hm]; exact ho') h1 e he hb
            rw [hon, getD_both hku] at h2
            cases h2
      obtain ⟨k, hk⟩ := List.exists_mem_of_ne_nil _ hr
      refine ⟨fun h0 => ?_, fun i hi => ?_⟩
      · exfalso
        obtain ⟨hku, ok, hok, hall⟩ := mem_ready.1 hk
        have hkn : k < n := by have := (Array.getElem?_eq_some_iff.1 hok).1; rw [hp.psize] at this; exact this
        have : k ∈ Region.ready md ops (listed.push false) := mem_ready.2 ⟨by rw [getD_push hl _ _ _ hkn]; exact hku, ok, by rw [← hp.same k hkn]; exact hok, fun e he hb => by
          have h1 := hall e he hb
          have hb2 := hp.back k ok (by rw [← hp.same k hkn]; exact hok) e he
          rwa [getD_push hl _ _ _ (by omega)]⟩
        rw [h0] at this
        cases this
      · obtain ⟨hin, hir⟩ := hsub i hi
        have h2 := h.2 i hir
        rw [set_push hl i hin]
        exact wpOp_whole hp hin (fun a' w' h' => ih _ a' w' (by simp [hl]) (hcl.set hir) h') h2
/-- A drawn region whose last operation waits for all others: a condition S on the world holds till it comes. -/
theorem wp_region_pop {id : Nat} {a : Act} {w : World} {l : List Oper} (n : Nat) (hm : P.follows .mixedOrders = true) (h1 : popB l.toArray n = true) (h2 : popLastB .any l.toArray n = true)
    (hS : S w.drew)
    (h : S w.drew → wpAnyH P .any (l.take n).toArray (popQ P l.toArray n Q) S n (Array.replicate n false) a w.drew) : (Code.region id l.toArray true).wp P Q a w := by
  have hp := pop_is h1 h2
  refine wp_region_any hm ?_
  rw [hp.size, Array.replicate_succ]
  exact wpAny_pop hp n _ a _ (by simp) (fun j o _ hl => by rw [getD_replicate_false] at hl; cases hl) (wpAny_of_held _ _ _ _ (h hS))
end
end Go.Proofs.Ytoabdpobpmbckaa.Print

namespace Go.Proofs.Ytoabdpobpmbckaa.Print
open Go.RowKit
attribute [local go_sem] run_loadVar_scalar

/-- A byte of which a bit is turned is a byte. -/
theorem bit_byte (x : UInt8) (b : Nat) (hb : b < 8) : ∃ y : UInt8, bits .xor .u8 (x.toNat : Int) (2 ^ b % 256) = (y.toNat : Int) := by
  have hx : x.toNat < 256 := by have := x.toNat_lt; omega
  have hp : 2 ^ b < 256 := Nat.lt_of_lt_of_le (Nat.pow_lt_pow_right (by decide) hb) (Nat.le_refl (2 ^ 8))
  have hxl : x.toNat ^^^ 2 ^ b < 2 ^ 8 := Nat.xor_lt_two_pow hx hp
  refine ⟨UInt8.ofNat (x.toNat ^^^ 2 ^ b), ?_⟩
  have e0 : ((2 : Int) ^ b % 256) = ((2 ^ b : Nat) : Int) := by
    have h3 : ((2 ^ b : Nat) : Int) = (2 : Int) ^ b := by rw [Int.natCast_pow]; rfl
    rw [← h3]
    generalize 2 ^ b = m at hp
    omega
  have h1 : (BitVec.ofInt 8 (x.toNat : Int)).toNat = x.toNat := by
    rw [BitVec.ofInt_natCast, BitVec.toNat_ofNat]; exact Nat.mod_eq_of_lt (by omega)
  have h2 : (BitVec.ofInt 8 ((2 ^ b : Nat) : Int)).toNat = 2 ^ b := by
    rw [BitVec.ofInt_natCast, BitVec.toNat_ofNat]; exact Nat.mod_eq_of_lt hp
  rw [e0, UInt8.toNat_ofNat']
  show IntKind.u8.wrap ((BitVec.ofInt 8 (x.toNat : Int) ^^^ BitVec.ofInt 8 ((2 ^ b : Nat) : Int)).toNat : Int) = _
  rw [BitVec.toNat_xor, h1, h2, IntKind.wrap_u8]
  omega
set_option maxRecDepth 100000 in
set_option maxHeartbeats 3200000 in
attribute [-go_sem] Instr.build Instr.fill loadVar in
theorem turned_bit (A F bit : Nat) (st ct : Int) (X : Nat → ByteArray) (hX : ∀ k, k < 16 → (X k).size = 64) (hA : A < 16) (hF : F < 16) (hbit : bit < 512) (w : World) :
    Calls Try.prog 29 #[.agg (turnA A F st ct bit), .agg (secA X)] w fun x w' => ∃ X', x = .returned (.agg (secA X')) ∧ (∀ k, k < 16 → (X' k).size = 64) ∧ Below w.heap.size w w' := by
  have hz := zero_secs
  have hsz := secA_size (fun _ => eB)
  have hsy := secA_size X
  obtain ⟨Z, hZ⟩ : ∃ Z, secA (fun _ => eB) = Z := ⟨_, rfl⟩
  rw [hZ] at hz hsz
  have e0 := alloc_old (alloc_old (alloc_at w (.cells (turnA A F st ct bit) 60)) (.cells (secA X) 49)) (.cells Z 49)
  have e1 := alloc_old (alloc_at' (w.alloc (.cells (turnA A F st ct bit) 60)) (.cells (secA X) 49) (w.heap.size + 1) (by simp)) (.cells Z 49)
  have e2 := alloc_at' ((w.alloc (.cells (turnA A F st ct bit) 60)).alloc (.cells (secA X) 49)) (.cells Z 49) (w.heap.size + 1 + 1) (by simp)
  have hB : Below w.heap.size w (((w.alloc (.cells (turnA A F st ct bit) 60)).alloc (.cells (secA X) 49)).alloc (.cells Z 49)) := (((Below.refl _ _).alloc (Nat.le_refl _) _).alloc (by simp) _).alloc (by simp; omega) _
  obtain ⟨W, hW⟩ : ∃ W, ((w.alloc (.cells (turnA A F st ct bit) 60)).alloc (.cells (secA X) 49)).alloc (.cells Z 49) = W := ⟨_, rfl⟩
  rw [hW] at e0 e1 e2 hB
  obtain ⟨c0, c1, c2, c3, c4, _⟩ := five_of e0
  obtain ⟨s, hs⟩ : ∃ s, X A = s := ⟨_, rfl⟩
  have hss : s.size = 64 := by rw [← hs]; exact hX A hA
  have d1 := sec_cell e1 A hA
  rw [hs] at d1
  have cv := run_bytes_of_string (P := Try.prog) W 9 136 5 s Try.underlying9 Try.underlying136 Try.underlying5
  obtain ⟨cp, hcp⟩ : ∃ cp, grownCap W s.size 0 5 = cp := ⟨_, rfl⟩
  rw [hcp] at cv
  have k1 : decide ((A : Int) < 0) = false := decide_eq_false (by omega)
  have k2 : decide (15 < (A : Int)) = false := decide_eq_false (by omega)
  have k3 : decide ((F : Int) < 0) = false := decide_eq_false (by omega)
  have k4 : decide (15 < (F : Int)) = false := decide_eq_false (by omega)
  have k5 : decide (0 ≤ (bit : Int)) = true := decide_eq_true (by omega)
  have k6 : decide ((bit : Int) < 512) = true := decide_eq_true (by omega)
  have n2 : (A : Int) < 16 := by omega
  have HX := Lib.hid hX
  clear hcp hZ hX hs
  go_enter Try.func29, Try.ntmps29
  go_wp2_with fail
  obtain ⟨i, hi⟩ : ∃ i, bit / 8 = i := ⟨_, rfl⟩
  obtain ⟨b, hb⟩ : ∃ b, bit % 8 = b := ⟨_, rfl⟩
  have hbl : b < 8 := by omega
  have his : i < s.size := by omega
  have hg : (bytesRow s cp)[i]? = some (.int .u8 (s.data[i].toNat : Int)) := bytesRow_at s cp i his
  obtain ⟨x, hx⟩ : ∃ x, s.data[i] = x := ⟨_, rfl⟩
  rw [hx] at hg
  obtain ⟨W3, hW3⟩ : ∃ W3, (W.alloc (.cells (bytesRow s cp) 5 ((bytesRow s cp).size, (bytesRow s cp).size + 1))).drew = W3 := ⟨_, rfl⟩
  have hat : W3.heap[W.heap.size]? = some (.cells (bytesRow s cp) 5 ((bytesRow s cp).size, (bytesRow s cp).size + 1)) := by rw [← hW3]; exact alloc_at _ _
  have hB3 : Below w.heap.size w W3 := by rw [← hW3]; exact (hB.alloc hB.size _).drew
  have f0 : W3.heap[w.heap.size]? = some (.cells (turnA A F st ct bit) 60) := by rw [← hW3]; exact alloc_old e0 _
  have f1 : W3.heap[w.heap.size + 1]? = some (.cells (secA X) 49) := by rw [← hW3]; exact alloc_old e1 _
  have f2 : W3.heap[w.heap.size + 1 + 1]? = some (.cells Z 49) := by rw [← hW3]; exact alloc_old e2 _
  have hWl := lt_of e2
  have hc : W3.cell? ⟨W.heap.size, i, none⟩ = some (.int .u8 (x.toNat : Int)) := by rw [cell_of hat, hg]
  have hf : W3.frozen? ⟨W.heap.size, i, none⟩ = false := by
    have : i < (bytesRow s cp).size := by simp [bytesRow]; have : s.data.size = s.size := rfl; omega
    simp [World.frozen?, hat]
    omega
  rw [hW3]
  have q1 : (bit : Int) / 8 = (i : Int) := by omega
  have q2 : (bit : Int) % 8 = (b : Int) := by omega
  have q3 : (bit : Int).tdiv 8 = (i : Int) := by rw [Int.tdiv_eq_ediv_of_nonneg (by omega)]; omega
  have q4 : (bit : Int).tmod 8 = (b : Int) := by rw [Int.tmod_eq_emod_of_nonneg (by omega)]; omega
  have q5 : IntKind.i64.wrap (i : Int) = i := by rw [IntKind.wrap_i64]; omega
  have q6 : IntKind.i64.wrap (b : Int) = b := by rw [IntKind.wrap_i64]; omega
  have q7 : (0 : Int) ≤ i := by omega
  have q8 : (i : Int) < 64 := by omega
  have q9 : (0 : Int) ≤ b := by omega
  clear c0 c1 c2 c3 c4 hi hb hW cv
  obtain ⟨c0, c1, c2, c3, c4, _⟩ := five_of f0
  obtain ⟨y, hV⟩ := bit_byte x b hbl
  have HW3 := Lib.hid hW3
  have HF1 := Lib.hid f1
  have HF2 := Lib.hid f2
  have HAT := Lib.hid hat
  have HF0 := Lib.hid f0
  have HE1 := Lib.hid e1
  clear hW3 f0 f1 f2 e0 e1 e2 hat d1
  go_still_tail 15, (by kernel_rfl)
  change wpList _ _ _ _ _ W3.drew
  obtain ⟨W4, hW4⟩ : ∃ W4, W3.drew = W4 := ⟨_, rfl⟩
  have g1 : W4.heap[w.heap.size + 1]? = some (.cells (secA X) 49) := by rw [← hW4]; exact HF1.out
  have g2 : W4.heap[w.heap.size + 1 + 1]? = some (.cells Z 49) := by rw [← hW4]; exact HF2.out
  have g3 : W4.heap[W.heap.size]? = some (.cells (bytesRow s cp) 5 ((bytesRow s cp).size, (bytesRow s cp).size + 1)) := by rw [← hW4]; exact HAT.out
  have g0 : W4.heap[w.heap.size]? = some (.cells (turnA A F st ct bit) 60) := by rw [← hW4]; exact HF0.out
  have hB4 : Below w.heap.size w W4 := by rw [← hW4]; exact hB3.drew
  have hc4 : W4.cell? ⟨W.heap.size, i, none⟩ = some (.int .u8 (x.toNat : Int)) := by rw [← hW4]; exact hc
  have hf4 : W4.frozen? ⟨W.heap.size, i, none⟩ = false := by rw [← hW4]; exact hf
  rw [hW4]
  clear c0 c1 c2 c3 c4 hc hf hW4 hB3
  obtain ⟨W5, hW5⟩ : ∃ W5, W4.setCell ⟨W.heap.size, i, none⟩ (.int .u8 (y.toNat : Int)) = W5 := ⟨_, rfl⟩
  have hU5 : Upd (fun j => j = W.heap.size) W4 W5 := by rw [← hW5]; exact (Upd.refl (fun j => j = W.heap.size) W4).setCell (p := ⟨W.heap.size, i, none⟩) (fun _ => rfl) _
  have h1 := hU5.at_ g1 (by omega)
  have h2 := hU5.at_ g2 (by omega)
  have h0 := hU5.at_ g0 (by have := lt_of HE1.out; omega)
  have h3 : W5.heap[W.heap.size]? = some (.cells ((bytesRow s cp).setIfInBounds i (.int .u8 (y.toNat : Int))) 5 ((bytesRow s cp).size, (bytesRow s cp).size + 1)) := by rw [← hW5]; exact cells_set _ _ _ _ _ _ g3 _
  have hB5 : Below w.heap.size w W5 := hB4.trans (hU5.below hB4.size (fun j hj e => by have := hB.size; omega))
  obtain ⟨l, hl⟩ : ∃ l, s.data.toList.set i y = l := ⟨_, rfl⟩
  have hll : l.length = 64 := by rw [← hl, List.length_set, ← size_list]; exact hss
  have hsd : s.data.size = s.size := rfl
  have hcells : ∀ k (hk : k < l.length), W5.cell? ((⟨W.heap.size, 0, none⟩ : Addr).add k) = some (.int .u8 (l[k].toNat : Int)) := by
    intro k hk
    rw [Addr.add_lit, Nat.zero_add, cell_of_row W5 W.heap.size k _ _ _ h3, Array.getElem?_setIfInBounds]
    by_cases hki : i = k
    · subst hki
      rw [if_pos rfl, if_pos (by simp [bytesRow]; omega)]
      simp [← hl]
    · have hk2 : k < s.data.size := by omega
      rw [if_neg hki, bytesRow_at s cp k hk2]
      have e1 : l[k]? = some (s.data[k]'hk2) := by
        rw [← hl, List.getElem?_set_ne hki]
        simp
      rw [List.getElem?_eq_getElem hk] at e1
      rw [Option.some.inj e1]
  have hcv := run_convert_bytes_back (P := Try.prog) W5 136 9 5 (⟨W.heap.size, 0, none⟩ : Addr) cp l Try.underlying136 Try.underlying5 Try.underlying9 hcells
  rw [hll] at hcv
  have hbl : (bs l).size = 64 := by rw [bs_size]; exact hll
  have hcv2 : (convert 136 9 (.slice (some ⟨W.heap.size, 0, none⟩) 64 cp)).run Try.prog W5 = .ok (.string (bs l)) W5 := hcv
  obtain ⟨sv, hsv⟩ : ∃ sv, bs l = sv := ⟨_, rfl⟩
  rw [hsv] at hbl hcv2
  clear hcv hsv
  have cA := sec_cell h1 A hA
  have cz := fun o => free_of h1 o
  obtain ⟨d0, d1, d2, d3, d4, _⟩ := five_of h0
  obtain ⟨W6, hW6⟩ : ∃ W6, W5.setCell ⟨w.heap.size + 1, A, none⟩ (.string sv) = W6 := ⟨_, rfl⟩
  have hU6 : Upd (fun j => j = w.heap.size + 1) W5 W6 := by rw [← hW6]; exact (Upd.refl (fun j => j = w.heap.size + 1) W5).setCell (p := ⟨w.heap.size + 1, A, none⟩) (fun _ => rfl) _
  have t1 : W6.heap[w.heap.size + 1]? = some (.cells (secA (upd X A sv)) 49) := by rw [← hW6, cells_set _ _ _ _ _ _ h1, secA_set]
  have t2 := hU6.at_ h2 (by omega)
  have hB6 := hB5.trans (hU6.below hB5.size (fun j hj e => by omega))
  have hld := load_secs t1
  have hsn := secA_size (upd X A sv)
  have hst := store_all t2 (secA (upd X A sv)) (by rw [hsz, hsn]) (secA_one _)
  have hl2 := load_secs (row_set t2 (secA (upd X A sv)))
  have hBn := below_setRow hB6 (show w.heap.size ≤ w.heap.size + 1 + 1 by omega) (secA (upd X A sv))
  obtain ⟨N, hN⟩ : ∃ N, secA (upd X A sv) = N := ⟨_, rfl⟩
  rw [hN] at hld hsn hst hl2 hBn
  have HNN := Lib.hid hN
  have HBn := Lib.hid hBn
  clear g0 g1 g2 g3 hcells h0 h1 h2 h3 hl hN hB6 t1 t2 hU6 hU5 hB5 hB4
  go_wp2
  exact bodyPost_ret (v := .agg N) (by simp [results, Try.results29, asAddr, hl2]) rfl ⟨upd X A sv, by rw [HNN.out], fun k hk => by unfold upd; split; exact hbl; exact HX.out k hk, HBn.out⟩
end Go.Proofs.Ytoabdpobpmbckaa.Print

namespace Go.Proofs.Ytoabdpobpmbckaa.Print
open Go.RowKit
attribute [local go_sem] run_loadVar_scalar
set_option linter.unusedSimpArgs false in
set_option maxRecDepth 100000 in
set_option maxHeartbeats 3200000 in
attribute [-go_sem] Instr.build Instr.fill loadVar in
/-- A sector sealed anew. -/
theorem turned_seal (A F st ct : Nat) (bit : Int) (X : Nat → ByteArray) (hX : ∀ k, k < 16 → (X k).size = 64) (hA : A < 16) (hF : F < 16) (hst : st < 4294967296) (hc1 : 1 ≤ ct) (hc2 : ct ≤ 65535) (hbit : ¬ (0 ≤ bit ∧ bit < 512)) (w : World) :
    Calls Try.prog 29 #[.agg (turnA A F st ct bit), .agg (secA X)] w fun x w' => x = .returned (.agg (secA (upd X A (bs (sealL st ct ((X F).extract 6 58).data.toList))))) ∧ Below w.heap.size w w' := by
  have hz := zero_secs
  have hsz := secA_size (fun _ => eB)
  have hsy := secA_size X
  have hoy := secA_one (upd X A (bs (sealL st ct ((X F).extract 6 58).data.toList)))
  have hsn := secA_size (upd X A (bs (sealL st ct ((X F).extract 6 58).data.toList)))
  have hls := fun (W : World) (g : Nat) (hg : W.heap[g]? = some (.cells (secA (upd X A (bs (sealL st ct ((X F).extract 6 58).data.toList)))) 49)) => load_secs hg
  have hset := secA_set X A (bs (sealL st ct ((X F).extract 6 58).data.toList))
  have K := Lib.hid (fun w => rseal_any st ct ((X F).extract 6 58) hst (by omega) (by have := hX F hF; simp; omega) w)
  have hXF := hX F hF
  obtain ⟨Z, hZ⟩ : ∃ Z, secA (fun _ => eB) = Z := ⟨_, rfl⟩
  obtain ⟨N, hN⟩ : ∃ N, secA (upd X A (bs (sealL st ct ((X F).extract 6 58).data.toList))) = N := ⟨_, rfl⟩
  obtain ⟨s1, hs1⟩ : ∃ s1, bs (sealL st ct ((X F).extract 6 58).data.toList) = s1 := ⟨_, rfl⟩
  rw [hZ] at hz hsz
  rw [hN] at hoy hsn hls hset ⊢
  rw [hs1] at hset K
  have e0 := alloc_old (alloc_old (alloc_at w (.cells (turnA A F st ct bit) 60)) (.cells (secA X) 49)) (.cells Z 49)
  have e1 := alloc_old (alloc_at' (w.alloc (.cells (turnA A F st ct bit) 60)) (.cells (secA X) 49) (w.heap.size + 1) (by simp)) (.cells Z 49)
  have e2 := alloc_at' ((w.alloc (.cells (turnA A F st ct bit) 60)).alloc (.cells (secA X) 49)) (.cells Z 49) (w.heap.size + 1 + 1) (by simp)
  have hB : Below w.heap.size w (((w.alloc (.cells (turnA A F st ct bit) 60)).alloc (.cells (secA X) 49)).alloc (.cells Z 49)) := (((Below.refl _ _).alloc (Nat.le_refl _) _).alloc (by simp) _).alloc (by simp; omega) _
  obtain ⟨W, hW⟩ : ∃ W, ((w.alloc (.cells (turnA A F st ct bit) 60)).alloc (.cells (secA X) 49)).alloc (.cells Z 49) = W := ⟨_, rfl⟩
  rw [hW] at e0 e1 e2 hB
  obtain ⟨c0, c1, c2, c3, c4, _⟩ := five_of e0
  have d1 := sec_cell e1 F hF
  have k1 : decide ((A : Int) < 0) = false := decide_eq_false (by omega)
  have k2 : decide (15 < (A : Int)) = false := decide_eq_false (by omega)
  have k3 : decide ((F : Int) < 0) = false := decide_eq_false (by omega)
  have k4 : decide (15 < (F : Int)) = false := decide_eq_false (by omega)
  have k7 : decide (1 ≤ (ct : Int)) = true := decide_eq_true (by omega)
  have k8 : decide ((ct : Int) ≤ 65535) = true := decide_eq_true (by omega)
  have n1 : (F : Int) < 16 := by omega
  have n2 : (A : Int) < 16 := by omega
  have n3 : (6 : Int) ≤ 58 := by omega
  have n4 : (58 : Int) ≤ ((X F).size : Int) := by omega
  have HB := Lib.hid hbit
  have HN := Lib.hid hN
  have HXX := Lib.hid hX
  obtain ⟨bb, hbb⟩ : ∃ bb, decide (0 ≤ bit) = bb := ⟨_, rfl⟩
  have k6 : bb = true → decide (bit < 512) = false := fun h => decide_eq_false (by rw [← hbb] at h; have := of_decide_eq_true h; omega)
  have HK6 := Lib.hid k6
  clear hbit hN hs1 hZ hX k6
  go_enter Try.func29, Try.ntmps29
  have cA := sec_cell e1 A hA
  have cz := fun o => free_of e1 o
  have HSET := Lib.hid hset
  clear hset
  cases bb
  case' true => have k6 := HK6.out rfl
  all_goals
    go_wp2_with fail
    go_cut [] (fun wx => wx.heap[w.heap.size + 1]? = some (.cells N 49) ∧ wx.heap[w.heap.size + 1 + 1]? = some (.cells Z 49) ∧ Below w.heap.size w wx)
    case first =>
      refine wp_region_pop 15 (by kernel_rfl) (by kernel_rfl) (by kernel_rfl) (S := fun w' => w'.cell? ⟨w.heap.size, 0, none⟩ = some (.int .i64 A) ∧ w'.cell? ⟨w.heap.size, 1, none⟩ = some (.int .i64 F) ∧ w'.cell? ⟨w.heap.size, 2, none⟩ = some (.int .u32 st) ∧ w'.cell? ⟨w.heap.size, 3, none⟩ = some (.int .i64 ct) ∧ w'.cell? ⟨w.heap.size + 1, F, none⟩ = some (.string (X F)) ∧ (∀ o, w'.frozen? ⟨w.heap.size + 1, o, none⟩ = false) ∧ Below W.heap.size W w') ⟨c0, c1, c2, c3, d1, cz, (Below.refl _ _).drew⟩ (fun hHeld => ?_)
      simp only [List.take_succ_cons, List.take_zero]
      rw [show Array.replicate 15 false = #[false, false, false, false, false, false, false, false, false, false, false, false, false, false, false] from rfl]
      refine wpAnyH_take (i := 0) (v := ?_) rfl (by kernel_rfl) (by kernel_rfl) (by kernel_rfl) (fun _ _ _ h => h) (Or.inl ⟨by rfl, ?_⟩) hHeld ?_
      rotate_left 1
      · (intro w' hSw; obtain ⟨z0, z1, z2, z3, z4, z5, _⟩ := hSw; simp only [List.getElem_toArray, List.getElem_cons_zero, List.getElem_cons_succ]; go_simp; try with_reducible rfl)
      simp only [Act.put, List.getElem_toArray, List.getElem_cons_zero, List.getElem_cons_succ, List.setIfInBounds_toArray, List.set_cons_zero, List.set_cons_succ]
      refine wpAnyH_take (i := 1) (v := ?_) rfl (by kernel_rfl) (by kernel_rfl) (by kernel_rfl) (fun _ _ _ h => h) (Or.inl ⟨by rfl, ?_⟩) hHeld ?_
      rotate_left 1
      · (intro w' hSw; obtain ⟨z0, z1, z2, z3, z4, z5, _⟩ := hSw; simp only [List.getElem_toArray, List.getElem_cons_zero, List.getElem_cons_succ]; go_simp; try with_reducible rfl)
      simp only [Act.put, List.getElem_toArray, List.getElem_cons_zero, List.getElem_cons_succ, List.setIfInBounds_toArray, List.set_cons_zero, List.set_cons_succ]
      refine wpAnyH_take (i := 2) (v := ?_) rfl (by kernel_rfl) (by kernel_rfl) (by kernel_rfl) (fun _ _ _ h => h) (Or.inl ⟨by rfl, ?_⟩) hHeld ?_
      rotate_left 1
      · (intro w' hSw; obtain ⟨z0, z1, z2, z3, z4, z5, _⟩ := hSw; simp only [List.getElem_toArray, List.getElem_cons_zero, List.getElem_cons_succ]; go_simp; try with_reducible rfl)
      simp only [Act.put, List.getElem_toArray, List.getElem_cons_zero, List.getElem_cons_succ, List.setIfInBounds_toArray, List.set_cons_zero, List.set_cons_succ]
      refine wpAnyH_take (i := 3) (v := ?_) rfl (by kernel_rfl) (by kernel_rfl) (by kernel_rfl) (fun _ _ _ h => h) (Or.inl ⟨by rfl, ?_⟩) hHeld ?_
      rotate_left 1
      · (intro w' hSw; obtain ⟨z0, z1, z2, z3, z4, z5, _⟩ := hSw; simp only [List.getElem_toArray, List.getElem_cons_zero, List.getElem_cons_succ]; go_simp; try with_reducible rfl)
      simp only [Act.put, List.getElem_toArray, List.getElem_cons_zero, List.getElem_cons_succ, List.setIfInBounds_toArray, List.set_cons_zero, List.set_cons_succ]
      refine wpAnyH_take (i := 4) (v := ?_) rfl (by kernel_rfl) (by kernel_rfl) (by kernel_rfl) (fun _ _ _ h => h) (Or.inl ⟨by rfl, ?_⟩) hHeld ?_
      rotate_left 1
      · (intro w' hSw; obtain ⟨z0, z1, z2, z3, z4, z5, _⟩ := hSw; simp only [List.getElem_toArray, List.getElem_cons_zero, List.getElem_cons_succ]; go_simp; try with_reducible rfl)
      simp only [Act.put, List.getElem_toArray, List.getElem_cons_zero, List.getElem_cons_succ, List.setIfInBounds_toArray, List.set_cons_zero, List.set_cons_succ]
      refine wpAnyH_take (i := 5) (v := ?_) rfl (by kernel_rfl) (by kernel_rfl) (by kernel_rfl) (fun _ _ _ h => h) (Or.inl ⟨by rfl, ?_⟩) hHeld ?_
      rotate_left 1
      · (intro w' hSw; obtain ⟨z0, z1, z2, z3, z4, z5, _⟩ := hSw; simp only [List.getElem_toArray, List.getElem_cons_zero, List.getElem_cons_succ]; go_simp; try with_reducible rfl)
      simp only [Act.put, List.getElem_toArray, List.getElem_cons_zero, List.getElem_cons_succ, List.setIfInBounds_toArray, List.set_cons_zero, List.set_cons_succ]
      refine wpAnyH_take (i := 6) (v := ?_) rfl (by kernel_rfl) (by kernel_rfl) (by kernel_rfl) (fun _ _ _ h => h) (Or.inl ⟨by rfl, ?_⟩) hHeld ?_
      rotate_left 1
      · (intro w' hSw; obtain ⟨z0, z1, z2, z3, z4, z5, _⟩ := hSw; simp only [List.getElem_toArray, List.getElem_cons_zero, List.getElem_cons_succ]; go_simp; try with_reducible rfl)
      simp only [Act.put, List.getElem_toArray, List.getElem_cons_zero, List.getElem_cons_succ, List.setIfInBounds_toArray, List.set_cons_zero, List.set_cons_succ]
      refine wpAnyH_take (i := 7) (v := ?_) rfl (by kernel_rfl) (by kernel_rfl) (by kernel_rfl) (fun _ _ _ h => h) (Or.inl ⟨by rfl, ?_⟩) hHeld ?_
      rotate_left 1
      · (intro w' hSw; obtain ⟨z0, z1, z2, z3, z4, z5, _⟩ := hSw; simp only [List.getElem_toArray, List.getElem_cons_zero, List.getElem_cons_succ]; go_simp; try with_reducible rfl)
      simp only [Act.put, List.getElem_toArray, List.getElem_cons_zero, List.getElem_cons_succ, List.setIfInBounds_toArray, List.set_cons_zero, List.set_cons_succ]
      refine wpAnyH_take (i := 8) (v := ?_) rfl (by kernel_rfl) (by kernel_rfl) (by kernel_rfl) (fun _ _ _ h => h) (Or.inl ⟨by rfl, ?_⟩) hHeld ?_
      rotate_left 1
      · (intro w' hSw; obtain ⟨z0, z1, z2, z3, z4, z5, _⟩ := hSw; simp only [List.getElem_toArray, List.getElem_cons_zero, List.getElem_cons_succ]; go_simp; try with_reducible rfl)
      simp only [Act.put, List.getElem_toArray, List.getElem_cons_zero, List.getElem_cons_succ, List.setIfInBounds_toArray, List.set_cons_zero, List.set_cons_succ]
      refine wpAnyH_take (i := 9) (v := ?_) rfl (by kernel_rfl) (by kernel_rfl) (by kernel_rfl) (fun _ _ _ h => h) (Or.inl ⟨by rfl, ?_⟩) hHeld ?_
      rotate_left 1
      · (intro w' hSw; obtain ⟨z0, z1, z2, z3, z4, z5, _⟩ := hSw; simp only [List.getElem_toArray, List.getElem_cons_zero, List.getElem_cons_succ]; go_simp; try with_reducible rfl)
      simp only [Act.put, List.getElem_toArray, List.getElem_cons_zero, List.getElem_cons_succ, List.setIfInBounds_toArray, List.set_cons_zero, List.set_cons_succ]
      refine wpAnyH_take (i := 10) (v := ?_) rfl (by kernel_rfl) (by kernel_rfl) (by kernel_rfl) (fun _ _ _ h => h) (Or.inl ⟨by rfl, ?_⟩) hHeld ?_
      rotate_left 1
      · (intro w' hSw; obtain ⟨z0, z1, z2, z3, z4, z5, _⟩ := hSw; simp only [List.getElem_toArray, List.getElem_cons_zero, List.getElem_cons_succ]; go_simp; try with_reducible rfl)
      simp only [Act.put, List.getElem_toArray, List.getElem_cons_zero, List.getElem_cons_succ, List.setIfInBounds_toArray, List.set_cons_zero, List.set_cons_succ]
      refine wpAnyH_take (i := 11) (v := ?_) rfl (by kernel_rfl) (by kernel_rfl) (by kernel_rfl) (fun _ _ _ h => h) (Or.inl ⟨by rfl, ?_⟩) hHeld ?_
      rotate_left 1
      · (intro w' hSw; obtain ⟨z0, z1, z2, z3, z4, z5, _⟩ := hSw; simp only [List.getElem_toArray, List.getElem_cons_zero, List.getElem_cons_succ]; go_simp; try with_reducible rfl)
      simp only [Act.put, List.getElem_toArray, List.getElem_cons_zero, List.getElem_cons_succ, List.setIfInBounds_toArray, List.set_cons_zero, List.set_cons_succ]
      refine wpAnyH_take (i := 13) (v := ?_) rfl (by kernel_rfl) (by kernel_rfl) (by kernel_rfl) (fun _ _ _ h => h) (Or.inl ⟨by rfl, ?_⟩) hHeld ?_
      rotate_left 1
      · (intro w' hSw; obtain ⟨z0, z1, z2, z3, z4, z5, _⟩ := hSw; simp only [List.getElem_toArray, List.getElem_cons_zero, List.getElem_cons_succ]; go_simp; try with_reducible rfl)
      simp only [Act.put, List.getElem_toArray, List.getElem_cons_zero, List.getElem_cons_succ, List.setIfInBounds_toArray, List.set_cons_zero, List.set_cons_succ]
      refine wpAnyH_ready (rs := [12]) (by kernel_rfl) (by simp) ?_
      refine AllReadyH.cons rfl (fun K' hK => ?_) AllReadyH.nil
      simp only [List.getElem_toArray, List.getElem_cons_zero, List.getElem_cons_succ]
      go_simp
      go_at_call 77
      (with_reducible refine (K.out _).mono ?_)
      rintro x wf ⟨rfl, hb⟩
      have hbW := Lib.hid ((Below.refl W.heap.size W).drew.trans hb)
      have E1 := Lib.hid (later_of e1 hbW.out)
      obtain ⟨a0, a1, a2, a3, a4, _⟩ := five_of (later_of e0 hbW.out)
      have b1 := sec_cell E1.out F hF
      have b2 := sec_cell E1.out A hA
      have bz := (fun o => free_of E1.out o)
      refine hK.out _ _ ⟨a0, a1, a2, a3, b1, bz, hbW.out⟩ (fun hHeld2 => ?_)
      clear hK K' hHeld
      simp only [Act.put, List.setIfInBounds_toArray, List.set_cons_zero, List.set_cons_succ]
      refine wpAnyH_take (i := 14) (v := ?_) rfl (by kernel_rfl) (by kernel_rfl) (by kernel_rfl) (fun _ _ _ h => h) (Or.inl ⟨by rfl, ?_⟩) hHeld2 ?_
      rotate_left 1
      · (intro w' hSw; obtain ⟨z0, z1, z2, z3, z4, z5, _⟩ := hSw; simp only [List.getElem_toArray, List.getElem_cons_zero, List.getElem_cons_succ]; go_simp; try with_reducible rfl)
      simp only [Act.put, List.getElem_toArray, List.getElem_cons_zero, List.getElem_cons_succ, List.setIfInBounds_toArray, List.set_cons_zero, List.set_cons_succ]
      refine wpAnyH_done (by kernel_rfl) ?_ _
      simp only [popQ]
      refine wpOp_step rfl (fun K' hK => ?_)
      simp only [List.getElem_toArray, List.getElem_cons_zero, List.getElem_cons_succ]
      rw [if_pos (by rfl)]
      go_simp
      refine hK _ _ ?_
      clear hK
      go_wp2_with fail
      go_meet
      have hU : Upd (fun i => i = w.heap.size + 1) wf (wf.setCell ⟨w.heap.size + 1, A, none⟩ (.string s1)) := (Upd.refl (fun i => i = w.heap.size + 1) wf).setCell (p := ⟨w.heap.size + 1, A, none⟩) (fun _ => rfl) _
      refine ⟨?_, hU.at_ (later_of e2 hbW.out) (by omega), ?_⟩
      · rw [cells_set _ _ _ _ _ _ E1.out, HSET.out]
      · exact (hB.trans (hbW.out.mono hB.size)).setCell (by show w.heap.size ≤ w.heap.size + 1; omega) _
    case rest =>
      obtain ⟨t1, t2, t3⟩ := hcut
      have hld := hls _ _ t1
      have hst := store_all t2 N (by rw [hsz, hsn]) hoy
      have hl2 := hls _ _ (row_set t2 N)
      have hBn := Lib.hid (below_setRow t3 (show w.heap.size ≤ w.heap.size + 1 + 1 by omega) N)
      clear t1 t2 t3 hB e0 e1 e2 hW K c0 c1 c2 c3 c4 d1 cA cz hls
      go_wp2
      exact bodyPost_ret (v := .agg N) (by simp [results, Try.results29, asAddr, hl2]) rfl ⟨rfl, hBn.out⟩
end Go.Proofs.Ytoabdpobpmbckaa.Print
