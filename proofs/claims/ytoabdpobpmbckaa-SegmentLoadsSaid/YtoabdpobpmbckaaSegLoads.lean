/- SegmentLoads: the segment by value that is put; sixteen writes; the sectors as they lie. SegmentLoads: turns; what is not gone through; facts of a load that is held. SegmentLoads, the walk. SegmentLoads, whole; a slice of turns that came in. -/
import Derived.Test.YtoabdpobpmbckaaPutsV
import Derived.Test.YtoabdpobpmbckaaRefL
import Derived.Test.YtoabdpobpmbckaaTurned
import Derived.Test.YtoabdpobpmbckaaFrsOpen
import Derived.ProofKit
import Derived.OpenShut
import Derived.Deep.Slices
import Derived.ChangeSame
namespace Go.Proofs.Ytoabdpobpmbckaa.Print
open Go.RowKit

/-- A segment by value, in a variable. -/
structure MadeRel (h : H4) (bM base : Nat) (fs : List Fr) (e : Nat) (X : Nat → ByteArray) (ao : Option Addr) (cap : Nat) (w : World) : Prop where
  made : w.heap[bM]? = some (.cells (madeA h (.slice ao fs.length cap) e X) 51)
  list : LAt w ao cap fs
  mb : base ≤ bM
  lb : ∀ a, ao = some a → base ≤ a.block ∧ a.block ≠ bM
  e1 : 1 ≤ e
  e16 : e ≤ 16
  fe : fs.length + 1 ≤ e
  x64 : ∀ k, k < 16 → (X k).size = 64
theorem MadeRel.below {h : H4} {bM base : Nat} {fs : List Fr} {e : Nat} {X : Nat → ByteArray} {ao : Option Addr} {cap : Nat} {w w' : World} (R : MadeRel h bM base fs e X ao cap w) (hb : Below w.heap.size w w') : MadeRel h bM base fs e X ao cap w' :=
  ⟨later_of R.made hb, R.list.below hb, R.mb, R.lb, R.e1, R.e16, R.fe, R.x64⟩
theorem putS_64 {X : Nat → ByteArray} (hX : ∀ k, k < 16 → (X k).size = 64) (st c e : Nat) (L : List (List UInt8)) (h52 : ∀ p ∈ L, p.length = 52) : ∀ k, k < 16 → (putS X st c e L k).size = 64 := by
  intro k hk
  unfold putS
  by_cases hc : e ≤ k ∧ k < e + L.length
  · rw [dif_pos hc, bs_size]
    exact sealL_length st c _ (h52 _ (List.getElem_mem _))
  · rw [dif_neg hc]; exact hX k hk
/-- One more frame. -/
theorem ref_step {h : H4} {bM base : Nat} {fs : List Fr} {e : Nat} {X : Nat → ByteArray} {ao : Option Addr} {cap : Nat} {w : World} (R : MadeRel h bM base fs e X ao cap w) (hst : h.2.2.1 < 4294967296) (hbw : base ≤ w.heap.size) (k : Int) (p : ByteArray) :
    Calls Try.prog 28 #[.agg (madeA h (.slice ao fs.length cap) e X), frV k p] w fun x w' => ∃ (fs' : List Fr) (e' : Nat) (X' : Nat → ByteArray) (ao' : Option Addr) (cap' : Nat) (at_ er : Int), x = .returned (.agg (apA h (.slice ao' fs'.length cap') e' X' at_ er)) ∧ Below w.heap.size w w' ∧
      MadeRel h bM base fs' e' X' ao' cap' (w'.setRow bM (madeA h (.slice ao' fs'.length cap') e' X')) ∧ Below base w (w'.setRow bM (madeA h (.slice ao' fs'.length cap') e' X')) ∧ w'.heap[bM]? = some (.cells (madeA h (.slice ao fs.length cap) e X) 51) := by
  have hMl := lt_of R.made
  rcases put_or_no k p e with ⟨er, hno⟩ | ⟨K, rfl, h1, h2, h3, h4⟩
  · refine (rappend_no h hst ao fs.length cap e X R.e1 R.e16 k p er hno w).mono ?_
    rintro x w' ⟨hx, hb⟩
    have R' := R.below hb
    have hU : Upd (fun i => i = bM) w' (w'.setRow bM (madeA h (.slice ao fs.length cap) e X)) := (Upd.refl (fun i => i = bM) w').setRow (fun _ => rfl) _
    exact ⟨fs, e, X, ao, cap, 0, er, hx, hb, ⟨row_set R'.made _, R'.list.keep hU (fun a ha e => (R.lb a ha).2 e), R.mb, R.lb, R.e1, R.e16, R.fe, R.x64⟩, below_setRow (hb.mono hbw) R.mb _, R'.made⟩
  · have hm1 : 1 ≤ many (7 + p.size) := by unfold many; split <;> omega
    refine (rappend_go h hst ao cap e X fs R.e1 R.e16 (by have := R.fe; have := R.e16; omega) K p h1 h2 h3 h4 R.list).mono ?_
    rintro x w' ⟨ao', cap', hx, hL, hao, hb⟩
    have R' := R.below hb
    have hlb : ∀ a, ao' = some a → base ≤ a.block ∧ a.block ≠ bM := fun a ha => by have := hao a ha; exact ⟨by omega, by omega⟩
    have hU : Upd (fun i => i = bM) w' (w'.setRow bM (madeA h (.slice ao' (fs ++ [((K : Int), p)]).length cap') (e + many (7 + p.size)) (putS X h.2.2.1 (fs.length + 2) e (frP h.2.2.1 e K p)))) := (Upd.refl (fun i => i = bM) w').setRow (fun _ => rfl) _
    refine ⟨fs ++ [((K : Int), p)], e + many (7 + p.size), putS X h.2.2.1 (fs.length + 2) e (frP h.2.2.1 e K p), ao', cap', e, 0, by rw [List.length_append]; exact hx, hb, ⟨row_set R'.made _, hL.keep hU (fun a ha e => (hlb a ha).2 e), R.mb, hlb, by have := R.e1; omega, h4, by have := R.fe; rw [List.length_append]; show fs.length + 1 + 1 ≤ _; omega, putS_64 R.x64 _ _ _ _ (pieces_52 _ _)⟩, below_setRow (hb.mono hbw) R.mb _, R'.made⟩
/-- The M of an Appended. -/
theorem field_m (h : H4) (lv : Value) (e : Nat) (X : Nat → ByteArray) (a r : Int) : (apA h lv e X a r).extract 0 22 = madeA h lv e X := by
  apply Array.ext
  · simp [apA_size, madeA_size]
  · intro i h1 h2
    have hi : i < 22 := by rwa [madeA_size] at h2
    rw [Array.getElem_extract]
    simp only [apA, madeA, Array.getElem_ofFn, Nat.zero_add, if_pos hi]
/-- What was written, sector by sector. -/
def wl (X : Nat → ByteArray) (j : Nat) : List (Nat × List UInt8) := (List.range j).map fun k => (1 + (2 + k), (X k).data.toList)
theorem wl_succ (X : Nat → ByteArray) (j : Nat) : wl X (j + 1) = wl X j ++ [(1 + (2 + j), (X j).data.toList)] := by simp [wl, List.range_succ]
theorem wl_length (X : Nat → ByteArray) (j : Nat) : (wl X j).length = j := by simp [wl]
theorem wl_last (X : Nat → ByteArray) (z : List UInt8) : ∀ j k, k < j → lastOf (wl X j) (1 + (2 + k)) z = (X k).data.toList
  | 0, _, h => absurd h (by omega)
  | j + 1, k, h => by
    rw [wl_succ, lastOf_snoc]
    by_cases hk : k = j
    · subst hk; rw [if_pos rfl]
    · rw [if_neg (by simp; omega)]
      exact wl_last X z j k (by omega)
theorem wl_secX (X : Nat → ByteArray) (k : Nat) (hk : k < 16) : secX (zeroDisk 36) (wl X 16) 1 (2 + 16 * 0 + k) = (X k).data.toList := by
  unfold secX
  rw [show 1 + (2 + 16 * 0 + k) = 1 + (2 + k) by omega]
  exact wl_last X _ 16 k hk
end Go.Proofs.Ytoabdpobpmbckaa.Print

namespace Go.Proofs.Ytoabdpobpmbckaa.Print
open Go.RowKit
attribute [local go_sem] run_loadVar_scalar

abbrev T5 := Int × Int × Int × Int × Int
def turnC (t : T5) : List Value := [.int .i64 t.1, .int .i64 t.2.1, .int .u32 t.2.2.1, .int .i64 t.2.2.2.1, .int .i64 t.2.2.2.2]
abbrev turnV (t : T5) : Array Value := turnA t.1 t.2.1 t.2.2.1 t.2.2.2.1 t.2.2.2.2
/-- Turns in memory. -/
def TurnsAt (w : World) (ao : Option Addr) (l : List T5) : Prop := ∀ i (h : i < l.length), ∃ a, ao = some a ∧ ∀ j u, (turnC l[i])[j]? = some u → w.cell? (a.add (i * 5 + j)) = some u
theorem TurnsAt.keep {S : Nat → Prop} {w w1 : World} {ao : Option Addr} {l : List T5} (h : TurnsAt w ao l) (hU : Upd S w w1) (hn : ∀ a, ao = some a → 0 < l.length → ¬ S a.block) : TurnsAt w1 ao l := by
  intro i hi
  obtain ⟨a, ha, hc⟩ := h i hi
  refine ⟨a, ha, fun j u hu => ?_⟩
  have hcw := hc j u hu
  rw [World.cell?_of_block (hU.other _ (World.block_lt_of_cell? w _ hcw) (by rw [addr_block]; exact hn a ha (by omega)))]
  exact hcw
theorem TurnsAt.below {w w1 : World} {ao : Option Addr} {l : List T5} (h : TurnsAt w ao l) (hb : Below w.heap.size w w1) : TurnsAt w1 ao l := h.keep (S := fun _ => False) (Upd.of_below hb) (fun _ _ _ h => h)
theorem turnSize (t : T5) : (Try.prog.info? 60).map (·.size) = some (turnC t).length := by kernel_rfl
theorem TurnsAt.load {w : World} {ao : Option Addr} {l : List T5} (h : TurnsAt w ao l) (i : Nat) (hi : i < l.length) : ∃ a, ao = some a ∧ (loadVar 60 (a.add (i * 5))).run Try.prog w = .ok (.agg (turnV l[i])) w := by
  obtain ⟨a, ha, hc⟩ := h i hi
  refine ⟨a, ha, run_loadVar_cells w (a.add (i * 5)) 60 (turnC l[i]) _ (fun j v hv => ?_) Try.underlying60 rfl (turnSize _)⟩
  rw [Go.Deep.add_add]
  exact hc j v hv
theorem load_turn {w : World} {g : Nat} {A : Array Value} {fr : Nat × Nat} (hs : A.size = 5) (hg : w.heap[g]? = some (.cells A 60 fr)) : (loadVar 60 ⟨g, 0, none⟩).run Try.prog w = .ok (.agg A) w :=
  run_loadVar_row w g 60 60 A fr _ hg Try.underlying60 rfl (by rw [hs]; kernel_rfl)
/-- What a turn leaves. -/
def TurnedOk : Prop := ∀ (t : T5), (0 ≤ t.2.2.1 ∧ t.2.2.1 < 4294967296) → ∀ X : Nat → ByteArray, (∀ k, k < 16 → (X k).size = 64) → ∀ w, Calls Try.prog 29 #[.agg (turnV t), .agg (secA X)] w fun x w' => ∃ X', x = .returned (.agg (secA X')) ∧ (∀ k, k < 16 → (X' k).size = 64) ∧ Below w.heap.size w w'
theorem turned_all : TurnedOk := by
  rintro ⟨a, f, s, c, b⟩ ⟨hs0, hs1⟩ X hX w
  by_cases hno : (a < 0 ∨ 15 < a ∨ f < 0 ∨ 15 < f) ∨ (¬ (0 ≤ b ∧ b < 512) ∧ ¬ (1 ≤ c ∧ c ≤ 65535))
  · exact (turned_no a f s c b X hno w).mono (fun x w' h => ⟨X, h.1, hX, h.2⟩)
  · obtain ⟨A, rfl⟩ := Int.eq_ofNat_of_zero_le (show 0 ≤ a by omega)
    obtain ⟨F, rfl⟩ := Int.eq_ofNat_of_zero_le (show 0 ≤ f by omega)
    obtain ⟨S, rfl⟩ := Int.eq_ofNat_of_zero_le hs0
    by_cases hb : 0 ≤ b ∧ b < 512
    · obtain ⟨B, rfl⟩ := Int.eq_ofNat_of_zero_le hb.1
      exact turned_bit A F B S c X hX (by omega) (by omega) (by omega) w
    · obtain ⟨C, rfl⟩ := Int.eq_ofNat_of_zero_le (show 0 ≤ c by omega)
      refine (turned_seal A F S C b X hX (by omega) (by omega) (by have h : ((S : Nat) : Int) < 4294967296 := hs1; omega) (by omega) (by omega) hb w).mono ?_
      rintro x w' ⟨rfl, hbw⟩
      refine ⟨_, rfl, fun k hk => ?_, hbw⟩
      unfold upd
      split
      · rw [bs_size]
        exact sealL_length S C _ (by have := hX F (by omega); simp; omega)
      · exact hX k hk
set_option maxRecDepth 100000 in
set_option maxHeartbeats 1600000 in
/-- What is not gone through here: put. -/
theorem loads_put (a b c d : Int) {w : World} {ao : Option Addr} {l : List Fr} (cap : Nat) (hA : FrsAt w ao l) (hl : l.length ≤ 9223372036854775807) (hsz : ∀ x ∈ l, x.2.size ≤ 9223372036854775807) (ko : Option Addr) (n kc : Nat) (hno : lgB l = true ∨ mayB a d = false ∨ 30 < n) :
    Calls Try.prog 4 #[hdV a b c d, .slice ao l.length cap, .slice ko n kc] w fun x w' => x = .returned (.bool true) ∧ Below w.heap.size w w' := by
  have qh := alloc_at w (.cells #[.int .i64 a, .int .u32 b, .int .u32 c, .int .i64 d] 41)
  have hB : Below w.heap.size w (w.alloc (.cells #[.int .i64 a, .int .u32 b, .int .u32 c, .int .i64 d] 41)) := (Below.refl _ _).alloc (Nat.le_refl _) _
  have KL := Lib.hid (large_any (hA.below hB) cap hl hsz)
  have QH := Lib.hid qh
  have HB := Lib.hid hB
  clear hA hl hsz qh hB
  go_enter Try.func4, Try.ntmps4
  go_wp2_with fail
  refine KL.out.mono ?_
  rintro x w1 ⟨rfl, hb1⟩
  have q1 := later_of QH.out hb1
  have HB1 := Lib.hid (HB.out.trans (hb1.mono HB.out.size))
  clear hb1 HB QH KL
  by_cases hlg : lgB l = true
  · rw [hlg]
    go_wp2_with fail
    refine (put_any _).mono ?_
    rintro x w2 ⟨rfl, hb2⟩
    go_wp2
    go_ret
    exact ⟨rfl, HB1.out.trans (hb2.mono HB1.out.size)⟩
  · have hm := hno.resolve_left hlg
    have hlf : lgB l = false := by simpa using hlg
    rw [hlf]
    clear hno hlg hlf
    obtain ⟨c0, c1, c2, c3, _⟩ := four_of q1
    go_wp2_with fail
    refine (lref_any a b c d _).mono ?_
    rintro x w2 ⟨rfl, hb2⟩
    have HB2 := Lib.hid (HB1.out.trans (hb2.mono HB1.out.size))
    clear hb2 c0 c1 c2 c3
    go_wp2_with fail
    refine (may_any a b c d _).mono ?_
    rintro x w3 ⟨rfl, hb3⟩
    have HB3 := Lib.hid (HB2.out.trans (hb3.mono HB2.out.size))
    clear hb3
    cases hmb : mayB a d with
    | false =>
      go_wp2_with fail
      refine (put_any _).mono ?_
      rintro x w4 ⟨rfl, hb4⟩
      go_wp2
      go_ret
      exact ⟨rfl, HB3.out.trans (hb4.mono HB3.out.size)⟩
    | true =>
      have hn : 30 < n := hm.resolve_left (by rw [hmb]; simp)
      have k30 : decide ((30 : Int) < (n : Int)) = true := decide_eq_true (by omega)
      go_wp2_with fail
      refine (put_any _).mono ?_
      rintro x w4 ⟨rfl, hb4⟩
      go_wp2
      go_ret
      exact ⟨rfl, HB3.out.trans (hb4.mono HB3.out.size)⟩

theorem lds_hdr {w : World} {b : Nat} {h : H4} (hW : w.heap[b]? = some (.cells #[.int .i64 h.1, .int .u32 h.2.1, .int .u32 h.2.2.1, .int .i64 h.2.2.2] 41)) : (loadVar 41 ⟨b, 0, none⟩).run Try.prog w = .ok (hdV h.1 h.2.1 h.2.2.1 h.2.2.2) w :=
  run_loadVar_row w b 41 41 #[.int .i64 h.1, .int .u32 h.2.1, .int .u32 h.2.2.1, .int .i64 h.2.2.2] (0, 0) _ hW Try.underlying41 rfl (by kernel_rfl)
theorem hld_l {P : Program} {T : TypeId} {q : Addr} {v : Value} {wB w1 w' : World} (KH : ∀ W, Below wB.heap.size wB W → (loadVar T q).run P W = .ok v W) (h : (loadVar T q).run P w1 = .ok v w1 ∧ Below wB.heap.size wB w1) (hb : Below w1.heap.size w1 w') :
    (loadVar T q).run P w' = .ok v w' ∧ Below wB.heap.size wB w' := ⟨KH _ (h.2.trans (hb.mono h.2.size)), h.2.trans (hb.mono h.2.size)⟩
theorem hld_l0 {P : Program} {T : TypeId} {q : Addr} {v : Value} {wB : World} (KH : ∀ W, Below wB.heap.size wB W → (loadVar T q).run P W = .ok v W) : (loadVar T q).run P wB.drew = .ok v wB.drew ∧ Below wB.heap.size wB wB.drew := ⟨KH _ (Below.refl _ _).drew, (Below.refl _ _).drew⟩
theorem hld_la {P : Program} {T : TypeId} {q : Addr} {v : Value} {wB w1 : World} (KH : ∀ W, Below wB.heap.size wB W → (loadVar T q).run P W = .ok v W) (h : (loadVar T q).run P w1 = .ok v w1 ∧ Below wB.heap.size wB w1) (o : Obj) :
    (loadVar T q).run P (w1.alloc o) = .ok v (w1.alloc o) ∧ Below wB.heap.size wB (w1.alloc o) := ⟨KH _ (h.2.alloc h.2.size o), h.2.alloc h.2.size o⟩
theorem hld_lr {P : Program} {T : TypeId} {q : Addr} {v : Value} {wB w1 : World} (KH : ∀ W, Below wB.heap.size wB W → (loadVar T q).run P W = .ok v W) (h : (loadVar T q).run P w1 = .ok v w1 ∧ Below wB.heap.size wB w1) (g : Nat) (hg : wB.heap.size ≤ g) (A : Array Value) :
    (loadVar T q).run P (w1.setRow g A) = .ok v (w1.setRow g A) ∧ Below wB.heap.size wB (w1.setRow g A) := ⟨KH _ (below_setRow h.2 hg A), below_setRow h.2 hg A⟩
theorem hld_lz {P : Program} {T : TypeId} {q : Addr} {v : Value} {wB w1 : World} (KH : ∀ W, Below wB.heap.size wB W → (loadVar T q).run P W = .ok v W) {o : Obj} (h : (loadVar T q).run P (w1.alloc o) = .ok v (w1.alloc o) ∧ Below wB.heap.size wB (w1.alloc o)) (hg : wB.heap.size ≤ w1.heap.size) (o' : Obj) :
    (loadVar T q).run P (w1.alloc o') = .ok v (w1.alloc o') ∧ Below wB.heap.size wB (w1.alloc o') := by
  have hb : Below wB.heap.size wB (w1.alloc o') := ⟨h.2.os, h.2.tape, h.2.output, by simp; omega, fun k hk => (Below.heap_alloc w1 o' k (by omega)).trans ((Below.heap_alloc w1 o k (by omega)).symm.trans (h.2.block k hk))⟩
  exact ⟨KH _ hb, hb⟩
theorem hld_le {P : Program} {T : TypeId} {q : Addr} {v : Value} {wB w1 w' : World} (h : (loadVar T q).run P w1 = .ok v w1 ∧ Below wB.heap.size wB w1) (hb : Below w1.heap.size w1 w') : wB.heap.size ≤ w'.heap.size := Nat.le_trans h.2.size hb.size
end Go.Proofs.Ytoabdpobpmbckaa.Print

namespace Go.Proofs.Ytoabdpobpmbckaa.Print
open Go.RowKit
attribute [local go_sem] run_loadVar_scalar
theorem field_run {AP M2 : Array Value} (hfm : AP.extract 0 22 = M2) (w : World) : (Instr.field 57 (.agg AP) 0).run Try.prog w = .ok (.agg M2) w := by
  have h : (Instr.field 57 (.agg AP) 0).run Try.prog w = .ok (.agg (AP.extract 0 (0 + 22))) w := by kernel_rfl
  rw [h, Nat.zero_add, hfm]
theorem rload_none (X : Nat → ByteArray) (O : Nat → Op3) (hO : O 0 = opnP (X 0).data.toList) (hh : headP O = none) (w : World) :
    Calls Try.prog 33 #[.agg (secA X)] w fun x w' => x = .returned (.agg (ldedA 0 0 0 0 (.slice none 0 0) 0 false)) ∧ Below w.heap.size w w' := by
  rcases open_both (X 0) with ⟨_, _, h2⟩ | ⟨m, n, d, h1, _, h2⟩
  · rcases rhdec_all ⟨#[]⟩ with ⟨_, e, _, h3⟩ | ⟨h', _, h3⟩
    · exact rload_no X 0 0 ⟨#[]⟩ false h2 0 0 0 0 e h3 (.inl rfl) w
    · exact rload_no X 0 0 ⟨#[]⟩ false h2 _ _ _ _ _ h3 (.inl rfl) w
  · rcases rhdec_all (bs d) with ⟨_, e, he, h3⟩ | ⟨h', h4, h3⟩
    · exact rload_no X m n (bs d) true h2 0 0 0 0 e h3 (.inr (.inr (.inl he))) w
    · refine rload_no X m n (bs d) true h2 _ _ _ _ _ h3 ?_ w
      unfold headP at hh
      rw [hO, h1] at hh
      simp only at hh
      by_cases hn : n = 1
      · rw [if_pos hn] at hh
        rw [bs_list] at h4
        rw [h4] at hh
        simp only at hh
        by_cases hs : h'.2.2.1 = m
        · rw [if_pos hs] at hh; cases hh
        · exact .inr (.inr (.inr (by omega)))
      · exact .inr (.inl (by omega))
/-- What the last region reads. -/
abbrev LdsR (h : H4) (g : Nat) (lv : Value) (e : Nat) (wB W : World) : Prop :=
  (loadVar 45 ⟨g, 0, none⟩).run Try.prog W = .ok (hdV h.1 h.2.1 h.2.2.1 h.2.2.2) W ∧ W.cell? ⟨g, 4, none⟩ = some lv ∧ W.cell? ⟨g, 5, none⟩ = some (.int .i64 e) ∧ Below wB.heap.size wB W
theorem ldsR_of {h : H4} {g : Nat} {lv : Value} {e : Nat} {wB W : World} (hM : wB.heap[g]? = some (.cells (ldedA h.1 h.2.1 h.2.2.1 h.2.2.2 lv e true) 67)) (hb : Below wB.heap.size wB W) : LdsR h g lv e wB W := by
  have M := later_of hM hb
  have hc : ∀ k v, (ldedA h.1 h.2.1 h.2.2.1 h.2.2.2 lv e true)[k]? = some v → W.cell? ⟨g, k, none⟩ = some v := fun k v hv => by rw [cell_of M, hv]
  refine ⟨?_, hc 4 _ rfl, hc 5 _ rfl, hb⟩
  exact run_loadVar_cells W ⟨g, 0, none⟩ 45 [.int .i64 h.1, .int .u32 h.2.1, .int .u32 h.2.2.1, .int .i64 h.2.2.2] _ (fun j v hv => by
    rw [Addr.add_lit, Nat.zero_add]
    refine hc j v ?_
    match j, hv with
    | 0, hv => exact hv
    | 1, hv => exact hv
    | 2, hv => exact hv
    | 3, hv => exact hv
    | k + 4, hv => simp at hv) Try.underlying45 rfl (by kernel_rfl)
theorem ldsR_call {h : H4} {g : Nat} {lv : Value} {e : Nat} {wB w1 W : World} (hM : wB.heap[g]? = some (.cells (ldedA h.1 h.2.1 h.2.2.1 h.2.2.2 lv e true) 67)) (hS : LdsR h g lv e wB w1) (hb : Below w1.heap.size w1 W) : LdsR h g lv e wB W :=
  ldsR_of hM (hS.2.2.2.trans (hb.mono hS.2.2.2.size))
set_option maxRecDepth 100000 in
set_option maxHeartbeats 6400000 in
attribute [-go_sem] loadVar Instr.build Instr.fill in
theorem loads_walk (KT : TurnedOk) (h : H4) (hf : HFits h) (hmay : mayB h.1 h.2.2.2 = true) {w : World} {ao : Option Addr} {l : List Fr} (cap : Nat) (hA : FrsAt w ao l) (hlg : lgB l = false) (tO : Option Addr) (tc : Nat) (ts : List T5) (hT : TurnsAt w tO ts) (htb : ∀ t ∈ ts, 0 ≤ t.2.2.1 ∧ t.2.2.1 < 4294967296) (hts : ts.length ≤ 30) :
    Calls Try.prog 4 #[hdV h.1 h.2.1 h.2.2.1 h.2.2.2, .slice ao l.length cap, .slice tO ts.length tc] w fun x w' => x = .returned (.bool true) ∧ Below w.heap.size w w' := by
  obtain ⟨hl40, hl900⟩ := lgB_false hlg
  have hg1 := alloc_at w (.cells #[.int .i64 h.1, .int .u32 h.2.1, .int .u32 h.2.2.1, .int .i64 h.2.2.2] 41)
  have hB : Below w.heap.size w (w.alloc (.cells #[.int .i64 h.1, .int .u32 h.2.1, .int .u32 h.2.2.1, .int .i64 h.2.2.2] 41)) := (Below.refl _ _).alloc (Nat.le_refl _) _
  have KL := Lib.hid (large_any (hA.below hB) cap (by omega) (fun x hx => by have := hl900 x hx; omega))
  have HA := Lib.hid hA
  have HF := Lib.hid hf
  have HT := Lib.hid hT
  have HTB := Lib.hid htb
  have k30 : decide ((30 : Int) < (ts.length : Int)) = false := decide_eq_false (by omega)
  have hzm := zero_made
  have hzs := madeA_size (0, 0, 0, 0) (.slice none 0 0) 0 (fun _ => eB)
  obtain ⟨Z, hZ⟩ : ∃ Z, madeA (0, 0, 0, 0) (.slice none 0 0) 0 (fun _ => eB) = Z := ⟨_, rfl⟩
  rw [hZ] at hzm hzs
  clear hA hf hZ hT htb
  go_enter Try.func4, Try.ntmps4
  go_wp2_with fail
  refine KL.out.mono ?_
  rintro x w1 ⟨rfl, hb1⟩
  have q1 := later_of hg1 hb1
  have HB1 := Lib.hid (hB.trans (hb1.mono hB.size))
  have hld1 := lds_hdr q1
  clear hb1 hB hg1 KL
  rw [hlg]
  go_wp2_with fail
  refine (lref_any _ _ _ _ _).mono ?_
  rintro x w2 ⟨rfl, hb2⟩
  have HB2 := Lib.hid (HB1.out.trans (hb2.mono HB1.out.size))
  have q2 := later_of q1 hb2
  clear hb2 q1 HB1 hld1
  go_wp2_with fail
  refine (may_any _ _ _ _ _).mono ?_
  rintro x w7 ⟨rfl, hb7⟩
  have HB7 := Lib.hid (HB2.out.trans (hb7.mono HB2.out.size))
  have Q7 := Lib.hid (later_of q2 hb7)
  clear hb7 q2 HB2
  rw [hmay]
  have KH := Lib.hid (fun (W8 : World) (hb : Below w7.heap.size w7 W8) => lds_hdr (h := h) (later_of Q7.out hb))
  have hld7 := lds_hdr Q7.out
  have KB := Lib.hid blank_any
  have KR := Lib.hid (fun w => rcreate_any (fun _ => zeroB) h HF.out w)
  obtain ⟨Y0, hY0⟩ : ∃ Y0, secA (fun _ => zeroB) = Y0 := ⟨_, rfl⟩
  have hsA := madeA_size h (.slice none 0 0) 1 (putS (fun _ => zeroB) h.2.2.1 1 0 [pad52 (hdrL h)])
  have hoA := madeA_one (lv := .slice none 0 0) rfl h 1 (putS (fun _ => zeroB) h.2.2.1 1 0 [pad52 (hdrL h)])
  obtain ⟨A0, hA0⟩ : ∃ A0, madeA h (.slice none 0 0) 1 (putS (fun _ => zeroB) h.2.2.1 1 0 [pad52 (hdrL h)]) = A0 := ⟨_, rfl⟩
  rw [hY0] at KB KR
  rw [hA0] at KR hsA hoA
  have hst1 : ∀ W : World, (storeCells ⟨W.heap.size, 0, none⟩ A0.toList).run Try.prog (W.alloc (.cells Z 51)) = .ok () (W.alloc (.cells A0 51)) := fun W => store_new W _ rfl Z A0 _ (by rw [hzs, hsA]) hoA
  have hst2 : ∀ (W : World) (g : Nat), W.heap[g]? = some (.cells Z 51) → (storeCells ⟨g, 0, none⟩ A0.toList).run Try.prog W = .ok () (W.setRow g A0) := fun W g hW => store_all hW A0 (by rw [hzs, hsA]) hoA
  have HA0 := Lib.hid hA0
  clear hY0 hA0 hoA
  go_wp2_with fail
  go_cut [7] (fun pm wx => ∃ g, pm = .pointer (some ⟨g, 0, none⟩) ∧ w7.heap.size ≤ g ∧ wx.heap[g]? = some (.cells A0 51) ∧ Below w7.heap.size w7 wx)
  case first =>
    (go_region_held3 (fun w' => (loadVar 41 ⟨w.heap.size, 0, none⟩).run Try.prog w' = .ok (hdV h.1 h.2.1 h.2.2.1 h.2.2.2) w' ∧ Below w7.heap.size w7 w')
      (first | assumption | exact hld_l0 KH.out | exact hld_l KH.out (by assumption) hb | exact hld_la KH.out (by assumption) _ | exact hld_lz KH.out (by assumption) hgw _ | exact hld_lr KH.out (by assumption) _ hgx _)
      (first
      | (go_at_call 27; (with_reducible refine (KB.out _).mono ?_); rintro x wf ⟨rfl, hb⟩; have hgw := hld_le (by assumption) hb; (first | (have zx : wf.heap[w7.heap.size]? = some (.cells Z 51) := later_of (w1 := w7.drew.alloc (.cells Z 51)) (alloc_at w7.drew _) hb; have hgx : w7.heap.size ≤ w7.heap.size := Nat.le_refl _) | skip))
      | (go_at_call 24; (with_reducible refine (lref_any _ _ _ _ _).mono ?_); rintro x wf ⟨rfl, hb⟩; (first | (have zx := later_of zx hb) | (have zx := later_of (alloc_at _ (.cells Z 51)) hb; have hgx := hgw) | skip); have hgw := hld_le (by assumption) hb)
      | (go_at_call 26; (with_reducible refine (KR.out _).mono ?_); rintro x wf ⟨rfl, hb⟩; (first | (have zx := later_of zx hb) | (have zx := later_of (alloc_at _ (.cells Z 51)) hb; have hgx := hgw) | skip); have hgw := hld_le (by assumption) hb)))
    all_goals
      have hBx := (‹_ ∧ Below _ _ _›).2
      go_wp2_with fail
      go_meet
      first
        | exact ⟨_, rfl, hgx, row_set zx A0, hBx⟩
        | exact ⟨_, rfl, hgw, alloc_at _ _, hBx⟩
  case rest =>
    obtain ⟨bM, rfl, hgM, hM, hbc⟩ := hcut
    have hM0 : wc.heap[bM]? = some (.cells (madeA h (.slice none 0 0) 1 (putS (fun _ => zeroB) h.2.2.1 1 0 [pad52 (hdrL h)])) 51) := by rw [HA0.out]; exact hM
    have hw7 := HB7.out.size
    have hq7 := lt_of Q7.out
    have HR0 := Lib.hid (show MadeRel h bM (w.heap.size + 1) [] 1 (putS (fun _ => zeroB) h.2.2.1 1 0 [pad52 (hdrL h)]) none 0 wc from
      ⟨hM0, .inl ⟨rfl, rfl, rfl⟩, by omega, (fun a ha => by cases ha), by omega, by omega, by simp, putS_64 (fun _ _ => by unfold zeroB; rw [bs_size]; rfl) _ _ _ _ (by intro p hp; rw [List.mem_singleton.1 hp]; exact pad52_length _)⟩)
    have HBc := Lib.hid (HB7.out.trans (hbc.mono hw7))
    clear hM hM0 hbc HB7 Q7 KH hld7 KB KR hst1 hst2 HA0 hsA hzm hzs
    go_wp2
    go_loopw [40] (fun i wr => ∃ (j : Nat) (fs : List Fr) (e : Nat) (X : Nat → ByteArray) (ao' : Option Addr) (cap' : Nat), j ≤ l.length ∧ i = .int .i64 j ∧ MadeRel h bM (w.heap.size + 1) fs e X ao' cap' wr ∧ Below w.heap.size w wr) (fun i _ => l.length - (intOf i).toNat)
    case atStart => exact ⟨0, [], 1, _, none, 0, Nat.zero_le _, rfl, HR0.out, HBc.out⟩
    case round =>
      obtain ⟨j, fs, e, X, ao', cap', hj, rfl, R, hB⟩ := hrel
      have HR := Lib.hid R
      have HB := Lib.hid hB
      clear R hB HR0 HBc
      by_cases hlt : j < l.length
      · obtain ⟨a, rfl, hld⟩ := (HA.out.below HB.out).load j hlt
        obtain ⟨x, hxx⟩ : ∃ x, l[j] = x := ⟨_, rfl⟩
        rw [hxx] at hld
        clear hxx
        obtain ⟨k, p⟩ := x
        have hBz : Below wr.heap.size wr (wr.alloc (.cells #[.int .i64 k, .string p] 55)) := (Below.refl _ _).alloc (Nat.le_refl _) _
        have Rz := HR.out.below hBz
        have hgz := alloc_at wr (.cells #[.int .i64 k, .string p] 55)
        have hld2 := load_fr hgz
        have hlm := (made_at Rz.made).load
        have hMlt := lt_of HR.out.made
        have hmb := HR.out.mb
        have KA := Lib.hid (ref_step Rz HF.out.2.2.2.1 (by have := hBz.size; omega) k p)
        have HBz := Lib.hid (HB.out.trans (hBz.mono HB.out.size))
        have hsm := madeA_size h (.slice ao' fs.length cap') e X
        obtain ⟨M, hMe⟩ : ∃ M, madeA h (.slice ao' fs.length cap') e X = M := ⟨_, rfl⟩
        rw [hMe] at hlm KA hsm
        clear Rz hgz hBz hMe
        go_wp2_with fail
        refine KA.out.mono ?_
        rintro x w6 ⟨fs', e', X', ao2, cap2, at_, er, rfl, hb6, R6, hB6, hM6⟩
        have hfm := field_m h (.slice ao2 fs'.length cap2) e' X' at_ er
        have hsA := apA_size h (.slice ao2 fs'.length cap2) e' X' at_ er
        have hs6 := madeA_size h (.slice ao2 fs'.length cap2) e' X'
        have hst := store_all hM6 (madeA h (.slice ao2 fs'.length cap2) e' X') (by rw [hsm, hs6]) (madeA_one rfl _ _ _)
        obtain ⟨AP, hAP⟩ : ∃ AP, apA h (.slice ao2 fs'.length cap2) e' X' at_ er = AP := ⟨_, rfl⟩
        obtain ⟨M2, hM2⟩ : ∃ M2, madeA h (.slice ao2 fs'.length cap2) e' X' = M2 := ⟨_, rfl⟩
        rw [hAP] at hfm hsA ⊢
        rw [hM2] at hfm hs6 hst R6 hB6
        have HR6 := Lib.hid R6
        have HB6 := Lib.hid (HBz.out.trans (hB6.mono (by omega)))
        clear hAP hM2 R6 hB6 hb6 KA HBz hM6 hld hld2 hlm
        have hfr := field_run hfm
        go_wp2
        go_roundw
        case rel => exact ⟨j + 1, fs', e', X', ao2, cap2, hlt, by simp, HR6.out, HB6.out⟩
        case measure => simp [intOf]; omega
      · obtain rfl : j = l.length := by omega
        clear hlt hj HA
        have hlx := (made_at HR.out.made).secs
        have hX64 := HR.out.x64
        have hsx := secA_size X
        have hox := secA_one X
        have hzx := zero_secs
        have hszx := secA_size (fun _ => eB)
        obtain ⟨ZX, hZX⟩ : ∃ ZX, secA (fun _ => eB) = ZX := ⟨_, rfl⟩
        rw [hZX] at hzx hszx
        have hstx := store_new wr wr.heap.size rfl ZX (secA X) 49 (by rw [hszx, hsx]) hox
        have hBx : Below wr.heap.size wr (wr.alloc (.cells (secA X) 49)) := (Below.refl _ _).alloc (Nat.le_refl _) _
        have hgx := Lib.hid (alloc_at wr (.cells (secA X) 49))
        have HB9 := Lib.hid (HB.out.trans (hBx.mono HB.out.size))
        have hbX : w.heap.size + 1 ≤ wr.heap.size := by have := lt_of HR.out.made; have := HR.out.mb; omega
        have HX := Lib.hid (show ∀ k, k < 16 → (X k).size = 64 from hX64)
        obtain ⟨Y, hY⟩ : ∃ Y, secA X = Y := ⟨_, rfl⟩
        rw [hY] at hlx hstx hsx
        have HY := Lib.hid hY
        clear hZX hY hBx hox hX64 HR HB
        go_wp2_with fail
        rw [← HY.out]
        obtain ⟨W9, hW9⟩ : ∃ W9, wr.alloc (.cells (secA X) 49) = W9 := ⟨_, rfl⟩
        obtain ⟨bX, hbe⟩ : ∃ b, wr.heap.size = b := ⟨_, rfl⟩
        rw [hW9, hbe] at hgx
        rw [hW9] at HB9
        rw [hbe] at hbX
        rw [hW9, hbe]
        clear hW9 hbe hlx hstx hsx hszx hzx HY hgM hq7 hw7 hl40 hl900 Y ZX
        go_wp2_with fail
        go_loopw [53] (fun i wr => ∃ (j : Nat) (X : Nat → ByteArray), j ≤ ts.length ∧ i = .int .i64 j ∧ wr.heap[bX]? = some (.cells (secA X) 49) ∧ (∀ k, k < 16 → (X k).size = 64) ∧ Below w.heap.size w wr) (fun i _ => ts.length - (intOf i).toNat)
        case atStart => exact ⟨0, X, Nat.zero_le _, rfl, hgx.out, HX.out, HB9.out⟩
        case round =>
          obtain ⟨j, X1, hj, rfl, hg1, h64, hB1⟩ := hrel
          have HX1 := Lib.hid h64
          have HB1 := Lib.hid hB1
          have HG1 := Lib.hid hg1
          clear h64 hB1 HX HB9 hgx hg1
          by_cases hlt : j < ts.length
          · obtain ⟨a, ha, hld⟩ := (HT.out.below HB1.out).load j hlt
            have htm := HTB.out _ (List.getElem_mem hlt)
            obtain ⟨t, htt⟩ : ∃ t, ts[j] = t := ⟨_, rfl⟩
            rw [htt] at hld htm
            rw [ha] at HT ⊢
            clear htt ha
            have hBt : Below wr.heap.size wr (wr.alloc (.cells (turnV t) 60)) := (Below.refl _ _).alloc (Nat.le_refl _) _
            have hgt := alloc_at wr (.cells (turnV t) 60)
            have hldt := load_turn (A := turnV t) rfl hgt
            have hg2 := later_of HG1.out hBt
            have hlds := load_secs hg2
            have HB2 := Lib.hid (HB1.out.trans (hBt.mono HB1.out.size))
            have KTt := Lib.hid (KT t htm X1 HX1.out (wr.alloc (.cells (turnV t) 60)))
            have HG2 := Lib.hid hg2
            have hsy := secA_size X1
            obtain ⟨Y, hY⟩ : ∃ Y, secA X1 = Y := ⟨_, rfl⟩
            rw [hY] at hlds KTt hsy
            clear hY hg2 hBt hgt htm
            go_wp2_with fail
            refine KTt.out.mono ?_
            rintro x w6 ⟨X2, rfl, h64, hb6⟩
            have hg6 := later_of HG2.out hb6
            have hs2 := secA_size X2
            have hst6 := store_all hg6 (secA X2) (by rw [secA_size, hs2]) (secA_one X2)
            have hg7 := row_set hg6 (secA X2)
            have HB6 := Lib.hid (HB2.out.trans (hb6.mono HB2.out.size))
            have HB7 := Lib.hid (below_setRow HB6.out (show w.heap.size ≤ bX by omega) (secA X2))
            have HG7 := Lib.hid hg7
            have H64 := Lib.hid h64
            obtain ⟨Y2, hY2⟩ : ∃ Y2, secA X2 = Y2 := ⟨_, rfl⟩
            rw [hY2] at hs2 hst6 HB7 HG7 ⊢
            have HY2 := Lib.hid hY2
            clear hY2 h64 hg6 hg7 hb6 KTt hld hldt hlds HB6
            go_wp2
            go_roundw
            case rel => exact ⟨j + 1, X2, hlt, by simp, by rw [HY2.out]; exact HG7.out, H64.out, HB7.out⟩
            case measure => simp [intOf]; omega
          · obtain rfl : j = ts.length := by omega
            clear hlt hj HT
            go_wp2_with fail
            refine (fresh13_any _).mono ?_
            rintro x w4 ⟨v, F4, rfl, V4, hb4, hF4⟩
            have HB4 := Lib.hid (HB1.out.trans (hb4.mono HB1.out.size))
            have HG4 := Lib.hid (later_of HG1.out hb4)
            have HV4 := Lib.hid V4
            have hxl := lt_of HG1.out
            have HF4 := Lib.hid (show ∀ i, F4 i → bX < i from fun i hi => by have := hF4 i hi; omega)
            clear V4 hb4 hF4 HB1 HG1
            go_wp2_with fail
            go_loopw [62] (fun i wr => ∃ (j : Nat) (F : Foot), j ≤ 16 ∧ i = .int .i64 j ∧ wr.heap[bX]? = some (.cells (secA X1) 49) ∧ ViewIs v (zeroDisk 36) (wl X1 j) 1 34 (-1) false wr F ∧ (∀ i, F i → bX < i) ∧ Below w.heap.size w wr) (fun i _ => 16 - (intOf i).toNat)
            case atStart => exact ⟨0, F4, Nat.zero_le _, rfl, HG4.out, HV4.out, HF4.out, HB4.out⟩
            case round =>
              obtain ⟨j, F, hj, rfl, hg1, V, hF, hB1⟩ := hrel
              have HB1 := Lib.hid hB1
              have HG1 := Lib.hid hg1
              have HV := Lib.hid V
              have HFF := Lib.hid hF
              clear hB1 V hF HB4 HG4 HV4 HF4
              by_cases hlt : j < 16
              · have hc := sec_cell hg1 j hlt
                have hsj := HX1.out j hlt
                have KW := Lib.hid (vwrite_is HV.out (by decide) (2 + j) (by omega) (X1 j) hsj (by rw [wl_length]; omega) (2 + (j : Int)) (by omega))
                have k16 : (j : Int) < 16 := by omega
                have kw : IntKind.i64.wrap (2 + (j : Int)) = 2 + (j : Int) := by rw [IntKind.wrap_i64]; omega
                clear hg1
                go_wp2_with fail
                refine KW.out.mono ?_
                rintro x w6 ⟨rfl, F6, V6, U6, hF6⟩
                have HV6 := Lib.hid (show ViewIs v (zeroDisk 36) (wl X1 (j + 1)) 1 34 (-1) false w6 F6 from by rw [wl_succ]; exact V6)
                have HG6 := Lib.hid (U6.at_ HG1.out (fun hc => by have := HFF.out _ hc; omega))
                have hxw := lt_of HG1.out
                have HFF6 := Lib.hid (show ∀ i, F6 i → bX < i from fun i hi => by rcases hF6 i hi with h | h; exact HFF.out i h; omega)
                have HB6 := Lib.hid (HB1.out.trans (U6.below HB1.out.size (fun i hi hc => by have := HFF.out i hc; omega)))
                clear V6 U6 hF6 KW HV HG1 HFF HB1 hc hsj
                go_wp2
                go_roundw
                case rel => exact ⟨j + 1, F6, hlt, by simp, HG6.out, HV6.out, HFF6.out, HB6.out⟩
                case measure => simp [intOf]; omega
              · obtain rfl : j = 16 := by omega
                clear hlt hj
                obtain ⟨O, hO⟩ : ∃ O : Nat → Op3, ∀ k, O k = opnP (secX (zeroDisk 36) (wl X1 16) 1 (2 + 16 * 0 + k)) := ⟨_, fun _ => rfl⟩
                have hO2 : ∀ k, k < 16 → O k = opnP (X1 k).data.toList := fun k hk => by rw [hO k, wl_secX X1 k hk]
                have KLd := Lib.hid (load_any HV.out 0 (by omega) (by omega) (by rw [wl_length]; omega) 0 rfl O hO)
                have HO := Lib.hid hO2
                have hlX := load_secs hg1
                clear hO hO2
                cases hh : headP O with
                | none =>
                  have KN := Lib.hid (fun w => rload_none X1 O (HO.out 0 (by omega)) hh w)
                  have HH := Lib.hid hh
                  clear hg1 hh hlX
                  go_wp2_with fail
                  refine KLd.out.mono ?_
                  rintro x w10 (⟨_, rfl, hb10⟩ | ⟨h', s', G', e', _⟩)
                  · have hlX := load_secs (later_of HG1.out hb10)
                    have HB10 := Lib.hid (HB1.out.trans (hb10.mono HB1.out.size))
                    obtain ⟨Y, hY⟩ : ∃ Y, secA X1 = Y := ⟨_, rfl⟩
                    rw [hY] at hlX KN
                    clear hb10 hY KLd
                    go_wp2_with fail
                    refine (KN.out _).mono ?_
                    rintro x w11 ⟨rfl, hb11⟩
                    have HB11 := Lib.hid (HB10.out.trans (hb11.mono HB10.out.size))
                    clear hb11 hlX
                    go_wp2_with fail
                    refine (put_any _).mono ?_
                    rintro x w12 ⟨rfl, hb12⟩
                    go_wp2
                    go_ret
                    exact ⟨rfl, (HB11.out.alloc HB11.out.size _).trans (hb12.mono (by have := HB11.out.size; simp; omega))⟩
                  · rw [HH.out] at e'; cases e'
                | some h' =>
                  have KY := Lib.hid (fun w => rload_yes X1 O HO.out h' hh w)
                  have HH := Lib.hid hh
                  clear hg1 hh hlX
                  go_wp2_with fail
                  refine KLd.out.mono ?_
                  rintro x w10 (⟨e', _⟩ | ⟨h2, s', G', e', rfl, S10, hb10, hG10⟩)
                  · rw [HH.out] at e'; cases e'
                  · obtain rfl : h' = h2 := Option.some.inj (HH.out.symm.trans e')
                    have hlX := load_secs (later_of HG1.out hb10)
                    have HB10 := Lib.hid (HB1.out.trans (hb10.mono HB1.out.size))
                    obtain ⟨fs2, hfs2⟩ : ∃ f, (loopP O h'.2.2.1 16 [] 1).1 = f := ⟨_, rfl⟩
                    obtain ⟨e2, he2⟩ : ∃ f, (loopP O h'.2.2.1 16 [] 1).2 = f := ⟨_, rfl⟩
                    rw [hfs2, he2] at S10 KY
                    have HS10 := Lib.hid S10
                    obtain ⟨Y, hY⟩ : ∃ Y, secA X1 = Y := ⟨_, rfl⟩
                    rw [hY] at hlX KY
                    clear hb10 hY KLd S10 hG10 e' hfs2 he2
                    go_wp2_with fail
                    refine (KY.out _).mono ?_
                    rintro x w11 ⟨ao3, cap3, rfl, hfr3, hl3, hb11⟩
                    have HB11 := Lib.hid (HB10.out.trans (hb11.mono HB10.out.size))
                    have HS11 := Lib.hid (SegIs.stays.below HS10.out hb11)
                    have HFR := Lib.hid hfr3
                    clear hb11 hlX hfr3
                    have hBa : Below w11.heap.size w11 (w11.alloc (.cells (ldedA h'.1 h'.2.1 h'.2.2.1 h'.2.2.2 (.slice ao3 fs2.length cap3) e2 true) 67)) := (Below.refl _ _).alloc (Nat.le_refl _) _
                    have KA := Lib.hid (append_sealed (SegIs.stays.below HS11.out hBa) 1 eB)
                    have HB12 := Lib.hid (HB11.out.trans (hBa.mono HB11.out.size))
                    have HS12 := Lib.hid (SegIs.stays.below HS11.out hBa)
                    have HF12 := Lib.hid (HFR.out.below hBa)
                    have HL12 := Lib.hid (alloc_at w11 (.cells (ldedA h'.1 h'.2.1 h'.2.2.1 h'.2.2.2 (.slice ao3 fs2.length cap3) e2 true) 67))
                    have hbf := fun W => run_build (P := Try.prog) W 55 #[(0, .int .i64 1)] #[.int .i64 1, .string eB] (by kernel_rfl)
                    clear hBa HB11 HS11 HFR
                    go_wp2_with fail
                    refine KA.out.mono ?_
                    rintro x w12 ⟨rfl, hb12⟩
                    have HB13 := Lib.hid (HB12.out.trans (hb12.mono HB12.out.size))
                    have m7 := later_of HL12.out hb12
                    have l7 := HF12.out.below hb12
                    have s7 := SegIs.stays.below HS12.out hb12
                    obtain ⟨gL, hgL⟩ : ∃ g, w11.heap.size = g := ⟨_, rfl⟩
                    rw [hgL] at m7 ⊢
                    have hS0 := ldsR_of m7 (Below.refl w12.heap.size w12).drew
                    have HC := Lib.hid (fun (w1 W : World) (hS : LdsR h' gL (.slice ao3 fs2.length cap3) e2 w12 w1) (hb : Below w1.heap.size w1 W) => ldsR_call m7 hS hb)
                    have KSd := Lib.hid (fun (W : World) (hS : LdsR h' gL (.slice ao3 fs2.length cap3) e2 w12 W) => sealed_any (SegIs.stays.below s7 hS.2.2.2))
                    have KFr := Lib.hid (fun (W : World) (hS : LdsR h' gL (.slice ao3 fs2.length cap3) e2 w12 W) => (frames_any (SegIs.stays.below s7 hS.2.2.2) (by omega)).mono (fun x w9 ⟨v', hx, hrow, hb⟩ => by
                      obtain ⟨bo, bc, rfl, hfr⟩ := FrsAt.of_row hrow
                      exact (⟨bo, bc, hx, hfr, hb⟩ : ∃ (bo : Option Addr) (bc : Nat), x = .returned (.slice bo fs2.length bc) ∧ FrsAt w9 bo fs2 ∧ Below W.heap.size W w9)))
                    have KLs := Lib.hid (fun (W : World) (hS : LdsR h' gL (.slice ao3 fs2.length cap3) e2 w12 W) => l7.below hS.2.2.2)
                    have KHd := Lib.hid (fun (W : World) (hS : LdsR h' gL (.slice ao3 fs2.length cap3) e2 w12 W) => header_any (SegIs.stays.below s7 hS.2.2.2))
                    have KEn := Lib.hid (fun (W : World) (hS : LdsR h' gL (.slice ao3 fs2.length cap3) e2 w12 W) => end_any (SegIs.stays.below s7 hS.2.2.2))
                    have KLn := Lib.hid (fun (W : World) (hS : LdsR h' gL (.slice ao3 fs2.length cap3) e2 w12 W) => len_any (SegIs.stays.below s7 hS.2.2.2))
                    have hfm : fs2.length ≤ 1000000 := by omega
                    clear m7 l7 s7 hb12 KA HB12 HL12 HF12 HS12 hgL
                    go_wp2_with fail
                    (go_region_held3 (fun W => (loadVar 45 ⟨gL, 0, none⟩).run Try.prog W = .ok (hdV h'.1 h'.2.1 h'.2.2.1 h'.2.2.2) W ∧ W.cell? ⟨gL, 4, none⟩ = some (.slice ao3 fs2.length cap3) ∧ W.cell? ⟨gL, 5, none⟩ = some (.int .i64 e2) ∧ Below w12.heap.size w12 W)
                      (first | assumption | exact hS0 | exact HC.out _ _ (by assumption) hb)
                      (first
                      | (go_at_call 40; (with_reducible refine (KSd.out _ (by assumption)).mono ?_); rintro x we ⟨rfl, rfl⟩)
                      | (go_at_call 37; (with_reducible refine (KFr.out _ (by assumption)).mono ?_); rintro x we ⟨bo, bc, rfl, rg, hb⟩)
                      | (go_at_call 36; (with_reducible refine (same_any rg (KLs.out _ (by assumption)) _ _ hfm).mono ?_); rintro x we ⟨rfl, hb⟩)
                      | (go_at_call 35; (with_reducible refine (KHd.out _ (by assumption)).mono ?_); rintro x we ⟨rfl, hb⟩)
                      | (go_at_call 24; (with_reducible refine (lref_any _ _ _ _ _).mono ?_); rintro x we ⟨rfl, hb⟩)
                      | (go_at_call 38; (with_reducible refine (KEn.out _ (by assumption)).mono ?_); rintro x we ⟨rfl, rfl⟩)
                      | (go_at_call 39; (with_reducible refine (KLn.out _ (by assumption)).mono ?_); rintro x we ⟨rfl, rfl⟩)
                      | (go_at_call 25; (with_reducible refine (put_any _).mono ?_); rintro x we ⟨rfl, hb⟩)))
                    all_goals
                      have hBf := (‹_ ∧ _ ∧ _ ∧ Below _ _ _›).2.2.2
                      go_wp2_with fail
                      go_ret
                      exact ⟨rfl, HB13.out.trans (hBf.mono HB13.out.size)⟩
end Go.Proofs.Ytoabdpobpmbckaa.Print

namespace Go.Proofs.Ytoabdpobpmbckaa.Print
open Go.RowKit
theorem loads_any (a b c d : Int) (hb : 0 ≤ b ∧ b < 4294967296) (hc : 0 ≤ c ∧ c < 4294967296) {w : World} {ao : Option Addr} {l : List Fr} (cap : Nat) (hA : FrsAt w ao l) (hl : l.length ≤ 9223372036854775807) (hsz : ∀ x ∈ l, x.2.size ≤ 9223372036854775807) (tO : Option Addr) (tc : Nat) (ts : List T5) (hT : TurnsAt w tO ts) (htb : ∀ t ∈ ts, 0 ≤ t.2.2.1 ∧ t.2.2.1 < 4294967296) :
    Calls Try.prog 4 #[hdV a b c d, .slice ao l.length cap, .slice tO ts.length tc] w fun x w' => x = .returned (.bool true) ∧ Below w.heap.size w w' := by
  by_cases hlg : lgB l = true
  · exact loads_put a b c d cap hA hl hsz tO ts.length tc (.inl hlg)
  by_cases h30 : 30 < ts.length
  · exact loads_put a b c d cap hA hl hsz tO ts.length tc (.inr (.inr h30))
  by_cases hm : mayB a d = true
  · obtain ⟨m1, m2, m3, m4⟩ := mayB_true hm
    obtain ⟨A, rfl⟩ := Int.eq_ofNat_of_zero_le (show 0 ≤ a by omega)
    obtain ⟨B, rfl⟩ := Int.eq_ofNat_of_zero_le hb.1
    obtain ⟨C, rfl⟩ := Int.eq_ofNat_of_zero_le hc.1
    obtain ⟨D, rfl⟩ := Int.eq_ofNat_of_zero_le m3
    exact loads_walk turned_all (A, B, C, D) ⟨by show 1 ≤ A; omega, by show A ≤ 65535; omega, by show B < 4294967296; omega, by show C < 4294967296; omega, by show D ≤ 1099511627776; omega⟩ hm cap hA (by simpa using hlg) tO tc ts hT htb (by omega)
  · exact loads_put a b c d cap hA hl hsz tO ts.length tc (.inr (.inl (by simpa using hm)))
end Go.Proofs.Ytoabdpobpmbckaa.Print

namespace Go.Proofs.Ytoabdpobpmbckaa.Open
open Go.ChangeShapes Go.WideShapes Go.ChangeAt Go.RowKit Go.Deep Go.Proofs.Ytoabdpobpmbckaa.Print
theorem lst5 {α : Type} {l : List α} (h : l.length = 5) : ∃ c0 c1 c2 c3 c4, l = [c0, c1, c2, c3, c4] := by
  match l, h with
  | [c0, c1, c2, c3, c4], _ => exact ⟨c0, c1, c2, c3, c4, rfl⟩
set_option maxRecDepth 100000 in
theorem trod_turn {H : Type} {enc : TypeId × Value → H} {w : World} {base : Nat} {spare : Nat → Bool} {held : Bool} {fuel : Nat} {cs : List Value} {x : DataW H × List MemPlace} (h : DataW.trod enc Try.prog w base spare held fuel 60 cs = some x) :
    ∃ t : T5, cs = turnC t ∧ (0 ≤ t.2.2.1 ∧ t.2.2.1 < 4294967296) := by
  have k1 : Try.prog.cellsOf 3 = 1 := by kernel_rfl
  have ku : Try.prog.cellsOf 22 = 1 := by kernel_rfl
  have k5 : Try.prog.cellsOf 60 = 5 := by kernel_rfl
  obtain ⟨xs, n, _, _, hl, hxl, hf⟩ := DataW.trod_struct Try.underlying60 h
  rw [k5] at hl
  obtain ⟨c0, c1, c2, c3, c4, rfl⟩ := lst5 hl
  obtain ⟨x0, x1, x2, x3, x4, rfl⟩ := lst5 hxl
  have f0 := hf 0 _ rfl
  have f1 := hf 1 _ rfl
  have f2 := hf 2 _ rfl
  have f3 := hf 3 _ rfl
  have f4 := hf 4 _ rfl
  simp [k1] at f0
  simp [k1] at f1
  simp [ku] at f2
  simp [k1] at f3
  simp [k1] at f4
  obtain ⟨a, ea, _, _⟩ := DataW.trod_int Try.underlying3 f0
  obtain ⟨f, ef, _, _⟩ := DataW.trod_int Try.underlying3 f1
  obtain ⟨s, es, _, ws⟩ := DataW.trod_int Try.underlying22 f2
  obtain ⟨c, ec, _, _⟩ := DataW.trod_int Try.underlying3 f3
  obtain ⟨b, eb, _, _⟩ := DataW.trod_int Try.underlying3 f4
  obtain rfl := (List.cons.inj ea).1
  obtain rfl := (List.cons.inj ef).1
  obtain rfl := (List.cons.inj es).1
  obtain rfl := (List.cons.inj ec).1
  obtain rfl := (List.cons.inj eb).1
  have u := bounds_u32 ws
  exact ⟨(a, f, s, c, b), rfl, by show 0 ≤ s ∧ s < 4294967296; omega⟩
set_option maxRecDepth 100000 in
theorem open_turns {H : Type} {enc : TypeId × Value → H} {w : World} {base : Nat} {spare : Nat → Bool} {held : Bool} {r : Reach} {b0 : Nat} {v : Value} {d : DataW H} {p : List MemPlace} (hv : Value.okWide Try.prog w r b0 42 v) (h : DataW.Trod enc Try.prog w base spare held 42 v d p) :
    ∃ (ao : Option Addr) (cap : Nat) (l : List T5), v = .slice ao l.length cap ∧ TurnsAt w ao l ∧ ∀ t ∈ l, 0 ≤ t.2.2.1 ∧ t.2.2.1 < 4294967296 := by
  obtain ⟨ao0, len0, cap0, rfl⟩ := okWide_slice Try.underlying42 hv
  obtain ⟨fuel, hf⟩ := h
  have k5 : Try.prog.cellsOf 60 = 5 := by kernel_rfl
  rcases open_slice Try.underlying42 hf with ⟨hcs, _⟩ | ⟨a, len, cap, m, n, D, Pl, hcs, hb, hl, hm, hmm, hx, hi⟩
  · exact ⟨none, 0, [], (List.cons.inj hcs).1, fun i h => absurd h (Nat.not_lt_zero i), fun x hx => absurd hx (List.not_mem_nil)⟩
  · have hv := (List.cons.inj hcs).1
    have hlm : len ≤ m := by rw [hmm]; split <;> omega
    have hH : ∀ i, i < len → ∃ y : T5, (∀ j u, (turnC y)[j]? = some u → w.cell? (a.add (i * 5 + j)) = some u) ∧ (0 ≤ y.2.2.1 ∧ y.2.2.1 < 4294967296) := by
      intro i hil
      obtain ⟨cs', hcl, ht⟩ := hi i (by omega)
      rw [k5] at hcl
      obtain ⟨_, hcl5, hat⟩ := World.cells?_some hcl
      obtain ⟨t, hcs', hst⟩ := trod_turn ht
      refine ⟨t, fun j u hu => ?_, hst⟩
      have hj : j < 5 := by have := (List.getElem?_eq_some_iff.1 hu).1; simpa [turnC] using this
      have := hat j hj
      rw [Go.Deep.add_add, hcs'] at this
      rw [this]; exact hu
    refine ⟨some a, cap, (List.range len).map (fun i => if h : i < len then Classical.choose (hH i h) else (0, 0, 0, 0, 0)), by simpa using hv, fun i h => ⟨a, rfl, fun j u hu => ?_⟩, ?_⟩
    · have hil : i < len := by simpa using h
      simp only [List.getElem_map, List.getElem_range, dif_pos hil] at hu
      exact (Classical.choose_spec (hH i hil)).1 j u hu
    · intro x hx
      obtain ⟨i, hir, rfl⟩ := List.mem_map.1 hx
      have hil : i < len := by simpa using hir
      rw [dif_pos hil]
      exact (Classical.choose_spec (hH i hil)).2
end Go.Proofs.Ytoabdpobpmbckaa.Open
