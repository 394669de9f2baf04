/- weighlockref13: a segment by value: Create, Append. -/
import Derived.Test.YtoabdpobpmbckaaRefS
import Derived.Test.YtoabdpobpmbckaaRefE
import Derived.Test.YtoabdpobpmbckaaStep
import Derived.Laws.AppendOwnNone
namespace Go.Proofs.Ytoabdpobpmbckaa.Print
open Go.RowKit
attribute [local go_sem] run_loadVar_scalar

def mcell (h : H4) (lv : Value) (e : Nat) (X : Nat → ByteArray) (i : Nat) : Value := if i = 0 then .int .i64 h.1 else if i = 1 then .int .u32 h.2.1 else if i = 2 then .int .u32 h.2.2.1 else if i = 3 then .int .i64 h.2.2.2 else if i = 4 then lv else if i = 5 then .int .i64 e else .string (X (i - 6))
def madeA (h : H4) (lv : Value) (e : Nat) (X : Nat → ByteArray) : Array Value := Array.ofFn (n := 22) fun i => mcell h lv e X i.val
def apA (h : H4) (lv : Value) (e : Nat) (X : Nat → ByteArray) (at_ er : Int) : Array Value := Array.ofFn (n := 24) fun i => if i.val < 22 then mcell h lv e X i.val else if i.val = 22 then .int .i64 at_ else .int .i64 er
theorem madeA_size (h : H4) (lv : Value) (e : Nat) (X : Nat → ByteArray) : (madeA h lv e X).size = 22 := by simp [madeA]
theorem apA_size (h : H4) (lv : Value) (e : Nat) (X : Nat → ByteArray) (a r : Int) : (apA h lv e X a r).size = 24 := by simp [apA]
theorem madeA_get (h : H4) (lv : Value) (e : Nat) (X : Nat → ByteArray) (i : Nat) (hi : i < 22) : (madeA h lv e X)[i]? = some (mcell h lv e X i) := by simp [madeA, hi]
theorem apA_get (h : H4) (lv : Value) (e : Nat) (X : Nat → ByteArray) (a r : Int) (i : Nat) (hi : i < 24) : (apA h lv e X a r)[i]? = some (if i < 22 then mcell h lv e X i else if i = 22 then .int .i64 a else .int .i64 r) := by simp [apA, hi]
theorem mcell_one {lv : Value} (hl : lv.oneCell' = true) (h : H4) (e : Nat) (X : Nat → ByteArray) (i : Nat) : (mcell h lv e X i).oneCell' = true := by
  unfold mcell
  repeat (split; first | rfl | exact hl)
  rfl
theorem madeA_one {lv : Value} (hl : lv.oneCell' = true) (h : H4) (e : Nat) (X : Nat → ByteArray) : ∀ v ∈ (madeA h lv e X).toList, v.oneCell' = true := by
  intro v hv
  obtain ⟨i, hi, rfl⟩ := List.mem_iff_getElem.1 hv
  rw [Array.getElem_toList]
  simp only [madeA, Array.getElem_ofFn]
  exact mcell_one hl h e X i
theorem apA_one {lv : Value} (hl : lv.oneCell' = true) (h : H4) (e : Nat) (X : Nat → ByteArray) (a r : Int) : ∀ v ∈ (apA h lv e X a r).toList, v.oneCell' = true := by
  intro v hv
  obtain ⟨i, hi, rfl⟩ := List.mem_iff_getElem.1 hv
  rw [Array.getElem_toList]
  simp only [apA, Array.getElem_ofFn]
  split
  · exact mcell_one hl h e X i
  · split <;> rfl
theorem zero_made (w : World) : (zeroValue 51).run Try.prog w = .ok (.agg (madeA (0, 0, 0, 0) (.slice none 0 0) 0 fun _ => eB)) w := by kernel_rfl
theorem zero_ap (w : World) : (zeroValue 57).run Try.prog w = .ok (.agg (apA (0, 0, 0, 0) (.slice none 0 0) 0 (fun _ => eB) 0 0)) w := by kernel_rfl
theorem build_made (h : H4) (X : Nat → ByteArray) (w : World) : (Instr.build 51 #[(0, hdV h.1 h.2.1 h.2.2.1 h.2.2.2), (2, .int .i64 1), (3, .agg (secA X))]).run Try.prog w = .ok (.agg (madeA h (.slice none 0 0) 1 X)) w := run_build w 51 _ _ (by kernel_rfl)
theorem build_made4 (h : H4) (ao : Option Addr) (n cap e : Nat) (X : Nat → ByteArray) (w : World) : (Instr.build 51 #[(0, hdV h.1 h.2.1 h.2.2.1 h.2.2.2), (1, .slice ao n cap), (2, .int .i64 e), (3, .agg (secA X))]).run Try.prog w = .ok (.agg (madeA h (.slice ao n cap) e X)) w := run_build w 51 _ _ (by kernel_rfl)
theorem build_ap (h : H4) (lv : Value) (e : Nat) (X : Nat → ByteArray) (a r : Int) (w : World) : (Instr.build 57 #[(0, .agg (madeA h lv e X)), (1, .int .i64 a), (2, .int .i64 r)]).run Try.prog w = .ok (.agg (apA h lv e X a r)) w := run_build w 57 _ _ (by kernel_rfl)
theorem madeInfo : (Try.prog.info? 51).map (·.size) = some 22 := by kernel_rfl
theorem apInfo : (Try.prog.info? 57).map (·.size) = some 24 := by kernel_rfl
theorem hdrInfo : (Try.prog.info? 45).map (·.size) = some 4 := by kernel_rfl
/-- Memory in which a segment by value lies, from a block's first cell on. -/
def MadeAt (w : World) (g : Nat) (h : H4) (lv : Value) (e : Nat) (X : Nat → ByteArray) : Prop := ∀ i, i < 22 → w.cell? ⟨g, i, none⟩ = some (mcell h lv e X i)
theorem made_at {w : World} {g : Nat} {h : H4} {lv : Value} {e : Nat} {X : Nat → ByteArray} {t : TypeId} {fr : Nat × Nat} (hg : w.heap[g]? = some (.cells (madeA h lv e X) t fr)) : MadeAt w g h lv e X := fun i hi => by rw [cell_of_row w g i _ t fr hg, madeA_get _ _ _ _ _ hi]
theorem ap_at {w : World} {g : Nat} {h : H4} {lv : Value} {e : Nat} {X : Nat → ByteArray} {a r : Int} {t : TypeId} {fr : Nat × Nat} (hg : w.heap[g]? = some (.cells (apA h lv e X a r) t fr)) : MadeAt w g h lv e X ∧ w.cell? ⟨g, 22, none⟩ = some (.int .i64 a) ∧ w.cell? ⟨g, 23, none⟩ = some (.int .i64 r) :=
  ⟨fun i hi => by rw [cell_of_row w g i _ t fr hg, apA_get _ _ _ _ _ _ _ (by omega), if_pos hi], by rw [cell_of_row w g 22 _ t fr hg, apA_get _ _ _ _ _ _ _ (by omega)]; rfl, by rw [cell_of_row w g 23 _ t fr hg, apA_get _ _ _ _ _ _ _ (by omega)]; rfl⟩
theorem MadeAt.stamp {w : World} {g : Nat} {h : H4} {lv : Value} {e : Nat} {X : Nat → ByteArray} (M : MadeAt w g h lv e X) : w.cell? ⟨g, 2, none⟩ = some (.int .u32 h.2.2.1) := M 2 (by omega)
theorem MadeAt.list {w : World} {g : Nat} {h : H4} {lv : Value} {e : Nat} {X : Nat → ByteArray} (M : MadeAt w g h lv e X) : w.cell? ⟨g, 4, none⟩ = some lv := M 4 (by omega)
theorem MadeAt.end_ {w : World} {g : Nat} {h : H4} {lv : Value} {e : Nat} {X : Nat → ByteArray} (M : MadeAt w g h lv e X) : w.cell? ⟨g, 5, none⟩ = some (.int .i64 e) := M 5 (by omega)
theorem MadeAt.head {w : World} {g : Nat} {h : H4} {lv : Value} {e : Nat} {X : Nat → ByteArray} (M : MadeAt w g h lv e X) : (loadVar 45 ⟨g, 0, none⟩).run Try.prog w = .ok (hdV h.1 h.2.1 h.2.2.1 h.2.2.2) w := by
  refine run_loadVar_cells w ⟨g, 0, none⟩ 45 [.int .i64 h.1, .int .u32 h.2.1, .int .u32 h.2.2.1, .int .i64 h.2.2.2] _ (fun j v hv => ?_) Try.underlying45 rfl hdrInfo
  rw [Addr.add_lit, Nat.zero_add]
  match j, hv with
  | 0, hv => cases hv; exact M 0 (by omega)
  | 1, hv => cases hv; exact M 1 (by omega)
  | 2, hv => cases hv; exact M 2 (by omega)
  | 3, hv => cases hv; exact M 3 (by omega)
theorem MadeAt.secs {w : World} {g : Nat} {h : H4} {lv : Value} {e : Nat} {X : Nat → ByteArray} (M : MadeAt w g h lv e X) : (loadVar 49 ⟨g, 6, none⟩).run Try.prog w = .ok (.agg (secA X)) w := by
  have := run_loadVar_cells (P := Try.prog) w ⟨g, 6, none⟩ 49 (secA X).toList _ (fun j v hv => ?_) Try.underlying49 rfl (by rw [Array.length_toList, secA_size]; exact secInfo16)
  · simpa using this
  · rw [Array.getElem?_toList] at hv
    have hj : j < 16 := by have := (Array.getElem?_eq_some_iff.1 hv).1; rwa [secA_size] at this
    rw [secA_get _ _ hj] at hv
    cases hv
    rw [Addr.add_lit, M (6 + j) (by omega)]
    unfold mcell
    rw [if_neg (by omega), if_neg (by omega), if_neg (by omega), if_neg (by omega), if_neg (by omega), if_neg (by omega), Nat.add_sub_cancel_left]
theorem MadeAt.load {w : World} {g : Nat} {h : H4} {lv : Value} {e : Nat} {X : Nat → ByteArray} (M : MadeAt w g h lv e X) : (loadVar 51 ⟨g, 0, none⟩).run Try.prog w = .ok (.agg (madeA h lv e X)) w := by
  have := run_loadVar_cells (P := Try.prog) w ⟨g, 0, none⟩ 51 (madeA h lv e X).toList _ (fun j v hv => ?_) Try.underlying51 rfl (by rw [Array.length_toList, madeA_size]; exact madeInfo)
  · simpa using this
  · rw [Array.getElem?_toList] at hv
    have hj : j < 22 := by have := (Array.getElem?_eq_some_iff.1 hv).1; rwa [madeA_size] at this
    rw [madeA_get _ _ _ _ _ hj] at hv
    cases hv
    rw [Addr.add_lit, Nat.zero_add, M j hj]
theorem load_ap {w : World} {g : Nat} {h : H4} {lv : Value} {e : Nat} {X : Nat → ByteArray} {a r : Int} {t : TypeId} {fr : Nat × Nat} (hg : w.heap[g]? = some (.cells (apA h lv e X a r) t fr)) : (loadVar 57 ⟨g, 0, none⟩).run Try.prog w = .ok (.agg (apA h lv e X a r)) w :=
  run_loadVar_row w g t 57 _ fr _ hg Try.underlying57 rfl (by rw [apA_size]; exact apInfo)
theorem load_rhdr {w : World} {g : Nat} {a b c d : Int} {t : TypeId} {fr : Nat × Nat} (hg : w.heap[g]? = some (.cells #[.int .i64 a, .int .u32 b, .int .u32 c, .int .i64 d] t fr)) : (loadVar 45 ⟨g, 0, none⟩).run Try.prog w = .ok (hdV a b c d) w :=
  run_loadVar_row w g t 45 #[.int .i64 a, .int .u32 b, .int .u32 c, .int .i64 d] fr _ hg Try.underlying45 rfl hdrInfo
/-- What Create's region reads, behind anything that leaves all below its result's block. -/
abbrev CrS (B : Nat) (h : H4) (X : Nat → ByteArray) (g : Nat) (wB w' : World) : Prop :=
  (loadVar 45 ⟨g + 1, 0, none⟩).run Try.prog w' = .ok (hdV h.1 h.2.1 h.2.2.1 h.2.2.2) w' ∧ (loadVar 49 ⟨g, 0, none⟩).run Try.prog w' = .ok (.agg (secA X)) w' ∧ w'.cell? ⟨g + 1, 2, none⟩ = some (.int .u32 h.2.2.1) ∧ Below B wB w'
theorem crS_of {B : Nat} {h : H4} {X : Nat → ByteArray} {g : Nat} {wB w' : World} (hg : g + 1 < B) (h0 : wB.heap[g]? = some (sObj X)) (h1 : wB.heap[g + 1]? = some (.cells #[.int .i64 h.1, .int .u32 h.2.1, .int .u32 h.2.2.1, .int .i64 h.2.2.2] 45)) (hb : Below B wB w') : CrS B h X g wB w' := by
  have e0 : w'.heap[g]? = some (sObj X) := (hb.block g (by omega)).trans h0
  have e1 : w'.heap[g + 1]? = some (.cells #[.int .i64 h.1, .int .u32 h.2.1, .int .u32 h.2.2.1, .int .i64 h.2.2.2] 45) := (hb.block (g + 1) (by omega)).trans h1
  exact ⟨load_rhdr e1, load_secs e0, by rw [cell_of e1]; rfl, hb⟩
theorem crS_call {B : Nat} {h : H4} {X : Nat → ByteArray} {g : Nat} {wB w1 w' : World} (hg : g + 1 < B) (hB : B ≤ wB.heap.size) (h0 : wB.heap[g]? = some (sObj X)) (h1 : wB.heap[g + 1]? = some (.cells #[.int .i64 h.1, .int .u32 h.2.1, .int .u32 h.2.2.1, .int .i64 h.2.2.2] 45)) (hS : CrS B h X g wB w1) (hb : Below w1.heap.size w1 w') : CrS B h X g wB w' :=
  crS_of hg h0 h1 (hS.2.2.2.trans (hb.mono (by have := hS.2.2.2.size; omega)))
theorem crS_row {B : Nat} {h : H4} {X : Nat → ByteArray} {g : Nat} {wB w1 : World} (hg : g + 1 < B) (h0 : wB.heap[g]? = some (sObj X)) (h1 : wB.heap[g + 1]? = some (.cells #[.int .i64 h.1, .int .u32 h.2.1, .int .u32 h.2.2.1, .int .i64 h.2.2.2] 45)) (hS : CrS B h X g wB w1) (A : Array Value) : CrS B h X g wB (w1.setRow B A) :=
  crS_of hg h0 h1 (below_setRow hS.2.2.2 (Nat.le_refl _) A)
set_option maxRecDepth 100000 in
set_option maxHeartbeats 1600000 in
attribute [-go_sem] Instr.build Instr.fill loadVar in
theorem rcreate_any (X : Nat → ByteArray) (h : H4) (hf : HFits h) (w : World) :
    Calls Try.prog 26 #[.agg (secA X), hdV h.1 h.2.1 h.2.2.1 h.2.2.2] w fun x w' => x = .returned (.agg (madeA h (.slice none 0 0) 1 (putS X h.2.2.1 1 0 [pad52 (hdrL h)]))) ∧ Below w.heap.size w w' := by
  have hz := zero_made
  have hsz := madeA_size (0, 0, 0, 0) (.slice none 0 0) 0 (fun _ => eB)
  obtain ⟨Z, hZ⟩ : ∃ Z, madeA (0, 0, 0, 0) (.slice none 0 0) 0 (fun _ => eB) = Z := ⟨_, rfl⟩
  rw [hZ] at hz hsz
  clear hZ
  have e0 := alloc_old (alloc_old (alloc_at w (Obj.cells (secA X) 49)) (.cells #[.int .i64 h.1, .int .u32 h.2.1, .int .u32 h.2.2.1, .int .i64 h.2.2.2] 45)) (.cells Z 51)
  have e1 := alloc_old (alloc_at' (w.alloc (Obj.cells (secA X) 49)) (.cells #[.int .i64 h.1, .int .u32 h.2.1, .int .u32 h.2.2.1, .int .i64 h.2.2.2] 45) (w.heap.size + 1) (by simp)) (.cells Z 51)
  have e2 := alloc_at' ((w.alloc (Obj.cells (secA X) 49)).alloc (.cells #[.int .i64 h.1, .int .u32 h.2.1, .int .u32 h.2.2.1, .int .i64 h.2.2.2] 45)) (.cells Z 51) (w.heap.size + 1 + 1) (by simp)
  have hB0 : Below w.heap.size w (((w.alloc (Obj.cells (secA X) 49)).alloc (.cells #[.int .i64 h.1, .int .u32 h.2.1, .int .u32 h.2.2.1, .int .i64 h.2.2.2] 45)).alloc (.cells Z 51)) := (((Below.refl _ _).alloc (Nat.le_refl _) _).alloc (by simp) _).alloc (by simp; omega) _
  have hsx := secA_size X
  have hpl := putS X h.2.2.1 1 0 [pad52 (hdrL h)]
  have KE := Lib.hid (fun w => rencode_any h hf w)
  have hm1 : many (bs (hdrL h)).size = 1 := by rw [bs_size, hdrL_length]; rfl
  have hpc := fun w => rpieces_any 32 (bs (hdrL h)) (by rw [bs_size, hdrL_length]; omega) (by rw [bs_size, hdrL_length]; omega) w
  rw [hm1, bs_list] at hpc
  have KP := Lib.hid (show ∀ w, Calls Try.prog 73 #[.string (bs (hdrL h))] w fun e w' => ∃ v, e = .returned v ∧ w'.ownsRow w.heap.size 9 1 v [pad52 (hdrL h)].length ([pad52 (hdrL h)].map fun l => .string (bs l)) ∧ Below w.heap.size w w' from hpc)
  have KS := Lib.hid (fun (w : World) (B : Nat) (pv : Value) hp => sput_any X h.2.2.1 1 0 [pad52 (hdrL h)] hf.2.2.2.1 (by omega) (by intro p hp; rw [List.mem_singleton.1 hp]; exact pad52_length _) (by simp) (w := w) B pv hp 0 1 rfl rfl)
  have hbm := fun w => build_made h (putS X h.2.2.1 1 0 [pad52 (hdrL h)]) w
  obtain ⟨Y, hY⟩ : ∃ Y, secA (putS X h.2.2.1 1 0 [pad52 (hdrL h)]) = Y := ⟨_, rfl⟩
  have hsA := madeA_size h (.slice none 0 0) 1 (putS X h.2.2.1 1 0 [pad52 (hdrL h)])
  have hoA := madeA_one (lv := .slice none 0 0) rfl h 1 (putS X h.2.2.1 1 0 [pad52 (hdrL h)])
  have hlA := fun (W : World) (g : Nat) hg => (made_at (w := W) (g := g) (h := h) (lv := .slice none 0 0) (e := 1) (X := putS X h.2.2.1 1 0 [pad52 (hdrL h)]) (t := 51) (fr := (0, 0)) hg).load
  obtain ⟨A, hA⟩ : ∃ A, madeA h (.slice none 0 0) 1 (putS X h.2.2.1 1 0 [pad52 (hdrL h)]) = A := ⟨_, rfl⟩
  rw [hY] at KS hbm
  rw [hA] at hbm hsA hoA hlA ⊢
  have hst : ∀ W : World, W.heap[w.heap.size + 1 + 1]? = some (.cells Z 51) → (storeCells ⟨w.heap.size + 1 + 1, 0, none⟩ A.toList).run Try.prog W = .ok () (W.setRow (w.heap.size + 1 + 1) A) := fun W hW => store_all hW A (by rw [hsz, hsA]) hoA
  have HLA := Lib.hid hlA
  clear hY hA hlA hf hoA hpl
  go_enter Try.func26, Try.ntmps26
  go_wp2_with fail
  have hszW : w.heap.size + 1 + 1 ≤ (((w.alloc (Obj.cells (secA X) 49)).alloc (.cells #[.int .i64 h.1, .int .u32 h.2.1, .int .u32 h.2.2.1, .int .i64 h.2.2.2] 45)).alloc (.cells Z 51)).heap.size := by simp
  generalize ((w.alloc (Obj.cells (secA X) 49)).alloc (.cells #[.int .i64 h.1, .int .u32 h.2.1, .int .u32 h.2.2.1, .int .i64 h.2.2.2] 45)).alloc (.cells Z 51) = W1 at e0 e1 e2 hB0 hszW ⊢
  have hgl : w.heap.size + 1 < w.heap.size + 1 + 1 := by omega
  (go_region_held3 (fun w' => (loadVar 45 ⟨w.heap.size + 1, 0, none⟩).run Try.prog w' = .ok (hdV h.1 h.2.1 h.2.2.1 h.2.2.2) w' ∧ (loadVar 49 ⟨w.heap.size, 0, none⟩).run Try.prog w' = .ok (.agg (secA X)) w' ∧ w'.cell? ⟨w.heap.size + 1, 2, none⟩ = some (.int .u32 h.2.2.1) ∧ Below (w.heap.size + 1 + 1) W1 w')
    (first | assumption | exact crS_of hgl e0 e1 (Below.refl _ _).drew | exact crS_call hgl hszW e0 e1 (by assumption) hb | exact crS_row hgl e0 e1 (by assumption) A)
    (first
    | (go_at_call 74; (with_reducible refine (KE.out _).mono ?_); rintro x w2 ⟨rfl, hb⟩; have e3 := later_of (w1 := W1.drew) e2 hb)
    | (go_at_call 73; (with_reducible refine (KP.out _).mono ?_); rintro x w3 ⟨pv, rfl, hown, hb⟩; have e4 := later_of e3 hb; have HOW := Lib.hid hown; clear hown)
    | (go_at_call 72; (with_reducible refine (KS.out _ _ _ HOW.out).mono ?_); rintro x w4 ⟨rfl, hb⟩; have e5 := later_of e4 hb)))
  all_goals
    have hBx := (‹_ ∧ _ ∧ _ ∧ Below _ _ _›).2.2.2
    have hl2 := HLA.out _ _ (row_set e5 A)
    have hlt := hBx.size
    go_wp2_with fail
    exact bodyPost_ret (v := .agg A) (by simp [results, Try.results26, asAddr, hl2]) rfl ⟨rfl, hB0.trans (hBx.mono (by omega))⟩
end Go.Proofs.Ytoabdpobpmbckaa.Print
