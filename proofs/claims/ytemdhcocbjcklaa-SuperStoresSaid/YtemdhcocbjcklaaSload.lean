/- super: Load, Store on a view. -/
import Derived.Test.YtemdhcocbjcklaaViewF
import Derived.Test.YtemdhcocbjcklaaThree
namespace Go.Proofs.Ytemdhcocbjcklaa.Print
open Go.RowKit
attribute [local go_sem] run_loadVar_scalar

theorem store_row {P : Program} {w : World} {b : Nat} {cs : Array Value} {T : TypeId} (hb : w.heap[b]? = some (.cells cs T (0, 0))) (X : Array Value) (hs : cs.size = X.size) (h1 : ∀ v ∈ X.toList, v.oneCell' = true) :
    (storeCells ⟨b, 0, none⟩ X.toList).run P w = .ok () (w.setRow b X) := by
  have := run_storeCells_from (P := P) b T X.toList 0 cs w hb (by simp; omega) h1
  rw [this]
  simp
theorem setRow_block {w : World} {b : Nat} {cs X : Array Value} {T : TypeId} {fr : Nat × Nat} (hb : w.heap[b]? = some (.cells cs T fr)) : (w.setRow b X).heap[b]? = some (.cells X T fr) := by
  simp [World.setRow, Array.getElem?_modify, hb]
theorem supSize : (Try.prog.info? 80).map (·.size) = some 5 := by kernel_rfl
abbrev supZ : Array Value := #[.int .u32 0, .int .u32 0, .int .u32 0, .int .u32 0, .int .u32 0]
theorem supZ_zero (w : World) : (zeroValue 80).run Try.prog w = .ok (.agg supZ) w := by kernel_rfl
theorem supZ_build (w : World) : (Instr.build 80 #[]).run Try.prog w = .ok (.agg supZ) w := run_build w 80 _ _ (by kernel_rfl)
theorem load_sup {w : World} {b : Nat} {X : Array Value} (hb : w.heap[b]? = some (.cells X 80)) (hX : X.size = 5) : (loadVar 80 ⟨b, 0, none⟩).run Try.prog w = .ok (.agg X) w :=
  run_loadVar_row w b 80 80 X (0, 0) _ hb Try.underlying80 rfl (by rw [hX]; exact supSize)
theorem supZ_one : ∀ v ∈ supZ.toList, v.oneCell' = true := by simp [Value.oneCell']

set_option maxRecDepth 100000 in
set_option maxHeartbeats 400000 in
attribute [-go_sem] Instr.build Instr.fill loadVar in
theorem sload_err (v : Value) (k : Int) (hk : (k == 0) = false) (w : World) (hR : ∀ w1, Below w.heap.size w w1 → Calls Try.prog 80 #[v, .int .i64 0] w1 fun x w' => x = .returned (.tuple #[.string ⟨#[]⟩, .int .i64 k]) ∧ w1 = w') :
    Calls Try.prog 49 #[v] w fun x w' => x = .returned (.tuple #[.agg supZ, .int .i64 k]) ∧ Below w.heap.size w w' := by
  have hz := supZ_zero
  have hb := supZ_build
  have hI : supZ.size = 5 := rfl
  have h1 := supZ_one
  have hg := alloc_at w (.cells supZ 80)
  have hst := store_row (P := Try.prog) hg supZ rfl h1
  rw [World.setRow_alloc_new] at hst
  have hld := load_sup hg hI
  have HR := Lib.hid (hR (w.alloc (.cells supZ 80)) ((Below.refl _ _).alloc (Nat.le_refl _) _))
  have hk2 : (k != 0) = true := by simpa using hk
  clear hR hg h1
  generalize supZ = Z at hz hb hI hst hld HR ⊢
  go_enter Try.func49, Try.ntmps49
  go_wp2_with fail
  refine HR.out.mono ?_
  rintro x w1 ⟨rfl, rfl⟩
  go_wp2
  exact bodyPost_ret (v := .tuple #[.agg Z, .int .i64 k]) (by simp [results, Try.results49, asAddr, hld]) rfl ⟨rfl, (Below.refl _ _).alloc (Nat.le_refl _) _⟩
set_option maxRecDepth 100000 in
set_option maxHeartbeats 400000 in
attribute [-go_sem] Instr.build Instr.fill loadVar in
theorem sload_ok {w : World} {v d lb : Nat} {wv : Value} {lies : List (List UInt8)} {waits : List (Nat × List UInt8)} {f n : Nat} {fu : Int} (V : VAt w v d lb wv lies waits f n fu false) (h2 : 2 ≤ n) (hn : waits.length ≤ 1000000000)
    (s0 s1 : List UInt8) (h0 : lies[f + 0]? = some s0) (h1 : lies[f + 1]? = some s1) (X : Array Value) (hX : X.size = 5) (hX1 : ∀ v ∈ X.toList, v.oneCell' = true) (k : Int)
    (hP : ∀ w, Calls Try.prog 44 #[.string (bs (lastOf waits (f + 0) s0)), .string (bs (lastOf waits (f + 1) s1))] w fun x w' => x = .returned (.tuple #[.agg X, .int .i64 k]) ∧ Below w.heap.size w w') :
    Calls Try.prog 49 #[.pointer (some ⟨v, 0, none⟩)] w fun x w' => x = .returned (.tuple #[.agg X, .int .i64 k]) ∧ Below w.heap.size w w' := by
  have hz := supZ_zero
  have hI : supZ.size = 5 := rfl
  have hB0 : Below w.heap.size w (w.alloc (.cells supZ 80)) := (Below.refl _ _).alloc (Nat.le_refl _) _
  have V1 := V.below hB0
  have hR0 := vread_ok V1 0 (by omega) hn s0 h0
  have hR1 := fun w2 (hb : Below (w.alloc (.cells supZ 80)).heap.size (w.alloc (.cells supZ 80)) w2) => vread_ok (V1.below hb) 1 (by omega) hn s1 h1
  have hg := alloc_at w (.cells supZ 80)
  have HR0 := Lib.hid hR0
  have HR1 := Lib.hid hR1
  have HP := Lib.hid hP
  have HG := Lib.hid hg
  clear hR0 hR1 hP h0 h1 hg
  generalize supZ = Z at hz hI HR0 HR1 HG hB0
  go_enter Try.func49, Try.ntmps49
  go_wp2_with fail
  refine HR0.out.mono ?_
  rintro x w1 ⟨rfl, hb1⟩
  go_wp2_with fail
  refine (HR1.out _ hb1).mono ?_
  rintro x w2 ⟨rfl, hb2⟩
  go_wp2_with fail
  refine (HP.out _).mono ?_
  rintro x w3 ⟨rfl, hb3⟩
  have g3 := later_of (later_of (later_of HG.out hb1) hb2) hb3
  have hst := store_row (P := Try.prog) g3 X (by omega) hX1
  have hB3 := below_chain (below_chain (below_chain hB0 hb1) hb2) hb3
  have hld := load_sup (setRow_block (X := X) g3) hX
  have HX1 := Lib.hid hX1
  have HB3 := Lib.hid hB3
  clear g3 hb1 hb2 hb3 hX1 hB3
  go_wp2
  exact bodyPost_ret (v := .tuple #[.agg X, .int .i64 k]) (by simp [results, Try.results49, asAddr, hld]) rfl ⟨rfl, below_setRow HB3.out (Nat.le_refl _) _⟩
end Go.Proofs.Ytemdhcocbjcklaa.Print
