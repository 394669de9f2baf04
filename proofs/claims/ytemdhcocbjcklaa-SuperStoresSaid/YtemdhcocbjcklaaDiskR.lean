/- disk: Read; view: Read. -/
import Derived.Test.YtemdhcocbjcklaaViewW
namespace Go.Proofs.Ytemdhcocbjcklaa.Print
open Go.RowKit
attribute [local go_sem] run_loadVar_scalar

/-- What is read of a sector: the last write that waits, else what lies there. -/
def lastOf (waits : List (Nat × List UInt8)) (k : Nat) (s : List UInt8) : List UInt8 := waits.foldl (fun s x => if x.1 = k then x.2 else s) s
theorem lastOf_snoc (waits : List (Nat × List UInt8)) (x : Nat × List UInt8) (k : Nat) (s : List UInt8) : lastOf (waits ++ [x]) k s = if x.1 = k then x.2 else lastOf waits k s := by simp [lastOf]
theorem lastOf_length (waits : List (Nat × List UInt8)) (k : Nat) (s : List UInt8) (hs : s.length = 64) (h : ∀ x ∈ waits, x.2.length = 64) : (lastOf waits k s).length = 64 := by
  induction waits generalizing s with
  | nil => exact hs
  | cons a r ih =>
    simp only [lastOf, List.foldl_cons] at ih ⊢
    refine ih _ ?_ (fun x hx => h x (List.mem_cons_of_mem _ hx))
    split
    · exact h a List.mem_cons_self
    · exact hs

theorem wflat_at (l : List (Nat × List UInt8)) (h : ∀ x ∈ l, x.2.length = 64) (k : Nat) (hk : k < l.length) (j : Nat) (hj : j < 65) : (wcells l)[k * 65 + j]? = (wcell l[k])[j]? := by
  induction l generalizing k with
  | nil => simp at hk
  | cons a r ih =>
    have ha : (wcell a).length = 65 := by simp [wcell, Lib.byteCells_length, h a List.mem_cons_self]
    show (wcell a ++ wcells r)[k * 65 + j]? = _
    cases k with
    | zero => rw [Nat.zero_mul, Nat.zero_add, List.getElem?_append_left (by omega)]; rfl
    | succ k =>
      rw [List.getElem?_append_right (by omega), show (k + 1) * 65 + j - (wcell a).length = k * 65 + j by omega, ih (fun s hs => h s (List.mem_cons_of_mem _ hs)) k (by simpa using hk)]
      rfl
/-- A write that waits, in its block. -/
theorem wait_range {w : World} {base g n cap : Nat} {waits : List (Nat × List UInt8)} (hown : w.ownsRow base 175 65 (.slice (some ⟨g, 0, none⟩) n cap) n (wcells waits)) (h : ∀ x ∈ waits, x.2.length = 64) (k : Nat) (hk : k < waits.length) :
    w.rangeAt g (k * 65) (wcell waits[k]) := by
  intro j v hv
  have hl : (wcell waits[k]).length = 65 := by simp [wcell, Lib.byteCells_length, h waits[k] (List.getElem_mem hk)]
  have hj : j < 65 := by have := (List.getElem?_eq_some_iff.1 hv).1; omega
  have hc := hown.cells (g := g) rfl (k * 65 + j) v (by rw [wflat_at waits h k hk j hj]; exact hv)
  rwa [Addr.add_mid, Nat.zero_add] at hc
theorem load_wait {w : World} {g o : Nat} {x : Nat × List UInt8} (hc : w.rangeAt g o (wcell x)) (hx : x.2.length = 64) : (loadVar 175 ⟨g, o, none⟩).run Try.prog w = .ok (.agg (wcell x).toArray) w :=
  run_loadVar_mid w g o 175 (wcell x) _ hc Try.underlying175 rfl (by rw [show (wcell x).length = 65 by simp [wcell, Lib.byteCells_length, hx]]; exact writeSize)
/-- A write's block that was made: stored, read. -/
theorem write_new (w : World) (x : Nat × List UInt8) (hx : x.2.length = 64) :
    (storeCells ⟨w.heap.size, 0, none⟩ (wcell x).toArray.toList).run Try.prog (w.alloc (.cells (wcell (0, zeroSec)).toArray 175)) = .ok () (w.alloc (.cells (wcell x).toArray 175)) := by
  have := run_storeCells_from (P := Try.prog) w.heap.size 175 (wcell x) 0 (wcell (0, zeroSec)).toArray (w.alloc (.cells (wcell (0, zeroSec)).toArray 175)) (alloc_at _ _) (by simp [wcell, Lib.byteCells_length, hx, zeroSec]) (wcell_one x)
  show (storeCells _ (wcell x) 0).run _ _ = _
  rw [this]
  simp only [List.take_zero, List.nil_append, World.setRow_alloc_new]
theorem write_bytes {w : World} {g : Nat} {x : Nat × List UInt8} (hg : w.heap[g]? = some (.cells (wcell x).toArray 175)) (hx : x.2.length = 64) :
    (convert 72 9 (.slice (some ⟨g, 1, none⟩) 64 64)).run Try.prog w = .ok (.string (bs x.2)) w := by
  have hcv := run_convert_bytes_back (P := Try.prog) w 72 9 5 (⟨g, 1, none⟩ : Addr) 64 x.2 Try.underlying72 Try.underlying5 Try.underlying9 (by
    intro j hj
    rw [Addr.add_mid, cell_of hg]
    simp [wcell, Lib.byteCells, Nat.add_comm 1 j, hj])
  rwa [hx] at hcv
theorem dread_out {d lb n : Nat} {wv : Value} {w : World} (h : w.heap[d]? = some (diskObj lb n wv)) (k : Int) (h0 : k < 0 ∨ n ≤ k) : Calls Try.prog 97 #[.pointer (some ⟨d, 0, none⟩), .int .i64 k] w fun x w' => x = .returned (.tuple #[.string ⟨#[]⟩, .int .i64 20]) ∧ w = w' := by
  go_enter Try.func97, Try.ntmps97
  go_wp2_with fail
  refine (dlies_out h k h0).mono ?_
  rintro x w1 ⟨rfl, rfl⟩
  go_wp2
  go_ret2
  exact ⟨rfl, rfl⟩
theorem int_beq_true {a b : Int} (h : a = b) : (a == b) = true := by simpa using h
theorem int_beq_false {a b : Int} (h : ¬ a = b) : (a == b) = false := by simpa using h
set_option maxRecDepth 100000 in
set_option maxHeartbeats 800000 in
attribute [-go_sem] Instr.build Instr.fill loadVar in
theorem dread_any {w : World} {d lb : Nat} {wv : Value} {lies : List (List UInt8)} {waits : List (Nat × List UInt8)} (D : DiskAt w d lb wv lies waits) (k : Nat) (hk : k < lies.length) (hn : waits.length ≤ 1000000000) :
    Calls Try.prog 97 #[.pointer (some ⟨d, 0, none⟩), .int .i64 k] w fun x w' => x = .returned (.tuple #[.string (bs (lastOf waits k lies[k])), .int .i64 0]) ∧ Below w.heap.size w w' := by
  obtain ⟨c0, c1, _, _⟩ := two_of D.at_
  have hd := dlies_any D k hk
  rcases D.waits_.2 with ⟨rfl, h0⟩ | ⟨g, cap, cur, rfl, _, hg, _⟩
  · have hw : waits = [] := List.eq_nil_of_length_eq_zero h0
    subst hw
    go_enter Try.func97, Try.ntmps97
    go_wp2_with fail
    refine hd.mono ?_
    rintro x w1 ⟨rfl, rfl⟩
    go_wp2
    go_loopw [6, 24] (fun s i wr => s = .string (bs lies[k]) ∧ i = .int .i64 0 ∧ w = wr) (fun _ _ _ => 0)
    case atStart => exact ⟨rfl, rfl, rfl⟩
    case round =>
      obtain ⟨rfl, rfl, rfl⟩ := hrel
      go_wp2
      go_ret2
      exact ⟨rfl, Below.refl _ _⟩
  · have hlt := lt_of hg
    have hdl := lt_of D.at_
    have hz := zero_write
    have hst0 := write_new
    generalize (wcell (0, zeroSec)).toArray = Z0 at hz hst0
    have HST := Lib.hid hst0
    clear hst0
    go_enter Try.func97, Try.ntmps97
    go_wp2_with fail
    refine hd.mono ?_
    rintro x w1 ⟨rfl, rfl⟩
    go_wp2
    go_loopw [6, 24] (fun s i wr => ∃ j : Nat, j ≤ waits.length ∧ i = .int .i64 j ∧ s = .string (bs (lastOf (waits.take j) k lies[k])) ∧ Below w.heap.size w wr) (fun _ i _ => waits.length - (intOf i).toNat)
    case atStart => exact ⟨0, Nat.zero_le _, rfl, rfl, Below.refl _ _⟩
    case round =>
      obtain ⟨j, hj, rfl, rfl, hB⟩ := hrel
      have c0' := (hB.cell (p := ⟨d, 0, none⟩) hdl).trans c0
      have c1' := (hB.cell (p := ⟨d, 1, none⟩) hdl).trans c1
      by_cases hl : j < waits.length
      · have hx := (D.w64 waits[j] (List.getElem_mem hl)).1
        have hr := wait_range (ownsRow_upd (S := fun _ => False) (Upd.of_below hB) D.waits_ (fun _ _ h => h)) (fun x hx => (D.w64 x hx).1) j hl
        have hld := load_wait hr hx
        have hst := HST.out wr waits[j] hx
        have hcv := write_bytes (alloc_at wr (.cells (wcell waits[j]).toArray 175)) hx
        have hR0 : (wcell waits[j]).toArray[0]? = some (.int .i64 (waits[j]).1) := rfl
        have hRs : (wcell waits[j]).toArray.size = 65 := by simp [wcell, Lib.byteCells_length, hx]
        have hR1 : (wr.alloc (.cells (wcell waits[j]).toArray 175)).cell? ⟨wr.heap.size, 0, none⟩ = some (.int .i64 (waits[j]).1) := by rw [cell_of (alloc_at _ _)]; rfl
        have htk : waits.take (j + 1) = waits.take j ++ [waits[j]] := by rw [List.take_succ_eq_append_getElem hl]
        have hBn : Below w.heap.size w (wr.alloc (.cells (wcell waits[j]).toArray 175)) := hB.alloc hB.size _
        have hRl : (wcell waits[j]).toArray.toList = wcell waits[j] := rfl
        generalize (wcell waits[j]).toArray = R at hld hst hcv hR0 hRs hR1 hBn hRl
        rw [← hRl] at hst
        clear hRl
        clear hr
        have HTK := Lib.hid htk
        clear htk
        by_cases he : (waits[j]).1 = k
        · have hb : (((waits[j]).1 : Int) == (k : Int)) = true := by simp [he]
          go_wp2
          go_roundw
          case rel => exact ⟨j + 1, by omega, by go_num, by rw [HTK.out, lastOf_snoc, if_pos he], hBn⟩
          case measure => simp [intOf]; omega
        · have hb : (((waits[j]).1 : Int) == (k : Int)) = false := by simp; omega
          go_wp2
          go_roundw
          case rel => exact ⟨j + 1, by omega, by go_num, by rw [HTK.out, lastOf_snoc, if_neg he], hBn⟩
          case measure => simp [intOf]; omega
      · have hj' : j = waits.length := by omega
        subst hj'
        go_wp2
        go_ret2
        exact ⟨by rw [List.take_length]; rfl, hB⟩
set_option maxRecDepth 100000 in
set_option maxHeartbeats 400000 in
theorem vread_ok {w : World} {v d lb : Nat} {wv : Value} {lies : List (List UInt8)} {waits : List (Nat × List UInt8)} {f n : Nat} {fu : Int} (V : VAt w v d lb wv lies waits f n fu false)
    (k : Nat) (hk : k < n) (hn : waits.length ≤ 1000000000) (s : List UInt8) (hs : lies[f + k]? = some s) :
    Calls Try.prog 80 #[.pointer (some ⟨v, 0, none⟩), .int .i64 k] w fun x w' => x = .returned (.tuple #[.string (bs (lastOf waits (f + k) s)), .int .i64 0]) ∧ Below w.heap.size w w' := by
  obtain ⟨st, hv⟩ := V.view_
  obtain ⟨c0, c1, c2, c3, c4, c5, hf⟩ := six_of' hv
  have hfn := V.fn
  have n2 := V.disk_.n2
  have hk' : (k : Int) < n := by omega
  have hlt : f + k < lies.length := by omega
  have hsl : lies[f + k] = s := by rw [List.getElem?_eq_getElem hlt] at hs; exact Option.some.inj hs
  have k2 : IntKind.i64.wrap ((f : Int) + (k : Int)) = (f : Int) + (k : Int) := by rw [IntKind.wrap_i64]; omega
  have hD : Calls Try.prog 97 #[.pointer (some ⟨d, 0, none⟩), .int .i64 ((f : Int) + (k : Int))] w.drew fun x w' => x = .returned (.tuple #[.string (bs (lastOf waits (f + k) s)), .int .i64 0]) ∧ Below w.heap.size w w' := by
    have hU : Upd (fun _ => False) w w.drew := (Upd.refl _ _).drew
    have := dread_any (V.disk_.keep hU (fun _ _ h => h)) (f + k) hlt hn
    rw [hsl] at this
    exact this.mono fun x w' ⟨hx, hB⟩ => ⟨hx, ⟨hB.os, hB.tape, hB.output, hB.size, hB.block⟩⟩
  have H := Lib.hid hD
  clear hD hsl hs
  go_enter Try.func80, Try.ntmps80
  go_wp2_with fail
  refine (vis_yes hv k (by omega) hk').mono ?_
  rintro x w1 ⟨rfl, rfl⟩
  go_wp2_with fail
  go_region_with (go_at_call 97; (with_reducible refine H.out.mono ?_); rintro x w' ⟨rfl, hB⟩)
  all_goals
    go_wp2
    go_ret2
    exact ⟨rfl, hB⟩
end Go.Proofs.Ytemdhcocbjcklaa.Print
