/- disk: part. disk: span, Flush; view: Flush. view: Flush. -/
import Derived.Test.YtoobiffhjjfpgaaView
import Derived.Test.YtoobiffhjjfpgaaFresh
namespace Go.Proofs.Ytoobiffhjjfpgaa.Print
open Go.RowKit
attribute [local go_sem] run_loadVar_scalar

/-- Is a write in a span? -/
def inSpan (f n : Nat) (x : Nat × List UInt8) : Bool := decide (f ≤ x.1) && decide (x.1 - f < n)
theorem filter_snoc {α : Type} (p : α → Bool) (l : List α) (x : α) : (l ++ [x]).filter p = l.filter p ++ (if p x then [x] else []) := by
  rw [List.filter_append]; cases h : p x <;> simp [h]
/-- What a row becomes by one more write. -/
theorem row_more {w1 : World} {xs : List Value} {l : List (Nat × List UInt8)} {x : Nat × List UInt8} {v : Value} {base : Nat} {n : Nat} (hn : n = l.length + 1)
    (hown : w1.ownsRow base 144 65 v n (wcells l ++ xs)) (hx : xs = wcell x) : w1.ownsRow base 144 65 v (l ++ [x]).length (wcells (l ++ [x])) := by
  subst hx; subst hn; rw [wcells_snoc, List.length_append]; exact hown
def Parts (w w' : World) (l m : List (Nat × List UInt8)) (x : Ending) : Prop := ∃ a b, x = .returned (.tuple #[a, b]) ∧ Below w.heap.size w w' ∧
      w'.ownsRow w.heap.size 144 65 a l.length (wcells l) ∧ w'.ownsRow w.heap.size 144 65 b m.length (wcells m) ∧ (∀ k, a.ownBlock = some k → b.ownBlock ≠ some k)
def PartRel (w : World) (waits : List (Nat × List UInt8)) (f n : Nat) (va vb i : Value) (wr : World) : Prop := ∃ j : Nat, j ≤ waits.length ∧ i = .int .i64 j ∧ Below w.heap.size w wr ∧
      wr.ownsRow w.heap.size 144 65 va ((waits.take j).filter (inSpan f n)).length (wcells ((waits.take j).filter (inSpan f n))) ∧
      wr.ownsRow w.heap.size 144 65 vb ((waits.take j).filter (fun x => !inSpan f n x)).length (wcells ((waits.take j).filter (fun x => !inSpan f n x))) ∧ (∀ k, va.ownBlock = some k → vb.ownBlock ≠ some k)
theorem ownsRow_grown {w w1 : World} {row : Option Nat} (hg : w.grownBy w1 row) {base : Nat} {e : TypeId} {size n : Nat} {v : Value} {xs : List Value} (hv : w.ownsRow base e size v n xs) (hne : ∀ k, v.ownBlock = some k → row ≠ some k) : w1.ownsRow base e size v n xs :=
  hv.kept hg (by cases h : v.ownBlock with | none => exact .inl rfl | some k => exact .inr (fun e => hne k h e.symm))
theorem part_step {w wr w1 : World} {B g1 p cap : Nat} {va vb : Value} {n1 n2 : Nat} {l m : List Value} {R : Obj} (hB : Below B w wr) (hBs : B ≤ w.heap.size) (A : wr.ownsRow B 144 65 va n1 l) (C : wr.ownsRow B 144 65 vb n2 m)
    (hap : ∀ k, va.ownBlock = some k → vb.ownBlock ≠ some k) (hg : ((wr.alloc R).alloc R).grownBy w1 va.ownBlock) (hat : va.ownBlock = some g1 ∨ g1 = ((wr.alloc R).alloc R).heap.size) :
    Below B w w1 ∧ w1.ownsRow B 144 65 vb n2 m ∧ ∀ k, (Value.slice (some ⟨g1, 0, none⟩) p cap).ownBlock = some k → vb.ownBlock ≠ some k := by
  have hs := hB.size
  refine ⟨((hB.alloc (by omega) R).alloc (by simp; omega) R).grown hg (by simp; omega) (fun k h => (A.lt k h).1), ownsRow_grown hg ((C.alloc R).alloc R) (fun k h e => hap k e h), fun k hk e => ?_⟩
  have hgk : g1 = k := by simpa [Value.ownBlock] using hk
  subst hgk
  rcases hat with h | h
  · exact hap g1 h e
  · have := (C.lt g1 e).2; simp at h; omega
set_option maxRecDepth 100000 in
set_option maxHeartbeats 1600000 in
attribute [-go_sem] Instr.build Instr.fill Instr.buildSlice loadVar in
theorem part_any {w : World} {d lb : Nat} {wv : Value} {lies : List (List UInt8)} {waits : List (Nat × List UInt8)} (D : DiskAt w d lb wv lies waits) (f n : Nat) (hf : f ≤ 100000) (hl : waits.length ≤ 1000000000) :
    Calls Try.prog 76 #[.pointer (some ⟨d, 0, none⟩), .int .i64 f, .int .i64 n] w fun x w' => Parts w w' (waits.filter (inSpan f n)) (waits.filter (fun x => !inSpan f n x)) x := by
  obtain ⟨c0, c1, _, _⟩ := two_of D.at_
  rcases D.waits_.2 with ⟨rfl, h0⟩ | ⟨g, cap, cur, rfl, _, hg, hrest⟩
  · have hw : waits = [] := List.eq_nil_of_length_eq_zero h0
    subst hw
    go_enter Try.func76, Try.ntmps76
    go_wp2
    go_loopw [8, 9, 17] (fun a b i wr => a = .slice none 0 0 ∧ b = .slice none 0 0 ∧ i = .int .i64 0 ∧ w = wr) (fun _ _ _ _ => 0)
    case atStart => exact ⟨rfl, rfl, rfl, rfl⟩
    case round =>
      obtain ⟨rfl, rfl, rfl, rfl⟩ := hrel
      go_wp2
      go_ret2
      exact ⟨_, _, rfl, Below.refl _ _, World.ownsRow_nil _ _ _ _, World.ownsRow_nil _ _ _ _, fun k h => by simp [Value.ownBlock] at h⟩
  · clear hrest
    have hlt := lt_of hg
    have hdl := lt_of D.at_
    obtain ⟨i0, hi0, hz0, hz1, hz2⟩ := info_parts writeInfo
    have hz := zero_write
    have hst0 := write_new
    have hbs0 := fun (w' : World) (X0 : Array Value) (hX : X0.size = 65) => run_buildSlice_one (P := Try.prog) w' 73 144 _ 65 X0 Try.underlying73 writeInfo2 (by omega) (by omega) hX
    have hZs : (Value.agg (wcell (0, zeroSec)).toArray).cells.size = 65 := by simp [Value.cells, wcell, Lib.byteCells_length, zeroSec]
    generalize (wcell (0, zeroSec)).toArray = Z0 at hz hst0 hz0 hZs
    have HZS := Lib.hid hZs
    clear hZs
    have HST := Lib.hid hst0
    have HBS := Lib.hid hbs0
    clear hst0 hbs0
    go_enter Try.func76, Try.ntmps76
    go_wp2
    go_loopw [8, 9, 17] (fun va vb i wr => PartRel w waits f n va vb i wr) (fun _ _ i _ => waits.length - (intOf i).toNat)
    case atStart => exact ⟨0, Nat.zero_le _, rfl, Below.refl _ _, World.ownsRow_nil _ _ _ _, World.ownsRow_nil _ _ _ _, fun k h => by simp [Value.ownBlock] at h⟩
    case round =>
      unfold PartRel at hrel
      obtain ⟨j, hj, rfl, hB, hA1, hA2, hap⟩ := hrel
      by_cases hlj : j < waits.length
      · have hx := (D.w64 waits[j] (List.getElem_mem hlj)).1
        have hxl := (D.w64 waits[j] (List.getElem_mem hlj)).2
        have hn2 := D.n2
        have hr := wait_range (ownsRow_upd (S := fun _ => False) (Upd.of_below hB) D.waits_ (fun _ _ h => h)) (fun x hx => (D.w64 x hx).1) j hlj
        have hld := load_wait hr hx
        have hst := HST.out wr waits[j] hx
        have hR0 : (wcell waits[j]).toArray[0]? = some (.int .i64 (waits[j]).1) := rfl
        have hRs : (wcell waits[j]).toArray.size = 65 := by simp [wcell, Lib.byteCells_length, hx]
        have hR1 : (wr.alloc (.cells (wcell waits[j]).toArray 144)).cell? ⟨wr.heap.size, 0, none⟩ = some (.int .i64 (waits[j]).1) := by rw [cell_of (alloc_at _ _)]; rfl
        have htk : waits.take (j + 1) = waits.take j ++ [waits[j]] := by rw [List.take_succ_eq_append_getElem hlj]
        have hBn : Below w.heap.size w (wr.alloc (.cells (wcell waits[j]).toArray 144)) := hB.alloc hB.size _
        have hl2 : (loadVar 144 ⟨wr.heap.size, 0, none⟩).run Try.prog (wr.alloc (.cells (wcell waits[j]).toArray 144)) = .ok (.agg (wcell waits[j]).toArray) (wr.alloc (.cells (wcell waits[j]).toArray 144)) := load_row65 _ _ _ hRs (alloc_at _ _)
        have hRl : (wcell waits[j]).toArray.toList = wcell waits[j] := rfl
        have hbs := HBS.out (wr.alloc (.cells (wcell waits[j]).toArray 144)) (wcell waits[j]).toArray hRs
        have hone := wcell_one waits[j]
        generalize (wcell waits[j]).toArray = R at hld hst hR0 hRs hR1 hBn hRl hl2 hbs
        rw [← hRl] at hst
        have hnews : ∀ j u, R.toList[j]? = some u → ((wr.alloc (.cells R 144)).alloc (.cells R 144)).cell? ((⟨wr.heap.size + 1, 0, none⟩ : Addr).add j) = some u := World.news_of_block (alloc_at' _ _ _ (by simp))
        have hl1 : R.toList.length = 1 * 65 := by rw [Array.length_toList, hRs]
        have hbase : w.heap.size ≤ ((wr.alloc (.cells R 144)).alloc (.cells R 144)).heap.size := by have := hB.size; simp; omega
        have h1c : ∀ u ∈ R.toList, u.oneCell' = true := by rw [hRl]; exact hone
        have HNEWS := Lib.hid hnews
        have HL1 := Lib.hid hl1
        have HBASE := Lib.hid hbase
        have H1C := Lib.hid h1c
        clear hnews hl1 hbase h1c
        have HRL := Lib.hid hRl
        clear hr hRl
        have HTK := Lib.hid htk
        have HONE := Lib.hid hone
        clear htk hone
        have hal1 : ((waits.take j).filter (inSpan f n)).length ≤ j := Nat.le_trans (List.length_filter_le _ _) (List.length_take_le _ _)
        have hal2 : ((waits.take j).filter (fun x => !inSpan f n x)).length ≤ j := Nat.le_trans (List.length_filter_le _ _) (List.length_take_le _ _)
        have k3 : IntKind.i64.wrap (((waits[j]).1 : Int) - (f : Int)) = ((waits[j]).1 : Int) - (f : Int) := by rw [IntKind.wrap_i64]; omega
        have HA1 := Lib.hid hA1
        have HA2 := Lib.hid hA2
        have HAP := Lib.hid hap
        clear hA1 hA2 hap
        have hsz := hB.size
        by_cases he : f ≤ (waits[j]).1 ∧ (waits[j]).1 - f < n
        · have hb1 : decide (f ≤ (waits[j]).1) = true := by simp; omega
          have hb2 : decide (((waits[j]).1 : Int) - (f : Int) < (n : Int)) = true := by simp; omega
          have hin : inSpan f n waits[j] = true := by simp [inSpan, he.1, he.2]
          have HIN := Lib.hid hin
          clear hin he
          go_wp2_with (at_builtin; refine wpList_append_lies _ rfl (.tmp 33) (.tmp 35) 73 rfl w.heap.size 144 i0 (.agg Z0) 65 72 Try.underlying73 hi0 hz0 hz1 hz2 HZS.out (by omega) u8 _ _ rfl ((HA1.out.alloc _).alloc _) ⟨wr.heap.size + 1, 0, none⟩ 1 1 R.toList rfl HL1.out HNEWS.out H1C.out (by omega) (by unfold maxLen; omega) (by omega) HBASE.out _ rfl ?_; intro g1 cap1 w1 hown1 hgrow hat hlt1; have HO := Lib.hid hown1; have HG := Lib.hid hgrow; have HAT := Lib.hid hat; clear hown1 hgrow hat)
          go_roundw
          case rel =>
            obtain ⟨s1, s2, s3⟩ := part_step (p := ((waits.take j).filter (inSpan f n)).length + 1) (cap := cap1) hB (Nat.le_refl _) HA1.out HA2.out HAP.out HG.out HAT.out
            refine ⟨j + 1, by omega, by go_num, s1, ?_, ?_, s3⟩
            · rw [HTK.out, filter_snoc, HIN.out, if_pos rfl]; exact row_more rfl HO.out HRL.out
            · rw [HTK.out, filter_snoc, HIN.out]; simpa using s2
          case measure => simp [intOf]; omega
        · have hin : inSpan f n waits[j] = false := by simp [inSpan]; omega
          have HIN := Lib.hid hin
          clear hin
          by_cases hf1 : f ≤ (waits[j]).1
          · have hb1 : decide (f ≤ (waits[j]).1) = true := by simp; omega
            have hb2 : decide (((waits[j]).1 : Int) - (f : Int) < (n : Int)) = false := by simp; omega
            clear he
            go_wp2_with (at_builtin; refine wpList_append_lies _ rfl (.tmp 37) (.tmp 39) 73 rfl w.heap.size 144 i0 (.agg Z0) 65 72 Try.underlying73 hi0 hz0 hz1 hz2 HZS.out (by omega) u9 _ _ rfl ((HA2.out.alloc _).alloc _) ⟨wr.heap.size + 1, 0, none⟩ 1 1 R.toList rfl HL1.out HNEWS.out H1C.out (by omega) (by unfold maxLen; omega) (by omega) HBASE.out _ rfl ?_; intro g1 cap1 w1 hown1 hgrow hat hlt1; have HO := Lib.hid hown1; have HG := Lib.hid hgrow; have HAT := Lib.hid hat; clear hown1 hgrow hat)
            go_roundw
            case rel =>
              obtain ⟨s1, s2, s3⟩ := part_step (p := ((waits.take j).filter (fun x => !inSpan f n x)).length + 1) (cap := cap1) hB (Nat.le_refl _) HA2.out HA1.out (fun k h e => HAP.out k e h) HG.out HAT.out
              refine ⟨j + 1, by omega, by go_num, s1, ?_, ?_, fun k h e => s3 k e h⟩
              · rw [HTK.out, filter_snoc, HIN.out]; simpa using s2
              · rw [HTK.out, filter_snoc, HIN.out]; exact row_more rfl HO.out HRL.out
            case measure => simp [intOf]; omega
          · have hb1 : decide (f ≤ (waits[j]).1) = false := by simp; omega
            clear he
            go_wp2_with (at_builtin; refine wpList_append_lies _ rfl (.tmp 37) (.tmp 39) 73 rfl w.heap.size 144 i0 (.agg Z0) 65 72 Try.underlying73 hi0 hz0 hz1 hz2 HZS.out (by omega) u9 _ _ rfl ((HA2.out.alloc _).alloc _) ⟨wr.heap.size + 1, 0, none⟩ 1 1 R.toList rfl HL1.out HNEWS.out H1C.out (by omega) (by unfold maxLen; omega) (by omega) HBASE.out _ rfl ?_; intro g1 cap1 w1 hown1 hgrow hat hlt1; have HO := Lib.hid hown1; have HG := Lib.hid hgrow; have HAT := Lib.hid hat; clear hown1 hgrow hat)
            go_roundw
            case rel =>
              obtain ⟨s1, s2, s3⟩ := part_step (p := ((waits.take j).filter (fun x => !inSpan f n x)).length + 1) (cap := cap1) hB (Nat.le_refl _) HA2.out HA1.out (fun k h e => HAP.out k e h) HG.out HAT.out
              refine ⟨j + 1, by omega, by go_num, s1, ?_, ?_, fun k h e => s3 k e h⟩
              · rw [HTK.out, filter_snoc, HIN.out]; simpa using s2
              · rw [HTK.out, filter_snoc, HIN.out]; exact row_more rfl HO.out HRL.out
            case measure => simp [intOf]; omega
      · have hj' : j = waits.length := by omega
        subst hj'
        go_wp2
        go_ret2
        rw [List.take_length] at hA1 hA2
        exact ⟨_, _, rfl, hB, hA1, hA2, hap⟩
end Go.Proofs.Ytoobiffhjjfpgaa.Print

namespace Go.Proofs.Ytoobiffhjjfpgaa.Print
open Go.RowKit
attribute [local go_sem] run_loadVar_scalar

/-- Sectors behind writes. -/
def landed (lies : List (List UInt8)) (ws : List (Nat × List UInt8)) : List (List UInt8) := ws.foldl (fun l x => l.set x.1 x.2) lies
theorem landed_snoc (lies : List (List UInt8)) (ws : List (Nat × List UInt8)) (x : Nat × List UInt8) : landed lies (ws ++ [x]) = (landed lies ws).set x.1 x.2 := by simp [landed]
theorem landed_length (lies : List (List UInt8)) (ws : List (Nat × List UInt8)) : (landed lies ws).length = lies.length := by
  induction ws generalizing lies with
  | nil => rfl
  | cons a r ih => show (landed (lies.set a.1 a.2) r).length = _; rw [ih, List.length_set]
theorem landed_64 (lies : List (List UInt8)) (ws : List (Nat × List UInt8)) (h : ∀ s ∈ lies, s.length = 64) (hw : ∀ x ∈ ws, x.2.length = 64) : ∀ s ∈ landed lies ws, s.length = 64 := by
  induction ws generalizing lies with
  | nil => exact h
  | cons a r ih =>
    refine ih (lies.set a.1 a.2) ?_ (fun x hx => hw x (List.mem_cons_of_mem _ hx))
    intro s hs
    rcases List.mem_or_eq_of_mem_set hs with h1 | h1
    · exact h s h1
    · rw [h1]; exact hw a List.mem_cons_self
theorem flat_set (l : List (List UInt8)) (h : ∀ s ∈ l, s.length = 64) (k : Nat) (hk : k < l.length) (s : List UInt8) : l.flatten.take (k * 64) ++ s ++ l.flatten.drop (k * 64 + 64) = (l.set k s).flatten := by
  induction l generalizing k with
  | nil => simp at hk
  | cons a r ih =>
    have ha := h a List.mem_cons_self
    cases k with
    | zero => simp [ha]
    | succ k =>
      have := ih (fun s hs => h s (List.mem_cons_of_mem _ hs)) k (by simpa using hk)
      rw [List.set_cons_succ, List.flatten_cons, List.flatten_cons, ← this, List.take_append, List.drop_append, show (k + 1) * 64 - a.length = k * 64 by omega, show (k + 1) * 64 + 64 - a.length = k * 64 + 64 by omega,
        List.take_of_length_le (by omega), List.drop_of_length_le (l := a) (by omega)]
      simp
theorem store_sec {w : World} {lb : Nat} {l : List (List UInt8)} (hb : w.heap[lb]? = some (secsObj l)) (h : ∀ s ∈ l, s.length = 64) (k : Nat) (hk : k < l.length) (s : List UInt8) (hs : s.length = 64) :
    (storeCells ⟨lb, k * 64, none⟩ (Lib.byteCells s)).run Try.prog w = .ok () (w.setRow lb (Lib.byteCells (l.set k s).flatten).toArray) := by
  have hl : l.flatten.length = l.length * 64 := by
    clear hk hb
    induction l with
    | nil => rfl
    | cons a r ih => rw [List.flatten_cons, List.length_append, ih (fun s hs => h s (List.mem_cons_of_mem _ hs)), h a List.mem_cons_self, List.length_cons]; omega
  have hfit : k * 64 + 64 ≤ l.length * 64 := by omega
  have hst := run_storeCells_at Try.prog lb (k * 64) 142 (Lib.byteCells s) 0 _ w hb (by rw [Lib.byteCells_length]; simp [Lib.byteCells_length, hl]; omega) (Lib.byteCells_one _)
  simp only [Nat.add_zero] at hst
  rw [hst, ← flat_set l h k hk s]
  simp [Lib.byteCells, hs]
theorem span_yes {d lb m : Nat} {wv : Value} {w : World} (h : w.heap[d]? = some (diskObj lb m wv)) (f n : Nat) (hfn : f + n ≤ m) (hm : m ≤ 8192) : Calls Try.prog 75 #[.pointer (some ⟨d, 0, none⟩), .int .i64 f, .int .i64 n] w fun x w' => x = .returned (.bool true) ∧ w = w' := by
  have hs := dsize_any h
  have k1 : decide ((0 : Int) ≤ (f : Int)) = true := by simp
  have k2 : decide ((0 : Int) ≤ (n : Int)) = true := by simp
  have k3 : decide (f ≤ m) = true := by simp; omega
  have k4 : decide ((n : Int) ≤ (m : Int) - (f : Int)) = true := by simp; omega
  have k5 : IntKind.i64.wrap ((m : Int) - (f : Int)) = (m : Int) - (f : Int) := by rw [IntKind.wrap_i64]; omega
  go_enter Try.func75, Try.ntmps75
  go_wp2_with fail
  refine hs.mono ?_
  rintro x w1 ⟨rfl, rfl⟩
  go_wp2_with fail
  refine hs.mono ?_
  rintro x w1 ⟨rfl, rfl⟩
  go_wp2
  go_ret
  exact ⟨rfl, rfl⟩
def FlushRel (w w0 : World) (d lb : Nat) (wv a b : Value) (lies : List (List UInt8)) (ins outs : List (Nat × List UInt8)) (i : Value) (wr : World) : Prop :=
  ∃ j : Nat, j ≤ ins.length ∧ i = .int .i64 j ∧ Upd (DiskFoot d lb wv) w wr ∧ w0.heap.size ≤ wr.heap.size ∧ wr.heap[d]? = some (diskObj lb lies.length wv) ∧ wr.heap[lb]? = some (secsObj (landed lies (ins.take j))) ∧
    wr.ownsRow w.heap.size 144 65 a ins.length (wcells ins) ∧ wr.ownsRow w.heap.size 144 65 b outs.length (wcells outs)
theorem flush_done {w w0 wr : World} {d lb : Nat} {wv a b : Value} {lies : List (List UInt8)} {ins outs : List (Nat × List UInt8)} {waits : List (Nat × List UInt8)} (D : DiskAt w d lb wv lies waits) (h : FlushRel w w0 d lb wv a b lies ins outs (.int .i64 ins.length) wr)
    (hi : ∀ x ∈ ins, x.2.length = 64 ∧ x.1 < lies.length) (ho : ∀ x ∈ outs, x.2.length = 64 ∧ x.1 < lies.length) : DWrote w d lb wv (landed lies ins) outs (wr.setCell ⟨d, 1, none⟩ b) := by
  obtain ⟨j, hj, hij, hU, hs, hd, hlb, hA, hC⟩ := h
  have hjl : j = ins.length := by simp at hij; omega
  subst hjl
  rw [List.take_length] at hlb
  have hdl := lt_of D.at_
  have hll := lt_of D.lies_
  have hbd : b.ownBlock ≠ some d := fun e => by have := (hC.lt d e).1; omega
  have hbl : b.ownBlock ≠ some lb := fun e => by have := (hC.lt lb e).1; omega
  have hU1 : Upd (fun i => i = d) wr (wr.setCell ⟨d, 1, none⟩ b) := (Upd.refl (fun i => i = d) wr).setCell (p := ⟨d, 1, none⟩) (fun _ => rfl) _
  refine ⟨b, ⟨?_, hU1.at_ hlb (fun e => D.dl e.symm), ?_, ?_, ?_, ?_, ?_, D.dl, hbd, hbl⟩, hU.trans hU1 (fun i _ e => .inl e), fun i hi => .inr (hC.lt i hi).1⟩
  · rw [cells_set _ _ _ _ _ _ hd, landed_length]; rfl
  · have := ownsRow_upd hU1 hC (fun i hi e => hbd (by rw [hi, e]))
    refine ⟨this.1, this.2.imp id ?_⟩
    rintro ⟨g, cap, cur, hv, hb, rest⟩
    exact ⟨g, cap, cur, hv, Nat.zero_le _, rest⟩
  · rw [landed_length]; exact D.n1
  · rw [landed_length]; exact D.n2
  · exact landed_64 lies ins D.l64 (fun x hx => (hi x hx).1)
  · intro x hx; rw [landed_length]; exact ho x hx
theorem flush_step {w w0 wr : World} {d lb : Nat} {wv a b : Value} {lies : List (List UInt8)} {ins outs : List (Nat × List UInt8)} {waits : List (Nat × List UInt8)} (D : DiskAt w d lb wv lies waits) {j : Nat} (hj : j < ins.length)
    (hU : Upd (DiskFoot d lb wv) w wr) (hs : w0.heap.size ≤ wr.heap.size) (hd : wr.heap[d]? = some (diskObj lb lies.length wv)) (hlb : wr.heap[lb]? = some (secsObj (landed lies (ins.take j))))
    (hA : wr.ownsRow w.heap.size 144 65 a ins.length (wcells ins)) (hC : wr.ownsRow w.heap.size 144 65 b outs.length (wcells outs)) (o : Obj) (i : Value) (hi : i = .int .i64 ((j + 1 : Nat) : Int)) :
    FlushRel w w0 d lb wv a b lies ins outs i ((wr.alloc o).drew.setRow lb (Lib.byteCells ((landed lies (ins.take j)).set (ins[j]).1 (ins[j]).2).flatten).toArray) := by
  have hll := lt_of D.lies_
  have hU1 : Upd (fun i => i = lb) wr ((wr.alloc o).drew.setRow lb (Lib.byteCells ((landed lies (ins.take j)).set (ins[j]).1 (ins[j]).2).flatten).toArray) := (((Upd.refl (fun i => i = lb) wr).alloc o).drew).setRow (fun _ => rfl) _
  refine ⟨j + 1, hj, hi, hU.trans hU1 (fun i _ e => .inr (.inl e)), Nat.le_trans hs hU1.size, hU1.at_ hd (fun e => D.dl e), ?_, ownsRow_upd hU1 hA (fun i hi e => ?_), ownsRow_upd hU1 hC (fun i hi e => ?_)⟩
  · rw [List.take_succ_eq_append_getElem hj, landed_snoc]
    exact setRow_heap _ lb _ _ _ _ (alloc_old hlb o)
  · have := (hA.lt i hi).1; omega
  · have := (hC.lt i hi).1; omega
theorem sec_size : (Try.prog.info? 142).map (·.size) = some 64 := by kernel_rfl
theorem load_sec {w : World} {g : Nat} {x : Nat × List UInt8} (hg : w.heap[g]? = some (.cells (wcell x).toArray 144)) (hx : x.2.length = 64) : (loadVar 142 ⟨g, 1, none⟩).run Try.prog w = .ok (.agg (Lib.byteCells x.2).toArray) w :=
  run_loadVar_mid w g 1 142 (Lib.byteCells x.2) _ (fun j v hv => by
    rw [cell_of hg]
    simp only [wcell]
    rw [List.getElem?_toArray, Nat.add_comm 1 j, List.getElem?_cons_succ]
    exact hv) Try.underlying142 rfl (by rw [Lib.byteCells_length, hx]; exact sec_size)
set_option maxRecDepth 100000 in
set_option maxHeartbeats 1600000 in
attribute [-go_sem] Instr.build Instr.fill Instr.buildSlice loadVar in
theorem flush_any {w : World} {d lb : Nat} {wv : Value} {lies : List (List UInt8)} {waits : List (Nat × List UInt8)} (D : DiskAt w d lb wv lies waits) (f n : Nat) (hfn : f + n ≤ lies.length) (hl : waits.length ≤ 1000000000) :
    Calls Try.prog 49 #[.pointer (some ⟨d, 0, none⟩), .int .i64 f, .int .i64 n] w fun x w' => x = .returned (.int .i64 0) ∧ DWrote w d lb wv (landed lies (waits.filter (inSpan f n))) (waits.filter (fun x => !inSpan f n x)) w' := by
  have n2 := D.n2
  have hp := part_any D f n (by omega) hl
  have hi64 : ∀ x ∈ waits.filter (inSpan f n), x.2.length = 64 ∧ x.1 < lies.length := fun x hx => D.w64 x (List.mem_filter.1 hx).1
  have ho64 : ∀ x ∈ waits.filter (fun x => !inSpan f n x), x.2.length = 64 ∧ x.1 < lies.length := fun x hx => D.w64 x (List.mem_filter.1 hx).1
  have hil : (waits.filter (inSpan f n)).length ≤ 1000000000 := Nat.le_trans (List.length_filter_le _ _) hl
  generalize waits.filter (inSpan f n) = ins at hp hi64 hil ⊢
  generalize waits.filter (fun x => !inSpan f n x) = outs at hp ho64 ⊢
  have hst0 := write_new
  have hz := zero_write
  generalize (wcell (0, zeroSec)).toArray = Z0 at hz hst0
  have HST := Lib.hid hst0
  have HP := Lib.hid hp
  have HI := Lib.hid hi64
  have HO := Lib.hid ho64
  clear hst0 hp hi64 ho64
  go_enter Try.func49, Try.ntmps49
  go_wp2_with fail
  refine (span_yes D.at_ f n hfn D.n2).mono ?_
  rintro x w1 ⟨rfl, rfl⟩
  go_wp2_with fail
  refine HP.out.mono ?_
  rintro x w1 ⟨a, b, rfl, hB, hA, hC, hap⟩
  have g1 : w1.heap[d]? = some (diskObj lb lies.length wv) := later_of D.at_ hB
  have g2 : w1.heap[lb]? = some (secsObj lies) := later_of D.lies_ hB
  obtain ⟨bo, bn, bc, rfl⟩ : ∃ bo bn bc, b = Value.slice bo bn bc := by
    rcases hC.2 with ⟨h, _⟩ | ⟨g, cap, cur, h, _⟩
    · exact ⟨_, _, _, h⟩
    · exact ⟨_, _, _, h⟩
  rcases hA.2 with ⟨rfl, h0⟩ | ⟨g, cap, cur, rfl, hgb, hg, hrest⟩
  · have hin : ins = [] := List.eq_nil_of_length_eq_zero h0
    subst hin
    go_wp2
    go_loopw [29] (fun i wr => FlushRel w w1 d lb wv (.slice none 0 0) (.slice bo bn bc) lies [] outs i wr) (fun _ _ => 0)
    case atStart => exact ⟨0, Nat.le_refl _, rfl, Upd.of_below hB, Nat.le_refl _, g1, g2, hA, hC⟩
    case round =>
      obtain ⟨j, hj, rfl, hrest⟩ := id hrel
      have hj0 : j = 0 := by simpa using hj
      subst hj0
      have HR := Lib.hid hrel
      have hd := hrest.2.2.1
      obtain ⟨c0, c1, f0, f1⟩ := two_of hd
      clear hrest hrel hd
      go_wp2
      go_ret
      exact ⟨rfl, flush_done D HR.out HI.out HO.out⟩
  · clear hrest
    go_wp2
    go_loopw [29] (fun i wr => FlushRel w w1 d lb wv (.slice (some ⟨g, 0, none⟩) ins.length cap) (.slice bo bn bc) lies ins outs i wr) (fun i _ => ins.length - (intOf i).toNat)
    case atStart => exact ⟨0, Nat.zero_le _, rfl, Upd.of_below hB, Nat.le_refl _, g1, g2, hA, hC⟩
    case round =>
      obtain ⟨j, hj, rfl, hrest⟩ := id hrel
      have HR := Lib.hid hrel
      obtain ⟨hU, hs1, hd, hlb, hA1, hC1⟩ := hrest
      clear hrel
      by_cases hlj : j < ins.length
      · have hx := (HI.out ins[j] (List.getElem_mem hlj)).1
        have hxl := (HI.out ins[j] (List.getElem_mem hlj)).2
        have hr := wait_range hA1 (fun x hx => (HI.out x hx).1) j hlj
        have hld := load_wait hr hx
        have hst := HST.out wr ins[j] hx
        have hR1 : (wr.alloc (.cells (wcell ins[j]).toArray 144)).cell? ⟨wr.heap.size, 0, none⟩ = some (.int .i64 (ins[j]).1) := by rw [cell_of (alloc_at _ _)]; rfl
        have hRs : (wcell ins[j]).toArray.size = 65 := by simp [wcell, Lib.byteCells_length, hx]
        have hRl : (wcell ins[j]).toArray.toList = wcell ins[j] := rfl
        have hl2 : (loadVar 142 ⟨wr.heap.size, 1, none⟩).run Try.prog (wr.alloc (.cells (wcell ins[j]).toArray 144)).drew = .ok (.agg (Lib.byteCells (ins[j]).2).toArray) (wr.alloc (.cells (wcell ins[j]).toArray 144)).drew := load_sec (alloc_at wr _) hx
        have htk : ins.take (j + 1) = ins.take j ++ [ins[j]] := by rw [List.take_succ_eq_append_getElem hlj]
        have hn64 := landed_64 lies (ins.take j) D.l64 (fun x hx => (HI.out x (List.mem_of_mem_take hx)).1)
        have hlen : (landed lies (ins.take j)).length = lies.length := landed_length _ _
        have hss := store_sec (w := (wr.alloc (.cells (wcell ins[j]).toArray 144)).drew) (alloc_old hlb _) hn64 (ins[j]).1 (by omega) (ins[j]).2 hx
        have hSs : (Lib.byteCells (ins[j]).2).toArray.size = 64 := by simp [Lib.byteCells_length, hx]
        have hSl : (Lib.byteCells (ins[j]).2).toArray.toList = Lib.byteCells (ins[j]).2 := rfl
        obtain ⟨c0, c1, f0, f1⟩ := two_of (alloc_old hd (.cells (wcell ins[j]).toArray 144))
        generalize (wcell ins[j]).toArray = R at hld hst hR1 hRs hRl hl2 hss c0 c1 f0 f1
        generalize (Lib.byteCells (ins[j]).2).toArray = S at hl2 hSs hSl
        rw [← hRl] at hst
        rw [← hSl] at hss
        clear hRl hSl hr hn64 hlen
        have hb0 : (0 : Int) ≤ ((ins[j]).1 : Int) := Int.natCast_nonneg _
        have hb1 : ((ins[j]).1 : Int) < (lies.length : Int) := by omega
        have HTK := Lib.hid htk
        have HA1 := Lib.hid hA1
        have HC1 := Lib.hid hC1
        have HLB := Lib.hid hlb
        have HD := Lib.hid hd
        clear htk hA1 hC1 hlb hd
        go_wp2
        go_region
        all_goals
          go_wp2
          go_roundw
          case rel => exact flush_step D hlj hU hs1 HD.out HLB.out HA1.out HC1.out _ _ (by go_num)
          case measure => simp [intOf]; omega
      · have hj' : j = ins.length := by omega
        subst hj'
        obtain ⟨c0, c1, f0, f1⟩ := two_of hd
        clear hd hlb hA1 hC1 hU
        go_wp2
        go_ret
        exact ⟨rfl, flush_done D HR.out HI.out HO.out⟩
theorem store_row {P : Program} {w : World} {b : Nat} {cs : Array Value} {T : TypeId} (hb : w.heap[b]? = some (.cells cs T (0, 0))) (X : Array Value) (hs : cs.size = X.size) (h1 : ∀ v ∈ X.toList, v.oneCell' = true) :
    (storeCells ⟨b, 0, none⟩ X.toList).run P w = .ok () (w.setRow b X) := by
  have := run_storeCells_from (P := P) b T X.toList 0 cs w hb (by simp; omega) h1
  rw [this]
  simp
theorem setRow_block {w : World} {b : Nat} {cs X : Array Value} {T : TypeId} {fr : Nat × Nat} (hb : w.heap[b]? = some (.cells cs T fr)) : (w.setRow b X).heap[b]? = some (.cells X T fr) := by
  simp [World.setRow, Array.getElem?_modify, hb]
end Go.Proofs.Ytoobiffhjjfpgaa.Print

namespace Go.Proofs.Ytoobiffhjjfpgaa.Print
open Go.RowKit

theorem alloc1 (w : World) (a : Value) (ta : TypeId) : Below w.heap.size w (w.alloc (.cells #[a] ta)) ∧ (w.alloc (.cells #[a] ta)).cell? ⟨w.heap.size, 0, none⟩ = some a ∧ (w.alloc (.cells #[a] ta)).heap.size = w.heap.size + 1 := by
  refine ⟨(Below.refl _ _).alloc (Nat.le_refl _) _, ?_, by simp⟩
  rw [cell_of (alloc_at w _)]; rfl
/-- Behind a step: the view counted. -/
theorem VAt.stepped {w w1 : World} {v d lb : Nat} {wv : Value} {lies : List (List UInt8)} {waits : List (Nat × List UInt8)} {f n : Nat} {fu : Int} {dead : Bool} (V : VAt w v d lb wv lies waits f n fu dead) (hU : Upd (fun i => i = v) w w1) (hV : ViewAt w1 v d f n (burn fu) false) :
    VAt w1 v d lb wv lies waits f n (burn fu) false :=
  ⟨hV, V.disk_.keep hU V.disk_ne, V.vd, V.vl, V.vw, V.fn, (burn_le fu V.fu1 V.fu2).1, (burn_le fu V.fu1 V.fu2).2⟩
/-- A view whose disk was turned. -/
theorem VAt.turned {w w0 w1 w' : World} {v d lb : Nat} {wv : Value} {lies lies' : List (List UInt8)} {waits waits' waits0 : List (Nat × List UInt8)} {f n : Nat} {fu fu0 : Int} {dead dead0 : Bool} (V0 : VAt w v d lb wv lies waits0 f n fu0 dead0) (V : VAt w1 v d lb wv lies waits f n fu dead) (hU1 : Upd (VFoot v d lb wv) w w0) (hU : Upd (fun i => i = v) w0 w1)
    (hl : lies'.length = lies.length) (h : DWrote w1 d lb wv lies' waits' w') : VPost w v d lb wv lies' waits' f n fu dead w' := by
  obtain ⟨wv', D', U', hw'⟩ := h
  refine ⟨wv', ⟨?_, D', V.vd, V.vl, ?_, by rw [hl]; exact V.fn, V.fu1, V.fu2⟩, ?_, ?_⟩
  · obtain ⟨st', hV'⟩ := V.view_
    exact ⟨st', U'.at_ hV' (fun h => V.disk_ne v h rfl)⟩
  · intro e
    rcases hw' v e with h | h
    · exact V.vw h
    · have := V0.lt v (.inl rfl); have := hU.size; have := hU1.size; omega
  · exact (hU1.trans hU (fun i _ e => .inl e)).trans U' (fun i _ h => .inr h)
  · intro i hi
    rcases hw' i hi with h | h
    · exact .inl h
    · have := hU.size; have := hU1.size; exact .inr (by omega)
/-- A view whose fuse has burnt. -/
theorem VAt.died {w w0 : World} {v d lb : Nat} {wv : Value} {lies : List (List UInt8)} {waits : List (Nat × List UInt8)} {f n : Nat} {fu st : Int} {dead : Bool} (V : VAt w0 v d lb wv lies waits f n fu dead) (hv : w0.heap[v]? = some (viewObj d f n fu st dead)) (hU1 : Upd (VFoot v d lb wv) w w0) :
    VPost w v d lb wv lies waits f n fu true (w0.setCell ⟨v, 5, none⟩ (.bool true)) :=
  ⟨wv, ⟨⟨st, (viewObj_set (fu' := 0) (st' := 0) hv).2.2⟩, V.disk_.keep ((Upd.refl (fun i => i = v) w0).setCell (p := ⟨v, 5, none⟩) (fun _ => rfl) _) V.disk_ne, V.vd, V.vl, V.vw, V.fn, V.fu1, V.fu2⟩, hU1.setCell (p := ⟨v, 5, none⟩) (fun _ => .inl rfl) _, fun _ hi => .inl hi⟩
set_option maxRecDepth 100000 in
set_option maxHeartbeats 400000 in
theorem vclose_flush {w : World} {v d lb : Nat} {wv : Value} {lies : List (List UInt8)} {waits : List (Nat × List UInt8)} {f n : Nat} {fu : Int} {dead : Bool} (V : VAt w v d lb wv lies waits f n fu dead)
    (b0 : Nat) (hn : waits.length ≤ 1000000000) (g0 : w.cell? ⟨b0, 0, none⟩ = some (.pointer (some ⟨v, 0, none⟩))) :
    Calls Try.prog 48 #[.pointer (some ⟨b0, 0, none⟩)] w fun x w' => x = .returned (.int .i64 0) ∧ DWrote w d lb wv (landed lies (waits.filter (inSpan f n))) (waits.filter (fun x => !inSpan f n x)) w' := by
  obtain ⟨st, hv⟩ := V.view_
  obtain ⟨c0, c1, c2, c3, c4, c5, hf⟩ := six_of' hv
  have hD : Calls Try.prog 49 #[.pointer (some ⟨d, 0, none⟩), .int .i64 f, .int .i64 n] w.drew fun x w' => x = .returned (.int .i64 0) ∧ DWrote w d lb wv (landed lies (waits.filter (inSpan f n))) (waits.filter (fun x => !inSpan f n x)) w' := by
    have hU : Upd (fun _ => False) w w.drew := (Upd.refl _ _).drew
    exact (flush_any (V.disk_.keep hU (fun _ _ h => h)) f n V.fn hn).mono fun x w' ⟨hx, wv', D', U, hw⟩ => ⟨hx, wv', D', ⟨U.os, U.tape, U.output, U.size, U.other⟩, hw⟩
  have H := Lib.hid hD
  clear hD hv
  go_enter Try.func48, Try.ntmps48
  go_wp2_with fail
  go_still_tail 12, (by kernel_rfl)
  go_wp2_with fail
  refine H.out.mono ?_
  rintro x w' ⟨rfl, hw⟩
  go_wp2
  go_ret
  exact ⟨rfl, hw⟩
theorem callFlush (caps : Array Value) (w : World) : (callFunc 48 caps).run Try.prog w = .ok (.enter 48 caps) w := by kernel_rfl
theorem vflush_nil (w : World) : Calls Try.prog 31 #[.pointer none] w fun x w' => x = .returned (.int .i64 7) ∧ Below w.heap.size w w' := by
  go_enter Try.func31, Try.ntmps31
  go_wp2
  go_ret
  exact ⟨rfl, (Below.refl _ _).alloc (Nat.le_refl _) _⟩
set_option maxRecDepth 100000 in
set_option maxHeartbeats 400000 in
theorem vflush_dead {w : World} {v d lb : Nat} {wv : Value} {lies : List (List UInt8)} {waits : List (Nat × List UInt8)} {f n : Nat} {fu : Int} {dead : Bool} (V : VAt w v d lb wv lies waits f n fu dead) (hdead : fu = 0 ∨ dead = true) :
    Calls Try.prog 31 #[.pointer (some ⟨v, 0, none⟩)] w fun x w' => x = .returned (.int .i64 21) ∧ VPost w v d lb wv lies waits f n fu true w' := by
  obtain ⟨hB, a0, hz⟩ := alloc1 w (.pointer (some ⟨v, 0, none⟩)) 27
  have V1 := V.below hB
  have hU1 : Upd (VFoot v d lb wv) w _ := Upd.of_below hB
  generalize hW : w.alloc (.cells #[.pointer (some ⟨v, 0, none⟩)] 27) = W at hB a0 hz V1 hU1
  obtain ⟨st, hv⟩ := V1.view_
  have HW := Lib.hid hW
  clear hW
  have hs : ∀ c, Calls Try.prog 47 #[.pointer (some ⟨v, 0, none⟩), c] W fun x w' => x = .returned (.int .i64 21) ∧ VPost w v d lb wv lies waits f n fu true w' := by
    intro c
    by_cases h0 : fu = 0
    · subst h0
      exact (step_dead0 hv c).mono fun x w' ⟨hx, hw⟩ => ⟨hx, by subst hw; exact V1.died hv hU1⟩
    · obtain rfl : dead = true := hdead.resolve_left h0
      exact (step_dead1 hv h0 c).mono fun x w' ⟨hx, hw⟩ => ⟨hx, by subst hw; exact ⟨wv, V1, hU1, fun _ hi => .inl hi⟩⟩
  have H := Lib.hid hs
  clear hs
  go_enter Try.func31, Try.ntmps31
  go_wp2_with fail
  rw [HW.out]
  refine (H.out _).mono ?_
  rintro x w1 ⟨rfl, hw⟩
  go_wp2
  go_ret
  exact ⟨rfl, hw⟩
set_option maxRecDepth 100000 in
set_option maxHeartbeats 400000 in
theorem vflush_ok {w : World} {v d lb : Nat} {wv : Value} {lies : List (List UInt8)} {waits : List (Nat × List UInt8)} {f n : Nat} {fu : Int} (V : VAt w v d lb wv lies waits f n fu false) (h0 : fu ≠ 0) (hn : waits.length ≤ 1000000000) :
    Calls Try.prog 31 #[.pointer (some ⟨v, 0, none⟩)] w fun x w' => x = .returned (.int .i64 0) ∧ VPost w v d lb wv (landed lies (waits.filter (inSpan f n))) (waits.filter (fun x => !inSpan f n x)) f n (burn fu) false w' := by
  obtain ⟨hB, a0, hz⟩ := alloc1 w (.pointer (some ⟨v, 0, none⟩)) 27
  have V1 := V.below hB
  have hU1 : Upd (VFoot v d lb wv) w _ := Upd.of_below hB
  generalize hW : w.alloc (.cells #[.pointer (some ⟨v, 0, none⟩)] 27) = W at hB a0 hz V1 hU1
  obtain ⟨st, hv⟩ := V1.view_
  have HW := Lib.hid hW
  clear hW
  have hvlt : v < w.heap.size := V.lt v (.inl rfl)
  have hst := step_go hv h0 V.fu1 V.fu2 48 #[.pointer (some ⟨w.heap.size, 0, none⟩)] (callFlush _) 0
    (fun w' => VPost w v d lb wv (landed lies (waits.filter (inSpan f n))) (waits.filter (fun x => !inSpan f n x)) f n (burn fu) false w') (by
      intro w1 hU hV
      have V2 := V1.stepped hU hV
      have e0 := (World.cell?_of_block (a := ⟨w.heap.size, 0, none⟩) (hU.other w.heap.size (by omega) (by omega))).trans a0
      exact (vclose_flush V2 _ hn e0).mono fun x w' ⟨hx, hD⟩ => ⟨hx, V.turned V2 hU1 hU (landed_length _ _) hD⟩)
  have HS := Lib.hid hst
  clear hst
  go_enter Try.func31, Try.ntmps31
  go_wp2_with fail
  rw [HW.out]
  refine HS.out.mono ?_
  rintro x w' ⟨rfl, hw⟩
  go_wp2
  go_ret
  exact ⟨rfl, hw⟩
end Go.Proofs.Ytoobiffhjjfpgaa.Print
