/- disk: part. -/
import Derived.Test.YtemdhcocbjcklaaDiskR
namespace Go.Proofs.Ytemdhcocbjcklaa.Print
open Go.RowKit
attribute [local go_sem] run_loadVar_scalar

/-- Is a write in a span? -/
def inSpan (f n : Nat) (x : Nat × List UInt8) : Bool := decide (f ≤ x.1) && decide (x.1 - f < n)
theorem filter_snoc {α : Type} (p : α → Bool) (l : List α) (x : α) : (l ++ [x]).filter p = l.filter p ++ (if p x then [x] else []) := by
  rw [List.filter_append]; cases h : p x <;> simp [h]
/-- What a row becomes by one more write. -/
theorem row_more {w1 : World} {xs : List Value} {l : List (Nat × List UInt8)} {x : Nat × List UInt8} {v : Value} {base : Nat} {n : Nat} (hn : n = l.length + 1)
    (hown : w1.ownsRow base 175 65 v n (wcells l ++ xs)) (hx : xs = wcell x) : w1.ownsRow base 175 65 v (l ++ [x]).length (wcells (l ++ [x])) := by
  subst hx; subst hn; rw [wcells_snoc, List.length_append]; exact hown
def Parts (w w' : World) (l m : List (Nat × List UInt8)) (x : Ending) : Prop := ∃ a b, x = .returned (.tuple #[a, b]) ∧ Below w.heap.size w w' ∧
      w'.ownsRow w.heap.size 175 65 a l.length (wcells l) ∧ w'.ownsRow w.heap.size 175 65 b m.length (wcells m) ∧ (∀ k, a.ownBlock = some k → b.ownBlock ≠ some k)
def PartRel (w : World) (waits : List (Nat × List UInt8)) (f n : Nat) (va vb i : Value) (wr : World) : Prop := ∃ j : Nat, j ≤ waits.length ∧ i = .int .i64 j ∧ Below w.heap.size w wr ∧
      wr.ownsRow w.heap.size 175 65 va ((waits.take j).filter (inSpan f n)).length (wcells ((waits.take j).filter (inSpan f n))) ∧
      wr.ownsRow w.heap.size 175 65 vb ((waits.take j).filter (fun x => !inSpan f n x)).length (wcells ((waits.take j).filter (fun x => !inSpan f n x))) ∧ (∀ k, va.ownBlock = some k → vb.ownBlock ≠ some k)
theorem ownsRow_grown {w w1 : World} {row : Option Nat} (hg : w.grownBy w1 row) {base : Nat} {e : TypeId} {size n : Nat} {v : Value} {xs : List Value} (hv : w.ownsRow base e size v n xs) (hne : ∀ k, v.ownBlock = some k → row ≠ some k) : w1.ownsRow base e size v n xs :=
  hv.kept hg (by cases h : v.ownBlock with | none => exact .inl rfl | some k => exact .inr (fun e => hne k h e.symm))
theorem part_step {w wr w1 : World} {B g1 p cap : Nat} {va vb : Value} {n1 n2 : Nat} {l m : List Value} {R : Obj} (hB : Below B w wr) (hBs : B ≤ w.heap.size) (A : wr.ownsRow B 175 65 va n1 l) (C : wr.ownsRow B 175 65 vb n2 m)
    (hap : ∀ k, va.ownBlock = some k → vb.ownBlock ≠ some k) (hg : ((wr.alloc R).alloc R).grownBy w1 va.ownBlock) (hat : va.ownBlock = some g1 ∨ g1 = ((wr.alloc R).alloc R).heap.size) :
    Below B w w1 ∧ w1.ownsRow B 175 65 vb n2 m ∧ ∀ k, (Value.slice (some ⟨g1, 0, none⟩) p cap).ownBlock = some k → vb.ownBlock ≠ some k := by
  have hs := hB.size
  refine ⟨((hB.alloc (by omega) R).alloc (by simp; omega) R).grown hg (by simp; omega) (fun k h => (A.lt k h).1), ownsRow_grown hg ((C.alloc R).alloc R) (fun k h e => hap k e h), fun k hk e => ?_⟩
  have hgk : g1 = k := by simpa [Value.ownBlock] using hk
  subst hgk
  rcases hat with h | h
  · exact hap g1 h e
  · have := (C.lt g1 e).2; simp at h; omega
set_option maxRecDepth 100000 in
set_option maxHeartbeats 1600000 in
attribute [-go_sem] Instr.build Instr.fill Instr.buildSlice loadVar in
theorem part_any {w : World} {d lb : Nat} {wv : Value} {lies : List (List UInt8)} {waits : List (Nat × List UInt8)} (D : DiskAt w d lb wv lies waits) (f n : Nat) (hf : f ≤ 100000) (hl : waits.length ≤ 1000000000) :
    Calls Try.prog 101 #[.pointer (some ⟨d, 0, none⟩), .int .i64 f, .int .i64 n] w fun x w' => Parts w w' (waits.filter (inSpan f n)) (waits.filter (fun x => !inSpan f n x)) x := by
  obtain ⟨c0, c1, _, _⟩ := two_of D.at_
  rcases D.waits_.2 with ⟨rfl, h0⟩ | ⟨g, cap, cur, rfl, _, hg, hrest⟩
  · have hw : waits = [] := List.eq_nil_of_length_eq_zero h0
    subst hw
    go_enter Try.func101, Try.ntmps101
    go_wp2
    go_loopw [8, 9, 17] (fun a b i wr => a = .slice none 0 0 ∧ b = .slice none 0 0 ∧ i = .int .i64 0 ∧ w = wr) (fun _ _ _ _ => 0)
    case atStart => exact ⟨rfl, rfl, rfl, rfl⟩
    case round =>
      obtain ⟨rfl, rfl, rfl, rfl⟩ := hrel
      go_wp2
      go_ret2
      exact ⟨_, _, rfl, Below.refl _ _, World.ownsRow_nil _ _ _ _, World.ownsRow_nil _ _ _ _, fun k h => by simp [Value.ownBlock] at h⟩
  · clear hrest
    have hlt := lt_of hg
    have hdl := lt_of D.at_
    obtain ⟨i0, hi0, hz0, hz1, hz2⟩ := info_parts writeInfo
    have hz := zero_write
    have hst0 := write_new
    have hbs0 := fun (w' : World) (X0 : Array Value) (hX : X0.size = 65) => run_buildSlice_one (P := Try.prog) w' 145 175 _ 65 X0 Try.underlying145 writeInfo2 (by omega) (by omega) hX
    have hZs : (Value.agg (wcell (0, zeroSec)).toArray).cells.size = 65 := by simp [Value.cells, wcell, Lib.byteCells_length, zeroSec]
    generalize (wcell (0, zeroSec)).toArray = Z0 at hz hst0 hz0 hZs
    have HZS := Lib.hid hZs
    clear hZs
    have HST := Lib.hid hst0
    have HBS := Lib.hid hbs0
    clear hst0 hbs0
    go_enter Try.func101, Try.ntmps101
    go_wp2
    go_loopw [8, 9, 17] (fun va vb i wr => PartRel w waits f n va vb i wr) (fun _ _ i _ => waits.length - (intOf i).toNat)
    case atStart => exact ⟨0, Nat.zero_le _, rfl, Below.refl _ _, World.ownsRow_nil _ _ _ _, World.ownsRow_nil _ _ _ _, fun k h => by simp [Value.ownBlock] at h⟩
    case round =>
      unfold PartRel at hrel
      obtain ⟨j, hj, rfl, hB, hA1, hA2, hap⟩ := hrel
      by_cases hlj : j < waits.length
      · have hx := (D.w64 waits[j] (List.getElem_mem hlj)).1
        have hxl := (D.w64 waits[j] (List.getElem_mem hlj)).2
        have hn2 := D.n2
        have hr := wait_range (ownsRow_upd (S := fun _ => False) (Upd.of_below hB) D.waits_ (fun _ _ h => h)) (fun x hx => (D.w64 x hx).1) j hlj
        have hld := load_wait hr hx
        have hst := HST.out wr waits[j] hx
        have hR0 : (wcell waits[j]).toArray[0]? = some (.int .i64 (waits[j]).1) := rfl
        have hRs : (wcell waits[j]).toArray.size = 65 := by simp [wcell, Lib.byteCells_length, hx]
        have hR1 : (wr.alloc (.cells (wcell waits[j]).toArray 175)).cell? ⟨wr.heap.size, 0, none⟩ = some (.int .i64 (waits[j]).1) := by rw [cell_of (alloc_at _ _)]; rfl
        have htk : waits.take (j + 1) = waits.take j ++ [waits[j]] := by rw [List.take_succ_eq_append_getElem hlj]
        have hBn : Below w.heap.size w (wr.alloc (.cells (wcell waits[j]).toArray 175)) := hB.alloc hB.size _
        have hl2 : (loadVar 175 ⟨wr.heap.size, 0, none⟩).run Try.prog (wr.alloc (.cells (wcell waits[j]).toArray 175)) = .ok (.agg (wcell waits[j]).toArray) (wr.alloc (.cells (wcell waits[j]).toArray 175)) := load_row65 _ _ _ hRs (alloc_at _ _)
        have hRl : (wcell waits[j]).toArray.toList = wcell waits[j] := rfl
        have hbs := HBS.out (wr.alloc (.cells (wcell waits[j]).toArray 175)) (wcell waits[j]).toArray hRs
        have hone := wcell_one waits[j]
        generalize (wcell waits[j]).toArray = R at hld hst hR0 hRs hR1 hBn hRl hl2 hbs
        rw [← hRl] at hst
        have hnews : ∀ j u, R.toList[j]? = some u → ((wr.alloc (.cells R 175)).alloc (.cells R 175)).cell? ((⟨wr.heap.size + 1, 0, none⟩ : Addr).add j) = some u := World.news_of_block (alloc_at' _ _ _ (by simp))
        have hl1 : R.toList.length = 1 * 65 := by rw [Array.length_toList, hRs]
        have hbase : w.heap.size ≤ ((wr.alloc (.cells R 175)).alloc (.cells R 175)).heap.size := by have := hB.size; simp; omega
        have h1c : ∀ u ∈ R.toList, u.oneCell' = true := by rw [hRl]; exact hone
        have HNEWS := Lib.hid hnews
        have HL1 := Lib.hid hl1
        have HBASE := Lib.hid hbase
        have H1C := Lib.hid h1c
        clear hnews hl1 hbase h1c
        have HRL := Lib.hid hRl
        clear hr hRl
        have HTK := Lib.hid htk
        have HONE := Lib.hid hone
        clear htk hone
        have hal1 : ((waits.take j).filter (inSpan f n)).length ≤ j := Nat.le_trans (List.length_filter_le _ _) (List.length_take_le _ _)
        have hal2 : ((waits.take j).filter (fun x => !inSpan f n x)).length ≤ j := Nat.le_trans (List.length_filter_le _ _) (List.length_take_le _ _)
        have k3 : IntKind.i64.wrap (((waits[j]).1 : Int) - (f : Int)) = ((waits[j]).1 : Int) - (f : Int) := by rw [IntKind.wrap_i64]; omega
        have HA1 := Lib.hid hA1
        have HA2 := Lib.hid hA2
        have HAP := Lib.hid hap
        clear hA1 hA2 hap
        have hsz := hB.size
        by_cases he : f ≤ (waits[j]).1 ∧ (waits[j]).1 - f < n
        · have hb1 : decide (f ≤ (waits[j]).1) = true := by simp; omega
          have hb2 : decide (((waits[j]).1 : Int) - (f : Int) < (n : Int)) = true := by simp; omega
          have hin : inSpan f n waits[j] = true := by simp [inSpan, he.1, he.2]
          have HIN := Lib.hid hin
          clear hin he
          go_wp2_with (at_builtin; refine wpList_append_lies _ rfl (.tmp 33) (.tmp 35) 145 rfl w.heap.size 175 i0 (.agg Z0) 65 72 Try.underlying145 hi0 hz0 hz1 hz2 HZS.out (by omega) u8 _ _ rfl ((HA1.out.alloc _).alloc _) ⟨wr.heap.size + 1, 0, none⟩ 1 1 R.toList rfl HL1.out HNEWS.out H1C.out (by omega) (by unfold maxLen; omega) (by omega) HBASE.out _ rfl ?_; intro g1 cap1 w1 hown1 hgrow hat hlt1; have HO := Lib.hid hown1; have HG := Lib.hid hgrow; have HAT := Lib.hid hat; clear hown1 hgrow hat)
          go_roundw
          case rel =>
            obtain ⟨s1, s2, s3⟩ := part_step (p := ((waits.take j).filter (inSpan f n)).length + 1) (cap := cap1) hB (Nat.le_refl _) HA1.out HA2.out HAP.out HG.out HAT.out
            refine ⟨j + 1, by omega, by go_num, s1, ?_, ?_, s3⟩
            · rw [HTK.out, filter_snoc, HIN.out, if_pos rfl]; exact row_more rfl HO.out HRL.out
            · rw [HTK.out, filter_snoc, HIN.out]; simpa using s2
          case measure => simp [intOf]; omega
        · have hin : inSpan f n waits[j] = false := by simp [inSpan]; omega
          have HIN := Lib.hid hin
          clear hin
          by_cases hf1 : f ≤ (waits[j]).1
          · have hb1 : decide (f ≤ (waits[j]).1) = true := by simp; omega
            have hb2 : decide (((waits[j]).1 : Int) - (f : Int) < (n : Int)) = false := by simp; omega
            clear he
            go_wp2_with (at_builtin; refine wpList_append_lies _ rfl (.tmp 37) (.tmp 39) 145 rfl w.heap.size 175 i0 (.agg Z0) 65 72 Try.underlying145 hi0 hz0 hz1 hz2 HZS.out (by omega) u9 _ _ rfl ((HA2.out.alloc _).alloc _) ⟨wr.heap.size + 1, 0, none⟩ 1 1 R.toList rfl HL1.out HNEWS.out H1C.out (by omega) (by unfold maxLen; omega) (by omega) HBASE.out _ rfl ?_; intro g1 cap1 w1 hown1 hgrow hat hlt1; have HO := Lib.hid hown1; have HG := Lib.hid hgrow; have HAT := Lib.hid hat; clear hown1 hgrow hat)
            go_roundw
            case rel =>
              obtain ⟨s1, s2, s3⟩ := part_step (p := ((waits.take j).filter (fun x => !inSpan f n x)).length + 1) (cap := cap1) hB (Nat.le_refl _) HA2.out HA1.out (fun k h e => HAP.out k e h) HG.out HAT.out
              refine ⟨j + 1, by omega, by go_num, s1, ?_, ?_, fun k h e => s3 k e h⟩
              · rw [HTK.out, filter_snoc, HIN.out]; simpa using s2
              · rw [HTK.out, filter_snoc, HIN.out]; exact row_more rfl HO.out HRL.out
            case measure => simp [intOf]; omega
          · have hb1 : decide (f ≤ (waits[j]).1) = false := by simp; omega
            clear he
            go_wp2_with (at_builtin; refine wpList_append_lies _ rfl (.tmp 37) (.tmp 39) 145 rfl w.heap.size 175 i0 (.agg Z0) 65 72 Try.underlying145 hi0 hz0 hz1 hz2 HZS.out (by omega) u9 _ _ rfl ((HA2.out.alloc _).alloc _) ⟨wr.heap.size + 1, 0, none⟩ 1 1 R.toList rfl HL1.out HNEWS.out H1C.out (by omega) (by unfold maxLen; omega) (by omega) HBASE.out _ rfl ?_; intro g1 cap1 w1 hown1 hgrow hat hlt1; have HO := Lib.hid hown1; have HG := Lib.hid hgrow; have HAT := Lib.hid hat; clear hown1 hgrow hat)
            go_roundw
            case rel =>
              obtain ⟨s1, s2, s3⟩ := part_step (p := ((waits.take j).filter (fun x => !inSpan f n x)).length + 1) (cap := cap1) hB (Nat.le_refl _) HA2.out HA1.out (fun k h e => HAP.out k e h) HG.out HAT.out
              refine ⟨j + 1, by omega, by go_num, s1, ?_, ?_, fun k h e => s3 k e h⟩
              · rw [HTK.out, filter_snoc, HIN.out]; simpa using s2
              · rw [HTK.out, filter_snoc, HIN.out]; exact row_more rfl HO.out HRL.out
            case measure => simp [intOf]; omega
      · have hj' : j = waits.length := by omega
        subst hj'
        go_wp2
        go_ret2
        rw [List.take_length] at hA1 hA2
        exact ⟨_, _, rfl, hB, hA1, hA2, hap⟩
end Go.Proofs.Ytemdhcocbjcklaa.Print
