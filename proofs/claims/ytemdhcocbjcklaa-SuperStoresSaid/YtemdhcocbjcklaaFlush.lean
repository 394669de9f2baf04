/- disk: span, Flush; view: Flush. -/
import Derived.Test.YtemdhcocbjcklaaPart
namespace Go.Proofs.Ytemdhcocbjcklaa.Print
open Go.RowKit
attribute [local go_sem] run_loadVar_scalar

/-- Sectors behind writes. -/
def landed (lies : List (List UInt8)) (ws : List (Nat × List UInt8)) : List (List UInt8) := ws.foldl (fun l x => l.set x.1 x.2) lies
theorem landed_snoc (lies : List (List UInt8)) (ws : List (Nat × List UInt8)) (x : Nat × List UInt8) : landed lies (ws ++ [x]) = (landed lies ws).set x.1 x.2 := by simp [landed]
theorem landed_length (lies : List (List UInt8)) (ws : List (Nat × List UInt8)) : (landed lies ws).length = lies.length := by
  induction ws generalizing lies with
  | nil => rfl
  | cons a r ih => show (landed (lies.set a.1 a.2) r).length = _; rw [ih, List.length_set]
theorem landed_64 (lies : List (List UInt8)) (ws : List (Nat × List UInt8)) (h : ∀ s ∈ lies, s.length = 64) (hw : ∀ x ∈ ws, x.2.length = 64) : ∀ s ∈ landed lies ws, s.length = 64 := by
  induction ws generalizing lies with
  | nil => exact h
  | cons a r ih =>
    refine ih (lies.set a.1 a.2) ?_ (fun x hx => hw x (List.mem_cons_of_mem _ hx))
    intro s hs
    rcases List.mem_or_eq_of_mem_set hs with h1 | h1
    · exact h s h1
    · rw [h1]; exact hw a List.mem_cons_self
theorem flat_set (l : List (List UInt8)) (h : ∀ s ∈ l, s.length = 64) (k : Nat) (hk : k < l.length) (s : List UInt8) : l.flatten.take (k * 64) ++ s ++ l.flatten.drop (k * 64 + 64) = (l.set k s).flatten := by
  induction l generalizing k with
  | nil => simp at hk
  | cons a r ih =>
    have ha := h a List.mem_cons_self
    cases k with
    | zero => simp [ha]
    | succ k =>
      have := ih (fun s hs => h s (List.mem_cons_of_mem _ hs)) k (by simpa using hk)
      rw [List.set_cons_succ, List.flatten_cons, List.flatten_cons, ← this, List.take_append, List.drop_append, show (k + 1) * 64 - a.length = k * 64 by omega, show (k + 1) * 64 + 64 - a.length = k * 64 + 64 by omega,
        List.take_of_length_le (by omega), List.drop_of_length_le (l := a) (by omega)]
      simp
theorem store_sec {w : World} {lb : Nat} {l : List (List UInt8)} (hb : w.heap[lb]? = some (secsObj l)) (h : ∀ s ∈ l, s.length = 64) (k : Nat) (hk : k < l.length) (s : List UInt8) (hs : s.length = 64) :
    (storeCells ⟨lb, k * 64, none⟩ (Lib.byteCells s)).run Try.prog w = .ok () (w.setRow lb (Lib.byteCells (l.set k s).flatten).toArray) := by
  have hl : l.flatten.length = l.length * 64 := by
    clear hk hb
    induction l with
    | nil => rfl
    | cons a r ih => rw [List.flatten_cons, List.length_append, ih (fun s hs => h s (List.mem_cons_of_mem _ hs)), h a List.mem_cons_self, List.length_cons]; omega
  have hfit : k * 64 + 64 ≤ l.length * 64 := by omega
  have hst := run_storeCells_at Try.prog lb (k * 64) 173 (Lib.byteCells s) 0 _ w hb (by rw [Lib.byteCells_length]; simp [Lib.byteCells_length, hl]; omega) (Lib.byteCells_one _)
  simp only [Nat.add_zero] at hst
  rw [hst, ← flat_set l h k hk s]
  simp [Lib.byteCells, hs]
theorem span_yes {d lb m : Nat} {wv : Value} {w : World} (h : w.heap[d]? = some (diskObj lb m wv)) (f n : Nat) (hfn : f + n ≤ m) (hm : m ≤ 8192) : Calls Try.prog 100 #[.pointer (some ⟨d, 0, none⟩), .int .i64 f, .int .i64 n] w fun x w' => x = .returned (.bool true) ∧ w = w' := by
  have hs := dsize_any h
  have k1 : decide ((0 : Int) ≤ (f : Int)) = true := by simp
  have k2 : decide ((0 : Int) ≤ (n : Int)) = true := by simp
  have k3 : decide (f ≤ m) = true := by simp; omega
  have k4 : decide ((n : Int) ≤ (m : Int) - (f : Int)) = true := by simp; omega
  have k5 : IntKind.i64.wrap ((m : Int) - (f : Int)) = (m : Int) - (f : Int) := by rw [IntKind.wrap_i64]; omega
  go_enter Try.func100, Try.ntmps100
  go_wp2_with fail
  refine hs.mono ?_
  rintro x w1 ⟨rfl, rfl⟩
  go_wp2_with fail
  refine hs.mono ?_
  rintro x w1 ⟨rfl, rfl⟩
  go_wp2
  go_ret
  exact ⟨rfl, rfl⟩
def FlushRel (w w0 : World) (d lb : Nat) (wv a b : Value) (lies : List (List UInt8)) (ins outs : List (Nat × List UInt8)) (i : Value) (wr : World) : Prop :=
  ∃ j : Nat, j ≤ ins.length ∧ i = .int .i64 j ∧ Upd (DiskFoot d lb wv) w wr ∧ w0.heap.size ≤ wr.heap.size ∧ wr.heap[d]? = some (diskObj lb lies.length wv) ∧ wr.heap[lb]? = some (secsObj (landed lies (ins.take j))) ∧
    wr.ownsRow w.heap.size 175 65 a ins.length (wcells ins) ∧ wr.ownsRow w.heap.size 175 65 b outs.length (wcells outs)
theorem flush_done {w w0 wr : World} {d lb : Nat} {wv a b : Value} {lies : List (List UInt8)} {ins outs : List (Nat × List UInt8)} {waits : List (Nat × List UInt8)} (D : DiskAt w d lb wv lies waits) (h : FlushRel w w0 d lb wv a b lies ins outs (.int .i64 ins.length) wr)
    (hi : ∀ x ∈ ins, x.2.length = 64 ∧ x.1 < lies.length) (ho : ∀ x ∈ outs, x.2.length = 64 ∧ x.1 < lies.length) : DWrote w d lb wv (landed lies ins) outs (wr.setCell ⟨d, 1, none⟩ b) := by
  obtain ⟨j, hj, hij, hU, hs, hd, hlb, hA, hC⟩ := h
  have hjl : j = ins.length := by simp at hij; omega
  subst hjl
  rw [List.take_length] at hlb
  have hdl := lt_of D.at_
  have hll := lt_of D.lies_
  have hbd : b.ownBlock ≠ some d := fun e => by have := (hC.lt d e).1; omega
  have hbl : b.ownBlock ≠ some lb := fun e => by have := (hC.lt lb e).1; omega
  have hU1 : Upd (fun i => i = d) wr (wr.setCell ⟨d, 1, none⟩ b) := (Upd.refl (fun i => i = d) wr).setCell (p := ⟨d, 1, none⟩) (fun _ => rfl) _
  refine ⟨b, ⟨?_, hU1.at_ hlb (fun e => D.dl e.symm), ?_, ?_, ?_, ?_, ?_, D.dl, hbd, hbl⟩, hU.trans hU1 (fun i _ e => .inl e), fun i hi => .inr (hC.lt i hi).1⟩
  · rw [cells_set _ _ _ _ _ _ hd, landed_length]; rfl
  · have := ownsRow_upd hU1 hC (fun i hi e => hbd (by rw [hi, e]))
    refine ⟨this.1, this.2.imp id ?_⟩
    rintro ⟨g, cap, cur, hv, hb, rest⟩
    exact ⟨g, cap, cur, hv, Nat.zero_le _, rest⟩
  · rw [landed_length]; exact D.n1
  · rw [landed_length]; exact D.n2
  · exact landed_64 lies ins D.l64 (fun x hx => (hi x hx).1)
  · intro x hx; rw [landed_length]; exact ho x hx
theorem flush_step {w w0 wr : World} {d lb : Nat} {wv a b : Value} {lies : List (List UInt8)} {ins outs : List (Nat × List UInt8)} {waits : List (Nat × List UInt8)} (D : DiskAt w d lb wv lies waits) {j : Nat} (hj : j < ins.length)
    (hU : Upd (DiskFoot d lb wv) w wr) (hs : w0.heap.size ≤ wr.heap.size) (hd : wr.heap[d]? = some (diskObj lb lies.length wv)) (hlb : wr.heap[lb]? = some (secsObj (landed lies (ins.take j))))
    (hA : wr.ownsRow w.heap.size 175 65 a ins.length (wcells ins)) (hC : wr.ownsRow w.heap.size 175 65 b outs.length (wcells outs)) (o : Obj) (i : Value) (hi : i = .int .i64 ((j + 1 : Nat) : Int)) :
    FlushRel w w0 d lb wv a b lies ins outs i ((wr.alloc o).drew.setRow lb (Lib.byteCells ((landed lies (ins.take j)).set (ins[j]).1 (ins[j]).2).flatten).toArray) := by
  have hll := lt_of D.lies_
  have hU1 : Upd (fun i => i = lb) wr ((wr.alloc o).drew.setRow lb (Lib.byteCells ((landed lies (ins.take j)).set (ins[j]).1 (ins[j]).2).flatten).toArray) := (((Upd.refl (fun i => i = lb) wr).alloc o).drew).setRow (fun _ => rfl) _
  refine ⟨j + 1, hj, hi, hU.trans hU1 (fun i _ e => .inr (.inl e)), Nat.le_trans hs hU1.size, hU1.at_ hd (fun e => D.dl e), ?_, ownsRow_upd hU1 hA (fun i hi e => ?_), ownsRow_upd hU1 hC (fun i hi e => ?_)⟩
  · rw [List.take_succ_eq_append_getElem hj, landed_snoc]
    exact setRow_heap _ lb _ _ _ _ (alloc_old hlb o)
  · have := (hA.lt i hi).1; omega
  · have := (hC.lt i hi).1; omega
theorem sec_size : (Try.prog.info? 173).map (·.size) = some 64 := by kernel_rfl
theorem load_sec {w : World} {g : Nat} {x : Nat × List UInt8} (hg : w.heap[g]? = some (.cells (wcell x).toArray 175)) (hx : x.2.length = 64) : (loadVar 173 ⟨g, 1, none⟩).run Try.prog w = .ok (.agg (Lib.byteCells x.2).toArray) w :=
  run_loadVar_mid w g 1 173 (Lib.byteCells x.2) _ (fun j v hv => by
    rw [cell_of hg]
    simp only [wcell]
    rw [List.getElem?_toArray, Nat.add_comm 1 j, List.getElem?_cons_succ]
    exact hv) Try.underlying173 rfl (by rw [Lib.byteCells_length, hx]; exact sec_size)
set_option maxRecDepth 100000 in
set_option maxHeartbeats 1600000 in
attribute [-go_sem] Instr.build Instr.fill Instr.buildSlice loadVar in
theorem flush_any {w : World} {d lb : Nat} {wv : Value} {lies : List (List UInt8)} {waits : List (Nat × List UInt8)} (D : DiskAt w d lb wv lies waits) (f n : Nat) (hfn : f + n ≤ lies.length) (hl : waits.length ≤ 1000000000) :
    Calls Try.prog 99 #[.pointer (some ⟨d, 0, none⟩), .int .i64 f, .int .i64 n] w fun x w' => x = .returned (.int .i64 0) ∧ DWrote w d lb wv (landed lies (waits.filter (inSpan f n))) (waits.filter (fun x => !inSpan f n x)) w' := by
  have n2 := D.n2
  have hp := part_any D f n (by omega) hl
  have hi64 : ∀ x ∈ waits.filter (inSpan f n), x.2.length = 64 ∧ x.1 < lies.length := fun x hx => D.w64 x (List.mem_filter.1 hx).1
  have ho64 : ∀ x ∈ waits.filter (fun x => !inSpan f n x), x.2.length = 64 ∧ x.1 < lies.length := fun x hx => D.w64 x (List.mem_filter.1 hx).1
  have hil : (waits.filter (inSpan f n)).length ≤ 1000000000 := Nat.le_trans (List.length_filter_le _ _) hl
  generalize waits.filter (inSpan f n) = ins at hp hi64 hil ⊢
  generalize waits.filter (fun x => !inSpan f n x) = outs at hp ho64 ⊢
  have hst0 := write_new
  have hz := zero_write
  generalize (wcell (0, zeroSec)).toArray = Z0 at hz hst0
  have HST := Lib.hid hst0
  have HP := Lib.hid hp
  have HI := Lib.hid hi64
  have HO := Lib.hid ho64
  clear hst0 hp hi64 ho64
  go_enter Try.func99, Try.ntmps99
  go_wp2_with fail
  refine (span_yes D.at_ f n hfn D.n2).mono ?_
  rintro x w1 ⟨rfl, rfl⟩
  go_wp2_with fail
  refine HP.out.mono ?_
  rintro x w1 ⟨a, b, rfl, hB, hA, hC, hap⟩
  have g1 : w1.heap[d]? = some (diskObj lb lies.length wv) := later_of D.at_ hB
  have g2 : w1.heap[lb]? = some (secsObj lies) := later_of D.lies_ hB
  obtain ⟨bo, bn, bc, rfl⟩ : ∃ bo bn bc, b = Value.slice bo bn bc := by
    rcases hC.2 with ⟨h, _⟩ | ⟨g, cap, cur, h, _⟩
    · exact ⟨_, _, _, h⟩
    · exact ⟨_, _, _, h⟩
  rcases hA.2 with ⟨rfl, h0⟩ | ⟨g, cap, cur, rfl, hgb, hg, hrest⟩
  · have hin : ins = [] := List.eq_nil_of_length_eq_zero h0
    subst hin
    go_wp2
    go_loopw [29] (fun i wr => FlushRel w w1 d lb wv (.slice none 0 0) (.slice bo bn bc) lies [] outs i wr) (fun _ _ => 0)
    case atStart => exact ⟨0, Nat.le_refl _, rfl, Upd.of_below hB, Nat.le_refl _, g1, g2, hA, hC⟩
    case round =>
      obtain ⟨j, hj, rfl, hrest⟩ := id hrel
      have hj0 : j = 0 := by simpa using hj
      subst hj0
      have HR := Lib.hid hrel
      have hd := hrest.2.2.1
      obtain ⟨c0, c1, f0, f1⟩ := two_of hd
      clear hrest hrel hd
      go_wp2
      go_ret
      exact ⟨rfl, flush_done D HR.out HI.out HO.out⟩
  · clear hrest
    go_wp2
    go_loopw [29] (fun i wr => FlushRel w w1 d lb wv (.slice (some ⟨g, 0, none⟩) ins.length cap) (.slice bo bn bc) lies ins outs i wr) (fun i _ => ins.length - (intOf i).toNat)
    case atStart => exact ⟨0, Nat.zero_le _, rfl, Upd.of_below hB, Nat.le_refl _, g1, g2, hA, hC⟩
    case round =>
      obtain ⟨j, hj, rfl, hrest⟩ := id hrel
      have HR := Lib.hid hrel
      obtain ⟨hU, hs1, hd, hlb, hA1, hC1⟩ := hrest
      clear hrel
      by_cases hlj : j < ins.length
      · have hx := (HI.out ins[j] (List.getElem_mem hlj)).1
        have hxl := (HI.out ins[j] (List.getElem_mem hlj)).2
        have hr := wait_range hA1 (fun x hx => (HI.out x hx).1) j hlj
        have hld := load_wait hr hx
        have hst := HST.out wr ins[j] hx
        have hR1 : (wr.alloc (.cells (wcell ins[j]).toArray 175)).cell? ⟨wr.heap.size, 0, none⟩ = some (.int .i64 (ins[j]).1) := by rw [cell_of (alloc_at _ _)]; rfl
        have hRs : (wcell ins[j]).toArray.size = 65 := by simp [wcell, Lib.byteCells_length, hx]
        have hRl : (wcell ins[j]).toArray.toList = wcell ins[j] := rfl
        have hl2 : (loadVar 173 ⟨wr.heap.size, 1, none⟩).run Try.prog (wr.alloc (.cells (wcell ins[j]).toArray 175)).drew = .ok (.agg (Lib.byteCells (ins[j]).2).toArray) (wr.alloc (.cells (wcell ins[j]).toArray 175)).drew := load_sec (alloc_at wr _) hx
        have htk : ins.take (j + 1) = ins.take j ++ [ins[j]] := by rw [List.take_succ_eq_append_getElem hlj]
        have hn64 := landed_64 lies (ins.take j) D.l64 (fun x hx => (HI.out x (List.mem_of_mem_take hx)).1)
        have hlen : (landed lies (ins.take j)).length = lies.length := landed_length _ _
        have hss := store_sec (w := (wr.alloc (.cells (wcell ins[j]).toArray 175)).drew) (alloc_old hlb _) hn64 (ins[j]).1 (by omega) (ins[j]).2 hx
        have hSs : (Lib.byteCells (ins[j]).2).toArray.size = 64 := by simp [Lib.byteCells_length, hx]
        have hSl : (Lib.byteCells (ins[j]).2).toArray.toList = Lib.byteCells (ins[j]).2 := rfl
        obtain ⟨c0, c1, f0, f1⟩ := two_of (alloc_old hd (.cells (wcell ins[j]).toArray 175))
        generalize (wcell ins[j]).toArray = R at hld hst hR1 hRs hRl hl2 hss c0 c1 f0 f1
        generalize (Lib.byteCells (ins[j]).2).toArray = S at hl2 hSs hSl
        rw [← hRl] at hst
        rw [← hSl] at hss
        clear hRl hSl hr hn64 hlen
        have hb0 : (0 : Int) ≤ ((ins[j]).1 : Int) := Int.natCast_nonneg _
        have hb1 : ((ins[j]).1 : Int) < (lies.length : Int) := by omega
        have HTK := Lib.hid htk
        have HA1 := Lib.hid hA1
        have HC1 := Lib.hid hC1
        have HLB := Lib.hid hlb
        have HD := Lib.hid hd
        clear htk hA1 hC1 hlb hd
        go_wp2
        go_region
        all_goals
          go_wp2
          go_roundw
          case rel => exact flush_step D hlj hU hs1 HD.out HLB.out HA1.out HC1.out _ _ (by go_num)
          case measure => simp [intOf]; omega
      · have hj' : j = ins.length := by omega
        subst hj'
        obtain ⟨c0, c1, f0, f1⟩ := two_of hd
        clear hd hlb hA1 hC1 hU
        go_wp2
        go_ret
        exact ⟨rfl, flush_done D HR.out HI.out HO.out⟩
end Go.Proofs.Ytemdhcocbjcklaa.Print
