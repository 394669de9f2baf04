/- disk: a disk's blocks; Size, is, span, New, Lies. disk: Write. -/
import Derived.Test.YtoobiffhjjfpgaaGreatSeal
import Derived.Deep.MidRow
import Derived.Deep.AppendLies
import Derived.BigRegion
import Derived.Deep.WholeRow
namespace Go.Proofs.YtoobiffhjjfpgaaGreat.Print
open Go.RowKit

/-- The set of blocks S may turn, blocks are made; all other blocks stay. -/
structure Upd (S : Nat → Prop) (w w' : World) : Prop where
  os : w'.os = w.os
  tape : w'.tape = w.tape
  output : w'.output = w.output
  size : w.heap.size ≤ w'.heap.size
  other : ∀ k, k < w.heap.size → ¬ S k → w'.heap[k]? = w.heap[k]?
theorem Upd.refl (S : Nat → Prop) (w : World) : Upd S w w := ⟨rfl, rfl, rfl, Nat.le_refl _, fun _ _ _ => rfl⟩
theorem Upd.trans {S T : Nat → Prop} {w w1 w2 : World} (h : Upd S w w1) (k : Upd T w1 w2) (hs : ∀ i, i < w.heap.size → T i → S i) : Upd S w w2 :=
  ⟨k.os.trans h.os, k.tape.trans h.tape, k.output.trans h.output, Nat.le_trans h.size k.size, fun i hi hn => (k.other i (Nat.lt_of_lt_of_le hi h.size) (fun t => hn (hs i hi t))).trans (h.other i hi hn)⟩
theorem Upd.mono {S T : Nat → Prop} {w w1 : World} (h : Upd S w w1) (hs : ∀ i, i < w.heap.size → S i → T i) : Upd T w w1 :=
  ⟨h.os, h.tape, h.output, h.size, fun i hi hn => h.other i hi (fun s => hn (hs i hi s))⟩
theorem Upd.below {S : Nat → Prop} {w w1 : World} {B : Nat} (h : Upd S w w1) (hB : B ≤ w.heap.size) (hs : ∀ i, i < B → ¬ S i) : Below B w w1 :=
  ⟨h.os, h.tape, h.output, h.size, fun k hk => h.other k (Nat.lt_of_lt_of_le hk hB) (hs k hk)⟩
theorem Upd.of_below {S : Nat → Prop} {w w1 : World} (h : Below w.heap.size w w1) : Upd S w w1 := ⟨h.os, h.tape, h.output, h.size, fun k hk _ => h.block k hk⟩
theorem Upd.drew {S : Nat → Prop} {w w1 : World} (h : Upd S w w1) : Upd S w w1.drew := ⟨h.os, h.tape, h.output, h.size, h.other⟩
theorem Upd.drewN {S : Nat → Prop} {w w1 : World} (h : Upd S w w1) (n : Nat) : Upd S w (w1.drewN n) := ⟨h.os, h.tape, h.output, h.size, h.other⟩
theorem Upd.alloc {S : Nat → Prop} {w w1 : World} (h : Upd S w w1) (o : Obj) : Upd S w (w1.alloc o) :=
  h.trans (T := fun _ => False) ⟨rfl, rfl, rfl, by simp, fun k hk _ => Below.heap_alloc _ _ _ hk⟩ (fun _ _ f => f.elim)
theorem Upd.setCell {S : Nat → Prop} {w w1 : World} (h : Upd S w w1) {p : Addr} (hp : p.block < w.heap.size → S p.block) (u : Value) : Upd S w (w1.setCell p u) :=
  h.trans (T := fun i => i = p.block) ⟨rfl, rfl, rfl, by simp [World.setCell], fun k _ hn => Below.heap_setCell _ _ _ _ hn⟩ (fun i hi e => by subst e; exact hp hi)
theorem Upd.setRow {S : Nat → Prop} {w w1 : World} (h : Upd S w w1) {g : Nat} (hp : g < w.heap.size → S g) (c : Array Value) : Upd S w (w1.setRow g c) :=
  h.trans (T := fun i => i = g) ⟨rfl, rfl, rfl, by simp [World.setRow], fun k _ hn => by simp only [World.setRow, Array.getElem?_modify]; rw [if_neg (fun e => hn e.symm)]⟩ (fun i hi e => by subst e; exact hp hi)
theorem Upd.at_ {S : Nat → Prop} {w w1 : World} (h : Upd S w w1) {b : Nat} {o : Obj} (hb : w.heap[b]? = some o) (hn : ¬ S b) : w1.heap[b]? = some o := (h.other b (lt_of hb) hn).trans hb

/-- A write that waits, as cells. -/
def wcell (x : Nat × List UInt8) : List Value := .int .i64 x.1 :: Lib.byteCells x.2
def wcells (l : List (Nat × List UInt8)) : List Value := l.flatMap wcell
/-- Sectors, as a block. -/
abbrev secsObj (l : List (List UInt8)) : Obj := .cells (Lib.byteCells l.flatten).toArray 228 (0, 0)
abbrev diskObj (lb n : Nat) (wv : Value) : Obj := .cells #[.slice (some ⟨lb, 0, none⟩) n n, wv] 145
/-- A disk in memory. -/
structure DiskAt (w : World) (d lb : Nat) (wv : Value) (lies : List (List UInt8)) (waits : List (Nat × List UInt8)) : Prop where
  at_ : w.heap[d]? = some (diskObj lb lies.length wv)
  lies_ : w.heap[lb]? = some (secsObj lies)
  waits_ : w.ownsRow 0 230 65 wv waits.length (wcells waits)
  n1 : 1 ≤ lies.length
  n2 : lies.length ≤ 8192
  l64 : ∀ s ∈ lies, s.length = 64
  w64 : ∀ x ∈ waits, x.2.length = 64 ∧ x.1 < lies.length
  dl : d ≠ lb
  dw : wv.ownBlock ≠ some d
  lw : wv.ownBlock ≠ some lb
/-- The blocks of a disk. -/
def DiskFoot (d lb : Nat) (wv : Value) (i : Nat) : Prop := i = d ∨ i = lb ∨ wv.ownBlock = some i

theorem ownsRow_upd {S : Nat → Prop} {w w1 : World} (h : Upd S w w1) {base : Nat} {e : TypeId} {size n : Nat} {v : Value} {xs : List Value} (hv : w.ownsRow base e size v n xs) (hn : ∀ i, v.ownBlock = some i → ¬ S i) : w1.ownsRow base e size v n xs := by
  refine ⟨hv.1, ?_⟩
  rcases hv.2 with hv | ⟨g, cap, cur, rfl, hb, hg, rest⟩
  · exact .inl hv
  · exact .inr ⟨g, cap, cur, rfl, hb, h.at_ hg (hn g rfl), rest⟩
theorem DiskAt.keep {S : Nat → Prop} {w w1 : World} {d lb : Nat} {wv : Value} {lies : List (List UInt8)} {waits : List (Nat × List UInt8)} (D : DiskAt w d lb wv lies waits) (h : Upd S w w1) (hn : ∀ i, DiskFoot d lb wv i → ¬ S i) : DiskAt w1 d lb wv lies waits :=
  ⟨h.at_ D.at_ (hn d (.inl rfl)), h.at_ D.lies_ (hn lb (.inr (.inl rfl))), ownsRow_upd h D.waits_ (fun i hi => hn i (.inr (.inr hi))), D.n1, D.n2, D.l64, D.w64, D.dl, D.dw, D.lw⟩
theorem DiskAt.lt {w : World} {d lb : Nat} {wv : Value} {lies : List (List UInt8)} {waits : List (Nat × List UInt8)} (D : DiskAt w d lb wv lies waits) : ∀ i, DiskFoot d lb wv i → i < w.heap.size := by
  rintro i (rfl | rfl | hi)
  · exact lt_of D.at_
  · exact lt_of D.lies_
  · exact (D.waits_.lt i hi).2

theorem dsize_nil (w : World) : Calls Tryz.prog 97 #[.pointer none] w fun x w' => x = .returned (.int .i64 0) ∧ w = w' := by
  go_enter Tryz.func97, Tryz.ntmps97
  go_wp2
  go_ret
  exact ⟨rfl, rfl⟩
theorem dsize_any {d lb n : Nat} {wv : Value} {w : World} (h : w.heap[d]? = some (diskObj lb n wv)) : Calls Tryz.prog 97 #[.pointer (some ⟨d, 0, none⟩)] w fun x w' => x = .returned (.int .i64 n) ∧ w = w' := by
  obtain ⟨c0, c1, _, _⟩ := two_of h
  go_enter Tryz.func97, Tryz.ntmps97
  go_wp2
  go_ret
  exact ⟨rfl, rfl⟩
theorem dis_any {d lb n : Nat} {wv : Value} {w : World} (h : w.heap[d]? = some (diskObj lb n wv)) (i : Int) : Calls Tryz.prog 167 #[.pointer (some ⟨d, 0, none⟩), .int .i64 i] w fun x w' => x = .returned (.bool (decide (0 ≤ i) && decide (i < n))) ∧ w = w' := by
  have hs := dsize_any h
  by_cases h0 : 0 ≤ i
  · have k0 : decide (0 ≤ i) = true := by simpa using h0
    go_enter Tryz.func167, Tryz.ntmps167
    go_wp2_with fail
    refine hs.mono ?_
    rintro x w1 ⟨rfl, rfl⟩
    go_wp2
    go_ret
    exact ⟨by rw [k0, Bool.true_and]; rfl, rfl⟩
  · have k0 : decide (0 ≤ i) = false := by simpa using h0
    go_enter Tryz.func167, Tryz.ntmps167
    go_wp2
    go_ret
    exact ⟨rfl, rfl⟩
theorem dis_yes {d lb n : Nat} {wv : Value} {w : World} (h : w.heap[d]? = some (diskObj lb n wv)) (i : Int) (h0 : 0 ≤ i) (h1 : i < n) : Calls Tryz.prog 167 #[.pointer (some ⟨d, 0, none⟩), .int .i64 i] w fun x w' => x = .returned (.bool true) ∧ w = w' :=
  (dis_any h i).mono fun x w' ⟨a, b⟩ => ⟨by rw [a]; simp [h0, h1], b⟩
theorem dis_no {d lb n : Nat} {wv : Value} {w : World} (h : w.heap[d]? = some (diskObj lb n wv)) (i : Int) (h0 : i < 0 ∨ n ≤ i) : Calls Tryz.prog 167 #[.pointer (some ⟨d, 0, none⟩), .int .i64 i] w fun x w' => x = .returned (.bool false) ∧ w = w' :=
  (dis_any h i).mono fun x w' ⟨a, b⟩ => ⟨by rw [a]; simp; omega, b⟩

def zeroSec : List UInt8 := List.replicate 64 0
theorem zeroSec_length : zeroSec.length = 64 := rfl
theorem flat_zero (m n : Nat) : (List.replicate n (List.replicate m (0 : UInt8))).flatten = List.replicate (n * m) 0 := by
  induction n with
  | zero => simp
  | succ n ih => rw [List.replicate_succ, List.flatten_cons, ih, List.replicate_append_replicate]; congr 1; rw [Nat.succ_mul]; omega
theorem made_zero (m n : Nat) (hm : 0 < m) : madeCells (List.replicate m (Value.int .u8 0)).toArray (n * m) = (Lib.byteCells (List.replicate (n * m) 0)).toArray := by
  apply Array.ext
  · simp [madeCells, Lib.byteCells_length]
  · intro i h1 h2
    have h3 : i % m < m := Nat.mod_lt _ hm
    simp [madeCells, Lib.byteCells, h3]
theorem made_secs (n : Nat) : madeCells (List.replicate 64 (Value.int .u8 0)).toArray (n * 64) = (Lib.byteCells (List.replicate n zeroSec).flatten).toArray := by
  rw [zeroSec, flat_zero, made_zero 64 n (by omega)]
theorem secZero : (Tryz.prog.info? 228).map (fun i => (i.zero, i.size, i.bytes)) = some (some (.agg (List.replicate 64 (Value.int .u8 0)).toArray), 64, 64) := by kernel_rfl
theorem make_secs (n : Nat) (h : n ≤ 8192) (w : World) : (Instr.makeSlice 142 (.int .i64 n) (.int .i64 n)).run Tryz.prog w = .ok (.slice (some ⟨w.heap.size, 0, none⟩) n n) (w.alloc (secsObj (List.replicate n zeroSec))) := by
  obtain ⟨i, hi, hz, hs, hb⟩ := info_parts secZero
  have hr := run_make (P := Tryz.prog) w 142 228 i _ Tryz.underlying142 hi hz .i64 .i64 n n (by omega) (by omega) (by rw [hb]; omega) (by omega)
  rw [hr, Int.toNat_natCast, hs]
  show Result.ok _ (w.alloc (.cells (madeCells (List.replicate 64 (Value.int .u8 0)).toArray (n * 64)) _)) = _
  rw [made_secs]
theorem dnew_bad (n : Int) (h : n < 1 ∨ 8192 < n) (w : World) : Calls Tryz.prog 65 #[.int .i64 n] w fun x w' => x = .returned (.tuple #[.pointer none, .int .i64 1]) ∧ w = w' := by
  by_cases h1 : n < 1
  · have k1 : decide (n < 1) = true := by simp; omega
    go_enter Tryz.func65, Tryz.ntmps65
    go_wp2
    go_ret2
    exact ⟨rfl, rfl⟩
  · have k1 : decide (n < 1) = false := by simp; omega
    have k2 : decide (8192 < n) = true := by simp; omega
    go_enter Tryz.func65, Tryz.ntmps65
    go_wp2
    go_ret2
    exact ⟨rfl, rfl⟩
theorem dnew_ok (n : Nat) (h1 : 1 ≤ n) (h2 : n ≤ 8192) (w : World) : Calls Tryz.prog 65 #[.int .i64 n] w fun x w' =>
    x = .returned (.tuple #[.pointer (some ⟨w.heap.size + 1, 0, none⟩), .int .i64 0]) ∧ w' = (w.alloc (secsObj (List.replicate n zeroSec))).alloc (diskObj w.heap.size n (.slice none 0 0)) := by
  have k1 : decide ((n : Int) < 1) = false := by simp; omega
  have k2 : decide (8192 < (n : Int)) = false := by simp; omega
  have hm := make_secs n h2
  go_enter Tryz.func65, Tryz.ntmps65
  go_wp2
  go_ret2
  exact ⟨rfl, rfl⟩
theorem dnew_at (n : Nat) (h1 : 1 ≤ n) (h2 : n ≤ 8192) (w : World) : DiskAt ((w.alloc (secsObj (List.replicate n zeroSec))).alloc (diskObj w.heap.size n (.slice none 0 0))) (w.heap.size + 1) w.heap.size (.slice none 0 0) (List.replicate n zeroSec) [] where
  at_ := by rw [List.length_replicate]; exact alloc_at' _ _ _ (by simp)
  lies_ := alloc_old (alloc_at _ _) _
  waits_ := World.ownsRow_nil _ _ _ _
  n1 := by simpa using h1
  n2 := by simpa using h2
  l64 := by intro s hs; rw [(List.mem_replicate.1 hs).2]; rfl
  w64 := by intro x hx; cases hx
  dl := by omega
  dw := by simp [Value.ownBlock]
  lw := by simp [Value.ownBlock]

/-- A sector of many, as the bytes of a block. -/
theorem flat_at (l : List (List UInt8)) (h : ∀ s ∈ l, s.length = 64) (k : Nat) (hk : k < l.length) (j : Nat) (hj : j < 64) : l.flatten[k * 64 + j]? = some ((l[k]).getD j 0) := by
  induction l generalizing k with
  | nil => simp at hk
  | cons a r ih =>
    have ha := h a List.mem_cons_self
    rw [List.flatten_cons]
    cases k with
    | zero => rw [Nat.zero_mul, Nat.zero_add, List.getElem?_append_left (by omega)]; simp [ha, hj]
    | succ k =>
      rw [List.getElem?_append_right (by omega), show (k + 1) * 64 + j - a.length = k * 64 + j by omega, ih (fun s hs => h s (List.mem_cons_of_mem _ hs)) k (by simpa using hk)]
      simp
theorem sec_range {w : World} {lb : Nat} {l : List (List UInt8)} (hb : w.heap[lb]? = some (secsObj l)) (h : ∀ s ∈ l, s.length = 64) (k : Nat) (hk : k < l.length) : w.rangeAt lb (k * 64) (Lib.byteCells l[k]) := by
  intro j v hv
  have hs := h l[k] (List.getElem_mem hk)
  have hj : j < 64 := by have := (List.getElem?_eq_some_iff.1 hv).1; rw [Lib.byteCells_length] at this; omega
  rw [cell_of hb]
  have hf := flat_at l h k hk j hj
  have hj' : j < l[k].length := by omega
  simp only [Lib.byteCells] at hv ⊢
  rw [List.getElem?_map] at hv
  rw [List.getElem?_toArray, List.getElem?_map, hf]
  simpa [hj'] using hv
theorem dlies_nil (i : Int) (w : World) : Calls Tryz.prog 168 #[.pointer none, .int .i64 i] w fun x w' => x = .returned (.tuple #[.string ⟨#[]⟩, .int .i64 7]) ∧ w = w' := by
  go_enter Tryz.func168, Tryz.ntmps168
  go_wp2
  go_ret2
  exact ⟨rfl, rfl⟩
theorem dlies_out {d lb n : Nat} {wv : Value} {w : World} (h : w.heap[d]? = some (diskObj lb n wv)) (i : Int) (h0 : i < 0 ∨ n ≤ i) : Calls Tryz.prog 168 #[.pointer (some ⟨d, 0, none⟩), .int .i64 i] w fun x w' => x = .returned (.tuple #[.string ⟨#[]⟩, .int .i64 20]) ∧ w = w' := by
  go_enter Tryz.func168, Tryz.ntmps168
  go_wp2_with fail
  refine (dis_no h i h0).mono ?_
  rintro x w1 ⟨rfl, rfl⟩
  go_wp2
  go_ret2
  exact ⟨rfl, rfl⟩
theorem dlies_any {w : World} {d lb : Nat} {wv : Value} {lies : List (List UInt8)} {waits : List (Nat × List UInt8)} (D : DiskAt w d lb wv lies waits) (k : Nat) (hk : k < lies.length) : Calls Tryz.prog 168 #[.pointer (some ⟨d, 0, none⟩), .int .i64 k] w fun x w' => x = .returned (.tuple #[.string (bs lies[k]), .int .i64 0]) ∧ w = w' := by
  obtain ⟨c0, c1, _, _⟩ := two_of D.at_
  have hs := D.l64 lies[k] (List.getElem_mem hk)
  have hr := sec_range D.lies_ D.l64 k hk
  have hcv := run_convert_bytes_back (P := Tryz.prog) w 141 9 5 (⟨lb, k * 64, none⟩ : Addr) 64 lies[k] Tryz.underlying141 Tryz.underlying5 Tryz.underlying9 (by
    intro j hj
    rw [Addr.add_mid]
    exact hr j _ (by simp [Lib.byteCells, hj]))
  rw [hs] at hcv
  have n2 := D.n2
  go_enter Tryz.func168, Tryz.ntmps168
  go_wp2_with fail
  refine (dis_yes D.at_ k (by omega) (by omega)).mono ?_
  rintro x w1 ⟨rfl, rfl⟩
  go_wp2
  go_ret2
  exact ⟨rfl, rfl⟩
end Go.Proofs.YtoobiffhjjfpgaaGreat.Print

namespace Go.Proofs.YtoobiffhjjfpgaaGreat.Print
open Go.RowKit

/-- A load of one cell, where loadVar is not laid open (attribute [-go_sem] loadVar): for walks beside whole rows. -/
theorem run_loadVar_scalar {P : Program} {t : TypeId} {a : Addr} {w : World} (h : (isAgg t).run P w = .ok false w) : (loadVar t a).run P w = (load a).run P w := by
  simp [loadVar, Sem.run_bind, h]
attribute [local go_sem] run_loadVar_scalar
theorem fold_set (o : Nat) : ∀ (l : List Value) (k : Nat) (cs : Array Value), o + k + l.length ≤ cs.size → ((l.zipIdx k).foldl (fun (cs : Array Value) (p : Value × Nat) => cs.setIfInBounds (o + p.2) p.1) cs).size = cs.size ∧
    ∀ i, ((l.zipIdx k).foldl (fun (cs : Array Value) (p : Value × Nat) => cs.setIfInBounds (o + p.2) p.1) cs)[i]? = if o + k ≤ i ∧ i < o + k + l.length then l[i - (o + k)]? else cs[i]?
  | [], k, cs, _ => ⟨rfl, fun i => by rw [if_neg (by simp)]; rfl⟩
  | v :: l, k, cs, h => by
    simp only [List.length_cons] at h
    obtain ⟨h1, h2⟩ := fold_set o l (k + 1) (cs.setIfInBounds (o + k) v) (by rw [Array.size_setIfInBounds]; omega)
    refine ⟨by rw [List.zipIdx_cons, List.foldl_cons]; rw [h1, Array.size_setIfInBounds], fun i => ?_⟩
    rw [List.zipIdx_cons, List.foldl_cons, h2 i]
    by_cases hi : o + k = i
    · subst hi
      rw [if_neg (by omega), if_pos ⟨by omega, by simp⟩, Array.getElem?_setIfInBounds_self_of_lt (by omega)]
      simp
    · by_cases h3 : o + (k + 1) ≤ i ∧ i < o + (k + 1) + l.length
      · rw [if_pos h3, if_pos ⟨by omega, by simp; omega⟩, show i - (o + k) = (i - (o + (k + 1))) + 1 by omega, List.getElem?_cons_succ]
      · rw [if_neg h3, if_neg (by simp; omega), Array.getElem?_setIfInBounds_ne hi]
theorem fill_one (cells X : Array Value) (n : Nat) (h : cells.size = n) (hX : X.size = n) : Instr.fill (fun i => some (i * n, n)) cells [(0, .agg X)] = some X := by
  have hl : X.zipIdx.foldl (fun (cs : Array Value) (p : Value × Nat) => cs.setIfInBounds (0 * n + p.2) p.1) cells = X := by
    obtain ⟨h1, h2⟩ := fold_set (0 * n) X.toList 0 cells (by simp; omega)
    rw [← Array.foldl_toList, Array.toList_zipIdx]
    apply Array.ext_getElem?
    intro i
    rw [h2 i]
    by_cases hi : i < X.size
    · rw [if_pos (by simp; exact hi)]; simp
    · rw [if_neg (by simp; omega), Array.getElem?_eq_none (by omega), Array.getElem?_eq_none (by omega)]
  show (if (X.size ≠ n || 0 * n + X.size > cells.size) then none else some (X.zipIdx.foldl (fun (cs : Array Value) (p : Value × Nat) => cs.setIfInBounds (0 * n + p.2) p.1) cells)) = some X
  rw [if_neg (by simp; omega), hl]
/-- `[]T{x}` of one whole row. -/
theorem run_buildSlice_one {P : Program} (w : World) (t e : TypeId) (z : Value) (n : Nat) (X : Array Value) (hu : P.underlying t = some (.slice e)) (hi : (P.info? e).map (fun i => (i.zero, i.size)) = some (some z, n)) (h0 : 0 < n) (h1 : n ≤ 16777216) (hX : X.size = n) :
    (Instr.buildSlice t 1 #[(0, .agg X)]).run P w = .ok (.slice (some ⟨w.heap.size, 0, none⟩) 1 1) (w.alloc (.cells X e)) := by
  obtain ⟨hz, hs⟩ := zero_of_info hi
  have hs' : ∀ w, (sizeOf e).run P w = .ok n w := by
    intro w
    cases hq : P.info? e with
    | none => simp [hq] at hs
    | some i => simp [hq] at hs; simp [sizeOf, typeInfo, hq, hs]
  have hn : ¬ (n = 0) := by omega
  have hm : ¬ (2 ^ 24 < n) := by omega
  have hf := fun (c : Array Value) (hc : c.size = n) => fill_one c X n hc hX
  have hf' := hf ((Array.range n).map (z.cells[· % z.cells.size]!)) (by simp)
  unfold Instr.buildSlice
  simp only [Sem.run_bind, run_underlying hu, Result.andThen_ok, hs', Nat.one_mul, if_neg hm, Sem.run_pure, if_neg hn, hz]
  show Sem.run P (match Instr.fill (fun i => some (i * n, n)) ((Array.range n).map (z.cells[· % z.cells.size]!)) [(0, .agg X)] with
    | some cells => (do pure (.slice (some (← newRow e cells)) 1 1) : Sem Value)
    | _ => stuck "buildSlice: a part of the wrong size") w = _
  rw [hf']
  simp [newRow]
theorem wcells_length (l : List (Nat × List UInt8)) (h : ∀ x ∈ l, x.2.length = 64) : (wcells l).length = l.length * 65 := by
  induction l with
  | nil => rfl
  | cons a r ih =>
    have ha := h a List.mem_cons_self
    simp only [wcells, List.flatMap_cons, List.length_append] at ih ⊢
    rw [ih (fun x hx => h x (List.mem_cons_of_mem _ hx))]
    simp [wcell, Lib.byteCells_length, ha]; omega
theorem wcells_snoc (l : List (Nat × List UInt8)) (x : Nat × List UInt8) : wcells (l ++ [x]) = wcells l ++ wcell x := by simp [wcells]
theorem wcell_one (x : Nat × List UInt8) : ∀ v ∈ wcell x, v.oneCell' = true := by
  intro v hv
  rcases List.mem_cons.1 hv with rfl | hv
  · rfl
  · exact Lib.byteCells_one _ v hv
/-- A disk on which one more write waits. -/
theorem DiskAt.pushed {w w1 : World} {d lb : Nat} {wv : Value} {lies : List (List UInt8)} {waits : List (Nat × List UInt8)} (D : DiskAt w d lb wv lies waits) (k g cap : Nat) (s : List UInt8)
    (hown : w1.ownsRow 0 230 65 (.slice (some ⟨g, 0, none⟩) (waits.length + 1) cap) (waits.length + 1) (wcells waits ++ wcell (k, s)))
    (hu : Upd (fun i => wv.ownBlock = some i) w w1) (hat : wv.ownBlock = some g ∨ w.heap.size ≤ g) (hk : k < lies.length) (hs : s.length = 64) :
    DiskAt (w1.setCell ⟨d, 1, none⟩ (.slice (some ⟨g, 0, none⟩) (waits.length + 1) cap)) d lb (.slice (some ⟨g, 0, none⟩) (waits.length + 1) cap) lies (waits ++ [(k, s)]) ∧
    Upd (DiskFoot d lb wv) w (w1.setCell ⟨d, 1, none⟩ (.slice (some ⟨g, 0, none⟩) (waits.length + 1) cap)) ∧ (∀ i, (Value.slice (some ⟨g, 0, none⟩) (waits.length + 1) cap).ownBlock = some i → wv.ownBlock = some i ∨ w.heap.size ≤ i) := by
  have hd1 := hu.at_ D.at_ (fun h => D.dw h)
  have hl1 := hu.at_ D.lies_ (fun h => D.lw h)
  have hgd : g ≠ d := by
    rcases hat with h | h
    · intro e; subst e; exact D.dw h
    · have := lt_of D.at_; omega
  have hgl : g ≠ lb := by
    rcases hat with h | h
    · intro e; subst e; exact D.lw h
    · have := lt_of D.lies_; omega
  have hU : Upd (DiskFoot d lb wv) w (w1.setCell ⟨d, 1, none⟩ (.slice (some ⟨g, 0, none⟩) (waits.length + 1) cap)) :=
    (hu.mono (T := DiskFoot d lb wv) (fun i _ h => .inr (.inr h))).setCell (fun _ => .inl rfl) _
  have hU1 : Upd (fun i => i = d) w1 (w1.setCell ⟨d, 1, none⟩ (.slice (some ⟨g, 0, none⟩) (waits.length + 1) cap)) := (Upd.refl (fun i => i = d) w1).setCell (p := ⟨d, 1, none⟩) (fun _ => rfl) _
  refine ⟨⟨?_, ?_, ?_, D.n1, D.n2, D.l64, ?_, D.dl, ?_, ?_⟩, hU, ?_⟩
  · rw [cells_set _ _ _ _ _ _ hd1]; rfl
  · exact hU1.at_ hl1 (fun e => D.dl e.symm)
  · rw [wcells_snoc, List.length_append]
    exact ownsRow_upd hU1 hown (fun i hi e => hgd (by simp [Value.ownBlock] at hi; omega))
  · intro x hx
    rcases List.mem_append.1 hx with hx | hx
    · exact D.w64 x hx
    · rw [List.mem_singleton] at hx; subst hx; exact ⟨hs, hk⟩
  · simp [Value.ownBlock]; exact hgd
  · simp [Value.ownBlock]; exact hgl
  · intro i hi
    have : g = i := by simpa [Value.ownBlock] using hi
    subst this; exact hat

theorem writeInfo : (Tryz.prog.info? 230).map (fun i => (i.zero, i.size, i.bytes)) = some (some (.agg (wcell (0, zeroSec)).toArray), 65, 72) := by kernel_rfl
theorem build_write (k : Int) (w : World) : (Instr.build 230 #[(0, .int .i64 k)]).run Tryz.prog w = .ok (.agg (.int .i64 k :: Lib.byteCells zeroSec).toArray) w := run_build w 230 _ _ (by kernel_rfl)
theorem zero_write (w : World) : (zeroValue 230).run Tryz.prog w = .ok (.agg (wcell (0, zeroSec)).toArray) w := by kernel_rfl
theorem writeInfo2 : (Tryz.prog.info? 230).map (fun i => (i.zero, i.size)) = some (some (.agg (wcell (0, zeroSec)).toArray), 65) := by kernel_rfl
theorem writeSize : (Tryz.prog.info? 230).map (·.size) = some 65 := by kernel_rfl
theorem load_row65 (w : World) (g : Nat) (X : Array Value) (hX : X.size = 65) (hg : w.heap[g]? = some (.cells X 230)) : (loadVar 230 ⟨g, 0, none⟩).run Tryz.prog w = .ok (.agg X) w :=
  run_loadVar_row w g 230 230 X (0, 0) _ hg Tryz.underlying230 rfl (by rw [hX]; exact writeSize)
def DWrote (w : World) (d lb : Nat) (wv : Value) (lies : List (List UInt8)) (waits' : List (Nat × List UInt8)) (w' : World) : Prop :=
  ∃ wv', DiskAt w' d lb wv' lies waits' ∧ Upd (DiskFoot d lb wv) w w' ∧ ∀ i, wv'.ownBlock = some i → wv.ownBlock = some i ∨ w.heap.size ≤ i

theorem dwrite_nil (k : Int) (s : ByteArray) (w : World) : Calls Tryz.prog 155 #[.pointer none, .int .i64 k, .string s] w fun x w' => x = .returned (.int .i64 7) ∧ w = w' := by
  go_enter Tryz.func155, Tryz.ntmps155
  go_wp2
  go_ret
  exact ⟨rfl, rfl⟩
theorem dwrite_out {d lb n : Nat} {wv : Value} {w : World} (h : w.heap[d]? = some (diskObj lb n wv)) (k : Int) (s : ByteArray) (h0 : k < 0 ∨ n ≤ k) : Calls Tryz.prog 155 #[.pointer (some ⟨d, 0, none⟩), .int .i64 k, .string s] w fun x w' => x = .returned (.int .i64 20) ∧ w = w' := by
  go_enter Tryz.func155, Tryz.ntmps155
  go_wp2_with fail
  refine (dis_no h k h0).mono ?_
  rintro x w1 ⟨rfl, rfl⟩
  go_wp2
  go_ret
  exact ⟨rfl, rfl⟩
set_option maxRecDepth 100000 in
set_option maxHeartbeats 800000 in
attribute [-go_sem] Instr.build Instr.fill Instr.buildSlice loadVar in
theorem dwrite_any {w : World} {d lb : Nat} {wv : Value} {lies : List (List UInt8)} {waits : List (Nat × List UInt8)} (D : DiskAt w d lb wv lies waits) (k : Nat) (hk : k < lies.length) (s : ByteArray) (hs : s.size = 64) (hn : waits.length ≤ 1000000000) :
    Calls Tryz.prog 155 #[.pointer (some ⟨d, 0, none⟩), .int .i64 k, .string s] w fun x w' => x = .returned (.int .i64 0) ∧ DWrote w d lb wv lies (waits ++ [(k, s.data.toList)]) w' := by
  obtain ⟨i0, hi0, hz0, hz1, hz2⟩ := info_parts writeInfo
  have hsl : s.data.toList.length = 64 := by rw [← size_list, hs]
  have kd : decide ((s.size : Int) = 64) = true := by simp; omega
  have hz := zero_write
  have hb := build_write k
  have hst : (storeCells ⟨w.heap.size, 0, none⟩ (Value.int .i64 k :: Lib.byteCells zeroSec).toArray.toList).run Tryz.prog (w.alloc (.cells (wcell (0, zeroSec)).toArray 230)) = .ok () (w.alloc (.cells (Value.int .i64 k :: Lib.byteCells zeroSec).toArray 230)) := by
    have := run_storeCells_from (P := Tryz.prog) w.heap.size 230 (Value.int .i64 k :: Lib.byteCells zeroSec) 0 (wcell (0, zeroSec)).toArray (w.alloc (.cells (wcell (0, zeroSec)).toArray 230)) (alloc_at _ _) (by simp [wcell, Lib.byteCells_length]) (wcell_one (k, zeroSec))
    rw [this]
    simp only [List.take_zero, List.nil_append, World.setRow_alloc_new]
  have hcp := Lib.run_copy_row_string (P := Tryz.prog) (w.alloc (.cells (Value.int .i64 k :: Lib.byteCells zeroSec).toArray 230)) 141 9 3 5 w.heap.size 1 64 64 s _ 230 Tryz.underlying141 secInfo (alloc_at _ _) (by omega) (by simp [Lib.byteCells_length, zeroSec]; omega)
  have hX : ((Value.int .i64 k :: Lib.byteCells zeroSec).toArray.toList.take 1 ++ Lib.byteCells s.data.toList ++ (Value.int .i64 k :: Lib.byteCells zeroSec).toArray.toList.drop (1 + s.size)).toArray = (wcell (k, s.data.toList)).toArray := by
    rw [hs]; simp [wcell, Lib.byteCells, zeroSec]
  rw [hX, World.setRow_alloc_new] at hcp
  have hx1 := wcell_one (k, s.data.toList)
  have hxs : (wcell (k, s.data.toList)).toArray.size = 65 := by simp [wcell, Lib.byteCells_length]; omega
  have hxl : (wcell (k, s.data.toList)).toArray.toList = wcell (k, s.data.toList) := rfl
  have hW0 : (Value.int .i64 k :: Lib.byteCells zeroSec).toArray.size = 65 := by simp [Lib.byteCells_length, zeroSec]
  generalize (Value.int .i64 k :: Lib.byteCells zeroSec).toArray = W0 at hb hst hcp hW0
  generalize (wcell (0, zeroSec)).toArray = Z0 at hz hst
  generalize (wcell (k, s.data.toList)).toArray = X0 at hcp hxs hxl
  clear hX
  have H1 := Lib.hid hx1
  have H2 := Lib.hid hxs
  have H3 := Lib.hid hxl
  have H4 := Lib.hid hcp
  clear hx1 hxs hxl hcp
  go_enter Tryz.func155, Tryz.ntmps155
  go_wp2_with fail
  refine (dis_yes D.at_ k (by omega) (by omega)).mono ?_
  rintro x w1 ⟨rfl, rfl⟩
  go_wp2_with (refine Lib.wpList_copy_run _ rfl (.tmp 23) (.tmp 24) 141 9 rfl _ _ rfl rfl H4.out ?_)
  have hd1 := alloc_old D.at_ (.cells X0 230)
  have hg1 := alloc_at w (.cells X0 230)
  have ho1 := D.waits_.alloc (.cells X0 230)
  have hU1 : Upd (fun i => wv.ownBlock = some i) w (w.alloc (.cells X0 230)) := (Upd.refl _ _).alloc _
  have hne : w.heap.size ≠ d := by have := lt_of D.at_; omega
  have hnw : wv.ownBlock ≠ some w.heap.size := fun e => by have := (D.waits_.lt _ e).2; omega
  have hl1 : w.heap.size + 1 = (w.alloc (.cells X0 230)).heap.size := (World.size_alloc _ _).symm
  clear hst hb hz H4
  generalize hWg : w.heap.size = G at hg1 hne hnw hl1 ⊢
  generalize w.alloc (.cells X0 230) = W at hd1 hg1 ho1 hU1 hl1 ⊢
  obtain ⟨c0, c1, f0, f1⟩ := two_of hd1
  have hdl := lt_of hd1
  have hld := load_row65 W.drew G X0 H2.out hg1
  have hbs := fun (w' : World) => run_buildSlice_one (P := Tryz.prog) w' 143 230 _ 65 X0 Tryz.underlying143 writeInfo2 (by omega) (by omega) H2.out
  have H5 := Lib.hid ho1
  clear ho1
  go_region_law (refine step_append_lies _ (by rfl) _ _ _ (by rfl) 0 230 i0 _ 65 72 Tryz.underlying143 hi0 hz0 hz1 hz2 rfl (by omega) wv _ _ (by rfl) ((H5.out.alloc _).drew) _ 1 1 X0.toList (by rfl) (by rw [Array.length_toList, H2.out]) (World.news_of_block (cs := X0) (t := 230) (fr := (0, 0)) (heap_alloc_new W _)) (by rw [H3.out]; exact H1.out) (by omega) (by unfold maxLen; omega) (by omega) (by simp) _ rfl ?_; intro gg cap w1 hown1 hgrow hat hlt; have hd2 : w1.heap[d]? = some (diskObj lb lies.length wv) := (hgrow.block d (by simp; have := lt_of hd1; omega) (fun e => D.dw e.symm)).trans (alloc_old hd1 (.cells X0 230)); obtain ⟨e0, e1, g0, g1⟩ := two_of hd2)
  all_goals
    go_wp2
    go_ret
    refine ⟨rfl, _, D.pushed k gg cap s.data.toList (by rw [← H3.out]; exact hown1) ?_ (hat.imp id (fun e => by rw [e]; simp; omega)) hk hsl⟩
    exact hU1.trans (T := fun i => wv.ownBlock = some i) ⟨hgrow.os, hgrow.tape, hgrow.output, Nat.le_trans (by simp) hgrow.size, fun i hi hn => (hgrow.block i (by simp; omega) (fun e => hn e.symm)).trans (Below.heap_alloc _ _ _ hi)⟩ (fun _ _ h => h)
end Go.Proofs.YtoobiffhjjfpgaaGreat.Print
