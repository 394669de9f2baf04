/- disk: a disk's blocks; Size, is, span, New, Lies. -/
import Derived.Test.YtemdhcocbjcklaaSeal
import Derived.Deep.MidRow
namespace Go.Proofs.Ytemdhcocbjcklaa.Print
open Go.RowKit

/-- The set of blocks S may turn, blocks are made; all other blocks stay. -/
structure Upd (S : Nat → Prop) (w w' : World) : Prop where
  os : w'.os = w.os
  tape : w'.tape = w.tape
  output : w'.output = w.output
  size : w.heap.size ≤ w'.heap.size
  other : ∀ k, k < w.heap.size → ¬ S k → w'.heap[k]? = w.heap[k]?
theorem Upd.refl (S : Nat → Prop) (w : World) : Upd S w w := ⟨rfl, rfl, rfl, Nat.le_refl _, fun _ _ _ => rfl⟩
theorem Upd.trans {S T : Nat → Prop} {w w1 w2 : World} (h : Upd S w w1) (k : Upd T w1 w2) (hs : ∀ i, i < w.heap.size → T i → S i) : Upd S w w2 :=
  ⟨k.os.trans h.os, k.tape.trans h.tape, k.output.trans h.output, Nat.le_trans h.size k.size, fun i hi hn => (k.other i (Nat.lt_of_lt_of_le hi h.size) (fun t => hn (hs i hi t))).trans (h.other i hi hn)⟩
theorem Upd.mono {S T : Nat → Prop} {w w1 : World} (h : Upd S w w1) (hs : ∀ i, i < w.heap.size → S i → T i) : Upd T w w1 :=
  ⟨h.os, h.tape, h.output, h.size, fun i hi hn => h.other i hi (fun s => hn (hs i hi s))⟩
theorem Upd.below {S : Nat → Prop} {w w1 : World} {B : Nat} (h : Upd S w w1) (hB : B ≤ w.heap.size) (hs : ∀ i, i < B → ¬ S i) : Below B w w1 :=
  ⟨h.os, h.tape, h.output, h.size, fun k hk => h.other k (Nat.lt_of_lt_of_le hk hB) (hs k hk)⟩
theorem Upd.of_below {S : Nat → Prop} {w w1 : World} (h : Below w.heap.size w w1) : Upd S w w1 := ⟨h.os, h.tape, h.output, h.size, fun k hk _ => h.block k hk⟩
theorem Upd.drew {S : Nat → Prop} {w w1 : World} (h : Upd S w w1) : Upd S w w1.drew := ⟨h.os, h.tape, h.output, h.size, h.other⟩
theorem Upd.drewN {S : Nat → Prop} {w w1 : World} (h : Upd S w w1) (n : Nat) : Upd S w (w1.drewN n) := ⟨h.os, h.tape, h.output, h.size, h.other⟩
theorem Upd.alloc {S : Nat → Prop} {w w1 : World} (h : Upd S w w1) (o : Obj) : Upd S w (w1.alloc o) :=
  h.trans (T := fun _ => False) ⟨rfl, rfl, rfl, by simp, fun k hk _ => Below.heap_alloc _ _ _ hk⟩ (fun _ _ f => f.elim)
theorem Upd.setCell {S : Nat → Prop} {w w1 : World} (h : Upd S w w1) {p : Addr} (hp : p.block < w.heap.size → S p.block) (u : Value) : Upd S w (w1.setCell p u) :=
  h.trans (T := fun i => i = p.block) ⟨rfl, rfl, rfl, by simp [World.setCell], fun k _ hn => Below.heap_setCell _ _ _ _ hn⟩ (fun i hi e => by subst e; exact hp hi)
theorem Upd.setRow {S : Nat → Prop} {w w1 : World} (h : Upd S w w1) {g : Nat} (hp : g < w.heap.size → S g) (c : Array Value) : Upd S w (w1.setRow g c) :=
  h.trans (T := fun i => i = g) ⟨rfl, rfl, rfl, by simp [World.setRow], fun k _ hn => by simp only [World.setRow, Array.getElem?_modify]; rw [if_neg (fun e => hn e.symm)]⟩ (fun i hi e => by subst e; exact hp hi)
theorem Upd.at_ {S : Nat → Prop} {w w1 : World} (h : Upd S w w1) {b : Nat} {o : Obj} (hb : w.heap[b]? = some o) (hn : ¬ S b) : w1.heap[b]? = some o := (h.other b (lt_of hb) hn).trans hb

/-- A write that waits, as cells. -/
def wcell (x : Nat × List UInt8) : List Value := .int .i64 x.1 :: Lib.byteCells x.2
def wcells (l : List (Nat × List UInt8)) : List Value := l.flatMap wcell
/-- Sectors, as a block. -/
abbrev secsObj (l : List (List UInt8)) : Obj := .cells (Lib.byteCells l.flatten).toArray 173 (0, 0)
abbrev diskObj (lb n : Nat) (wv : Value) : Obj := .cells #[.slice (some ⟨lb, 0, none⟩) n n, wv] 147
/-- A disk in memory. -/
structure DiskAt (w : World) (d lb : Nat) (wv : Value) (lies : List (List UInt8)) (waits : List (Nat × List UInt8)) : Prop where
  at_ : w.heap[d]? = some (diskObj lb lies.length wv)
  lies_ : w.heap[lb]? = some (secsObj lies)
  waits_ : w.ownsRow 0 175 65 wv waits.length (wcells waits)
  n1 : 1 ≤ lies.length
  n2 : lies.length ≤ 8192
  l64 : ∀ s ∈ lies, s.length = 64
  w64 : ∀ x ∈ waits, x.2.length = 64 ∧ x.1 < lies.length
  dl : d ≠ lb
  dw : wv.ownBlock ≠ some d
  lw : wv.ownBlock ≠ some lb
/-- The blocks of a disk. -/
def DiskFoot (d lb : Nat) (wv : Value) (i : Nat) : Prop := i = d ∨ i = lb ∨ wv.ownBlock = some i

theorem ownsRow_upd {S : Nat → Prop} {w w1 : World} (h : Upd S w w1) {base : Nat} {e : TypeId} {size n : Nat} {v : Value} {xs : List Value} (hv : w.ownsRow base e size v n xs) (hn : ∀ i, v.ownBlock = some i → ¬ S i) : w1.ownsRow base e size v n xs := by
  refine ⟨hv.1, ?_⟩
  rcases hv.2 with hv | ⟨g, cap, cur, rfl, hb, hg, rest⟩
  · exact .inl hv
  · exact .inr ⟨g, cap, cur, rfl, hb, h.at_ hg (hn g rfl), rest⟩
theorem DiskAt.keep {S : Nat → Prop} {w w1 : World} {d lb : Nat} {wv : Value} {lies : List (List UInt8)} {waits : List (Nat × List UInt8)} (D : DiskAt w d lb wv lies waits) (h : Upd S w w1) (hn : ∀ i, DiskFoot d lb wv i → ¬ S i) : DiskAt w1 d lb wv lies waits :=
  ⟨h.at_ D.at_ (hn d (.inl rfl)), h.at_ D.lies_ (hn lb (.inr (.inl rfl))), ownsRow_upd h D.waits_ (fun i hi => hn i (.inr (.inr hi))), D.n1, D.n2, D.l64, D.w64, D.dl, D.dw, D.lw⟩
theorem DiskAt.lt {w : World} {d lb : Nat} {wv : Value} {lies : List (List UInt8)} {waits : List (Nat × List UInt8)} (D : DiskAt w d lb wv lies waits) : ∀ i, DiskFoot d lb wv i → i < w.heap.size := by
  rintro i (rfl | rfl | hi)
  · exact lt_of D.at_
  · exact lt_of D.lies_
  · exact (D.waits_.lt i hi).2

theorem dsize_nil (w : World) : Calls Try.prog 75 #[.pointer none] w fun x w' => x = .returned (.int .i64 0) ∧ w = w' := by
  go_enter Try.func75, Try.ntmps75
  go_wp2
  go_ret
  exact ⟨rfl, rfl⟩
theorem dsize_any {d lb n : Nat} {wv : Value} {w : World} (h : w.heap[d]? = some (diskObj lb n wv)) : Calls Try.prog 75 #[.pointer (some ⟨d, 0, none⟩)] w fun x w' => x = .returned (.int .i64 n) ∧ w = w' := by
  obtain ⟨c0, c1, _, _⟩ := two_of h
  go_enter Try.func75, Try.ntmps75
  go_wp2
  go_ret
  exact ⟨rfl, rfl⟩
theorem dis_any {d lb n : Nat} {wv : Value} {w : World} (h : w.heap[d]? = some (diskObj lb n wv)) (i : Int) : Calls Try.prog 96 #[.pointer (some ⟨d, 0, none⟩), .int .i64 i] w fun x w' => x = .returned (.bool (decide (0 ≤ i) && decide (i < n))) ∧ w = w' := by
  have hs := dsize_any h
  by_cases h0 : 0 ≤ i
  · have k0 : decide (0 ≤ i) = true := by simpa using h0
    go_enter Try.func96, Try.ntmps96
    go_wp2_with fail
    refine hs.mono ?_
    rintro x w1 ⟨rfl, rfl⟩
    go_wp2
    go_ret
    exact ⟨by rw [k0, Bool.true_and]; rfl, rfl⟩
  · have k0 : decide (0 ≤ i) = false := by simpa using h0
    go_enter Try.func96, Try.ntmps96
    go_wp2
    go_ret
    exact ⟨rfl, rfl⟩
theorem dis_yes {d lb n : Nat} {wv : Value} {w : World} (h : w.heap[d]? = some (diskObj lb n wv)) (i : Int) (h0 : 0 ≤ i) (h1 : i < n) : Calls Try.prog 96 #[.pointer (some ⟨d, 0, none⟩), .int .i64 i] w fun x w' => x = .returned (.bool true) ∧ w = w' :=
  (dis_any h i).mono fun x w' ⟨a, b⟩ => ⟨by rw [a]; simp [h0, h1], b⟩
theorem dis_no {d lb n : Nat} {wv : Value} {w : World} (h : w.heap[d]? = some (diskObj lb n wv)) (i : Int) (h0 : i < 0 ∨ n ≤ i) : Calls Try.prog 96 #[.pointer (some ⟨d, 0, none⟩), .int .i64 i] w fun x w' => x = .returned (.bool false) ∧ w = w' :=
  (dis_any h i).mono fun x w' ⟨a, b⟩ => ⟨by rw [a]; simp; omega, b⟩

def zeroSec : List UInt8 := List.replicate 64 0
theorem zeroSec_length : zeroSec.length = 64 := rfl
theorem flat_zero (m n : Nat) : (List.replicate n (List.replicate m (0 : UInt8))).flatten = List.replicate (n * m) 0 := by
  induction n with
  | zero => simp
  | succ n ih => rw [List.replicate_succ, List.flatten_cons, ih, List.replicate_append_replicate]; congr 1; rw [Nat.succ_mul]; omega
theorem made_zero (m n : Nat) (hm : 0 < m) : madeCells (List.replicate m (Value.int .u8 0)).toArray (n * m) = (Lib.byteCells (List.replicate (n * m) 0)).toArray := by
  apply Array.ext
  · simp [madeCells, Lib.byteCells_length]
  · intro i h1 h2
    have h3 : i % m < m := Nat.mod_lt _ hm
    simp [madeCells, Lib.byteCells, h3]
theorem made_secs (n : Nat) : madeCells (List.replicate 64 (Value.int .u8 0)).toArray (n * 64) = (Lib.byteCells (List.replicate n zeroSec).flatten).toArray := by
  rw [zeroSec, flat_zero, made_zero 64 n (by omega)]
theorem secZero : (Try.prog.info? 173).map (fun i => (i.zero, i.size, i.bytes)) = some (some (.agg (List.replicate 64 (Value.int .u8 0)).toArray), 64, 64) := by kernel_rfl
theorem make_secs (n : Nat) (h : n ≤ 8192) (w : World) : (Instr.makeSlice 144 (.int .i64 n) (.int .i64 n)).run Try.prog w = .ok (.slice (some ⟨w.heap.size, 0, none⟩) n n) (w.alloc (secsObj (List.replicate n zeroSec))) := by
  obtain ⟨i, hi, hz, hs, hb⟩ := info_parts secZero
  have hr := run_make (P := Try.prog) w 144 173 i _ Try.underlying144 hi hz .i64 .i64 n n (by omega) (by omega) (by rw [hb]; omega) (by omega)
  rw [hr, Int.toNat_natCast, hs]
  show Result.ok _ (w.alloc (.cells (madeCells (List.replicate 64 (Value.int .u8 0)).toArray (n * 64)) _)) = _
  rw [made_secs]
theorem dnew_bad (n : Int) (h : n < 1 ∨ 8192 < n) (w : World) : Calls Try.prog 46 #[.int .i64 n] w fun x w' => x = .returned (.tuple #[.pointer none, .int .i64 1]) ∧ w = w' := by
  by_cases h1 : n < 1
  · have k1 : decide (n < 1) = true := by simp; omega
    go_enter Try.func46, Try.ntmps46
    go_wp2
    go_ret2
    exact ⟨rfl, rfl⟩
  · have k1 : decide (n < 1) = false := by simp; omega
    have k2 : decide (8192 < n) = true := by simp; omega
    go_enter Try.func46, Try.ntmps46
    go_wp2
    go_ret2
    exact ⟨rfl, rfl⟩
theorem dnew_ok (n : Nat) (h1 : 1 ≤ n) (h2 : n ≤ 8192) (w : World) : Calls Try.prog 46 #[.int .i64 n] w fun x w' =>
    x = .returned (.tuple #[.pointer (some ⟨w.heap.size + 1, 0, none⟩), .int .i64 0]) ∧ w' = (w.alloc (secsObj (List.replicate n zeroSec))).alloc (diskObj w.heap.size n (.slice none 0 0)) := by
  have k1 : decide ((n : Int) < 1) = false := by simp; omega
  have k2 : decide (8192 < (n : Int)) = false := by simp; omega
  have hm := make_secs n h2
  go_enter Try.func46, Try.ntmps46
  go_wp2
  go_ret2
  exact ⟨rfl, rfl⟩
theorem dnew_at (n : Nat) (h1 : 1 ≤ n) (h2 : n ≤ 8192) (w : World) : DiskAt ((w.alloc (secsObj (List.replicate n zeroSec))).alloc (diskObj w.heap.size n (.slice none 0 0))) (w.heap.size + 1) w.heap.size (.slice none 0 0) (List.replicate n zeroSec) [] where
  at_ := by rw [List.length_replicate]; exact alloc_at' _ _ _ (by simp)
  lies_ := alloc_old (alloc_at _ _) _
  waits_ := World.ownsRow_nil _ _ _ _
  n1 := by simpa using h1
  n2 := by simpa using h2
  l64 := by intro s hs; rw [(List.mem_replicate.1 hs).2]; rfl
  w64 := by intro x hx; cases hx
  dl := by omega
  dw := by simp [Value.ownBlock]
  lw := by simp [Value.ownBlock]

/-- A sector of many, as the bytes of a block. -/
theorem flat_at (l : List (List UInt8)) (h : ∀ s ∈ l, s.length = 64) (k : Nat) (hk : k < l.length) (j : Nat) (hj : j < 64) : l.flatten[k * 64 + j]? = some ((l[k]).getD j 0) := by
  induction l generalizing k with
  | nil => simp at hk
  | cons a r ih =>
    have ha := h a List.mem_cons_self
    rw [List.flatten_cons]
    cases k with
    | zero => rw [Nat.zero_mul, Nat.zero_add, List.getElem?_append_left (by omega)]; simp [ha, hj]
    | succ k =>
      rw [List.getElem?_append_right (by omega), show (k + 1) * 64 + j - a.length = k * 64 + j by omega, ih (fun s hs => h s (List.mem_cons_of_mem _ hs)) k (by simpa using hk)]
      simp
theorem sec_range {w : World} {lb : Nat} {l : List (List UInt8)} (hb : w.heap[lb]? = some (secsObj l)) (h : ∀ s ∈ l, s.length = 64) (k : Nat) (hk : k < l.length) : w.rangeAt lb (k * 64) (Lib.byteCells l[k]) := by
  intro j v hv
  have hs := h l[k] (List.getElem_mem hk)
  have hj : j < 64 := by have := (List.getElem?_eq_some_iff.1 hv).1; rw [Lib.byteCells_length] at this; omega
  rw [cell_of hb]
  have hf := flat_at l h k hk j hj
  have hj' : j < l[k].length := by omega
  simp only [Lib.byteCells] at hv ⊢
  rw [List.getElem?_map] at hv
  rw [List.getElem?_toArray, List.getElem?_map, hf]
  simpa [hj'] using hv
theorem dlies_nil (i : Int) (w : World) : Calls Try.prog 109 #[.pointer none, .int .i64 i] w fun x w' => x = .returned (.tuple #[.string ⟨#[]⟩, .int .i64 7]) ∧ w = w' := by
  go_enter Try.func109, Try.ntmps109
  go_wp2
  go_ret2
  exact ⟨rfl, rfl⟩
theorem dlies_out {d lb n : Nat} {wv : Value} {w : World} (h : w.heap[d]? = some (diskObj lb n wv)) (i : Int) (h0 : i < 0 ∨ n ≤ i) : Calls Try.prog 109 #[.pointer (some ⟨d, 0, none⟩), .int .i64 i] w fun x w' => x = .returned (.tuple #[.string ⟨#[]⟩, .int .i64 20]) ∧ w = w' := by
  go_enter Try.func109, Try.ntmps109
  go_wp2_with fail
  refine (dis_no h i h0).mono ?_
  rintro x w1 ⟨rfl, rfl⟩
  go_wp2
  go_ret2
  exact ⟨rfl, rfl⟩
theorem dlies_any {w : World} {d lb : Nat} {wv : Value} {lies : List (List UInt8)} {waits : List (Nat × List UInt8)} (D : DiskAt w d lb wv lies waits) (k : Nat) (hk : k < lies.length) : Calls Try.prog 109 #[.pointer (some ⟨d, 0, none⟩), .int .i64 k] w fun x w' => x = .returned (.tuple #[.string (bs lies[k]), .int .i64 0]) ∧ w = w' := by
  obtain ⟨c0, c1, _, _⟩ := two_of D.at_
  have hs := D.l64 lies[k] (List.getElem_mem hk)
  have hr := sec_range D.lies_ D.l64 k hk
  have hcv := run_convert_bytes_back (P := Try.prog) w 72 9 5 (⟨lb, k * 64, none⟩ : Addr) 64 lies[k] Try.underlying72 Try.underlying5 Try.underlying9 (by
    intro j hj
    rw [Addr.add_mid]
    exact hr j _ (by simp [Lib.byteCells, hj]))
  rw [hs] at hcv
  have n2 := D.n2
  go_enter Try.func109, Try.ntmps109
  go_wp2_with fail
  refine (dis_yes D.at_ k (by omega) (by omega)).mono ?_
  rintro x w1 ⟨rfl, rfl⟩
  go_wp2
  go_ret2
  exact ⟨rfl, rfl⟩
end Go.Proofs.Ytemdhcocbjcklaa.Print
