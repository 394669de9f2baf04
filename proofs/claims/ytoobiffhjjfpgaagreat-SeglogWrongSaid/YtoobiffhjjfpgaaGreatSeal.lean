/- seal.Seal: a sector's bytes with a seal at both ends. -/
import Derived.Test.YtoobiffhjjfpgaaGreatRpieces
import Derived.Lib.BufferWrite
import Derived.Lib.SlBuf
namespace Go.Proofs.YtoobiffhjjfpgaaGreat.Print
open Go.RowKit

def markL (stamp count : Nat) : List UInt8 := beL stamp 4 ++ beL count 2
theorem markL_length (s c : Nat) : (markL s c).length = 6 := by simp [markL, beL_length]
def sealL (stamp count : Nat) (data : List UInt8) : List UInt8 := markL stamp count ++ (data ++ markL stamp count)

set_option maxHeartbeats 400000 in
theorem mark_any (stamp count : Nat) (a : Int) (ha : a = count) (h1 : stamp < 4294967296) (h2 : count < 65536) (w : World) :
    Calls Tryz.prog 151 #[.int .u32 stamp, .int .i64 a] w fun e w' => e = .returned (.string (bs (markL stamp count))) ∧ Below w.heap.size w w' := by
  subst ha
  have hx : be stamp 4 ++ be count 2 = bs (markL stamp count) := by apply list_inj; rw [append_list, be_list, be_list, bs_list, markL]
  have HX := Lib.hid hx
  clear hx
  have s1 := be_size stamp 4
  have s2 := be_size count 2
  go_enter Tryz.func151, Tryz.ntmps151
  go_wp2_with fail
  refine (fixed_fits stamp 4 (by omega) (by omega) (by omega) _).mono ?_
  rintro e w1 ⟨rfl, hb1⟩
  go_wp2_with fail
  refine (fixed_fits count 2 (by omega) (by omega) (by omega) _).mono ?_
  rintro e w2 ⟨rfl, hb2⟩
  go_wp2
  go_ret
  exact ⟨ret_str HX.out, below_chain hb1 hb2⟩

theorem arrSec : Tryz.prog.underlying 209 = some (.array (Tryz.prog.arrayLen 209) (Tryz.prog.elem 209)) := by kernel_rfl
theorem alSec : Tryz.prog.arrayLen 209 = 64 := by kernel_rfl
theorem elSec : Tryz.prog.elem 209 = 5 := by kernel_rfl
theorem secAll (b : Nat) (w : World) : (Instr.sliceAt 209 (.pointer (some ⟨b, 0, none⟩)) none none none).run Tryz.prog w = .ok (.slice (some ⟨b, 0, none⟩) 64 64) w := by
  rw [run_sliceAt_array_all w 209 _ arrSec, alSec, elSec]
  go_simp
theorem secLow (b : Nat) (l : Nat) (_h0 : 0 < l) (h : l < 64) (w : World) : (Instr.sliceAt 209 (.pointer (some ⟨b, 0, none⟩)) (some (.int .i64 l)) none none).run Tryz.prog w = .ok (.slice (some ⟨b, l, none⟩) (64 - l) (64 - l)) w := by
  rw [run_sliceAt_array_l w 209 _ arrSec .i64 l (by omega) (by rw [alSec]; omega), alSec, elSec]
  go_simp
  omega

theorem secInfo : (Tryz.prog.info? 5).map (·.size) = some 1 := by kernel_rfl
/-- A sector's block as bytes. -/
abbrev secObj (l : List UInt8) : Obj := .cells (Lib.byteCells l).toArray 209 (0, 0)
theorem sec_copy (w : World) (g o n : Nat) (s : ByteArray) (L : List UInt8) (ty : TypeId) (hg : w.heap[g]? = some (secObj L)) (hs : s.size ≤ n) (hf : o + s.size ≤ L.length) :
    (Builtin.copy_ #[141, 9] ty #[.slice (some ⟨g, o, none⟩) n n, .string s]).run Tryz.prog w = .ok (goInt s.size) (w.setRow g (Lib.byteCells (L.take o ++ s.data.toList ++ L.drop (o + s.size))).toArray) := by
  rw [Lib.run_copy_row_string (P := Tryz.prog) w 141 9 ty 5 g o n n s _ 209 Tryz.underlying141 secInfo hg hs (by simpa [Lib.byteCells_length] using hf)]
  simp [Lib.byteCells]
theorem setRow_at (w : World) (g : Nat) (L M : List UInt8) (hg : w.heap[g]? = some (secObj L)) : (w.setRow g (Lib.byteCells M).toArray).heap[g]? = some (secObj M) := by
  simp [World.setRow, Array.getElem?_modify, hg]
theorem below_setRow {B : Nat} {a w : World} (h : Below B a w) {g : Nat} (hg : B ≤ g) (c : Array Value) : Below B a (w.setRow g c) :=
  h.trans ⟨rfl, rfl, rfl, by simp [World.setRow], fun k hk => by simp only [World.setRow, Array.getElem?_modify]; rw [if_neg (by omega)]⟩

set_option maxRecDepth 100000 in
set_option maxHeartbeats 800000 in
theorem seal_any (stamp count : Nat) (d : ByteArray) (h1 : stamp < 4294967296) (h2 : 1 ≤ count) (h3 : count < 65536) (h4 : d.size = 52) (w : World) :
    Calls Tryz.prog 129 #[.int .u32 stamp, .int .i64 count, .string d] w fun e w' => e = .returned (.tuple #[.string (bs (sealL stamp count d.data.toList)), .int .i64 0]) ∧ Below w.heap.size w w' := by
  have k1 : decide ((count : Int) < 1) = false := by simp; omega
  have k2 : decide (65535 < (count : Int)) = false := by simp; omega
  have a0 := secAll w.heap.size
  have a6 : ∀ W, (Instr.sliceAt 209 (.pointer (some ⟨w.heap.size, 0, none⟩)) (some (.int .i64 6)) none none).run Tryz.prog W = .ok (.slice (some ⟨w.heap.size, 6, none⟩) 58 58) W := secLow w.heap.size 6 (by omega) (by omega)
  have a58 : ∀ W, (Instr.sliceAt 209 (.pointer (some ⟨w.heap.size, 0, none⟩)) (some (.int .i64 58)) none none).run Tryz.prog W = .ok (.slice (some ⟨w.heap.size, 58, none⟩) 6 6) W := secLow w.heap.size 58 (by omega) (by omega)
  have hm : (bs (markL stamp count)).size = 6 := by rw [bs_size, markL_length]
  have hdl : d.data.toList.length = 52 := by rw [← size_list, h4]
  have HD := Lib.hid hdl
  clear hdl
  go_enter Tryz.func129, Tryz.ntmps129
  go_wp2_with fail
  refine (mark_any stamp count _ rfl h1 h3 _).mono ?_
  rintro e w1 ⟨rfl, hb1⟩
  have g1 : w1.heap[w.heap.size]? = some (secObj (List.replicate 64 0)) := later_of (alloc_at _ _) hb1
  have hB1 : Below w.heap.size w w1 := ((Below.refl _ _).alloc (Nat.le_refl _) _).trans (hb1.mono (by simp))
  clear hb1
  have hml := markL_length stamp count
  -- the three copies
  have r1 := sec_copy w1 w.heap.size 0 64 (bs (markL stamp count)) (List.replicate 64 0) 3 g1 (by omega) (by rw [hm, List.length_replicate]; omega)
  have hL1 : (List.replicate 64 (0 : UInt8)).take 0 ++ (bs (markL stamp count)).data.toList ++ (List.replicate 64 (0 : UInt8)).drop (0 + (bs (markL stamp count)).size) = markL stamp count ++ List.replicate 58 0 := by
    rw [hm, bs_list]; rfl
  rw [hL1] at r1
  have g2 := setRow_at w1 w.heap.size _ (markL stamp count ++ List.replicate 58 0) g1
  obtain ⟨W2, hW2⟩ : ∃ W2, w1.setRow w.heap.size (Lib.byteCells (markL stamp count ++ List.replicate 58 0)).toArray = W2 := ⟨_, rfl⟩
  have hB2 : Below w.heap.size w W2 := by rw [← hW2]; exact below_setRow hB1 (Nat.le_refl _) _
  rw [hW2] at r1 g2
  have r2 := sec_copy W2 w.heap.size 6 58 d _ 3 g2 (by omega) (by rw [h4, List.length_append, hml, List.length_replicate]; omega)
  have hL2 : (markL stamp count ++ List.replicate 58 (0 : UInt8)).take 6 ++ d.data.toList ++ (markL stamp count ++ List.replicate 58 (0 : UInt8)).drop (6 + d.size) = markL stamp count ++ (d.data.toList ++ List.replicate 6 0) := by
    rw [h4, List.take_left' hml, show 6 + 52 = (markL stamp count).length + 52 by rw [hml], List.drop_append]
    simp
  rw [hL2] at r2
  have g3 := setRow_at W2 w.heap.size _ (markL stamp count ++ (d.data.toList ++ List.replicate 6 0)) g2
  obtain ⟨W3, hW3⟩ : ∃ W3, W2.setRow w.heap.size (Lib.byteCells (markL stamp count ++ (d.data.toList ++ List.replicate 6 0))).toArray = W3 := ⟨_, rfl⟩
  have hB3 : Below w.heap.size w W3 := by rw [← hW3]; exact below_setRow hB2 (Nat.le_refl _) _
  rw [hW3] at r2 g3
  have r3 := sec_copy W3 w.heap.size 58 6 (bs (markL stamp count)) _ 3 g3 (by omega) (by rw [hm, List.length_append, List.length_append, hml, HD.out, List.length_replicate]; omega)
  have hL3 : (markL stamp count ++ (d.data.toList ++ List.replicate 6 (0 : UInt8))).take 58 ++ (bs (markL stamp count)).data.toList ++ (markL stamp count ++ (d.data.toList ++ List.replicate 6 (0 : UInt8))).drop (58 + (bs (markL stamp count)).size) = sealL stamp count d.data.toList := by
    rw [hm, bs_list, ← List.append_assoc, List.take_left' (by rw [List.length_append, hml, HD.out]), List.drop_of_length_le (by rw [List.length_append, List.length_append, hml, HD.out, List.length_replicate]; omega), List.append_nil, sealL, List.append_assoc]
  rw [hL3] at r3
  have g4 := setRow_at W3 w.heap.size _ (sealL stamp count d.data.toList) g3
  obtain ⟨W4, hW4⟩ : ∃ W4, W3.setRow w.heap.size (Lib.byteCells (sealL stamp count d.data.toList)).toArray = W4 := ⟨_, rfl⟩
  have hB4 : Below w.heap.size w W4 := by rw [← hW4]; exact below_setRow hB3 (Nat.le_refl _) _
  rw [hW4] at r3 g4
  have hsl : (sealL stamp count d.data.toList).length = 64 := by unfold sealL; rw [List.length_append, List.length_append, hml, HD.out]
  have hcv := run_convert_bytes_back (P := Tryz.prog) W4 141 9 5 (⟨w.heap.size, 0, none⟩ : Addr) 64 (sealL stamp count d.data.toList) Tryz.underlying141 Tryz.underlying5 Tryz.underlying9 (by
    intro k hk
    have hplain : (⟨w.heap.size, 0, none⟩ : Addr).add k = ⟨w.heap.size, k, none⟩ := by unfold Addr.add; split <;> simp_all
    rw [hplain, cell_of g4]
    simp [Lib.byteCells, hk])
  rw [hsl] at hcv
  have HR1 := Lib.hid r1
  have HR2 := Lib.hid r2
  have HR3 := Lib.hid r3
  clear r1 r2 r3 g1 g2 g3 g4 hW2 hW3 hW4 hL1 hL2 hL3 hsl hml hB1 hB2 hB3
  go_wp2_with (first | (refine Lib.wpList_copy_run _ rfl (.tmp 24) (.tmp 25) 141 9 rfl _ _ rfl rfl HR1.out ?_) | (refine Lib.wpList_copy_run _ rfl (.tmp 27) (.tmp 28) 141 9 rfl _ _ rfl rfl HR2.out ?_) | (refine Lib.wpList_copy_run _ rfl (.tmp 30) (.tmp 31) 141 9 rfl _ _ rfl rfl HR3.out ?_))
  go_ret2
  exact ⟨ret_str_int rfl, hB4⟩

end Go.Proofs.YtoobiffhjjfpgaaGreat.Print
