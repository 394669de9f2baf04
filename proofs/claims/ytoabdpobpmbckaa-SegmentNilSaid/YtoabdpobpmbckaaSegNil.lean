/- SegmentNil, the walk. -/
import Derived.Test.YtoabdpobpmbckaaPut
namespace Go.Proofs.Ytoabdpobpmbckaa.Print
open Go.RowKit

set_option maxRecDepth 100000 in
set_option maxHeartbeats 1600000 in
theorem snil_long (n a b c d k : Int) (p : ByteArray) (hp : 900 < p.size) (hp2 : p.size ≤ 9223372036854775807) (w : World) :
    Calls Try.prog 7 #[.int .i64 n, hdV a b c d, frV k p] w fun x w' => x = .returned (.bool true) ∧ Below w.heap.size w w' := by
  have k1 : decide ((900 : Int) < (p.size : Int)) = true := decide_eq_true (by omega)
  have hB : Below w.heap.size w ((w.alloc (.cells #[.int .i64 a, .int .u32 b, .int .u32 c, .int .i64 d] 41)).alloc (.cells #[.int .i64 k, .string p] 55)) := ((Below.refl _ _).alloc (Nat.le_refl _) _).alloc (by simp) _
  go_enter Try.func7, Try.ntmps7
  go_wp2_with fail
  refine (put_any _).mono ?_
  rintro x w1 ⟨rfl, hb1⟩
  go_wp2
  go_ret
  exact ⟨rfl, hB.trans (hb1.mono hB.size)⟩

set_option maxRecDepth 100000 in
set_option maxHeartbeats 3200000 in
theorem snil_any (n a b c d k : Int) (p : ByteArray) (hp2 : p.size ≤ 9223372036854775807) (w : World) :
    Calls Try.prog 7 #[.int .i64 n, hdV a b c d, frV k p] w fun x w' => x = .returned (.bool true) ∧ Below w.heap.size w w' := by
  by_cases hp : 900 < p.size
  · exact snil_long n a b c d k p hp hp2 w
  have k1 : decide ((900 : Int) < (p.size : Int)) = false := decide_eq_false (by omega)
  have hB : Below w.heap.size w ((w.alloc (.cells #[.int .i64 a, .int .u32 b, .int .u32 c, .int .i64 d] 41)).alloc (.cells #[.int .i64 k, .string p] 55)) := ((Below.refl _ _).alloc (Nat.le_refl _) _).alloc (by simp) _
  have hg1 := alloc_old (alloc_at w (.cells #[.int .i64 a, .int .u32 b, .int .u32 c, .int .i64 d] 41)) (.cells #[.int .i64 k, .string p] 55)
  have hg2 := alloc_at (w.alloc (.cells #[.int .i64 a, .int .u32 b, .int .u32 c, .int .i64 d] 41)) (.cells #[.int .i64 k, .string p] 55)
  rw [World.size_alloc] at hg2
  go_enter Try.func7, Try.ntmps7
  go_wp2_with fail
  generalize (w.alloc (.cells #[.int .i64 a, .int .u32 b, .int .u32 c, .int .i64 d] 41)).alloc (.cells #[.int .i64 k, .string p] 55) = W1 at hB hg1 hg2 ⊢
  refine (create_nil n a b c d _).mono ?_
  rintro x w1 ⟨rfl, hb1⟩
  have HB1 := Lib.hid (hB.trans (hb1.mono hB.size))
  have q1 := later_of hg1 hb1
  have q2 := later_of hg2 hb1
  clear hb1 hB hg1 hg2
  go_wp2_with fail
  refine (load_nil n _).mono ?_
  rintro x w2 ⟨rfl, rfl⟩
  obtain ⟨c0, c1, _, _⟩ := two_of q2
  go_wp2_with fail
  refine (append_nil k p _).mono ?_
  rintro x w2 ⟨rfl, hb2⟩
  have HB2 := Lib.hid (HB1.out.trans (hb2.mono HB1.out.size))
  clear c0 c1 q1 q2 hb2 HB1
  go_wp2_with fail
  refine (seal_nil _).mono ?_
  rintro x w3 ⟨rfl, rfl⟩
  go_wp2_with fail
  refine (wipe_nil n _).mono ?_
  rintro x w3 ⟨rfl, rfl⟩
  go_wp2_with fail
  refine (snumber_nil _).mono ?_
  rintro x w3 ⟨rfl, rfl⟩
  go_wp2_with fail
  refine (header_nil _).mono ?_
  rintro x w3 ⟨rfl, hb3⟩
  have HB3 := Lib.hid (HB2.out.trans (hb3.mono HB2.out.size))
  clear hb3 HB2
  go_wp2_with fail
  refine (frames_nil _).mono ?_
  rintro x w4 ⟨rfl, rfl⟩
  go_wp2_with fail
  refine (len_nil _).mono ?_
  rintro x w4 ⟨rfl, rfl⟩
  go_wp2_with fail
  refine (end_nil _).mono ?_
  rintro x w4 ⟨rfl, rfl⟩
  go_wp2_with fail
  refine (sealed_nil _).mono ?_
  rintro x w4 ⟨rfl, rfl⟩
  go_wp2_with fail
  refine (put_any _).mono ?_
  rintro x w4 ⟨rfl, hb4⟩
  go_wp2
  go_ret
  exact ⟨rfl, HB3.out.trans (hb4.mono HB3.out.size)⟩
end Go.Proofs.Ytoabdpobpmbckaa.Print
