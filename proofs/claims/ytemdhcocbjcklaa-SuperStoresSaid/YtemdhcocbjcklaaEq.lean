/- Two supers compared. (eq3, eq5 are turned from the worked proof Cov2Walks' array.) -/
import Derived.Test.YtemdhcocbjcklaaPick2
namespace Go.Proofs.Ytemdhcocbjcklaa.Print
open Go.RowKit
theorem eq3 (a b c a' b' c' : Int) (w : World) : (Op.equalIn 9999 78 (.agg #[.int .u32 a, .int .u32 b, .int .u32 c]) (.agg #[.int .u32 a', .int .u32 b', .int .u32 c'])).run Try.prog w = .ok (a == a' && (b == b' && c == c')) w := by
  have u3 := Try.underlying54
  have a3 := Try.isAgg54
  have z3 := Try.sizeOf54
  rw [show (9999 : Nat) = 9998 + 1 from rfl, Op.equalIn]
  simp only [Sem.run_bind, run_underlying Try.underlying78, Result.andThen_ok]
  simp only [Std.Legacy.Range.forIn_eq_forIn_range', Std.Legacy.Range.size, Nat.sub_zero, Nat.add_sub_cancel, Nat.div_one, List.range'_succ, List.range'_zero, List.forIn_cons, List.forIn_nil]
  go_simp
  by_cases h1 : a = a' <;> by_cases h2 : b = b' <;> by_cases h3 : c = c' <;> simp [h1, h2, h3]
theorem eq5 (a b c d e a' b' c' d' e' : Int) (w : World) : (Op.equalIn 9999 83 (.agg #[.int .u32 a, .int .u32 b, .int .u32 c, .int .u32 d, .int .u32 e]) (.agg #[.int .u32 a', .int .u32 b', .int .u32 c', .int .u32 d', .int .u32 e'])).run Try.prog w = .ok (a == a' && (b == b' && (c == c' && (d == d' && e == e')))) w := by
  have u3 := Try.underlying54
  have a3 := Try.isAgg54
  have z3 := Try.sizeOf54
  rw [show (9999 : Nat) = 9998 + 1 from rfl, Op.equalIn]
  simp only [Sem.run_bind, run_underlying Try.underlying83, Result.andThen_ok]
  simp only [Std.Legacy.Range.forIn_eq_forIn_range', Std.Legacy.Range.size, Nat.sub_zero, Nat.add_sub_cancel, Nat.div_one, List.range'_succ, List.range'_zero, List.forIn_cons, List.forIn_nil]
  go_simp
  by_cases h1 : a = a' <;> by_cases h2 : b = b' <;> by_cases h3 : c = c' <;> by_cases h4 : d = d' <;> by_cases h5 : e = e' <;> simp [h1, h2, h3, h4, h5]
end Go.Proofs.Ytemdhcocbjcklaa.Print
