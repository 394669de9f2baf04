/- What the reference of layer 8 comes to: Encode, Wrong, Decode. -/
import Derived.Test.YtoobiffhjjfpgaaFrame
import Derived.Deep.RegionHeld3
namespace Go.Proofs.Ytoobiffhjjfpgaa.Print
open Go.RowKit



/-- What weighlockref08.Decode tells. -/
abbrev gotV (kind : Int) (p : ByteArray) (n e : Int) : Value := .agg #[.int .i64 kind, .string p, .int .i64 n, .int .i64 e]

end Go.Proofs.Ytoobiffhjjfpgaa.Print
