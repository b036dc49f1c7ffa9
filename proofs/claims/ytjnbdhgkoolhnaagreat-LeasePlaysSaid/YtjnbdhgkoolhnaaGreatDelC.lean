/- A part of an own row of things is cleared. No program in sight. -/
import Derived.Test.YtjnbdhgkoolhnaaGreatFnV
import Derived.Test.YtjnbdhgkoolhnaaGreatDep
namespace Vc
open Go Go.RowKit
end Vc
namespace Cw
open Go Vc
open Go.Proofs
set_option maxRecDepth 100000
abbrev DV := List (Ch × Option Addr × Nat)
def depA (x : Ch × Option Addr × Nat) : Value := .agg (depC x).toArray
/-- A function of changes. -/
def fnD (ok : Ch × Option Addr × Nat → Prop) (pd : Ch × Option Addr × Nat → Bool) : AbP := fnP Tryz.prog depA ok pd
def ixD (pd : Ch × Option Addr × Nat → Bool) (xs : DV) : Int := if xs.findIdx pd < xs.length then (xs.findIdx pd : Nat) else -1
section
variable {H : HL} {nx l f : Nat} {b1 b2 : Bool} {xs : DV} {ok : Ch × Option Addr × Nat → Prop} {pd : Ch × Option Addr × Nat → Bool}
end
section
variable {xs : DV} {ok : Ch × Option Addr × Nat → Prop} {pd : Ch × Option Addr × Nat → Bool}
def zD : Value := .agg #[.int .i64 0, .int .i64 0, .int .i64 0, .string "".toUTF8, .slice none 0 0, .int .i64 0]
end
end Cw
