/- slices.IndexFunc, slices.DeleteFunc of numbers, by reckoning: the function is told by a name. -/
import Derived.Test.YtclcibpghonidaaGreatDoorFnV
import Derived.Test.YtclcibpghonidaaGreatDoorVcFld
import Derived.Test.YtclcibpghonidaaGreatDoorSlV
namespace Cw
open Go Vc
open Go.Proofs
set_option maxRecDepth 100000
/-- A function of numbers. -/
def fnI (ok : Int → Prop) (pd : Int → Bool) : AbP := fnP Tryz.prog (fun x => Value.int .i64 x) ok pd
/-- The place of the first that is so. -/
def ixF (pd : Int → Bool) (xs : List Int) : Int := if xs.findIdx pd < xs.length then (xs.findIdx pd : Nat) else -1
def r2 (l f : Nat) (n : Nat) : Nat := if n = 0 then l else f
section
variable {H : HL} {nx l f : Nat} {b1 b2 : Bool} {xs : List Int} {ok : Int → Prop} {pd : Int → Bool}
end
def zr (R : List Int) (i : Nat) : List Int := R.take i ++ List.replicate (R.length - i) 0
section
variable {xs : List Int} {ok : Int → Prop} {pd : Int → Bool}
end
end Cw
