/- The variables of Go's library that are read here, and what they hold. -/
import Derived.WalkKit
import Derived.Lib.ItoaNum
namespace Go.Proofs.YtmalhikcdideoaaGreatDoor.Sl
open Go
/-- strings.asciiSpace. -/
def spaceL : List Value := (List.range 256).map fun i => .int .u8 (if (9 ≤ i ∧ i ≤ 13) ∨ i = 32 then 1 else 0)
theorem spaceL_length : spaceL.length = 256 := by simp [spaceL]
def isSpaceN (i : Nat) : Bool := decide ((9 ≤ i ∧ i ≤ 13) ∨ i = 32)
theorem spaceL_at {i : Nat} (h : i < 256) : spaceL.getD i undef = .int .u8 (if isSpaceN i = true then 1 else 0) := by
  simp [spaceL, List.getD_eq_getElem?_getD, h, isSpaceN]
/-- internal/strconv.uint64pow10. -/
def powL : List Value := Lib.pow10Tab.map fun z => Value.int .u64 z
def gl : List (Nat × List Value) := [(0, spaceL), (5, powL)]
end Go.Proofs.YtmalhikcdideoaaGreatDoor.Sl
