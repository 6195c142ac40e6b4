/- The variables of Go's library that are read here, and what they hold. -/
import Derived.WalkKit
namespace Go.Proofs.Ytmalhikcdideoaa.Sl
open Go
/-- strings.asciiSpace. -/
def spaceL : List Value := (List.range 256).map fun i => .int .u8 (if (9 ≤ i ∧ i ≤ 13) ∨ i = 32 then 1 else 0)
theorem spaceL_length : spaceL.length = 256 := by simp [spaceL]
def isSpaceN (i : Nat) : Bool := decide ((9 ≤ i ∧ i ≤ 13) ∨ i = 32)
theorem spaceL_at {i : Nat} (h : i < 256) : spaceL.getD i undef = .int .u8 (if isSpaceN i = true then 1 else 0) := by
  simp [spaceL, List.getD_eq_getElem?_getD, h, isSpaceN]
def gl : List (Nat × List Value) := []
end Go.Proofs.Ytmalhikcdideoaa.Sl
