/- More of the layer: a field of a struct told by a list. -/
import Derived.Test.YtmalhikcdideoaaGreatDoorSlU
set_option linter.unusedVariables false
set_option linter.unusedSimpArgs false
namespace Go.Proofs.YtmalhikcdideoaaGreatDoor.Sl
open Go Go.RowKit
def fieldB (P : Program) (s : TypeId) (x : AV) (f : Nat) : Option AV := fieldA P s x f
def fieldG (m : Nat) (g : Nat → AV) : Option (Nat × Nat × Bool) → Option AV
  | some (o, n, row) => if o + n ≤ m then (if row then some (aggL ((List.range n).map fun j => g (o + j))) else if 0 < n then some (g o) else none) else none
  | none => none
@[go_sem high] theorem stp_fieldB {P : Program} {T : Nat → AV} {h : Hp} (s : TypeId) (x : Operand) (f : Nat) : stp P T h (.field s x f) = fieldB P s (ev T x) f := rfl
@[go_sem] theorem fieldB_L (P : Program) (s : TypeId) (l : List AV) (f : Nat) : fieldB P s (aggL l) f = fieldL l (fldT P s f) := fieldA_L P s l f
@[go_sem] theorem fieldB_agg (P : Program) (s : TypeId) (m : Nat) (g : Nat → AV) (f : Nat) : fieldB P s (.agg m g) f = fieldG m g (fldT P s f) := by
  unfold fieldB fieldA fieldG
  cases fldT P s f <;> rfl
@[go_sem] theorem fieldG_some (m : Nat) (g : Nat → AV) (o n : Nat) (row : Bool) : fieldG m g (some (o, n, row)) = if o + n ≤ m then (if row then some (aggL ((List.range n).map fun j => g (o + j))) else if 0 < n then some (g o) else none) else none := rfl
/-- A loop that writes the slots D alone; what holds at its head may speak of the heap that it began on. -/
theorem X_lpH {P : Program} {N : Nat} {T : Nat → AV} {h : Hp} {Q : Exit → (Nat → AV) → Hp → Prop} {c : Code} (D : Nat → Prop) (I : Hp → Nat → (Nat → AV) → Hp → Prop) (n : Nat) (hi : I h n T h)
    (hs : ∀ hE, h = hE → ∀ J', Imp (fun n T' h' => (∀ i, ¬ D i → T' i = T i) ∧ I hE n T' h') J' → ∀ n T' h', (∀ i, ¬ D i → T' i = T i) → I hE n T' h' → X P N c T' h' (LpQ J' n Q)) : X P N (.loop c) T h Q := X_lpF D (I h) n hi (hs h rfl)
theorem fr_in {D D2 : Nat → Prop} {T T1 T2 : Nat → AV} (hd : ∀ i, D2 i → D i) (h2 : ∀ i, ¬ D2 i → T2 i = T1 i) (h1 : ∀ i, ¬ D i → T1 i = T i) : ∀ i, ¬ D i → T2 i = T i := fun i hi => (h2 i fun h => hi (hd i h)).trans (h1 i hi)
end Go.Proofs.YtmalhikcdideoaaGreatDoor.Sl
