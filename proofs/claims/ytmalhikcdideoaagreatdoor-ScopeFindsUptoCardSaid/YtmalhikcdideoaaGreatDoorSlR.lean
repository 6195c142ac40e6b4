/- The semantic layer, seventeenth part: loops by what falls. -/
import Derived.Test.YtmalhikcdideoaaGreatDoorSlQ
set_option linter.unusedVariables false
set_option linter.unusedSimpArgs false
namespace Go.Proofs.YtmalhikcdideoaaGreatDoor.Sl
open Go Go.RowKit

section
variable {P : Program} {N : Nat} {T : Nat → AV} {h : Hp} {Q : Exit → (Nat → AV) → Hp → Prop}
def LpQ (J : Nat → (Nat → AV) → Hp → Prop) (n : Nat) (Q : Exit → (Nat → AV) → Hp → Prop) : Exit → (Nat → AV) → Hp → Prop := fun e T' h' => match e with
  | .normal => ∃ n', n' < n ∧ J n' T' h'
  | e => Q e T' h'
@[go_sem] theorem LpQ_normal (J : Nat → (Nat → AV) → Hp → Prop) (n : Nat) : LpQ J n Q .normal T h = ∃ n', n' < n ∧ J n' T h := Eq.trans rfl rfl
@[go_sem] theorem LpQ_ret (J : Nat → (Nat → AV) → Hp → Prop) (n : Nat) : LpQ J n Q .ret T h = Q .ret T h := Eq.trans rfl rfl
@[go_sem] theorem LpQ_exit (J : Nat → (Nat → AV) → Hp → Prop) (n : Nat) (i : Nat) : LpQ J n Q (.exit i) T h = Q (.exit i) T h := Eq.trans rfl rfl
/-- From here on only these slots count. -/
theorem X_abs {c : Code} (p : (Nat → AV) → Prop) (hp : p T) (hk : ∀ T1, p T1 → X P N c T1 h Q) : X P N c T h Q := hk T hp
end

/-- Every slice within has a length that slices have. -/
def Lens : AV → Prop
  | .sl s n f => n ≤ 140737488355328 ∧ ∀ i, i < n → ∀ j, j < s → Lens (f i j)
  | .agg m f => ∀ j, j < m → Lens (f j)
  | .fp m f => ∀ j, j < m → Lens (f j)
  | _ => True
theorem Rd.lens {w : World} {h : Hp} : ∀ (a : AV) (u : Value), Rd w h a u → Lens a := by
  intro a
  induction a with
  | sl s n f ih =>
    rintro u ⟨A, c, _, _, hm, hr⟩
    refine ⟨hm, fun i hi j hj => ?_⟩
    obtain ⟨b, off, _, _, _, hc⟩ := hr (by omega)
    obtain ⟨x, _, _, hx⟩ := hc i hi j hj
    exact ih i j x hx
  | agg m f ih =>
    rintro u ⟨cs, _, _, hr⟩ j hj
    obtain ⟨x, _, _, hx⟩ := hr j hj
    exact ih j x hx
  | fp m f ih =>
    rintro u ⟨b, off, _, _, _, hr⟩ j hj
    obtain ⟨x, _, _, hx⟩ := hr j hj
    exact ih j x hx
  | _ => intros; trivial
/-- One may suppose that the arguments' slices have lengths that slices have. -/
theorem CallK.lens {P : Program} {h : Hp} {f : FuncId} {args : List AV} {K : AV → Hp → Prop} (c : (∀ a ∈ args, Lens a) → CallK P h f args K) : CallK P h f args K := by
  intro w vals hh ha
  refine c (fun a ha' => ?_) w vals hh ha
  obtain ⟨i, hi⟩ := List.getElem?_of_mem ha'
  obtain ⟨u, _, hr⟩ := ha.2 i a hi
  exact hr.lens
theorem Lens.encL {α : Type} {s : Nat} {enc : α → List AV} {l : List α} (h : Lens (encL s enc l)) : l.length ≤ 140737488355328 := h.1
theorem w64 {x : Int} (h1 : -9223372036854775808 ≤ x) (h2 : x ≤ 9223372036854775807) : IntKind.i64.wrap x = x := by
  rw [IntKind.wrap_i64]; omega
theorem drop_cons {α : Type} {l : List α} {i : Nat} {x : α} {r : List α} (h : l.drop i = x :: r) : ∃ hlt : i < l.length, l[i] = x ∧ l.drop (i + 1) = r := by
  have hlt : i < l.length := by
    rcases Nat.lt_or_ge i l.length with h1 | h1
    · exact h1
    · rw [List.drop_of_length_le h1] at h; cases h
  rw [List.drop_eq_getElem_cons hlt] at h
  simp only [List.cons.injEq] at h
  exact ⟨hlt, h.1, h.2⟩
theorem drop_nil {α : Type} {l : List α} {i : Nat} (h : l.drop i = []) : ¬ i < l.length := by
  intro h1
  rw [List.drop_eq_getElem_cons h1] at h; cases h
attribute [go_sem] cellsL
@[go_sem] theorem encL_go {α : Type} (s : Nat) (enc : α → List AV) (l : List α) : encL s enc l = .sl s l.length (cellsL enc l) := rfl
end Go.Proofs.YtmalhikcdideoaaGreatDoor.Sl
