/- More of the layer: what is own and kept; big arrays; equations. -/
import Derived.Test.YtmalhikcdideoaaGreatDoorSlS
set_option linter.unusedVariables false
namespace Go.Proofs.YtmalhikcdideoaaGreatDoor.Sl
open Go
theorem keep_own {h0 h H : Hp} {a : AV} {e : TypeId} {s n b : Nat} {f : Nat → Nat → AV} {o1 : Ob} (o : Own h0 h a e s n f) (hb : h b = some o1) (hb0 : h0 b = Option.none) (hne : o1.s ≠ s ∨ o1.ty ≠ e) (hk : ∀ c oc, h c = some oc → c ≠ b → H c = some oc) : Own h0 H a e s n f := by
  have hnb : ∀ c oc, h0 c = some oc → c ≠ b := fun c oc hc e => by rw [e, hb0] at hc; cases hc
  have hna := o.ne hb hne
  obtain ⟨hs, ho⟩ := o
  refine ⟨fun c oc hc => hk c oc (hs c oc hc) (hnb c oc hc), ?_⟩
  rcases ho with ho | ⟨b1, o, h1, h2, h3, h4⟩
  · exact .inl ho
  · exact .inr ⟨b1, o, h1, h2, hk _ _ h3 fun e => hna (by rw [h1, e]), h4⟩
def only (B : List Nat) (H : Hp) : Hp := fun b => if b ∈ B then H b else none
theorem only_sub (B : List Nat) (H : Hp) : Sub (only B H) H := fun b o hb => by
  unfold only at hb
  split at hb
  · exact hb
  · cases hb
theorem only_in {B : List Nat} {H : Hp} {b : Nat} (hb : b ∈ B) : only B H b = H b := by unfold only; rw [if_pos hb]
theorem XD_abs {P : Program} {N id : Nat} {ops : Array Oper} {T : Nat → AV} {h : Hp} {K : (Nat → AV) → Hp → Prop} (p : Hp → Prop) (h0 : p h) (hk : ∀ h, p h → XD P N id ops T h K) : XD P N id ops T h K := hk _ h0
theorem own_free {h0 h : Hp} {a : AV} {e : TypeId} {s n b : Nat} {f : Nat → Nat → AV} (o : Own h0 h a e s n f) (hb : h b = none) : a ≠ .row b s 0 n := by
  rintro rfl
  obtain ⟨_, ⟨_, h1 | h1⟩ | ⟨b1, o, h1, _, h2, _⟩⟩ := o
  · cases h1
  · cases h1
  · cases h1
    rw [hb] at h2
    cases h2
def XHlit (P : Program) (T : Nat → AV) (len : Nat) (parts : List (Nat × Operand)) (K : AV → Prop) : Option TypeDesc → Prop
  | some (.slice e) => match zeroA P e with
    | some (s, _) => match partsA T s 0 parts with
      | some l => (l.length = len ∧ 0 < len ∧ len * s ≤ 16777216) ∧ K (.sl s len fun i j => (l.getD i (fun _ => .any)) j)
      | none => False
    | none => False
  | _ => False
@[go_sem] theorem XHo_lit {P : Program} {N : Nat} {T : Nat → AV} {h : Hp} {K : AV → Prop} {d : Option Tmp} {t : TypeId} {p : String} {af : Array Edge} {g : Option (Nat × Bool)} (t' : TypeId) (len : Nat) (parts : List (Nat × Operand)) : XHo P N ⟨d, .buildSlice t' len parts.toArray, t, p, af, g⟩ T h K = XHlit P T len parts K (P.underlying t') := by
  unfold XHo
  rw [show stp P T h (Oper.op ⟨d, .buildSlice t' len parts.toArray, t, p, af, g⟩) = none from rfl]
  rfl
attribute [go_sem] XHlit
def XHbuild (P : Program) (T : Nat → AV) (parts : List (Nat × Operand)) (K : AV → Prop) : Option (List (Nat × Nat)) → Option (Nat × List Value) → Prop
  | some pl, some (m, z) => match buildA pl T m (fun j => .v (z.getD j undef)) parts with
    | some F => K (aggL ((List.range m).map F))
    | none => False
  | _, _ => False
@[go_sem] theorem XHM_build {P : Program} {N : Nat} {T : Nat → AV} {h : Hp} {K : AV → Prop} {d : Option Tmp} {t : TypeId} {p : String} {af : Array Edge} {g : Option (Nat × Bool)} (t' : TypeId) (parts : List (Nat × Operand)) : XHM P N none ⟨d, .build t' parts.toArray, t, p, af, g⟩ T h K = XHbuild P T parts K (placesT P t') (zeroA P t') := by
  unfold XHM XHo
  rw [show stp P T h (Oper.op ⟨d, .build t' parts.toArray, t, p, af, g⟩) = none from rfl]
  rfl
attribute [go_sem] XHbuild
@[go_sem] theorem cellsA_ag (m : Nat) (f : Nat → AV) : cellsA (.agg m f) = some (m, f) := rfl
@[go_sem] theorem binA_beq {P : Program} (t : TypeId) (a b : Bool) (h : P.underlying t = some .bool) : binA P .eql t (.v (.bool a)) (.v (.bool b)) = some (.bool (a == b)) := by simp [binA, h]
@[go_sem] theorem binA_bne {P : Program} (t : TypeId) (a b : Bool) (h : P.underlying t = some .bool) : binA P .neq t (.v (.bool a)) (.v (.bool b)) = some (.bool (!(a == b))) := by simp [binA, h]
def rep (n : Nat) (v : Value) : List Value := List.replicate n v
theorem rep_at (n k : Nat) (v : Value) : (rep n v)[k]?.getD undef = if k < n then v else undef := by by_cases h : k < n <;> simp [rep, h]
def rowL (n : Nat) (f : Nat → AV) : List AV := (List.range n).map f
theorem rowL_length (n : Nat) (f : Nat → AV) : (rowL n f).length = n := by simp [rowL]
theorem rowL_at (n k : Nat) (f : Nat → AV) : (rowL n f)[k]?.getD .any = if k < n then f k else .any := by by_cases h : k < n <;> simp [rowL, h]
@[go_sem] theorem rg256 (f : Nat → AV) : (List.range 256).map f = rowL 256 f := rfl
attribute [go_sem] rowL_length rowL_at

end Go.Proofs.YtmalhikcdideoaaGreatDoor.Sl
