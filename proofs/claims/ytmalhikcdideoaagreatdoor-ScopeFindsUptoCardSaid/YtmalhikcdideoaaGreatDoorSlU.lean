/- More of the layer: loops that leave slots alone; fields of structs told by lists; slices whose elements hold slices of the call's own. -/
import Derived.Test.YtmalhikcdideoaaGreatDoorSlT
set_option linter.unusedVariables false
set_option linter.unusedSimpArgs false
namespace Go.Proofs.YtmalhikcdideoaaGreatDoor.Sl
open Go Go.RowKit
section
variable {P : Program} {N : Nat} {T : Nat → AV} {h : Hp}
/-- A loop that writes the slots D alone. -/
theorem X_lpF {Q : Exit → (Nat → AV) → Hp → Prop} {c : Code} (D : Nat → Prop) (I : Nat → (Nat → AV) → Hp → Prop) (n : Nat) (hi : I n T h)
    (hs : ∀ J', Imp (fun n T' h' => (∀ i, ¬ D i → T' i = T i) ∧ I n T' h') J' → ∀ n T' h', (∀ i, ¬ D i → T' i = T i) → I n T' h' → X P N c T' h' (LpQ J' n Q)) : X P N (.loop c) T h Q :=
  X_lp (fun n T' h' => (∀ i, ¬ D i → T' i = T i) ∧ I n T' h') n ⟨fun _ _ => rfl, hi⟩ fun J' hJ n T' h' ⟨h1, h2⟩ => hs J' hJ n T' h' h1 h2
theorem fr_upd {D : Nat → Prop} {T T' : Nat → AV} {d : Nat} {x : AV} (hd : D d) (hf : ∀ i, ¬ D i → T' i = T i) : ∀ i, ¬ D i → upd T' d x i = T i := fun i hi => by
  rw [upd_ne _ _ (fun e => hi (by rw [e]; exact hd))]; exact hf i hi
end
def fieldL (l : List AV) : Option (Nat × Nat × Bool) → Option AV
  | some (o, n, row) => if o + n ≤ l.length then (if row then some (aggL ((List.range n).map fun j => l.getD (o + j) .any)) else if 0 < n then some (l.getD o .any) else none) else none
  | none => none
@[go_sem high] theorem fieldA_L (P : Program) (s : TypeId) (l : List AV) (f : Nat) : fieldA P s (aggL l) f = fieldL l (fldT P s f) := by
  unfold fieldA fieldL aggL
  cases fldT P s f <;> rfl
@[go_sem] theorem fieldL_some (l : List AV) (o n : Nat) (row : Bool) : fieldL l (some (o, n, row)) = if o + n ≤ l.length then (if row then some (aggL ((List.range n).map fun j => l.getD (o + j) .any)) else if 0 < n then some (l.getD o .any) else none) else none := rfl
@[go_sem] theorem binA_sl {P : Program} (op : BinOp) (t : TypeId) (s n : Nat) (f : Nat → Nat → AV) (y : AV) : binA P op t (.sl s n f) y = none := by cases op <;> rfl

/-! Slices that nobody writes any more, in depth. -/
theorem Wk.slMap {hk h0 : Hp} {s n : Nat} {f f' : Nat → Nat → AV} (hs : Sub h0 hk) (hw : ∀ i, i < n → ∀ j, j < s → Wk hk (f i j) h0 (f' i j)) : Wk hk (.sl s n f) h0 (.sl s n f') := by
  constructor
  rintro w u hh ⟨A, c, rfl, hc, hm, hr⟩
  refine ⟨stp_forget hs, relH_forget hh hs, A, c, rfl, hc, hm, fun hn => ?_⟩
  obtain ⟨b, off, hA, hb, hlt, hcell⟩ := hr hn
  refine ⟨b, off, hA, ?_, hlt, fun i hi j hj => ?_⟩
  · cases hx : h0 b with
    | none => rfl
    | some o => rw [hs b o hx] at hb; cases hb
  · obtain ⟨x, hx, h1, hx'⟩ := hcell i hi j hj
    exact ⟨x, hx, h1, ((hw i hi j hj).out w x hh hx').2.2⟩
theorem Wk.aggMap {hk h0 : Hp} {m : Nat} {f f' : Nat → AV} (hs : Sub h0 hk) (hw : ∀ j, j < m → Wk hk (f j) h0 (f' j)) : Wk hk (.agg m f) h0 (.agg m f') := by
  constructor
  rintro w u hh ⟨cs, rfl, hc, hr⟩
  refine ⟨stp_forget hs, relH_forget hh hs, cs, rfl, hc, fun j hj => ?_⟩
  obtain ⟨x, hx, h1, hx'⟩ := hr j hj
  exact ⟨x, hx, h1, ((hw j hj).out w x hh hx').2.2⟩
theorem Wk.tupMap {hk h0 : Hp} {m : Nat} {f f' : Nat → AV} (hs : Sub h0 hk) (hw : ∀ j, j < m → Wk hk (f j) h0 (f' j)) : Wk hk (.tup m f) h0 (.tup m f') := by
  constructor
  rintro w u hh ⟨cs, rfl, hc, hr⟩
  refine ⟨stp_forget hs, relH_forget hh hs, cs, rfl, hc, fun j hj => ?_⟩
  obtain ⟨x, hx, hx'⟩ := hr j hj
  exact ⟨x, hx, ((hw j hj).out w x hh hx').2.2⟩
theorem Wk.tup2M {hk h0 : Hp} {a a' b b' : AV} (hs : Sub h0 hk) (ha : Wk hk a h0 a') (hb : Wk hk b h0 b') : Wk hk (tup2 a b) h0 (tup2 a' b') :=
  Wk.tupMap hs fun j hj => by
    match j, hj with
    | 0, _ => exact ha
    | 1, _ => exact hb
theorem Wk.aggLM {hk h0 : Hp} {l l' : List AV} (hs : Sub h0 hk) (hl : l.length = l'.length) (hw : ∀ j, j < l.length → Wk hk (l.getD j .any) h0 (l'.getD j .any)) : Wk hk (aggL l) h0 (aggL l') := by
  unfold aggL
  rw [← hl]
  exact Wk.aggMap hs hw
theorem sub_none_of {h0 h : Hp} {b : Nat} (s : Sub h0 h) (hb : h b = none) : h0 b = none := by
  cases hx : h0 b with
  | none => rfl
  | some o => rw [s b o hx] at hb; cases hb
theorem Sub.trans {a b c : Hp} (x : Sub a b) (y : Sub b c) : Sub a c := fun k o hk => y k o (x k o hk)
/-- A slice of the call's own whose elements hold finished slices of the call's own. -/
def OwnD (h0 h : Hp) (a : AV) (e : TypeId) (s n : Nat) (f' : Nat → Nat → AV) : Prop :=
  ∃ f hk, Own hk h a e s n f ∧ Sub h0 hk ∧ ∀ i, i < n → ∀ j, j < s → Wk hk (f i j) h0 (f' i j)
theorem Own.deep {h0 h : Hp} {a : AV} {e : TypeId} {s n : Nat} {f : Nat → Nat → AV} (o : Own h0 h a e s n f) : OwnD h0 h a e s n f := ⟨f, h0, o, Sub.refl _, fun _ _ _ _ => Wk.refl _ _⟩
theorem OwnD.sub {h0 h : Hp} {a : AV} {e : TypeId} {s n : Nat} {f : Nat → Nat → AV} (o : OwnD h0 h a e s n f) : Sub h0 h := by
  obtain ⟨_, hk, o, hs, _⟩ := o
  exact hs.trans o.1
theorem OwnD.frozen {h0 h : Hp} {a : AV} {e : TypeId} {s n : Nat} {f : Nat → Nat → AV} (o : OwnD h0 h a e s n f) (h3 : n ≤ 140737488355328) : Wk h a h0 (.sl s n f) := by
  obtain ⟨g, hk, o, hs, hw⟩ := o
  exact (o.frozen h3).trans (Wk.slMap hs hw)
/-- One more finished block. -/
theorem OwnD.with {h0 h : Hp} {a : AV} {e : TypeId} {s n b : Nat} {f' : Nat → Nat → AV} {ob : Ob} (o : OwnD h0 h a e s n f') (hb : h b = some ob) (ha : a ≠ .row b s 0 n) :
    ∃ f hk, Own hk h a e s n f ∧ Sub h0 hk ∧ hk b = some ob ∧ ∀ i, i < n → ∀ j, j < s → Wk hk (f i j) h0 (f' i j) := by
  obtain ⟨f, hk, ⟨o1, o2⟩, hs, hw⟩ := o
  have hkk : Sub hk (upd hk b (some ob)) := fun c oc hc => by
    by_cases hcb : c = b
    · subst hcb
      have := o1 c oc hc
      rw [hb] at this
      rw [upd_same, this]
    · rw [upd_ne _ _ hcb]; exact hc
  refine ⟨f, upd hk b (some ob), ⟨fun c oc hc => ?_, ?_⟩, hs.trans hkk, upd_same _ _ _, fun i hi j hj => (Wk.drop _ hkk).trans (hw i hi j hj)⟩
  · by_cases hcb : c = b
    · subst hcb; rw [upd_same] at hc; cases hc; exact hb
    · rw [upd_ne _ _ hcb] at hc; exact o1 c oc hc
  · rcases o2 with o2 | ⟨b1, o', e1, e2, e3⟩
    · exact .inl o2
    · refine .inr ⟨b1, o', e1, ?_, e3⟩
      rw [upd_ne _ _ (fun e => ha (by rw [e1, e]))]; exact e2
/-- What the caller's own blocks are is kept. -/
def Kept (h h' : Hp) (a : AV) (s n : Nat) : Prop := ∀ c oc, h c = some oc → a ≠ .row c s 0 n → h' c = some oc
section
variable {P : Program} {N : Nat} {T : Nat → AV} {K : (Nat → AV) → Hp → Prop} {d : Option Tmp} {X Y : Operand} {t e : TypeId} {t' : TypeId} {p : String} {af : Array Edge} {g : Option (Nat × Bool)} {α : Type} {enc : α → List AV} {l : List α} {x : α} {s by_ : Nat} {z : List Value} {h0 h hk : Hp} {f : Nat → Nat → AV} {a0 : AV}
/-- 'append(l, x)', in depth: the literal is a slice of one element. -/
theorem OwnD.append1 (o : Own hk h a0 e s l.length f) (hs : Sub h0 hk) (hc : ∀ i, i < l.length → ∀ j, j < s → Wk hk (f i j) h0 (cellsL enc l i j)) (ha : ev T X = a0) (hu : P.underlying t = some (.slice e)) (hz : zeroA P e = some (s, z)) (hb : bytesT P e = some by_) (hd : dOk N d = true)
    {q : Nat → Nat → AV} (hy : srcA h s (ev T Y) = some (1, q)) (hq : ∀ j, j < s → Wk hk (q 0 j) h0 ((enc x).getD j .any)) (hm : (l.length + 1) * by_ ≤ 140737488355328) (hm' : l.length + 1 ≤ 140737488355328)
    (hK : ∀ a h', OwnD h0 h' a e s (l ++ [x]).length (cellsL enc (l ++ [x])) → Kept h h' a0 s l.length → K (putD T d a) h') : XW P N ⟨d, .call ⟨.builtin .append, #[X, Y], #[t, t]⟩, t', p, af, g⟩ T h K := by
  subst ha
  refine Own.append o hu hz hb hd hy hm hm' fun a h' ho hkp => hK a h' ⟨_, hk, by rw [List.length_append, List.length_singleton]; exact ho, hs, fun i hi j hj => ?_⟩ hkp
  rw [List.length_append, List.length_singleton] at hi
  show Wk hk (if i < l.length then f i j else q (i - l.length) j) h0 (cellsL enc (l ++ [x]) i j)
  by_cases hil : i < l.length
  · rw [if_pos hil]
    have := hc i hil j hj
    simpa [cellsL, List.getElem?_append_left hil] using this
  · have hie : i = l.length := by omega
    subst hie
    have := hq j hj
    simpa [cellsL] using this
/-- 'append(l, x)', in depth: the literal is a new block. -/
theorem OwnD.push {b : Nat} {ob : Ob} (o : Own hk h a0 e s l.length f) (hs : Sub h0 hk) (hc : ∀ i, i < l.length → ∀ j, j < s → Wk hk (f i j) h0 (cellsL enc l i j)) (ha : ev T X = a0) (hu : P.underlying t = some (.slice e)) (hz : zeroA P e = some (s, z)) (hb : bytesT P e = some by_) (hd : dOk N d = true)
    (hbk : h b = Option.none) (hy : ev T Y = .row b s 0 1) (h1 : ob.s = s) (h2 : 1 ≤ ob.n) (hq : ∀ j, j < s → Wk hk (ob.f 0 j) h0 ((enc x).getD j .any)) (hm : (l.length + 1) * by_ ≤ 140737488355328) (hm' : l.length + 1 ≤ 140737488355328)
    (hK : ∀ a h', OwnD h0 h' a e s (l ++ [x]).length (cellsL enc (l ++ [x])) → Kept h h' a0 s l.length → K (putD T d a) h') : XW P N ⟨d, .call ⟨.builtin .append, #[X, Y], #[t, t]⟩, t', p, af, g⟩ T (upd h b (some ob)) K := by
  refine OwnD.append1 (q := ob.f) (o.alloc hbk) hs hc ha hu hz hb hd ?_ hq hm hm' fun a h' ho hkp => hK a h' ho fun c oc hc hne => hkp c oc (by rw [upd_ne _ _ (ne_free hbk hc).2]; exact hc) hne
  subst h1
  rw [hy]
  simp only [srcA, upd_same]
  rw [if_pos ⟨trivial, trivial, by omega⟩]
  simp
end
end Go.Proofs.YtmalhikcdideoaaGreatDoor.Sl
