/- The semantic layer, fourteenth part: regions that draw their order and write: where the edges order what does not commute, the text's order tells them too. -/
import Derived.Test.YtmalhikcdideoaaGreatDoorSlM
set_option linter.unusedVariables false
set_option linter.unusedSimpArgs false
namespace Go.Proofs.YtmalhikcdideoaaGreatDoor.Sl
open Go Go.RowKit

/-- f: needs no own memory (a load so marked: of what nobody writes); g: a load of own memory that the region leaves alone; r: reads; w: appends, calls that write; s: stores. -/
inductive Cl where
  | f | g | r | w | s
deriving DecidableEq
def light : Op → Bool
  | .store .. => true
  | .call ⟨.builtin .append, _, _⟩ => true
  | _ => false
def isStore : Op → Bool
  | .store .. => true
  | _ => false
def clsOf (fm gm wm : List Nat) (i : Nat) (o : Oper) : Cl :=
  if isStore o.op then .s else if light o.op || wm.contains i then .w else match o.op with
    | .load _ _ => if fm.contains i then .f else if gm.contains i then .g else .r
    | .call ⟨.value _, _, _⟩ => .r
    | .buildSlice _ _ _ => .r
    | .build _ _ => .r
    | _ => .f
def okPair (ci : Cl) (oi : Oper) (cj : Cl) : Bool := match ci, cj with
  | .w, .f => light oi.op
  | .w, .g => light oi.op
  | .s, .f => light oi.op
  | .w, _ => false
  | .s, _ => false
  | .r, .w => false
  | .r, .s => false
  | .g, .s => false
  | _, _ => true
def okPairs (ops : List Oper) (fm gm wm : List Nat) : Bool := (List.range ops.length).all fun j => match ops[j]? with
  | some oj => (List.range j).all fun i => match ops[i]? with
    | some oi => (ancB ops ops.length j i || okPair (clsOf fm gm wm i oi) oi (clsOf fm gm wm j oj)) && !(clsOf fm gm wm i oi == .s && clsOf fm gm wm j oj == .g)
    | none => true
  | none => true
def okW (ops : List Oper) (fm gm wm : List Nat) : Bool := okFwd ops && okTmp ops && okPairs ops fm gm wm

section
variable {P : Program} {N : Nat}

/-- What a writing operation may be here. -/
def XL (P : Program) (N : Nat) (o : Oper) (T : Nat → AV) (h : Hp) (K : (Nat → AV) → Hp → Prop) : Prop := match o.op with
  | .store _ _ _ => XW P N o T h K
  | .call ⟨.builtin .append, _, _⟩ => XW P N o T h K
  | .call ⟨.value (.func _), _, _⟩ => XW P N o T h K
  | .call ⟨.value (.tmp _), _, _⟩ => XW P N o T h K
  | .mapUpdate _ _ _ _ => XW P N o T h K
  | _ => False
def gdO {α : Prop} : Prop := α
/-- With its guard. -/
def XGd (P : Program) (N : Nat) (ops : List Oper) (o : Oper) (T : Nat → AV) (h : Hp) (K : (Nat → AV) → Hp → Prop) : Prop := match o.guard with
  | none => XL P N o T h K
  | some (j, want) => match gvA ops T j want with
    | some b => (b = want → XL P N o T h K) ∧ (b ≠ want → dOk N o.dst = true ∧ K (putD T o.dst un) h)
    | none => False
/-- The value of an operation that needs no own memory. -/
def CF (P : Program) (hF : Hp) (ops : List Oper) (o : Oper) (T : Nat → AV) (v : AV) : Prop := match o.guard with
  | none => stp P T hF o.op = some v
  | some (j, want) => ∃ b, gvA ops T j want = some b ∧ ((b = want ∧ stp P T hF o.op = some v) ∨ (b ≠ want ∧ v = un))
def wQ (hF h : Hp) (K : (Nat → AV) → Hp → Prop) : (Nat → AV) → Hp → Prop := fun T' h' => (Sub hF h → Sub hF h') ∧ K T' h'
def XE (P : Program) (N : Nat) (hF : Hp) (ops : List Oper) (c : Cl) (o : Oper) (T : Nat → AV) (h : Hp) (K : (Nat → AV) → Hp → Prop) : Prop := match c with
  | .f => ∃ v, dOk N o.dst = true ∧ CF P (fun _ => none) ops o T v ∧ K (putD T o.dst v) h
  | .g => ∃ v, dOk N o.dst = true ∧ CF P hF ops o T v ∧ K (putD T o.dst v) h
  | .r => ∃ v, dOk N o.dst = true ∧ CR P h ops o T v ∧ K (putD T o.dst v) h
  | .w => XGd P N ops o T h (wQ hF h K)
  | .s => XGd P N ops o T h K

theorem ev_put {T : Nat → AV} {d : Option Tmp} {v : AV} {x : Operand} (hx : ∀ t, x = .tmp t → d ≠ some t) : ev (putD T d v) x = ev T x := by
  cases x with
  | tmp t =>
    cases d with
    | none => rfl
    | some d => exact upd_ne _ _ (fun e => hx t rfl (by rw [e]))
  | _ => rfl
theorem put_comm {T : Nat → AV} {d e : Option Tmp} {v u : AV} (hd : ∀ t, d = some t → e ≠ some t) : putD (putD T d v) e u = putD (putD T e u) d v := by
  cases d with
  | none => rfl
  | some d => cases e with
    | none => rfl
    | some e =>
      have hne : e ≠ d := fun h => hd d rfl (by rw [h])
      funext x
      simp only [putD, upd]
      by_cases h1 : x = d
      · have h2 : ¬ x = e := fun h2 => hne (h2.symm.trans h1)
        rw [if_neg h2, if_pos h1, if_pos h1]
      · by_cases h2 : x = e
        · rw [if_pos h2, if_neg h1, if_pos h2]
        · rw [if_neg h2, if_neg h1, if_neg h1, if_neg h2]
theorem stp_sub {T : Nat → AV} {hF h : Hp} {op : Op} {v : AV} (sb : Sub hF h) (hs : stp P T hF op = some v) : stp P T h op = some v := by
  have own : ∀ (b i j n : Nat) (row : Bool), ownAt hF b i j n row = some v → ownAt h b i j n row = some v := by
    intro b i j n row ho
    unfold ownAt at ho ⊢
    cases hb : hF b with
    | none => rw [hb] at ho; cases ho
    | some o => rw [hb] at ho; rw [sb b o hb]; exact ho
  cases op with
  | load t x =>
    simp only [stp] at hs ⊢
    unfold loadA at hs ⊢
    split at hs <;> try exact hs
    split at hs
    · exact hs
    · exact own _ _ _ _ _ hs
    · rename_i b s i j _
      cases hb : hF b with
      | none => rw [hb] at hs; cases hs
      | some o =>
        rw [hb] at hs
        rw [sb b o hb]
        simp only at hs ⊢
        split at hs
        · rename_i ho; rw [if_pos ho]; exact own _ _ _ _ _ hs
        · cases hs
    · cases hs
  | slice t x lo hi mx => cases mx <;> exact hs
  | call c =>
    obtain ⟨callee, args, tys⟩ := c
    cases callee with
    | builtin b => cases b <;> exact hs
    | value f => cases f <;> exact hs
    | invoke r m => exact hs
  | _ => exact hs

/-- What XL asks does not look at other slots. -/
theorem XL_frame {o : Oper} {T : Nat → AV} {h : Hp} {K : (Nat → AV) → Hp → Prop} {d : Option Tmp} {v : AV} (hl : ∀ x ∈ o.op.operands, ∀ t, x = .tmp t → d ≠ some t) (hd : ∀ t, d = some t → o.dst ≠ some t) :
    XL P N o (putD T d v) h K ↔ XL P N o T h fun T1 h1 => (∃ x, T1 = putD T o.dst x) ∧ K (putD T1 d v) h1 := by
  have hc : ∀ u, putD (putD T d v) o.dst u = putD (putD T o.dst u) d v := fun u => put_comm hd
  have hx : ∀ u, (∃ x, putD T o.dst u = putD T o.dst x) = True := fun u => eq_true ⟨u, rfl⟩
  unfold XL
  split
  · rename_i t a x ho
    have ha : ev (putD T d v) a = ev T a := ev_put (hl a (by rw [ho]; simp [Op.operands]))
    have hxx : ev (putD T d v) x = ev T x := ev_put (hl x (by rw [ho]; simp [Op.operands]))
    simp only [XW, ho, ha, hxx, hc, hx, true_and]
  · rename_i args tys ho
    have ha : ∀ x ∈ args.toList, ev (putD T d v) x = ev T x := fun x hxm => ev_put (hl x (by rw [ho]; simp [Op.operands, Call.operands]; simpa using hxm))
    simp only [XW, ho]
    split
    · rename_i s x t t' h1 h2
      have hs : ev (putD T d v) s = ev T s := ha s (by rw [h1]; simp)
      have hxx : ev (putD T d v) x = ev T x := ha x (by rw [h1]; simp)
      simp only [hs, hxx, hc, hx, true_and]
    · simp
  · rename_i f args tys ho
    have ha : args.toList.map (ev (putD T d v)) = args.toList.map (ev T) := List.map_congr_left fun x hxm => ev_put (hl x (by rw [ho]; simp [Op.operands, Call.operands]; right; simpa using hxm))
    simp only [XW, ho, ha, hc, hx, true_and]
  · rename_i x args tys ho
    have ha : args.toList.map (ev (putD T d v)) = args.toList.map (ev T) := List.map_congr_left fun x hxm => ev_put (hl x (by rw [ho]; simp [Op.operands, Call.operands]; right; simpa using hxm))
    have hT : putD T d v x = T x := ev_put (x := .tmp x) (hl (.tmp x) (by rw [ho]; simp [Op.operands, Call.operands]))
    simp only [XW, ho, ha, hT]
    split
    · simp only [hc, hx, true_and]
    · simp
  · rename_i t m k x ho
    have hm : ev (putD T d v) m = ev T m := ev_put (hl m (by rw [ho]; simp [Op.operands]))
    have hk : ev (putD T d v) k = ev T k := ev_put (hl k (by rw [ho]; simp [Op.operands]))
    have hxx : ev (putD T d v) x = ev T x := ev_put (hl x (by rw [ho]; simp [Op.operands]))
    simp only [XW, XW2, ho, hm, hk, hxx, hc, hx, true_and]
  · simp

theorem XWstr_mono {h : Hp} {s x : AV} {t t' : TypeId} {K K' : AV → Hp → Prop} (hk : ∀ v h', K v h' → K' v h') (hx : XWstr P h s x t t' K) : XWstr P h s x t t' K' := by
  obtain ⟨e, z, by_, b, h1, h2, h3, h4, h5, hx⟩ := hx
  refine ⟨e, z, by_, b, h1, h2, h3, h4, h5, ?_⟩
  rcases hx with ⟨k1, k2, k3, k4, k5⟩ | ⟨k, n, ob, k1, k2, k3, k4, k5, k6, k7, k8⟩
  · exact .inl ⟨k1, k2, k3, fun hm => hk _ _ (k4 hm), fun hm k hb => hk _ _ (k5 hm k hb)⟩
  · exact .inr ⟨k, n, ob, k1, k2, k3, k4, k5, k6, k7, fun k' hb => hk _ _ (k8 k' hb)⟩
theorem XL_mono {o : Oper} {T : Nat → AV} {h : Hp} {K K' : (Nat → AV) → Hp → Prop} (hk : ∀ T' h', K T' h' → K' T' h') (hx : XL P N o T h K) : XL P N o T h K' := by
  unfold XL at hx ⊢
  split at hx
  · rename_i t a x ho
    simp only [XW, ho] at hx ⊢
    refine ⟨hx.1, ?_⟩
    have hx := hx.2
    split at hx
    · split at hx
      · exact ⟨hx.1, hx.2.1, hx.2.2.1, hk _ _ hx.2.2.2⟩
      · exact hx
    · split at hx
      · exact ⟨hx.1, hx.2.1, hx.2.2.1, hx.2.2.2.1, hk _ _ hx.2.2.2.2⟩
      · exact hx
    · exact hx
  · rename_i args tys ho
    simp only [XW, ho] at hx ⊢
    refine ⟨hx.1, ?_⟩
    have hx := hx.2
    split at hx
    · rcases hx with hx | hx
      case inr => exact .inr (XWstr_mono (fun v h' hv => hk _ _ hv) hx)
      refine .inl ⟨hx.1, ?_⟩
      have hx := hx.2
      split at hx
      · split at hx
        · split at hx
          · split at hx
            · exact ⟨hx.1, hx.2.1, fun hm => hk _ _ (hx.2.2.1 hm), fun hm b hb => hk _ _ (hx.2.2.2 hm b hb)⟩
            · split at hx
              · exact ⟨hx.1, hx.2.1, hx.2.2.1, hx.2.2.2.1, hx.2.2.2.2.1, hx.2.2.2.2.2.1, fun b' hb' => hk _ _ (hx.2.2.2.2.2.2 b' hb')⟩
              · exact hx
            · exact ⟨hx.1, hx.2.1, fun hm => hk _ _ (hx.2.2.1 hm), fun hm b hb => hk _ _ (hx.2.2.2 hm b hb)⟩
            · exact hx
          · exact hx
        · exact hx
      · exact hx
    · exact hx
  · rename_i f args tys ho
    simp only [XW, ho] at hx ⊢
    exact ⟨hx.1, hx.2.mono fun r h' => hk _ _⟩
  · rename_i x args tys ho
    simp only [XW, ho] at hx ⊢
    refine ⟨hx.1, ?_⟩
    have hx := hx.2
    split at hx
    · exact ⟨hx.1, hx.2.1, hx.2.2.mono fun r h' => hk _ _⟩
    · exact hx.elim
  · rename_i t m k x ho
    simp only [XW, XW2, ho] at hx ⊢
    refine ⟨hx.1, ?_⟩
    have hx := hx.2
    split at hx
    · obtain ⟨n, c, g, q, b, h1, h2, h3, h4, h5⟩ := hx
      exact ⟨n, c, g, q, b, h1, h2, h3, h4, hk _ _ h5⟩
    · exact hx
  · exact hx
def Fin (h : Hp) : Prop := ∃ n, ∀ b, n ≤ b → h b = none
theorem Fin.upd {h : Hp} (hf : Fin h) (b : Nat) (o : Option Ob) : Fin (upd h b o) := by
  obtain ⟨n, hn⟩ := hf
  exact ⟨max n (b + 1), fun c hc => by rw [upd_ne _ _ (by omega)]; exact hn c (by omega)⟩
theorem XWstr_some {h : Hp} {s x : AV} {t t' : TypeId} {K : AV → Hp → Prop} (hf : Fin h) (hx : XWstr P h s x t t' K) : (∃ v h', K v h') ∧ XWstr P h s x t t' fun v h' => Fin h' ∧ K v h' := by
  obtain ⟨e, z, by_, b, h1, h2, h3, h4, h5, hx⟩ := hx
  have hff := hf
  obtain ⟨n, hn⟩ := hf
  rcases hx with ⟨k1, k2, k3, k4, k5⟩ | ⟨k, m, ob, k1, k2, k3, k4, k5, k6, k7, k8⟩
  · refine ⟨?_, e, z, by_, b, h1, h2, h3, h4, h5, .inl ⟨k1, k2, k3, fun hm => ⟨hff, k4 hm⟩, fun hm k hb => ⟨hff.upd _ _, k5 hm k hb⟩⟩⟩
    rcases Nat.eq_zero_or_pos b.size with h0 | h0
    · exact ⟨_, _, k4 h0⟩
    · exact ⟨_, _, k5 h0 n (hn n (Nat.le_refl _))⟩
  · exact ⟨⟨_, _, k8 k (.inl rfl)⟩, e, z, by_, b, h1, h2, h3, h4, h5, .inr ⟨k, m, ob, k1, k2, k3, k4, k5, k6, k7, fun k' hb => ⟨(hff.upd _ _).upd _ _, k8 k' hb⟩⟩⟩
/-- What writes lightly has an outcome, and leaves a heap with room. -/
theorem XL_some {o : Oper} {T : Nat → AV} {h : Hp} {K : (Nat → AV) → Hp → Prop} (hl : light o.op = true) (hf : Fin h) (hx : XL P N o T h K) : (∃ T' h', K T' h') ∧ XL P N o T h fun T' h' => Fin h' ∧ K T' h' := by
  obtain ⟨n, hn⟩ := hf
  have hff : Fin h := ⟨n, hn⟩
  unfold XL at hx ⊢
  split at hx
  · rename_i t a x ho
    simp only [XW, ho] at hx ⊢
    obtain ⟨hd, hx⟩ := hx
    split at hx
    · split at hx
      · exact ⟨⟨_, _, hx.2.2.2⟩, hd, hx.1, hx.2.1, hx.2.2.1, hff.upd _ _, hx.2.2.2⟩
      · exact hx.elim
    · split at hx
      · exact ⟨⟨_, _, hx.2.2.2.2⟩, hd, hx.1, hx.2.1, hx.2.2.1, hx.2.2.2.1, hff.upd _ _, hx.2.2.2.2⟩
      · exact hx.elim
    · exact hx.elim
  · rename_i args tys ho
    simp only [XW, ho] at hx ⊢
    obtain ⟨hd, hx⟩ := hx
    split at hx
    · rcases hx with hx | hx
      case inr =>
        obtain ⟨⟨v, h', hv⟩, hx⟩ := XWstr_some hff hx
        exact ⟨⟨_, _, hv⟩, hd, .inr hx⟩
      obtain ⟨he, hx⟩ := hx
      split at hx
      · split at hx
        · split at hx
          · split at hx
            · refine ⟨?_, hd, .inl ⟨he, hx.1, hx.2.1, fun hm => ⟨hff, hx.2.2.1 hm⟩, fun hm b hb => ⟨hff.upd _ _, hx.2.2.2 hm b hb⟩⟩⟩
              rename_i m _ _ _ _
              rcases Nat.eq_zero_or_pos m with h0 | h0
              · exact ⟨_, _, hx.2.2.1 h0⟩
              · exact ⟨_, _, hx.2.2.2 h0 n (hn n (Nat.le_refl _))⟩
            · split at hx
              · exact ⟨⟨_, _, hx.2.2.2.2.2.2 _ (.inl rfl)⟩, hd, .inl ⟨he, hx.1, hx.2.1, hx.2.2.1, hx.2.2.2.1, hx.2.2.2.2.1, hx.2.2.2.2.2.1, fun b' hb' => ⟨(hff.upd _ _).upd _ _, hx.2.2.2.2.2.2 b' hb'⟩⟩⟩
              · exact hx.elim
            · refine ⟨?_, hd, .inl ⟨he, hx.1, hx.2.1, fun hm => ⟨hff, hx.2.2.1 hm⟩, fun hm b hb => ⟨hff.upd _ _, hx.2.2.2 hm b hb⟩⟩⟩
              rename_i m _ _ _ _
              rcases Nat.eq_zero_or_pos m with h0 | h0
              · exact ⟨_, _, hx.2.2.1 h0⟩
              · exact ⟨_, _, hx.2.2.2 h0 n (hn n (Nat.le_refl _))⟩
            · exact hx.elim
          · exact hx.elim
        · exact hx.elim
      · exact hx.elim
    · exact hx.elim
  · rename_i f args tys ho
    rw [ho] at hl; cases hl
  · rename_i x args tys ho
    rw [ho] at hl; cases hl
  · rename_i t m k x ho
    rw [ho] at hl; cases hl
  · exact hx.elim
end
end Go.Proofs.YtmalhikcdideoaaGreatDoor.Sl
