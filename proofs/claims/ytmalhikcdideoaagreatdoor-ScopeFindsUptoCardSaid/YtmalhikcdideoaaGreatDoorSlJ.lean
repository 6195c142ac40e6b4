/- The semantic layer, tenth part: regions that draw their order: where what is done only reads, reckons or calls functions of their arguments alone, the text's order tells it all. -/
import Derived.Test.YtmalhikcdideoaaGreatDoorSlI
set_option linter.unusedVariables false
set_option linter.unusedSimpArgs false
namespace Go.Proofs.YtmalhikcdideoaaGreatDoor.Sl
open Go Go.RowKit

/-- An operation of such a region, told. -/
def CRo (P : Program) (h : Hp) (o : Oper) (T : Nat → AV) (v : AV) : Prop :=
  stp P T h o.op = some v ∨
  (∃ f args tys, o.op = .call ⟨.value (.func f), args, tys⟩ ∧ PureX P h f (args.toList.map (ev T)) v) ∨
  (∃ t len parts e s z l, o.op = .buildSlice t len parts ∧ P.underlying t = some (.slice e) ∧ zeroA P e = some (s, z) ∧ partsA T s 0 parts.toList = some l ∧ l.length = len ∧ 0 < len ∧ len * s ≤ 16777216 ∧ v = .sl s len fun i j => (l.getD i (fun _ => .any)) j) ∨
  (∃ t parts pl m z F, o.op = .build t parts ∧ placesT P t = some pl ∧ zeroA P t = some (m, z) ∧ buildA pl T m (fun j => .v (z.getD j undef)) parts.toList = some F ∧ v = aggL ((List.range m).map F)) ∨
  (∃ (x : Tmp) (f : FuncId) (args : Array Operand) (tys : Array TypeId) (caps : Array Value), o.op = .call ⟨.value (.tmp x), args, tys⟩ ∧ T x = .v (.func (.func f) #[] caps) ∧ callable P f = true ∧ PureAt P h f (args.toList.map (ev T) ++ caps.toList.map .v) v)
def CR (P : Program) (h : Hp) (ops : List Oper) (o : Oper) (T : Nat → AV) (v : AV) : Prop :=
  match o.guard with
  | none => CRo P h o T v
  | some (j, want) => ∃ b, gvA ops T j want = some b ∧ ((b = want ∧ CRo P h o T v) ∨ (b ≠ want ∧ v = un))

/-- The region in the text's order. -/
def XHo (P : Program) (N : Nat) (o : Oper) (T : Nat → AV) (h : Hp) (K : AV → Prop) : Prop :=
  match stp P T h o.op with
  | some v => K v
  | none => match o.op with
    | .call ⟨.value (.func f), args, _⟩ => ∃ r, PureX P h f (args.toList.map (ev T)) r ∧ K r
    | .call ⟨.value (.tmp x), args, _⟩ => match T x with
      | .v (.func (.func f) first caps) => first = #[] ∧ callable P f = true ∧ ∃ r, PureAt P h f (args.toList.map (ev T) ++ caps.toList.map .v) r ∧ K r
      | _ => False
    | .buildSlice t len parts => match P.underlying t with
      | some (.slice e) => match zeroA P e with
        | some (s, _) => match partsA T s 0 parts.toList with
          | some l => (l.length = len ∧ 0 < len ∧ len * s ≤ 16777216) ∧ K (.sl s len fun i j => (l.getD i (fun _ => .any)) j)
          | none => False
        | none => False
      | _ => False
    | .build t parts => match placesT P t, zeroA P t with
      | some pl, some (m, z) => match buildA pl T m (fun j => .v (z.getD j undef)) parts.toList with
        | some F => K (aggL ((List.range m).map F))
        | none => False
      | _, _ => False
    | _ => False
def XH (P : Program) (N : Nat) (ops : List Oper) : List Oper → (Nat → AV) → Hp → ((Nat → AV) → Hp → Prop) → Prop
  | [], T, h, K => K T h
  | o :: rest, T, h, K => dOk N o.dst = true ∧ match o.guard with
    | none => XHo P N o T h fun v => XH P N ops rest (putD T o.dst v) h K
    | some (j, want) => match gvA ops T j want with
      | some b => (b = want → XHo P N o T h fun v => XH P N ops rest (putD T o.dst v) h K) ∧ (b ≠ want → XH P N ops rest (putD T o.dst un) h K)
      | none => False

/-- The slots before operation j, in the text's order; those behind the listed ones. -/
def Tx (T : Nat → AV) (ops : List Oper) (v : Nat → AV) : Nat → Nat → AV
  | 0 => T
  | j + 1 => putD (Tx T ops v j) ((ops[j]?).bind (·.dst)) (v j)
def Ov (T : Nat → AV) (ops : List Oper) (v : Nat → AV) (L : Nat → Bool) : Nat → Nat → AV
  | 0 => T
  | j + 1 => if L j then putD (Ov T ops v L j) ((ops[j]?).bind (·.dst)) (v j) else Ov T ops v L j

section
variable {P : Program} {N : Nat} {T : Nat → AV} {h : Hp}

theorem XHo_cr {o : Oper} {K : AV → Prop} (hx : XHo P N o T h K) : ∃ v, CRo P h o T v ∧ K v := by
  unfold XHo at hx
  split at hx
  · rename_i v hv
    exact ⟨v, .inl hv, hx⟩
  · split at hx
    · rename_i f args tys ho
      obtain ⟨r, hr, hk⟩ := hx
      exact ⟨r, .inr (.inl ⟨f, args, tys, ho, hr⟩), hk⟩
    · rename_i x args tys ho
      split at hx
      · rename_i f first caps hT
        obtain ⟨rfl, h1, r, h2, h3⟩ := hx
        exact ⟨r, .inr (.inr (.inr (.inr ⟨x, f, args, tys, caps, ho, hT, h1, h2⟩))), h3⟩
      · cases hx
    · rename_i t len parts ho
      split at hx
      · rename_i e hu
        split at hx
        · rename_i s z hz
          split at hx
          · rename_i l hl
            exact ⟨_, .inr (.inr (.inl ⟨t, len, parts, e, s, z, l, ho, hu, hz, hl, hx.1.1, hx.1.2.1, hx.1.2.2, rfl⟩)), hx.2⟩
          · cases hx
        · cases hx
      · cases hx
    · rename_i t parts ho
      split at hx
      · rename_i pl m z hp hz
        split at hx
        · rename_i F hF
          exact ⟨_, .inr (.inr (.inr (.inl ⟨t, parts, pl, m, z, F, ho, hp, hz, hF, rfl⟩))), hx⟩
        · cases hx
      · cases hx
    · cases hx

theorem Tx_shift (T : Nat → AV) (o : Oper) (rest : List Oper) (v : Nat → AV) : ∀ j, Tx (putD T o.dst (v 0)) rest (fun k => v (k + 1)) j = Tx T (o :: rest) v (j + 1) := by
  intro j
  induction j with
  | zero => rfl
  | succ j ih =>
    show putD (Tx (putD T o.dst (v 0)) rest (fun k => v (k + 1)) j) _ _ = putD (Tx T (o :: rest) v (j + 1)) _ _
    rw [ih]
    rfl
theorem XH_values {ops : List Oper} {K : (Nat → AV) → Hp → Prop} : ∀ {l : List Oper} {T : Nat → AV}, XH P N ops l T h K → ∃ v : Nat → AV, (∀ j o, l[j]? = some o → dOk N o.dst = true ∧ CR P h ops o (Tx T l v j) (v j)) ∧ K (Tx T l v l.length) h := by
  intro l
  induction l with
  | nil => intro T hx; exact ⟨fun _ => .any, fun j o hj => by simp at hj, hx⟩
  | cons o l ih =>
    intro T hx
    obtain ⟨hd, hx⟩ := hx
    have fin : ∀ v0, CR P h ops o T v0 → XH P N ops l (putD T o.dst v0) h K → ∃ v : Nat → AV, (∀ j o', (o :: l)[j]? = some o' → dOk N o'.dst = true ∧ CR P h ops o' (Tx T (o :: l) v j) (v j)) ∧ K (Tx T (o :: l) v (o :: l).length) h := by
      intro v0 hc hr
      obtain ⟨v, h1, h2⟩ := ih hr
      refine ⟨fun k => match k with | 0 => v0 | k + 1 => v k, fun j o' hj => ?_, ?_⟩
      · cases j with
        | zero =>
          simp only [List.getElem?_cons_zero, Option.some.injEq] at hj
          subst hj
          exact ⟨hd, hc⟩
        | succ j =>
          simp only [List.getElem?_cons_succ] at hj
          have := h1 j o' hj
          have e := Tx_shift T o l (fun k => match k with | 0 => v0 | k + 1 => v k) j
          rw [← e]
          exact this
      · have e := Tx_shift T o l (fun k => match k with | 0 => v0 | k + 1 => v k) l.length
        simp only [List.length_cons]
        rw [← e]
        exact h2
    split at hx
    · rename_i hg
      obtain ⟨v0, hc, hk⟩ := XHo_cr hx
      exact fin v0 (by unfold CR; rw [hg]; exact hc) hk
    · rename_i j want hg
      split at hx
      · rename_i b hb
        by_cases hbw : b = want
        · obtain ⟨v0, hc, hk⟩ := XHo_cr (hx.1 hbw)
          exact fin v0 (by unfold CR; rw [hg]; exact ⟨b, hb, .inl ⟨hbw, hc⟩⟩) hk
        · exact fin un (by unfold CR; rw [hg]; exact ⟨b, hb, .inr ⟨hbw, rfl⟩⟩) (hx.2 hbw)
      · cases hx

/-! Only the operands count. -/
theorem bnd_congr {T' : Nat → AV} {d : Int} {x : Option Operand} (hx : ∀ y, x = some y → ev T y = ev T' y) : bnd T d x = bnd T' d x := by
  cases x with
  | none => rfl
  | some y => simp only [bnd, hx y rfl]
theorem concAll_congr {T' : Nat → AV} : ∀ {l : List Operand}, (∀ x ∈ l, ev T x = ev T' x) → concAll T l = concAll T' l := by
  intro l
  induction l with
  | nil => intro _; rfl
  | cons x l ih =>
    intro hx
    unfold concAll
    rw [hx x (List.mem_cons_self ..), ih fun y hy => hx y (List.mem_cons_of_mem _ hy)]
theorem partsA_congr {T' : Nat → AV} {s : Nat} : ∀ {l : List (Nat × Operand)} {k : Nat}, (∀ p ∈ l, ev T p.2 = ev T' p.2) → partsA T s k l = partsA T' s k l := by
  intro l
  induction l with
  | nil => intro k _; rfl
  | cons p l ih =>
    intro k hp
    obtain ⟨i, x⟩ := p
    unfold partsA
    rw [hp (i, x) (List.mem_cons_self ..), ih fun q hq => hp q (List.mem_cons_of_mem _ hq)]
theorem buildA_congr {T' : Nat → AV} {pl : List (Nat × Nat)} {m : Nat} : ∀ {l : List (Nat × Operand)} {F : Nat → AV}, (∀ p ∈ l, ev T p.2 = ev T' p.2) → buildA pl T m F l = buildA pl T' m F l := by
  intro l
  induction l with
  | nil => intro F _; rfl
  | cons p l ih =>
    intro F hp
    obtain ⟨i, x⟩ := p
    have hx : ev T x = ev T' x := hp (i, x) (List.mem_cons_self ..)
    have ih2 : ∀ F, buildA pl T m F l = buildA pl T' m F l := fun F => ih fun q hq => hp q (List.mem_cons_of_mem _ hq)
    simp only [buildA, hx, ih2]
theorem args_congr {T' : Nat → AV} {l : List Operand} (hx : ∀ x ∈ l, ev T x = ev T' x) : l.map (ev T) = l.map (ev T') := List.map_congr_left hx
theorem stp_congr {T' : Nat → AV} {op : Op} (hx : ∀ x ∈ op.operands, ev T x = ev T' x) : stp P T h op = stp P T' h op := by
  cases op <;> simp only [Op.operands] at hx
  case move x => simp only [stp, hx x (by simp)]
  case assign x => simp only [stp, hx x (by simp)]
  case pick c a b => simp only [stp, hx c (by simp), hx a (by simp), hx b (by simp)]
  case binOp op t x y t' => simp only [stp, hx x (by simp), hx y (by simp)]
  case unOp op t x => simp only [stp, hx x (by simp)]
  case convert s d x => simp only [stp, hx x (by simp)]
  case extract x i => simp only [stp, hx x (by simp)]
  case index t x i => simp only [stp, hx x (by simp), hx i (by simp)]
  case fieldAddr s x f => simp only [stp, hx x (by simp)]
  case field s x f => simp only [stp, hx x (by simp)]
  case indexAddr t x i => simp only [stp, hx x (by simp), hx i (by simp)]
  case load t x => simp only [stp, hx x (by simp)]
  case nilCheck x => simp only [stp, hx x (by simp)]
  case makeFunc fn first captured =>
    have := concAll_congr (T := T) (T' := T') (l := captured.toList) fun x hxx => hx x (by simp at hxx; simp [hxx])
    simp only [stp, this]
  case slice t x lo hi mx =>
    cases mx with
    | some m => rfl
    | none =>
      have e1 := hx x (by simp)
      have e2 : ∀ d, bnd T d lo = bnd T' d lo := fun d => bnd_congr fun y hy => hx y (by simp [hy])
      have e3 : ∀ d, bnd T d hi = bnd T' d hi := fun d => bnd_congr fun y hy => hx y (by simp [hy])
      simp only [stp, e1, e2, e3]
  case call c =>
    obtain ⟨callee, args, tys⟩ := c
    simp only [Call.operands] at hx
    cases callee with
    | builtin b =>
      have ha : args.toList.map (ev T) = args.toList.map (ev T') := args_congr fun x hxx => hx x (by simp at hxx ⊢; exact hxx)
      cases b <;> try rfl
      · simp only [stp]
        split
        · rename_i x t hax hty
          have : ev T x = ev T' x := hx x (by
            have : x ∈ args.toList := by rw [hax]; simp
            simp at this ⊢; exact this)
          rw [this]
        · rfl
      · simp only [stp, ha]
      · simp only [stp, ha]
    | value f => cases f <;> rfl
    | invoke r m => rfl
  all_goals rfl
end
end Go.Proofs.YtmalhikcdideoaaGreatDoor.Sl
