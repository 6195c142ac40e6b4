/- The semantic layer, fifteenth part: whatever order is drawn, a region that writes does what it does in the text's order. -/
import Derived.Test.YtmalhikcdideoaaGreatDoorSlN
set_option linter.unusedVariables false
set_option linter.unusedSimpArgs false
namespace Go.Proofs.YtmalhikcdideoaaGreatDoor.Sl
open Go Go.RowKit

section
variable {P : Program} {N : Nat} {ops : List Oper}

theorem look_op {o : Oper} {x : Operand} {t : Tmp} (hx : x ∈ o.op.operands) (e : x = .tmp t) : t ∈ o.looksAt ops.toArray := by
  subst e
  exact List.mem_append_left _ (List.mem_filterMap.2 ⟨.tmp t, by simpa using hx, rfl⟩)
theorem gvA_put {o : Oper} {T : Nat → AV} {d : Option Tmp} {v : AV} {j : Nat} {want : Bool} (hg : o.guard = some (j, want)) (hl : ∀ t ∈ o.looksAt ops.toArray, d ≠ some t) : gvA ops (putD T d v) j want = gvA ops T j want := by
  unfold gvA
  cases hdj : (ops[j]?).bind (·.dst) with
  | none => rfl
  | some e =>
    simp only
    have : putD T d v e = T e := by
      cases d with
      | none => rfl
      | some d => exact upd_ne _ _ (fun h => hl e (List.mem_append_right _ (by rw [hg]; simp only; have : ops.toArray[j]? = ops[j]? := by simp
                                                                               rw [this, hdj]; simp)) (by rw [h]))
    rw [this]
theorem ev_look {o : Oper} {T : Nat → AV} {d : Option Tmp} {v : AV} (hl : ∀ t ∈ o.looksAt ops.toArray, d ≠ some t) : ∀ x ∈ o.op.operands, ev (putD T d v) x = ev T x :=
  fun x hx => ev_put fun t e => hl t (look_op hx e)
theorem CF_put {hF : Hp} {o : Oper} {T : Nat → AV} {d : Option Tmp} {v u : AV} (hl : ∀ t ∈ o.looksAt ops.toArray, d ≠ some t) : CF P hF ops o (putD T d v) u ↔ CF P hF ops o T u := by
  unfold CF
  split
  · rw [stp_congr (ev_look hl)]
  · rename_i j want hg
    rw [gvA_put hg hl, stp_congr (ev_look hl)]
theorem CRo_put {o : Oper} {T : Nat → AV} {h : Hp} {d : Option Tmp} {v u : AV} (hl : ∀ t ∈ o.looksAt ops.toArray, d ≠ some t) : CRo P h o (putD T d v) u ↔ CRo P h o T u := by
  have hev := ev_look (T := T) (v := v) hl
  unfold CRo
  rw [stp_congr hev]
  have e2 : ∀ f args tys, o.op = .call ⟨.value (.func f), args, tys⟩ → args.toList.map (ev (putD T d v)) = args.toList.map (ev T) := fun f args tys ho =>
    args_congr fun y hy => hev y (by rw [ho]; simp [Op.operands, Call.operands]; simp at hy; exact .inr hy)
  have e3 : ∀ t len parts s, o.op = .buildSlice t len parts → partsA (putD T d v) s 0 parts.toList = partsA T s 0 parts.toList := fun t len parts s ho =>
    partsA_congr fun p hp => hev p.2 (by rw [ho]; simp [Op.operands]; exact ⟨p.1, by simpa using hp⟩)
  have e4 : ∀ t parts pl m F, o.op = .build t parts → buildA pl (putD T d v) m F parts.toList = buildA pl T m F parts.toList := fun t parts pl m F ho =>
    buildA_congr fun p hp => hev p.2 (by rw [ho]; simp [Op.operands]; exact ⟨p.1, by simpa using hp⟩)
  have e5 : ∀ x args tys, o.op = .call ⟨.value (.tmp x), args, tys⟩ → putD T d v x = T x := fun x args tys ho => hev (.tmp x) (by rw [ho]; simp [Op.operands, Call.operands])
  have e6 : ∀ x args tys, o.op = .call ⟨.value (.tmp x), args, tys⟩ → args.toList.map (ev (putD T d v)) = args.toList.map (ev T) := fun x args tys ho =>
    args_congr fun y hy => hev y (by rw [ho]; simp [Op.operands, Call.operands]; simp at hy; exact .inr hy)
  constructor
  · rintro (h1 | ⟨f, args, tys, h1, h3⟩ | ⟨t, len, parts, e, s, z, l, h1, h2, h3, h4, h5⟩ | ⟨t, parts, pl, m, z, F, h1, h2, h3, h4, h5⟩ | ⟨x, f, args, tys, caps, h1, h2, h3, h4⟩)
    · exact .inl h1
    · exact .inr (.inl ⟨f, args, tys, h1, by rw [← e2 f args tys h1]; exact h3⟩)
    · exact .inr (.inr (.inl ⟨t, len, parts, e, s, z, l, h1, h2, h3, by rw [← e3 _ _ _ _ h1]; exact h4, h5⟩))
    · exact .inr (.inr (.inr (.inl ⟨t, parts, pl, m, z, F, h1, h2, h3, by rw [← e4 _ _ _ _ _ h1]; exact h4, h5⟩)))
    · exact .inr (.inr (.inr (.inr ⟨x, f, args, tys, caps, h1, by rw [← e5 x args tys h1]; exact h2, h3, by rw [← e6 x args tys h1]; exact h4⟩)))
  · rintro (h1 | ⟨f, args, tys, h1, h3⟩ | ⟨t, len, parts, e, s, z, l, h1, h2, h3, h4, h5⟩ | ⟨t, parts, pl, m, z, F, h1, h2, h3, h4, h5⟩ | ⟨x, f, args, tys, caps, h1, h2, h3, h4⟩)
    · exact .inl h1
    · exact .inr (.inl ⟨f, args, tys, h1, by rw [e2 f args tys h1]; exact h3⟩)
    · exact .inr (.inr (.inl ⟨t, len, parts, e, s, z, l, h1, h2, h3, by rw [e3 _ _ _ _ h1]; exact h4, h5⟩))
    · exact .inr (.inr (.inr (.inl ⟨t, parts, pl, m, z, F, h1, h2, h3, by rw [e4 _ _ _ _ _ h1]; exact h4, h5⟩)))
    · exact .inr (.inr (.inr (.inr ⟨x, f, args, tys, caps, h1, by rw [e5 x args tys h1]; exact h2, h3, by rw [e6 x args tys h1]; exact h4⟩)))
theorem CR_put {o : Oper} {T : Nat → AV} {h : Hp} {d : Option Tmp} {v u : AV} (hl : ∀ t ∈ o.looksAt ops.toArray, d ≠ some t) : CR P h ops o (putD T d v) u ↔ CR P h ops o T u := by
  unfold CR
  split
  · exact CRo_put hl
  · rename_i j want hg
    rw [gvA_put hg hl]
    simp only [CRo_put (P := P) (T := T) (h := h) (v := v) (u := u) hl]
theorem CF_CR {hF : Hp} {o : Oper} {T : Nat → AV} {h : Hp} {v : AV} (sb : Sub hF h) (hc : CF P hF ops o T v) : CR P h ops o T v := by
  unfold CF at hc
  unfold CR
  split
  · rename_i hg; rw [hg] at hc; exact .inl (stp_sub sb hc)
  · rename_i j want hg
    rw [hg] at hc
    obtain ⟨b, h1, h2⟩ := hc
    exact ⟨b, h1, h2.imp (fun ⟨x, y⟩ => ⟨x, .inl (stp_sub sb y)⟩) id⟩
theorem CF_one {hF : Hp} {o : Oper} {T : Nat → AV} {v u : AV} (h1 : CF P hF ops o T v) (h2 : CF P hF ops o T u) : v = u := by
  unfold CF at h1 h2
  split at h1
  · rename_i hg
    rw [hg] at h2
    exact Option.some.inj (h1.symm.trans h2)
  · rename_i j want hg
    rw [hg] at h2
    obtain ⟨b, h3, h4⟩ := h1
    obtain ⟨b', h5, h6⟩ := h2
    have : b = b' := Option.some.inj (h3.symm.trans h5)
    subst this
    rcases h4 with ⟨e1, e2⟩ | ⟨e1, e2⟩ <;> rcases h6 with ⟨e3, e4⟩ | ⟨e3, e4⟩
    · exact Option.some.inj (e2.symm.trans e4)
    · exact absurd e1 e3
    · exact absurd e3 e1
    · rw [e2, e4]

theorem XGd_frame {o : Oper} {T : Nat → AV} {h : Hp} {K : (Nat → AV) → Hp → Prop} {d : Option Tmp} {v : AV} (hl : ∀ t ∈ o.looksAt ops.toArray, d ≠ some t) (hd : ∀ t, d = some t → o.dst ≠ some t) :
    XGd P N ops o (putD T d v) h K ↔ XGd P N ops o T h fun T1 h1 => (∃ x, T1 = putD T o.dst x) ∧ K (putD T1 d v) h1 := by
  have hx := XL_frame (P := P) (N := N) (o := o) (T := T) (h := h) (K := K) (d := d) (v := v) (fun x hx t e => hl t (look_op hx e)) hd
  unfold XGd
  split
  · exact hx
  · rename_i j want hg
    rw [gvA_put hg hl]
    split
    · rw [hx, put_comm hd]
      exact ⟨fun ⟨a, b⟩ => ⟨a, fun e => ⟨(b e).1, ⟨_, rfl⟩, (b e).2⟩⟩, fun ⟨a, b⟩ => ⟨a, fun e => ⟨(b e).1, (b e).2.2⟩⟩⟩
    · exact Iff.rfl
theorem XGd_mono {o : Oper} {T : Nat → AV} {h : Hp} {K K' : (Nat → AV) → Hp → Prop} (hk : ∀ T' h', K T' h' → K' T' h') (hx : XGd P N ops o T h K) : XGd P N ops o T h K' := by
  unfold XGd at hx ⊢
  split
  · rename_i hg; rw [hg] at hx; exact XL_mono hk hx
  · rename_i j want hg
    rw [hg] at hx
    simp only at hx
    split
    · rename_i b hb
      rw [hb] at hx
      exact ⟨fun e => XL_mono hk (hx.1 e), fun e => ⟨(hx.2 e).1, hk _ _ (hx.2 e).2⟩⟩
    · rename_i hb; rw [hb] at hx; exact hx
theorem XGd_some {o : Oper} {T : Nat → AV} {h : Hp} {K : (Nat → AV) → Hp → Prop} (hl : light o.op = true) (hf : Fin h) (hx : XGd P N ops o T h K) : (∃ T' h', K T' h') ∧ XGd P N ops o T h fun T' h' => Fin h' ∧ K T' h' := by
  unfold XGd at hx ⊢
  split
  · rename_i hg; rw [hg] at hx; exact XL_some hl hf hx
  · rename_i j want hg
    rw [hg] at hx
    simp only at hx
    split
    · rename_i b hb
      rw [hb] at hx
      by_cases hbw : b = want
      · obtain ⟨h1, h2⟩ := XL_some hl hf (hx.1 hbw)
        exact ⟨h1, fun _ => h2, fun e => absurd hbw e⟩
      · obtain ⟨h1, h2⟩ := hx.2 hbw
        exact ⟨⟨_, _, h2⟩, fun e => absurd e hbw, fun _ => ⟨h1, hf, h2⟩⟩
    · rename_i hb; rw [hb] at hx; exact hx.elim
theorem XE_mono {hF : Hp} {c : Cl} {o : Oper} {T : Nat → AV} {h : Hp} {K K' : (Nat → AV) → Hp → Prop} (hk : ∀ T' h', K T' h' → K' T' h') (hx : XE P N hF ops c o T h K) : XE P N hF ops c o T h K' := by
  cases c with
  | f => obtain ⟨v, h1, h2, h3⟩ := hx; exact ⟨v, h1, h2, hk _ _ h3⟩
  | g => obtain ⟨v, h1, h2, h3⟩ := hx; exact ⟨v, h1, h2, hk _ _ h3⟩
  | r => obtain ⟨v, h1, h2, h3⟩ := hx; exact ⟨v, h1, h2, hk _ _ h3⟩
  | w => exact XGd_mono (fun T' h' ⟨a, b⟩ => ⟨a, hk _ _ b⟩) hx
  | s => exact XGd_mono hk hx
theorem XE_fin {hF : Hp} {c : Cl} {o : Oper} {T : Nat → AV} {h : Hp} {K : (Nat → AV) → Hp → Prop} (hl : c = .w ∨ c = .s → light o.op = true) (hf : Fin h) (hx : XE P N hF ops c o T h K) : XE P N hF ops c o T h fun T' h' => Fin h' ∧ K T' h' := by
  cases c with
  | f => obtain ⟨v, h1, h2, h3⟩ := hx; exact ⟨v, h1, h2, hf, h3⟩
  | g => obtain ⟨v, h1, h2, h3⟩ := hx; exact ⟨v, h1, h2, hf, h3⟩
  | r => obtain ⟨v, h1, h2, h3⟩ := hx; exact ⟨v, h1, h2, hf, h3⟩
  | w => exact XGd_mono (fun T' h' ⟨a, b, c⟩ => ⟨b, a, c⟩) (XGd_some (hl (.inl rfl)) hf hx).2
  | s => exact (XGd_some (hl (.inr rfl)) hf hx).2

/-- Apart: neither looks at or writes what the other writes. -/
structure Apart (ops : List Oper) (oi oj : Oper) : Prop where
  l : ∀ t ∈ oi.looksAt ops.toArray, oj.dst ≠ some t
  r : ∀ t ∈ oj.looksAt ops.toArray, oi.dst ≠ some t
  d : ∀ t, oi.dst = some t → oj.dst ≠ some t
theorem Apart.e {oi oj : Oper} (a : Apart ops oi oj) : ∀ t, oj.dst = some t → oi.dst ≠ some t := fun t h h' => a.d t h' h
theorem XE_swap {hF : Hp} {ci cj : Cl} {oi oj : Oper} {T : Nat → AV} {h : Hp} {K : (Nat → AV) → Hp → Prop} (ap : Apart ops oi oj) (hp : okPair ci oi cj = true) (hf : Fin h)
    (hx : XE P N hF ops ci oi T h fun T1 h1 => XE P N hF ops cj oj T1 h1 K) : XE P N hF ops cj oj T h fun T1 h1 => XE P N hF ops ci oi T1 h1 K := by
  cases ci with
  | f =>
    obtain ⟨v, h1, h2, h3⟩ := hx
    cases cj with
    | f => obtain ⟨u, h4, h5, h6⟩ := h3; exact ⟨u, h4, (CF_put ap.r).1 h5, v, h1, (CF_put ap.l).2 h2, by rw [put_comm ap.e]; exact h6⟩
    | g => obtain ⟨u, h4, h5, h6⟩ := h3; exact ⟨u, h4, (CF_put ap.r).1 h5, v, h1, (CF_put ap.l).2 h2, by rw [put_comm ap.e]; exact h6⟩
    | r => obtain ⟨u, h4, h5, h6⟩ := h3; exact ⟨u, h4, (CR_put ap.r).1 h5, v, h1, (CF_put ap.l).2 h2, by rw [put_comm ap.e]; exact h6⟩
    | w =>
      refine XGd_mono ?_ ((XGd_frame ap.r ap.d).1 h3)
      rintro T1 h1' ⟨⟨x, rfl⟩, hs, hk⟩
      exact ⟨hs, v, h1, (CF_put ap.l).2 h2, hk⟩
    | s =>
      refine XGd_mono ?_ ((XGd_frame ap.r ap.d).1 h3)
      rintro T1 h1' ⟨⟨x, rfl⟩, hk⟩
      exact ⟨v, h1, (CF_put ap.l).2 h2, hk⟩
  | g =>
    obtain ⟨v, h1, h2, h3⟩ := hx
    cases cj with
    | f => obtain ⟨u, h4, h5, h6⟩ := h3; exact ⟨u, h4, (CF_put ap.r).1 h5, v, h1, (CF_put ap.l).2 h2, by rw [put_comm ap.e]; exact h6⟩
    | g => obtain ⟨u, h4, h5, h6⟩ := h3; exact ⟨u, h4, (CF_put ap.r).1 h5, v, h1, (CF_put ap.l).2 h2, by rw [put_comm ap.e]; exact h6⟩
    | r => obtain ⟨u, h4, h5, h6⟩ := h3; exact ⟨u, h4, (CR_put ap.r).1 h5, v, h1, (CF_put ap.l).2 h2, by rw [put_comm ap.e]; exact h6⟩
    | w =>
      refine XGd_mono ?_ ((XGd_frame ap.r ap.d).1 h3)
      rintro T1 h1' ⟨⟨x, rfl⟩, hs, hk⟩
      exact ⟨hs, v, h1, (CF_put ap.l).2 h2, hk⟩
    | s => cases hp
  | r =>
    obtain ⟨v, h1, h2, h3⟩ := hx
    cases cj with
    | f => obtain ⟨u, h4, h5, h6⟩ := h3; exact ⟨u, h4, (CF_put ap.r).1 h5, v, h1, (CR_put ap.l).2 h2, by rw [put_comm ap.e]; exact h6⟩
    | g => obtain ⟨u, h4, h5, h6⟩ := h3; exact ⟨u, h4, (CF_put ap.r).1 h5, v, h1, (CR_put ap.l).2 h2, by rw [put_comm ap.e]; exact h6⟩
    | r => obtain ⟨u, h4, h5, h6⟩ := h3; exact ⟨u, h4, (CR_put ap.r).1 h5, v, h1, (CR_put ap.l).2 h2, by rw [put_comm ap.e]; exact h6⟩
    | w => cases hp
    | s => cases hp
  | w =>
    cases cj with
    | f =>
      have hx' : XGd P N ops oi T h fun T1 h1 => (∃ x, T1 = putD T oi.dst x) ∧ wQ hF h (fun T1 h1 => XE P N hF ops .f oj T1 h1 K) T1 h1 :=
        (XGd_frame (d := none) (v := .any) (T := T) (fun t _ => by simp) (fun t e => by cases e)).1 hx
      obtain ⟨⟨T1, h1, ⟨x, rfl⟩, _, v, h2, h3, _⟩, _⟩ := XGd_some hp hf hx'
      have h3 := (CF_put ap.r).1 h3
      refine ⟨v, h2, h3, (XGd_frame ap.l ap.e).2 (XGd_mono ?_ hx')⟩
      rintro T1 h1 ⟨⟨x, rfl⟩, hs, u, h4, h5, h6⟩
      have := CF_one h3 ((CF_put ap.r).1 h5)
      subst this
      exact ⟨⟨x, rfl⟩, hs, h6⟩
    | g =>
      have hx' : XGd P N ops oi T h fun T1 h1 => (∃ x, T1 = putD T oi.dst x) ∧ wQ hF h (fun T1 h1 => XE P N hF ops .g oj T1 h1 K) T1 h1 :=
        (XGd_frame (d := none) (v := .any) (T := T) (fun t _ => by simp) (fun t e => by cases e)).1 hx
      obtain ⟨⟨T1, h1, ⟨x, rfl⟩, _, v, h2, h3, _⟩, _⟩ := XGd_some hp hf hx'
      have h3 := (CF_put ap.r).1 h3
      refine ⟨v, h2, h3, (XGd_frame ap.l ap.e).2 (XGd_mono ?_ hx')⟩
      rintro T1 h1 ⟨⟨x, rfl⟩, hs, u, h4, h5, h6⟩
      have := CF_one h3 ((CF_put ap.r).1 h5)
      subst this
      exact ⟨⟨x, rfl⟩, hs, h6⟩
    | r => cases hp
    | w => cases hp
    | s => cases hp
  | s =>
    cases cj with
    | f =>
      have hx' : XGd P N ops oi T h fun T1 h1 => (∃ x, T1 = putD T oi.dst x) ∧ XE P N hF ops .f oj T1 h1 K :=
        (XGd_frame (d := none) (v := .any) (T := T) (fun t _ => by simp) (fun t e => by cases e)).1 hx
      obtain ⟨⟨T1, h1, ⟨x, rfl⟩, v, h2, h3, _⟩, _⟩ := XGd_some hp hf hx'
      have h3 := (CF_put ap.r).1 h3
      refine ⟨v, h2, h3, (XGd_frame ap.l ap.e).2 (XGd_mono ?_ hx')⟩
      rintro T1 h1 ⟨⟨x, rfl⟩, u, h4, h5, h6⟩
      have := CF_one h3 ((CF_put ap.r).1 h5)
      subst this
      exact ⟨⟨x, rfl⟩, h6⟩
    | g => cases hp
    | r => cases hp
    | w => cases hp
    | s => cases hp

/-- By their numbers. -/
def XEi (P : Program) (N : Nat) (hF : Hp) (ops : List Oper) (fm gm wm : List Nat) : List Nat → (Nat → AV) → Hp → ((Nat → AV) → Hp → Prop) → Prop
  | [], T, h, K => K T h
  | i :: rest, T, h, K => match ops[i]? with
    | some o => XE P N hF ops (clsOf fm gm wm i o) o T h fun T' h' => XEi P N hF ops fm gm wm rest T' h' K
    | none => False
theorem XEi_pull {hF : Hp} {fm gm wm : List Nat} {i : Nat} {o : Oper} (ho : ops[i]? = some o) {K : (Nat → AV) → Hp → Prop} : ∀ (l1 l2 : List Nat), (∀ j ∈ l1, ∀ oj, ops[j]? = some oj → Apart ops oj o ∧ okPair (clsOf fm gm wm j oj) oj (clsOf fm gm wm i o) = true) →
    ∀ {T : Nat → AV} {h : Hp}, Fin h → XEi P N hF ops fm gm wm (l1 ++ i :: l2) T h K → XE P N hF ops (clsOf fm gm wm i o) o T h fun T' h' => XEi P N hF ops fm gm wm (l1 ++ l2) T' h' K := by
  intro l1
  induction l1 with
  | nil =>
    intro l2 _ T h _ hx
    simp only [List.nil_append, XEi, ho] at hx
    exact hx
  | cons j l1 ih =>
    intro l2 hj T h hf hx
    simp only [List.cons_append, XEi] at hx ⊢
    cases hoj : ops[j]? with
    | none => rw [hoj] at hx; exact hx.elim
    | some oj =>
      rw [hoj] at hx
      simp only at hx ⊢
      obtain ⟨ap, hp⟩ := hj j (List.mem_cons_self ..) oj hoj
      have hl : clsOf fm gm wm j oj = .w ∨ clsOf fm gm wm j oj = .s → light oj.op = true := fun e => by
        rcases e with e | e <;> (rw [e] at hp; cases hc : clsOf fm gm wm i o <;> rw [hc] at hp <;> first | exact hp | cases hp)
      refine XE_swap ap hp hf (XE_mono ?_ (XE_fin hl hf hx))
      rintro T1 h1 ⟨hf1, hx1⟩
      exact ih l2 (fun k hk => hj k (List.mem_cons_of_mem _ hk)) hf1 hx1

theorem XE_step {hF : Hp} {w0 : World} {h0 : Hp} {c : Cl} {T : Nat → AV} {h : Hp} {a : Act} {w : World} {o : Oper} {i : Nat} (ho : ops[i]? = some o) {K' : (Nat → AV) → Hp → Prop} (hx : XE P N hF ops c o T h K') (hsub : c = .g → Sub hF h)
    (r : Rel w0 h0 N T h a w) {K : Act → World → Prop} {Q : Exit → Act → World → Prop} (hn : ∀ T' h' a' w', (c ≠ .s → Sub hF h → Sub hF h') → K' T' h' → Rel w0 h0 N T' h' a' w' → K a' w') : wpOp P ops.toArray Q i K a w := by
  have go : ∀ K'' : (Nat → AV) → Hp → Prop, (∀ T' h' a' w', K'' T' h' → Rel w0 h0 N T' h' a' w' → K a' w') → XGd P N ops o T h K'' → wpOp P ops.toArray Q i K a w := by
    intro K'' hn hx
    have hoa : ops.toArray[i]? = some o := by simpa using ho
    have on : XL P N o T h K'' → o.wp P a w K Q := fun hx => by
      unfold XL at hx
      split at hx
      · exact XW_sound hx r hn
      · exact XW_sound hx r hn
      · exact XW_sound hx r hn
      · exact XW_sound hx r hn
      · exact XW_sound hx r hn
      · exact hx.elim
    unfold wpOp
    rw [hoa]
    simp only
    unfold XGd at hx
    split at hx
    · rename_i hg
      rw [if_pos (by simp [Region.wanted, hg])]
      exact .inl (on hx)
    · rename_i j want hg
      split at hx
      · rename_i b hb
        have hy := gvA_yielded r (ops := ops.toArray) (by simpa using hb)
        by_cases hbw : b = want
        · rw [if_pos (by simp [Region.wanted, hg, hy.1 hbw])]
          exact .inl (on (hx.1 hbw))
        · obtain ⟨hd, hk⟩ := hx.2 hbw
          rw [if_neg (by simp [Region.wanted, hg, hy.2 hbw])]
          exact hn _ _ _ _ hk (r.put_same hd (x := un) (u := undef) rfl)
      · exact hx.elim
  cases c with
  | f => obtain ⟨v, h1, h2, h3⟩ := hx; exact CR_step ho h1 (CF_CR (sub_none h) h2) (fun t _ => rfl) r fun a' w' hr => hn _ _ _ _ (fun _ x => x) h3 hr
  | g => obtain ⟨v, h1, h2, h3⟩ := hx; exact CR_step ho h1 (CF_CR (hsub rfl) h2) (fun t _ => rfl) r fun a' w' hr => hn _ _ _ _ (fun _ x => x) h3 hr
  | r => obtain ⟨v, h1, h2, h3⟩ := hx; exact CR_step ho h1 h2 (fun t _ => rfl) r fun a' w' hr => hn _ _ _ _ (fun _ x => x) h3 hr
  | w => exact go (wQ hF h K') (fun T' h' a' w' ⟨hs, hk⟩ hr => hn _ _ _ _ (fun _ => hs) hk hr) hx
  | s => exact go K' (fun T' h' a' w' hk hr => hn _ _ _ _ (fun e => absurd rfl e) hk hr) hx
end
end Go.Proofs.YtmalhikcdideoaaGreatDoor.Sl
