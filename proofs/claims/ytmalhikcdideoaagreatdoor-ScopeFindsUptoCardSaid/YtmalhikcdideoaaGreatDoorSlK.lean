/- The semantic layer, eleventh part: whatever order is drawn, such a region does what it does in the text's order. -/
import Derived.Test.YtmalhikcdideoaaGreatDoorSlJ
set_option linter.unusedVariables false
set_option linter.unusedSimpArgs false
namespace Go.Proofs.YtmalhikcdideoaaGreatDoor.Sl
open Go Go.RowKit

/-- Is i, by the edges, before d. -/
def ancB (ops : List Oper) : Nat → Nat → Nat → Bool
  | 0, _, _ => false
  | k + 1, d, i => match ops[d]? with
    | some o => o.after.toList.any fun e => Region.binds .any e && (e.on == i || ancB ops k e.on i)
    | none => false
def okFwd (ops : List Oper) : Bool := (List.range ops.length).all fun i => match ops[i]? with
  | some o => o.after.toList.all fun e => !Region.binds .any e || decide (e.on < i)
  | none => true
def okTmp (ops : List Oper) : Bool := (List.range ops.length).all fun i => match ops[i]? with
  | some oi => (List.range ops.length).all fun j => i == j || match ops[j]? with
    | some oj => match oj.dst with
      | some t => !((oi.looksAt ops.toArray).contains t || oi.dst == some t) || (if j < i then ancB ops ops.length i j else ancB ops ops.length j i)
      | none => true
    | none => true
  | none => true
def okD (ops : List Oper) : Bool := okFwd ops && okTmp ops

theorem gd_both {listed : Array Bool} {i : Nat} (h : listed.getD i true = false) : listed.getD i false = false := by
  rcases Nat.lt_or_ge i listed.size with h' | h'
  · simp [h'] at h ⊢; exact h
  · simp [Array.getElem?_eq_none h'] at h
theorem gd_in {listed : Array Bool} {i : Nat} (hi : i < listed.size) (h : listed.getD i false = false) : listed.getD i true = false := by
  simp [hi] at h ⊢; exact h

section
variable {P : Program} {N : Nat} {T : Nat → AV} {h : Hp} {ops : List Oper} {v : Nat → AV} {L : Nat → Bool}

theorem Tx_at {i t : Nat} : ∀ j, i ≤ j → (∀ k, i ≤ k → k < j → (ops[k]?).bind (·.dst) ≠ some t) → Tx T ops v j t = Tx T ops v i t := by
  intro j
  induction j with
  | zero => intro h _; have : i = 0 := by omega
            subst this; rfl
  | succ j ih =>
    intro hij hk
    by_cases he : i = j + 1
    · subst he; rfl
    · have := ih (by omega) (fun k h1 h2 => hk k h1 (by omega))
      rw [← this]
      have hd := hk j (by omega) (by omega)
      show putD (Tx T ops v j) ((ops[j]?).bind (·.dst)) (v j) t = _
      cases hdd : (ops[j]?).bind (·.dst) with
      | none => rfl
      | some d => rw [hdd] at hd; exact upd_ne _ _ (fun e => hd (by rw [e]))
/-- What a slot holds behind the listed ones is what it holds in the text before i. -/
theorem Ov_look {i t : Nat} : ∀ j, (∀ k, k < j → k ≠ i → (ops[k]?).bind (·.dst) = some t → (k < i → L k = true) ∧ (i < k → L k = false)) → L i = false → Ov T ops v L j t = Tx T ops v (min i j) t := by
  intro j
  induction j with
  | zero => intro _ _; simp [Ov, Tx]
  | succ j ih =>
    intro hk hi
    have hih := ih (fun k h1 h2 h3 => hk k (by omega) h2 h3) hi
    by_cases hji : j < i
    · have e1 : min i (j + 1) = j + 1 := by omega
      have e2 : min i j = j := by omega
      rw [e1]; rw [e2] at hih
      unfold Ov
      by_cases hd : (ops[j]?).bind (·.dst) = some t
      · rw [(hk j (by omega) (by omega) hd).1 hji, if_pos rfl]
        show _ = putD (Tx T ops v j) ((ops[j]?).bind (·.dst)) (v j) t
        rw [hd]
        exact (upd_same _ _ _).trans (upd_same _ _ _).symm
      · have hne : ∀ k, j ≤ k → k < j + 1 → (ops[k]?).bind (·.dst) ≠ some t := fun k h1 h2 => by
          have hkj : k = j := by omega
          rw [hkj]; exact hd
        have e3 : Tx T ops v (j + 1) t = Tx T ops v j t := Tx_at (j + 1) (by omega) hne
        rw [e3, ← hih]
        split
        · cases hdd : (ops[j]?).bind (·.dst) with
          | none => rfl
          | some d => rw [hdd] at hd; exact upd_ne _ _ (fun e => hd (by rw [e]))
        · rfl
    · have e1 : min i (j + 1) = i := by omega
      have e2 : min i j = i := by omega
      rw [e1]; rw [e2] at hih
      unfold Ov
      by_cases hjeq : j = i
      · subst hjeq; rw [hi]; simpa using hih
      · split
        · rename_i hL
          cases hdd : (ops[j]?).bind (·.dst) with
          | none => exact hih
          | some d =>
            by_cases hdt : d = t
            · subst hdt
              have := (hk j (by omega) hjeq hdd).2 (by omega)
              rw [hL] at this; cases this
            · exact (upd_ne _ _ (fun e => hdt e.symm)).trans hih
        · exact hih
theorem Ov_put {i : Nat} {o : Oper} (ho : ops[i]? = some o) (hi : L i = false) (hk : ∀ k d, i < k → o.dst = some d → (ops[k]?).bind (·.dst) = some d → L k = false) :
    ∀ j, i < j → Ov T ops v (upd L i true) j = putD (Ov T ops v L j) o.dst (v i) := by
  have before : ∀ j, j ≤ i → Ov T ops v (upd L i true) j = Ov T ops v L j := by
    intro j
    induction j with
    | zero => intro _; rfl
    | succ j ih =>
      intro hj
      unfold Ov
      rw [ih (by omega), upd_ne _ _ (by omega)]
  intro j
  induction j with
  | zero => intro h; omega
  | succ j ih =>
    intro hij
    by_cases he : i = j
    · subst he
      unfold Ov
      rw [upd_same, if_pos rfl, before i (Nat.le_refl _), hi, ho]
      rfl
    · unfold Ov
      rw [ih (by omega), upd_ne _ _ (by omega)]
      split
      · rename_i hL
        cases hdd : (ops[j]?).bind (·.dst) with
        | none => rfl
        | some d =>
          cases hod : o.dst with
          | none => rfl
          | some e =>
            have hne : e ≠ d := fun hed => by
              subst hed
              have := hk j e (by omega) hod hdd
              rw [hL] at this; cases this
            funext x
            simp only [putD, upd]
            by_cases h1 : x = d
            · have h2 : ¬ x = e := fun h => hne (h.symm.trans h1)
              simp [h1, Ne.symm hne]
            · simp [h1]
      · rfl
theorem Ov_all : ∀ j, (∀ k, k < j → L k = true) → Ov T ops v L j = Tx T ops v j := by
  intro j
  induction j with
  | zero => intro _; rfl
  | succ j ih =>
    intro hk
    unfold Ov
    rw [hk j (by omega), if_pos rfl, ih fun k h => hk k (by omega)]
    rfl
theorem Ov_none : ∀ j, (∀ k, L k = false) → Ov T ops v L j = T := by
  intro j
  induction j with
  | zero => intro _; rfl
  | succ j ih => intro hk; unfold Ov; rw [hk j, ih hk]; rfl

theorem anc_listed (hcl : ∀ d o, ops[d]? = some o → L d = true → ∀ e ∈ o.after, Region.binds .any e = true → L e.on = true) : ∀ k d i, L d = true → ancB ops k d i = true → L i = true := by
  intro k
  induction k with
  | zero => intro d i _ h; simp [ancB] at h
  | succ k ih =>
    intro d i hd h
    unfold ancB at h
    split at h
    · rename_i o ho
      obtain ⟨e, he, hb⟩ := List.any_eq_true.1 h
      simp only [Bool.and_eq_true, Bool.or_eq_true, beq_iff_eq] at hb
      have hl := hcl d o ho hd e (by simpa using he) hb.1
      rcases hb.2 with h1 | h1
      · rw [← h1]; exact hl
      · exact ih _ _ hl h1
    · cases h

/-- The step, wherever the slots that it looks at hold what they hold in the text. -/
theorem CR_step {w0 : World} {h0 : Hp} {Tn : Nat → AV} {a : Act} {w : World} {o : Oper} {i : Nat} {x : AV} (ho : ops[i]? = some o) (hd : dOk N o.dst = true) (hc : CR P h ops o T x) (hl : ∀ t ∈ o.looksAt ops.toArray, Tn t = T t)
    (r : Rel w0 h0 N Tn h a w) {K : Act → World → Prop} {Q : Exit → Act → World → Prop} (hn : ∀ a' w', Rel w0 h0 N (putD Tn o.dst x) h a' w' → K a' w') : wpOp P ops.toArray Q i K a w := by
  have hev : ∀ y ∈ o.op.operands, ev T y = ev Tn y := fun y hy => by
    cases y with
    | tmp t =>
      refine (hl t (List.mem_append_left _ (List.mem_filterMap.2 ⟨.tmp t, by simpa using hy, rfl⟩))).symm
    | _ => rfl
  have on : CRo P h o T x → o.wp P a w K Q := by
    rintro (h1 | ⟨f, args, tys, h1, h3⟩ | ⟨t, len, parts, e, s, z, l, h1, h2, h3, h4, h5, h6, h7, rfl⟩ | ⟨t, parts, pl, m, z, F, h1, h2, h3, h4, rfl⟩ | ⟨y, f, args, tys, caps, h1, h2, h3, h4⟩)
    · rw [stp_congr hev] at h1
      obtain ⟨u, hu, hr⟩ := stp_sound r h1
      unfold Oper.wp
      rw [hu]
      exact hn _ _ (r.put_same hd hr)
    · rw [args_congr (T' := Tn) fun y hy => hev y (by rw [h1]; simp [Op.operands, Call.operands]; simp at hy; exact .inr hy)] at h3
      exact callX_sound (K := fun T' h' => T' = putD Tn o.dst x ∧ h' = h) h1 hd (h3.callX ⟨rfl, rfl⟩) r fun T' h' a' w' ⟨e1, e2⟩ hr => by subst e1; subst e2; exact hn _ _ hr
    · rw [partsA_congr (T' := Tn) fun p hp => hev p.2 (by rw [h1]; simp [Op.operands]; exact ⟨p.1, by simpa using hp⟩)] at h4
      have hfin := buildSlice_sound (K := fun T' h' => ∃ b, h b = none ∧ T' = putD Tn o.dst (.row b s 0 len) ∧ h' = upd h b (some ⟨e, s, len, fun i j => (l.getD i (fun _ => .any)) j⟩)) (next := K) (Q := Q) h1 hd h2 h3 h4 h5 h6 h7 (fun b hb => ⟨b, hb, rfl, rfl⟩) r ?_
      · exact hfin
      · rintro T' h' a' w' ⟨b, hb, rfl, rfl⟩ hr
        -- the new row is given up: nobody writes it
        have hfo : ∀ c ob, h c = some ob → upd h b (some ⟨e, s, len, fun i j => (l.getD i (fun _ => .any)) j⟩) c = some ob := fun c ob hc => by
          rw [upd_ne _ _ (fun e => by subst e; rw [hb] at hc; cases hc)]; exact hc
        have st := stp_forget (w := w') hfo
        refine hn _ _ ⟨hr.size, hr.defers, fun q => ?_, relH_forget hr.heap hfo, hr.io, hr.stp.trans st⟩
        have hs := hr.slots q
        cases hdd : o.dst with
        | none => rw [hdd] at hs; exact hs.step st
        | some d =>
          rw [hdd] at hs
          simp only [putD, upd] at hs ⊢
          by_cases hq : q = d
          · simp only [hq, if_true] at hs ⊢
            obtain ⟨cap, hu, hle, hlt, hm, hcap⟩ := hs
            have hob : upd h b (some ⟨e, s, len, fun i j => (l.getD i (fun _ => .any)) j⟩) b = some ⟨e, s, len, fun i j => (l.getD i (fun _ => .any)) j⟩ := upd_same _ _ _
            refine ⟨some ⟨b, 0 * s, none⟩, cap, hu, hle, by have := Nat.le_mul_of_pos_right len (zeroA_run h3).choose_spec.2.2.2.1; omega, fun _ => ⟨b, 0 * s, rfl, hb, hlt, fun i hi j hj => ?_⟩⟩
            obtain ⟨c, hc, hn, hp, hcell⟩ := hr.heap.cells hob (.inl (Nat.lt_of_le_of_lt (Nat.zero_le _) hi))
            obtain ⟨y, hy, hy1, hyr⟩ := hcell i hi j hj
            exact ⟨y, by simp only [World.cell?, hc]; simpa using hy, hy1, hyr.step st⟩
          · simp only [hq, if_false] at hs ⊢
            exact hs.step st
    · rw [buildA_congr (T' := Tn) fun p hp => hev p.2 (by rw [h1]; simp [Op.operands]; exact ⟨p.1, by simpa using hp⟩)] at h4
      exact build_sound (K := fun T' h' => T' = putD Tn o.dst (aggL ((List.range m).map F)) ∧ h' = h) h1 hd h2 h3 h4 ⟨rfl, rfl⟩ r fun T' h' a' w' ⟨e1, e2⟩ hr => by subst e1; subst e2; exact hn _ _ hr
    · rw [args_congr (T' := Tn) fun z hz => hev z (by rw [h1]; simp [Op.operands, Call.operands]; simp at hz; exact .inr hz)] at h4
      have hy : T y = Tn y := hev (.tmp y) (by rw [h1]; simp [Op.operands, Call.operands])
      rw [hy] at h2
      refine XW_sound (K := fun T' h' => T' = putD Tn o.dst x ∧ h' = h) ?_ r fun T' h' a' w' ⟨e1, e2⟩ hr => by subst e1; subst e2; exact hn _ _ hr
      unfold XW
      rw [h1]
      simp only [h2]
      exact ⟨hd, rfl, h3, CallK.mono h4 fun r' h' ⟨e1, e2⟩ => ⟨by rw [e1], e2⟩⟩
  have hoa : ops.toArray[i]? = some o := by simpa using ho
  unfold wpOp
  rw [hoa]
  simp only
  unfold CR at hc
  split at hc
  · rename_i hg
    rw [if_pos (by simp [Region.wanted, hg])]
    exact .inl (on hc)
  · rename_i j want hg
    obtain ⟨b, hb, hc⟩ := hc
    have hb' : gvA ops Tn j want = some b := by
      unfold gvA at hb ⊢
      cases hdj : (ops[j]?).bind (·.dst) with
      | none => rw [hdj] at hb; cases hb
      | some d =>
        rw [hdj] at hb
        simp only at hb ⊢
        rw [hl d (List.mem_append_right _ (by rw [hg]; simp only; have : ops.toArray[j]? = ops[j]? := by simp
                                              rw [this, hdj]; simp))]
        exact hb
    have hy := gvA_yielded r (ops := ops.toArray) (by simpa using hb')
    rcases hc with ⟨hbw, hc⟩ | ⟨hbw, hx⟩
    · rw [if_pos (by simp [Region.wanted, hg, hy.1 hbw])]
      exact .inl (on hc)
    · subst hx
      rw [if_neg (by simp [Region.wanted, hg, hy.2 hbw])]
      exact hn _ _ (r.put_same hd (x := un) (u := undef) rfl)

theorem any_order {w0 : World} {h0 : Hp} (hok : okD ops = true) (hv : ∀ j o, ops[j]? = some o → dOk N o.dst = true ∧ CR P h ops o (Tx T ops v j) (v j)) {Q : Exit → Act → World → Prop}
    (hn : ∀ a' w', Rel w0 h0 N (Tx T ops v ops.length) h a' w' → Q .normal a' w') :
    ∀ (fuel : Nat) (listed : Array Bool) (a : Act) (w : World), listed.size = ops.length → ((List.range ops.length).filter fun k => !listed.getD k true).length ≤ fuel →
      (∀ d o, ops[d]? = some o → listed.getD d false = true → ∀ e ∈ o.after, Region.binds .any e = true → listed.getD e.on false = true) →
      Rel w0 h0 N (Ov T ops v (fun k => listed.getD k false) ops.length) h a w → wpAny P .any ops.toArray Q fuel listed a w := by
  simp only [okD, Bool.and_eq_true] at hok
  obtain ⟨hfwd, htmp⟩ := hok
  have hfw : ∀ i o, ops[i]? = some o → ∀ e ∈ o.after, Region.binds .any e = true → e.on < i := fun i o ho e he hb => by
    have hi : i < ops.length := (List.getElem?_eq_some_iff.1 ho).1
    have h1 := List.all_eq_true.1 hfwd i (List.mem_range.2 hi)
    rw [ho] at h1
    have h2 := List.all_eq_true.1 h1 e (by simpa using he)
    simpa [hb] using h2
  -- all is listed where nothing is ready
  have done : ∀ (listed : Array Bool), listed.size = ops.length → Region.ready .any ops.toArray listed = [] → ∀ k, k < ops.length → listed.getD k false = true := by
    intro listed hsz hr k
    induction k using Nat.strongRecOn with
    | _ k ih =>
      intro hk
      cases hlk : listed.getD k false with
      | true => rfl
      | false =>
        exfalso
        have hmem : k ∈ Region.ready .any ops.toArray listed := by
          rw [mem_ready]
          refine ⟨?_, ops[k], by simp [hk], fun e he hb => ?_⟩
          · exact gd_in (by omega) hlk
          · have := hfw k ops[k] (List.getElem?_eq_getElem hk) e he hb
            exact ih e.on this (by omega)
        rw [hr] at hmem
        cases hmem
  have fin : ∀ (listed : Array Bool) (a : Act) (w : World), listed.size = ops.length → Region.ready .any ops.toArray listed = [] → Rel w0 h0 N (Ov T ops v (fun k => listed.getD k false) ops.length) h a w → Q .normal a w := by
    intro listed a w hsz hr hrel
    rw [Ov_all ops.length (fun k hk => done listed hsz hr k hk)] at hrel
    exact hn a w hrel
  intro fuel
  induction fuel with
  | zero =>
    intro listed a w hsz hcount hcl hrel
    have hr : Region.ready .any ops.toArray listed = [] := by
      apply List.eq_nil_iff_forall_not_mem.2
      intro i hi
      obtain ⟨h1, o, ho, _⟩ := mem_ready.1 hi
      have hlt : i < ops.length := by
        have : ops[i]? = some o := by simpa using ho
        exact (List.getElem?_eq_some_iff.1 this).1
      have hmem : i ∈ (List.range ops.length).filter fun k => !listed.getD k true := List.mem_filter.2 ⟨List.mem_range.2 hlt, by simp only [h1]; rfl⟩
      have : 0 < ((List.range ops.length).filter fun k => !listed.getD k true).length := List.length_pos_of_mem hmem
      omega
    exact ⟨hr, fin listed a w hsz hr hrel⟩
  | succ fuel ih =>
    intro listed a w hsz hcount hcl hrel
    refine ⟨fun hr => fin listed a w hsz hr hrel, fun i hi => ?_⟩
    obtain ⟨hun, o, hoa, hall⟩ := mem_ready.1 hi
    have ho : ops[i]? = some o := by simpa using hoa
    have hlt : i < ops.length := (List.getElem?_eq_some_iff.1 ho).1
    have hun' : listed.getD i false = false := gd_both hun
    -- who writes a slot that i looks at or writes is ordered beside i
    have hord : ∀ j t, j ≠ i → (ops[j]?).bind (·.dst) = some t → (t ∈ o.looksAt ops.toArray ∨ o.dst = some t) → (j < i → listed.getD j false = true) ∧ (i < j → listed.getD j false = false) := by
      intro j t hji hdj ht
      have hj : j < ops.length := by
        cases hoj : ops[j]? with
        | none => rw [hoj] at hdj; cases hdj
        | some oj => exact (List.getElem?_eq_some_iff.1 hoj).1
      have h1 := List.all_eq_true.1 htmp i (List.mem_range.2 hlt)
      rw [ho] at h1
      have h2 := List.all_eq_true.1 h1 j (List.mem_range.2 hj)
      cases hoj : ops[j]? with
      | none => rw [hoj] at hdj; cases hdj
      | some oj =>
        rw [hoj] at hdj h2
        simp only [Option.bind_some] at hdj
        simp only [hdj] at h2
        have hcond : ((o.looksAt ops.toArray).contains t || o.dst == some t) = true := by
          rcases ht with ht | ht
          · simp [ht]
          · simp [ht]
        have hij : (i == j) = false := by simp; exact fun e => hji e.symm
        rw [hcond, hij] at h2
        simp only [Bool.false_or, Bool.not_true] at h2
        refine ⟨fun hlt' => ?_, fun hgt => ?_⟩
        · rw [if_pos hlt'] at h2
          -- j is before i: an edge of i leads to it
          cases hn : ops.length with
          | zero => omega
          | succ n =>
            rw [hn] at h2
            unfold ancB at h2
            rw [ho] at h2
            obtain ⟨e, he, hb⟩ := List.any_eq_true.1 h2
            simp only [Bool.and_eq_true, Bool.or_eq_true, beq_iff_eq] at hb
            have hle := hall e (by simpa using he) hb.1
            rcases hb.2 with h3 | h3
            · rw [← h3]; exact hle
            · exact anc_listed (L := fun k => listed.getD k false) hcl n e.on j hle h3
        · rw [if_neg (by omega)] at h2
          cases hlj : listed.getD j false with
          | false => rfl
          | true =>
            have := anc_listed (L := fun k => listed.getD k false) hcl _ j i hlj h2
            have this' : listed.getD i false = true := this
            rw [hun'] at this'; cases this'
    obtain ⟨hd, hc⟩ := hv i o ho
    refine CR_step ho hd hc (Tn := Ov T ops v (fun k => listed.getD k false) ops.length) (fun t ht => ?_) hrel fun a' w' hr' => ?_
    · have := Ov_look (T := T) (ops := ops) (v := v) (L := fun k => listed.getD k false) (i := i) (t := t) ops.length (fun k _ hki hdk => hord k t hki hdk (.inl ht)) hun'
      rw [this, Nat.min_eq_left (Nat.le_of_lt hlt)]
    · have hset : (fun k => (listed.setIfInBounds i true).getD k false) = upd (fun k => listed.getD k false) i true := by
        funext k
        unfold upd
        by_cases hk : k = i
        · subst hk
          simp [Array.getD_eq_getD_getElem?, Array.getElem?_setIfInBounds_self_of_lt (show k < listed.size by omega)]
        · rw [if_neg hk, getD_set_ne false (fun e => hk e.symm)]
      refine ih _ a' w' (by simp [hsz]) ?_ ?_ ?_
      · have hlen : ((List.range ops.length).filter fun k => !(listed.setIfInBounds i true).getD k true).length < ((List.range ops.length).filter fun k => !listed.getD k true).length := by
          have hsub : ∀ l : List Nat, i ∈ l → l.Nodup → (l.filter fun k => !(listed.setIfInBounds i true).getD k true).length < (l.filter fun k => !listed.getD k true).length := by
            intro l
            induction l with
            | nil => intro h; cases h
            | cons x l ihl =>
              intro hmem hnd
              have hnd' := List.nodup_cons.1 hnd
              by_cases hxi : x = i
              · subst hxi
                have e1 : (!(listed.setIfInBounds x true).getD x true) = false := by
                  simp [Array.getD_eq_getD_getElem?, Array.getElem?_setIfInBounds_self_of_lt (show x < listed.size by omega)]
                have e2 : (!listed.getD x true) = true := by simp only [hun]; rfl
                simp only [List.filter_cons, e1, e2, if_true, Bool.false_eq_true, if_false]
                have e3 : (l.filter fun k => !(listed.setIfInBounds x true).getD k true) = l.filter fun k => !listed.getD k true := by
                  apply List.filter_congr
                  intro y hy
                  have : y ≠ x := fun e => hnd'.1 (e ▸ hy)
                  rw [getD_set_ne true (fun e => this e.symm)]
                rw [e3]; simp
              · have e1 : (!(listed.setIfInBounds i true).getD x true) = !listed.getD x true := by rw [getD_set_ne true (fun e => hxi e.symm)]
                have hrec := ihl (by simpa [Ne.symm hxi] using hmem) hnd'.2
                by_cases hx : (!listed.getD x true) = true
                · simp only [List.filter_cons, e1, hx, if_true, List.length_cons]; omega
                · simp only [List.filter_cons, e1, hx]
                  exact hrec
          exact hsub _ (List.mem_range.2 hlt) List.nodup_range
        omega
      · intro d od hod hld e he hb
        by_cases hdi : d = i
        · subst hdi
          have : od = o := by rw [ho] at hod; exact (Option.some.inj hod).symm
          subst this
          exact getD_set_true (hall e he hb)
        · rw [getD_set_ne false (fun e => hdi e.symm)] at hld
          exact getD_set_true (hcl d od hod hld e he hb)
      · rw [hset, Ov_put ho hun' (fun k d hik hod hdk => (hord k d (by omega) hdk (.inr hod)).2 hik) ops.length hlt]
        exact hr'

/-- A region that draws its order, told by the text's. -/
theorem XD_of {id : Nat} {K : (Nat → AV) → Hp → Prop} (hm : P.follows .mixedOrders = true) (hok : okD ops = true) (hx : XH P N ops ops T h K) : XD P N id ops.toArray T h K := by
  intro w0 h0 a w r
  obtain ⟨v, hv, hk⟩ := XH_values hx
  refine wp_region_any hm ?_
  have r' : Rel w0 h0 N T h a { w with drawn := w.drawn + 1 } := by
    have st : Stp w h { w with drawn := w.drawn + 1 } h := Stp.grow r.heap (Nat.le_refl _) (fun _ _ => rfl)
    exact ⟨r.size, r.defers, fun i => (r.slots i).step st, r.heap.grow (Nat.le_refl _) (fun _ _ => rfl), r.io.trans ⟨rfl, rfl, rfl⟩, r.stp.trans st⟩
  refine any_order (T := T) (v := v) hok hv (fun a' w' hr => ⟨rfl, _, h, hk, hr⟩) ops.toArray.size _ a _ (by simp) ?_ ?_ ?_
  · simp only [List.size_toArray]
    refine Nat.le_trans (List.length_filter_le _ _) (by simp)
  · intro d o _ hl
    simp [Array.getD_eq_getD_getElem?, Array.getElem?_replicate] at hl
    split at hl <;> simp at hl
  · rw [Ov_none]
    · exact r'
    · intro k
      simp only [Array.getD_eq_getD_getElem?, Array.getElem?_replicate]
      split <;> rfl
end
end Go.Proofs.YtmalhikcdideoaaGreatDoor.Sl
