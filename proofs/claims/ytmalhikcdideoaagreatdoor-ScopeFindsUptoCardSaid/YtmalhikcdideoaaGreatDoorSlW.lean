/- The semantic layer: regions that draw their order, told in another order than the text's. -/
import Derived.Test.YtmalhikcdideoaaGreatDoorSlV
set_option linter.unusedVariables false
set_option linter.unusedSimpArgs false
namespace Go.Proofs.YtmalhikcdideoaaGreatDoor.Sl
open Go Go.RowKit
section
variable {P : Program} {N : Nat} {ops : List Oper}
def chkP (ops : List Oper) (fm gm wm : List Nat) (x y : Nat) : Bool := match ops[x]?, ops[y]? with
  | some ox, some oy => !ancB ops ops.length x y && (ancB ops ops.length y x || okPair (clsOf fm gm wm x ox) ox (clsOf fm gm wm y oy)) && !(clsOf fm gm wm x ox == .s && clsOf fm gm wm y oy == .g)
  | _, _ => false
def okPl (ops : List Oper) (fm gm wm : List Nat) : List Nat → Bool
  | [] => true
  | x :: r => (r.all fun y => x != y && chkP ops fm gm wm x y) && okPl ops fm gm wm r
def okWp (ops : List Oper) (fm gm wm pl : List Nat) : Bool := okFwd ops && okTmp ops && okPl ops fm gm wm pl && ((List.range ops.length).all fun k => pl.contains k) && (pl.all fun k => decide (k < ops.length)) && decide (pl.length ≤ ops.length)
theorem okPl_mid {fm gm wm : List Nat} {i : Nat} : ∀ (a b : List Nat), okPl ops fm gm wm (a ++ i :: b) = true → (∀ j ∈ a, j ≠ i ∧ chkP ops fm gm wm j i = true) ∧ ∀ j ∈ b, i ≠ j ∧ chkP ops fm gm wm i j = true
  | [], b, h => by
    simp only [List.nil_append, okPl, Bool.and_eq_true, List.all_eq_true, bne_iff_ne] at h
    exact ⟨fun j hj => absurd hj (by simp), fun j hj => h.1 j hj⟩
  | x :: a, b, h => by
    simp only [List.cons_append, okPl, Bool.and_eq_true, List.all_eq_true, bne_iff_ne] at h
    obtain ⟨h1, h2⟩ := okPl_mid a b h.2
    refine ⟨fun j hj => ?_, h2⟩
    rcases List.mem_cons.1 hj with rfl | hj
    · exact h.1 i (by simp)
    · exact h1 j hj
theorem okPl_sub {fm gm wm : List Nat} (p : Nat → Bool) : ∀ l, okPl ops fm gm wm l = true → okPl ops fm gm wm (l.filter p) = true
  | [], h => h
  | x :: l, h => by
    simp only [okPl, Bool.and_eq_true, List.all_eq_true, bne_iff_ne] at h
    rw [List.filter_cons]
    split
    · simp only [okPl, Bool.and_eq_true, List.all_eq_true, bne_iff_ne]
      exact ⟨fun y hy => h.1 y (List.mem_filter.1 hy).1, okPl_sub p l h.2⟩
    · exact okPl_sub p l h.2
def unlP (pl : List Nat) (listed : Array Bool) : List Nat := pl.filter fun k => !listed.getD k true
theorem unlP_split {pl fm gm wm : List Nat} {i : Nat} {listed : Array Bool} (hp : okPl ops fm gm wm pl = true) (hi : i ∈ pl) (hl : listed.getD i true = false) :
    ∃ l1 l2, unlP pl listed = l1 ++ i :: l2 ∧ unlP pl (listed.setIfInBounds i true) = l1 ++ l2 ∧ (∀ j ∈ l1, j ≠ i ∧ listed.getD j true = false ∧ chkP ops fm gm wm j i = true) ∧ ∀ j ∈ l2, j ≠ i ∧ chkP ops fm gm wm i j = true := by
  have hlt : i < listed.size := by
    cases Nat.lt_or_ge i listed.size with
    | inl h => exact h
    | inr h => simp [Array.getElem?_eq_none h] at hl
  obtain ⟨a, b, hab⟩ := List.append_of_mem hi
  rw [hab] at hp
  obtain ⟨ha, hb⟩ := okPl_mid a b hp
  have hset : ∀ j, j ≠ i → (listed.setIfInBounds i true).getD j true = listed.getD j true := fun j hj => getD_set_ne true (fun e => hj e.symm)
  have hsi : (listed.setIfInBounds i true).getD i true = true := by
    simp [Array.getD_eq_getD_getElem?, Array.getElem?_setIfInBounds_self_of_lt hlt]
  refine ⟨a.filter fun k => !listed.getD k true, b.filter fun k => !listed.getD k true, ?_, ?_, fun j hj => ?_, fun j hj => ?_⟩
  · unfold unlP
    rw [hab, List.filter_append, List.filter_cons]
    simp only [hl, Bool.not_false, if_true]
  · unfold unlP
    rw [hab, List.filter_append, List.filter_cons]
    simp only [hsi, Bool.not_true, Bool.false_eq_true, if_false]
    congr 1
    · exact List.filter_congr fun j hj => by rw [hset j (ha j hj).1]
    · exact List.filter_congr fun j hj => by rw [hset j (fun e => (hb j hj).1 e.symm)]
  · obtain ⟨h1, h2⟩ := List.mem_filter.1 hj
    exact ⟨(ha j h1).1, by simpa using h2, (ha j h1).2⟩
  · obtain ⟨h1, h2⟩ := List.mem_filter.1 hj
    exact ⟨fun e => (hb j h1).1 e.symm, (hb j h1).2⟩
theorem any_orderP {hF : Hp} {w0 : World} {h0 : Hp} {fm gm wm pl : List Nat} (hok : okWp ops fm gm wm pl = true) {K : (Nat → AV) → Hp → Prop} {Q : Exit → Act → World → Prop}
    (hn : ∀ T' h' a' w', K T' h' → Rel w0 h0 N T' h' a' w' → Q .normal a' w') :
    ∀ (fuel : Nat) (listed : Array Bool) (T : Nat → AV) (h : Hp) (a : Act) (w : World), listed.size = ops.length → (unlP pl listed).length ≤ fuel →
      (∀ d o, ops[d]? = some o → listed.getD d false = true → ∀ e ∈ o.after, Region.binds .any e = true → listed.getD e.on false = true) →
      (∀ i o, ops[i]? = some o → clsOf fm gm wm i o = .g → listed.getD i true = false → Sub hF h) →
      XEi P N hF ops fm gm wm (unlP pl listed) T h K → Rel w0 h0 N T h a w → wpAny P .any ops.toArray Q fuel listed a w := by
  simp only [okWp, Bool.and_eq_true] at hok
  obtain ⟨⟨⟨⟨⟨hfwd, htmp⟩, hpair⟩, hall0⟩, hlt0⟩, _⟩ := hok
  have hallp : ∀ k, k < ops.length → k ∈ pl := fun k hk => by
    have := List.all_eq_true.1 hall0 k (List.mem_range.2 hk)
    simpa using this
  have hpl : ∀ k ∈ pl, k < ops.length := fun k hk => by simpa using List.all_eq_true.1 hlt0 k hk
  have hfw : ∀ i o, ops[i]? = some o → ∀ e ∈ o.after, Region.binds .any e = true → e.on < i := fun i o ho e he hb => by
    have hi : i < ops.length := (List.getElem?_eq_some_iff.1 ho).1
    have h1 := List.all_eq_true.1 hfwd i (List.mem_range.2 hi)
    rw [ho] at h1
    have h2 := List.all_eq_true.1 h1 e (by simpa using he)
    simpa [hb] using h2
  have done : ∀ (listed : Array Bool), listed.size = ops.length → Region.ready .any ops.toArray listed = [] → ∀ k, k < ops.length → listed.getD k false = true := by
    intro listed hsz hr k
    induction k using Nat.strongRecOn with
    | _ k ih =>
      intro hk
      cases hlk : listed.getD k false with
      | true => rfl
      | false =>
        exfalso
        have hmem : k ∈ Region.ready .any ops.toArray listed := by
          rw [mem_ready]
          refine ⟨?_, ops[k], by simp [hk], fun e he hb => ?_⟩
          · exact gd_in (by omega) hlk
          · have := hfw k ops[k] (List.getElem?_eq_getElem hk) e he hb
            exact ih e.on this (by omega)
        rw [hr] at hmem
        cases hmem
  have fin : ∀ (listed : Array Bool) (T : Nat → AV) (h : Hp) (a : Act) (w : World), listed.size = ops.length → Region.ready .any ops.toArray listed = [] → XEi P N hF ops fm gm wm (unlP pl listed) T h K → Rel w0 h0 N T h a w → Q .normal a w := by
    intro listed T h a w hsz hr hx hrel
    have hnil : unlP pl listed = [] := by
      apply List.eq_nil_iff_forall_not_mem.2
      intro k hk
      obtain ⟨h1, h2⟩ := List.mem_filter.1 hk
      have h3 := done listed hsz hr k (hpl k h1)
      have h4 : listed.getD k true = false := by simpa using h2
      rw [gd_both h4] at h3; cases h3
    rw [hnil] at hx
    exact hn _ _ a w hx hrel
  intro fuel
  induction fuel with
  | zero =>
    intro listed T h a w hsz hcount hcl hsb hx hrel
    have hr : Region.ready .any ops.toArray listed = [] := by
      apply List.eq_nil_iff_forall_not_mem.2
      intro i hi
      obtain ⟨h1, o, ho, _⟩ := mem_ready.1 hi
      have hlt : i < ops.length := by
        have : ops[i]? = some o := by simpa using ho
        exact (List.getElem?_eq_some_iff.1 this).1
      have hmem : i ∈ unlP pl listed := List.mem_filter.2 ⟨hallp i hlt, by simp only [h1]; rfl⟩
      have : 0 < (unlP pl listed).length := List.length_pos_of_mem hmem
      omega
    exact ⟨hr, fin listed T h a w hsz hr hx hrel⟩
  | succ fuel ih =>
    intro listed T h a w hsz hcount hcl hsb hx hrel
    refine ⟨fun hr => fin listed T h a w hsz hr hx hrel, fun i hi => ?_⟩
    obtain ⟨hun, o, hoa, hall⟩ := mem_ready.1 hi
    have ho : ops[i]? = some o := by simpa using hoa
    have hlt : i < ops.length := (List.getElem?_eq_some_iff.1 ho).1
    obtain ⟨l1, l2, hs1, hs2, hl1, hl2⟩ := unlP_split hpair (hallp i hlt) hun
    have hna : ∀ j, listed.getD j true = false → ancB ops ops.length i j = false := by
      intro j hj
      cases hanc : ancB ops ops.length i j with
      | false => rfl
      | true =>
        exfalso
        cases hnn : ops.length with
        | zero => omega
        | succ n =>
          rw [hnn] at hanc
          unfold ancB at hanc
          rw [ho] at hanc
          obtain ⟨e, he, hb⟩ := List.any_eq_true.1 hanc
          simp only [Bool.and_eq_true, Bool.or_eq_true, beq_iff_eq] at hb
          have hle := hall e (by simpa using he) hb.1
          have hjt : listed.getD j false = true := by
            rcases hb.2 with h3 | h3
            · rw [← h3]; exact hle
            · exact anc_listed (L := fun k => listed.getD k false) hcl n e.on j hle h3
          rw [gd_both hj] at hjt; cases hjt
    have htm : ∀ (x y : Nat) (ox oy : Oper), ops[x]? = some ox → ops[y]? = some oy → x ≠ y → ancB ops ops.length x y = false → ancB ops ops.length y x = false → ∀ t, oy.dst = some t → t ∉ ox.looksAt ops.toArray ∧ ox.dst ≠ some t := by
      intro x y ox oy hox hoy hne hf1 hf2 t ht
      have hf : (if y < x then ancB ops ops.length x y else ancB ops ops.length y x) = false := by split <;> assumption
      have hxl : x < ops.length := (List.getElem?_eq_some_iff.1 hox).1
      have hyl : y < ops.length := (List.getElem?_eq_some_iff.1 hoy).1
      have h1 := List.all_eq_true.1 htmp x (List.mem_range.2 hxl)
      rw [hox] at h1
      have h2 := List.all_eq_true.1 h1 y (List.mem_range.2 hyl)
      rw [hoy] at h2
      have hxy : (x == y) = false := by simp [hne]
      simp only [ht, hf, hxy, Bool.false_or, Bool.or_false, Bool.not_eq_true', Bool.or_eq_false_iff] at h2
      refine ⟨fun hm => ?_, fun hm => ?_⟩
      · have := h2.1; simp [hm] at this
      · have := h2.2; simp [hm] at this
    rw [hs1] at hx
    have hfinh : Fin h := ⟨w.heap.size, fun b hb => by
      cases hhb : h b with
      | none => rfl
      | some o => have := hrel.heap.lt hhb; omega⟩
    have hck : ∀ j ∈ l1, ∀ oj, ops[j]? = some oj → ancB ops ops.length j i = false ∧ okPair (clsOf fm gm wm j oj) oj (clsOf fm gm wm i o) = true := fun j hj oj hoj => by
      obtain ⟨_, hjl, hc⟩ := hl1 j hj
      unfold chkP at hc
      rw [hoj, ho] at hc
      simp only [hna j hjl, Bool.false_or, Bool.and_eq_true, Bool.not_eq_true'] at hc
      exact hc.1
    have hpull := XEi_pull (P := P) (N := N) (K := K) ho l1 l2 (fun j hj oj hoj => by
      obtain ⟨hji, hjl, _⟩ := hl1 j hj
      have hjn := hna j hjl
      obtain ⟨hin, hp⟩ := hck j hj oj hoj
      exact ⟨⟨fun t ht hd => (htm j i oj o hoj ho hji hin hjn t hd).1 ht, fun t ht hd => (htm i j o oj ho hoj (fun e => hji e.symm) hjn hin t hd).1 ht, fun t ht hd => (htm i j o oj ho hoj (fun e => hji e.symm) hjn hin t ht).2 hd⟩, hp⟩) hfinh hx
    refine XE_step ho hpull (fun hg => hsb i o ho hg hun) hrel fun T' h' a' w' hkeep hx' hr' => ?_
    refine ih _ T' h' a' w' (by simp [hsz]) ?_ ?_ ?_ (by rw [hs2]; exact hx') hr'
    rotate_left 2
    · intro j oj hoj hg hlj
      have hjl0 : j < ops.length := (List.getElem?_eq_some_iff.1 hoj).1
      have hji : j ≠ i := fun e => by
        subst e
        have hlt2 : j < listed.size := by omega
        simp [Array.getD_eq_getD_getElem?, Array.getElem?_setIfInBounds_self_of_lt hlt2] at hlj
      rw [getD_set_ne true (fun e => hji e.symm)] at hlj
      refine hkeep (fun hs => ?_) (hsb j oj hoj hg hlj)
      have hmem : j ∈ unlP pl listed := List.mem_filter.2 ⟨hallp j hjl0, by simp only [hlj]; rfl⟩
      rw [hs1] at hmem
      rcases List.mem_append.1 hmem with h1 | h1
      · obtain ⟨_, hp⟩ := hck j h1 oj hoj
        rw [hg, hs] at hp
        simp [okPair] at hp
      · rcases List.mem_cons.1 h1 with h2 | h2
        · exact hji h2
        · have hc := (hl2 j h2).2
          unfold chkP at hc
          rw [ho, hoj] at hc
          simp only [Bool.and_eq_true, hg, hs] at hc
          exact absurd hc.2 (by decide)
    · rw [hs2]; rw [hs1] at hcount
      simp only [List.length_append, List.length_cons] at hcount ⊢
      omega
    · intro d od hod hld e he hb
      by_cases hdi : d = i
      · subst hdi
        have : od = o := by rw [ho] at hod; exact (Option.some.inj hod).symm
        subst this
        exact getD_set_true (hall e he hb)
      · rw [getD_set_ne false (fun e => hdi e.symm)] at hld
        exact getD_set_true (hcl d od hod hld e he hb)
def XRp (P : Program) (N : Nat) (hF : Hp) (ops : List Oper) (fm gm wm : List Nat) : List (Nat × Oper) → (Nat → AV) → Hp → ((Nat → AV) → Hp → Prop) → Prop
  | [], T, h, K => K T h
  | (i, o) :: rest, T, h, K => match o.guard with
    | none => XRo P N hF (clsOf fm gm wm i o) o T h fun T' h' => XRp P N hF ops fm gm wm rest T' h' K
    | some (j, want) => XRg P N hF (gvA ops T j want) want (clsOf fm gm wm i o) o T h fun T' h' => XRp P N hF ops fm gm wm rest T' h' K
theorem XRp_XEi {hF : Hp} {fm gm wm : List Nat} {K : (Nat → AV) → Hp → Prop} : ∀ (l : List (Nat × Oper)) (T : Nat → AV) (h : Hp), (∀ x ∈ l, ops[x.1]? = some x.2) → XRp P N hF ops fm gm wm l T h K → XEi P N hF ops fm gm wm (l.map (·.1)) T h K := by
  intro l
  induction l with
  | nil => intro T h _ hx; exact hx
  | cons x l ih =>
    intro T h hl hx
    obtain ⟨i, o⟩ := x
    have ho : ops[i]? = some o := hl (i, o) (by simp)
    simp only [List.map_cons, XEi, ho]
    have hrest : XE P N hF ops (clsOf fm gm wm i o) o T h fun T' h' => XRp P N hF ops fm gm wm l T' h' K := by
      unfold XRp at hx
      split at hx
      · rename_i hg; exact XRo_XE hg hx
      · rename_i j want hg; exact XRg_XE hg hx
    exact XE_mono (fun T' h' => ih T' h' fun x hx => hl x (List.mem_cons_of_mem _ hx)) hrest
/-- A region that draws its order, told in the order of a list of its operations' numbers. -/
theorem XD_p (fm gm wm pl : List Nat) (hF : Hp) {id : Nat} {T : Nat → AV} {h : Hp} {K : (Nat → AV) → Hp → Prop} (hm : P.follows .mixedOrders = true) (hok : okWp ops fm gm wm pl = true) (hsb : Sub hF h) (hx : XRp P N hF ops fm gm wm (pl.filterMap fun i => (ops[i]?).map fun o => (i, o)) T h K) : XD P N id ops.toArray T h K := by
  have hlt : ∀ k ∈ pl, k < ops.length := fun k hk => by
    simp only [okWp, Bool.and_eq_true] at hok
    simpa using List.all_eq_true.1 hok.1.2 k hk
  intro w0 h0 a w r
  refine wp_region_any hm ?_
  have r' : Rel w0 h0 N T h a { w with drawn := w.drawn + 1 } := by
    have st : Stp w h { w with drawn := w.drawn + 1 } h := Stp.grow r.heap (Nat.le_refl _) (fun _ _ => rfl)
    exact ⟨r.size, r.defers, fun i => (r.slots i).step st, r.heap.grow (Nat.le_refl _) (fun _ _ => rfl), r.io.trans ⟨rfl, rfl, rfl⟩, r.stp.trans st⟩
  have hall : ∀ k, k < ops.length → (Array.replicate ops.toArray.size false).getD k true = false := fun k hk => by
    simp [Array.getD_eq_getD_getElem?, Array.getElem?_replicate, hk]
  have hun : unlP pl (Array.replicate ops.toArray.size false) = pl := by
    unfold unlP
    exact List.filter_eq_self.2 fun k hk => by rw [hall k (hlt k hk)]; rfl
  refine any_orderP (hF := hF) (fm := fm) (gm := gm) (wm := wm) hok (K := K) (fun T' h' a' w' hk hr => ⟨rfl, T', h', hk, hr⟩) ops.toArray.size _ T h a _ (by simp) ?_ ?_ (fun _ _ _ _ _ => hsb) ?_ r'
  · rw [hun]
    simp only [okWp, Bool.and_eq_true] at hok
    simpa using hok.2
  · intro d o _ hl
    simp [Array.getD_eq_getD_getElem?, Array.getElem?_replicate] at hl
    split at hl <;> simp at hl
  · rw [hun]
    have h1 := XRp_XEi (K := K) _ T h (fun x hx => by
      obtain ⟨i, _, he⟩ := List.mem_filterMap.1 hx
      cases ho : ops[i]? with
      | none => rw [ho] at he; cases he
      | some o => rw [ho] at he; cases he; exact ho) hx
    have h2 : ∀ l : List Nat, (∀ k ∈ l, k < ops.length) → (l.filterMap fun i => (ops[i]?).map fun o => (i, o)).map (·.1) = l := by
      intro l
      induction l with
      | nil => intro _; rfl
      | cons k l ih =>
        intro hl
        have hk := hl k (by simp)
        rw [List.filterMap_cons, List.getElem?_eq_getElem hk]
        simp only [Option.map_some, List.map_cons]
        rw [ih fun j hj => hl j (List.mem_cons_of_mem _ hj)]
    rwa [h2 pl hlt] at h1
def XRpQ (P : Program) (N : Nat) (hF : Hp) (ops : List Oper) (fm gm wm : List Nat) (rest : List (Nat × Oper)) (K : (Nat → AV) → Hp → Prop) : (Nat → AV) → Hp → Prop := fun T' h' => XRp P N hF ops fm gm wm rest T' h' K
variable {hF : Hp} {fm gm wm : List Nat} {T : Nat → AV} {h : Hp} {K : (Nat → AV) → Hp → Prop}
@[go_sem] theorem XRp_nil : XRp P N hF ops fm gm wm [] T h K = K T h := Eq.trans rfl rfl
@[go_sem] theorem XRp_cons (i : Nat) (rest : List (Nat × Oper)) (d : Option Tmp) (op : Op) (t : TypeId) (p : String) (af : Array Edge) : XRp P N hF ops fm gm wm ((i, ⟨d, op, t, p, af, none⟩) :: rest) T h K = XRo P N hF (clsOf fm gm wm i ⟨d, op, t, p, af, none⟩) ⟨d, op, t, p, af, none⟩ T h (XRpQ P N hF ops fm gm wm rest K) := Eq.trans rfl rfl
@[go_sem] theorem XRp_guard (i : Nat) (rest : List (Nat × Oper)) (d : Option Tmp) (op : Op) (t : TypeId) (p : String) (af : Array Edge) (j : Nat) (want : Bool) : XRp P N hF ops fm gm wm ((i, ⟨d, op, t, p, af, some (j, want)⟩) :: rest) T h K = XRg P N hF (gvA ops T j want) want (clsOf fm gm wm i ⟨d, op, t, p, af, some (j, want)⟩) ⟨d, op, t, p, af, some (j, want)⟩ T h (XRpQ P N hF ops fm gm wm rest K) := Eq.trans rfl rfl
@[go_sem] theorem XRpQ_eq (rest : List (Nat × Oper)) : XRpQ P N hF ops fm gm wm rest K T h = XRp P N hF ops fm gm wm rest T h K := Eq.trans rfl rfl
/-- Ways that come together behind the first part. -/
def SeqJ (Qn : (Nat → AV) → Hp → Prop) (Q : Exit → (Nat → AV) → Hp → Prop) : Exit → (Nat → AV) → Hp → Prop := fun e T' h' => match e with
  | .normal => Qn T' h'
  | e => Q e T' h'
variable {Q : Exit → (Nat → AV) → Hp → Prop} {Qn : (Nat → AV) → Hp → Prop}
@[go_sem] theorem SeqJ_normal : SeqJ Qn Q .normal T h = Qn T h := rfl
@[go_sem] theorem SeqJ_ret : SeqJ Qn Q .ret T h = Q .ret T h := rfl
@[go_sem] theorem SeqJ_exit (i : Nat) : SeqJ Qn Q (.exit i) T h = Q (.exit i) T h := rfl
theorem X_join {a b : Code} (I : (Nat → AV) → Hp → Prop) (ha : ∀ Qn : (Nat → AV) → Hp → Prop, (∀ T' h', I T' h' → Qn T' h') → X P N a T h (SeqJ Qn Q)) (hb : ∀ T' h', I T' h' → X P N b T' h' Q) : X P N (.seq a b) T h Q := by
  rw [X_seq]
  exact ha (fun T' h' => X P N b T' h' Q) hb
theorem X_joinT {a b : Code} (D : Nat → Prop) (I : Hp → Prop) (ha : ∀ Qn : (Nat → AV) → Hp → Prop, (∀ T' h', (∀ i, ¬ D i → T' i = T i) → I h' → Qn T' h') → X P N a T h (SeqJ Qn Q)) (hb : ∀ T' h', (∀ i, ¬ D i → T' i = T i) → I h' → X P N b T' h' Q) : X P N (.seq a b) T h Q :=
  X_join (fun T' h' => (∀ i, ¬ D i → T' i = T i) ∧ I h') (fun Qn hQ => ha Qn fun T' h' f i => hQ T' h' ⟨f, i⟩) fun T' h' ⟨f, i⟩ => hb T' h' f i
end
attribute [irreducible] XRp XRpQ SeqJ
end Go.Proofs.YtmalhikcdideoaaGreatDoor.Sl
