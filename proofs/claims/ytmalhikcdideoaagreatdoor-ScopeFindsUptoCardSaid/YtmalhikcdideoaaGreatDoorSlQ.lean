/- The semantic layer, sixteenth part: the rule for regions that draw their order and write, and its equations. -/
import Derived.Test.YtmalhikcdideoaaGreatDoorSlO
set_option linter.unusedVariables false
set_option linter.unusedSimpArgs false
namespace Go.Proofs.YtmalhikcdideoaaGreatDoor.Sl
open Go Go.RowKit

section
variable {P : Program} {N : Nat} {ops : List Oper}

def unl (n : Nat) (listed : Array Bool) : List Nat := (List.range n).filter fun k => !listed.getD k true

theorem unl_split {n i : Nat} {listed : Array Bool} (hi : i < n) (hl : listed.getD i true = false) : ∃ l1 l2, unl n listed = l1 ++ i :: l2 ∧ unl n (listed.setIfInBounds i true) = l1 ++ l2 ∧ (∀ j ∈ l1, j < i ∧ listed.getD j true = false) := by
  have hlt : i < listed.size := by
    cases Nat.lt_or_ge i listed.size with
    | inl h => exact h
    | inr h => simp [Array.getElem?_eq_none h] at hl
  have hmem : i ∈ List.range n := List.mem_range.2 hi
  obtain ⟨a, b, hab⟩ := List.append_of_mem hmem
  have hnd : (a ++ i :: b).Nodup := hab ▸ List.nodup_range
  have hp : (a ++ i :: b).Pairwise (· < ·) := hab ▸ List.pairwise_lt_range
  have ha : ∀ j ∈ a, j < i := fun j hj => (List.pairwise_append.1 hp).2.2 j hj i (List.mem_cons_self ..)
  have hb : ∀ j ∈ b, i < j := fun j hj => (List.pairwise_cons.1 (List.pairwise_append.1 hp).2.1).1 j hj
  have hset : ∀ j, j ≠ i → (listed.setIfInBounds i true).getD j true = listed.getD j true := fun j hj => getD_set_ne true (fun e => hj e.symm)
  have hsi : (listed.setIfInBounds i true).getD i true = true := by
    simp [Array.getD_eq_getD_getElem?, Array.getElem?_setIfInBounds_self_of_lt hlt]
  refine ⟨a.filter fun k => !listed.getD k true, b.filter fun k => !listed.getD k true, ?_, ?_, fun j hj => ?_⟩
  · unfold unl
    rw [hab, List.filter_append, List.filter_cons]
    simp only [hl, Bool.not_false, if_true]
  · unfold unl
    rw [hab, List.filter_append, List.filter_cons]
    simp only [hsi, Bool.not_true, Bool.false_eq_true, if_false]
    congr 1
    · exact List.filter_congr fun j hj => by rw [hset j (fun e => by have := ha j hj; omega)]
    · exact List.filter_congr fun j hj => by rw [hset j (fun e => by have := hb j hj; omega)]
  · obtain ⟨h1, h2⟩ := List.mem_filter.1 hj
    exact ⟨ha j h1, by simpa using h2⟩

theorem any_order' {hF : Hp} {w0 : World} {h0 : Hp} {fm gm wm : List Nat} (hok : okW ops fm gm wm = true) {K : (Nat → AV) → Hp → Prop} {Q : Exit → Act → World → Prop}
    (hn : ∀ T' h' a' w', K T' h' → Rel w0 h0 N T' h' a' w' → Q .normal a' w') :
    ∀ (fuel : Nat) (listed : Array Bool) (T : Nat → AV) (h : Hp) (a : Act) (w : World), listed.size = ops.length → (unl ops.length listed).length ≤ fuel →
      (∀ d o, ops[d]? = some o → listed.getD d false = true → ∀ e ∈ o.after, Region.binds .any e = true → listed.getD e.on false = true) →
      (∀ i o, ops[i]? = some o → clsOf fm gm wm i o = .g → listed.getD i true = false → Sub hF h) →
      XEi P N hF ops fm gm wm (unl ops.length listed) T h K → Rel w0 h0 N T h a w → wpAny P .any ops.toArray Q fuel listed a w := by
  simp only [okW, Bool.and_eq_true] at hok
  obtain ⟨⟨hfwd, htmp⟩, hpair⟩ := hok
  have hfw : ∀ i o, ops[i]? = some o → ∀ e ∈ o.after, Region.binds .any e = true → e.on < i := fun i o ho e he hb => by
    have hi : i < ops.length := (List.getElem?_eq_some_iff.1 ho).1
    have h1 := List.all_eq_true.1 hfwd i (List.mem_range.2 hi)
    rw [ho] at h1
    have h2 := List.all_eq_true.1 h1 e (by simpa using he)
    simpa [hb] using h2
  -- all is listed where nothing is ready
  have done : ∀ (listed : Array Bool), listed.size = ops.length → Region.ready .any ops.toArray listed = [] → ∀ k, k < ops.length → listed.getD k false = true := by
    intro listed hsz hr k
    induction k using Nat.strongRecOn with
    | _ k ih =>
      intro hk
      cases hlk : listed.getD k false with
      | true => rfl
      | false =>
        exfalso
        have hmem : k ∈ Region.ready .any ops.toArray listed := by
          rw [mem_ready]
          refine ⟨?_, ops[k], by simp [hk], fun e he hb => ?_⟩
          · exact gd_in (by omega) hlk
          · have := hfw k ops[k] (List.getElem?_eq_getElem hk) e he hb
            exact ih e.on this (by omega)
        rw [hr] at hmem
        cases hmem
  have fin : ∀ (listed : Array Bool) (T : Nat → AV) (h : Hp) (a : Act) (w : World), listed.size = ops.length → Region.ready .any ops.toArray listed = [] → XEi P N hF ops fm gm wm (unl ops.length listed) T h K → Rel w0 h0 N T h a w → Q .normal a w := by
    intro listed T h a w hsz hr hx hrel
    have hnil : unl ops.length listed = [] := by
      apply List.eq_nil_iff_forall_not_mem.2
      intro k hk
      obtain ⟨h1, h2⟩ := List.mem_filter.1 hk
      have hk' := List.mem_range.1 h1
      have h3 := done listed hsz hr k hk'
      have h4 : listed.getD k true = false := by simpa using h2
      rw [gd_both h4] at h3; cases h3
    rw [hnil] at hx
    exact hn _ _ a w hx hrel
  intro fuel
  induction fuel with
  | zero =>
    intro listed T h a w hsz hcount hcl hsb hx hrel
    have hr : Region.ready .any ops.toArray listed = [] := by
      apply List.eq_nil_iff_forall_not_mem.2
      intro i hi
      obtain ⟨h1, o, ho, _⟩ := mem_ready.1 hi
      have hlt : i < ops.length := by
        have : ops[i]? = some o := by simpa using ho
        exact (List.getElem?_eq_some_iff.1 this).1
      have hmem : i ∈ unl ops.length listed := List.mem_filter.2 ⟨List.mem_range.2 hlt, by simp only [h1]; rfl⟩
      have : 0 < (unl ops.length listed).length := List.length_pos_of_mem hmem
      omega
    exact ⟨hr, fin listed T h a w hsz hr hx hrel⟩
  | succ fuel ih =>
    intro listed T h a w hsz hcount hcl hsb hx hrel
    refine ⟨fun hr => fin listed T h a w hsz hr hx hrel, fun i hi => ?_⟩
    obtain ⟨hun, o, hoa, hall⟩ := mem_ready.1 hi
    have ho : ops[i]? = some o := by simpa using hoa
    have hlt : i < ops.length := (List.getElem?_eq_some_iff.1 ho).1
    obtain ⟨l1, l2, hs1, hs2, hl1⟩ := unl_split hlt hun
    -- what is before i in the text and not yet done is no ancestor of it
    have hna : ∀ j, listed.getD j true = false → ancB ops ops.length i j = false := by
      intro j hj
      cases hanc : ancB ops ops.length i j with
      | false => rfl
      | true =>
        exfalso
        cases hnn : ops.length with
        | zero => omega
        | succ n =>
          rw [hnn] at hanc
          unfold ancB at hanc
          rw [ho] at hanc
          obtain ⟨e, he, hb⟩ := List.any_eq_true.1 hanc
          simp only [Bool.and_eq_true, Bool.or_eq_true, beq_iff_eq] at hb
          have hle := hall e (by simpa using he) hb.1
          have hjt : listed.getD j false = true := by
            rcases hb.2 with h3 | h3
            · rw [← h3]; exact hle
            · exact anc_listed (L := fun k => listed.getD k false) hcl n e.on j hle h3
          rw [gd_both hj] at hjt; cases hjt
    have htm : ∀ (x y : Nat) (ox oy : Oper), ops[x]? = some ox → ops[y]? = some oy → x ≠ y → (if y < x then ancB ops ops.length x y else ancB ops ops.length y x) = false → ∀ t, oy.dst = some t → t ∉ ox.looksAt ops.toArray ∧ ox.dst ≠ some t := by
      intro x y ox oy hox hoy hne hf t ht
      have hxl : x < ops.length := (List.getElem?_eq_some_iff.1 hox).1
      have hyl : y < ops.length := (List.getElem?_eq_some_iff.1 hoy).1
      have h1 := List.all_eq_true.1 htmp x (List.mem_range.2 hxl)
      rw [hox] at h1
      have h2 := List.all_eq_true.1 h1 y (List.mem_range.2 hyl)
      rw [hoy] at h2
      have hxy : (x == y) = false := by simp [hne]
      simp only [ht, hf, hxy, Bool.false_or, Bool.or_false, Bool.not_eq_true', Bool.or_eq_false_iff] at h2
      refine ⟨fun hm => ?_, fun hm => ?_⟩
      · have := h2.1; simp [hm] at this
      · have := h2.2; simp [hm] at this
    rw [hs1] at hx
    have hfinh : Fin h := ⟨w.heap.size, fun b hb => by
      cases hhb : h b with
      | none => rfl
      | some o => have := hrel.heap.lt hhb; omega⟩
    have hpull := XEi_pull (P := P) (N := N) (K := K) ho l1 l2 (fun j hj oj hoj => by
      obtain ⟨hji, hjl⟩ := hl1 j hj
      have hjn := hna j hjl
      have hjlt : j < ops.length := by omega
      refine ⟨⟨fun t ht hd => ?_, fun t ht hd => ?_, fun t ht hd => ?_⟩, ?_⟩
      · exact (htm j i oj o hoj ho (by omega) (by rw [if_neg (by omega)]; exact hjn) t hd).1 ht
      · exact (htm i j o oj ho hoj (by omega) (by rw [if_pos hji]; exact hjn) t hd).1 ht
      · exact (htm i j o oj ho hoj (by omega) (by rw [if_pos hji]; exact hjn) t ht).2 hd
      · have h1 := List.all_eq_true.1 hpair i (List.mem_range.2 hlt)
        rw [ho] at h1
        have h2 := List.all_eq_true.1 h1 j (List.mem_range.2 hji)
        rw [hoj] at h2
        simp only [hjn, Bool.false_or, Bool.and_eq_true] at h2
        exact h2.1) hfinh hx
    refine XE_step ho hpull (fun hg => hsb i o ho hg hun) hrel fun T' h' a' w' hkeep hx' hr' => ?_
    refine ih _ T' h' a' w' (by simp [hsz]) ?_ ?_ ?_ (by rw [hs2]; exact hx') hr'
    rotate_left 2
    · intro j oj hoj hg hlj
      have hji : j ≠ i := fun e => by
        subst e
        have hlt2 : j < listed.size := by omega
        simp [Array.getD_eq_getD_getElem?, Array.getElem?_setIfInBounds_self_of_lt hlt2] at hlj
      rw [getD_set_ne true (fun e => hji e.symm)] at hlj
      refine hkeep (fun hs => ?_) (hsb j oj hoj hg hlj)
      have hjl : j < ops.length := (List.getElem?_eq_some_iff.1 hoj).1
      rcases Nat.lt_or_gt_of_ne hji with h1 | h1
      · have h2 := List.all_eq_true.1 hpair i (List.mem_range.2 hlt)
        rw [ho] at h2
        have h3 := List.all_eq_true.1 h2 j (List.mem_range.2 h1)
        rw [hoj] at h3
        simp only [hna j hlj, Bool.false_or, Bool.and_eq_true, hg, hs] at h3
        exact absurd h3.1 (by simp [okPair])
      · have h2 := List.all_eq_true.1 hpair j (List.mem_range.2 hjl)
        rw [hoj] at h2
        have h3 := List.all_eq_true.1 h2 i (List.mem_range.2 h1)
        rw [ho] at h3
        simp only [Bool.and_eq_true, hg, hs] at h3
        exact absurd h3.2 (by decide)
    · rw [hs2]; rw [hs1] at hcount
      simp only [List.length_append, List.length_cons] at hcount ⊢
      omega
    · intro d od hod hld e he hb
      by_cases hdi : d = i
      · subst hdi
        have : od = o := by rw [ho] at hod; exact (Option.some.inj hod).symm
        subst this
        exact getD_set_true (hall e he hb)
      · rw [getD_set_ne false (fun e => hdi e.symm)] at hld
        exact getD_set_true (hcl d od hod hld e he hb)

/-- In the text's order, one operation at a time. -/
def XFv (P : Program) (N : Nat) (s : Option AV) (K : AV → Prop) : Prop := match s with
  | some v => K v
  | none => False
def XRo (P : Program) (N : Nat) (hF : Hp) (c : Cl) (o : Oper) (T : Nat → AV) (h : Hp) (K : (Nat → AV) → Hp → Prop) : Prop := match c with
  | .f => dOk N o.dst = true ∧ XFv P N (stp P T (fun _ => none) o.op) fun v => K (putD T o.dst v) h
  | .g => dOk N o.dst = true ∧ XFv P N (stp P T hF o.op) fun v => K (putD T o.dst v) h
  | .r => dOk N o.dst = true ∧ XHM P N (stp P T h o.op) o T h fun v => K (putD T o.dst v) h
  | .w => XL P N o T h (wQ hF h K)
  | .s => XL P N o T h K
def XRg (P : Program) (N : Nat) (hF : Hp) (g : Option Bool) (want : Bool) (c : Cl) (o : Oper) (T : Nat → AV) (h : Hp) (K : (Nat → AV) → Hp → Prop) : Prop := match g with
  | some b => (b = want → XRo P N hF c o T h K) ∧ (b ≠ want → dOk N o.dst = true ∧ K (putD T o.dst un) h)
  | none => False
def XR (P : Program) (N : Nat) (hF : Hp) (ops : List Oper) (fm gm wm : List Nat) : Nat → List Oper → (Nat → AV) → Hp → ((Nat → AV) → Hp → Prop) → Prop
  | _, [], T, h, K => K T h
  | i, o :: rest, T, h, K => match o.guard with
    | none => XRo P N hF (clsOf fm gm wm i o) o T h fun T' h' => XR P N hF ops fm gm wm (i + 1) rest T' h' K
    | some (j, want) => XRg P N hF (gvA ops T j want) want (clsOf fm gm wm i o) o T h fun T' h' => XR P N hF ops fm gm wm (i + 1) rest T' h' K

theorem XRo_XE {hF : Hp} {c : Cl} {o : Oper} {T : Nat → AV} {h : Hp} {K : (Nat → AV) → Hp → Prop} (hg : o.guard = none) (hx : XRo P N hF c o T h K) : XE P N hF ops c o T h K := by
  have fv : ∀ hF', dOk N o.dst = true ∧ XFv P N (stp P T hF' o.op) (fun v => K (putD T o.dst v) h) → ∃ v, dOk N o.dst = true ∧ CF P hF' ops o T v ∧ K (putD T o.dst v) h := by
    rintro hF' ⟨hd, hx⟩
    unfold XFv at hx
    split at hx
    · rename_i v hv
      exact ⟨v, hd, by unfold CF; rw [hg]; exact hv, hx⟩
    · exact hx.elim
  cases c with
  | f => exact fv _ hx
  | g => exact fv _ hx
  | r =>
    obtain ⟨hd, hx⟩ := hx
    rw [← XHo_eq] at hx
    obtain ⟨v, hc, hk⟩ := XHo_cr hx
    exact ⟨v, hd, by unfold CR; rw [hg]; exact hc, hk⟩
  | w => show XGd P N ops o T h (wQ hF h K); unfold XGd; rw [hg]; exact hx
  | s => show XGd P N ops o T h K; unfold XGd; rw [hg]; exact hx
theorem XRg_XE {hF : Hp} {c : Cl} {o : Oper} {T : Nat → AV} {h : Hp} {K : (Nat → AV) → Hp → Prop} {j : Nat} {want : Bool} (hg : o.guard = some (j, want)) (hx : XRg P N hF (gvA ops T j want) want c o T h K) : XE P N hF ops c o T h K := by
  unfold XRg at hx
  split at hx
  · rename_i b hb
    by_cases hbw : b = want
    · have hx := hx.1 hbw
      have fv : ∀ hF', dOk N o.dst = true ∧ XFv P N (stp P T hF' o.op) (fun v => K (putD T o.dst v) h) → ∃ v, dOk N o.dst = true ∧ CF P hF' ops o T v ∧ K (putD T o.dst v) h := by
        rintro hF' ⟨hd, hx⟩
        unfold XFv at hx
        split at hx
        · rename_i v hv
          exact ⟨v, hd, by unfold CF; rw [hg]; exact ⟨b, hb, .inl ⟨hbw, hv⟩⟩, hx⟩
        · exact hx.elim
      cases c with
      | f => exact fv _ hx
      | g => exact fv _ hx
      | r =>
        obtain ⟨hd, hx⟩ := hx
        rw [← XHo_eq] at hx
        obtain ⟨v, hc, hk⟩ := XHo_cr hx
        exact ⟨v, hd, by unfold CR; rw [hg]; exact ⟨b, hb, .inl ⟨hbw, hc⟩⟩, hk⟩
      | w => show XGd P N ops o T h (wQ hF h K); unfold XGd; rw [hg]; simp only [hb]; exact ⟨fun _ => hx, fun e => absurd hbw e⟩
      | s => show XGd P N ops o T h K; unfold XGd; rw [hg]; simp only [hb]; exact ⟨fun _ => hx, fun e => absurd hbw e⟩
    · obtain ⟨hd, hk⟩ := hx.2 hbw
      cases c with
      | f => exact ⟨un, hd, by unfold CF; rw [hg]; exact ⟨b, hb, .inr ⟨hbw, rfl⟩⟩, hk⟩
      | g => exact ⟨un, hd, by unfold CF; rw [hg]; exact ⟨b, hb, .inr ⟨hbw, rfl⟩⟩, hk⟩
      | r => exact ⟨un, hd, by unfold CR; rw [hg]; exact ⟨b, hb, .inr ⟨hbw, rfl⟩⟩, hk⟩
      | w => show XGd P N ops o T h (wQ hF h K); unfold XGd; rw [hg]; simp only [hb]; exact ⟨fun e => absurd e hbw, fun _ => ⟨hd, fun x => x, hk⟩⟩
      | s => show XGd P N ops o T h K; unfold XGd; rw [hg]; simp only [hb]; exact ⟨fun e => absurd e hbw, fun _ => ⟨hd, hk⟩⟩
  · exact hx.elim
theorem XR_XEi {hF : Hp} {fm gm wm : List Nat} {K : (Nat → AV) → Hp → Prop} : ∀ (l : List Oper) (i : Nat) (T : Nat → AV) (h : Hp), (∀ k o, l[k]? = some o → ops[i + k]? = some o) → XR P N hF ops fm gm wm i l T h K → XEi P N hF ops fm gm wm (List.range' i l.length) T h K := by
  intro l
  induction l with
  | nil => intro i T h _ hx; exact hx
  | cons o l ih =>
    intro i T h hl hx
    have ho : ops[i]? = some o := by simpa using hl 0 o (by simp)
    have hl' : ∀ k o', l[k]? = some o' → ops[i + 1 + k]? = some o' := fun k o' hk => by
      have := hl (k + 1) o' (by simpa using hk)
      rwa [show i + 1 + k = i + (k + 1) by omega]
    simp only [List.length_cons, List.range'_succ, XEi, ho]
    have hrest : XE P N hF ops (clsOf fm gm wm i o) o T h fun T' h' => XR P N hF ops fm gm wm (i + 1) l T' h' K := by
      unfold XR at hx
      split at hx
      · rename_i hg; exact XRo_XE hg hx
      · rename_i j want hg; exact XRg_XE hg hx
    exact XE_mono (fun T' h' => ih (i + 1) T' h' hl') hrest
/-- A region that draws its order and writes, told by the text's. -/
theorem XD_w (fm gm wm : List Nat) (hF : Hp) {id : Nat} {T : Nat → AV} {h : Hp} {K : (Nat → AV) → Hp → Prop} (hm : P.follows .mixedOrders = true) (hok : okW ops fm gm wm = true) (hsb : Sub hF h) (hx : XR P N hF ops fm gm wm 0 ops T h K) : XD P N id ops.toArray T h K := by
  intro w0 h0 a w r
  refine wp_region_any hm ?_
  have r' : Rel w0 h0 N T h a { w with drawn := w.drawn + 1 } := by
    have st : Stp w h { w with drawn := w.drawn + 1 } h := Stp.grow r.heap (Nat.le_refl _) (fun _ _ => rfl)
    exact ⟨r.size, r.defers, fun i => (r.slots i).step st, r.heap.grow (Nat.le_refl _) (fun _ _ => rfl), r.io.trans ⟨rfl, rfl, rfl⟩, r.stp.trans st⟩
  refine any_order' (hF := hF) (fm := fm) (gm := gm) (wm := wm) hok (K := K) (fun T' h' a' w' hk hr => ⟨rfl, T', h', hk, hr⟩) ops.toArray.size _ T h a _ (by simp) ?_ ?_ (fun _ _ _ _ _ => hsb) ?_ r'
  · simp only [List.size_toArray]
    exact Nat.le_trans (List.length_filter_le _ _) (by simp)
  · intro d o _ hl
    simp [Array.getD_eq_getD_getElem?, Array.getElem?_replicate] at hl
    split at hl <;> simp at hl
  · have : unl ops.length (Array.replicate ops.toArray.size false) = List.range' 0 ops.length := by
      unfold unl
      rw [List.range_eq_range']
      refine List.filter_eq_self.2 fun k hk => ?_
      have := (List.mem_range'.1 hk)
      obtain ⟨i, hi, rfl⟩ := this
      simp [Array.getD_eq_getD_getElem?, Array.getElem?_replicate, hi]
    rw [this]
    exact XR_XEi ops 0 T h (fun k o hk => by simpa using hk) hx

/-! Its equations. -/
def XRQ (P : Program) (N : Nat) (hF : Hp) (ops : List Oper) (fm gm wm : List Nat) (i : Nat) (rest : List Oper) (K : (Nat → AV) → Hp → Prop) : (Nat → AV) → Hp → Prop := fun T' h' => XR P N hF ops fm gm wm i rest T' h' K
def putQ (T : Nat → AV) (h : Hp) (d : Option Tmp) (K : (Nat → AV) → Hp → Prop) : AV → Prop := fun v => K (putD T d v) h
variable {hF : Hp} {fm gm wm : List Nat} {T : Nat → AV} {h : Hp} {K : (Nat → AV) → Hp → Prop}
@[go_sem] theorem XR_nil (i : Nat) : XR P N hF ops fm gm wm i [] T h K = K T h := Eq.trans rfl rfl
@[go_sem] theorem XR_cons (i : Nat) (rest : List Oper) (d : Option Tmp) (op : Op) (t : TypeId) (p : String) (af : Array Edge) : XR P N hF ops fm gm wm i (⟨d, op, t, p, af, none⟩ :: rest) T h K = XRo P N hF (clsOf fm gm wm i ⟨d, op, t, p, af, none⟩) ⟨d, op, t, p, af, none⟩ T h (XRQ P N hF ops fm gm wm (i + 1) rest K) := Eq.trans rfl rfl
@[go_sem] theorem XR_guard (i : Nat) (rest : List Oper) (d : Option Tmp) (op : Op) (t : TypeId) (p : String) (af : Array Edge) (j : Nat) (want : Bool) : XR P N hF ops fm gm wm i (⟨d, op, t, p, af, some (j, want)⟩ :: rest) T h K = XRg P N hF (gvA ops T j want) want (clsOf fm gm wm i ⟨d, op, t, p, af, some (j, want)⟩) ⟨d, op, t, p, af, some (j, want)⟩ T h (XRQ P N hF ops fm gm wm (i + 1) rest K) := Eq.trans rfl rfl
@[go_sem] theorem XRQ_eq (i : Nat) (rest : List Oper) : XRQ P N hF ops fm gm wm i rest K T h = XR P N hF ops fm gm wm i rest T h K := Eq.trans rfl rfl
@[go_sem] theorem putQ_eq (d : Option Tmp) (v : AV) : putQ T h d K v = K (putD T d v) h := Eq.trans rfl rfl
@[go_sem] theorem XRo_f (d : Option Tmp) (op : Op) (t : TypeId) (p : String) (af : Array Edge) (g : Option (Nat × Bool)) : XRo P N hF .f ⟨d, op, t, p, af, g⟩ T h K = (dOk N d = true ∧ XFv P N (stp P T (fun _ => none) op) (putQ T h d K)) := Eq.trans rfl rfl
@[go_sem] theorem XRo_r (d : Option Tmp) (op : Op) (t : TypeId) (p : String) (af : Array Edge) (g : Option (Nat × Bool)) : XRo P N hF .r ⟨d, op, t, p, af, g⟩ T h K = (dOk N d = true ∧ XHM P N (stp P T h op) ⟨d, op, t, p, af, g⟩ T h (putQ T h d K)) := Eq.trans rfl rfl
@[go_sem] theorem XRo_g (d : Option Tmp) (op : Op) (t : TypeId) (p : String) (af : Array Edge) (g : Option (Nat × Bool)) : XRo P N hF .g ⟨d, op, t, p, af, g⟩ T h K = (dOk N d = true ∧ XFv P N (stp P T hF op) (putQ T h d K)) := Eq.trans rfl rfl
@[go_sem] theorem XRo_w (o : Oper) : XRo P N hF .w o T h K = XL P N o T h (wQ hF h K) := Eq.trans rfl rfl
@[go_sem] theorem XRo_s (o : Oper) : XRo P N hF .s o T h K = XL P N o T h K := Eq.trans rfl rfl
@[go_sem] theorem wQ_eq {h' : Hp} : wQ hF h K T h' = ((Sub hF h → Sub hF h') ∧ K T h') := Eq.trans rfl rfl
@[go_sem] theorem Sub_none : Sub (fun _ => none) h = True := eq_true fun _ _ e => by cases e
@[go_sem] theorem Sub_self : Sub h h = True := eq_true (Sub.refl h)
@[go_sem] theorem XFv_some (v : AV) (K : AV → Prop) : XFv P N (some v) K = K v := Eq.trans rfl rfl
@[go_sem] theorem XRg_same (b : Bool) (c : Cl) (o : Oper) : XRg P N hF (some b) b c o T h K = XRo P N hF c o T h K := by simp [XRg]
@[go_sem] theorem XRg_tf (c : Cl) (o : Oper) : XRg P N hF (some true) false c o T h K = (dOk N o.dst = true ∧ K (putD T o.dst un) h) := by simp [XRg]
@[go_sem] theorem XRg_ft (c : Cl) (o : Oper) : XRg P N hF (some false) true c o T h K = (dOk N o.dst = true ∧ K (putD T o.dst un) h) := by simp [XRg]
theorem XRg_true {b : Bool} {c : Cl} {o : Oper} (h1 : b = true → XRo P N hF c o T h K) (h2 : b = false → dOk N o.dst = true ∧ K (putD T o.dst un) h) : XRg P N hF (some b) true c o T h K := by
  cases b
  · rw [XRg_ft]; exact h2 rfl
  · rw [XRg_same]; exact h1 rfl
theorem XRg_false {b : Bool} {c : Cl} {o : Oper} (h1 : b = false → XRo P N hF c o T h K) (h2 : b = true → dOk N o.dst = true ∧ K (putD T o.dst un) h) : XRg P N hF (some b) false c o T h K := by
  cases b
  · rw [XRg_same]; exact h1 rfl
  · rw [XRg_tf]; exact h2 rfl
attribute [go_sem] clsOf light isStore
@[go_sem] theorem XL_store (d : Option Tmp) (t' : TypeId) (a x : Operand) (t : TypeId) (p : String) (af : Array Edge) (g : Option (Nat × Bool)) : XL P N ⟨d, .store t' a x, t, p, af, g⟩ T h K = XW P N ⟨d, .store t' a x, t, p, af, g⟩ T h K := Eq.trans rfl rfl
@[go_sem] theorem XL_append (d : Option Tmp) (args : Array Operand) (tys : Array TypeId) (t : TypeId) (p : String) (af : Array Edge) (g : Option (Nat × Bool)) : XL P N ⟨d, .call ⟨.builtin .append, args, tys⟩, t, p, af, g⟩ T h K = XW P N ⟨d, .call ⟨.builtin .append, args, tys⟩, t, p, af, g⟩ T h K := Eq.trans rfl rfl
@[go_sem] theorem XL_mapUpdate (d : Option Tmp) (t' : TypeId) (m k x : Operand) (t : TypeId) (p : String) (af : Array Edge) (g : Option (Nat × Bool)) : XL P N ⟨d, .mapUpdate t' m k x, t, p, af, g⟩ T h K = XW P N ⟨d, .mapUpdate t' m k x, t, p, af, g⟩ T h K := Eq.trans rfl rfl
@[go_sem] theorem XL_call (d : Option Tmp) (f : FuncId) (args : Array Operand) (tys : Array TypeId) (t : TypeId) (p : String) (af : Array Edge) (g : Option (Nat × Bool)) : XL P N ⟨d, .call ⟨.value (.func f), args, tys⟩, t, p, af, g⟩ T h K = XW P N ⟨d, .call ⟨.value (.func f), args, tys⟩, t, p, af, g⟩ T h K := Eq.trans rfl rfl
@[go_sem] theorem XL_callv (d : Option Tmp) (x : Tmp) (args : Array Operand) (tys : Array TypeId) (t : TypeId) (p : String) (af : Array Edge) (g : Option (Nat × Bool)) : XL P N ⟨d, .call ⟨.value (.tmp x), args, tys⟩, t, p, af, g⟩ T h K = XW P N ⟨d, .call ⟨.value (.tmp x), args, tys⟩, t, p, af, g⟩ T h K := Eq.trans rfl rfl
end
end Go.Proofs.YtmalhikcdideoaaGreatDoor.Sl
