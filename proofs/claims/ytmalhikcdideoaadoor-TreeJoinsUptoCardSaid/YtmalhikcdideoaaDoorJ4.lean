/- PROVED: the law TreeJoins returns true for every node, every list of expressions, every two expressions and every integer, and all read behind the call as they read before (the second form's row, and its tied card). Conditions: what the row itself asks (the listed variables of Go's library read as listed; what is read is of bulk at most 1048576). -/
import Derived.Test.YtmalhikcdideoaaDoorJ3
import Derived.Test.YtmalhikcdideoaaDoorSlS
import Derived.ChangeArms
import Derived.ChangeOld
import Derived.SizedLaws
import Derived.ChangeShapes
import Derived.WideShapes
import Derived.Test.YtmalhikcdideoaaDoorRows
import Derived.Test.YtmalhikcdideoaaDoorJ0
import Derived.Test.YtmalhikcdideoaaDoorFactsB
import Derived.WalkKit
import Derived.ProofKit
import Derived.OpenShut
import Derived.KernelRfl
import Derived.MakeChecks
import Derived.Test.YtmalhikcdideoaaDoorCards
import Derived.Test.YtmalhikcdideoaaDoorTie
import Derived.LaidMore
import Derived.Lay
import Derived.ShutString
import Derived.Below
import Derived.SevenTiedAt
import Derived.Deep.DeepHandedRow
set_option linter.unusedVariables false
set_option linter.unusedSimpArgs false
namespace Go.Proofs.YtmalhikcdideoaaDoor
open Go Sl
attribute [local irreducible] XRange LpQ XR XRo XRg XRQ putQ XFv XL XW2 wQ putW X XO XOp XH XHo XW SeqQ BlkQ XOQ XHQ NrmQ XC XM XG XHM XHG XD CallK
open Go.RowKit
mutual
theorem AllT_mono {Q Q' : Nd → Nat → Prop} : ∀ t : Tr, (∀ x n, Q x n → Q' x n) → AllT Q t → AllT Q' t
  | .mk x ks, h, a => by
    rw [AllT] at a ⊢
    exact ⟨h x _ a.1, AllL_mono ks h a.2⟩
theorem AllL_mono {Q Q' : Nd → Nat → Prop} : ∀ ts : List Tr, (∀ x n, Q x n → Q' x n) → AllL Q ts → AllL Q' ts
  | [], _, _ => by rw [AllL]; trivial
  | t :: r, h, a => by
    rw [AllL] at a ⊢
    exact ⟨AllT_mono t h a.1, AllL_mono r h a.2⟩
end
set_option maxHeartbeats 4000000 in
theorem placed2_ok (e w : List Nd) (q : Int) (hne : ∀ x ∈ e, x.nm.size ≤ 1048576) (hnw : ∀ x ∈ w, x.nm.size ≤ 1048576) (hel : e.length ≤ 1048576) : Pure Tryd.prog 26 [encL 5 cNd e, I q, encL 5 cNd w] (tup2 (encL 5 cNd (putF e q w).1) (I (putF e q w).2)) := by
  have hce := rerr_ok e
  have hcw := rerr_ok w
  rw [tree_chk] at hce hcw
  obtain ⟨Z, hZ⟩ : ∃ Z, putF e q w = Z := ⟨_, rfl⟩
  rw [hZ]
  unfold putF at hZ
  intro h; refine callK_body Tryd.func26 rfl (by rw [nt26]; simp) ?_; rw [nt26, rs26]
  (repeat' (first | simp [go_sem, X_region, *] | simp (disch := omega) only [om, *] | ((first | refine XC_split ?_ ?_ | refine XG_true ?_ ?_ | refine XG_false ?_ ?_ | refine XRg_true ?_ ?_ | refine XRg_false ?_ ?_) <;> intro hc <;> (try simp only [bl] at hc) <;> (try (exfalso; omega))) | refine XD_w [] [] [] (fun _ => none) mixed (by decide +kernel) (sub_none _) ?_ | fail))
  intro b14 hb14
  (repeat' (first | simp [go_sem, X_region, *] | simp (disch := omega) only [om, *] | ((first | refine XC_split ?_ ?_ | refine XG_true ?_ ?_ | refine XG_false ?_ ?_ | refine XRg_true ?_ ?_ | refine XRg_false ?_ ?_) <;> intro hc <;> (try simp only [bl] at hc) <;> (try (exfalso; omega))) | refine XD_w [] [] [] (fun _ => none) mixed (by decide +kernel) (sub_none _) ?_ | fail))
  refine X_lpH (fun i => (6 ≤ i ∧ i ≤ 7) ∨ (9 ≤ i ∧ i ≤ 10) ∨ (16 ≤ i ∧ i ≤ 25)) (fun hE n T g => ∃ i : Nat, n = 2 - i ∧ i ≤ 2 ∧ T 16 = I i ∧ g = hE ∧ (1 ≤ i → chkE (oneE nameF) e = 0) ∧ (2 ≤ i → chkE (oneE nameF) w = 0)) 2
    ⟨0, rfl, by omega, by simp [go_sem], rfl, fun h => by omega, fun h => by omega⟩ ?_
  rintro hE hEq J hJ n T g hfr ⟨i, rfl, hi, t16, rfl, c1, c2⟩
  obtain ⟨ob, hob, q1, q2, q3, u0, u1⟩ : ∃ ob : Ob, g = upd h b14 (some ob) ∧ ob.ty = 42 ∧ ob.s = 1 ∧ ob.n = 2 ∧ ob.f 0 0 = encL 5 cNd e ∧ ob.f 1 0 = encL 5 cNd w := ⟨_, hEq.symm, rfl, rfl, rfl, by simp [go_sem], by simp [go_sem]⟩
  clear hEq
  subst hob
  have hsub : Sub h (upd h b14 (some ob)) := Sub.upd hb14 (Sub.refl _)
  have hnil : ∀ c : Int, Wk (upd h b14 (some ob)) (tup2 (.v (.slice none 0 0)) (I c)) h (tup2 (encL 5 cNd []) (I c)) := fun c => Wk.tup2M hsub (Wk.nil.trans (Wk.drop _ hsub)) (Wk.drop _ hsub)
  rcases (show i = 0 ∨ i = 1 ∨ i = 2 by omega) with rfl | rfl | rfl
  · by_cases qe : chkE (oneE nameF) e = 0
    · rw [qe] at hce
      (repeat' (first | simp [go_sem, X_region, *] | simp (disch := omega) only [om, *] | ((first | refine XC_split ?_ ?_ | refine XG_true ?_ ?_ | refine XG_false ?_ ?_ | refine XRg_true ?_ ?_ | refine XRg_false ?_ ?_) <;> intro hc <;> (try simp only [bl] at hc) <;> (try (exfalso; omega))) | refine XD_w [] [] [] (fun _ => none) mixed (by decide +kernel) (sub_none _) ?_ | refine Pure.call (hce) ?_ | refine ⟨_, Pure.at (hce), ?_⟩ | refine ⟨_, hce, ?_⟩ | refine PureAt.call (hce) ?_ | fail))
      exact ⟨_, by decide, hJ.out _ _ _ ⟨(by (repeat (refine fr_upd (by decide) ?_)); exact hfr), 1, rfl, by omega, by simp [go_sem], rfl, fun _ => qe, fun h => by omega⟩⟩
    · rw [if_pos qe] at hZ
      generalize chkE (oneE nameF) e = c at *
      subst hZ
      (repeat' (first | simp [go_sem, X_region, *] | simp (disch := omega) only [om, *] | ((first | refine XC_split ?_ ?_ | refine XG_true ?_ ?_ | refine XG_false ?_ ?_ | refine XRg_true ?_ ?_ | refine XRg_false ?_ ?_) <;> intro hc <;> (try simp only [bl] at hc) <;> (try (exfalso; omega))) | refine XD_w [] [] [] (fun _ => none) mixed (by decide +kernel) (sub_none _) ?_ | refine Pure.call (hce) ?_ | refine ⟨_, Pure.at (hce), ?_⟩ | refine ⟨_, hce, ?_⟩ | refine PureAt.call (hce) ?_ | fail))
      all_goals exact hnil c
  · have qe := c1 (by omega)
    by_cases qw : chkE (oneE nameF) w = 0
    · rw [qw] at hcw
      (repeat' (first | simp [go_sem, X_region, *] | simp (disch := omega) only [om, *] | ((first | refine XC_split ?_ ?_ | refine XG_true ?_ ?_ | refine XG_false ?_ ?_ | refine XRg_true ?_ ?_ | refine XRg_false ?_ ?_) <;> intro hc <;> (try simp only [bl] at hc) <;> (try (exfalso; omega))) | refine XD_w [] [] [] (fun _ => none) mixed (by decide +kernel) (sub_none _) ?_ | refine Pure.call (hcw) ?_ | refine ⟨_, Pure.at (hcw), ?_⟩ | refine ⟨_, hcw, ?_⟩ | refine PureAt.call (hcw) ?_ | fail))
      first
        | exact ⟨_, by decide, hJ.out _ _ _ ⟨(by (repeat (refine fr_upd (by decide) ?_)); exact hfr), 2, rfl, by omega, by simp [go_sem], rfl, fun _ => qe, fun _ => qw⟩⟩
        | exact hJ.out _ _ _ ⟨(by (repeat (refine fr_upd (by decide) ?_)); exact hfr), 2, rfl, by omega, by simp [go_sem], rfl, fun _ => qe, fun _ => qw⟩
    · rw [if_neg (fun h => h qe), if_pos qw] at hZ
      generalize chkE (oneE nameF) w = c at *
      subst hZ
      (repeat' (first | simp [go_sem, X_region, *] | simp (disch := omega) only [om, *] | ((first | refine XC_split ?_ ?_ | refine XG_true ?_ ?_ | refine XG_false ?_ ?_ | refine XRg_true ?_ ?_ | refine XRg_false ?_ ?_) <;> intro hc <;> (try simp only [bl] at hc) <;> (try (exfalso; omega))) | refine XD_w [] [] [] (fun _ => none) mixed (by decide +kernel) (sub_none _) ?_ | refine Pure.call (hcw) ?_ | refine ⟨_, Pure.at (hcw), ?_⟩ | refine ⟨_, hcw, ?_⟩ | refine PureAt.call (hcw) ?_ | fail))
      all_goals exact hnil c
  · have qe := c1 (by omega)
    have qw := c2 (by omega)
    rw [if_neg (fun h => h qe), if_neg (fun h => h qw)] at hZ
    clear c1 c2 hce hcw
    by_cases qq : 0 ≤ q ∧ q < e.length
    case neg =>
      rw [if_pos qq] at hZ
      subst hZ
      (repeat' (first | simp [go_sem, X_region, *] | simp (disch := omega) only [om, *] | ((first | refine XC_split ?_ ?_ | refine XG_true ?_ ?_ | refine XG_false ?_ ?_ | refine XRg_true ?_ ?_ | refine XRg_false ?_ ?_) <;> intro hc <;> (try simp only [bl] at hc) <;> (try (exfalso; omega))) | refine XD_w [] [] [] (fun _ => none) mixed (by decide +kernel) (sub_none _) ?_ | fail))
      all_goals first | exact hnil 1 | (exfalso; omega)
    rw [if_neg (fun h => h qq)] at hZ
    obtain ⟨g1, g2⟩ := place_facts q qe qw
    obtain ⟨a1, a2, hv, hk3, hsz⟩ := chk_facts qe
    obtain ⟨b1, b2, hvw, hk3w, hszw⟩ := chk_facts qw
    have h1 := tree_at qw (w.length - 1) (by omega)
    have h2 := placed_ok e hv hk3 q (rootT w) (e.length - 1) (by omega)
    have h3 := flat_ok (placeAt e q (rootT w) (e.length - 1)) (by have := g1 (e.length - 1) (by omega); omega) (AllT_mono _ (fun x n h => by omega) (g2 (e.length - 1) (by omega)))
    have hFl := flatT_len (placeAt e q (rootT w) (e.length - 1))
    have hFs := g1 (e.length - 1) (by omega)
    have e1 : ((e.length - 1 : Nat) : Int) = (e.length : Int) - 1 := by omega
    have e2 : ((w.length - 1 : Nat) : Int) = (w.length : Int) - 1 := by omega
    rw [e1] at h2
    rw [e2] at h1
    change Pure Tryd.prog _ _ (aggL (cTr (rootT w))) at h1
    generalize flatT (placeAt e q (rootT w) (e.length - 1)) = F at *
    have hFl2 : F.length ≤ 10000 := by omega
    clear hFl hFs g1 g2 hsz
    generalize placeAt e q (rootT w) (e.length - 1) = tt at *
    generalize rootT w = tw at *
    obtain ⟨tx, tk⟩ := tt
    obtain ⟨wx, wk⟩ := tw
    rw [cTr_mk] at h1
    rw [cTr_mk, cTr_mk] at h2
    rw [cTr_mk] at h3
    by_cases ql : 100 < F.length
    · rw [if_pos ql] at hZ
      subst hZ
      (repeat' (first | simp [go_sem, X_region, *] | simp (disch := omega) only [om, *] | ((first | refine XC_split ?_ ?_ | refine XG_true ?_ ?_ | refine XG_false ?_ ?_ | refine XRg_true ?_ ?_ | refine XRg_false ?_ ?_) <;> intro hc <;> (try simp only [bl] at hc) <;> (try (exfalso; omega))) | refine XD_w [] [] [] (fun _ => none) mixed (by decide +kernel) (sub_none _) ?_ | refine Pure.call (h1) ?_ | refine ⟨_, Pure.at (h1), ?_⟩ | refine ⟨_, h1, ?_⟩ | refine PureAt.call (h1) ?_ | refine Pure.call (h2) ?_ | refine ⟨_, Pure.at (h2), ?_⟩ | refine ⟨_, h2, ?_⟩ | refine PureAt.call (h2) ?_ | refine Pure.call (h3) ?_ | refine ⟨_, Pure.at (h3), ?_⟩ | refine ⟨_, h3, ?_⟩ | refine PureAt.call (h3) ?_ | fail))
      all_goals exact hnil 2
    · rw [if_neg ql] at hZ
      subst hZ
      (repeat' (first | simp [go_sem, X_region, *] | simp (disch := omega) only [om, *] | ((first | refine XC_split ?_ ?_ | refine XG_true ?_ ?_ | refine XG_false ?_ ?_ | refine XRg_true ?_ ?_ | refine XRg_false ?_ ?_) <;> intro hc <;> (try simp only [bl] at hc) <;> (try (exfalso; omega))) | refine XD_w [] [] [] (fun _ => none) mixed (by decide +kernel) (sub_none _) ?_ | refine Pure.call (h1) ?_ | refine ⟨_, Pure.at (h1), ?_⟩ | refine ⟨_, h1, ?_⟩ | refine PureAt.call (h1) ?_ | refine Pure.call (h2) ?_ | refine ⟨_, Pure.at (h2), ?_⟩ | refine ⟨_, h2, ?_⟩ | refine PureAt.call (h2) ?_ | refine Pure.call (h3) ?_ | refine ⟨_, Pure.at (h3), ?_⟩ | refine ⟨_, h3, ?_⟩ | refine PureAt.call (h3) ?_ | fail))
      all_goals exact Wk.drop _ hsub
theorem putF_ok {e w : List Nd} (q : Int) (he : okS e) (hw : okS w) : okS (putF e q w).1 := by
  have h0 : okS [] := ⟨Nat.zero_le _, fun x hx => by cases hx⟩
  unfold putF
  by_cases qe : chkE (oneE nameF) e = 0
  case neg => rw [if_pos qe]; exact h0
  rw [if_neg (fun h => h qe)]
  by_cases qw : chkE (oneE nameF) w = 0
  case neg => rw [if_pos qw]; exact h0
  rw [if_neg (fun h => h qw)]
  by_cases qq : 0 ≤ q ∧ q < e.length
  case neg => rw [if_pos qq]; exact h0
  rw [if_neg (fun h => h qq)]
  by_cases ql : 100 < (flatT (placeAt e q (rootT w) (e.length - 1))).length
  · rw [if_pos ql]; exact h0
  rw [if_neg ql]
  obtain ⟨a1, a2, hv, hk3, hsz⟩ := chk_facts qe
  obtain ⟨b1, b2, hvw, hk3w, hszw⟩ := chk_facts qw
  obtain ⟨g1, _⟩ := place_facts q qe qw
  have hs := g1 (e.length - 1) (by omega)
  have key : ∀ (e : List Nd), okS e → ∀ (i : Nat) (x : Nd), e[i]? = some x → (fun (x : Nd) (n : Nat) => x.nm.size ≤ 1048576 ∧ n ≤ 1048576 ∧ i64B x.op ∧ i64B x.kd ∧ i64B x.n) (bare x) x.kids.length := fun e he i x hx => by
    obtain ⟨b1, b2, b3, b4, b5, _⟩ := he.2 x (List.mem_of_getElem? hx)
    exact ⟨b1, b2, b3, b4, b5⟩
  have h3 := placeAt_all hv q (rootT w) (fun x n => x.nm.size ≤ 1048576 ∧ n ≤ 1048576 ∧ i64B x.op ∧ i64B x.kd ∧ i64B x.n) (key e he) (treeAt_all hvw _ (key w hw) (w.length - 1) (by omega)) (e.length - 1) (by omega)
  refine ⟨by simp only; omega, fun x hx => ?_⟩
  have h4 := flatT_ok _ h3 (fun x n => Iff.rfl) x hx
  obtain ⟨b1, b2, b3, b4, b5⟩ := h4.own
  exact ⟨b1, b2, b3, b4, b5, fun k hk => by have := h4.kids k hk; exact ⟨by omega, by omega⟩⟩
end Go.Proofs.YtmalhikcdideoaaDoor

set_option linter.unusedVariables false
set_option linter.unusedSimpArgs false
namespace Go.Proofs.YtmalhikcdideoaaDoor
open Go Sl
attribute [local irreducible] XRange LpQ XR XRo XRg XRQ putQ XFv XL XW2 wQ putW X XO XOp XH XHo XW SeqQ BlkQ XOQ XHQ NrmQ XC XM XG XHM XHG XD CallK
open Go.RowKit
theorem rootL_size : ∀ l : List (List Nd), l.all okE = true → sizeL (l.map rootT) ≤ 100 * l.length
  | [], _ => by rw [List.map_nil, sizeL]; simp
  | k :: r, h => by
    rw [List.all_cons, Bool.and_eq_true] at h
    have h1 := rootL_size r h.2
    obtain ⟨a1, a2, hv, hk3, hsz⟩ := chk_facts (of_decide_eq_true h.1 : chkE (oneE nameF) k = 0)
    have h2 := hsz (k.length - 1) (by omega)
    rw [List.map_cons, sizeL, List.length_cons]
    unfold rootT at h1 ⊢
    omega
theorem rootL_all (Q : Nd → Nat → Prop) : ∀ l : List (List Nd), l.all okE = true → (∀ k ∈ l, ∀ (i : Nat) (x : Nd), k[i]? = some x → Q (bare x) x.kids.length) → AllL Q (l.map rootT)
  | [], _, _ => by rw [List.map_nil, AllL]; trivial
  | k :: r, h, hq => by
    rw [List.all_cons, Bool.and_eq_true] at h
    obtain ⟨a1, a2, hv, hk3, hsz⟩ := chk_facts (of_decide_eq_true h.1 : chkE (oneE nameF) k = 0)
    rw [List.map_cons, AllL]
    exact ⟨treeAt_all hv Q (hq k (List.mem_cons_self ..)) (k.length - 1) (by omega), rootL_all Q r h.2 fun j hj => hq j (List.mem_cons_of_mem _ hj)⟩
/-- Before a call a block is told anew, other blocks no more. -/
theorem CallK.retell {P : Program} {h h1 : Hp} {d : Nat} {od : Ob} {f : FuncId} {args : List AV} {K : AV → Hp → Prop} (f' : Nat → Nat → AV) (hs : Sub h1 h) (hd : h1 d = some od) (h0 : 0 < od.s) (hf : ∀ i, i < od.n → ∀ j, j < od.s → Wk h (od.f i j) h1 (f' i j))
    (c : CallK P (upd h1 d (some { od with f := f' })) f args K) : CallK P h f args K := by
  unfold CallK at c ⊢
  intro w vals hh ha
  obtain ⟨st, rh⟩ := YtmalhikcdideoaaDoor.retell hh hs hd h0 hf
  refine (c w vals rh ⟨ha.1, fun i a hi => by obtain ⟨u, e, r⟩ := ha.2 i a hi; exact ⟨u, e, r.step st⟩⟩).mono ?_
  rintro e w' ⟨u, r, h', k1, k2, k3, k4, k5, k6⟩
  exact ⟨u, r, h', k1, k2, k3, k4, k5, st.trans k6⟩
set_option maxHeartbeats 8000000 in
theorem joins_ok (x : Nd) (l : List (List Nd)) (e w : List Nd) (q : Int) (hx : x.nm.size ≤ 1048576 ∧ i64B x.op ∧ i64B x.kd ∧ i64B x.n) (hl : l.length ≤ 1048576) (hlk : ∀ k ∈ l, okS k) (he : okS e) (hw : okS w) :
    Pure Tryd.prog 5 [aggL (cNd x), encL 1 cE l, encL 5 cNd e, I q, encL 5 cNd w] (B true) := by
  have hbg := trbegun_ok
  have hj := trjoin_ok x l hl hx.1 fun k hk => ⟨(hlk k hk).1, fun y hy => ((hlk k hk).2 y hy).1⟩
  have hp1 := put2_ok e w q (fun y hy => (he.2 y hy).1) (fun y hy => (hw.2 y hy).1) he.1
  have hp2 := placed2_ok e w q (fun y hy => (he.2 y hy).1) (fun y hy => (hw.2 y hy).1) he.1
  have hp3 := shown_ok _ (putF_ok q he hw).1 (putF_ok q he hw).2
  generalize putF e q w = Z at *
  obtain ⟨P, c⟩ := Z
  dsimp only at hp1 hp2 hp3
  generalize bOf (showE P) = sP at *
  simp only [cNd] at hj
  simp only [cNd]
  intro h; refine CallK.lens fun hlen => ?_; have hlen := (hlen _ (by simp only [List.mem_cons, true_or, or_true] : (encL 1 cE l) ∈ _)).encL; refine callK_body Tryd.func5 rfl (by rw [nt5]; simp) ?_; rw [nt5, rs5]
  (repeat' (first | simp [go_sem, X_region, *] | simp (disch := omega) only [om, *] | ((first | refine XC_split ?_ ?_ | refine XG_true ?_ ?_ | refine XG_false ?_ ?_ | refine XRg_true ?_ ?_ | refine XRg_false ?_ ?_) <;> intro hc <;> (try simp only [bl] at hc) <;> (try (exfalso; omega))) | refine XD_w [] [] [] (fun _ => none) mixed (by decide +kernel) (sub_none _) ?_ | refine Pure.call (hbg) ?_ | refine ⟨_, Pure.at (hbg), ?_⟩ | refine ⟨_, hbg, ?_⟩ | refine PureAt.call (hbg) ?_ | fail))
  intro b5 hb5
  (repeat' (first | simp [go_sem, X_region, *] | simp (disch := omega) only [om, *] | ((first | refine XC_split ?_ ?_ | refine XG_true ?_ ?_ | refine XG_false ?_ ?_ | refine XRg_true ?_ ?_ | refine XRg_false ?_ ?_) <;> intro hc <;> (try simp only [bl] at hc) <;> (try (exfalso; omega))) | refine XD_w [] [] [] (fun _ => none) mixed (by decide +kernel) (sub_none _) ?_ | refine Pure.call (hbg) ?_ | refine ⟨_, Pure.at (hbg), ?_⟩ | refine ⟨_, hbg, ?_⟩ | refine PureAt.call (hbg) ?_ | fail))
  intro b11 m1 m2 hb11
  (repeat' (first | simp [go_sem, X_region, *] | simp (disch := omega) only [om, *] | ((first | refine XC_split ?_ ?_ | refine XG_true ?_ ?_ | refine XG_false ?_ ?_ | refine XRg_true ?_ ?_ | refine XRg_false ?_ ?_) <;> intro hc <;> (try simp only [bl] at hc) <;> (try (exfalso; omega))) | refine XD_w [] [] [] (fun _ => none) mixed (by decide +kernel) (sub_none _) ?_ | fail))
  refine X_lpF (fun i => i = 12 ∨ i = 14 ∨ (26 ≤ i ∧ i ≤ 48)) (fun n T g => ∃ (i : Nat) (r : List (List Nd)) (acc : List Tr) (ob5 ob : Ob) (a : AV) (bad : Bool), n = r.length ∧ i ≤ l.length ∧ l.drop i = r ∧ T 26 = I i ∧ T 12 = B bad ∧ acc.length ≤ i ∧ (bad = false → acc ++ r.map rootT = l.map rootT ∧ l.all okE = r.all okE) ∧ (bad = true → l.all okE = false) ∧
      Own (upd (upd h b5 (some ob5)) b11 (some ob)) g a 45 6 acc.length (cellsL cTr acc) ∧ (ob5.s = 5 ∧ ob5.n = 1 ∧ ob5.ty = 39 ∧ ob5.f 0 0 = I x.op ∧ ob5.f 0 1 = encL 1 cI x.kids ∧ ob5.f 0 2 = I x.kd ∧ ob5.f 0 3 = I x.n ∧ ob5.f 0 4 = S x.nm) ∧ ob.s = 6 ∧ ob.n = 1 ∧ ob.ty = 45 ∧ ob.f 0 0 = I x.op ∧ ob.f 0 1 = encL 1 cI x.kids ∧ ob.f 0 2 = I x.kd ∧ ob.f 0 3 = I x.n ∧ ob.f 0 4 = S x.nm ∧ ob.f 0 5 = a) l.length
    ⟨0, l, [], _, _, .v (.slice none 0 0), false, rfl, by omega, rfl, by simp [go_sem], by simp [go_sem], by simp, fun _ => ⟨rfl, rfl⟩, (fun h => by cases h), by simpa [go_sem] using Own.none, ⟨rfl, rfl, rfl, by simp [go_sem], by simp [go_sem], by simp [go_sem], by simp [go_sem], by simp [go_sem]⟩, rfl, rfl, rfl, by simp [go_sem], by simp [go_sem], by simp [go_sem], by simp [go_sem], by simp [go_sem], by simp [go_sem]⟩ ?_
  clear hbg
  rintro J hJ n T g hfr ⟨i, r, acc, ob5, ob, a, bad, rfl, hi, hd, t26, t12, hal, hg, hbd, hown, ⟨p1, p2, p3, v0, v1, v2, v3, v4⟩, q1, q2, q3, f0, f1, f2, f3, f4, f5⟩
  have e11 : g b11 = some ob := hown.1 b11 _ (upd_same _ _ _)
  have e5 : g b5 = some ob5 := hown.1 b5 _ (by rw [upd_ne _ _ m2]; exact upd_same _ _ _)
  rcases r with _ | ⟨y, r⟩
  · have hlt := drop_nil hd
    have hret : ∀ {K : AV → Hp → Prop}, K (encL 5 cNd (joinF x l)) (upd (upd (upd h b5 (some ob5)) b11 (some ob)) b11 (some ⟨ob.ty, ob.s, ob.n, fun i j => if j = 5 then encL 6 cTr acc else ob.f i j⟩)) → CallK Tryd.prog g 22 [aggL [I x.op, encL 1 cI x.kids, I x.kd, I x.n, S x.nm], encL 1 cE l] K := fun hK =>
      CallK.retell (fun i j => if j = 5 then encL 6 cTr acc else ob.f i j) hown.1 (upd_same _ _ _) (by omega) (fun i hi j hj => by
        obtain rfl : i = 0 := by omega
        by_cases h5 : j = 5
        · subst h5
          rw [if_pos rfl, f5]
          exact hown.frozen (by omega)
        · rw [if_neg h5]
          exact Wk.drop _ hown.1) (Pure.call hj hK)
    cases bad with
    | true =>
      have hjn : joinF x l = [] := by unfold joinF; rw [if_neg (fun h => by rw [hbd rfl] at h; cases h.1)]
      rw [hjn] at hret
      clear hj hg hbd
      (repeat' (first | simp [go_sem, X_region, *] | simp (disch := omega) only [om, *] | ((first | refine XC_split ?_ ?_ | refine XG_true ?_ ?_ | refine XG_false ?_ ?_ | refine XRg_true ?_ ?_ | refine XRg_false ?_ ?_) <;> intro hc <;> (try simp only [bl] at hc) <;> (try (exfalso; omega))) | refine XD_w [] [] [] (fun _ => none) mixed (by decide +kernel) (sub_none _) ?_ | fail))
      refine hret ?_
      (repeat' (first | simp [go_sem, X_region, *] | simp (disch := omega) only [om, *] | ((first | refine XC_split ?_ ?_ | refine XG_true ?_ ?_ | refine XG_false ?_ ?_ | refine XRg_true ?_ ?_ | refine XRg_false ?_ ?_) <;> intro hc <;> (try simp only [bl] at hc) <;> (try (exfalso; omega))) | refine XD_w [] [] [] (fun _ => none) mixed (by decide +kernel) (sub_none _) ?_ | refine Pure.call (hp1) ?_ | refine ⟨_, Pure.at (hp1), ?_⟩ | refine ⟨_, hp1, ?_⟩ | refine PureAt.call (hp1) ?_ | refine Pure.call (hp2) ?_ | refine ⟨_, Pure.at (hp2), ?_⟩ | refine ⟨_, hp2, ?_⟩ | refine PureAt.call (hp2) ?_ | refine Pure.call (hp3) ?_ | refine ⟨_, Pure.at (hp3), ?_⟩ | refine ⟨_, hp3, ?_⟩ | refine PureAt.call (hp3) ?_ | fail))
      exact Wk.drop _ (Sub.upd hb11 (Sub.upd hb5 (Sub.refl _)))
    | false =>
      obtain ⟨hg1, hg2⟩ := hg rfl
      rw [List.map_nil, List.append_nil] at hg1
      have hall : l.all okE = true := hg2
      subst hg1
      have hsz := rootL_size l hall
      have hQ := rootL_all (fun x n => x.nm.size ≤ 1048576 ∧ n ≤ 1048576 ∧ i64B x.op ∧ i64B x.kd ∧ i64B x.n) l hall fun k hk i y hy => by
        obtain ⟨b1, b2, b3, b4, b5, _⟩ := (hlk k hk).2 y (List.mem_of_getElem? hy)
        exact ⟨b1, b2, b3, b4, b5⟩
      have hT : AllT (fun x n => x.nm.size ≤ 1048576 ∧ n ≤ 1048576 ∧ i64B x.op ∧ i64B x.kd ∧ i64B x.n) (.mk x (l.map rootT)) := by
        rw [AllT, List.length_map]
        exact ⟨⟨hx.1, hl, hx.2.1, hx.2.2.1, hx.2.2.2⟩, hQ⟩
      have hTs : sizeT (.mk x (l.map rootT)) ≤ 1000000000 := by rw [sizeT]; omega
      have hfl := flat_gen x (l.map rootT) (encL 1 cI x.kids) hTs (AllT_mono _ (fun x n h => by omega) hT)
      have hF := flatT_len (.mk x (l.map rootT))
      have hnd := flatT_ok _ hT (fun x n => Iff.rfl)
      have hre := rerr_ok (flatT (.mk x (l.map rootT)))
      rw [tree_chk] at hre
      unfold joinF at hret
      by_cases qF : chkE (oneE nameF) (flatT (.mk x (l.map rootT))) = 0
      · rw [if_pos ⟨hall, qF⟩] at hret
        rw [qF] at hre
        have hle := (chk_facts qF).1
        have hS := shown_ok (flatT (.mk x (l.map rootT))) (by omega) fun y hy => by
          obtain ⟨b1, b2, b3, b4, b5⟩ := (hnd y hy).own
          exact ⟨b1, b2, b3, b4, b5, fun k hk => by have := (hnd y hy).kids k hk; exact ⟨by omega, by omega⟩⟩
        generalize flatT (.mk x (l.map rootT)) = F at *
        generalize l.map rootT = ts at *
        generalize bOf (showE F) = sF at *
        clear hj hg hbd hQ hT hnd
        (repeat' (first | simp [go_sem, X_region, *] | simp (disch := omega) only [om, *] | ((first | refine XC_split ?_ ?_ | refine XG_true ?_ ?_ | refine XG_false ?_ ?_ | refine XRg_true ?_ ?_ | refine XRg_false ?_ ?_) <;> intro hc <;> (try simp only [bl] at hc) <;> (try (exfalso; omega))) | refine XD_w [] [] [] (fun _ => none) mixed (by decide +kernel) (sub_none _) ?_ | fail))
        refine hret ?_
        (repeat' (first | simp [go_sem, X_region, *] | simp (disch := omega) only [om, *] | ((first | refine XC_split ?_ ?_ | refine XG_true ?_ ?_ | refine XG_false ?_ ?_ | refine XRg_true ?_ ?_ | refine XRg_false ?_ ?_) <;> intro hc <;> (try simp only [bl] at hc) <;> (try (exfalso; omega))) | refine XD_w [] [] [] (fun _ => none) mixed (by decide +kernel) (sub_none _) ?_ | refine Pure.call (hfl) ?_ | refine ⟨_, Pure.at (hfl), ?_⟩ | refine ⟨_, hfl, ?_⟩ | refine PureAt.call (hfl) ?_ | refine Pure.call (hre) ?_ | refine ⟨_, Pure.at (hre), ?_⟩ | refine ⟨_, hre, ?_⟩ | refine PureAt.call (hre) ?_ | refine Pure.call (hS) ?_ | refine ⟨_, Pure.at (hS), ?_⟩ | refine ⟨_, hS, ?_⟩ | refine PureAt.call (hS) ?_ | refine Pure.call (hp1) ?_ | refine ⟨_, Pure.at (hp1), ?_⟩ | refine ⟨_, hp1, ?_⟩ | refine PureAt.call (hp1) ?_ | refine Pure.call (hp2) ?_ | refine ⟨_, Pure.at (hp2), ?_⟩ | refine ⟨_, hp2, ?_⟩ | refine PureAt.call (hp2) ?_ | refine Pure.call (hp3) ?_ | refine ⟨_, Pure.at (hp3), ?_⟩ | refine ⟨_, hp3, ?_⟩ | refine PureAt.call (hp3) ?_ | fail))
        exact Wk.drop _ (Sub.upd hb11 (Sub.upd hb5 (Sub.refl _)))
      · rw [if_neg (fun h => qF h.2)] at hret
        generalize flatT (.mk x (l.map rootT)) = F at *
        generalize l.map rootT = ts at *
        generalize chkE (oneE nameF) F = cF at *
        clear hj hg hbd hQ hT hnd
        (repeat' (first | simp [go_sem, X_region, *] | simp (disch := omega) only [om, *] | ((first | refine XC_split ?_ ?_ | refine XG_true ?_ ?_ | refine XG_false ?_ ?_ | refine XRg_true ?_ ?_ | refine XRg_false ?_ ?_) <;> intro hc <;> (try simp only [bl] at hc) <;> (try (exfalso; omega))) | refine XD_w [] [] [] (fun _ => none) mixed (by decide +kernel) (sub_none _) ?_ | fail))
        refine hret ?_
        (repeat' (first | simp [go_sem, X_region, *] | simp (disch := omega) only [om, *] | ((first | refine XC_split ?_ ?_ | refine XG_true ?_ ?_ | refine XG_false ?_ ?_ | refine XRg_true ?_ ?_ | refine XRg_false ?_ ?_) <;> intro hc <;> (try simp only [bl] at hc) <;> (try (exfalso; omega))) | refine XD_w [] [] [] (fun _ => none) mixed (by decide +kernel) (sub_none _) ?_ | refine Pure.call (hfl) ?_ | refine ⟨_, Pure.at (hfl), ?_⟩ | refine ⟨_, hfl, ?_⟩ | refine PureAt.call (hfl) ?_ | refine Pure.call (hre) ?_ | refine ⟨_, Pure.at (hre), ?_⟩ | refine ⟨_, hre, ?_⟩ | refine PureAt.call (hre) ?_ | refine Pure.call (hp1) ?_ | refine ⟨_, Pure.at (hp1), ?_⟩ | refine ⟨_, hp1, ?_⟩ | refine PureAt.call (hp1) ?_ | refine Pure.call (hp2) ?_ | refine ⟨_, Pure.at (hp2), ?_⟩ | refine ⟨_, hp2, ?_⟩ | refine PureAt.call (hp2) ?_ | refine Pure.call (hp3) ?_ | refine ⟨_, Pure.at (hp3), ?_⟩ | refine ⟨_, hp3, ?_⟩ | refine PureAt.call (hp3) ?_ | fail))
        exact Wk.drop _ (Sub.upd hb11 (Sub.upd hb5 (Sub.refl _)))
  · obtain ⟨hlt, hxk, hd2⟩ := drop_cons hd
    cases bad with
    | true =>
      (repeat' (first | simp [go_sem, X_region, *] | simp (disch := omega) only [om, *] | ((first | refine XC_split ?_ ?_ | refine XG_true ?_ ?_ | refine XG_false ?_ ?_ | refine XRg_true ?_ ?_ | refine XRg_false ?_ ?_) <;> intro hc <;> (try simp only [bl] at hc) <;> (try (exfalso; omega))) | refine XD_w [] [] [] (fun _ => none) mixed (by decide +kernel) (sub_none _) ?_ | fail))
      exact ⟨_, Nat.lt_succ_self _, hJ.out _ _ _ ⟨(by (repeat (refine fr_upd (by decide) ?_)); exact hfr), i + 1, r, acc, ob5, ob, a, true, rfl, by omega, hd2, by simp [go_sem], by simp [go_sem], by omega, (fun h => by cases h), hbd, hown, ⟨p1, p2, p3, v0, v1, v2, v3, v4⟩, q1, q2, q3, f0, f1, f2, f3, f4, f5⟩⟩
    | false =>
      obtain ⟨hg1, hg2⟩ := hg rfl
      have hE : cE y = [encL 5 cNd y] := rfl
      have hcy := rerr_ok y
      rw [tree_chk] at hcy
      by_cases qy : chkE (oneE nameF) y = 0
      case neg =>
        have hbf : l.all okE = false := by rw [hg2, List.all_cons]; simp [okE, qy]
        generalize chkE (oneE nameF) y = c at *
        (repeat' (first | simp [go_sem, X_region, *] | simp (disch := omega) only [om, *] | ((first | refine XC_split ?_ ?_ | refine XG_true ?_ ?_ | refine XG_false ?_ ?_ | refine XRg_true ?_ ?_ | refine XRg_false ?_ ?_) <;> intro hc <;> (try simp only [bl] at hc) <;> (try (exfalso; omega))) | refine XD_w [] [] [] (fun _ => none) mixed (by decide +kernel) (sub_none _) ?_ | refine Pure.call (hcy) ?_ | refine ⟨_, Pure.at (hcy), ?_⟩ | refine ⟨_, hcy, ?_⟩ | refine PureAt.call (hcy) ?_ | fail))
        exact ⟨_, Nat.lt_succ_self _, hJ.out _ _ _ ⟨(by (repeat (refine fr_upd (by decide) ?_)); exact hfr), i + 1, r, acc, ob5, ob, a, true, rfl, by omega, hd2, by simp [go_sem], by simp [go_sem], by omega, (fun h => by cases h), fun _ => hbf, hown, ⟨p1, p2, p3, v0, v1, v2, v3, v4⟩, q1, q2, q3, f0, f1, f2, f3, f4, f5⟩⟩
      obtain ⟨a1, a2, _⟩ := chk_facts qy
      have htr := tree_at qy (y.length - 1) (by omega)
      have e1 : ((y.length - 1 : Nat) : Int) = (y.length : Int) - 1 := by omega
      rw [e1] at htr
      change Pure Tryd.prog _ _ (aggL (cTr (rootT y))) at htr
      have hoy : okE y = true := decide_eq_true qy
      rw [List.all_cons, hoy, Bool.true_and] at hg2
      rw [List.map_cons] at hg1
      rw [qy] at hcy
      generalize rootT y = tr at *
      obtain ⟨trx, trk⟩ := tr
      rw [cTr_mk] at htr
      (repeat' (first | simp [go_sem, X_region, *] | simp (disch := omega) only [om, *] | ((first | refine XC_split ?_ ?_ | refine XG_true ?_ ?_ | refine XG_false ?_ ?_ | refine XRg_true ?_ ?_ | refine XRg_false ?_ ?_) <;> intro hc <;> (try simp only [bl] at hc) <;> (try (exfalso; omega))) | refine XD_w [] [] [] (fun _ => none) mixed (by decide +kernel) (sub_none _) ?_ | refine Pure.call (hcy) ?_ | refine ⟨_, Pure.at (hcy), ?_⟩ | refine ⟨_, hcy, ?_⟩ | refine PureAt.call (hcy) ?_ | refine Pure.call (htr) ?_ | refine ⟨_, Pure.at (htr), ?_⟩ | refine ⟨_, htr, ?_⟩ | refine PureAt.call (htr) ?_ | fail))
      refine Own.push2 (x := Tr.mk trx trk) (enc := cTr) hown (by simp [go_sem]) und43 zr45 by45 (by simp [go_sem]) (by simp [go_sem]; rfl) (by rw [cTr_mk]; rfl) (by omega) (by omega) fun a1 h1 hown1 hkeep1 => ?_
      have k11 := hown1.1 b11 _ (upd_same _ _ _)
      have hl1 : (acc ++ [Tr.mk trx trk]).length = acc.length + 1 := by simp
      rw [hl1] at hown1
      obtain ⟨gb, rfl⟩ : ∃ gb, a1 = .row gb 6 0 (acc.length + 1) := by
        rcases hown1.2 with ⟨h0, _⟩ | ⟨gb, og, h0, _⟩
        · omega
        · exact ⟨gb, h0⟩
      (repeat' (first | simp [go_sem, X_region, *] | simp (disch := omega) only [om, *] | ((first | refine XC_split ?_ ?_ | refine XG_true ?_ ?_ | refine XG_false ?_ ?_ | refine XRg_true ?_ ?_ | refine XRg_false ?_ ?_) <;> intro hc <;> (try simp only [bl] at hc) <;> (try (exfalso; omega))) | refine XD_w [] [] [] (fun _ => none) mixed (by decide +kernel) (sub_none _) ?_ | fail))
      have w5 := own_other (o2 := ⟨45, 6, 1, fun i' j' => if i' = 0 ∧ 5 ≤ j' ∧ j' < 6 then .row gb 6 0 (acc.length + 1) else ob.f i' j'⟩) hown1 (upd_same _ _ _)
      rw [upd_upd] at w5
      exact ⟨_, Nat.lt_succ_self _, hJ.out _ _ _ ⟨(by (repeat (refine fr_upd (by decide) ?_)); exact hfr), i + 1, r, acc ++ [Tr.mk trx trk], ob5, _, .row gb 6 0 (acc.length + 1), false, rfl, by omega, hd2, by simp [go_sem], by simp [go_sem], by rw [hl1]; omega, fun _ => ⟨by rw [← hg1]; simp, hg2⟩, (fun h => by cases h), by rw [hl1]; exact w5, ⟨p1, p2, p3, v0, v1, v2, v3, v4⟩, rfl, rfl, rfl, by simp [f0], by simp [f1], by simp [f2], by simp [f3], by simp [f4], by simp⟩⟩
end Go.Proofs.YtmalhikcdideoaaDoor

set_option linter.unusedVariables false
namespace Go.Proofs.YtmalhikcdideoaaDoor
open Go Go.ChangeShapes Go.WideShapes Sl
/-- These cells, told. -/
def CellsR (w : World) (cs : List Value) (l : List AV) : Prop := cs.length = l.length ∧ ∀ j, j < l.length → ∃ x, cs[j]? = some x ∧ x.oneCell' = true ∧ Rd w (fun _ => none) (l.getD j .any) x
theorem CellsR.nil (w : World) : CellsR w [] [] := ⟨rfl, fun j hj => absurd hj (Nat.not_lt_zero j)⟩
theorem CellsR.one {w : World} {x : Value} {a : AV} (h1 : x.oneCell' = true) (h2 : Rd w (fun _ => none) a x) : CellsR w [x] [a] := ⟨rfl, fun j hj => by
  obtain rfl : j = 0 := by simp at hj; omega
  exact ⟨x, rfl, h1, h2⟩⟩
theorem CellsR.append {w : World} {cs cs' : List Value} {l l' : List AV} (a : CellsR w cs l) (b : CellsR w cs' l') : CellsR w (cs ++ cs') (l ++ l') := by
  refine ⟨by simp [a.1, b.1], fun j hj => ?_⟩
  by_cases hl : j < l.length
  · obtain ⟨x, h1, h2, h3⟩ := a.2 j hl
    refine ⟨x, ?_, h2, ?_⟩
    · rw [List.getElem?_append_left (by rw [a.1]; exact hl)]; exact h1
    · rw [List.getD_eq_getElem?_getD] at h3 ⊢
      rw [List.getElem?_append_left hl]; exact h3
  · obtain ⟨x, h1, h2, h3⟩ := b.2 (j - l.length) (by simp at hj; omega)
    refine ⟨x, ?_, h2, ?_⟩
    · rw [List.getElem?_append_right (by rw [a.1]; omega), a.1]; exact h1
    · rw [List.getD_eq_getElem?_getD] at h3 ⊢
      rw [List.getElem?_append_right (by omega)]; exact h3
/-- Of each value of this type that can be read: it is told by cells of which Q speaks. -/
def OpensQ (P : Program) (w : World) (t : TypeId) (Q : List AV → Prop) : Prop :=
  ∀ (H : Type) (enc : TypeId × Value → H) (base : Nat) (sp : Nat → Bool) (held : Bool) (fuel : Nat) (cs : List Value) (d : DataW H) (p : List MemPlace),
    DataW.trod enc P w base sp held fuel t cs = some (d, p) → (∀ n ∈ d.weights P t, n ≤ reachBytes) → ∃ l, Q l ∧ CellsR w cs l
section
variable {P : Program} {w : World} {t e : TypeId}
theorem OpensQ.mono {Q Q' : List AV → Prop} (o : OpensQ P w t Q) (h : ∀ l, Q l → Q' l) : OpensQ P w t Q' := fun H enc base sp held fuel cs d p ht hw =>
  let ⟨l, h1, h2⟩ := o H enc base sp held fuel cs d p ht hw
  ⟨l, h l h1, h2⟩
theorem opens_int {k : IntKind} (hu : P.underlying t = some (.int k)) : OpensQ P w t fun l => ∃ n : Int, (Lit.int k n).wf = true ∧ l = [.v (.int k n)] := by
  intro H enc base sp held fuel cs d p ht hw
  obtain ⟨n, rfl, _, hwf⟩ := DataW.trod_int hu ht
  exact ⟨_, ⟨n, hwf, rfl⟩, CellsR.one rfl rfl⟩
theorem opens_bool (hu : P.underlying t = some .bool) : OpensQ P w t fun l => ∃ b : Bool, l = [.v (.bool b)] := by
  intro H enc base sp held fuel cs d p ht hw
  obtain ⟨b, rfl, _⟩ := DataW.trod_bool hu ht
  exact ⟨_, ⟨b, rfl⟩, CellsR.one rfl rfl⟩
theorem opens_string (hu : P.underlying t = some .string) : OpensQ P w t fun l => ∃ s : ByteArray, s.size ≤ reachBytes ∧ l = [.v (.string s)] := by
  intro H enc base sp held fuel cs d p ht hw
  obtain ⟨s, rfl, hd, _⟩ := DataW.trod_string hu ht
  simp only [Prod.mk.injEq] at hd
  obtain ⟨rfl, _⟩ := hd
  have := hw s.data.toList.length (by simp [DataW.weights])
  exact ⟨_, ⟨s, by simpa using this, rfl⟩, CellsR.one rfl rfl⟩
theorem list_of {α : Type} {Q : Nat → α → Prop} : ∀ n : Nat, (∀ i, i < n → ∃ x, Q i x) → ∃ l : List α, l.length = n ∧ ∀ i x, l[i]? = some x → Q i x
  | 0, _ => ⟨[], rfl, fun i x h => by simp at h⟩
  | n + 1, h => by
    obtain ⟨l, h1, h2⟩ := list_of n fun i hi => h i (by omega)
    obtain ⟨x, hx⟩ := h n (by omega)
    refine ⟨l ++ [x], by simp [h1], fun i y hy => ?_⟩
    by_cases hi : i < l.length
    · rw [List.getElem?_append_left hi] at hy; exact h2 i y hy
    · rw [List.getElem?_append_right (by omega)] at hy
      obtain rfl : i = n := by
        have := (List.getElem?_eq_some_iff.1 hy).1
        simp at this; omega
      simp [h1] at hy
      exact hy ▸ hx
theorem weightsAll_mem {H : Type} : ∀ (l : List (DataW H)) (d : DataW H), d ∈ l → ∀ n ∈ d.weights P e, n ∈ DataW.weightsAll P e l
  | [], _, h, _, _ => by simp at h
  | a :: l, d, h, n, hn => by
    simp only [DataW.weightsAll, List.mem_append]
    rcases List.mem_cons.1 h with rfl | h
    · exact .inl hn
    · exact .inr (weightsAll_mem l d h n hn)
theorem opens_slice {s : Nat} {Q : List AV → Prop} (hu : P.underlying t = some (.slice e)) (hs : P.cellsOf e = s) (hs0 : 0 < s) (hb : 0 < P.bytesOf e) (ho : OpensQ P w e Q) :
    OpensQ P w t fun l => ∃ ls : List (List AV), l = [.sl s ls.length fun i j => (ls.getD i []).getD j .any] ∧ ls.length * P.bytesOf e ≤ reachBytes ∧ ∀ x ∈ ls, x.length = s ∧ Q x := by
  intro H enc base sp held fuel cs d p ht hw
  rcases DataW.trod_slice hu ht with ⟨rfl, _⟩ | ⟨a, len, cap, elems, rest, n, _, rfl, hx, hbase, hlc, hcap, hlen, hel, _⟩
  · exact ⟨_, ⟨[], rfl, by simp, fun x hx => by simp at hx⟩, CellsR.one rfl ⟨none, 0, rfl, Nat.le_refl _, by simp, fun h => absurd h (by simp)⟩⟩
  · simp only [Prod.mk.injEq] at hx
    obtain ⟨rfl, _⟩ := hx
    have hwt : (len + rest.length) * P.bytesOf e ≤ reachBytes := by
      have := hw ((elems.length + rest.length) * P.bytesOf e) (by simp [DataW.weights, hu])
      rwa [hlen] at this
    have hlb : len * P.bytesOf e ≤ reachBytes := Nat.le_trans (Nat.mul_le_mul_right _ (by omega)) hwt
    have hln : len ≤ reachBytes := Nat.le_trans (Nat.le_mul_of_pos_right _ hb) hlb
    have each : ∀ i, i < len → ∃ x : List AV, (x.length = s ∧ Q x) ∧ ∃ ci, w.cells? base (a.add (i * s)) s = some ci ∧ CellsR w ci x := fun i hi => by
      have h1 := hel i hi
      rw [hs, List.getElem?_eq_getElem (by omega)] at h1
      cases hc : w.cells? base (a.add (i * s)) s with
      | none => rw [hc] at h1; simp at h1
      | some ci =>
        rw [hc] at h1
        simp only [Option.bind_some] at h1
        have hmem : elems[i].1 ∈ elems.map (·.1) := List.mem_map.2 ⟨elems[i], List.getElem_mem _, rfl⟩
        obtain ⟨x, hq, hr⟩ := ho H enc base sp held n ci elems[i].1 elems[i].2 h1 fun m hm => hw m (by
          simp only [DataW.weights, hu, List.mem_cons, List.mem_append]
          exact .inr (.inl (weightsAll_mem _ _ hmem m hm)))
        have hl := (World.cells?_some hc).2.1
        exact ⟨x, ⟨by rw [← hr.1, hl], hq⟩, ci, rfl, hr⟩
    obtain ⟨ls, hll, hls⟩ := list_of len each
    refine ⟨_, ⟨ls, rfl, by rw [hll]; exact hlb, fun x hx => ?_⟩, CellsR.one rfl ⟨some a, cap, by rw [hll], by omega, ?_, fun h0 => ?_⟩⟩
    · obtain ⟨i, hi, rfl⟩ := List.mem_iff_getElem.1 hx
      exact (hls i _ (List.getElem?_eq_getElem hi)).1
    · rw [hll]; exact Nat.le_trans hln (by decide)
    · rw [hll] at h0
      obtain ⟨c0, hc0, _⟩ := (hls 0 _ (List.getElem?_eq_getElem (by omega))).2
      have hblk := World.cells?_block hc0 hs0
      rw [Nat.zero_mul] at hc0 hblk
      have hadd : a.add 0 = a := rfl
      rw [hadd] at hc0 hblk
      have hsp : a.spot = none := by
        have h2 := (World.cells?_some hc0).2.2 0 hs0
        rw [hadd, List.getElem?_eq_getElem (by rw [(World.cells?_some hc0).2.1]; exact hs0)] at h2
        exact World.cell?_spot h2
      refine ⟨a.block, a.off, by cases a; simp_all, rfl, hblk, fun i hi j hj => ?_⟩
      rw [hll] at hi
      obtain ⟨⟨hxl, _⟩, ci, hci, hr⟩ := hls i _ (List.getElem?_eq_getElem (by omega))
      obtain ⟨x, h1, h2, h3⟩ := hr.2 j (by rw [hxl]; exact hj)
      refine ⟨x, ?_, h2, ?_⟩
      · have h4 := (World.cells?_some hci).2.2 j hj
        rw [← h1, ← h4]
        congr 1
        unfold Addr.add
        cases a with
        | mk b o sp' =>
          simp only at hsp
          subst hsp
          by_cases hi0 : i * s = 0
          · simp only [hi0, if_true]
            by_cases hj0 : j = 0
            · simp [hj0]
            · simp [hj0]
          · simp only [hi0, if_false]
            by_cases hj0 : j = 0
            · simp [hj0]
            · simp [hj0, Nat.add_assoc]
      · show Rd w _ ((ls.getD i []).getD j .any) x
        rw [List.getD_eq_getElem?_getD (l := ls), List.getElem?_eq_getElem (by omega)]
        exact h3
theorem typed {α : Type} {enc : α → List AV} {ok : α → Prop} : ∀ ls : List (List AV), (∀ x ∈ ls, ∃ y, ok y ∧ x = enc y) → ∃ ys : List α, ls = ys.map enc ∧ ∀ y ∈ ys, ok y
  | [], _ => ⟨[], rfl, fun y hy => by simp at hy⟩
  | x :: ls, h => by
    obtain ⟨y, hy, rfl⟩ := h x (by simp)
    obtain ⟨ys, rfl, hys⟩ := typed ls fun z hz => h z (by simp [hz])
    exact ⟨y :: ys, rfl, fun z hz => by
      rcases List.mem_cons.1 hz with rfl | hz
      · exact hy
      · exact hys z hz⟩
theorem opens_list {α : Type} {enc : α → List AV} {ok : α → Prop} {s : Nat} (hu : P.underlying t = some (.slice e)) (hs : P.cellsOf e = s) (hs0 : 0 < s) (hb : 0 < P.bytesOf e) (ho : OpensQ P w e fun l => ∃ y, ok y ∧ l = enc y) :
    OpensQ P w t fun l => ∃ ys : List α, (ys.length * P.bytesOf e ≤ reachBytes ∧ ∀ y ∈ ys, ok y) ∧ l = [encL s enc ys] := by
  refine (opens_slice hu hs hs0 hb ho).mono ?_
  rintro l ⟨ls, rfl, h1, h2⟩
  obtain ⟨ys, rfl, hys⟩ := typed ls fun x hx => (h2 x hx).2
  refine ⟨ys, ⟨by simpa using h1, hys⟩, ?_⟩
  congr 1
  unfold encL
  rw [List.length_map]
  congr 1
  funext i j
  cases hy : ys[i]? <;> simp [List.getD_eq_getElem?_getD, hy]
/-- Fields, one behind the other. -/
def catQ : List (List AV → Prop) → List AV → Prop
  | [], l => l = []
  | Q :: Qs, l => ∃ a b, Q a ∧ catQ Qs b ∧ l = a ++ b
def fieldsQ (P : Program) (w : World) : List Field → List (List AV → Prop) → Nat → Nat → Prop
  | [], [], off, tot => off = tot
  | f :: fs, Q :: Qs, off, tot => f.offset = off ∧ OpensQ P w f.type Q ∧ fieldsQ P w fs Qs (off + P.cellsOf f.type) tot
  | _, _, _, _ => False
theorem fieldsQ_le : ∀ (fs : List Field) (Qs : List (List AV → Prop)) (off tot : Nat), fieldsQ P w fs Qs off tot → off ≤ tot
  | [], [], _, _, h => Nat.le_of_eq h
  | f :: fs, Q :: Qs, off, tot, h => Nat.le_trans (Nat.le_add_right _ _) (fieldsQ_le fs Qs _ tot h.2.2)
  | [], _ :: _, _, _, h => h.elim
  | _ :: _, [], _, _, h => h.elim
theorem fields_open {H : Type} {enc : TypeId × Value → H} {base : Nat} {sp : Nat → Bool} {held : Bool} {n : Nat} {cs : List Value} : ∀ (fs : List Field) (Qs : List (List AV → Prop)) (off : Nat) (xs : List (DataW H × List MemPlace)),
    fieldsQ P w fs Qs off cs.length → xs.length = fs.length → (∀ (i : Nat) (f : Field), fs[i]? = some f → DataW.trod enc P w base sp held n f.type ((cs.drop f.offset).take (P.cellsOf f.type)) = xs[i]?) →
    (∀ m ∈ DataW.weightsEach P (fs.map (·.type)) (xs.map (·.1)), m ≤ reachBytes) → ∃ l, catQ Qs l ∧ CellsR w (cs.drop off) l
  | [], [], off, xs, h, _, _, _ => ⟨[], rfl, by rw [show off = cs.length from h, List.drop_length]; exact CellsR.nil w⟩
  | f :: fs, Q :: Qs, off, x :: xs, h, hl, hf, hw => by
    obtain ⟨rfl, ho, h⟩ := h
    have h0 := hf 0 f rfl
    simp only [List.getElem?_cons_zero] at h0
    obtain ⟨a, ha, hra⟩ := ho H enc base sp held n _ x.1 x.2 h0 fun m hm => hw m (by simp only [List.map_cons, DataW.weightsEach, List.mem_append]; exact .inl hm)
    obtain ⟨b, hb, hrb⟩ := fields_open fs Qs _ xs h (by simpa using hl) (fun i g hg => by simpa using hf (i + 1) g (by simpa using hg)) fun m hm => hw m (by simp only [List.map_cons, DataW.weightsEach, List.mem_append]; exact .inr hm)
    refine ⟨a ++ b, ⟨a, b, ha, hb, rfl⟩, ?_⟩
    have := hra.append hrb
    rwa [← List.drop_drop, List.take_append_drop] at this
  | [], _ :: _, _, _, h, _, _, _ => h.elim
  | _ :: _, [], _, _, h, _, _, _ => h.elim
  | _ :: _, _ :: _, _, [], _, hl, _, _ => by simp at hl
theorem opens_struct {fs : Array Field} {Qs : List (List AV → Prop)} (hu : P.underlying t = some (.struct fs)) (h : fieldsQ P w fs.toList Qs 0 (P.cellsOf t)) : OpensQ P w t (catQ Qs) := by
  intro H enc base sp held fuel cs d p ht hw
  obtain ⟨xs, n, rfl, hx, hl, hlen, hf⟩ := DataW.trod_struct hu ht
  simp only [Prod.mk.injEq] at hx
  obtain ⟨rfl, _⟩ := hx
  rw [← hl] at h
  have := fields_open fs.toList Qs 0 xs h (by simpa using hlen) (fun i f hi => hf i f (by simpa using hi)) fun m hm => hw m (by simpa only [DataW.weights, hu] using hm)
  simpa using this
/-- An argument of one cell; one that is a struct. -/
theorem arg_one {Q : List AV → Prop} {H : Type} {enc : TypeId × Value → H} {base : Nat} {sp : Nat → Bool} {held : Bool} {d : DataW H} {p : List MemPlace} {v : Value} (ho : OpensQ P w t Q) (h : DataW.Trod enc P w base sp held t v d p) (hw : ∀ n ∈ d.weights P t, n ≤ reachBytes) (hv : v.oneCell' = true) :
    ∃ a, Q [a] ∧ Rd w (fun _ => none) a v := by
  obtain ⟨fuel, h⟩ := h
  obtain ⟨l, hq, hl, hr⟩ := ho H enc base sp held fuel _ d p h hw
  have hc : v.cells.toList = [v] := by cases v <;> first | rfl | cases hv
  rw [hc] at hl hr
  match l, hl with
  | [a], _ =>
    obtain ⟨x, h1, _, h3⟩ := hr 0 (by simp)
    simp at h1
    subst h1
    exact ⟨a, hq, h3⟩
theorem arg_agg {Q : List AV → Prop} {H : Type} {enc : TypeId × Value → H} {base : Nat} {sp : Nat → Bool} {held : Bool} {d : DataW H} {p : List MemPlace} {cs : Array Value} (ho : OpensQ P w t Q) (h : DataW.Trod enc P w base sp held t (.agg cs) d p) (hw : ∀ n ∈ d.weights P t, n ≤ reachBytes) :
    ∃ l, Q l ∧ Rd w (fun _ => none) (aggL l) (.agg cs) := by
  obtain ⟨fuel, h⟩ := h
  obtain ⟨l, hq, hl, hr⟩ := ho H enc base sp held fuel _ d p h hw
  refine ⟨l, hq, cs, rfl, by simpa [Value.cells] using hl, fun j hj => ?_⟩
  obtain ⟨x, h1, h2, h3⟩ := hr j hj
  exact ⟨x, by simpa [Value.cells] using h1, h2, h3⟩
end
end Go.Proofs.YtmalhikcdideoaaDoor

set_option linter.unusedVariables false
namespace Go.Proofs.YtmalhikcdideoaaDoor
open Go Go.ChangeShapes Go.WideShapes Sl
def sumL {α : Type} (f : α → Nat) : List α → Nat
  | [] => 0
  | x :: r => f x + sumL f r
theorem sumL_mem {α : Type} {f : α → Nat} : ∀ {l : List α} {x : α}, x ∈ l → f x ≤ sumL f l
  | y :: r, x, h => by
    rw [sumL]
    rcases List.mem_cons.1 h with rfl | h
    · omega
    · have := sumL_mem (f := f) h; omega
theorem sumL_len {α : Type} {f : α → Nat} (hf : ∀ x, 1 ≤ f x) : ∀ l : List α, l.length ≤ sumL f l
  | [] => Nat.le_refl _
  | x :: r => by
    rw [sumL, List.length_cons]
    have := sumL_len hf r
    have := hf x
    omega
theorem bulk_pos {H : Type} (d : DataW H) : 1 ≤ Rows.uptoBulk d := by
  cases d with
  | lit l => cases l <;> simp [Rows.uptoBulk]
  | nil => simp [Rows.uptoBulk]
  | ptr d => simp [Rows.uptoBulk]
  | slice elems spare => simp [Rows.uptoBulk]
  | agg parts => simp [Rows.uptoBulk]
  | iface t d => simp [Rows.uptoBulk]
  | map entries => simp [Rows.uptoBulk]
  | held h => simp [Rows.uptoBulk]
/-- Of each value of this type that can be read: it is told by cells of which Q speaks, and of the value's bulk. -/
def OpensB (P : Program) (w : World) (t : TypeId) (Q : Nat → List AV → Prop) : Prop :=
  ∀ (H : Type) (enc : TypeId × Value → H) (base : Nat) (sp : Nat → Bool) (held : Bool) (fuel : Nat) (cs : List Value) (d : DataW H) (p : List MemPlace),
    DataW.trod enc P w base sp held fuel t cs = some (d, p) → (∀ n ∈ d.weights P t, n ≤ reachBytes) → ∃ l, Q (Rows.uptoBulk d) l ∧ CellsR w cs l
section
variable {P : Program} {w : World} {t e : TypeId}
theorem OpensB.mono {Q Q' : Nat → List AV → Prop} (o : OpensB P w t Q) (h : ∀ n l, Q n l → Q' n l) : OpensB P w t Q' := fun H enc base sp held fuel cs d p ht hw =>
  let ⟨l, h1, h2⟩ := o H enc base sp held fuel cs d p ht hw
  ⟨l, h _ l h1, h2⟩
theorem OpensB.of {Q : List AV → Prop} (o : OpensQ P w t Q) : OpensB P w t fun n l => 1 ≤ n ∧ Q l := fun H enc base sp held fuel cs d p ht hw =>
  let ⟨l, h1, h2⟩ := o H enc base sp held fuel cs d p ht hw
  ⟨l, ⟨bulk_pos d, h1⟩, h2⟩
theorem OpensB.weak {Q Q' : Nat → List AV → Prop} (o : OpensB P w t Q) (h : ∀ n l, Q n l → ∃ l', Q' n l' ∧ l'.length = l.length ∧ ∀ j, l'.getD j .any = l.getD j .any ∨ l'.getD j .any = .any) : OpensB P w t Q' := by
  intro H enc base sp held fuel cs d p ht hw
  obtain ⟨l, h1, h2, h3⟩ := o H enc base sp held fuel cs d p ht hw
  obtain ⟨l', e1, e2, e3⟩ := h _ l h1
  refine ⟨l', e1, by rw [h2, e2], fun j hj => ?_⟩
  obtain ⟨x, f1, f2, f3⟩ := h3 j (by omega)
  refine ⟨x, f1, f2, ?_⟩
  rcases e3 j with e | e
  · rw [e]; exact f3
  · rw [e]; trivial
/-- A slice that is not read. -/
theorem opens_sliceAny (hu : P.underlying t = some (.slice e)) : OpensQ P w t fun l => l = [.any] := by
  intro H enc base sp held fuel cs d p ht hw
  rcases DataW.trod_slice hu ht with ⟨rfl, _⟩ | ⟨a, len, cap, elems, rest, n, _, rfl, _⟩
  · exact ⟨_, rfl, CellsR.one rfl trivial⟩
  · exact ⟨_, rfl, CellsR.one rfl trivial⟩
theorem opensB_string (hu : P.underlying t = some .string) : OpensB P w t fun n l => ∃ s : ByteArray, s.size + 1 ≤ n ∧ l = [.v (.string s)] := by
  intro H enc base sp held fuel cs d p ht hw
  obtain ⟨s, rfl, hd, _⟩ := DataW.trod_string hu ht
  simp only [Prod.mk.injEq] at hd
  obtain ⟨rfl, _⟩ := hd
  refine ⟨_, ⟨s, ?_, rfl⟩, CellsR.one rfl rfl⟩
  have : s.data.toList.length = s.size := Array.length_toList
  simp only [Rows.uptoBulk]
  omega
theorem opensB_i64 (hu : P.underlying t = some (.int .i64)) : OpensB P w t fun n l => ∃ x : Int, (-9223372036854775808 ≤ x ∧ x ≤ 9223372036854775807) ∧ 1 ≤ n ∧ l = [.v (.int .i64 x)] := by
  refine (OpensB.of (opens_int hu)).mono ?_
  rintro n l ⟨h1, x, hw, rfl⟩
  refine ⟨x, ?_, h1, rfl⟩
  have h2 : (IntKind.i64.min ≤ x) ∧ x ≤ IntKind.i64.max := by simpa [Lit.wf] using hw
  have e1 : IntKind.i64.min = -9223372036854775808 := by decide
  have e2 : IntKind.i64.max = 9223372036854775807 := by decide
  omega
theorem typedB {α H : Type} {enc : α → List AV} {ok : α → Prop} {μ : α → Nat} : ∀ (ls : List (List AV)) (ds : List (DataW H)), ls.length = ds.length → (∀ i x, ls[i]? = some x → ∃ y, μ y ≤ Rows.uptoBulk (ds.getD i .nil) ∧ ok y ∧ x = enc y) →
    ∃ ys : List α, ls = ys.map enc ∧ (∀ y ∈ ys, ok y) ∧ sumL μ ys ≤ Rows.uptoBulkAll ds
  | [], _, _, _ => ⟨[], rfl, fun y hy => by simp at hy, by simp [sumL]⟩
  | x :: ls, [], h, _ => by simp at h
  | x :: ls, d :: ds, hl, h => by
    obtain ⟨y, hm, hy, rfl⟩ := h 0 x rfl
    obtain ⟨ys, rfl, hys, hs⟩ := typedB (μ := μ) (ok := ok) (enc := enc) ls ds (by simpa using hl) fun i z hz => h (i + 1) z (by simpa using hz)
    refine ⟨y :: ys, rfl, fun z hz => ?_, ?_⟩
    · rcases List.mem_cons.1 hz with rfl | hz
      · exact hy
      · exact hys z hz
    · simp only [sumL, Rows.uptoBulkAll]
      have : μ y ≤ Rows.uptoBulk d := hm
      omega
theorem opensB_list {α : Type} {enc : α → List AV} {ok : α → Prop} {μ : α → Nat} {s : Nat} (hu : P.underlying t = some (.slice e)) (hs : P.cellsOf e = s) (hs0 : 0 < s) (hb : 0 < P.bytesOf e) (ho : OpensB P w e fun n l => ∃ y, μ y ≤ n ∧ ok y ∧ l = enc y) :
    OpensB P w t fun n l => ∃ ys : List α, sumL μ ys + 1 ≤ n ∧ (∀ y ∈ ys, ok y) ∧ l = [encL s enc ys] := by
  intro H enc' base sp held fuel cs d p ht hw
  rcases DataW.trod_slice hu ht with ⟨rfl, h1, h2⟩ | ⟨a, len, cap, elems, rest, n, _, rfl, hx, hbase, hlc, hcap, hlen, hel, _⟩
  · exact ⟨_, ⟨[], by rw [sumL]; exact bulk_pos _, fun y hy => by simp at hy, rfl⟩, CellsR.one rfl ⟨none, 0, rfl, Nat.le_refl _, by simp, fun h => absurd h (by simp)⟩⟩
  · simp only [Prod.mk.injEq] at hx
    obtain ⟨rfl, _⟩ := hx
    have hwt : (len + rest.length) * P.bytesOf e ≤ reachBytes := by
      have := hw ((elems.length + rest.length) * P.bytesOf e) (by simp [DataW.weights, hu])
      rwa [hlen] at this
    have hlb : len * P.bytesOf e ≤ reachBytes := Nat.le_trans (Nat.mul_le_mul_right _ (by omega)) hwt
    have hln : len ≤ reachBytes := Nat.le_trans (Nat.le_mul_of_pos_right _ hb) hlb
    have each : ∀ i, i < len → ∃ x : List AV, (x.length = s ∧ ∃ y, μ y ≤ Rows.uptoBulk ((elems.map (·.1)).getD i .nil) ∧ ok y ∧ x = enc y) ∧ ∃ ci, w.cells? base (a.add (i * s)) s = some ci ∧ CellsR w ci x := fun i hi => by
      have h1 := hel i hi
      rw [hs, List.getElem?_eq_getElem (by omega)] at h1
      cases hc : w.cells? base (a.add (i * s)) s with
      | none => rw [hc] at h1; simp at h1
      | some ci =>
        rw [hc] at h1
        simp only [Option.bind_some] at h1
        have hmem : elems[i].1 ∈ elems.map (·.1) := List.mem_map.2 ⟨elems[i], List.getElem_mem _, rfl⟩
        obtain ⟨x, hq, hr⟩ := ho H enc' base sp held n ci elems[i].1 elems[i].2 h1 fun m hm => hw m (by
          simp only [DataW.weights, hu, List.mem_cons, List.mem_append]
          exact .inr (.inl (weightsAll_mem _ _ hmem m hm)))
        have hl := (World.cells?_some hc).2.1
        have hg : (elems.map (·.1)).getD i .nil = elems[i].1 := by
          rw [List.getD_eq_getElem?_getD, List.getElem?_map, List.getElem?_eq_getElem (by omega)]; rfl
        exact ⟨x, ⟨by rw [← hr.1, hl], by rw [hg]; exact hq⟩, ci, rfl, hr⟩
    obtain ⟨ls, hll, hls⟩ := list_of len each
    obtain ⟨ys, hy1, hy2, hy3⟩ := typedB (μ := μ) (ok := ok) (enc := enc) ls (elems.map (·.1)) (by rw [List.length_map]; omega) fun i x hx => (hls i x hx).1.2
    have henc : encL s enc ys = .sl s ls.length fun i j => (ls.getD i []).getD j .any := by
      subst hy1
      unfold encL
      rw [List.length_map]
      congr 1
      funext i j
      cases hy : ys[i]? <;> simp [List.getD_eq_getElem?_getD, hy]
    refine ⟨_, ⟨ys, ?_, hy2, rfl⟩, ?_⟩
    · simp only [Rows.uptoBulk]
      omega
    rw [henc]
    refine CellsR.one rfl ⟨some a, cap, by rw [hll], by omega, ?_, fun h0 => ?_⟩
    · rw [hll]; exact Nat.le_trans hln (by decide)
    · rw [hll] at h0
      obtain ⟨c0, hc0, _⟩ := (hls 0 _ (List.getElem?_eq_getElem (by omega))).2
      have hblk := World.cells?_block hc0 hs0
      rw [Nat.zero_mul] at hc0 hblk
      have hadd : a.add 0 = a := rfl
      rw [hadd] at hc0 hblk
      have hsp : a.spot = none := by
        have h2 := (World.cells?_some hc0).2.2 0 hs0
        rw [hadd, List.getElem?_eq_getElem (by rw [(World.cells?_some hc0).2.1]; exact hs0)] at h2
        exact World.cell?_spot h2
      refine ⟨a.block, a.off, by cases a; simp_all, rfl, hblk, fun i hi j hj => ?_⟩
      rw [hll] at hi
      obtain ⟨⟨hxl, _⟩, ci, hci, hr⟩ := hls i _ (List.getElem?_eq_getElem (by omega))
      obtain ⟨x, h1, h2, h3⟩ := hr.2 j (by rw [hxl]; exact hj)
      refine ⟨x, ?_, h2, ?_⟩
      · have h4 := (World.cells?_some hci).2.2 j hj
        rw [← h1, ← h4]
        congr 1
        unfold Addr.add
        cases a with
        | mk b o sp' =>
          simp only at hsp
          subst hsp
          by_cases hi0 : i * s = 0
          · simp only [hi0, if_true]
            by_cases hj0 : j = 0
            · simp [hj0]
            · simp [hj0]
          · simp only [hi0, if_false]
            by_cases hj0 : j = 0
            · simp [hj0]
            · simp [hj0, Nat.add_assoc]
      · show Rd w _ ((ls.getD i []).getD j .any) x
        rw [List.getD_eq_getElem?_getD (l := ls), List.getElem?_eq_getElem (by omega)]
        exact h3
/-- Fields, one behind the other. -/
def catB : List (Nat → List AV → Prop) → Nat → List AV → Prop
  | [], _, l => l = []
  | Q :: Qs, n, l => ∃ a b n1 n2, n1 + n2 ≤ n ∧ Q n1 a ∧ catB Qs n2 b ∧ l = a ++ b
def fieldsB (P : Program) (w : World) : List Field → List (Nat → List AV → Prop) → Nat → Nat → Prop
  | [], [], off, tot => off = tot
  | f :: fs, Q :: Qs, off, tot => f.offset = off ∧ OpensB P w f.type Q ∧ fieldsB P w fs Qs (off + P.cellsOf f.type) tot
  | _, _, _, _ => False
theorem fields_openB {H : Type} {enc : TypeId × Value → H} {base : Nat} {sp : Nat → Bool} {held : Bool} {n : Nat} {cs : List Value} : ∀ (fs : List Field) (Qs : List (Nat → List AV → Prop)) (off : Nat) (xs : List (DataW H × List MemPlace)),
    fieldsB P w fs Qs off cs.length → xs.length = fs.length → (∀ (i : Nat) (f : Field), fs[i]? = some f → DataW.trod enc P w base sp held n f.type ((cs.drop f.offset).take (P.cellsOf f.type)) = xs[i]?) →
    (∀ m ∈ DataW.weightsEach P (fs.map (·.type)) (xs.map (·.1)), m ≤ reachBytes) → ∃ l, catB Qs (Rows.uptoBulkAll (xs.map (·.1))) l ∧ CellsR w (cs.drop off) l
  | [], [], off, xs, h, _, _, _ => ⟨[], rfl, by rw [show off = cs.length from h, List.drop_length]; exact CellsR.nil w⟩
  | f :: fs, Q :: Qs, off, x :: xs, h, hl, hf, hw => by
    obtain ⟨rfl, ho, h⟩ := h
    have h0 := hf 0 f rfl
    simp only [List.getElem?_cons_zero] at h0
    obtain ⟨a, ha, hra⟩ := ho H enc base sp held n _ x.1 x.2 h0 fun m hm => hw m (by simp only [List.map_cons, DataW.weightsEach, List.mem_append]; exact .inl hm)
    obtain ⟨b, hb, hrb⟩ := fields_openB fs Qs _ xs h (by simpa using hl) (fun i g hg => by simpa using hf (i + 1) g (by simpa using hg)) fun m hm => hw m (by simp only [List.map_cons, DataW.weightsEach, List.mem_append]; exact .inr hm)
    refine ⟨a ++ b, ⟨a, b, _, _, Nat.le_refl _, ha, hb, rfl⟩, ?_⟩
    have := hra.append hrb
    rwa [← List.drop_drop, List.take_append_drop] at this
  | [], _ :: _, _, _, h, _, _, _ => h.elim
  | _ :: _, [], _, _, h, _, _, _ => h.elim
  | _ :: _, _ :: _, _, [], _, hl, _, _ => by simp at hl
theorem opensB_struct {fs : Array Field} {Qs : List (Nat → List AV → Prop)} (hu : P.underlying t = some (.struct fs)) (h : fieldsB P w fs.toList Qs 0 (P.cellsOf t)) : OpensB P w t (fun n l => ∃ m, m + 1 = n ∧ catB Qs m l) := by
  intro H enc base sp held fuel cs d p ht hw
  obtain ⟨xs, n, rfl, hx, hl, hlen, hf⟩ := DataW.trod_struct hu ht
  simp only [Prod.mk.injEq] at hx
  obtain ⟨rfl, _⟩ := hx
  rw [← hl] at h
  obtain ⟨l, h1, h2⟩ := fields_openB fs.toList Qs 0 xs h (by simpa using hlen) (fun i f hi => hf i f (by simpa using hi)) fun m hm => hw m (by simpa only [DataW.weights, hu] using hm)
  exact ⟨l, ⟨_, by simp only [Rows.uptoBulk], h1⟩, by simpa using h2⟩
/-- An argument of one cell; one that is a struct. -/
theorem argB_one {Q : Nat → List AV → Prop} {H : Type} {enc : TypeId × Value → H} {base : Nat} {sp : Nat → Bool} {held : Bool} {d : DataW H} {p : List MemPlace} {v : Value} (ho : OpensB P w t Q) (h : DataW.Trod enc P w base sp held t v d p) (hw : ∀ n ∈ d.weights P t, n ≤ reachBytes) (hv : v.oneCell' = true) :
    ∃ a, Q (Rows.uptoBulk d) [a] ∧ Rd w (fun _ => none) a v := by
  obtain ⟨fuel, h⟩ := h
  obtain ⟨l, hq, hl, hr⟩ := ho H enc base sp held fuel _ d p h hw
  have hc : v.cells.toList = [v] := by cases v <;> first | rfl | cases hv
  rw [hc] at hl hr
  match l, hl with
  | [a], _ =>
    obtain ⟨x, h1, _, h3⟩ := hr 0 (by simp)
    simp at h1
    subst h1
    exact ⟨a, hq, h3⟩
theorem argB_agg {Q : Nat → List AV → Prop} {H : Type} {enc : TypeId × Value → H} {base : Nat} {sp : Nat → Bool} {held : Bool} {d : DataW H} {p : List MemPlace} {cs : Array Value} (ho : OpensB P w t Q) (h : DataW.Trod enc P w base sp held t (.agg cs) d p) (hw : ∀ n ∈ d.weights P t, n ≤ reachBytes) :
    ∃ l, Q (Rows.uptoBulk d) l ∧ Rd w (fun _ => none) (aggL l) (.agg cs) := by
  obtain ⟨fuel, h⟩ := h
  obtain ⟨l, hq, hl, hr⟩ := ho H enc base sp held fuel _ d p h hw
  refine ⟨l, hq, cs, rfl, by simpa [Value.cells] using hl, fun j hj => ?_⟩
  obtain ⟨x, h1, h2, h3⟩ := hr j hj
  exact ⟨x, by simpa [Value.cells] using h1, h2, h3⟩
end
end Go.Proofs.YtmalhikcdideoaaDoor

set_option linter.unusedVariables false
set_option linter.unusedSimpArgs false
namespace Go.Proofs.YtmalhikcdideoaaDoor
open Go Sl
attribute [local irreducible] XRange LpQ XR XRo XRg XRQ putQ XFv XL XW2 wQ putW X XO XOp XH XHo XW SeqQ BlkQ XOQ XHQ NrmQ XC XM XG XHM XHG XD CallK
section
variable (w : World)
abbrev BI (n : Nat) (l : List AV) : Prop := ∃ x : Int, i64B x ∧ 1 ≤ n ∧ l = [I x]
abbrev BB (n : Nat) (l : List AV) : Prop := 1 ≤ n ∧ ∃ b : Bool, l = [B b]
abbrev BS (n : Nat) (l : List AV) : Prop := ∃ s : ByteArray, s.size + 1 ≤ n ∧ l = [S s]
theorem c_int : Tryd.prog.cellsOf 3 = 1 := by kernel_rfl
theorem c_bool : Tryd.prog.cellsOf 4 = 1 := by kernel_rfl
theorem c_str : Tryd.prog.cellsOf 9 = 1 := by kernel_rfl
theorem b_int : 0 < Tryd.prog.bytesOf 3 := Nat.lt_of_lt_of_eq (by decide : 0 < 8) (by kernel_rfl)
theorem o_int : OpensB Tryd.prog w 3 BI := opensB_i64 Tryd.underlying3
theorem o_bool : OpensB Tryd.prog w 4 BB := OpensB.of (opens_bool Tryd.underlying4)
theorem o_str : OpensB Tryd.prog w 9 BS := opensB_string Tryd.underlying9
def one1 {α : Type} (_ : α) : Nat := 1
abbrev Bints (n : Nat) (l : List AV) : Prop := ∃ k : List Int, sumL one1 k + 1 ≤ n ∧ (∀ x ∈ k, i64B x) ∧ l = [encL 1 cI k]
theorem c_ints : Tryd.prog.cellsOf 37 = 1 := by kernel_rfl
theorem o_ints : OpensB Tryd.prog w 37 Bints :=
  opensB_list (enc := cI) (μ := one1) (ok := i64B) Tryd.underlying37 c_int (by decide) b_int ((o_int w).mono fun n l ⟨x, h1, h2, h3⟩ => ⟨x, h2, h1, h3⟩)
theorem c_val : Tryd.prog.cellsOf 123 = 2 := by kernel_rfl
theorem o_val : OpensB Tryd.prog w 123 fun n l => ∃ a b : Int, 1 ≤ n ∧ l = [I a, I b] := by
  refine (opensB_struct (w := w) Tryd.underlying123 (Qs := [BI, BI]) (by
    simp only [fieldsB, c_int, c_val]
    exact ⟨trivial, o_int w, trivial, o_int w, trivial⟩)).mono ?_
  rintro n l ⟨m, hm, _, _, n1, n2, hn, ⟨a, _, _, rfl⟩, ⟨_, _, n3, n4, hn2, ⟨b, _, _, rfl⟩, rfl, rfl⟩, rfl⟩
  exact ⟨a, b, by omega, rfl⟩
theorem c_step : Tryd.prog.cellsOf 114 = 2 := by kernel_rfl
theorem b_step : 0 < Tryd.prog.bytesOf 114 := Nat.lt_of_lt_of_eq (by decide : 0 < 16) (by kernel_rfl)
def okSt (x : Int × Int) : Prop := i64B x.1 ∧ i64B x.2
theorem o_step : OpensB Tryd.prog w 114 fun n l => ∃ x : Int × Int, one1 x ≤ n ∧ okSt x ∧ l = cSt x := by
  refine (opensB_struct (w := w) Tryd.underlying114 (Qs := [BI, BI]) (by
    simp only [fieldsB, c_int, c_step]
    exact ⟨trivial, o_int w, trivial, o_int w, trivial⟩)).mono ?_
  rintro n l ⟨m, hm, _, _, n1, n2, hn, ⟨a, ha, _, rfl⟩, ⟨_, _, n3, n4, hn2, ⟨b, hb, _, rfl⟩, rfl, rfl⟩, rfl⟩
  exact ⟨(a, b), by unfold one1; omega, ⟨ha, hb⟩, rfl⟩
abbrev Bsteps (n : Nat) (l : List AV) : Prop := ∃ k : List (Int × Int), sumL one1 k + 1 ≤ n ∧ (∀ x ∈ k, okSt x) ∧ l = [encL 2 cSt k]
theorem c_steps : Tryd.prog.cellsOf 66 = 1 := by kernel_rfl
theorem o_steps : OpensB Tryd.prog w 66 Bsteps :=
  opensB_list (enc := cSt) (μ := one1) (ok := okSt) Tryd.underlying66 c_step (by decide) b_step (o_step w)
theorem c_node : Tryd.prog.cellsOf 39 = 5 := by kernel_rfl
theorem b_node : 0 < Tryd.prog.bytesOf 39 := Nat.lt_of_lt_of_eq (by decide : 0 < 64) (by kernel_rfl)
def muNd (x : Nd) : Nat := x.nm.size + x.kids.length + 1
def okNd (x : Nd) : Prop := i64B x.op ∧ (∀ k ∈ x.kids, i64B k) ∧ i64B x.kd ∧ i64B x.n
theorem sum_one {α : Type} : ∀ l : List α, sumL one1 l = l.length
  | [] => rfl
  | x :: r => by rw [sumL, sum_one r, List.length_cons]; unfold one1; omega
theorem o_node : OpensB Tryd.prog w 39 fun n l => ∃ x : Nd, muNd x ≤ n ∧ okNd x ∧ l = cNd x := by
  refine (opensB_struct (w := w) Tryd.underlying39 (Qs := [BI, Bints, BI, BI, BS]) (by
    simp only [fieldsB, c_int, c_ints, c_str, c_node]
    exact ⟨trivial, o_int w, trivial, o_ints w, trivial, o_int w, trivial, o_int w, trivial, o_str w, trivial⟩)).mono ?_
  rintro n l ⟨m, hm, _, _, n1, n2, hn, ⟨a, ha, _, rfl⟩, ⟨_, _, n3, n4, hn2, ⟨k, hk, hkb, rfl⟩, ⟨_, _, n5, n6, hn3, ⟨c, hc, _, rfl⟩, ⟨_, _, n7, n8, hn4, ⟨d, hd, _, rfl⟩, ⟨_, _, n9, n10, hn5, ⟨s, hs, rfl⟩, rfl, rfl⟩, rfl⟩, rfl⟩, rfl⟩, rfl⟩
  rw [sum_one] at hk
  exact ⟨⟨a, k, c, d, s⟩, by unfold muNd; simp only; omega, ⟨ha, hkb, hc, hd⟩, rfl⟩
theorem o_expr : OpensB Tryd.prog w 42 fun n l => ∃ k : List Nd, sumL muNd k + 1 ≤ n ∧ (∀ x ∈ k, okNd x) ∧ l = [encL 5 cNd k] :=
  opensB_list (enc := cNd) (μ := muNd) (ok := okNd) Tryd.underlying42 c_node (by decide) b_node (o_node w)
theorem c_table : Tryd.prog.cellsOf 68 = 5 := by kernel_rfl
theorem b_table : 0 < Tryd.prog.bytesOf 68 := Nat.lt_of_lt_of_eq (by decide : 0 < 64) (by kernel_rfl)
def muTb (t : Tb) : Nat := t.name.size + t.steps.length + 1
def okTb (t : Tb) : Prop := i64B t.fr ∧ i64B t.to ∧ ∀ x ∈ t.steps, okSt x
theorem o_table : OpensB Tryd.prog w 68 fun n l => ∃ x : Tb, muTb x ≤ n ∧ okTb x ∧ l = cTb x := by
  refine (opensB_struct (w := w) Tryd.underlying68 (Qs := [BS, BI, BI, BB, Bsteps]) (by
    simp only [fieldsB, c_bool, c_int, c_steps, c_str, c_table]
    exact ⟨trivial, o_str w, trivial, o_int w, trivial, o_int w, trivial, o_bool w, trivial, o_steps w, trivial⟩)).mono ?_
  rintro n l ⟨m, hm, _, _, n1, n2, hn, ⟨s, hs, rfl⟩, ⟨_, _, n3, n4, hn2, ⟨a, ha, _, rfl⟩, ⟨_, _, n5, n6, hn3, ⟨b, hb, _, rfl⟩, ⟨_, _, n7, n8, hn4, ⟨_, c, rfl⟩, ⟨_, _, n9, n10, hn5, ⟨k, hk, hkb, rfl⟩, rfl, rfl⟩, rfl⟩, rfl⟩, rfl⟩, rfl⟩
  rw [sum_one] at hk
  exact ⟨⟨s, a, b, c, k⟩, by unfold muTb; simp only; omega, ⟨ha, hb, hkb⟩, rfl⟩
abbrev Btables (n : Nat) (l : List AV) : Prop := ∃ k : List Tb, sumL muTb k + 1 ≤ n ∧ (∀ x ∈ k, okTb x) ∧ l = [encL 5 cTb k]
theorem c_tables : Tryd.prog.cellsOf 60 = 1 := by kernel_rfl
theorem o_tables : OpensB Tryd.prog w 60 Btables :=
  opensB_list (enc := cTb) (μ := muTb) (ok := okTb) Tryd.underlying60 c_table (by decide) b_table (o_table w)
theorem c_attr : Tryd.prog.cellsOf 125 = 7 := by kernel_rfl
theorem b_attr : 0 < Tryd.prog.bytesOf 125 := Nat.lt_of_lt_of_eq (by decide : 0 < 64) (by kernel_rfl)
theorem o_attr : OpensB Tryd.prog w 125 fun n l => ∃ x : At, one1 x ≤ n ∧ True ∧ l = cAt x := by
  refine OpensB.weak (opensB_struct (w := w) Tryd.underlying125 (Qs := [BS, BI, BB, BI, BI, fun n l => ∃ a b : Int, 1 ≤ n ∧ l = [I a, I b]]) (by
    simp only [fieldsB, c_bool, c_int, c_val, c_str, c_attr]
    exact ⟨trivial, o_str w, trivial, o_int w, trivial, o_bool w, trivial, o_int w, trivial, o_int w, trivial, o_val w, trivial⟩)) ?_
  rintro n l ⟨m, hm, _, _, n1, n2, hn, ⟨s, hs, rfl⟩, ⟨_, _, n3, n4, hn2, ⟨a, ha, _, rfl⟩, ⟨_, _, n5, n6, hn3, ⟨_, b, rfl⟩, ⟨_, _, n7, n8, hn4, ⟨c, hc, _, rfl⟩, ⟨_, _, n9, n10, hn5, ⟨d, hd, _, rfl⟩, ⟨_, _, n11, n12, hn6, ⟨v1, v2, _, rfl⟩, rfl, rfl⟩, rfl⟩, rfl⟩, rfl⟩, rfl⟩, rfl⟩
  refine ⟨_, ⟨⟨s, a⟩, by unfold one1; omega, trivial, rfl⟩, rfl, fun j => ?_⟩
  rcases j with _ | _ | _ | _ | _ | _ | _ | j <;> simp [cAt]
theorem c_attrs : Tryd.prog.cellsOf 62 = 1 := by kernel_rfl
abbrev Battrs (n : Nat) (l : List AV) : Prop := ∃ k : List At, sumL one1 k + 1 ≤ n ∧ (∀ x ∈ k, True) ∧ l = [encL 7 cAt k]
theorem o_attrs : OpensB Tryd.prog w 62 Battrs :=
  opensB_list (enc := cAt) (μ := one1) (ok := fun _ => True) Tryd.underlying62 c_attr (by decide) b_attr (o_attr w)
theorem c_articles : Tryd.prog.cellsOf 63 = 1 := by kernel_rfl
theorem c_act : Tryd.prog.cellsOf 65 = 6 := by kernel_rfl
theorem b_act : 0 < Tryd.prog.bytesOf 65 := Nat.lt_of_lt_of_eq (by decide : 0 < 104) (by kernel_rfl)
def muAc (a : Ac) : Nat := a.attrs.length + sumL muTb a.tables + 1
def okAc (a : Ac) : Prop := ∀ t ∈ a.tables, okTb t
theorem o_act : OpensB Tryd.prog w 65 fun n l => ∃ x : Ac, muAc x ≤ n ∧ okAc x ∧ l = cAc x := by
  refine OpensB.weak (opensB_struct (w := w) Tryd.underlying65 (Qs := [BS, BI, BI, Battrs, Btables, fun n l => 1 ≤ n ∧ l = [.any]]) (by
    simp only [fieldsB, c_int, c_str, c_attrs, c_tables, c_articles, c_act]
    exact ⟨trivial, o_str w, trivial, o_int w, trivial, o_int w, trivial, o_attrs w, trivial, o_tables w, trivial, OpensB.of (opens_sliceAny Tryd.underlying63), trivial⟩)) ?_
  rintro n l ⟨m, hm, _, _, n1, n2, hn, ⟨s, hs, rfl⟩, ⟨_, _, n3, n4, hn2, ⟨a, ha, _, rfl⟩, ⟨_, _, n5, n6, hn3, ⟨b, hb, _, rfl⟩, ⟨_, _, n7, n8, hn4, ⟨k, hk, _, rfl⟩, ⟨_, _, n9, n10, hn5, ⟨q, hq, hqb, rfl⟩, ⟨_, _, n11, n12, hn6, ⟨_, rfl⟩, rfl, rfl⟩, rfl⟩, rfl⟩, rfl⟩, rfl⟩, rfl⟩
  rw [sum_one] at hk
  refine ⟨_, ⟨⟨k, q⟩, by unfold muAc; simp only; omega, hqb, rfl⟩, rfl, fun j => ?_⟩
  rcases j with _ | _ | _ | _ | _ | _ | j <;> simp [cAc]
theorem o_acts : OpensB Tryd.prog w 59 fun n l => ∃ k : List Ac, sumL muAc k + 1 ≤ n ∧ (∀ x ∈ k, okAc x) ∧ l = [encL 6 cAc k] :=
  opensB_list (enc := cAc) (μ := muAc) (ok := okAc) Tryd.underlying59 c_act (by decide) b_act (o_act w)
end
end Go.Proofs.YtmalhikcdideoaaDoor

namespace Go.Proofs.YtmalhikcdideoaaDoor
open Go Go.ChangeShapes Go.WideShapes Go.ChangeAt Go.RowKit Sl
theorem own : ownKnob Tryd.prog.godebug = none := by kernel_rfl
theorem laidOut : laidOutB Tryd.prog = true := by kernel_rfl
theorem cells5 : Tryd.prog.cellsOf 5 = 1 := by kernel_rfl
theorem cells188 : Tryd.prog.cellsOf 188 = 1 := by kernel_rfl
theorem cells85 : Tryd.prog.cellsOf 85 = 256 := by kernel_rfl
theorem cells210 : Tryd.prog.cellsOf 210 = 20 := by kernel_rfl
theorem space_agg : (Rows.laid_strings_asciiSpace : DataW Unit) = .agg ((List.range 256).map fun i => .lit (.int .u8 (if (9 ≤ i ∧ i ≤ 13) ∨ i = 32 then 1 else 0))) := by kernel_rfl
theorem pow_agg : (Rows.laid_internal_strconv_uint64pow10 : DataW Unit) = .agg ((List.range 20).map fun i => .lit (.int .u64 ((10 : Nat) ^ i : Nat))) := by kernel_rfl
theorem pow_eq : ((List.range 20).map fun i => Value.int .u64 ((10 : Nat) ^ i : Nat)) = powL := by kernel_rfl
theorem lits_of {H : Type} {enc : TypeId × Value → H} {P : Program} {w : World} {base : Nat} {sp : Nat → Bool} {held : Bool} {n m : Nat} {e t : TypeId} {cs : List Value} {f : Nat → Int} {p : List MemPlace} {k : IntKind}
    (ht : P.underlying t = some (.array n e)) (he : P.underlying e = some (.int k)) (hc : P.cellsOf e = 1) (hct : P.cellsOf t = n) (h : DataW.trod enc P w base sp held m t cs = some (.agg ((List.range n).map fun i => .lit (.int k (f i))), p)) :
    cs = (List.range n).map fun i => .int k (f i) := by
  obtain ⟨xs, m1, rfl, hx, hlen, hn, hel⟩ := DataW.trod_array ht h
  simp only [Prod.mk.injEq, DataW.agg.injEq] at hx
  rw [hct] at hlen
  refine List.ext_getElem (by simp [hlen]) fun i h1 h2 => ?_
  have hi : i < n := by omega
  have hE := hel i hi
  rw [hc, Nat.mul_one] at hE
  obtain ⟨x, hxi⟩ : ∃ x, xs[i]? = some x := ⟨_, List.getElem?_eq_getElem (by omega)⟩
  rw [hxi] at hE
  have hd : (cs.drop i).take 1 = [cs[i]] := by
    rw [List.drop_eq_getElem_cons h1]; rfl
  rw [hd] at hE
  obtain ⟨v, e1, e2, _⟩ := DataW.trod_int he hE
  have e3 : (xs.map (·.1))[i]? = some (.lit (.int k (f i))) := by rw [← hx.1]; simp [hi]
  rw [List.getElem?_map, hxi, e2] at e3
  simp only [Option.map_some, Option.some.injEq, DataW.lit.injEq, Lit.int.injEq, true_and] at e3
  simp only [List.cons.injEq, and_true] at e1
  rw [e1]
  simp [e3]
/-- A variable that reads as listed: its block. -/
theorem var_heap {W : World} {name : String} {g : Nat} {cs : Array Value} {L : List Value} (hg : Tryd.prog.globalNamed name = some g) (hv : W.var? Tryd.prog name = some cs) (hcs : cs.toList = L) : ∃ ty fr, W.heap[g]? = some (.cells L.toArray ty fr) := by
  simp only [World.var?, hg, Option.bind_some] at hv
  split at hv
  · rename_i cs' ty fr hw
    simp only [Option.some.injEq] at hv
    subst hv
    refine ⟨ty, fr, ?_⟩
    rw [hw]
    congr 2
    apply Array.toList_inj.1
    rw [hcs]
  · cases hv
theorem gSpace : Tryd.prog.globalNamed "strings.asciiSpace" = some 0 := by kernel_rfl
theorem tSpace : (Tryd.prog.globals[0]?).map (·.type) = some 85 := by kernel_rfl
theorem gPow : Tryd.prog.globalNamed "internal/strconv.uint64pow10" = some 5 := by kernel_rfl
theorem tPow : (Tryd.prog.globals[5]?).map (·.type) = some 210 := by kernel_rfl
theorem space_heap {enc : TypeId × Value → Unit} {W : World} {base : Nat} {sp : Nat → Bool} {held : Bool} {g m : Nat} {t : TypeId} {cs : Array Value} {p : List MemPlace} (hg : Tryd.prog.globalNamed "strings.asciiSpace" = some g)
    (ht : (Tryd.prog.globals[g]?).map (·.type) = some t) (hv : W.var? Tryd.prog "strings.asciiSpace" = some cs) (hd : DataW.trod enc Tryd.prog W base sp held m t cs.toList = some (Rows.laid_strings_asciiSpace, p)) : ∃ ty fr, W.heap[0]? = some (.cells spaceL.toArray ty fr) := by
  obtain rfl := Option.some.inj (gSpace.symm.trans hg)
  obtain rfl := Option.some.inj (tSpace.symm.trans ht)
  rw [space_agg] at hd
  exact var_heap gSpace hv (lits_of Tryd.underlying85 Tryd.underlying5 cells5 cells85 hd)
theorem pow_heap {enc : TypeId × Value → Unit} {W : World} {base : Nat} {sp : Nat → Bool} {held : Bool} {g m : Nat} {t : TypeId} {cs : Array Value} {p : List MemPlace} (hg : Tryd.prog.globalNamed "internal/strconv.uint64pow10" = some g)
    (ht : (Tryd.prog.globals[g]?).map (·.type) = some t) (hv : W.var? Tryd.prog "internal/strconv.uint64pow10" = some cs) (hd : DataW.trod enc Tryd.prog W base sp held m t cs.toList = some (Rows.laid_internal_strconv_uint64pow10, p)) : ∃ ty fr, W.heap[5]? = some (.cells powL.toArray ty fr) := by
  obtain rfl := Option.some.inj (gPow.symm.trans hg)
  obtain rfl := Option.some.inj (tPow.symm.trans ht)
  rw [pow_agg] at hd
  exact var_heap gPow hv ((lits_of Tryd.underlying210 Tryd.underlying188 cells188 cells210 hd).trans pow_eq)
theorem mem_all {l : List Nat} (h : l.all (· ≤ reachBytes) = true) : ∀ n ∈ l, n ≤ reachBytes := fun n hn => by simpa using List.all_eq_true.1 h n hn
end Go.Proofs.YtmalhikcdideoaaDoor

set_option linter.unusedVariables false
namespace Go.Proofs.YtmalhikcdideoaaDoor.joins
open Go Go.ChangeShapes Go.WideShapes Go.ChangeAt Go.RowKit Sl
theorem plain : (Rows.treeJoinsUptoRow.laid.all fun x => x.2.handleName?.isNone) = true := by kernel_rfl
theorem glob_both {W : World} (h1 : ∃ ty fr, W.heap[0]? = some (.cells spaceL.toArray ty fr)) (h2 : ∃ ty fr, W.heap[5]? = some (.cells powL.toArray ty fr)) : GlobH W fun _ => none := by
  rintro x hx
  simp only [gl, List.mem_cons, List.not_mem_nil, or_false] at hx
  rcases hx with rfl | rfl
  · refine ⟨rfl, h1, fun y hy => ?_⟩
    simp only [spaceL, List.mem_map] at hy
    obtain ⟨i, _, rfl⟩ := hy
    rfl
  · refine ⟨rfl, h2, fun y hy => ?_⟩
    simp only [powL, List.mem_map] at hy
    obtain ⟨i, _, rfl⟩ := hy
    rfl
theorem glob_of_laid {W : World} (h : laidMetH Tryd.prog Rows.treeJoinsUptoRow.laid W) : GlobH W fun _ => none := by
  rw [MakeChecks.laidMetH_plain _ _ _ plain] at h
  obtain ⟨ps, ⟨_, _, _, _, _, _, _, _, _, _, ⟨_, _, _, _, _, _, _, _, _, _, ⟨g3, t3, c3, _, p3, _, hg3, ht3, hv3, hd3, ⟨_, _, _, _, _, _, _, _, _, _, ⟨_, _, _, _, _, _, _, _, _, _, ⟨g6, t6, c6, _, p6, _, hg6, ht6, hv6, hd6, _⟩, _⟩, _⟩, _⟩, _⟩, _⟩, _, _⟩ := h
  exact glob_both (space_heap hg6 ht6 hv6 hd6) (pow_heap hg3 ht3 hv3 hd3)
theorem okS_of (e : List Nd) (hb : sumL muNd e ≤ 1048576) (ho : ∀ x ∈ e, okNd x) : okS e := by
  refine ⟨by have := sumL_len (f := muNd) (fun a => by unfold muNd; omega) e; omega, fun x hx => ?_⟩
  have h1 := sumL_mem (f := muNd) hx
  have h2 : muNd x = x.nm.size + x.kids.length + 1 := rfl
  obtain ⟨o1, o2, o3, o4⟩ := ho x hx
  exact ⟨by omega, by omega, o1, o3, o4, o2⟩
def muE (k : List Nd) : Nat := sumL muNd k + 1
def okEx (k : List Nd) : Prop := ∀ x ∈ k, okNd x
theorem c_expr : Tryd.prog.cellsOf 42 = 1 := by kernel_rfl
theorem b_expr : 0 < Tryd.prog.bytesOf 42 := Nat.lt_of_lt_of_eq (by decide : 0 < 24) (by kernel_rfl)
theorem o_exprs (w : World) : OpensB Tryd.prog w 40 fun n l => ∃ k : List (List Nd), sumL muE k + 1 ≤ n ∧ (∀ x ∈ k, okEx x) ∧ l = [encL 1 cE k] :=
  opensB_list (enc := cE) (μ := muE) (ok := okEx) Tryd.underlying40 c_expr (by decide) b_expr (o_expr w)
theorem walk (x : Nd) (l : List (List Nd)) (e : List Nd) (op : Int) (w : List Nd) (hb : muNd x + sumL muE l + sumL muNd e + sumL muNd w ≤ 1048576) (hox : okNd x) (hol : ∀ x ∈ l, okEx x) (hoe : ∀ x ∈ e, okNd x) (how : ∀ x ∈ w, okNd x) (W : World) (hg : GlobH W fun _ => none) {v0 v1 v2 v3 v4 : Value} (h0 : Rd W (fun _ => none) (aggL (cNd x)) v0) (h1 : Rd W (fun _ => none) (encL 1 cE l) v1) (h2 : Rd W (fun _ => none) (encL 5 cNd e) v2) (h3 : Rd W (fun _ => none) (I op) v3) (h4 : Rd W (fun _ => none) (encL 5 cNd w) v4) :
    Calls Tryd.prog 5 #[v0, v1, v2, v3, v4] W fun e w' => e = .returned (.bool true) ∧ Below W.heap.size W w' := by
  have hk := joins_ok x l e w op ⟨by have : muNd x = x.nm.size + x.kids.length + 1 := rfl; omega, hox.1, hox.2.2.1, hox.2.2.2⟩ (by have := sumL_len (f := muE) (fun a => by unfold muE; omega) l; omega) (fun k hk => okS_of k (by have h1 := sumL_mem (f := muE) hk; have h2 : muE k = sumL muNd k + 1 := rfl; omega) (hol k hk)) (okS_of e (by omega) hoe) (okS_of w (by omega) how)
  refine (hk (fun _ => none) W #[v0, v1, v2, v3, v4] ⟨fun b o hb => (by cases hb), hg⟩ ⟨rfl, fun i a hi => ?_⟩).mono ?_
  · match i, hi with
    | 0, hi => cases hi; exact ⟨_, rfl, h0⟩
    | 1, hi => cases hi; exact ⟨_, rfl, h1⟩
    | 2, hi => cases hi; exact ⟨_, rfl, h2⟩
    | 3, hi => cases hi; exact ⟨_, rfl, h3⟩
    | 4, hi => cases hi; exact ⟨_, rfl, h4⟩
    | n + 5, hi => simp at hi
  · rintro e w' ⟨u, r, h', rfl, ⟨rfl, rfl⟩, hr, _, hio, hst⟩
    exact ⟨by rw [show u = .bool true from hr], hst.below hio⟩
theorem reads (os : Os) {H : Type} (enc : TypeId × Value → H) : ∃ places, DataW.whole enc Tryd.prog ((World.laidAll Tryd.prog os Rows.treeJoinsUptoRow.laid).forCall (fun _ _ => 0) ⟨#[], #[.agg #[.int .i64 0, .slice none 0 0, .int .i64 0, .int .i64 0, .string ByteArray.empty], .slice none 0 0, .slice none 0 0, .int .i64 0, .slice none 0 0], []⟩).memory Tryd.f5.params.toList Rows.treeJoinsSpec.vars false #[(.agg #[.int .i64 0, .slice none 0 0, .int .i64 0, .int .i64 0, .string ByteArray.empty] : Value), .slice none 0 0, .slice none 0 0, .int .i64 0, .slice none 0 0].toList 8 = some ([.agg [.lit (.int .i64 0), .nil, .lit (.int .i64 0), .lit (.int .i64 0), .lit (.string [])], .nil, .nil, .lit (.int .i64 0), .nil], [], places) :=
  ⟨[], by kernel_rfl⟩
set_option maxRecDepth 100000 in
theorem lifted (os : Os) (started : os.Started) (H : Type) (enc : TypeId × Value → H) (F : Stop.Interp) :
    ReturnsInHanded {} Tryd.checked os 5 .any ((Rows.OpenSpec.upto Rows.treeJoinsSpec).preRow enc Tryd.prog Tryd.f5 Rows.treeJoinsUptoRow.domain false Rows.treeJoinsUptoRow.laid) (((Rows.OpenSpec.upto Rows.treeJoinsSpec).at F).post enc Tryd.prog Tryd.f5 false true false false) := by
  obtain ⟨places, hx⟩ := reads os enc
  have hok : Input.okWideB Tryd.prog ((World.laidAll Tryd.prog os Rows.treeJoinsUptoRow.laid).forCall (fun _ _ => 0) ⟨#[], #[.agg #[.int .i64 0, .slice none 0 0, .int .i64 0, .int .i64 0, .string ByteArray.empty], .slice none 0 0, .slice none 0 0, .int .i64 0, .slice none 0 0], []⟩) 5 ⟨#[], #[.agg #[.int .i64 0, .slice none 0 0, .int .i64 0, .int .i64 0, .string ByteArray.empty], .slice none 0 0, .slice none 0 0, .int .i64 0, .slice none 0 0], []⟩ = true := by kernel_rfl
  refine returnsInHanded_of_row (C := Tryd.checked) (s := Rows.OpenSpec.upto Rows.treeJoinsSpec) own started (by kernel_rfl) Tryd.func5
    ⟨World.laidAll Tryd.prog os Rows.treeJoinsUptoRow.laid, fun _ _ => 0, ⟨#[], #[.agg #[.int .i64 0, .slice none 0 0, .int .i64 0, .int .i64 0, .string ByteArray.empty], .slice none 0 0, .slice none 0 0, .int .i64 0, .slice none 0 0], []⟩, World.laidAll_os _ _ _, World.shaped_of_ZipB (by kernel_rfl) (by kernel_rfl), (Input.okWide_of_okWideB (base := 0) hok).1, (Input.okWide_of_okWideB hok).2,
      OpenSpec.preRow_of_cond 8 hx (by kernel_rfl) (fun k hk => by cases hk; kernel_rfl) (by kernel_rfl) (by rw [MakeChecks.laidMetH_plain _ _ _ plain]; exact laidMet_laidAll _ (by kernel_rfl) (by kernel_rfl)), by simp [Assume.holds]⟩ ?_
  intro W base args ds gs before hval0 hW _ hcond hsz0 hL _ _
  have hsz : (DataW.weightsEach Tryd.prog (Tryd.f5.params.toList ++ Rows.treeJoinsSpec.plain.varTypes Tryd.prog) (ds ++ gs)).all (· ≤ reachBytes) = true := hsz0
  have hval : ∀ (j : Nat) t v, Tryd.f5.params[j]? = some t → args[j]? = some v → Value.okWide Tryd.prog W .any base t v := hval0
  have hbulk : Rows.uptoBulkAll (ds ++ gs) ≤ 1048576 := of_decide_eq_true (hcond _ rfl)
  have hW' := hW
  obtain ⟨p, q, hA0, hV, rfl, hfz, hnd⟩ := hW
  have hA : DataW.TrodAll enc Tryd.prog W 0 (fun _ => true) true Tryd.f5.params.toList args.toList ds p := hA0
  rw [Tryd.params5] at hA hval hsz
  obtain ⟨v0, vs0, d0, ds0, p0, q0, hargs, rfl, rfl, t0, r0⟩ := trodAll_cons hA
  obtain ⟨v1, vs1, d1, ds1, p1, q1, rfl, rfl, rfl, t1, r1⟩ := trodAll_cons r0
  obtain ⟨v2, vs2, d2, ds2, p2, q2, rfl, rfl, rfl, t2, r2⟩ := trodAll_cons r1
  obtain ⟨v3, vs3, d3, ds3, p3, q3, rfl, rfl, rfl, t3, r3⟩ := trodAll_cons r2
  obtain ⟨v4, vs4, d4, ds4, p4, q4, rfl, rfl, rfl, t4, r4⟩ := trodAll_cons r3
  obtain ⟨rfl, rfl, rfl⟩ := trodAll_nil r4
  obtain rfl : args = #[v0, v1, v2, v3, v4] := by cases args; simp_all
  obtain ⟨rfl, rfl⟩ := trodVars_none hV
  have hs := mem_all hsz
  have w0 : ∀ n ∈ d0.weights Tryd.prog 39, n ≤ reachBytes := fun n hn => hs n (by simp only [List.cons_append, List.nil_append, DataW.weightsEach, List.mem_append]; exact .inl hn)
  have w1 : ∀ n ∈ d1.weights Tryd.prog 40, n ≤ reachBytes := fun n hn => hs n (by simp only [List.cons_append, List.nil_append, DataW.weightsEach, List.mem_append]; exact .inr (.inl hn))
  have w2 : ∀ n ∈ d2.weights Tryd.prog 42, n ≤ reachBytes := fun n hn => hs n (by simp only [List.cons_append, List.nil_append, DataW.weightsEach, List.mem_append]; exact .inr (.inr (.inl hn)))
  have w3 : ∀ n ∈ d3.weights Tryd.prog 3, n ≤ reachBytes := fun n hn => hs n (by simp only [List.cons_append, List.nil_append, DataW.weightsEach, List.mem_append]; exact .inr (.inr (.inr (.inl hn))))
  have w4 : ∀ n ∈ d4.weights Tryd.prog 42, n ≤ reachBytes := fun n hn => hs n (by simp only [List.cons_append, List.nil_append, DataW.weightsEach, List.mem_append]; exact .inr (.inr (.inr (.inr (.inl hn)))))
  have hb2 : Rows.uptoBulk d0 + Rows.uptoBulk d1 + Rows.uptoBulk d2 + Rows.uptoBulk d3 + Rows.uptoBulk d4 ≤ 1048576 := by
    simp only [List.append_nil, Rows.uptoBulkAll] at hbulk
    omega
  obtain ⟨c0, e0, _⟩ := okWide_struct Tryd.underlying39 (hval 0 _ v0 rfl rfl)
  obtain ⟨a1, l1, b1, e1⟩ := okWide_slice Tryd.underlying40 (hval 1 _ v1 rfl rfl)
  obtain ⟨a2, l2, b2, e2⟩ := okWide_slice Tryd.underlying42 (hval 2 _ v2 rfl rfl)
  obtain ⟨n3, e3⟩ := okWide_int Tryd.underlying3 (hval 3 3 v3 rfl rfl)
  obtain ⟨a4, l4, b4, e4⟩ := okWide_slice Tryd.underlying42 (hval 4 _ v4 rfl rfl)
  obtain ⟨x0, ⟨x, m0, o0, y0⟩, z0⟩ := argB_agg (o_node W) (e0 ▸ t0) w0
  obtain ⟨x1, ⟨l, m1, o1, y1⟩, z1⟩ := argB_one (o_exprs W) t1 w1 (by rw [e1]; rfl)
  obtain ⟨x2, ⟨e, m2, o2, y2⟩, z2⟩ := argB_one (o_expr W) t2 w2 (by rw [e2]; rfl)
  obtain ⟨x3, ⟨op, o3, m3, y3⟩, z3⟩ := argB_one (o_int W) t3 w3 (by rw [e3]; rfl)
  obtain ⟨x4, ⟨w, m4, o4, y4⟩, z4⟩ := argB_one (o_expr W) t4 w4 (by rw [e4]; rfl)
  subst y0
  obtain rfl : x1 = encL 1 cE l := by simpa using y1
  obtain rfl : x2 = encL 5 cNd e := by simpa using y2
  obtain rfl : x3 = I op := by simpa using y3
  obtain rfl : x4 = encL 5 cNd w := by simpa using y4
  clear hA0 hval0 hsz0 hsz hbulk
  have lt : ∀ {t : TypeId} {v : Value} {d : DataW H} {p : List MemPlace}, DataW.Trod enc Tryd.prog W 0 (fun _ => true) true t v d p → ∀ x ∈ p, x.block < W.heap.size := fun k => by obtain ⟨m, hm⟩ := k; exact DataW.trod_lt m _ _ _ hm
  refine (walk x l e op w (by omega) o0 o1 o2 o4 W (glob_of_laid hL) (e0 ▸ z0) z1 z2 z3 z4).mono fun r W' ⟨he, bel⟩ => ?_
  subst he
  exact ⟨_, rfl, _, _, _, [], _, [], hW', trodAll_mk1 (shut_bool Tryd.underlying4 _), (trodAll_cons_mk (Below.trod laidOut (by kernel_rfl) (of_decide_eq_true (by kernel_rfl)) t0 bel (lt t0)) (trodAll_cons_mk (Below.trod laidOut (by kernel_rfl) (of_decide_eq_true (by kernel_rfl)) t1 bel (lt t1)) (trodAll_cons_mk (Below.trod laidOut (by kernel_rfl) (of_decide_eq_true (by kernel_rfl)) t2 bel (lt t2)) (trodAll_cons_mk (Below.trod laidOut (by kernel_rfl) (of_decide_eq_true (by kernel_rfl)) t3 bel (lt t3)) (trodAll_cons_mk (Below.trod laidOut (by kernel_rfl) (of_decide_eq_true (by kernel_rfl)) t4 bel (lt t4)) trodAll_mk0))))), rfl, bel.frame _, fun h => by cases h⟩
theorem holds : Rows.TreeJoinsUptoSaid :=
  OpenClaim.holds_of_cond 5 Tryd.f5 rfl rfl rfl rfl rfl rfl rfl ⟨rfl, rfl, rfl, rfl, rfl⟩ rfl rfl rfl rfl rfl (by kernel_rfl) Tryd.func5 (by kernel_rfl)
    (of_decide_eq_true (by kernel_rfl)) (by unfold Func.isWrapper; first | (rw [if_pos (by decide +kernel)]; kernel_rfl) | (rw [if_neg (by decide +kernel)]; exact ⟨rfl, rfl⟩))
    (fun os started H enc _ F => by rw [OpenClaim.pre_eq_preRow]; exact lifted os started H enc F)
end Go.Proofs.YtmalhikcdideoaaDoor.joins
namespace Go.Proofs.YtmalhikcdideoaaDoor
open Go
theorem treeJoins_card : Rows.TreeJoinsUptoCardSaid :=
  Claim7.holds_tied_plain_at .later [] _ _ _ _ joins.holds (fun _ h => by cases h) (by kernel_rfl) (fun _ h => by cases h) treeJoinsUpto_row_tie rfl ⟨rfl, rfl⟩ (by kernel_rfl) rfl
    (fun f fn hf hfn => by
      obtain rfl : f = 5 := Option.some.inj ((show Tryd.prog.funcNamed "moothall/mootlaw2.TreeJoins" = some 5 by kernel_rfl).symm.trans hf) |>.symm
      obtain rfl : fn = Tryd.f5 := (Option.some.inj (Tryd.func5.symm.trans hfn)).symm
      exact ⟨by kernel_rfl, fun j t ht => by
        rw [Tryd.params5] at ht
        have hm : t ∈ [39, 40, 42, 3, 42] := by simpa using Array.mem_of_getElem? ht
        have hall : ([39, 40, 42, 3, 42].all fun u => !Tryd.prog.wantsStandIn u) = true := by kernel_rfl
        exact (show Tryd.prog.wantsStandIn t = false by simpa using List.all_eq_true.1 hall t hm)⟩)
    (by kernel_rfl)
end Go.Proofs.YtmalhikcdideoaaDoor
