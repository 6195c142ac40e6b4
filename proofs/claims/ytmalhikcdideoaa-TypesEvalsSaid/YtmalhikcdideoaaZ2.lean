/- PROVED: the law TypesEvals returns true for every operation, node, list of values and list of tables, and each argument reads behind the call as it read before. Conditions: what the row itself asks. -/
import Derived.Test.YtmalhikcdideoaaZ1
import Derived.Test.YtmalhikcdideoaaSlS
import Derived.ChangeArms
import Derived.ChangeOld
import Derived.SizedLaws
import Derived.ChangeShapes
import Derived.WideShapes
import Derived.Test.YtmalhikcdideoaaZ0
import Derived.Test.YtmalhikcdideoaaRows
import Derived.WalkKit
import Derived.ProofKit
import Derived.OpenShut
import Derived.ShutString
import Derived.Below
import Derived.Carry
import Derived.Handed
set_option linter.unusedVariables false
set_option linter.unusedSimpArgs false
namespace Go.Proofs.Ytmalhikcdideoaa
open Go Sl
attribute [local irreducible] LpQ XR XRo XRg XRQ putQ XFv XL XW2 wQ putW X XO XOp XH XHo XW SeqQ BlkQ XOQ XHQ NrmQ XC XM XG XHM XHG XD CallK
theorem truth_ok (b : Bool) : Pure Try.prog 51 [B b] (encV (yesV b)) := by
  have hq : ∀ k k' : Bool, keyEq (keyT Try.prog 4) (B k) (B k') = some (decide (k = k')) := fun k k' => by rw [kt83]; cases k <;> cases k' <;> rfl
  have hkt : keyT Try.prog 4 ≠ 0 := by rw [kt83]; decide
  intro h; refine callK_body Try.func51 rfl (by rw [nt51]; simp) ?_; rw [nt51, rs51]
  (repeat' (first | simp [go_sem, X_region, *] | simp (disch := omega) only [om, *] | ((first | refine XC_split ?_ ?_ | refine XG_true ?_ ?_ | refine XG_false ?_ ?_ | refine XRg_true ?_ ?_ | refine XRg_false ?_ ?_) <;> intro hc <;> (try simp only [bl] at hc) <;> (try (exfalso; omega))) | refine XD_w [] [] [] (fun _ => none) mixed (by decide +kernel) (sub_none _) ?_ | fail))
  intro b2 hb2 b3 hb3 hb4 hb5
  refine X_insert (κ := Bool) (ν := Int) (ek := B) (en := I) (l := []) (k := true) (v := 1) (b := b3) (IsMap.nil _ _) (upd_same _ _ _) (by simp [go_sem]) (by simp [go_sem]) (by simp [go_sem]) und83 (hq _) hkt fun ob' hm => ?_
  (repeat' (first | simp [go_sem, X_region, *] | simp (disch := omega) only [om, *] | ((first | refine XC_split ?_ ?_ | refine XG_true ?_ ?_ | refine XG_false ?_ ?_ | refine XRg_true ?_ ?_ | refine XRg_false ?_ ?_) <;> intro hc <;> (try simp only [bl] at hc) <;> (try (exfalso; omega))) | refine XD_w [] [] [] (fun _ => none) mixed (by decide +kernel) (sub_none _) ?_ | fail))
  refine X_lookup (κ := Bool) (ν := Int) (k := b) (z := 0) hm (upd_same _ _ _) (by simp [go_sem]) (by simp [go_sem]) und83 (hq _) hkt zv3 ?_
  cases b
  · (repeat' (first | simp [go_sem, X_region, lookR, mset, mget, *] | simp (disch := omega) only [om, *] | ((first | refine XC_split ?_ ?_ | refine XG_true ?_ ?_ | refine XG_false ?_ ?_ | refine XRg_true ?_ ?_ | refine XRg_false ?_ ?_) <;> intro hc <;> (try simp only [bl] at hc) <;> (try (exfalso; omega))) | refine XD_w [] [] [] (fun _ => none) mixed (by decide +kernel) (sub_none _) ?_ | fail))
    exact Wk.fin (by repeat (first | exact Sub.refl _ | refine Sub.upd (by simp [*]) ?_)) rfl
  · (repeat' (first | simp [go_sem, X_region, lookR, mset, mget, *] | simp (disch := omega) only [om, *] | ((first | refine XC_split ?_ ?_ | refine XG_true ?_ ?_ | refine XG_false ?_ ?_ | refine XRg_true ?_ ?_ | refine XRg_false ?_ ?_) <;> intro hc <;> (try simp only [bl] at hc) <;> (try (exfalso; omega))) | refine XD_w [] [] [] (fun _ => none) mixed (by decide +kernel) (sub_none _) ?_ | fail))
    exact Wk.fin (by repeat (first | exact Sub.refl _ | refine Sub.upd (by simp [*]) ?_)) rfl
theorem perm_all {op : Int} (hop : isOp op) {l : List Int} (hl : (l.length : Int) = ar op) (fr to : Int) :
    Pure Try.prog 49 [I op, encL 1 cI l, I fr, I to] (tup2 (I (permF op (l.getD 0 0) (l.getD 1 0) (l.getD 2 0) fr to).1) (B (permP op fr to l))) := by
  have t1 : ar op = 1 → ∃ a, l = [a] := fun h => len1 (by rw [hl, h])
  have t2 : ar op = 2 → ∃ a b, l = [a, b] := fun h => len2 (by rw [hl, h])
  have t3 : ar op = 3 → ∃ a b c, l = [a, b, c] := fun h => len3 (by rw [hl, h])
  rcases hop.cases with rfl | rfl | rfl | rfl | rfl | rfl | rfl | rfl | rfl | rfl | rfl | rfl | rfl | rfl | rfl
  · obtain ⟨a, rfl⟩ := t1 (by decide); exact perm_4 a 0 0 fr to
  · obtain ⟨a, b, rfl⟩ := t2 (by decide); exact perm_5 a b 0 fr to
  · obtain ⟨a, b, rfl⟩ := t2 (by decide); exact perm_6 a b 0 fr to
  · obtain ⟨a, b, rfl⟩ := t2 (by decide); exact perm_7 a b 0 fr to
  · obtain ⟨a, b, rfl⟩ := t2 (by decide); exact perm_8 a b 0 fr to
  · obtain ⟨a, b, rfl⟩ := t2 (by decide); exact perm_9 a b 0 fr to
  · obtain ⟨a, b, rfl⟩ := t2 (by decide); exact perm_10 a b 0 fr to
  · obtain ⟨a, b, rfl⟩ := t2 (by decide); exact perm_11 a b 0 fr to
  · obtain ⟨a, b, rfl⟩ := t2 (by decide); exact perm_12 a b 0 fr to
  · obtain ⟨a, b, rfl⟩ := t2 (by decide); exact perm_13 a b 0 fr to
  · obtain ⟨a, b, rfl⟩ := t2 (by decide); exact perm_14 a b 0 fr to
  · obtain ⟨a, b, c, rfl⟩ := t3 (by decide); exact perm_15 a b c fr to
  · obtain ⟨a, rfl⟩ := t1 (by decide); exact perm_16 a 0 0 fr to
  · obtain ⟨a, rfl⟩ := t1 (by decide); exact perm_17 a 0 0 fr to
  · obtain ⟨a, b, rfl⟩ := t2 (by decide); exact perm_18 a b 0 fr to
theorem of3_ran (a : V) : of3 a = 0 ∨ of3 a = 1 ∨ of3 a = 2 := by
  unfold of3 fit3
  split
  · split
    · rename_i h; rcases h with h | h <;> simp [h]
    · simp
  · simp
abbrev resT := resF atF rndF yearsF
section
variable (kids nm tn st : AV) (nk nn op0 fr to : Int) (sl : Bool) (a b c : V) (t : Tb)
theorem res_4 (hg : Good a) : Pure Try.prog 21 [I 4, encNd op0 kids nk nn nm, encL 2 cV [a], encL 1 cI [a.k], encTb tn fr to sl st] (encV (resT 4 nk nn a b c (decide (a.k = 0)) t)) := by
  have hc := icont_ok 0 [a.k]
  have h1 := of3_ok a
  have hr : resT 4 nk nn a b c (decide (a.k = 0)) t = val3 (if of3 a = 0 then 1 else if of3 a = 1 then 0 else 2) := by simp [resT, resF]
  rw [hr]
  clear hr
  rcases (of3_ran a) with h | h | h <;> rw [h] at h1 ⊢
  · have hv := val3_ok 1
    intro h; refine callK_body Try.func21 rfl (by rw [nt21]; simp) ?_; rw [nt21, rs21]
    ((repeat' (first | simp [go_sem, X_region, *] | simp (disch := omega) only [om, *] | ((first | refine XC_split ?_ ?_ | refine XG_true ?_ ?_ | refine XG_false ?_ ?_ | refine XRg_true ?_ ?_ | refine XRg_false ?_ ?_) <;> intro hc <;> (try simp only [bl] at hc) <;> (try (exfalso; omega))) | refine XD_w [] [] [] (fun _ => none) mixed (by decide +kernel) (sub_none _) ?_ | refine Pure.call (hc) ?_ | refine ⟨_, Pure.at (hc), ?_⟩ | refine ⟨_, hc, ?_⟩ | refine PureAt.call (hc) ?_ | refine Pure.call (h1) ?_ | refine ⟨_, Pure.at (h1), ?_⟩ | refine ⟨_, h1, ?_⟩ | refine PureAt.call (h1) ?_ | refine Pure.call (hv) ?_ | refine ⟨_, Pure.at (hv), ?_⟩ | refine ⟨_, hv, ?_⟩ | refine PureAt.call (hv) ?_ | (intro bk hbk; (try simp only [go_sem] at hbk)))); all_goals (refine Wk.fin (by repeat (first | exact Sub.refl _ | refine Sub.upd (by simp [*]) ?_)) ?_; first | (simp [*]; done) | (simp only []; (repeat' (first | split | rfl | omega | (simp_all; done))); done) | (simp [*]; (repeat' (first | split | omega | (rw [Bool.eq_iff_iff]; simp; omega))); done) | (simp [*])))
  · have hv := val3_ok 0
    intro h; refine callK_body Try.func21 rfl (by rw [nt21]; simp) ?_; rw [nt21, rs21]
    ((repeat' (first | simp [go_sem, X_region, *] | simp (disch := omega) only [om, *] | ((first | refine XC_split ?_ ?_ | refine XG_true ?_ ?_ | refine XG_false ?_ ?_ | refine XRg_true ?_ ?_ | refine XRg_false ?_ ?_) <;> intro hc <;> (try simp only [bl] at hc) <;> (try (exfalso; omega))) | refine XD_w [] [] [] (fun _ => none) mixed (by decide +kernel) (sub_none _) ?_ | refine Pure.call (hc) ?_ | refine ⟨_, Pure.at (hc), ?_⟩ | refine ⟨_, hc, ?_⟩ | refine PureAt.call (hc) ?_ | refine Pure.call (h1) ?_ | refine ⟨_, Pure.at (h1), ?_⟩ | refine ⟨_, h1, ?_⟩ | refine PureAt.call (h1) ?_ | refine Pure.call (hv) ?_ | refine ⟨_, Pure.at (hv), ?_⟩ | refine ⟨_, hv, ?_⟩ | refine PureAt.call (hv) ?_ | (intro bk hbk; (try simp only [go_sem] at hbk)))); all_goals (refine Wk.fin (by repeat (first | exact Sub.refl _ | refine Sub.upd (by simp [*]) ?_)) ?_; first | (simp [*]; done) | (simp only []; (repeat' (first | split | rfl | omega | (simp_all; done))); done) | (simp [*]; (repeat' (first | split | omega | (rw [Bool.eq_iff_iff]; simp; omega))); done) | (simp [*])))
  · have hv := val3_ok 2
    intro h; refine callK_body Try.func21 rfl (by rw [nt21]; simp) ?_; rw [nt21, rs21]
    ((repeat' (first | simp [go_sem, X_region, *] | simp (disch := omega) only [om, *] | ((first | refine XC_split ?_ ?_ | refine XG_true ?_ ?_ | refine XG_false ?_ ?_ | refine XRg_true ?_ ?_ | refine XRg_false ?_ ?_) <;> intro hc <;> (try simp only [bl] at hc) <;> (try (exfalso; omega))) | refine XD_w [] [] [] (fun _ => none) mixed (by decide +kernel) (sub_none _) ?_ | refine Pure.call (hc) ?_ | refine ⟨_, Pure.at (hc), ?_⟩ | refine ⟨_, hc, ?_⟩ | refine PureAt.call (hc) ?_ | refine Pure.call (h1) ?_ | refine ⟨_, Pure.at (h1), ?_⟩ | refine ⟨_, h1, ?_⟩ | refine PureAt.call (h1) ?_ | refine Pure.call (hv) ?_ | refine ⟨_, Pure.at (hv), ?_⟩ | refine ⟨_, hv, ?_⟩ | refine PureAt.call (hv) ?_ | (intro bk hbk; (try simp only [go_sem] at hbk)))); all_goals (refine Wk.fin (by repeat (first | exact Sub.refl _ | refine Sub.upd (by simp [*]) ?_)) ?_; first | (simp [*]; done) | (simp only []; (repeat' (first | split | rfl | omega | (simp_all; done))); done) | (simp [*]; (repeat' (first | split | omega | (rw [Bool.eq_iff_iff]; simp; omega))); done) | (simp [*])))
theorem cont2 (a b : V) : Pure Try.prog 52 [encL 1 cI [a.k, b.k], I 0] (B (decide (a.k = 0) || decide (b.k = 0))) := by
  have := icont_ok 0 [a.k, b.k]
  simpa [eq_comm] using this
theorem res_5 : Pure Try.prog 21 [I 5, encNd op0 kids nk nn nm, encL 2 cV (a :: b :: []), encL 1 cI (a.k :: b.k :: []), encTb tn fr to sl st] (encV (resT 5 nk nn a b c (decide (a.k = 0) || decide (b.k = 0)) t)) := by
  have hc := cont2 a b
  have h1 := of3_ok a
  have h2 := of3_ok b
  generalize hq : (decide (a.k = 0) || decide (b.k = 0)) = q at *
  have hr : resT 5 nk nn a b c q t = if of3 a = 0 ∨ of3 b = 0 then yesV false else if q = true then v0 else yesV true := by simp [resT, resF]
  rw [hr]
  clear hr hq
  generalize of3 a = x at *
  generalize of3 b = y at *
  have tt := truth_ok true
  have tf := truth_ok false
  cases q
  · intro h; refine callK_body Try.func21 rfl (by rw [nt21]; simp) ?_; rw [nt21, rs21]
    ((repeat' (first | simp [go_sem, X_region, *] | simp (disch := omega) only [om, *] | ((first | refine XC_split ?_ ?_ | refine XG_true ?_ ?_ | refine XG_false ?_ ?_ | refine XRg_true ?_ ?_ | refine XRg_false ?_ ?_) <;> intro hc <;> (try simp only [bl] at hc) <;> (try (exfalso; omega))) | refine XD_w [] [] [] (fun _ => none) mixed (by decide +kernel) (sub_none _) ?_ | refine Pure.call (hc) ?_ | refine ⟨_, Pure.at (hc), ?_⟩ | refine ⟨_, hc, ?_⟩ | refine PureAt.call (hc) ?_ | refine Pure.call (h1) ?_ | refine ⟨_, Pure.at (h1), ?_⟩ | refine ⟨_, h1, ?_⟩ | refine PureAt.call (h1) ?_ | refine Pure.call (h2) ?_ | refine ⟨_, Pure.at (h2), ?_⟩ | refine ⟨_, h2, ?_⟩ | refine PureAt.call (h2) ?_ | refine Pure.call (tt) ?_ | refine ⟨_, Pure.at (tt), ?_⟩ | refine ⟨_, tt, ?_⟩ | refine PureAt.call (tt) ?_ | refine Pure.call (tf) ?_ | refine ⟨_, Pure.at (tf), ?_⟩ | refine ⟨_, tf, ?_⟩ | refine PureAt.call (tf) ?_ | (intro bk hbk; (try simp only [go_sem] at hbk)))); all_goals (refine Wk.fin (by repeat (first | exact Sub.refl _ | refine Sub.upd (by simp [*]) ?_)) ?_; first | (simp [*]; done) | (simp only []; (repeat' (first | split | rfl | omega | (simp_all; done))); done) | (simp [*]; (repeat' (first | split | omega | (rw [Bool.eq_iff_iff]; simp; omega))); done) | (simp [*])))
  · intro h; refine callK_body Try.func21 rfl (by rw [nt21]; simp) ?_; rw [nt21, rs21]
    ((repeat' (first | simp [go_sem, X_region, *] | simp (disch := omega) only [om, *] | ((first | refine XC_split ?_ ?_ | refine XG_true ?_ ?_ | refine XG_false ?_ ?_ | refine XRg_true ?_ ?_ | refine XRg_false ?_ ?_) <;> intro hc <;> (try simp only [bl] at hc) <;> (try (exfalso; omega))) | refine XD_w [] [] [] (fun _ => none) mixed (by decide +kernel) (sub_none _) ?_ | refine Pure.call (hc) ?_ | refine ⟨_, Pure.at (hc), ?_⟩ | refine ⟨_, hc, ?_⟩ | refine PureAt.call (hc) ?_ | refine Pure.call (h1) ?_ | refine ⟨_, Pure.at (h1), ?_⟩ | refine ⟨_, h1, ?_⟩ | refine PureAt.call (h1) ?_ | refine Pure.call (h2) ?_ | refine ⟨_, Pure.at (h2), ?_⟩ | refine ⟨_, h2, ?_⟩ | refine PureAt.call (h2) ?_ | refine Pure.call (tt) ?_ | refine ⟨_, Pure.at (tt), ?_⟩ | refine ⟨_, tt, ?_⟩ | refine PureAt.call (tt) ?_ | refine Pure.call (tf) ?_ | refine ⟨_, Pure.at (tf), ?_⟩ | refine ⟨_, tf, ?_⟩ | refine PureAt.call (tf) ?_ | (intro bk hbk; (try simp only [go_sem] at hbk)))); all_goals (refine Wk.fin (by repeat (first | exact Sub.refl _ | refine Sub.upd (by simp [*]) ?_)) ?_; first | (simp [v0, *]; done) | (simp only [v0]; (repeat' (first | split | rfl | omega | (simp_all; done))); done) | (simp [v0, *]; (repeat' (first | split | omega | (rw [Bool.eq_iff_iff]; simp; omega))); done) | (simp [v0, *])))
theorem res_6 : Pure Try.prog 21 [I 6, encNd op0 kids nk nn nm, encL 2 cV (a :: b :: []), encL 1 cI (a.k :: b.k :: []), encTb tn fr to sl st] (encV (resT 6 nk nn a b c (decide (a.k = 0) || decide (b.k = 0)) t)) := by
  have hc := cont2 a b
  have h1 := of3_ok a
  have h2 := of3_ok b
  generalize hq : (decide (a.k = 0) || decide (b.k = 0)) = q at *
  have hr : resT 6 nk nn a b c q t = if of3 a = 1 ∨ of3 b = 1 then yesV true else if q = true then v0 else yesV false := by simp [resT, resF]
  rw [hr]
  clear hr hq
  generalize of3 a = x at *
  generalize of3 b = y at *
  have tt := truth_ok true
  have tf := truth_ok false
  cases q
  · intro h; refine callK_body Try.func21 rfl (by rw [nt21]; simp) ?_; rw [nt21, rs21]
    ((repeat' (first | simp [go_sem, X_region, *] | simp (disch := omega) only [om, *] | ((first | refine XC_split ?_ ?_ | refine XG_true ?_ ?_ | refine XG_false ?_ ?_ | refine XRg_true ?_ ?_ | refine XRg_false ?_ ?_) <;> intro hc <;> (try simp only [bl] at hc) <;> (try (exfalso; omega))) | refine XD_w [] [] [] (fun _ => none) mixed (by decide +kernel) (sub_none _) ?_ | refine Pure.call (hc) ?_ | refine ⟨_, Pure.at (hc), ?_⟩ | refine ⟨_, hc, ?_⟩ | refine PureAt.call (hc) ?_ | refine Pure.call (h1) ?_ | refine ⟨_, Pure.at (h1), ?_⟩ | refine ⟨_, h1, ?_⟩ | refine PureAt.call (h1) ?_ | refine Pure.call (h2) ?_ | refine ⟨_, Pure.at (h2), ?_⟩ | refine ⟨_, h2, ?_⟩ | refine PureAt.call (h2) ?_ | refine Pure.call (tt) ?_ | refine ⟨_, Pure.at (tt), ?_⟩ | refine ⟨_, tt, ?_⟩ | refine PureAt.call (tt) ?_ | refine Pure.call (tf) ?_ | refine ⟨_, Pure.at (tf), ?_⟩ | refine ⟨_, tf, ?_⟩ | refine PureAt.call (tf) ?_ | (intro bk hbk; (try simp only [go_sem] at hbk)))); all_goals (refine Wk.fin (by repeat (first | exact Sub.refl _ | refine Sub.upd (by simp [*]) ?_)) ?_; first | (simp [*]; done) | (simp only []; (repeat' (first | split | rfl | omega | (simp_all; done))); done) | (simp [*]; (repeat' (first | split | omega | (rw [Bool.eq_iff_iff]; simp; omega))); done) | (simp [*])))
  · intro h; refine callK_body Try.func21 rfl (by rw [nt21]; simp) ?_; rw [nt21, rs21]
    ((repeat' (first | simp [go_sem, X_region, *] | simp (disch := omega) only [om, *] | ((first | refine XC_split ?_ ?_ | refine XG_true ?_ ?_ | refine XG_false ?_ ?_ | refine XRg_true ?_ ?_ | refine XRg_false ?_ ?_) <;> intro hc <;> (try simp only [bl] at hc) <;> (try (exfalso; omega))) | refine XD_w [] [] [] (fun _ => none) mixed (by decide +kernel) (sub_none _) ?_ | refine Pure.call (hc) ?_ | refine ⟨_, Pure.at (hc), ?_⟩ | refine ⟨_, hc, ?_⟩ | refine PureAt.call (hc) ?_ | refine Pure.call (h1) ?_ | refine ⟨_, Pure.at (h1), ?_⟩ | refine ⟨_, h1, ?_⟩ | refine PureAt.call (h1) ?_ | refine Pure.call (h2) ?_ | refine ⟨_, Pure.at (h2), ?_⟩ | refine ⟨_, h2, ?_⟩ | refine PureAt.call (h2) ?_ | refine Pure.call (tt) ?_ | refine ⟨_, Pure.at (tt), ?_⟩ | refine ⟨_, tt, ?_⟩ | refine PureAt.call (tt) ?_ | refine Pure.call (tf) ?_ | refine ⟨_, Pure.at (tf), ?_⟩ | refine ⟨_, tf, ?_⟩ | refine PureAt.call (tf) ?_ | (intro bk hbk; (try simp only [go_sem] at hbk)))); all_goals (refine Wk.fin (by repeat (first | exact Sub.refl _ | refine Sub.upd (by simp [*]) ?_)) ?_; first | (simp [v0, *]; done) | (simp only [v0]; (repeat' (first | split | rfl | omega | (simp_all; done))); done) | (simp [v0, *]; (repeat' (first | split | omega | (rw [Bool.eq_iff_iff]; simp; omega))); done) | (simp [v0, *])))
end
end Go.Proofs.Ytmalhikcdideoaa

set_option linter.unusedVariables false
set_option linter.unusedSimpArgs false
namespace Go.Proofs.Ytmalhikcdideoaa
open Go Sl
attribute [local irreducible] LpQ XR XRo XRg XRQ putQ XFv XL XW2 wQ putW X XO XOp XH XHo XW SeqQ BlkQ XOQ XHQ NrmQ XC XM XG XHM XHG XD CallK
section
variable (kids nm tn st : AV) (nk nn op0 fr to : Int) (sl : Bool) (a b c : V) (t : Tb)
theorem cont3 (a b c : V) : Pure Try.prog 52 [encL 1 cI [a.k, b.k, c.k], I 0] (B (decide (a.k = 0) || (decide (b.k = 0) || decide (c.k = 0)))) := by
  have := icont_ok 0 [a.k, b.k, c.k]
  simpa [eq_comm] using this
theorem res_15 (hg : Good a) (q : Bool) (hq : q = (decide (a.k = 0) || (decide (b.k = 0) || decide (c.k = 0)))) : Pure Try.prog 21 [I 15, encNd op0 kids nk nn nm, encL 2 cV (a :: b :: c :: []), encL 1 cI (a.k :: b.k :: c.k :: []), encTb tn fr to sl st] (encV (resT 15 nk nn a b c q t)) := by
  have hc := cont3 a b c
  rw [← hq] at hc
  have hr : resT 15 nk nn a b c q t = if a.k = 1 then (if a.n = 1 then b else c) else if b = c then b else v0 := by simp [resT, resF]
  rw [hr]
  clear hr hq
  by_cases ha : a.k = 1
  · have h1 := hg.l; have h2 := hg.h
    rw [ha] at h1 h2
    have hn : a.n = 0 ∨ a.n = 1 := by simp [lo, hi] at h1 h2; omega
    rcases a with ⟨ak, an⟩
    simp only at ha hn hc
    subst ha
    clear h1 h2 hg
    rcases hn with rfl | rfl
    · intro h; refine callK_body Try.func21 rfl (by rw [nt21]; simp) ?_; rw [nt21, rs21]
      ((repeat' (first | simp [go_sem, X_region, *] | simp (disch := omega) only [om, *] | ((first | refine XC_split ?_ ?_ | refine XG_true ?_ ?_ | refine XG_false ?_ ?_ | refine XRg_true ?_ ?_ | refine XRg_false ?_ ?_) <;> intro hc <;> (try simp only [bl] at hc) <;> (try (exfalso; omega))) | refine XD_w [] [] [] (fun _ => none) mixed (by decide +kernel) (sub_none _) ?_ | refine Pure.call (hc) ?_ | refine ⟨_, Pure.at (hc), ?_⟩ | refine ⟨_, hc, ?_⟩ | refine PureAt.call (hc) ?_ | (intro bk hbk; (try simp only [go_sem] at hbk)))); all_goals (refine Wk.fin (by repeat (first | exact Sub.refl _ | refine Sub.upd (by simp [*]) ?_)) ?_; first | (simp [v0, *]; done) | (simp only [v0]; (repeat' (first | split | rfl | omega | (simp_all; done))); done) | (simp [v0, *]; (repeat' (first | split | omega | (rw [Bool.eq_iff_iff]; simp; omega))); done) | (simp [v0, *])))
    · intro h; refine callK_body Try.func21 rfl (by rw [nt21]; simp) ?_; rw [nt21, rs21]
      ((repeat' (first | simp [go_sem, X_region, *] | simp (disch := omega) only [om, *] | ((first | refine XC_split ?_ ?_ | refine XG_true ?_ ?_ | refine XG_false ?_ ?_ | refine XRg_true ?_ ?_ | refine XRg_false ?_ ?_) <;> intro hc <;> (try simp only [bl] at hc) <;> (try (exfalso; omega))) | refine XD_w [] [] [] (fun _ => none) mixed (by decide +kernel) (sub_none _) ?_ | refine Pure.call (hc) ?_ | refine ⟨_, Pure.at (hc), ?_⟩ | refine ⟨_, hc, ?_⟩ | refine PureAt.call (hc) ?_ | (intro bk hbk; (try simp only [go_sem] at hbk)))); all_goals (refine Wk.fin (by repeat (first | exact Sub.refl _ | refine Sub.upd (by simp [*]) ?_)) ?_; first | (simp [v0, *]; done) | (simp only [v0]; (repeat' (first | split | rfl | omega | (simp_all; done))); done) | (simp [v0, *]; (repeat' (first | split | omega | (rw [Bool.eq_iff_iff]; simp; omega))); done) | (simp [v0, *])))
  · rw [if_neg ha]
    clear hg
    rcases b with ⟨bk, bn⟩
    rcases c with ⟨ck, cn⟩
    simp only at hc
    by_cases hb : bk = ck ∧ bn = cn
    · rw [if_pos (by rw [V_eq]; exact hb)]
      obtain ⟨rfl, rfl⟩ := hb
      intro h; refine callK_body Try.func21 rfl (by rw [nt21]; simp) ?_; rw [nt21, rs21]
      ((repeat' (first | simp [go_sem, X_region, *] | simp (disch := omega) only [om, *] | ((first | refine XC_split ?_ ?_ | refine XG_true ?_ ?_ | refine XG_false ?_ ?_ | refine XRg_true ?_ ?_ | refine XRg_false ?_ ?_) <;> intro hc <;> (try simp only [bl] at hc) <;> (try (exfalso; omega))) | refine XD_w [] [] [] (fun _ => none) mixed (by decide +kernel) (sub_none _) ?_ | refine Pure.call (hc) ?_ | refine ⟨_, Pure.at (hc), ?_⟩ | refine ⟨_, hc, ?_⟩ | refine PureAt.call (hc) ?_ | (intro bk hbk; (try simp only [go_sem] at hbk)))); all_goals (refine Wk.fin (by repeat (first | exact Sub.refl _ | refine Sub.upd (by simp [*]) ?_)) ?_; first | (simp [v0, *]; done) | (simp only [v0]; (repeat' (first | split | rfl | omega | (simp_all; done))); done) | (simp [v0, *]; (repeat' (first | split | omega | (rw [Bool.eq_iff_iff]; simp; omega))); done) | (simp [v0, *])))
    · rw [if_neg (by rw [V_eq]; exact hb)]
      intro h; refine callK_body Try.func21 rfl (by rw [nt21]; simp) ?_; rw [nt21, rs21]
      ((repeat' (first | simp [go_sem, X_region, *] | simp (disch := omega) only [om, *] | ((first | refine XC_split ?_ ?_ | refine XG_true ?_ ?_ | refine XG_false ?_ ?_ | refine XRg_true ?_ ?_ | refine XRg_false ?_ ?_) <;> intro hc <;> (try simp only [bl] at hc) <;> (try (exfalso; omega))) | refine XD_w [] [] [] (fun _ => none) mixed (by decide +kernel) (sub_none _) ?_ | refine Pure.call (hc) ?_ | refine ⟨_, Pure.at (hc), ?_⟩ | refine ⟨_, hc, ?_⟩ | refine PureAt.call (hc) ?_ | (intro bk hbk; (try simp only [go_sem] at hbk)))); all_goals (refine Wk.fin (by repeat (first | exact Sub.refl _ | refine Sub.upd (by simp [*]) ?_)) ?_; first | (simp [v0, *]; done) | (simp only [v0]; (repeat' (first | split | rfl | omega | (simp_all; done))); done) | (simp [v0, *]; (repeat' (first | split | omega | (rw [Bool.eq_iff_iff]; simp; omega))); done) | (simp [v0, *])))
theorem res_7 (hp : (decide (a.k = 0) || decide (b.k = 0)) = false → True) : Pure Try.prog 21 [I 7, encNd op0 kids nk nn nm, encL 2 cV (a :: b :: []), encL 1 cI (a.k :: b.k :: []), encTb tn fr to sl st] (encV (resT 7 nk nn a b c (decide (a.k = 0) || decide (b.k = 0)) t)) := by
  have hc := cont2 a b
  have hpm := perm_all (op := 7) (by unfold isOp; omega) (l := [a.k, b.k]) (by simp [ar]) fr to
  simp only [List.getD_cons_zero, List.getD_cons_succ, List.getD_nil] at hpm
  generalize permP 7 fr to [a.k, b.k] = pb at *
  generalize hq : (decide (a.k = 0) || decide (b.k = 0)) = q at *
  cases q
  · have hp := hp rfl
    have hr : resT 7 nk nn a b c false t = yesV (decide (a.n < b.n)) := by simp [resT, resF, permF, hp]
    rw [hr]
    have hf := fitted_ok
    have ht := truth_ok
    simp only [permF, hp] at hpm
    skip
    intro h; refine callK_body Try.func21 rfl (by rw [nt21]; simp) ?_; rw [nt21, rs21]
    ((repeat' (first | simp [go_sem, X_region, *] | simp (disch := omega) only [om, *] | ((first | refine XC_split ?_ ?_ | refine XG_true ?_ ?_ | refine XG_false ?_ ?_ | refine XRg_true ?_ ?_ | refine XRg_false ?_ ?_) <;> intro hc <;> (try simp only [bl] at hc) <;> (try (exfalso; omega))) | refine XD_w [] [] [] (fun _ => none) mixed (by decide +kernel) (sub_none _) ?_ | refine Pure.call (hc) ?_ | refine ⟨_, Pure.at (hc), ?_⟩ | refine ⟨_, hc, ?_⟩ | refine PureAt.call (hc) ?_ | refine Pure.call (hpm) ?_ | refine ⟨_, Pure.at (hpm), ?_⟩ | refine ⟨_, hpm, ?_⟩ | refine PureAt.call (hpm) ?_ | refine Pure.call (hf) ?_ | refine ⟨_, Pure.at (hf), ?_⟩ | refine ⟨_, hf, ?_⟩ | refine PureAt.call (hf) ?_ | refine Pure.call (ht _) ?_ | refine ⟨_, Pure.at (ht _), ?_⟩ | refine ⟨_, ht _, ?_⟩ | refine PureAt.call (ht _) ?_ | (intro bk hbk; (try simp only [go_sem] at hbk)))); all_goals (refine Wk.fin (by repeat (first | exact Sub.refl _ | refine Sub.upd (by simp [*]) ?_)) ?_; first | (simp [w, *]; done) | (simp only [w]; (repeat' (first | split | rfl | omega | (simp_all; done))); done) | (simp [w, *]; (repeat' (first | split | omega | (rw [Bool.eq_iff_iff]; simp; omega))); done) | (simp [w, *])))
  · have hr : resT 7 nk nn a b c true t = v0 := by simp [resT, resF]
    rw [hr]
    intro h; refine callK_body Try.func21 rfl (by rw [nt21]; simp) ?_; rw [nt21, rs21]
    ((repeat' (first | simp [go_sem, X_region, *] | simp (disch := omega) only [om, *] | ((first | refine XC_split ?_ ?_ | refine XG_true ?_ ?_ | refine XG_false ?_ ?_ | refine XRg_true ?_ ?_ | refine XRg_false ?_ ?_) <;> intro hc <;> (try simp only [bl] at hc) <;> (try (exfalso; omega))) | refine XD_w [] [] [] (fun _ => none) mixed (by decide +kernel) (sub_none _) ?_ | refine Pure.call (hc) ?_ | refine ⟨_, Pure.at (hc), ?_⟩ | refine ⟨_, hc, ?_⟩ | refine PureAt.call (hc) ?_ | (intro bk hbk; (try simp only [go_sem] at hbk)))); all_goals (refine Wk.fin (by repeat (first | exact Sub.refl _ | refine Sub.upd (by simp [*]) ?_)) ?_; first | (simp [v0, *]; done) | (simp only [v0]; (repeat' (first | split | rfl | omega | (simp_all; done))); done) | (simp [v0, *]; (repeat' (first | split | omega | (rw [Bool.eq_iff_iff]; simp; omega))); done) | (simp [v0, *])))
theorem res_8 (hp : (decide (a.k = 0) || decide (b.k = 0)) = false → True) : Pure Try.prog 21 [I 8, encNd op0 kids nk nn nm, encL 2 cV (a :: b :: []), encL 1 cI (a.k :: b.k :: []), encTb tn fr to sl st] (encV (resT 8 nk nn a b c (decide (a.k = 0) || decide (b.k = 0)) t)) := by
  have hc := cont2 a b
  have hpm := perm_all (op := 8) (by unfold isOp; omega) (l := [a.k, b.k]) (by simp [ar]) fr to
  simp only [List.getD_cons_zero, List.getD_cons_succ, List.getD_nil] at hpm
  generalize permP 8 fr to [a.k, b.k] = pb at *
  generalize hq : (decide (a.k = 0) || decide (b.k = 0)) = q at *
  cases q
  · have hp := hp rfl
    have hr : resT 8 nk nn a b c false t = yesV (decide (a.n ≤ b.n)) := by simp [resT, resF, permF, hp]
    rw [hr]
    have hf := fitted_ok
    have ht := truth_ok
    simp only [permF, hp] at hpm
    skip
    intro h; refine callK_body Try.func21 rfl (by rw [nt21]; simp) ?_; rw [nt21, rs21]
    ((repeat' (first | simp [go_sem, X_region, *] | simp (disch := omega) only [om, *] | ((first | refine XC_split ?_ ?_ | refine XG_true ?_ ?_ | refine XG_false ?_ ?_ | refine XRg_true ?_ ?_ | refine XRg_false ?_ ?_) <;> intro hc <;> (try simp only [bl] at hc) <;> (try (exfalso; omega))) | refine XD_w [] [] [] (fun _ => none) mixed (by decide +kernel) (sub_none _) ?_ | refine Pure.call (hc) ?_ | refine ⟨_, Pure.at (hc), ?_⟩ | refine ⟨_, hc, ?_⟩ | refine PureAt.call (hc) ?_ | refine Pure.call (hpm) ?_ | refine ⟨_, Pure.at (hpm), ?_⟩ | refine ⟨_, hpm, ?_⟩ | refine PureAt.call (hpm) ?_ | refine Pure.call (hf) ?_ | refine ⟨_, Pure.at (hf), ?_⟩ | refine ⟨_, hf, ?_⟩ | refine PureAt.call (hf) ?_ | refine Pure.call (ht _) ?_ | refine ⟨_, Pure.at (ht _), ?_⟩ | refine ⟨_, ht _, ?_⟩ | refine PureAt.call (ht _) ?_ | (intro bk hbk; (try simp only [go_sem] at hbk)))); all_goals (refine Wk.fin (by repeat (first | exact Sub.refl _ | refine Sub.upd (by simp [*]) ?_)) ?_; first | (simp [w, *]; done) | (simp only [w]; (repeat' (first | split | rfl | omega | (simp_all; done))); done) | (simp [w, *]; (repeat' (first | split | omega | (rw [Bool.eq_iff_iff]; simp; omega))); done) | (simp [w, *])))
  · have hr : resT 8 nk nn a b c true t = v0 := by simp [resT, resF]
    rw [hr]
    intro h; refine callK_body Try.func21 rfl (by rw [nt21]; simp) ?_; rw [nt21, rs21]
    ((repeat' (first | simp [go_sem, X_region, *] | simp (disch := omega) only [om, *] | ((first | refine XC_split ?_ ?_ | refine XG_true ?_ ?_ | refine XG_false ?_ ?_ | refine XRg_true ?_ ?_ | refine XRg_false ?_ ?_) <;> intro hc <;> (try simp only [bl] at hc) <;> (try (exfalso; omega))) | refine XD_w [] [] [] (fun _ => none) mixed (by decide +kernel) (sub_none _) ?_ | refine Pure.call (hc) ?_ | refine ⟨_, Pure.at (hc), ?_⟩ | refine ⟨_, hc, ?_⟩ | refine PureAt.call (hc) ?_ | (intro bk hbk; (try simp only [go_sem] at hbk)))); all_goals (refine Wk.fin (by repeat (first | exact Sub.refl _ | refine Sub.upd (by simp [*]) ?_)) ?_; first | (simp [v0, *]; done) | (simp only [v0]; (repeat' (first | split | rfl | omega | (simp_all; done))); done) | (simp [v0, *]; (repeat' (first | split | omega | (rw [Bool.eq_iff_iff]; simp; omega))); done) | (simp [v0, *])))
theorem res_9 (hp : (decide (a.k = 0) || decide (b.k = 0)) = false → True) : Pure Try.prog 21 [I 9, encNd op0 kids nk nn nm, encL 2 cV (a :: b :: []), encL 1 cI (a.k :: b.k :: []), encTb tn fr to sl st] (encV (resT 9 nk nn a b c (decide (a.k = 0) || decide (b.k = 0)) t)) := by
  have hc := cont2 a b
  have hpm := perm_all (op := 9) (by unfold isOp; omega) (l := [a.k, b.k]) (by simp [ar]) fr to
  simp only [List.getD_cons_zero, List.getD_cons_succ, List.getD_nil] at hpm
  generalize permP 9 fr to [a.k, b.k] = pb at *
  generalize hq : (decide (a.k = 0) || decide (b.k = 0)) = q at *
  cases q
  · have hp := hp rfl
    have hr : resT 9 nk nn a b c false t = yesV (decide (a.n = b.n)) := by simp [resT, resF, permF, hp]
    rw [hr]
    have hf := fitted_ok
    have ht := truth_ok
    simp only [permF, hp] at hpm
    skip
    intro h; refine callK_body Try.func21 rfl (by rw [nt21]; simp) ?_; rw [nt21, rs21]
    ((repeat' (first | simp [go_sem, X_region, *] | simp (disch := omega) only [om, *] | ((first | refine XC_split ?_ ?_ | refine XG_true ?_ ?_ | refine XG_false ?_ ?_ | refine XRg_true ?_ ?_ | refine XRg_false ?_ ?_) <;> intro hc <;> (try simp only [bl] at hc) <;> (try (exfalso; omega))) | refine XD_w [] [] [] (fun _ => none) mixed (by decide +kernel) (sub_none _) ?_ | refine Pure.call (hc) ?_ | refine ⟨_, Pure.at (hc), ?_⟩ | refine ⟨_, hc, ?_⟩ | refine PureAt.call (hc) ?_ | refine Pure.call (hpm) ?_ | refine ⟨_, Pure.at (hpm), ?_⟩ | refine ⟨_, hpm, ?_⟩ | refine PureAt.call (hpm) ?_ | refine Pure.call (hf) ?_ | refine ⟨_, Pure.at (hf), ?_⟩ | refine ⟨_, hf, ?_⟩ | refine PureAt.call (hf) ?_ | refine Pure.call (ht _) ?_ | refine ⟨_, Pure.at (ht _), ?_⟩ | refine ⟨_, ht _, ?_⟩ | refine PureAt.call (ht _) ?_ | (intro bk hbk; (try simp only [go_sem] at hbk)))); all_goals (refine Wk.fin (by repeat (first | exact Sub.refl _ | refine Sub.upd (by simp [*]) ?_)) ?_; first | (simp [w, *]; done) | (simp only [w]; (repeat' (first | split | rfl | omega | (simp_all; done))); done) | (simp [w, *]; (repeat' (first | split | omega | (rw [Bool.eq_iff_iff]; simp; omega))); done) | (simp [w, *])))
  · have hr : resT 9 nk nn a b c true t = v0 := by simp [resT, resF]
    rw [hr]
    intro h; refine callK_body Try.func21 rfl (by rw [nt21]; simp) ?_; rw [nt21, rs21]
    ((repeat' (first | simp [go_sem, X_region, *] | simp (disch := omega) only [om, *] | ((first | refine XC_split ?_ ?_ | refine XG_true ?_ ?_ | refine XG_false ?_ ?_ | refine XRg_true ?_ ?_ | refine XRg_false ?_ ?_) <;> intro hc <;> (try simp only [bl] at hc) <;> (try (exfalso; omega))) | refine XD_w [] [] [] (fun _ => none) mixed (by decide +kernel) (sub_none _) ?_ | refine Pure.call (hc) ?_ | refine ⟨_, Pure.at (hc), ?_⟩ | refine ⟨_, hc, ?_⟩ | refine PureAt.call (hc) ?_ | (intro bk hbk; (try simp only [go_sem] at hbk)))); all_goals (refine Wk.fin (by repeat (first | exact Sub.refl _ | refine Sub.upd (by simp [*]) ?_)) ?_; first | (simp [v0, *]; done) | (simp only [v0]; (repeat' (first | split | rfl | omega | (simp_all; done))); done) | (simp [v0, *]; (repeat' (first | split | omega | (rw [Bool.eq_iff_iff]; simp; omega))); done) | (simp [v0, *])))
end
end Go.Proofs.Ytmalhikcdideoaa

set_option linter.unusedVariables false
set_option linter.unusedSimpArgs false
namespace Go.Proofs.Ytmalhikcdideoaa
open Go Sl
attribute [local irreducible] LpQ XR XRo XRg XRQ putQ XFv XL XW2 wQ putW X XO XOp XH XHo XW SeqQ BlkQ XOQ XHQ NrmQ XC XM XG XHM XHG XD CallK
set_option maxRecDepth 100000
section
variable (kids nm tn st : AV) (nk nn op0 fr to : Int) (sl : Bool) (a b c : V) (t : Tb)
theorem res_10 (hp : a.k ≠ 0 → b.k ≠ 0 → 0 ≤ a.k ∧ a.k ≤ 6 ∧ ∀ c fr to, (permF 10 a.k b.k c fr to).1 = a.k) : Pure Try.prog 21 [I 10, encNd op0 kids nk nn nm, encL 2 cV (a :: b :: []), encL 1 cI (a.k :: b.k :: []), encTb tn fr to sl st] (encV (resT 10 nk nn a b c (decide (a.k = 0) || decide (b.k = 0)) t)) := by
  have hc := cont2 a b
  have hpm := perm_all (op := 10) (by unfold isOp; omega) (l := [a.k, b.k]) (by simp [ar]) fr to
  simp only [List.getD_cons_zero, List.getD_cons_succ, List.getD_nil] at hpm
  by_cases hq : a.k = 0 ∨ b.k = 0
  · rw [show (decide (a.k = 0) || decide (b.k = 0)) = true by simpa using hq] at *
    have hr : resT 10 nk nn a b c true t = v0 := by simp [resT, resF]
    rw [hr]
    intro h; refine callK_body Try.func21 rfl (by rw [nt21]; simp) ?_; rw [nt21, rs21]
    ((repeat' (first | simp [go_sem, X_region, *] | simp (disch := omega) only [om, *] | ((first | refine XC_split ?_ ?_ | refine XG_true ?_ ?_ | refine XG_false ?_ ?_ | refine XRg_true ?_ ?_ | refine XRg_false ?_ ?_) <;> intro hc <;> (try simp only [bl] at hc) <;> (try (exfalso; omega))) | refine XD_w [] [] [] (fun _ => none) mixed (by decide +kernel) (sub_none _) ?_ | refine Pure.call (hc) ?_ | refine ⟨_, Pure.at (hc), ?_⟩ | refine ⟨_, hc, ?_⟩ | refine PureAt.call (hc) ?_ | (intro bk hbk; (try simp only [go_sem] at hbk)))); all_goals (refine Wk.fin (by repeat (first | exact Sub.refl _ | refine Sub.upd (by simp [*]) ?_)) ?_; first | (simp [v0, *]; done) | (simp only [v0]; (repeat' (first | split | rfl | omega | (simp_all; done))); done) | (simp [v0, *]; (repeat' (first | split | omega | (rw [Bool.eq_iff_iff]; simp; omega))); done) | (simp [v0, *])))
  · rw [show (decide (a.k = 0) || decide (b.k = 0)) = false by simpa using hq] at *
    obtain ⟨k0, k6, hk⟩ := hp (by omega) (by omega)
    have hr : resT 10 nk nn a b c false t = fitV ⟨a.k, w (a.n + b.n)⟩ := by simp [resT, resF, hk]
    rw [hr]
    have hk := hk 0 fr to
    skip
    generalize permP 10 fr to [a.k, b.k] = pb at *
    generalize permF 10 a.k b.k 0 fr to = pf at *
    rw [hk] at hpm
    have hf := fitted_ok a.k (w (a.n + b.n)) (by omega) (by omega)
    intro h; refine callK_body Try.func21 rfl (by rw [nt21]; simp) ?_; rw [nt21, rs21]
    ((repeat' (first | simp [go_sem, X_region, *] | simp (disch := omega) only [om, *] | ((first | refine XC_split ?_ ?_ | refine XG_true ?_ ?_ | refine XG_false ?_ ?_ | refine XRg_true ?_ ?_ | refine XRg_false ?_ ?_) <;> intro hc <;> (try simp only [bl] at hc) <;> (try (exfalso; omega))) | refine XD_w [] [] [] (fun _ => none) mixed (by decide +kernel) (sub_none _) ?_ | refine Pure.call (hc) ?_ | refine ⟨_, Pure.at (hc), ?_⟩ | refine ⟨_, hc, ?_⟩ | refine PureAt.call (hc) ?_ | refine Pure.call (hpm) ?_ | refine ⟨_, Pure.at (hpm), ?_⟩ | refine ⟨_, hpm, ?_⟩ | refine PureAt.call (hpm) ?_ | refine Pure.call (hf) ?_ | refine ⟨_, Pure.at (hf), ?_⟩ | refine ⟨_, hf, ?_⟩ | refine PureAt.call (hf) ?_ | refine Pure.call (hc) ?_ | refine ⟨_, Pure.at (hc), ?_⟩ | refine ⟨_, hc, ?_⟩ | refine PureAt.call (hc) ?_ | (intro bk hbk; (try simp only [go_sem] at hbk)))); all_goals (refine Wk.fin (by repeat (first | exact Sub.refl _ | refine Sub.upd (by simp [*]) ?_)) ?_; first | (simp [w, *]; done) | (simp only [w]; (repeat' (first | split | rfl | omega | (simp_all; done))); done) | (simp [w, *]; (repeat' (first | split | omega | (rw [Bool.eq_iff_iff]; simp; omega))); done) | (simp [w, *])))
theorem res_11 (hp : a.k ≠ 0 → b.k ≠ 0 → 0 ≤ (if a.k = b.k ∧ a.k = 4 then 3 else a.k) ∧ (if a.k = b.k ∧ a.k = 4 then 3 else a.k) ≤ 6 ∧ ∀ c fr to, (permF 11 a.k b.k c fr to).1 = (if a.k = b.k ∧ a.k = 4 then 3 else a.k)) : Pure Try.prog 21 [I 11, encNd op0 kids nk nn nm, encL 2 cV (a :: b :: []), encL 1 cI (a.k :: b.k :: []), encTb tn fr to sl st] (encV (resT 11 nk nn a b c (decide (a.k = 0) || decide (b.k = 0)) t)) := by
  have hc := cont2 a b
  have hpm := perm_all (op := 11) (by unfold isOp; omega) (l := [a.k, b.k]) (by simp [ar]) fr to
  simp only [List.getD_cons_zero, List.getD_cons_succ, List.getD_nil] at hpm
  by_cases hq : a.k = 0 ∨ b.k = 0
  · rw [show (decide (a.k = 0) || decide (b.k = 0)) = true by simpa using hq] at *
    have hr : resT 11 nk nn a b c true t = v0 := by simp [resT, resF]
    rw [hr]
    intro h; refine callK_body Try.func21 rfl (by rw [nt21]; simp) ?_; rw [nt21, rs21]
    ((repeat' (first | simp [go_sem, X_region, *] | simp (disch := omega) only [om, *] | ((first | refine XC_split ?_ ?_ | refine XG_true ?_ ?_ | refine XG_false ?_ ?_ | refine XRg_true ?_ ?_ | refine XRg_false ?_ ?_) <;> intro hc <;> (try simp only [bl] at hc) <;> (try (exfalso; omega))) | refine XD_w [] [] [] (fun _ => none) mixed (by decide +kernel) (sub_none _) ?_ | refine Pure.call (hc) ?_ | refine ⟨_, Pure.at (hc), ?_⟩ | refine ⟨_, hc, ?_⟩ | refine PureAt.call (hc) ?_ | (intro bk hbk; (try simp only [go_sem] at hbk)))); all_goals (refine Wk.fin (by repeat (first | exact Sub.refl _ | refine Sub.upd (by simp [*]) ?_)) ?_; first | (simp [v0, *]; done) | (simp only [v0]; (repeat' (first | split | rfl | omega | (simp_all; done))); done) | (simp [v0, *]; (repeat' (first | split | omega | (rw [Bool.eq_iff_iff]; simp; omega))); done) | (simp [v0, *])))
  · rw [show (decide (a.k = 0) || decide (b.k = 0)) = false by simpa using hq] at *
    obtain ⟨k0, k6, hk⟩ := hp (by omega) (by omega)
    have hr : resT 11 nk nn a b c false t = fitV ⟨(if a.k = b.k ∧ a.k = 4 then 3 else a.k), w (a.n - b.n)⟩ := by simp [resT, resF, hk]
    rw [hr]
    have hk := hk 0 fr to
    skip
    generalize permP 11 fr to [a.k, b.k] = pb at *
    generalize permF 11 a.k b.k 0 fr to = pf at *
    rw [hk] at hpm
    have hf := fitted_ok (if a.k = b.k ∧ a.k = 4 then 3 else a.k) (w (a.n - b.n)) (by omega) (by omega)
    intro h; refine callK_body Try.func21 rfl (by rw [nt21]; simp) ?_; rw [nt21, rs21]
    ((repeat' (first | simp [go_sem, X_region, *] | simp (disch := omega) only [om, *] | ((first | refine XC_split ?_ ?_ | refine XG_true ?_ ?_ | refine XG_false ?_ ?_ | refine XRg_true ?_ ?_ | refine XRg_false ?_ ?_) <;> intro hc <;> (try simp only [bl] at hc) <;> (try (exfalso; omega))) | refine XD_w [] [] [] (fun _ => none) mixed (by decide +kernel) (sub_none _) ?_ | refine Pure.call (hc) ?_ | refine ⟨_, Pure.at (hc), ?_⟩ | refine ⟨_, hc, ?_⟩ | refine PureAt.call (hc) ?_ | refine Pure.call (hpm) ?_ | refine ⟨_, Pure.at (hpm), ?_⟩ | refine ⟨_, hpm, ?_⟩ | refine PureAt.call (hpm) ?_ | refine Pure.call (hf) ?_ | refine ⟨_, Pure.at (hf), ?_⟩ | refine ⟨_, hf, ?_⟩ | refine PureAt.call (hf) ?_ | refine Pure.call (hc) ?_ | refine ⟨_, Pure.at (hc), ?_⟩ | refine ⟨_, hc, ?_⟩ | refine PureAt.call (hc) ?_ | (intro bk hbk; (try simp only [go_sem] at hbk)))); all_goals (refine Wk.fin (by repeat (first | exact Sub.refl _ | refine Sub.upd (by simp [*]) ?_)) ?_; first | (simp [w, *]; done) | (simp only [w]; (repeat' (first | split | rfl | omega | (simp_all; done))); done) | (simp [w, *]; (repeat' (first | split | omega | (rw [Bool.eq_iff_iff]; simp; omega))); done) | (simp [w, *])))
theorem res_13 (hp : a.k ≠ 0 → b.k ≠ 0 → 0 ≤ a.k ∧ a.k ≤ 6 ∧ ∀ c fr to, (permF 13 a.k b.k c fr to).1 = a.k) : Pure Try.prog 21 [I 13, encNd op0 kids nk nn nm, encL 2 cV (a :: b :: []), encL 1 cI (a.k :: b.k :: []), encTb tn fr to sl st] (encV (resT 13 nk nn a b c (decide (a.k = 0) || decide (b.k = 0)) t)) := by
  have hc := cont2 a b
  have hpm := perm_all (op := 13) (by unfold isOp; omega) (l := [a.k, b.k]) (by simp [ar]) fr to
  simp only [List.getD_cons_zero, List.getD_cons_succ, List.getD_nil] at hpm
  by_cases hq : a.k = 0 ∨ b.k = 0
  · rw [show (decide (a.k = 0) || decide (b.k = 0)) = true by simpa using hq] at *
    have hr : resT 13 nk nn a b c true t = v0 := by simp [resT, resF]
    rw [hr]
    intro h; refine callK_body Try.func21 rfl (by rw [nt21]; simp) ?_; rw [nt21, rs21]
    ((repeat' (first | simp [go_sem, X_region, *] | simp (disch := omega) only [om, *] | ((first | refine XC_split ?_ ?_ | refine XG_true ?_ ?_ | refine XG_false ?_ ?_ | refine XRg_true ?_ ?_ | refine XRg_false ?_ ?_) <;> intro hc <;> (try simp only [bl] at hc) <;> (try (exfalso; omega))) | refine XD_w [] [] [] (fun _ => none) mixed (by decide +kernel) (sub_none _) ?_ | refine Pure.call (hc) ?_ | refine ⟨_, Pure.at (hc), ?_⟩ | refine ⟨_, hc, ?_⟩ | refine PureAt.call (hc) ?_ | (intro bk hbk; (try simp only [go_sem] at hbk)))); all_goals (refine Wk.fin (by repeat (first | exact Sub.refl _ | refine Sub.upd (by simp [*]) ?_)) ?_; first | (simp [v0, *]; done) | (simp only [v0]; (repeat' (first | split | rfl | omega | (simp_all; done))); done) | (simp [v0, *]; (repeat' (first | split | omega | (rw [Bool.eq_iff_iff]; simp; omega))); done) | (simp [v0, *])))
  · rw [show (decide (a.k = 0) || decide (b.k = 0)) = false by simpa using hq] at *
    obtain ⟨k0, k6, hk⟩ := hp (by omega) (by omega)
    have hr : resT 13 nk nn a b c false t = fitV ⟨a.k, min a.n b.n⟩ := by simp [resT, resF, hk]
    rw [hr]
    have hk := hk 0 fr to
    skip
    generalize permP 13 fr to [a.k, b.k] = pb at *
    generalize permF 13 a.k b.k 0 fr to = pf at *
    rw [hk] at hpm
    have hf := fitted_ok a.k (min a.n b.n) (by omega) (by omega)
    intro h; refine callK_body Try.func21 rfl (by rw [nt21]; simp) ?_; rw [nt21, rs21]
    ((repeat' (first | simp [go_sem, X_region, *] | simp (disch := omega) only [om, *] | ((first | refine XC_split ?_ ?_ | refine XG_true ?_ ?_ | refine XG_false ?_ ?_ | refine XRg_true ?_ ?_ | refine XRg_false ?_ ?_) <;> intro hc <;> (try simp only [bl] at hc) <;> (try (exfalso; omega))) | refine XD_w [] [] [] (fun _ => none) mixed (by decide +kernel) (sub_none _) ?_ | refine Pure.call (hc) ?_ | refine ⟨_, Pure.at (hc), ?_⟩ | refine ⟨_, hc, ?_⟩ | refine PureAt.call (hc) ?_ | refine Pure.call (hpm) ?_ | refine ⟨_, Pure.at (hpm), ?_⟩ | refine ⟨_, hpm, ?_⟩ | refine PureAt.call (hpm) ?_ | refine Pure.call (hf) ?_ | refine ⟨_, Pure.at (hf), ?_⟩ | refine ⟨_, hf, ?_⟩ | refine PureAt.call (hf) ?_ | refine Pure.call (hc) ?_ | refine ⟨_, Pure.at (hc), ?_⟩ | refine ⟨_, hc, ?_⟩ | refine PureAt.call (hc) ?_ | (intro bk hbk; (try simp only [go_sem] at hbk)))); all_goals (refine Wk.fin (by repeat (first | exact Sub.refl _ | refine Sub.upd (by simp [*]) ?_)) ?_; first | (simp [w, *]; done) | (simp only [w]; (repeat' (first | split | rfl | omega | (simp_all; done))); done) | (simp [w, *]; (repeat' (first | split | omega | (rw [Bool.eq_iff_iff]; simp; omega))); done) | (simp [w, *])))
theorem res_14 (hp : a.k ≠ 0 → b.k ≠ 0 → 0 ≤ a.k ∧ a.k ≤ 6 ∧ ∀ c fr to, (permF 14 a.k b.k c fr to).1 = a.k) : Pure Try.prog 21 [I 14, encNd op0 kids nk nn nm, encL 2 cV (a :: b :: []), encL 1 cI (a.k :: b.k :: []), encTb tn fr to sl st] (encV (resT 14 nk nn a b c (decide (a.k = 0) || decide (b.k = 0)) t)) := by
  have hc := cont2 a b
  have hpm := perm_all (op := 14) (by unfold isOp; omega) (l := [a.k, b.k]) (by simp [ar]) fr to
  simp only [List.getD_cons_zero, List.getD_cons_succ, List.getD_nil] at hpm
  by_cases hq : a.k = 0 ∨ b.k = 0
  · rw [show (decide (a.k = 0) || decide (b.k = 0)) = true by simpa using hq] at *
    have hr : resT 14 nk nn a b c true t = v0 := by simp [resT, resF]
    rw [hr]
    intro h; refine callK_body Try.func21 rfl (by rw [nt21]; simp) ?_; rw [nt21, rs21]
    ((repeat' (first | simp [go_sem, X_region, *] | simp (disch := omega) only [om, *] | ((first | refine XC_split ?_ ?_ | refine XG_true ?_ ?_ | refine XG_false ?_ ?_ | refine XRg_true ?_ ?_ | refine XRg_false ?_ ?_) <;> intro hc <;> (try simp only [bl] at hc) <;> (try (exfalso; omega))) | refine XD_w [] [] [] (fun _ => none) mixed (by decide +kernel) (sub_none _) ?_ | refine Pure.call (hc) ?_ | refine ⟨_, Pure.at (hc), ?_⟩ | refine ⟨_, hc, ?_⟩ | refine PureAt.call (hc) ?_ | (intro bk hbk; (try simp only [go_sem] at hbk)))); all_goals (refine Wk.fin (by repeat (first | exact Sub.refl _ | refine Sub.upd (by simp [*]) ?_)) ?_; first | (simp [v0, *]; done) | (simp only [v0]; (repeat' (first | split | rfl | omega | (simp_all; done))); done) | (simp [v0, *]; (repeat' (first | split | omega | (rw [Bool.eq_iff_iff]; simp; omega))); done) | (simp [v0, *])))
  · rw [show (decide (a.k = 0) || decide (b.k = 0)) = false by simpa using hq] at *
    obtain ⟨k0, k6, hk⟩ := hp (by omega) (by omega)
    have hr : resT 14 nk nn a b c false t = fitV ⟨a.k, max a.n b.n⟩ := by simp [resT, resF, hk]
    rw [hr]
    have hk := hk 0 fr to
    skip
    generalize permP 14 fr to [a.k, b.k] = pb at *
    generalize permF 14 a.k b.k 0 fr to = pf at *
    rw [hk] at hpm
    have hf := fitted_ok a.k (max a.n b.n) (by omega) (by omega)
    intro h; refine callK_body Try.func21 rfl (by rw [nt21]; simp) ?_; rw [nt21, rs21]
    ((repeat' (first | simp [go_sem, X_region, *] | simp (disch := omega) only [om, *] | ((first | refine XC_split ?_ ?_ | refine XG_true ?_ ?_ | refine XG_false ?_ ?_ | refine XRg_true ?_ ?_ | refine XRg_false ?_ ?_) <;> intro hc <;> (try simp only [bl] at hc) <;> (try (exfalso; omega))) | refine XD_w [] [] [] (fun _ => none) mixed (by decide +kernel) (sub_none _) ?_ | refine Pure.call (hc) ?_ | refine ⟨_, Pure.at (hc), ?_⟩ | refine ⟨_, hc, ?_⟩ | refine PureAt.call (hc) ?_ | refine Pure.call (hpm) ?_ | refine ⟨_, Pure.at (hpm), ?_⟩ | refine ⟨_, hpm, ?_⟩ | refine PureAt.call (hpm) ?_ | refine Pure.call (hf) ?_ | refine ⟨_, Pure.at (hf), ?_⟩ | refine ⟨_, hf, ?_⟩ | refine PureAt.call (hf) ?_ | refine Pure.call (hc) ?_ | refine ⟨_, Pure.at (hc), ?_⟩ | refine ⟨_, hc, ?_⟩ | refine PureAt.call (hc) ?_ | (intro bk hbk; (try simp only [go_sem] at hbk)))); all_goals (refine Wk.fin (by repeat (first | exact Sub.refl _ | refine Sub.upd (by simp [*]) ?_)) ?_; first | (simp [w, *]; done) | (simp only [w]; (repeat' (first | split | rfl | omega | (simp_all; done))); done) | (simp [w, *]; (repeat' (first | split | omega | (rw [Bool.eq_iff_iff]; simp; omega))); done) | (simp [w, *])))
theorem res_18 (hp : a.k ≠ 0 → b.k ≠ 0 → 0 ≤ 5 ∧ 5 ≤ 6 ∧ ∀ c fr to, (permF 18 a.k b.k c fr to).1 = 5) : Pure Try.prog 21 [I 18, encNd op0 kids nk nn nm, encL 2 cV (a :: b :: []), encL 1 cI (a.k :: b.k :: []), encTb tn fr to sl st] (encV (resT 18 nk nn a b c (decide (a.k = 0) || decide (b.k = 0)) t)) := by
  have hc := cont2 a b
  have hpm := perm_all (op := 18) (by unfold isOp; omega) (l := [a.k, b.k]) (by simp [ar]) fr to
  simp only [List.getD_cons_zero, List.getD_cons_succ, List.getD_nil] at hpm
  by_cases hq : a.k = 0 ∨ b.k = 0
  · rw [show (decide (a.k = 0) || decide (b.k = 0)) = true by simpa using hq] at *
    have hr : resT 18 nk nn a b c true t = v0 := by simp [resT, resF]
    rw [hr]
    intro h; refine callK_body Try.func21 rfl (by rw [nt21]; simp) ?_; rw [nt21, rs21]
    ((repeat' (first | simp [go_sem, X_region, *] | simp (disch := omega) only [om, *] | ((first | refine XC_split ?_ ?_ | refine XG_true ?_ ?_ | refine XG_false ?_ ?_ | refine XRg_true ?_ ?_ | refine XRg_false ?_ ?_) <;> intro hc <;> (try simp only [bl] at hc) <;> (try (exfalso; omega))) | refine XD_w [] [] [] (fun _ => none) mixed (by decide +kernel) (sub_none _) ?_ | refine Pure.call (hc) ?_ | refine ⟨_, Pure.at (hc), ?_⟩ | refine ⟨_, hc, ?_⟩ | refine PureAt.call (hc) ?_ | (intro bk hbk; (try simp only [go_sem] at hbk)))); all_goals (refine Wk.fin (by repeat (first | exact Sub.refl _ | refine Sub.upd (by simp [*]) ?_)) ?_; first | (simp [v0, *]; done) | (simp only [v0]; (repeat' (first | split | rfl | omega | (simp_all; done))); done) | (simp [v0, *]; (repeat' (first | split | omega | (rw [Bool.eq_iff_iff]; simp; omega))); done) | (simp [v0, *])))
  · rw [show (decide (a.k = 0) || decide (b.k = 0)) = false by simpa using hq] at *
    obtain ⟨k0, k6, hk⟩ := hp (by omega) (by omega)
    have hr : resT 18 nk nn a b c false t = fitV ⟨5, yearsF a.n b.n⟩ := by simp [resT, resF, hk]
    rw [hr]
    have hk := hk 0 fr to
    have hy := years_ok a.n b.n; generalize yearsF a.n b.n = yy at *
    generalize permP 18 fr to [a.k, b.k] = pb at *
    generalize permF 18 a.k b.k 0 fr to = pf at *
    rw [hk] at hpm
    have hf := fitted_ok 5 (yy) (by omega) (by omega)
    intro h; refine callK_body Try.func21 rfl (by rw [nt21]; simp) ?_; rw [nt21, rs21]
    ((repeat' (first | simp [go_sem, X_region, *] | simp (disch := omega) only [om, *] | ((first | refine XC_split ?_ ?_ | refine XG_true ?_ ?_ | refine XG_false ?_ ?_ | refine XRg_true ?_ ?_ | refine XRg_false ?_ ?_) <;> intro hc <;> (try simp only [bl] at hc) <;> (try (exfalso; omega))) | refine XD_w [] [] [] (fun _ => none) mixed (by decide +kernel) (sub_none _) ?_ | refine Pure.call (hc) ?_ | refine ⟨_, Pure.at (hc), ?_⟩ | refine ⟨_, hc, ?_⟩ | refine PureAt.call (hc) ?_ | refine Pure.call (hpm) ?_ | refine ⟨_, Pure.at (hpm), ?_⟩ | refine ⟨_, hpm, ?_⟩ | refine PureAt.call (hpm) ?_ | refine Pure.call (hf) ?_ | refine ⟨_, Pure.at (hf), ?_⟩ | refine ⟨_, hf, ?_⟩ | refine PureAt.call (hf) ?_ | refine Pure.call (hy) ?_ | refine ⟨_, Pure.at (hy), ?_⟩ | refine ⟨_, hy, ?_⟩ | refine PureAt.call (hy) ?_ | (intro bk hbk; (try simp only [go_sem] at hbk)))); all_goals (refine Wk.fin (by repeat (first | exact Sub.refl _ | refine Sub.upd (by simp [*]) ?_)) ?_; first | (simp [w, *]; done) | (simp only [w]; (repeat' (first | split | rfl | omega | (simp_all; done))); done) | (simp [w, *]; (repeat' (first | split | omega | (rw [Bool.eq_iff_iff]; simp; omega))); done) | (simp [w, *])))
theorem res_12 (ga : Good a) (gb : Good b) (hp : a.k ≠ 0 → b.k ≠ 0 → permP 12 fr to [a.k, b.k] = true) : Pure Try.prog 21 [I 12, encNd op0 kids nk nn nm, encL 2 cV (a :: b :: []), encL 1 cI (a.k :: b.k :: []), encTb tn fr to sl st] (encV (resT 12 nk nn a b c (decide (a.k = 0) || decide (b.k = 0)) t)) := by
  have hc := cont2 a b
  have hpm := perm_all (op := 12) (by unfold isOp; omega) (l := [a.k, b.k]) (by simp [ar]) fr to
  simp only [List.getD_cons_zero, List.getD_cons_succ, List.getD_nil] at hpm
  by_cases hq : a.k = 0 ∨ b.k = 0
  · rw [show (decide (a.k = 0) || decide (b.k = 0)) = true by simpa using hq] at *
    have hr : resT 12 nk nn a b c true t = v0 := by simp [resT, resF]
    rw [hr]
    intro h; refine callK_body Try.func21 rfl (by rw [nt21]; simp) ?_; rw [nt21, rs21]
    ((repeat' (first | simp [go_sem, X_region, *] | simp (disch := omega) only [om, *] | ((first | refine XC_split ?_ ?_ | refine XG_true ?_ ?_ | refine XG_false ?_ ?_ | refine XRg_true ?_ ?_ | refine XRg_false ?_ ?_) <;> intro hc <;> (try simp only [bl] at hc) <;> (try (exfalso; omega))) | refine XD_w [] [] [] (fun _ => none) mixed (by decide +kernel) (sub_none _) ?_ | refine Pure.call (hc) ?_ | refine ⟨_, Pure.at (hc), ?_⟩ | refine ⟨_, hc, ?_⟩ | refine PureAt.call (hc) ?_ | (intro bk hbk; (try simp only [go_sem] at hbk)))); all_goals (refine Wk.fin (by repeat (first | exact Sub.refl _ | refine Sub.upd (by simp [*]) ?_)) ?_; first | (simp [v0, *]; done) | (simp only [v0]; (repeat' (first | split | rfl | omega | (simp_all; done))); done) | (simp [v0, *]; (repeat' (first | split | omega | (rw [Bool.eq_iff_iff]; simp; omega))); done) | (simp [v0, *])))
  · rw [show (decide (a.k = 0) || decide (b.k = 0)) = false by simpa using hq] at *
    have a0 := ga.k0; have a6 := ga.k6; have al := ga.l; have ah := ga.h
    have b0 := gb.k0; have b6 := gb.k6; have bl := gb.l; have bh := gb.h
    have hl := lohi a.k
    have hp2 : ((b.k = 6 ∧ (a.k = 2 ∨ a.k = 3 ∨ a.k = 5 ∨ a.k = 6)) ∨ (b.k = 5 ∧ (a.k = 2 ∨ a.k = 3))) := by
      have := hp (by omega) (by omega)
      simpa [permP, permF] using this
    have hk : (permF 12 a.k b.k 0 fr to).1 = a.k := by simp [permF]
    by_cases h6 : b.k = 6
    · have hr : resT 12 nk nn a b c false t = fitV ⟨a.k, scaledF a.n b.n⟩ := by simp [resT, resF, h6, permF]
      rw [hr]
      rw [h6, lohi6.1] at bl
      rw [h6, lohi6.2] at bh
      have hs := scaled_ok a.n b.n (by unfold absI; omega) (by unfold absI; omega)
      clear al ah bl bh hl
      rcases b with ⟨bk, bn⟩
      simp only at h6
      subst h6
      simp only at *
      generalize permP 12 fr to [a.k, 6] = pb at *
      generalize permF 12 a.k 6 0 fr to = pf at *
      rw [hk] at hpm
      generalize scaledF a.n bn = sc at *
      have hf := fitted_ok a.k sc (by omega) (by omega)
      clear hp2 hp
      intro h; refine callK_body Try.func21 rfl (by rw [nt21]; simp) ?_; rw [nt21, rs21]
      ((repeat' (first | simp [go_sem, X_region, *] | simp (disch := omega) only [om, *] | ((first | refine XC_split ?_ ?_ | refine XG_true ?_ ?_ | refine XG_false ?_ ?_ | refine XRg_true ?_ ?_ | refine XRg_false ?_ ?_) <;> intro hc <;> (try simp only [bl] at hc) <;> (try (exfalso; omega))) | refine XD_w [] [] [] (fun _ => none) mixed (by decide +kernel) (sub_none _) ?_ | refine Pure.call (hc) ?_ | refine ⟨_, Pure.at (hc), ?_⟩ | refine ⟨_, hc, ?_⟩ | refine PureAt.call (hc) ?_ | refine Pure.call (hpm) ?_ | refine ⟨_, Pure.at (hpm), ?_⟩ | refine ⟨_, hpm, ?_⟩ | refine PureAt.call (hpm) ?_ | refine Pure.call (hf) ?_ | refine ⟨_, Pure.at (hf), ?_⟩ | refine ⟨_, hf, ?_⟩ | refine PureAt.call (hf) ?_ | refine Pure.call (hs) ?_ | refine ⟨_, Pure.at (hs), ?_⟩ | refine ⟨_, hs, ?_⟩ | refine PureAt.call (hs) ?_ | (intro bk hbk; (try simp only [go_sem] at hbk)))); all_goals (refine Wk.fin (by repeat (first | exact Sub.refl _ | refine Sub.upd (by simp [*]) ?_)) ?_; first | (simp [w, *]; done) | (simp only [w]; (repeat' (first | split | rfl | omega | (simp_all; done))); done) | (simp [w, *]; (repeat' (first | split | omega | (rw [Bool.eq_iff_iff]; simp; omega))); done) | (simp [w, *])))
    · have hr : resT 12 nk nn a b c false t = fitV ⟨a.k, w (a.n * b.n)⟩ := by simp [resT, resF, h6, permF]
      rw [hr]
      clear al ah bl bh hl hp2 hp
      generalize permP 12 fr to [a.k, b.k] = pb at *
      generalize permF 12 a.k b.k 0 fr to = pf at *
      rw [hk] at hpm
      have hf := fitted_ok a.k (w (a.n * b.n)) (by omega) (by omega)
      intro h; refine callK_body Try.func21 rfl (by rw [nt21]; simp) ?_; rw [nt21, rs21]
      ((repeat' (first | simp [go_sem, X_region, *] | simp (disch := omega) only [om, *] | ((first | refine XC_split ?_ ?_ | refine XG_true ?_ ?_ | refine XG_false ?_ ?_ | refine XRg_true ?_ ?_ | refine XRg_false ?_ ?_) <;> intro hc <;> (try simp only [bl] at hc) <;> (try (exfalso; omega))) | refine XD_w [] [] [] (fun _ => none) mixed (by decide +kernel) (sub_none _) ?_ | refine Pure.call (hc) ?_ | refine ⟨_, Pure.at (hc), ?_⟩ | refine ⟨_, hc, ?_⟩ | refine PureAt.call (hc) ?_ | refine Pure.call (hpm) ?_ | refine ⟨_, Pure.at (hpm), ?_⟩ | refine ⟨_, hpm, ?_⟩ | refine PureAt.call (hpm) ?_ | refine Pure.call (hf) ?_ | refine ⟨_, Pure.at (hf), ?_⟩ | refine ⟨_, hf, ?_⟩ | refine PureAt.call (hf) ?_ | (intro bk hbk; (try simp only [go_sem] at hbk)))); all_goals (refine Wk.fin (by repeat (first | exact Sub.refl _ | refine Sub.upd (by simp [*]) ?_)) ?_; first | (simp [w, *]; done) | (simp only [w]; (repeat' (first | split | rfl | omega | (simp_all; done))); done) | (simp [w, *]; (repeat' (first | split | omega | (rw [Bool.eq_iff_iff]; simp; omega))); done) | (simp [w, *])))
theorem cont1 (a : V) : Pure Try.prog 52 [encL 1 cI [a.k], I 0] (B (decide (a.k = 0))) := by
  have := icont_ok 0 [a.k]
  simpa [eq_comm] using this
theorem res_16 (ht : 0 ≤ t.to ∧ t.to ≤ 6) : Pure Try.prog 21 [I 16, encNd op0 kids nk nn nm, encL 2 cV [a], encL 1 cI [a.k], encTbA t] (encV (resT 16 nk nn a b c (decide (a.k = 0)) t)) := by
  have hc := cont1 a
  have hpm := perm_all (op := 16) (by unfold isOp; omega) (l := [a.k]) (by simp [ar]) t.fr t.to
  simp only [List.getD_cons_zero, List.getD_cons_succ, List.getD_nil] at hpm
  have hx := tat_ok t a.n
  by_cases hq : a.k = 0
  · rw [show decide (a.k = 0) = true by simpa using hq] at *
    have hr : resT 16 nk nn a b c true t = v0 := by simp [resT, resF]
    rw [hr]
    rcases a with ⟨ak, an⟩
    simp only at hq
    subst hq
    intro h; refine callK_body Try.func21 rfl (by rw [nt21]; simp) ?_; rw [nt21, rs21]
    ((repeat' (first | simp [go_sem, X_region, *] | simp (disch := omega) only [om, *] | ((first | refine XC_split ?_ ?_ | refine XG_true ?_ ?_ | refine XG_false ?_ ?_ | refine XRg_true ?_ ?_ | refine XRg_false ?_ ?_) <;> intro hc <;> (try simp only [bl] at hc) <;> (try (exfalso; omega))) | refine XD_w [] [] [] (fun _ => none) mixed (by decide +kernel) (sub_none _) ?_ | refine Pure.call (hc) ?_ | refine ⟨_, Pure.at (hc), ?_⟩ | refine ⟨_, hc, ?_⟩ | refine PureAt.call (hc) ?_ | (intro bk hbk; (try simp only [go_sem] at hbk)))); all_goals (refine Wk.fin (by repeat (first | exact Sub.refl _ | refine Sub.upd (by simp [*]) ?_)) ?_; first | (simp [v0, *]; done) | (simp only [v0]; (repeat' (first | split | rfl | omega | (simp_all; done))); done) | (simp [v0, *]; (repeat' (first | split | omega | (rw [Bool.eq_iff_iff]; simp; omega))); done) | (simp [v0, *])))
  · rw [show decide (a.k = 0) = false by simpa using hq] at *
    have hr : resT 16 nk nn a b c false t = fitV ⟨t.to, atF t a.n⟩ := by simp [resT, resF, permF]
    rw [hr]
    have hk : (permF 16 a.k 0 0 t.fr t.to).1 = t.to := by simp [permF]
    generalize permP 16 t.fr t.to [a.k] = pb at *
    generalize permF 16 a.k 0 0 t.fr t.to = pf at *
    rw [hk] at hpm
    have hf := fitted_ok t.to (atF t a.n) (by omega) (by omega)
    clear hr hk
    try unfold rndF at *
    try generalize atF t a.n = x9 at *
    intro h; refine callK_body Try.func21 rfl (by rw [nt21]; simp) ?_; rw [nt21, rs21]
    ((repeat' (first | simp [go_sem, X_region, *] | simp (disch := omega) only [om, *] | ((first | refine XC_split ?_ ?_ | refine XG_true ?_ ?_ | refine XG_false ?_ ?_ | refine XRg_true ?_ ?_ | refine XRg_false ?_ ?_) <;> intro hc <;> (try simp only [bl] at hc) <;> (try (exfalso; omega))) | refine XD_w [] [] [] (fun _ => none) mixed (by decide +kernel) (sub_none _) ?_ | refine Pure.call (hc) ?_ | refine ⟨_, Pure.at (hc), ?_⟩ | refine ⟨_, hc, ?_⟩ | refine PureAt.call (hc) ?_ | refine Pure.call (hpm) ?_ | refine ⟨_, Pure.at (hpm), ?_⟩ | refine ⟨_, hpm, ?_⟩ | refine PureAt.call (hpm) ?_ | refine Pure.call (hf) ?_ | refine ⟨_, Pure.at (hf), ?_⟩ | refine ⟨_, hf, ?_⟩ | refine PureAt.call (hf) ?_ | refine Pure.call (hx) ?_ | refine ⟨_, Pure.at (hx), ?_⟩ | refine ⟨_, hx, ?_⟩ | refine PureAt.call (hx) ?_ | (intro bk hbk; (try simp only [go_sem] at hbk)))); all_goals (refine Wk.fin (by repeat (first | exact Sub.refl _ | refine Sub.upd (by simp [*]) ?_)) ?_; first | (simp [w, *]; done) | (simp only [w]; (repeat' (first | split | rfl | omega | (simp_all; done))); done) | (simp [w, *]; (repeat' (first | split | omega | (rw [Bool.eq_iff_iff]; simp; omega))); done) | (simp [w, *])))
theorem res_17 (hdummy : True) : Pure Try.prog 21 [I 17, encNd op0 kids nk nn nm, encL 2 cV [a], encL 1 cI [a.k], encTb tn fr to sl st] (encV (resT 17 nk nn a b c (decide (a.k = 0)) t)) := by
  have hc := cont1 a
  have hpm := perm_all (op := 17) (by unfold isOp; omega) (l := [a.k]) (by simp [ar]) fr to
  simp only [List.getD_cons_zero, List.getD_cons_succ, List.getD_nil] at hpm
  have hx := round_ok a.n nk nn
  by_cases hq : a.k = 0
  · rw [show decide (a.k = 0) = true by simpa using hq] at *
    have hr : resT 17 nk nn a b c true t = v0 := by simp [resT, resF]
    rw [hr]
    rcases a with ⟨ak, an⟩
    simp only at hq
    subst hq
    intro h; refine callK_body Try.func21 rfl (by rw [nt21]; simp) ?_; rw [nt21, rs21]
    ((repeat' (first | simp [go_sem, X_region, *] | simp (disch := omega) only [om, *] | ((first | refine XC_split ?_ ?_ | refine XG_true ?_ ?_ | refine XG_false ?_ ?_ | refine XRg_true ?_ ?_ | refine XRg_false ?_ ?_) <;> intro hc <;> (try simp only [bl] at hc) <;> (try (exfalso; omega))) | refine XD_w [] [] [] (fun _ => none) mixed (by decide +kernel) (sub_none _) ?_ | refine Pure.call (hc) ?_ | refine ⟨_, Pure.at (hc), ?_⟩ | refine ⟨_, hc, ?_⟩ | refine PureAt.call (hc) ?_ | (intro bk hbk; (try simp only [go_sem] at hbk)))); all_goals (refine Wk.fin (by repeat (first | exact Sub.refl _ | refine Sub.upd (by simp [*]) ?_)) ?_; first | (simp [v0, *]; done) | (simp only [v0]; (repeat' (first | split | rfl | omega | (simp_all; done))); done) | (simp [v0, *]; (repeat' (first | split | omega | (rw [Bool.eq_iff_iff]; simp; omega))); done) | (simp [v0, *])))
  · rw [show decide (a.k = 0) = false by simpa using hq] at *
    have hr : resT 17 nk nn a b c false t = fitV ⟨2, rndF a.n nk nn⟩ := by simp [resT, resF, permF]
    rw [hr]
    have hk : (permF 17 a.k 0 0 fr to).1 = 2 := by simp [permF]
    generalize permP 17 fr to [a.k] = pb at *
    generalize permF 17 a.k 0 0 fr to = pf at *
    rw [hk] at hpm
    have hf := fitted_ok 2 (rndF a.n nk nn) (by omega) (by omega)
    clear hr hk
    try unfold rndF at *
    try generalize roundF a.n nk nn = x9 at *
    intro h; refine callK_body Try.func21 rfl (by rw [nt21]; simp) ?_; rw [nt21, rs21]
    ((repeat' (first | simp [go_sem, X_region, *] | simp (disch := omega) only [om, *] | ((first | refine XC_split ?_ ?_ | refine XG_true ?_ ?_ | refine XG_false ?_ ?_ | refine XRg_true ?_ ?_ | refine XRg_false ?_ ?_) <;> intro hc <;> (try simp only [bl] at hc) <;> (try (exfalso; omega))) | refine XD_w [] [] [] (fun _ => none) mixed (by decide +kernel) (sub_none _) ?_ | refine Pure.call (hc) ?_ | refine ⟨_, Pure.at (hc), ?_⟩ | refine ⟨_, hc, ?_⟩ | refine PureAt.call (hc) ?_ | refine Pure.call (hpm) ?_ | refine ⟨_, Pure.at (hpm), ?_⟩ | refine ⟨_, hpm, ?_⟩ | refine PureAt.call (hpm) ?_ | refine Pure.call (hf) ?_ | refine ⟨_, Pure.at (hf), ?_⟩ | refine ⟨_, hf, ?_⟩ | refine PureAt.call (hf) ?_ | refine Pure.call (hx) ?_ | refine ⟨_, Pure.at (hx), ?_⟩ | refine ⟨_, hx, ?_⟩ | refine PureAt.call (hx) ?_ | (intro bk hbk; (try simp only [go_sem] at hbk)))); all_goals (refine Wk.fin (by repeat (first | exact Sub.refl _ | refine Sub.upd (by simp [*]) ?_)) ?_; first | (simp [w, *]; done) | (simp only [w]; (repeat' (first | split | rfl | omega | (simp_all; done))); done) | (simp [w, *]; (repeat' (first | split | omega | (rw [Bool.eq_iff_iff]; simp; omega))); done) | (simp [w, *])))
end
end Go.Proofs.Ytmalhikcdideoaa

set_option linter.unusedVariables false
set_option linter.unusedSimpArgs false
namespace Go.Proofs.Ytmalhikcdideoaa
open Go Sl
attribute [local irreducible] LpQ XR XRo XRg XRQ putQ XFv XL XW2 wQ putW X XO XOp XH XHo XW SeqQ BlkQ XOQ XHQ NrmQ XC XM XG XHM XHG XD CallK
theorem any2 (a b : V) : ([a, b].any fun v => decide (v.k = 0)) = (decide (a.k = 0) || decide (b.k = 0)) := by simp
theorem any1 (a : V) : ([a].any fun v => decide (v.k = 0)) = decide (a.k = 0) := by simp
theorem any3 (a b c : V) : ([a, b, c].any fun v => decide (v.k = 0)) = (decide (a.k = 0) || (decide (b.k = 0) || decide (c.k = 0))) := by simp
def resL (op nk nn : Int) (l : List V) (t : Tb) : V := resT op nk nn (l.getD 0 v0) (l.getD 1 v0) (l.getD 2 v0) (l.any fun v => decide (v.k = 0)) t
theorem res_all (kids nm : AV) (nk nn op0 : Int) (t : Tb) {op : Int} (hop : isOp op) {l : List V} (hl : (l.length : Int) = ar op) (hg : ∀ v ∈ l, Good v) (hp : posF (permP op t.fr t.to) ((l.map (·.k)).count 0) (l.map (·.k)) = true)
    (htt : op = 16 → 0 ≤ t.to ∧ t.to ≤ 6) {tv : AV} (htv : tv = encTbA t ∨ (op ≠ 16 ∧ ∃ tn fr to sl st, tv = encTb tn fr to sl st)) :
    Pure Try.prog 21 [I op, encNd op0 kids nk nn nm, encL 2 cV l, encL 1 cI (l.map (·.k)), tv] (encV (resL op nk nn l t)) := by
  obtain ⟨tn, fr, to, sl, st, he⟩ : ∃ tn fr to sl st, tv = encTb tn fr to sl st := by
    rcases htv with h | h
    · exact ⟨_, _, _, _, _, h⟩
    · exact h.2
  have t1 : ar op = 1 → ∃ a, l = [a] := fun h => len1 (by rw [hl, h])
  have t2 : ar op = 2 → ∃ a b, l = [a, b] := fun h => len2 (by rw [hl, h])
  have t3 : ar op = 3 → ∃ a b c, l = [a, b, c] := fun h => len3 (by rw [hl, h])
  unfold resL
  have gk : ∀ v ∈ l, 0 ≤ v.k ∧ v.k ≤ 6 := fun v hv => ⟨(hg v hv).k0, (hg v hv).k6⟩
  rcases hop.cases with rfl | rfl | rfl | rfl | rfl | rfl | rfl | rfl | rfl | rfl | rfl | rfl | rfl | rfl | rfl
  · obtain ⟨a, rfl⟩ := t1 (by decide); rw [any1]; subst he; exact res_4 kids nm tn st nk nn op0 fr to sl a v0 v0 t (hg a (by simp))
  · obtain ⟨a, b, rfl⟩ := t2 (by decide); rw [any2]; subst he; exact res_5 kids nm tn st nk nn op0 fr to sl a b v0 t
  · obtain ⟨a, b, rfl⟩ := t2 (by decide); rw [any2]; subst he; exact res_6 kids nm tn st nk nn op0 fr to sl a b v0 t
  · obtain ⟨a, b, rfl⟩ := t2 (by decide); rw [any2]; subst he; exact res_7 kids nm tn st nk nn op0 fr to sl a b v0 t (fun _ => trivial)
  · obtain ⟨a, b, rfl⟩ := t2 (by decide); rw [any2]; subst he; exact res_8 kids nm tn st nk nn op0 fr to sl a b v0 t (fun _ => trivial)
  · obtain ⟨a, b, rfl⟩ := t2 (by decide); rw [any2]; subst he; exact res_9 kids nm tn st nk nn op0 fr to sl a b v0 t (fun _ => trivial)
  · obtain ⟨a, b, rfl⟩ := t2 (by decide); rw [any2]; subst he; exact res_10 kids nm tn st nk nn op0 fr to sl a b v0 t (fun _ _ => ⟨(gk a (by simp)).1, (gk a (by simp)).2, fun _ _ _ => by simp [permF]⟩)
  · obtain ⟨a, b, rfl⟩ := t2 (by decide); rw [any2]; subst he
    have := gk a (by simp)
    exact res_11 kids nm tn st nk nn op0 fr to sl a b v0 t (fun _ _ => ⟨by split <;> omega, by split <;> omega, fun _ _ _ => by simp [permF]; split <;> rfl⟩)
  · obtain ⟨a, b, rfl⟩ := t2 (by decide); rw [any2]; subst he
    refine res_12 kids nm tn st nk nn op0 fr to sl a b v0 t (hg a (by simp)) (hg b (by simp)) fun ha hb => ?_
    have h0 : ([a, b].map (·.k)).count 0 = 0 := by simp [ha, hb]
    rw [h0, posF, permP_irr 12 _ _ (by decide)] at hp
    rw [permP_irr 12 _ _ (by decide)]
    exact hp
  · obtain ⟨a, b, rfl⟩ := t2 (by decide); rw [any2]; subst he; exact res_13 kids nm tn st nk nn op0 fr to sl a b v0 t (fun _ _ => ⟨(gk a (by simp)).1, (gk a (by simp)).2, fun _ _ _ => by simp [permF]⟩)
  · obtain ⟨a, b, rfl⟩ := t2 (by decide); rw [any2]; subst he; exact res_14 kids nm tn st nk nn op0 fr to sl a b v0 t (fun _ _ => ⟨(gk a (by simp)).1, (gk a (by simp)).2, fun _ _ _ => by simp [permF]⟩)
  · obtain ⟨a, b, c, rfl⟩ := t3 (by decide); subst he; exact res_15 kids nm tn st nk nn op0 fr to sl a b c t (hg a (by simp)) _ (any3 a b c)
  · obtain ⟨a, rfl⟩ := t1 (by decide); rw [any1]
    obtain rfl : tv = encTbA t := htv.resolve_right (fun h => h.1 rfl)
    exact res_16 kids nm nk nn op0 a v0 v0 t (htt rfl)
  · obtain ⟨a, rfl⟩ := t1 (by decide); rw [any1]; subst he; exact res_17 kids nm tn st nk nn op0 fr to sl a v0 v0 t trivial
  · obtain ⟨a, b, rfl⟩ := t2 (by decide); rw [any2]; subst he; exact res_18 kids nm tn st nk nn op0 fr to sl a b v0 t (fun _ _ => ⟨by decide, by decide, fun _ _ _ => by simp [permF]⟩)
theorem res_own (kids nm : AV) (nk nn op0 : Int) (t : Tb) {op : Int} (hop : isOp op) {l : List V} (hl : (l.length : Int) = ar op) (hg : ∀ v ∈ l, Good v) (hp : posF (permP op t.fr t.to) ((l.map (·.k)).count 0) (l.map (·.k)) = true)
    (htt : op = 16 → 0 ≤ t.to ∧ t.to ≤ 6) {tv : AV} (htv : tv = encTbA t ∨ (op ≠ 16 ∧ ∃ tn fr to sl st, tv = encTb tn fr to sl st)) {h0 h : Hp} {a : AV} (o : Own h0 h a 3 1 (l.map (·.k)).length (cellsL cI (l.map (·.k)))) :
    PureAt Try.prog h 21 [I op, encNd op0 kids nk nn nm, encL 2 cV l, a, tv] (encV (resL op nk nn l t)) := by
  have hl3 : (l.map (·.k)).length ≤ 3 := by
    have : ar op ≤ 3 := by unfold ar; repeat' split <;> omega
    simp; omega
  exact Pure.lend (res_all kids nm nk nn op0 t hop hl hg hp htt htv) (.cons (Lend.refl _) (.cons (Lend.refl _) (.cons (Lend.refl _) (.cons (o.lend (by omega)) (.cons (Lend.refl _) .nil))))) (Flat.aggL (by simp; exact ⟨Flat.v _, Flat.v _⟩))
theorem poss_own {op : Int} (hop : isOp op) {l : List Int} (hl : (l.length : Int) = ar op) (fr to : Int) {h0 h : Hp} {a : AV} (o : Own h0 h a 3 1 l.length (cellsL cI l)) :
    PureAt Try.prog h 20 [I op, a, I fr, I to] (B (posF (permP op fr to) (l.count 0) l)) := by
  have hl3 : l.length ≤ 3 := by
    have : ar op ≤ 3 := by unfold ar; repeat' split <;> omega
    omega
  have := possible_ok op fr to (permP op fr to) l.length hl3 (fun k hk => ⟨_, perm_all hop (by rw [hk, hl]) fr to⟩) _ l rfl rfl
  exact Pure.lend this (.cons (Lend.refl _) (.cons (o.lend (by omega)) (.cons (Lend.refl _) (.cons (Lend.refl _) .nil)))) (Flat.v _)
/-! The index of a table. -/
def idxT (nm : ByteArray) : List Tb → Int → Int
  | [], _ => -1
  | t :: r, i => if t.name = nm then i else idxT nm r (i + 1)
theorem idxT_find (nm : ByteArray) : ∀ (l : List Tb) (i : Int), 0 ≤ i → (findF nm l = none ∧ idxT nm l i = -1) ∨ ∃ (t : Tb) (j : Nat), findF nm l = some t ∧ idxT nm l i = i + j ∧ l[j]? = some t
  | [], i, hi => .inl ⟨rfl, rfl⟩
  | t :: r, i, hi => by
    unfold findF idxT
    by_cases h : t.name = nm
    · rw [if_pos h, if_pos h]
      exact .inr ⟨t, 0, rfl, by simp, rfl⟩
    · rw [if_neg h, if_neg h]
      rcases idxT_find nm r (i + 1) (by omega) with ⟨h1, h2⟩ | ⟨t', j, h1, h2, h3⟩
      · exact .inl ⟨h1, h2⟩
      · exact .inr ⟨t', j + 1, h1, by rw [h2]; omega, by simpa using h3⟩
theorem isnm_ok {h : Hp} {b : Nat} {o : Ob} {nm : ByteArray} (hb : h b = some o) (h1 : o.s = 5) (h2 : o.n = 1) (h4 : o.f 0 4 = S nm) (t : Tb) : PureAt Try.prog h 19 [encTbA t, ptr b] (B (decide (t.name = nm))) := by
  unfold PureAt
  simp only [encTbA]
  refine callK_body Try.func19 rfl (by rw [nt19]; simp) ?_; rw [nt19, rs19]
  (repeat' (first | simp [go_sem, X_region, *] | simp (disch := omega) only [om, *] | ((first | refine XC_split ?_ ?_ | refine XG_true ?_ ?_ | refine XG_false ?_ ?_ | refine XRg_true ?_ ?_ | refine XRg_false ?_ ?_) <;> intro hc <;> (try simp only [bl] at hc) <;> (try (exfalso; omega))) | refine XD_w [] [] [] (fun _ => none) mixed (by decide +kernel) (sub_none _) ?_ | fail))
  intro b2 hb2
  have n1 := ne_free hb2 hb
  (repeat' (first | simp [go_sem, X_region, *] | simp (disch := omega) only [om, *] | ((first | refine XC_split ?_ ?_ | refine XG_true ?_ ?_ | refine XG_false ?_ ?_ | refine XRg_true ?_ ?_ | refine XRg_false ?_ ?_) <;> intro hc <;> (try simp only [bl] at hc) <;> (try (exfalso; omega))) | refine XD_w [] [] [] (fun _ => none) mixed (by decide +kernel) (sub_none _) ?_ | fail))
  exact Wk.fin (Sub.upd hb2 (Sub.refl _)) rfl
theorem tidx_ok {h : Hp} (g : FuncId) (hc : callable Try.prog g = true) (caps : List Value) (nm : ByteArray) (hp : ∀ x : Tb, PureAt Try.prog h g ([encTbA x] ++ caps.map .v) (B (decide (x.name = nm)))) (l : List Tb) :
    PureAt Try.prog h 18 [encL 5 cTb l, .v (.func (.func g) #[] caps.toArray)] (I (idxT nm l 0)) := by
  generalize hR : I (idxT nm l 0) = R
  unfold PureAt
  refine CallK.lens fun hlen => ?_; have hlen := (hlen _ (by simp only [List.mem_cons, true_or, or_true] : (encL 5 cTb l) ∈ _)).encL; refine callK_body Try.func18 rfl (by rw [nt18]; simp) ?_; rw [nt18, rs18]
  (repeat' (first | simp [go_sem, X_region, *] | simp (disch := omega) only [om, *] | ((first | refine XC_split ?_ ?_ | refine XG_true ?_ ?_ | refine XG_false ?_ ?_ | refine XRg_true ?_ ?_ | refine XRg_false ?_ ?_) <;> intro hc <;> (try simp only [bl] at hc) <;> (try (exfalso; omega))) | refine XD_w [] [] [] (fun _ => none) mixed (by decide +kernel) (sub_none _) ?_ | fail))
  refine X_lpF (fun i => (4 ≤ i ∧ i ≤ 5) ∨ (8 ≤ i ∧ i ≤ 18)) (fun n T h' => ∃ (i : Nat) (r : List Tb), n = r.length ∧ i ≤ l.length ∧ l.drop i = r ∧ T 8 = I i ∧ I (idxT nm r i) = R ∧ h' = h) _ ⟨0, l, rfl, by omega, rfl, by simp [go_sem], hR, rfl⟩ ?_
  clear hR
  rintro J hJ n T h' hfr ⟨i, r, rfl, hi, hd, t8, hR, rfl⟩
  rcases r with _ | ⟨x, r⟩
  · have hlt := drop_nil hd
    (repeat' (first | simp [go_sem, X_region, *] | simp (disch := omega) only [om, *] | ((first | refine XC_split ?_ ?_ | refine XG_true ?_ ?_ | refine XG_false ?_ ?_ | refine XRg_true ?_ ?_ | refine XRg_false ?_ ?_) <;> intro hc <;> (try simp only [bl] at hc) <;> (try (exfalso; omega))) | refine XD_w [] [] [] (fun _ => none) mixed (by decide +kernel) (sub_none _) ?_ | fail))
    all_goals (subst hR; exact Wk.refl _ _)
  · obtain ⟨hlt, hx, hd2⟩ := drop_cons hd
    have hpx := hp x
    simp only [encTbA] at hpx
    rw [idxT] at hR
    by_cases he : x.name = nm
    · rw [if_pos he] at hR
      rw [show decide (x.name = nm) = true by simpa using he] at hpx
      subst he
      subst hR
      (repeat' (first | simp [go_sem, X_region, *] | simp (disch := omega) only [om, *] | ((first | refine XC_split ?_ ?_ | refine XG_true ?_ ?_ | refine XG_false ?_ ?_ | refine XRg_true ?_ ?_ | refine XRg_false ?_ ?_) <;> intro hc <;> (try simp only [bl] at hc) <;> (try (exfalso; omega))) | refine XD_w [] [] [] (fun _ => none) mixed (by decide +kernel) (sub_none _) ?_ | refine Pure.call (hpx) ?_ | refine ⟨_, Pure.at (hpx), ?_⟩ | refine ⟨_, hpx, ?_⟩ | refine PureAt.call (hpx) ?_ | fail))
      all_goals exact Wk.refl _ _
    · rw [if_neg he] at hR
      rw [show decide (x.name = nm) = false by simpa using he] at hpx
      (repeat' (first | simp [go_sem, X_region, *] | simp (disch := omega) only [om, *] | ((first | refine XC_split ?_ ?_ | refine XG_true ?_ ?_ | refine XG_false ?_ ?_ | refine XRg_true ?_ ?_ | refine XRg_false ?_ ?_) <;> intro hc <;> (try simp only [bl] at hc) <;> (try (exfalso; omega))) | refine XD_w [] [] [] (fun _ => none) mixed (by decide +kernel) (sub_none _) ?_ | refine Pure.call (hpx) ?_ | refine ⟨_, Pure.at (hpx), ?_⟩ | refine ⟨_, hpx, ?_⟩ | refine PureAt.call (hpx) ?_ | fail))
      exact ⟨_, Nat.lt_succ_self _, hJ.out _ _ _ ⟨(by (repeat (refine fr_upd (by decide) ?_)); exact hfr), i + 1, r, rfl, by omega, hd2, by simp [go_sem, *], hR, rfl⟩⟩
end Go.Proofs.Ytmalhikcdideoaa

set_option linter.unusedVariables false
set_option linter.unusedSimpArgs false
namespace Go.Proofs.Ytmalhikcdideoaa
open Go Sl
attribute [local irreducible] LpQ XR XRo XRg XRQ putQ XFv XL XW2 wQ putW X XO XOp XH XHo XW SeqQ BlkQ XOQ XHQ NrmQ XC XM XG XHM XHG XD CallK
set_option maxRecDepth 100000
def compL (op nk nn : Int) (l : List V) (t : Tb) : V × Int :=
  if posF (permP op t.fr t.to) ((l.map (·.k)).count 0) (l.map (·.k)) = true then (resL op nk nn l t, 0) else (v0, 8)
def compF (op nk nn : Int) (nm : ByteArray) (l : List V) (ts : List Tb) : V × Int :=
  if ¬ (op = 0 ∨ (4 ≤ op ∧ op ≤ 18)) then (v0, 1) else if (l.length : Int) ≠ ar op then (v0, 3) else if chkL l ≠ 0 then (v0, chkL l) else if ownE op nk nn ≠ 0 then (v0, ownE op nk nn)
  else if op = 0 then (⟨nk, nn⟩, 0)
  else if op = 16 then (match findF nm ts with | none => (v0, 15) | some t => if chkTb t ≠ 0 then (v0, chkTb t) else compL op nk nn l t) else compL op nk nn l tb0
theorem cidx_ok {h : Hp} {b : Nat} {o : Ob} {nm : ByteArray} (hb : h b = some o) (h1 : o.s = 5) (h2 : o.n = 1) (h4 : o.f 0 4 = S nm) (ts : List Tb) :
    PureAt Try.prog h 18 [encL 5 cTb ts, .v (.func (.func 19) #[] #[.pointer (some ⟨b, 0, none⟩)])] (I (idxT nm ts 0)) :=
  tidx_ok 19 (by simp [go_sem]) [.pointer (some ⟨b, 0, none⟩)] nm (fun x => isnm_ok hb h1 h2 h4 x) ts
set_option maxHeartbeats 4000000 in
theorem comp_ok (op nk nn op0 : Int) (kids : AV) (nm : ByteArray) (l : List V) (ts : List Tb) :
    Pure Try.prog 6 [I op, encNd op0 kids nk nn (S nm), encL 2 cV l, encL 5 cTb ts] (tup2 (encV (compF op nk nn nm l ts).1) (I (compF op nk nn nm l ts).2)) := by
  generalize hR : compF op nk nn nm l ts = R
  unfold compF at hR
  have hk := arity_ar op
  by_cases q1 : op = 0 ∨ (4 ≤ op ∧ op ≤ 18)
  case neg =>
    rw [if_pos q1] at hR
    subst hR
    have : ar op < 0 ∨ op = 1 ∨ op = 2 ∨ op = 3 := by unfold ar; repeat' split <;> omega
    intro h; refine callK_body Try.func6 rfl (by rw [nt6]; simp) ?_; rw [nt6, rs6]
    ((repeat' (first | simp [go_sem, X_region, *] | simp (disch := omega) only [om, *] | ((first | refine XC_split ?_ ?_ | refine XG_true ?_ ?_ | refine XG_false ?_ ?_ | refine XRg_true ?_ ?_ | refine XRg_false ?_ ?_) <;> intro hc <;> (try simp only [bl] at hc) <;> (try (exfalso; omega))) | refine XD_w [] [] [] (fun _ => none) mixed (by decide +kernel) (sub_none _) ?_ | refine Pure.call (hk) ?_ | refine ⟨_, Pure.at (hk), ?_⟩ | refine ⟨_, hk, ?_⟩ | refine PureAt.call (hk) ?_ | (intro bk hbk; (try simp only [go_sem] at hbk)))); all_goals (refine Wk.fin (by repeat (first | exact Sub.refl _ | refine Sub.upd (by simp [*]) ?_)) ?_; first | (simp [v0, *]; done) | (simp only [v0]; (repeat' (first | split | rfl | omega | (simp_all; done))); done) | (simp [v0, *]; (repeat' (first | split | omega | (rw [Bool.eq_iff_iff]; simp; omega))); done) | (simp [v0, *])))
  rw [if_neg (fun h => h q1)] at hR
  have har : 0 ≤ ar op ∧ ar op ≤ 3 := by unfold ar; repeat' split <;> omega
  by_cases q2 : (l.length : Int) = ar op
  case neg =>
    rw [if_pos q2] at hR
    subst hR
    intro h; refine callK_body Try.func6 rfl (by rw [nt6]; simp) ?_; rw [nt6, rs6]
    ((repeat' (first | simp [go_sem, X_region, *] | simp (disch := omega) only [om, *] | ((first | refine XC_split ?_ ?_ | refine XG_true ?_ ?_ | refine XG_false ?_ ?_ | refine XRg_true ?_ ?_ | refine XRg_false ?_ ?_) <;> intro hc <;> (try simp only [bl] at hc) <;> (try (exfalso; omega))) | refine XD_w [] [] [] (fun _ => none) mixed (by decide +kernel) (sub_none _) ?_ | refine Pure.call (hk) ?_ | refine ⟨_, Pure.at (hk), ?_⟩ | refine ⟨_, hk, ?_⟩ | refine PureAt.call (hk) ?_ | (intro bk hbk; (try simp only [go_sem] at hbk)))); all_goals (refine Wk.fin (by repeat (first | exact Sub.refl _ | refine Sub.upd (by simp [*]) ?_)) ?_; first | (simp [v0, *]; done) | (simp only [v0]; (repeat' (first | split | rfl | omega | (simp_all; done))); done) | (simp [v0, *]; (repeat' (first | split | omega | (rw [Bool.eq_iff_iff]; simp; omega))); done) | (simp [v0, *])))
  rw [if_neg (by simpa using q2)] at hR
  rcases q1 with q1 | q1
  · subst q1
    obtain rfl := len0 (show (l.length : Int) = 0 by rw [q2]; decide)
    have ho := checkV_ok ⟨nk, nn⟩
    simp only [encV] at ho
    simp only [chkL, ownE, if_true, ne_eq, not_true, if_false] at hR
    have hk0 : ar 0 = 0 := by decide
    rw [hk0] at hk
    intro h; refine callK_body Try.func6 rfl (by rw [nt6]; simp) ?_; rw [nt6, rs6]
    (repeat' (first | simp [go_sem, X_region, *] | simp (disch := omega) only [om, *] | ((first | refine XC_split ?_ ?_ | refine XG_true ?_ ?_ | refine XG_false ?_ ?_ | refine XRg_true ?_ ?_ | refine XRg_false ?_ ?_) <;> intro hc <;> (try simp only [bl] at hc) <;> (try (exfalso; omega))) | refine XD_w [] [] [] (fun _ => none) mixed (by decide +kernel) (sub_none _) ?_ | refine Pure.call (hk) ?_ | refine ⟨_, Pure.at (hk), ?_⟩ | refine ⟨_, hk, ?_⟩ | refine PureAt.call (hk) ?_ | fail))
    intro b5 hb5 b8 n1 n2 hb8
    (repeat' (first | simp [go_sem, X_region, *] | simp (disch := omega) only [om, *] | ((first | refine XC_split ?_ ?_ | refine XG_true ?_ ?_ | refine XG_false ?_ ?_ | refine XRg_true ?_ ?_ | refine XRg_false ?_ ?_) <;> intro hc <;> (try simp only [bl] at hc) <;> (try (exfalso; omega))) | refine XD_w [] [] [] (fun _ => none) mixed (by decide +kernel) (sub_none _) ?_ | refine Pure.call (hk) ?_ | refine ⟨_, Pure.at (hk), ?_⟩ | refine ⟨_, hk, ?_⟩ | refine PureAt.call (hk) ?_ | fail))
    refine X_lpH (fun i => (9 ≤ i ∧ i ≤ 10) ∨ (12 ≤ i ∧ i ≤ 13) ∨ (38 ≤ i ∧ i ≤ 53)) (fun hE k T h2 => T 38 = I 0 ∧ h2 = hE) 0 ⟨by simp [go_sem], rfl⟩ ?_
    rintro hE hEq J hJ k T h2 hfr ⟨t38, rfl⟩
    have e8 := Sub.refl h2 b8 _ (by rw [← hEq]; exact upd_same _ _ _)
    have e5 := Sub.refl h2 b5 _ (by rw [← hEq]; exact (upd_ne _ _ n2).trans (upd_same _ _ _))
    have hsub : Sub h h2 := by rw [← hEq]; exact Sub.upd hb8 (Sub.upd hb5 (Sub.refl _))
    clear hEq
    (repeat' (first | simp [go_sem, X_region, *] | simp (disch := omega) only [om, *] | ((first | refine XC_split ?_ ?_ | refine XG_true ?_ ?_ | refine XG_false ?_ ?_ | refine XRg_true ?_ ?_ | refine XRg_false ?_ ?_) <;> intro hc <;> (try simp only [bl] at hc) <;> (try (exfalso; omega))) | refine XD_w [] [] [] (fun _ => none) mixed (by decide +kernel) (sub_none _) ?_ | refine Pure.call (hk) ?_ | refine ⟨_, Pure.at (hk), ?_⟩ | refine ⟨_, hk, ?_⟩ | refine PureAt.call (hk) ?_ | fail))
    intro b14 hb14
    have m5 := ne_free hb14 e5
    have m8 := ne_free hb14 e8
    by_cases qk : nk = 0
    · subst qk
      rw [if_pos rfl, if_pos (by decide)] at hR
      subst hR
      (repeat' (first | simp [go_sem, X_region, *] | simp (disch := omega) only [om, *] | ((first | refine XC_split ?_ ?_ | refine XG_true ?_ ?_ | refine XG_false ?_ ?_ | refine XRg_true ?_ ?_ | refine XRg_false ?_ ?_) <;> intro hc <;> (try simp only [bl] at hc) <;> (try (exfalso; omega))) | refine XD_w [] [] [] (fun _ => none) mixed (by decide +kernel) (sub_none _) ?_ | refine Pure.call (ho) ?_ | refine ⟨_, Pure.at (ho), ?_⟩ | refine ⟨_, ho, ?_⟩ | refine PureAt.call (ho) ?_ | fail))
      all_goals exact Wk.fin (Sub.upd hb8 (Sub.upd (sub_free hsub hb14) hsub)) rfl
    · rw [if_neg qk] at hR
      by_cases qc : checkV ⟨nk, nn⟩ = 0
      · rw [if_neg (fun h => h qc)] at hR
        rw [qc] at ho
        subst hR
        (repeat' (first | simp [go_sem, X_region, *] | simp (disch := omega) only [om, *] | ((first | refine XC_split ?_ ?_ | refine XG_true ?_ ?_ | refine XG_false ?_ ?_ | refine XRg_true ?_ ?_ | refine XRg_false ?_ ?_) <;> intro hc <;> (try simp only [bl] at hc) <;> (try (exfalso; omega))) | refine XD_w [] [] [] (fun _ => none) mixed (by decide +kernel) (sub_none _) ?_ | refine Pure.call (ho) ?_ | refine ⟨_, Pure.at (ho), ?_⟩ | refine ⟨_, ho, ?_⟩ | refine PureAt.call (ho) ?_ | fail))
        all_goals exact Wk.fin (Sub.upd hb8 (Sub.upd (sub_free hsub hb14) hsub)) rfl
      · rw [if_pos qc] at hR
        subst hR
        (repeat' (first | simp [go_sem, X_region, *] | simp (disch := omega) only [om, *] | ((first | refine XC_split ?_ ?_ | refine XG_true ?_ ?_ | refine XG_false ?_ ?_ | refine XRg_true ?_ ?_ | refine XRg_false ?_ ?_) <;> intro hc <;> (try simp only [bl] at hc) <;> (try (exfalso; omega))) | refine XD_w [] [] [] (fun _ => none) mixed (by decide +kernel) (sub_none _) ?_ | refine Pure.call (ho) ?_ | refine ⟨_, Pure.at (ho), ?_⟩ | refine ⟨_, ho, ?_⟩ | refine PureAt.call (ho) ?_ | fail))
        all_goals exact Wk.fin (Sub.upd hb8 (Sub.upd (sub_free hsub hb14) hsub)) rfl
  · have q00 : 3 < op := by omega
    have q1 : op = 0 ∨ (4 ≤ op ∧ op ≤ 18) := .inr q1
    intro h; refine callK_body Try.func6 rfl (by rw [nt6]; simp) ?_; rw [nt6, rs6]
    (repeat' (first | simp [go_sem, X_region, *] | simp (disch := omega) only [om, *] | ((first | refine XC_split ?_ ?_ | refine XG_true ?_ ?_ | refine XG_false ?_ ?_ | refine XRg_true ?_ ?_ | refine XRg_false ?_ ?_) <;> intro hc <;> (try simp only [bl] at hc) <;> (try (exfalso; omega))) | refine XD_w [] [] [] (fun _ => none) mixed (by decide +kernel) (sub_none _) ?_ | refine Pure.call (hk) ?_ | refine ⟨_, Pure.at (hk), ?_⟩ | refine ⟨_, hk, ?_⟩ | refine PureAt.call (hk) ?_ | fail))
    intro b5 hb5 b8 n1 n2 hb8
    (repeat' (first | simp [go_sem, X_region, *] | simp (disch := omega) only [om, *] | ((first | refine XC_split ?_ ?_ | refine XG_true ?_ ?_ | refine XG_false ?_ ?_ | refine XRg_true ?_ ?_ | refine XRg_false ?_ ?_) <;> intro hc <;> (try simp only [bl] at hc) <;> (try (exfalso; omega))) | refine XD_w [] [] [] (fun _ => none) mixed (by decide +kernel) (sub_none _) ?_ | refine Pure.call (hk) ?_ | refine ⟨_, Pure.at (hk), ?_⟩ | refine ⟨_, hk, ?_⟩ | refine PureAt.call (hk) ?_ | fail))
    refine X_lpH (fun i => (9 ≤ i ∧ i ≤ 10) ∨ (12 ≤ i ∧ i ≤ 13) ∨ (38 ≤ i ∧ i ≤ 53)) (fun hE k T h2 => ∃ (i : Nat) (r : List V), k = r.length ∧ i ≤ l.length ∧ l.drop i = r ∧ T 38 = I i ∧ chkL r = chkL l ∧ Own hE h2 (T 10) 3 1 ((l.take i).map (·.k)).length (cellsL cI ((l.take i).map (·.k)))) _
      ⟨0, l, rfl, by omega, rfl, by simp [go_sem], rfl, by simpa [go_sem] using Own.none⟩ ?_
    rintro hE hEq J hJ k T h2 hfr ⟨i, r, rfl, hi, hd, t38, hck, hown⟩
    have e8 := hown.1 b8 _ (by rw [← hEq]; exact upd_same _ _ _)
    have e5 := hown.1 b5 _ (by rw [← hEq]; exact (upd_ne _ _ n2).trans (upd_same _ _ _))
    have hsub : Sub h h2 := fun c oc hc => hown.1 c oc (by
      have m1 := ne_free hb5 hc
      have m2 := ne_free hb8 hc
      rw [← hEq, upd_ne _ _ m2.2, upd_ne _ _ m1.2]; exact hc)
    clear hEq
    rcases r with _ | ⟨x, r⟩
    · have hlt := drop_nil hd
      obtain rfl : i = l.length := by omega
      rw [List.take_length] at hown
      simp only [chkL] at hck
      rw [if_neg (by omega)] at hR
      have hgood := chkL_all l hck.symm
      clear hck
      have q0 : op ≠ 0 := by omega
      have hop : isOp op := q1.resolve_left q0
      by_cases q17 : op = 17
      · subst q17
        simp only [ownE, true_and, Int.reduceEq, if_false] at hR
        by_cases qb : nk < 0 ∨ 5 ≤ nk ∨ nn < 1 ∨ 1099511627776 < nn
        · rw [if_pos qb, if_pos (by decide)] at hR
          subst hR
          (repeat' (first | simp [go_sem, X_region, *] | simp (disch := omega) only [om, *] | ((first | refine XC_split ?_ ?_ | refine XG_true ?_ ?_ | refine XG_false ?_ ?_ | refine XRg_true ?_ ?_ | refine XRg_false ?_ ?_) <;> intro hc <;> (try simp only [bl] at hc) <;> (try (exfalso; omega))) | refine XD_w [] [] [] (fun _ => none) mixed (by decide +kernel) (sub_none _) ?_ | fail))
          intro b14 hb14
          have m5 := ne_free hb14 e5
          have m8 := ne_free hb14 e8
          (repeat' (first | simp [go_sem, X_region, *] | simp (disch := omega) only [om, *] | ((first | refine XC_split ?_ ?_ | refine XG_true ?_ ?_ | refine XG_false ?_ ?_ | refine XRg_true ?_ ?_ | refine XRg_false ?_ ?_) <;> intro hc <;> (try simp only [bl] at hc) <;> (try (exfalso; omega))) | refine XD_w [] [] [] (fun _ => none) mixed (by decide +kernel) (sub_none _) ?_ | fail))
          all_goals exact Wk.fin (Sub.upd hb8 (Sub.upd (sub_free hsub hb14) hsub)) rfl
        · rw [if_neg qb] at hR
          simp only [ne_eq, not_true, if_false] at hR
          (repeat' (first | simp [go_sem, X_region, *] | simp (disch := omega) only [om, *] | ((first | refine XC_split ?_ ?_ | refine XG_true ?_ ?_ | refine XG_false ?_ ?_ | refine XRg_true ?_ ?_ | refine XRg_false ?_ ?_) <;> intro hc <;> (try simp only [bl] at hc) <;> (try (exfalso; omega))) | refine XD_w [] [] [] (fun _ => none) mixed (by decide +kernel) (sub_none _) ?_ | fail))
          intro b14 hb14
          have m5 := ne_free hb14 e5
          have m8 := ne_free hb14 e8
          have hposs := fun (ob : Ob) => poss_own (op := 17) hop (l := l.map (·.k)) (by simpa using q2) tb0.fr tb0.to (hown.alloc (ob := ob) hb14)
          unfold compL at hR
          by_cases q6 : posF (permP 17 tb0.fr tb0.to) ((l.map (·.k)).count 0) (l.map (·.k)) = true
          case neg =>
            rw [if_neg q6] at hR
            simp only [Bool.not_eq_true] at q6
            rw [q6] at hposs
            subst hR
            clear q6
            (repeat' (first | simp [go_sem, X_region, *] | simp (disch := omega) only [om, *] | ((first | refine XC_split ?_ ?_ | refine XG_true ?_ ?_ | refine XG_false ?_ ?_ | refine XRg_true ?_ ?_ | refine XRg_false ?_ ?_) <;> intro hc <;> (try simp only [bl] at hc) <;> (try (exfalso; omega))) | refine XD_w [] [] [] (fun _ => none) mixed (by decide +kernel) (sub_none _) ?_ | refine Pure.call (hk) ?_ | refine ⟨_, Pure.at (hk), ?_⟩ | refine ⟨_, hk, ?_⟩ | refine PureAt.call (hk) ?_ | refine Pure.call (hposs _) ?_ | refine ⟨_, Pure.at (hposs _), ?_⟩ | refine ⟨_, hposs _, ?_⟩ | refine PureAt.call (hposs _) ?_ | fail))
            all_goals exact Wk.fin (Sub.upd hb8 (Sub.upd (sub_free hsub hb14) hsub)) rfl
          rw [if_pos q6] at hR
          have hres := fun (ob : Ob) => res_own kids (S nm) nk nn op0 tb0 (op := 17) hop q2 hgood q6 (by simp) (.inr ⟨by decide, S ⟨#[]⟩, 0, 0, false, .v (.slice none 0 0), rfl⟩) (hown.alloc (ob := ob) hb14)
          rw [q6] at hposs
          clear q6
          generalize resL 17 nk nn l tb0 = rv at *
          subst hR
          (repeat' (first | simp [go_sem, X_region, *] | simp (disch := omega) only [om, *] | ((first | refine XC_split ?_ ?_ | refine XG_true ?_ ?_ | refine XG_false ?_ ?_ | refine XRg_true ?_ ?_ | refine XRg_false ?_ ?_) <;> intro hc <;> (try simp only [bl] at hc) <;> (try (exfalso; omega))) | refine XD_w [] [] [] (fun _ => none) mixed (by decide +kernel) (sub_none _) ?_ | refine Pure.call (hk) ?_ | refine ⟨_, Pure.at (hk), ?_⟩ | refine ⟨_, hk, ?_⟩ | refine PureAt.call (hk) ?_ | refine Pure.call (hposs _) ?_ | refine ⟨_, Pure.at (hposs _), ?_⟩ | refine ⟨_, hposs _, ?_⟩ | refine PureAt.call (hposs _) ?_ | refine Pure.call (hres _) ?_ | refine ⟨_, Pure.at (hres _), ?_⟩ | refine ⟨_, hres _, ?_⟩ | refine PureAt.call (hres _) ?_ | fail))
          all_goals exact Wk.fin (Sub.upd hb8 (Sub.upd (sub_free hsub hb14) hsub)) rfl
      rw [show ownE op nk nn = 0 by simp [ownE, q0, q17], if_neg (by simp), if_neg q0] at hR
      by_cases q16 : op = 16
      · rw [if_pos q16] at hR
        subst q16
        (repeat' (first | simp [go_sem, X_region, *] | simp (disch := omega) only [om, *] | ((first | refine XC_split ?_ ?_ | refine XG_true ?_ ?_ | refine XG_false ?_ ?_ | refine XRg_true ?_ ?_ | refine XRg_false ?_ ?_) <;> intro hc <;> (try simp only [bl] at hc) <;> (try (exfalso; omega))) | refine XD_w [] [] [] (fun _ => none) mixed (by decide +kernel) (sub_none _) ?_ | fail))
        intro b14 hb14
        have m5 := ne_free hb14 e5
        have m8 := ne_free hb14 e8
        have hix := fun ob => cidx_ok (h := upd h2 b14 (some ob)) (nm := nm) ((upd_ne _ _ m5.2).trans e5) rfl rfl rfl ts
        rcases idxT_find nm ts 0 (by omega) with ⟨f1, f2⟩ | ⟨t, j, f1, f2, f3⟩
        · rw [f1] at hR
          rw [f2] at hix
          dsimp only at hR
          subst hR
          (repeat' (first | simp [go_sem, X_region, *] | simp (disch := omega) only [om, *] | ((first | refine XC_split ?_ ?_ | refine XG_true ?_ ?_ | refine XG_false ?_ ?_ | refine XRg_true ?_ ?_ | refine XRg_false ?_ ?_) <;> intro hc <;> (try simp only [bl] at hc) <;> (try (exfalso; omega))) | refine XD_w [] [] [] (fun _ => none) mixed (by decide +kernel) (sub_none _) ?_ | refine Pure.call (hix _) ?_ | refine ⟨_, Pure.at (hix _), ?_⟩ | refine ⟨_, hix _, ?_⟩ | refine PureAt.call (hix _) ?_ | fail))
          all_goals exact Wk.fin (Sub.upd hb8 (Sub.upd (sub_free hsub hb14) hsub)) rfl
        · rw [f1] at hR
          rw [f2, Int.zero_add] at hix
          dsimp only at hR
          have htc := tcheck_ok t
          simp only [encTbA] at htc
          obtain ⟨hjl, hj⟩ := List.getElem?_eq_some_iff.1 f3
          clear f1 f2 f3
          by_cases qt : chkTb t = 0
          case neg =>
            rw [if_pos qt] at hR
            subst hR
            (repeat' (first | simp [go_sem, X_region, *] | simp (disch := omega) only [om, *] | ((first | refine XC_split ?_ ?_ | refine XG_true ?_ ?_ | refine XG_false ?_ ?_ | refine XRg_true ?_ ?_ | refine XRg_false ?_ ?_) <;> intro hc <;> (try simp only [bl] at hc) <;> (try (exfalso; omega))) | refine XD_w [] [] [] (fun _ => none) mixed (by decide +kernel) (sub_none _) ?_ | refine Pure.call (hix _) ?_ | refine ⟨_, Pure.at (hix _), ?_⟩ | refine ⟨_, hix _, ?_⟩ | refine PureAt.call (hix _) ?_ | refine Pure.call (htc) ?_ | refine ⟨_, Pure.at (htc), ?_⟩ | refine ⟨_, htc, ?_⟩ | refine PureAt.call (htc) ?_ | fail))
            all_goals exact Wk.fin (Sub.upd hb8 (Sub.upd (sub_free hsub hb14) hsub)) rfl
          rw [if_neg (fun h => h qt)] at hR
          rw [qt] at htc
          have htk := (chk_facts qt).1
          have htt : 0 ≤ t.to ∧ t.to ≤ 6 := by simp [tkindsB] at htk; omega
          have hposs := fun (ob : Ob) => poss_own (op := 16) hop (l := l.map (·.k)) (by simpa using q2) t.fr t.to (hown.alloc (ob := ob) hb14)
          unfold compL at hR
          by_cases q6 : posF (permP 16 t.fr t.to) ((l.map (·.k)).count 0) (l.map (·.k)) = true
          case neg =>
            rw [if_neg q6] at hR
            simp only [Bool.not_eq_true] at q6
            rw [q6] at hposs
            subst hR
            clear q6
            (repeat' (first | simp [go_sem, X_region, *] | simp (disch := omega) only [om, *] | ((first | refine XC_split ?_ ?_ | refine XG_true ?_ ?_ | refine XG_false ?_ ?_ | refine XRg_true ?_ ?_ | refine XRg_false ?_ ?_) <;> intro hc <;> (try simp only [bl] at hc) <;> (try (exfalso; omega))) | refine XD_w [] [] [] (fun _ => none) mixed (by decide +kernel) (sub_none _) ?_ | refine Pure.call (hix _) ?_ | refine ⟨_, Pure.at (hix _), ?_⟩ | refine ⟨_, hix _, ?_⟩ | refine PureAt.call (hix _) ?_ | refine Pure.call (htc) ?_ | refine ⟨_, Pure.at (htc), ?_⟩ | refine ⟨_, htc, ?_⟩ | refine PureAt.call (htc) ?_ | refine Pure.call (hposs _) ?_ | refine ⟨_, Pure.at (hposs _), ?_⟩ | refine ⟨_, hposs _, ?_⟩ | refine PureAt.call (hposs _) ?_ | fail))
            all_goals exact Wk.fin (Sub.upd hb8 (Sub.upd (sub_free hsub hb14) hsub)) rfl
          rw [if_pos q6] at hR
          have hres := fun (ob : Ob) => res_own kids (S nm) nk nn op0 t (op := 16) hop q2 hgood q6 (fun _ => htt) (.inl rfl) (hown.alloc (ob := ob) hb14)
          rw [q6] at hposs
          clear q6
          generalize resL 16 nk nn l t = rv at *
          subst hR
          (repeat' (first | simp [go_sem, X_region, *] | simp (disch := omega) only [om, *] | ((first | refine XC_split ?_ ?_ | refine XG_true ?_ ?_ | refine XG_false ?_ ?_ | refine XRg_true ?_ ?_ | refine XRg_false ?_ ?_) <;> intro hc <;> (try simp only [bl] at hc) <;> (try (exfalso; omega))) | refine XD_w [] [] [] (fun _ => none) mixed (by decide +kernel) (sub_none _) ?_ | refine Pure.call (hix _) ?_ | refine ⟨_, Pure.at (hix _), ?_⟩ | refine ⟨_, hix _, ?_⟩ | refine PureAt.call (hix _) ?_ | refine Pure.call (htc) ?_ | refine ⟨_, Pure.at (htc), ?_⟩ | refine ⟨_, htc, ?_⟩ | refine PureAt.call (htc) ?_ | refine Pure.call (hposs _) ?_ | refine ⟨_, Pure.at (hposs _), ?_⟩ | refine ⟨_, hposs _, ?_⟩ | refine PureAt.call (hposs _) ?_ | refine Pure.call (hres _) ?_ | refine ⟨_, Pure.at (hres _), ?_⟩ | refine ⟨_, hres _, ?_⟩ | refine PureAt.call (hres _) ?_ | fail))
          all_goals exact Wk.fin (Sub.upd hb8 (Sub.upd (sub_free hsub hb14) hsub)) rfl
      · rw [if_neg q16] at hR
        (repeat' (first | simp [go_sem, X_region, *] | simp (disch := omega) only [om, *] | ((first | refine XC_split ?_ ?_ | refine XG_true ?_ ?_ | refine XG_false ?_ ?_ | refine XRg_true ?_ ?_ | refine XRg_false ?_ ?_) <;> intro hc <;> (try simp only [bl] at hc) <;> (try (exfalso; omega))) | refine XD_w [] [] [] (fun _ => none) mixed (by decide +kernel) (sub_none _) ?_ | fail))
        intro b14 hb14
        have m5 := ne_free hb14 e5
        have m8 := ne_free hb14 e8
        have hposs := fun (ob : Ob) => poss_own (op := op) hop (l := l.map (·.k)) (by simpa using q2) tb0.fr tb0.to (hown.alloc (ob := ob) hb14)
        unfold compL at hR
        by_cases q6 : posF (permP op tb0.fr tb0.to) ((l.map (·.k)).count 0) (l.map (·.k)) = true
        case neg =>
          rw [if_neg q6] at hR
          simp only [Bool.not_eq_true] at q6
          rw [q6] at hposs
          subst hR
          clear q6
          (repeat' (first | simp [go_sem, X_region, *] | simp (disch := omega) only [om, *] | ((first | refine XC_split ?_ ?_ | refine XG_true ?_ ?_ | refine XG_false ?_ ?_ | refine XRg_true ?_ ?_ | refine XRg_false ?_ ?_) <;> intro hc <;> (try simp only [bl] at hc) <;> (try (exfalso; omega))) | refine XD_w [] [] [] (fun _ => none) mixed (by decide +kernel) (sub_none _) ?_ | refine Pure.call (hk) ?_ | refine ⟨_, Pure.at (hk), ?_⟩ | refine ⟨_, hk, ?_⟩ | refine PureAt.call (hk) ?_ | refine Pure.call (hposs _) ?_ | refine ⟨_, Pure.at (hposs _), ?_⟩ | refine ⟨_, hposs _, ?_⟩ | refine PureAt.call (hposs _) ?_ | fail))
          all_goals exact Wk.fin (Sub.upd hb8 (Sub.upd (sub_free hsub hb14) hsub)) rfl
        rw [if_pos q6] at hR
        have hres := fun (ob : Ob) => res_own kids (S nm) nk nn op0 tb0 (op := op) hop q2 hgood q6 (fun h => absurd h q16) (.inr ⟨q16, S ⟨#[]⟩, 0, 0, false, .v (.slice none 0 0), rfl⟩) (hown.alloc (ob := ob) hb14)
        rw [q6] at hposs
        clear q6
        generalize resL op nk nn l tb0 = rv at *
        subst hR
        (repeat' (first | simp [go_sem, X_region, *] | simp (disch := omega) only [om, *] | ((first | refine XC_split ?_ ?_ | refine XG_true ?_ ?_ | refine XG_false ?_ ?_ | refine XRg_true ?_ ?_ | refine XRg_false ?_ ?_) <;> intro hc <;> (try simp only [bl] at hc) <;> (try (exfalso; omega))) | refine XD_w [] [] [] (fun _ => none) mixed (by decide +kernel) (sub_none _) ?_ | refine Pure.call (hk) ?_ | refine ⟨_, Pure.at (hk), ?_⟩ | refine ⟨_, hk, ?_⟩ | refine PureAt.call (hk) ?_ | refine Pure.call (hposs _) ?_ | refine ⟨_, Pure.at (hposs _), ?_⟩ | refine ⟨_, hposs _, ?_⟩ | refine PureAt.call (hposs _) ?_ | refine Pure.call (hres _) ?_ | refine ⟨_, Pure.at (hres _), ?_⟩ | refine ⟨_, hres _, ?_⟩ | refine PureAt.call (hres _) ?_ | fail))
        all_goals exact Wk.fin (Sub.upd hb8 (Sub.upd (sub_free hsub hb14) hsub)) rfl
    · obtain ⟨hlt, hx, hd2⟩ := drop_cons hd
      have hcx := checkV_ok x
      rw [chkL] at hck
      by_cases hg : checkV x = 0
      · rw [if_pos hg] at hck
        rw [hg] at hcx
        (repeat' (first | simp [go_sem, X_region, *] | simp (disch := omega) only [om, *] | ((first | refine XC_split ?_ ?_ | refine XG_true ?_ ?_ | refine XG_false ?_ ?_ | refine XRg_true ?_ ?_ | refine XRg_false ?_ ?_) <;> intro hc <;> (try simp only [bl] at hc) <;> (try (exfalso; omega))) | refine XD_w [] [] [] (fun _ => none) mixed (by decide +kernel) (sub_none _) ?_ | refine Pure.call (hcx) ?_ | refine ⟨_, Pure.at (hcx), ?_⟩ | refine ⟨_, hcx, ?_⟩ | refine PureAt.call (hcx) ?_ | fail))
        intro b13 hb13
        have m5 := ne_free hb13 e5
        have m8 := ne_free hb13 e8
        (repeat' (first | simp [go_sem, X_region, *] | simp (disch := omega) only [om, *] | ((first | refine XC_split ?_ ?_ | refine XG_true ?_ ?_ | refine XG_false ?_ ?_ | refine XRg_true ?_ ?_ | refine XRg_false ?_ ?_) <;> intro hc <;> (try simp only [bl] at hc) <;> (try (exfalso; omega))) | refine XD_w [] [] [] (fun _ => none) mixed (by decide +kernel) (sub_none _) ?_ | refine Pure.call (hcx) ?_ | refine ⟨_, Pure.at (hcx), ?_⟩ | refine ⟨_, hcx, ?_⟩ | refine PureAt.call (hcx) ?_ | fail))
        intro bk n13a n13b hbk
        have hbk2 : (upd h2 b13 (some ⟨29, 2, 1, fun i' j' => if i' = 0 ∧ j' < 2 then [I x.k, I x.n][j']?.getD AV.any else AV.v ([Value.int IntKind.i64 0, Value.int IntKind.i64 0][j']?.getD undef)⟩)) bk = none := by rw [upd_ne _ _ n13a]; exact hbk
        refine Own.push (x := x.k) (enc := cI) (hown.alloc hb13) (by simp [go_sem, *]) und22 zr3 by3 (by simp [go_sem]) hbk2 (by simp [go_sem, *]) rfl (Nat.le_refl _) (by simp [go_sem, *]) (by simp; omega) (by simp; omega) fun a1 h1 hown1 hkeep1 => ?_
        have ht : l.take (i + 1) = l.take i ++ [x] := by rw [List.take_add_one, List.getElem?_eq_getElem hlt, hx]; rfl
        (repeat' (first | simp [go_sem, X_region, *] | simp (disch := omega) only [om, *] | ((first | refine XC_split ?_ ?_ | refine XG_true ?_ ?_ | refine XG_false ?_ ?_ | refine XRg_true ?_ ?_ | refine XRg_false ?_ ?_) <;> intro hc <;> (try simp only [bl] at hc) <;> (try (exfalso; omega))) | refine XD_w [] [] [] (fun _ => none) mixed (by decide +kernel) (sub_none _) ?_ | fail))
        all_goals exact ⟨_, Nat.lt_succ_self _, hJ.out _ _ _ ⟨(by (repeat (refine fr_upd (by decide) ?_)); exact hfr), i + 1, r, rfl, by omega, hd2, by simp [go_sem, *], hck, by rw [ht]; simpa [go_sem] using hown1⟩⟩
      · rw [if_neg hg] at hck
        rw [if_pos (by rw [← hck]; exact hg), ← hck] at hR
        subst hR
        (repeat' (first | simp [go_sem, X_region, *] | simp (disch := omega) only [om, *] | ((first | refine XC_split ?_ ?_ | refine XG_true ?_ ?_ | refine XG_false ?_ ?_ | refine XRg_true ?_ ?_ | refine XRg_false ?_ ?_) <;> intro hc <;> (try simp only [bl] at hc) <;> (try (exfalso; omega))) | refine XD_w [] [] [] (fun _ => none) mixed (by decide +kernel) (sub_none _) ?_ | refine Pure.call (hcx) ?_ | refine ⟨_, Pure.at (hcx), ?_⟩ | refine ⟨_, hcx, ?_⟩ | refine PureAt.call (hcx) ?_ | fail))
        intro b13 hb13
        have m5 := ne_free hb13 e5
        have m8 := ne_free hb13 e8
        (repeat' (first | simp [go_sem, X_region, *] | simp (disch := omega) only [om, *] | ((first | refine XC_split ?_ ?_ | refine XG_true ?_ ?_ | refine XG_false ?_ ?_ | refine XRg_true ?_ ?_ | refine XRg_false ?_ ?_) <;> intro hc <;> (try simp only [bl] at hc) <;> (try (exfalso; omega))) | refine XD_w [] [] [] (fun _ => none) mixed (by decide +kernel) (sub_none _) ?_ | refine Pure.call (hcx) ?_ | refine ⟨_, Pure.at (hcx), ?_⟩ | refine ⟨_, hcx, ?_⟩ | refine PureAt.call (hcx) ?_ | fail))
        all_goals exact Wk.fin (Sub.upd hb8 (Sub.upd (sub_free hsub hb13) hsub)) rfl
end Go.Proofs.Ytmalhikcdideoaa

set_option linter.unusedVariables false
set_option linter.unusedSimpArgs false
namespace Go.Proofs.Ytmalhikcdideoaa
open Go Sl
attribute [local irreducible] LpQ XR XRo XRg XRQ putQ XFv XL XW2 wQ putW X XO XOp XH XHo XW SeqQ BlkQ XOQ XHQ NrmQ XC XM XG XHM XHG XD CallK
theorem evalF_compF (op nk nn : Int) (nm : ByteArray) (l : List V) (ts : List Tb) : evalF op nk nn nm l ts = compF op nk nn nm l ts := by
  unfold evalF compF
  by_cases q1 : op = 0 ∨ (4 ≤ op ∧ op ≤ 18)
  case neg => simp only [ne_eq, q1, not_false_eq_true, if_true]
  simp only [ne_eq, q1, not_true_eq_false, if_false]
  by_cases q2 : (l.length : Int) = ar op
  case neg => simp only [ne_eq, q2, not_false_eq_true, if_true]
  simp only [ne_eq, q2, not_true_eq_false, if_false]
  by_cases q3 : chkL l = 0
  case neg => simp only [ne_eq, q3, not_false_eq_true, if_true]
  simp only [ne_eq, q3, not_true_eq_false, if_false]
  have hg := chkL_all l q3
  by_cases q4 : ownE op nk nn = 0
  case neg => simp only [ne_eq, q4, not_false_eq_true, if_true]
  simp only [ne_eq, q4, not_true_eq_false, if_false]
  by_cases q0 : op = 0
  · subst q0
    obtain rfl := len0 (show (l.length : Int) = 0 by rw [q2]; decide)
    simp [evalT, evalV, kindP, kindF, logicF, strictF]
  have hop : isOp op := q1.resolve_left q0
  have key : ∀ t : Tb, (op = 16 → 1 ≤ t.fr ∧ t.fr ≤ 6) → evalT op nk nn l t = compL op nk nn l t := fun t ht => eval_comp atF rndF yearsF hop q2 hg ht
  simp only [q0, if_false]
  by_cases q5 : op = 16
  · simp only [q5, if_true] at *
    cases findF nm ts with
    | none => rfl
    | some t =>
      dsimp only
      by_cases q6 : chkTb t = 0
      · simp only [ne_eq, q6, not_true_eq_false, if_false]
        refine key t fun _ => ?_
        have := (chk_facts q6).1
        simp [tkindsB] at this
        omega
      · simp only [ne_eq, q6, not_false_eq_true, if_true]
  · simp only [q5, if_false]
    exact key tb0 fun h => absurd h q5
theorem evals_ok (op op0 nk nn : Int) (kids : AV) (nm : ByteArray) (l : List V) (ts : List Tb) :
    Pure Try.prog 3 [I op, encNd op0 kids nk nn (S nm), encL 2 cV l, encL 5 cTb ts] (B true) := by
  have h1 := eval_ok op nk nn op0 kids nm l ts
  have h2 := comp_ok op nk nn op0 kids nm l ts
  rw [evalF_compF] at h1
  generalize compF op nk nn nm l ts = r at *
  intro h; refine callK_body Try.func3 rfl (by rw [nt3]; simp) ?_; rw [nt3, rs3]
  ((repeat' (first | simp [go_sem, X_region, *] | simp (disch := omega) only [om, *] | ((first | refine XC_split ?_ ?_ | refine XG_true ?_ ?_ | refine XG_false ?_ ?_ | refine XRg_true ?_ ?_ | refine XRg_false ?_ ?_) <;> intro hc <;> (try simp only [bl] at hc) <;> (try (exfalso; omega))) | refine XD_w [] [] [] (fun _ => none) mixed (by decide +kernel) (sub_none _) ?_ | refine Pure.call (tbegun_ok) ?_ | refine ⟨_, Pure.at (tbegun_ok), ?_⟩ | refine ⟨_, tbegun_ok, ?_⟩ | refine PureAt.call (tbegun_ok) ?_ | refine Pure.call (h1) ?_ | refine ⟨_, Pure.at (h1), ?_⟩ | refine ⟨_, h1, ?_⟩ | refine PureAt.call (h1) ?_ | refine Pure.call (h2) ?_ | refine ⟨_, Pure.at (h2), ?_⟩ | refine ⟨_, h2, ?_⟩ | refine PureAt.call (h2) ?_ | (intro bk hbk; (try simp only [go_sem] at hbk)))); all_goals (refine Wk.fin (by repeat (first | exact Sub.refl _ | refine Sub.upd (by simp [*]) ?_)) ?_; first | (simp [*]; done) | (simp only []; (repeat' (first | split | rfl | omega | (simp_all; done))); done) | (simp [*]; (repeat' (first | split | omega | (rw [Bool.eq_iff_iff]; simp; omega))); done) | (simp [*])))
end Go.Proofs.Ytmalhikcdideoaa

set_option linter.unusedVariables false
namespace Go.Proofs.Ytmalhikcdideoaa
open Go Go.ChangeShapes Go.WideShapes Sl
/-- These cells, told. -/
def CellsR (w : World) (cs : List Value) (l : List AV) : Prop := cs.length = l.length ∧ ∀ j, j < l.length → ∃ x, cs[j]? = some x ∧ x.oneCell' = true ∧ Rd w (fun _ => none) (l.getD j .any) x
theorem CellsR.nil (w : World) : CellsR w [] [] := ⟨rfl, fun j hj => absurd hj (Nat.not_lt_zero j)⟩
theorem CellsR.one {w : World} {x : Value} {a : AV} (h1 : x.oneCell' = true) (h2 : Rd w (fun _ => none) a x) : CellsR w [x] [a] := ⟨rfl, fun j hj => by
  obtain rfl : j = 0 := by simp at hj; omega
  exact ⟨x, rfl, h1, h2⟩⟩
theorem CellsR.append {w : World} {cs cs' : List Value} {l l' : List AV} (a : CellsR w cs l) (b : CellsR w cs' l') : CellsR w (cs ++ cs') (l ++ l') := by
  refine ⟨by simp [a.1, b.1], fun j hj => ?_⟩
  by_cases hl : j < l.length
  · obtain ⟨x, h1, h2, h3⟩ := a.2 j hl
    refine ⟨x, ?_, h2, ?_⟩
    · rw [List.getElem?_append_left (by rw [a.1]; exact hl)]; exact h1
    · rw [List.getD_eq_getElem?_getD] at h3 ⊢
      rw [List.getElem?_append_left hl]; exact h3
  · obtain ⟨x, h1, h2, h3⟩ := b.2 (j - l.length) (by simp at hj; omega)
    refine ⟨x, ?_, h2, ?_⟩
    · rw [List.getElem?_append_right (by rw [a.1]; omega), a.1]; exact h1
    · rw [List.getD_eq_getElem?_getD] at h3 ⊢
      rw [List.getElem?_append_right (by omega)]; exact h3
/-- Of each value of this type that can be read: it is told by cells of which Q speaks. -/
def OpensQ (P : Program) (w : World) (t : TypeId) (Q : List AV → Prop) : Prop :=
  ∀ (H : Type) (enc : TypeId × Value → H) (base : Nat) (sp : Nat → Bool) (held : Bool) (fuel : Nat) (cs : List Value) (d : DataW H) (p : List MemPlace),
    DataW.trod enc P w base sp held fuel t cs = some (d, p) → (∀ n ∈ d.weights P t, n ≤ reachBytes) → ∃ l, Q l ∧ CellsR w cs l
section
variable {P : Program} {w : World} {t e : TypeId}
theorem OpensQ.mono {Q Q' : List AV → Prop} (o : OpensQ P w t Q) (h : ∀ l, Q l → Q' l) : OpensQ P w t Q' := fun H enc base sp held fuel cs d p ht hw =>
  let ⟨l, h1, h2⟩ := o H enc base sp held fuel cs d p ht hw
  ⟨l, h l h1, h2⟩
theorem opens_int {k : IntKind} (hu : P.underlying t = some (.int k)) : OpensQ P w t fun l => ∃ n : Int, (Lit.int k n).wf = true ∧ l = [.v (.int k n)] := by
  intro H enc base sp held fuel cs d p ht hw
  obtain ⟨n, rfl, _, hwf⟩ := DataW.trod_int hu ht
  exact ⟨_, ⟨n, hwf, rfl⟩, CellsR.one rfl rfl⟩
theorem opens_bool (hu : P.underlying t = some .bool) : OpensQ P w t fun l => ∃ b : Bool, l = [.v (.bool b)] := by
  intro H enc base sp held fuel cs d p ht hw
  obtain ⟨b, rfl, _⟩ := DataW.trod_bool hu ht
  exact ⟨_, ⟨b, rfl⟩, CellsR.one rfl rfl⟩
theorem opens_string (hu : P.underlying t = some .string) : OpensQ P w t fun l => ∃ s : ByteArray, s.size ≤ reachBytes ∧ l = [.v (.string s)] := by
  intro H enc base sp held fuel cs d p ht hw
  obtain ⟨s, rfl, hd, _⟩ := DataW.trod_string hu ht
  simp only [Prod.mk.injEq] at hd
  obtain ⟨rfl, _⟩ := hd
  have := hw s.data.toList.length (by simp [DataW.weights])
  exact ⟨_, ⟨s, by simpa using this, rfl⟩, CellsR.one rfl rfl⟩
theorem list_of {α : Type} {Q : Nat → α → Prop} : ∀ n : Nat, (∀ i, i < n → ∃ x, Q i x) → ∃ l : List α, l.length = n ∧ ∀ i x, l[i]? = some x → Q i x
  | 0, _ => ⟨[], rfl, fun i x h => by simp at h⟩
  | n + 1, h => by
    obtain ⟨l, h1, h2⟩ := list_of n fun i hi => h i (by omega)
    obtain ⟨x, hx⟩ := h n (by omega)
    refine ⟨l ++ [x], by simp [h1], fun i y hy => ?_⟩
    by_cases hi : i < l.length
    · rw [List.getElem?_append_left hi] at hy; exact h2 i y hy
    · rw [List.getElem?_append_right (by omega)] at hy
      obtain rfl : i = n := by
        have := (List.getElem?_eq_some_iff.1 hy).1
        simp at this; omega
      simp [h1] at hy
      exact hy ▸ hx
theorem weightsAll_mem {H : Type} : ∀ (l : List (DataW H)) (d : DataW H), d ∈ l → ∀ n ∈ d.weights P e, n ∈ DataW.weightsAll P e l
  | [], _, h, _, _ => by simp at h
  | a :: l, d, h, n, hn => by
    simp only [DataW.weightsAll, List.mem_append]
    rcases List.mem_cons.1 h with rfl | h
    · exact .inl hn
    · exact .inr (weightsAll_mem l d h n hn)
theorem opens_slice {s : Nat} {Q : List AV → Prop} (hu : P.underlying t = some (.slice e)) (hs : P.cellsOf e = s) (hs0 : 0 < s) (hb : 0 < P.bytesOf e) (ho : OpensQ P w e Q) :
    OpensQ P w t fun l => ∃ ls : List (List AV), l = [.sl s ls.length fun i j => (ls.getD i []).getD j .any] ∧ ls.length * P.bytesOf e ≤ reachBytes ∧ ∀ x ∈ ls, x.length = s ∧ Q x := by
  intro H enc base sp held fuel cs d p ht hw
  rcases DataW.trod_slice hu ht with ⟨rfl, _⟩ | ⟨a, len, cap, elems, rest, n, _, rfl, hx, hbase, hlc, hcap, hlen, hel, _⟩
  · exact ⟨_, ⟨[], rfl, by simp, fun x hx => by simp at hx⟩, CellsR.one rfl ⟨none, 0, rfl, Nat.le_refl _, by simp, fun h => absurd h (by simp)⟩⟩
  · simp only [Prod.mk.injEq] at hx
    obtain ⟨rfl, _⟩ := hx
    have hwt : (len + rest.length) * P.bytesOf e ≤ reachBytes := by
      have := hw ((elems.length + rest.length) * P.bytesOf e) (by simp [DataW.weights, hu])
      rwa [hlen] at this
    have hlb : len * P.bytesOf e ≤ reachBytes := Nat.le_trans (Nat.mul_le_mul_right _ (by omega)) hwt
    have hln : len ≤ reachBytes := Nat.le_trans (Nat.le_mul_of_pos_right _ hb) hlb
    have each : ∀ i, i < len → ∃ x : List AV, (x.length = s ∧ Q x) ∧ ∃ ci, w.cells? base (a.add (i * s)) s = some ci ∧ CellsR w ci x := fun i hi => by
      have h1 := hel i hi
      rw [hs, List.getElem?_eq_getElem (by omega)] at h1
      cases hc : w.cells? base (a.add (i * s)) s with
      | none => rw [hc] at h1; simp at h1
      | some ci =>
        rw [hc] at h1
        simp only [Option.bind_some] at h1
        have hmem : elems[i].1 ∈ elems.map (·.1) := List.mem_map.2 ⟨elems[i], List.getElem_mem _, rfl⟩
        obtain ⟨x, hq, hr⟩ := ho H enc base sp held n ci elems[i].1 elems[i].2 h1 fun m hm => hw m (by
          simp only [DataW.weights, hu, List.mem_cons, List.mem_append]
          exact .inr (.inl (weightsAll_mem _ _ hmem m hm)))
        have hl := (World.cells?_some hc).2.1
        exact ⟨x, ⟨by rw [← hr.1, hl], hq⟩, ci, rfl, hr⟩
    obtain ⟨ls, hll, hls⟩ := list_of len each
    refine ⟨_, ⟨ls, rfl, by rw [hll]; exact hlb, fun x hx => ?_⟩, CellsR.one rfl ⟨some a, cap, by rw [hll], by omega, ?_, fun h0 => ?_⟩⟩
    · obtain ⟨i, hi, rfl⟩ := List.mem_iff_getElem.1 hx
      exact (hls i _ (List.getElem?_eq_getElem hi)).1
    · rw [hll]; exact Nat.le_trans hln (by decide)
    · rw [hll] at h0
      obtain ⟨c0, hc0, _⟩ := (hls 0 _ (List.getElem?_eq_getElem (by omega))).2
      have hblk := World.cells?_block hc0 hs0
      rw [Nat.zero_mul] at hc0 hblk
      have hadd : a.add 0 = a := rfl
      rw [hadd] at hc0 hblk
      have hsp : a.spot = none := by
        have h2 := (World.cells?_some hc0).2.2 0 hs0
        rw [hadd, List.getElem?_eq_getElem (by rw [(World.cells?_some hc0).2.1]; exact hs0)] at h2
        exact World.cell?_spot h2
      refine ⟨a.block, a.off, by cases a; simp_all, rfl, hblk, fun i hi j hj => ?_⟩
      rw [hll] at hi
      obtain ⟨⟨hxl, _⟩, ci, hci, hr⟩ := hls i _ (List.getElem?_eq_getElem (by omega))
      obtain ⟨x, h1, h2, h3⟩ := hr.2 j (by rw [hxl]; exact hj)
      refine ⟨x, ?_, h2, ?_⟩
      · have h4 := (World.cells?_some hci).2.2 j hj
        rw [← h1, ← h4]
        congr 1
        unfold Addr.add
        cases a with
        | mk b o sp' =>
          simp only at hsp
          subst hsp
          by_cases hi0 : i * s = 0
          · simp only [hi0, if_true]
            by_cases hj0 : j = 0
            · simp [hj0]
            · simp [hj0]
          · simp only [hi0, if_false]
            by_cases hj0 : j = 0
            · simp [hj0]
            · simp [hj0, Nat.add_assoc]
      · show Rd w _ ((ls.getD i []).getD j .any) x
        rw [List.getD_eq_getElem?_getD (l := ls), List.getElem?_eq_getElem (by omega)]
        exact h3
theorem typed {α : Type} {enc : α → List AV} {ok : α → Prop} : ∀ ls : List (List AV), (∀ x ∈ ls, ∃ y, ok y ∧ x = enc y) → ∃ ys : List α, ls = ys.map enc ∧ ∀ y ∈ ys, ok y
  | [], _ => ⟨[], rfl, fun y hy => by simp at hy⟩
  | x :: ls, h => by
    obtain ⟨y, hy, rfl⟩ := h x (by simp)
    obtain ⟨ys, rfl, hys⟩ := typed ls fun z hz => h z (by simp [hz])
    exact ⟨y :: ys, rfl, fun z hz => by
      rcases List.mem_cons.1 hz with rfl | hz
      · exact hy
      · exact hys z hz⟩
theorem opens_list {α : Type} {enc : α → List AV} {ok : α → Prop} {s : Nat} (hu : P.underlying t = some (.slice e)) (hs : P.cellsOf e = s) (hs0 : 0 < s) (hb : 0 < P.bytesOf e) (ho : OpensQ P w e fun l => ∃ y, ok y ∧ l = enc y) :
    OpensQ P w t fun l => ∃ ys : List α, (ys.length * P.bytesOf e ≤ reachBytes ∧ ∀ y ∈ ys, ok y) ∧ l = [encL s enc ys] := by
  refine (opens_slice hu hs hs0 hb ho).mono ?_
  rintro l ⟨ls, rfl, h1, h2⟩
  obtain ⟨ys, rfl, hys⟩ := typed ls fun x hx => (h2 x hx).2
  refine ⟨ys, ⟨by simpa using h1, hys⟩, ?_⟩
  congr 1
  unfold encL
  rw [List.length_map]
  congr 1
  funext i j
  cases hy : ys[i]? <;> simp [List.getD_eq_getElem?_getD, hy]
/-- Fields, one behind the other. -/
def catQ : List (List AV → Prop) → List AV → Prop
  | [], l => l = []
  | Q :: Qs, l => ∃ a b, Q a ∧ catQ Qs b ∧ l = a ++ b
def fieldsQ (P : Program) (w : World) : List Field → List (List AV → Prop) → Nat → Nat → Prop
  | [], [], off, tot => off = tot
  | f :: fs, Q :: Qs, off, tot => f.offset = off ∧ OpensQ P w f.type Q ∧ fieldsQ P w fs Qs (off + P.cellsOf f.type) tot
  | _, _, _, _ => False
theorem fieldsQ_le : ∀ (fs : List Field) (Qs : List (List AV → Prop)) (off tot : Nat), fieldsQ P w fs Qs off tot → off ≤ tot
  | [], [], _, _, h => Nat.le_of_eq h
  | f :: fs, Q :: Qs, off, tot, h => Nat.le_trans (Nat.le_add_right _ _) (fieldsQ_le fs Qs _ tot h.2.2)
  | [], _ :: _, _, _, h => h.elim
  | _ :: _, [], _, _, h => h.elim
theorem fields_open {H : Type} {enc : TypeId × Value → H} {base : Nat} {sp : Nat → Bool} {held : Bool} {n : Nat} {cs : List Value} : ∀ (fs : List Field) (Qs : List (List AV → Prop)) (off : Nat) (xs : List (DataW H × List MemPlace)),
    fieldsQ P w fs Qs off cs.length → xs.length = fs.length → (∀ (i : Nat) (f : Field), fs[i]? = some f → DataW.trod enc P w base sp held n f.type ((cs.drop f.offset).take (P.cellsOf f.type)) = xs[i]?) →
    (∀ m ∈ DataW.weightsEach P (fs.map (·.type)) (xs.map (·.1)), m ≤ reachBytes) → ∃ l, catQ Qs l ∧ CellsR w (cs.drop off) l
  | [], [], off, xs, h, _, _, _ => ⟨[], rfl, by rw [show off = cs.length from h, List.drop_length]; exact CellsR.nil w⟩
  | f :: fs, Q :: Qs, off, x :: xs, h, hl, hf, hw => by
    obtain ⟨rfl, ho, h⟩ := h
    have h0 := hf 0 f rfl
    simp only [List.getElem?_cons_zero] at h0
    obtain ⟨a, ha, hra⟩ := ho H enc base sp held n _ x.1 x.2 h0 fun m hm => hw m (by simp only [List.map_cons, DataW.weightsEach, List.mem_append]; exact .inl hm)
    obtain ⟨b, hb, hrb⟩ := fields_open fs Qs _ xs h (by simpa using hl) (fun i g hg => by simpa using hf (i + 1) g (by simpa using hg)) fun m hm => hw m (by simp only [List.map_cons, DataW.weightsEach, List.mem_append]; exact .inr hm)
    refine ⟨a ++ b, ⟨a, b, ha, hb, rfl⟩, ?_⟩
    have := hra.append hrb
    rwa [← List.drop_drop, List.take_append_drop] at this
  | [], _ :: _, _, _, h, _, _, _ => h.elim
  | _ :: _, [], _, _, h, _, _, _ => h.elim
  | _ :: _, _ :: _, _, [], _, hl, _, _ => by simp at hl
theorem opens_struct {fs : Array Field} {Qs : List (List AV → Prop)} (hu : P.underlying t = some (.struct fs)) (h : fieldsQ P w fs.toList Qs 0 (P.cellsOf t)) : OpensQ P w t (catQ Qs) := by
  intro H enc base sp held fuel cs d p ht hw
  obtain ⟨xs, n, rfl, hx, hl, hlen, hf⟩ := DataW.trod_struct hu ht
  simp only [Prod.mk.injEq] at hx
  obtain ⟨rfl, _⟩ := hx
  rw [← hl] at h
  have := fields_open fs.toList Qs 0 xs h (by simpa using hlen) (fun i f hi => hf i f (by simpa using hi)) fun m hm => hw m (by simpa only [DataW.weights, hu] using hm)
  simpa using this
/-- An argument of one cell; one that is a struct. -/
theorem arg_one {Q : List AV → Prop} {H : Type} {enc : TypeId × Value → H} {base : Nat} {sp : Nat → Bool} {held : Bool} {d : DataW H} {p : List MemPlace} {v : Value} (ho : OpensQ P w t Q) (h : DataW.Trod enc P w base sp held t v d p) (hw : ∀ n ∈ d.weights P t, n ≤ reachBytes) (hv : v.oneCell' = true) :
    ∃ a, Q [a] ∧ Rd w (fun _ => none) a v := by
  obtain ⟨fuel, h⟩ := h
  obtain ⟨l, hq, hl, hr⟩ := ho H enc base sp held fuel _ d p h hw
  have hc : v.cells.toList = [v] := by cases v <;> first | rfl | cases hv
  rw [hc] at hl hr
  match l, hl with
  | [a], _ =>
    obtain ⟨x, h1, _, h3⟩ := hr 0 (by simp)
    simp at h1
    subst h1
    exact ⟨a, hq, h3⟩
theorem arg_agg {Q : List AV → Prop} {H : Type} {enc : TypeId × Value → H} {base : Nat} {sp : Nat → Bool} {held : Bool} {d : DataW H} {p : List MemPlace} {cs : Array Value} (ho : OpensQ P w t Q) (h : DataW.Trod enc P w base sp held t (.agg cs) d p) (hw : ∀ n ∈ d.weights P t, n ≤ reachBytes) :
    ∃ l, Q l ∧ Rd w (fun _ => none) (aggL l) (.agg cs) := by
  obtain ⟨fuel, h⟩ := h
  obtain ⟨l, hq, hl, hr⟩ := ho H enc base sp held fuel _ d p h hw
  refine ⟨l, hq, cs, rfl, by simpa [Value.cells] using hl, fun j hj => ?_⟩
  obtain ⟨x, h1, h2, h3⟩ := hr j hj
  exact ⟨x, by simpa [Value.cells] using h1, h2, h3⟩
end
end Go.Proofs.Ytmalhikcdideoaa

set_option linter.unusedVariables false
set_option linter.unusedSimpArgs false
namespace Go.Proofs.Ytmalhikcdideoaa
open Go Sl
attribute [local irreducible] LpQ XR XRo XRg XRQ putQ XFv XL XW2 wQ putW X XO XOp XH XHo XW SeqQ BlkQ XOQ XHQ NrmQ XC XM XG XHM XHG XD CallK
section
variable (w : World)
abbrev QI (l : List AV) : Prop := ∃ n : Int, l = [I n]
abbrev QB (l : List AV) : Prop := ∃ b : Bool, l = [B b]
abbrev QS (l : List AV) : Prop := ∃ s : ByteArray, l = [S s]
theorem c_int : Try.prog.cellsOf 3 = 1 := by kernel_rfl
theorem c_bool : Try.prog.cellsOf 4 = 1 := by kernel_rfl
theorem c_str : Try.prog.cellsOf 9 = 1 := by kernel_rfl
theorem b_int : 0 < Try.prog.bytesOf 3 := Nat.lt_of_lt_of_eq (by decide : 0 < 8) (by kernel_rfl)
theorem o_int : OpensQ Try.prog w 3 QI := (opens_int Try.underlying3).mono fun l ⟨n, _, h⟩ => ⟨n, h⟩
theorem o_bool : OpensQ Try.prog w 4 QB := opens_bool Try.underlying4
theorem o_str : OpensQ Try.prog w 9 QS := (opens_string Try.underlying9).mono fun l ⟨s, _, h⟩ => ⟨s, h⟩
abbrev Qints (l : List AV) : Prop := ∃ k : List Int, l = [encL 1 cI k]
theorem c_ints : Try.prog.cellsOf 22 = 1 := by kernel_rfl
theorem o_ints : OpensQ Try.prog w 22 Qints :=
  (opens_list (enc := cI) (ok := fun _ => True) Try.underlying22 c_int (by decide) b_int ((o_int w).mono fun l ⟨n, h⟩ => ⟨n, trivial, h⟩)).mono fun l ⟨k, _, h⟩ => ⟨k, h⟩
def cVal (v : V) : List AV := [I v.k, I v.n]
theorem c_val : Try.prog.cellsOf 29 = 2 := by kernel_rfl
theorem b_val : 0 < Try.prog.bytesOf 29 := Nat.lt_of_lt_of_eq (by decide : 0 < 16) (by kernel_rfl)
theorem o_val : OpensQ Try.prog w 29 fun l => ∃ x : V, l = cVal x := by
  have h := opens_struct (w := w) Try.underlying29 (Qs := [QI, QI]) (by
    simp only [fieldsQ, c_int, c_val]
    exact ⟨trivial, o_int w, trivial, o_int w, trivial⟩)
  refine h.mono ?_
  rintro l ⟨_, _, ⟨a, rfl⟩, ⟨_, _, ⟨b, rfl⟩, rfl, rfl⟩, rfl⟩
  exact ⟨⟨a, b⟩, rfl⟩
abbrev Qvals (l : List AV) : Prop := ∃ k : List V, l = [encL 2 cVal k]
theorem c_vals : Try.prog.cellsOf 25 = 1 := by kernel_rfl
theorem o_vals : OpensQ Try.prog w 25 Qvals :=
  (opens_list (enc := cVal) (ok := fun _ => True) Try.underlying25 c_val (by decide) b_val ((o_val w).mono fun l ⟨n, h⟩ => ⟨n, trivial, h⟩)).mono fun l ⟨k, _, h⟩ => ⟨k, h⟩
theorem c_step : Try.prog.cellsOf 67 = 2 := by kernel_rfl
theorem b_step : 0 < Try.prog.bytesOf 67 := Nat.lt_of_lt_of_eq (by decide : 0 < 16) (by kernel_rfl)
theorem o_step : OpensQ Try.prog w 67 fun l => ∃ x : Int × Int, l = cSt x := by
  have h := opens_struct (w := w) Try.underlying67 (Qs := [QI, QI]) (by
    simp only [fieldsQ, c_int, c_step]
    exact ⟨trivial, o_int w, trivial, o_int w, trivial⟩)
  refine h.mono ?_
  rintro l ⟨_, _, ⟨a, rfl⟩, ⟨_, _, ⟨b, rfl⟩, rfl, rfl⟩, rfl⟩
  exact ⟨⟨a, b⟩, rfl⟩
abbrev Qsteps (l : List AV) : Prop := ∃ k : List (Int × Int), l = [encL 2 cSt k]
theorem c_steps : Try.prog.cellsOf 42 = 1 := by kernel_rfl
theorem o_steps : OpensQ Try.prog w 42 Qsteps :=
  (opens_list (enc := cSt) (ok := fun _ => True) Try.underlying42 c_step (by decide) b_step ((o_step w).mono fun l ⟨n, h⟩ => ⟨n, trivial, h⟩)).mono fun l ⟨k, _, h⟩ => ⟨k, h⟩
theorem c_node : Try.prog.cellsOf 24 = 5 := by kernel_rfl
theorem b_node : 0 < Try.prog.bytesOf 24 := Nat.lt_of_lt_of_eq (by decide : 0 < 64) (by kernel_rfl)
theorem o_node : OpensQ Try.prog w 24 fun l => ∃ x : Nd, l = cNd x := by
  have h := opens_struct (w := w) Try.underlying24 (Qs := [QI, Qints, QI, QI, QS]) (by
    simp only [fieldsQ, c_int, c_ints, c_str, c_node]
    exact ⟨trivial, o_int w, trivial, o_ints w, trivial, o_int w, trivial, o_int w, trivial, o_str w, trivial⟩)
  refine h.mono ?_
  rintro l ⟨_, _, ⟨a, rfl⟩, ⟨_, _, ⟨b, rfl⟩, ⟨_, _, ⟨c, rfl⟩, ⟨_, _, ⟨d, rfl⟩, ⟨_, _, ⟨e, rfl⟩, rfl, rfl⟩, rfl⟩, rfl⟩, rfl⟩, rfl⟩
  exact ⟨⟨a, b, c, d, e⟩, rfl⟩
abbrev Qnodes (l : List AV) : Prop := ∃ k : List Nd, l = [encL 5 cNd k]
theorem c_nodes : Try.prog.cellsOf 36 = 1 := by kernel_rfl
theorem o_nodes : OpensQ Try.prog w 36 Qnodes :=
  (opens_list (enc := cNd) (ok := fun _ => True) Try.underlying36 c_node (by decide) b_node ((o_node w).mono fun l ⟨n, h⟩ => ⟨n, trivial, h⟩)).mono fun l ⟨k, _, h⟩ => ⟨k, h⟩
theorem c_table : Try.prog.cellsOf 44 = 5 := by kernel_rfl
theorem b_table : 0 < Try.prog.bytesOf 44 := Nat.lt_of_lt_of_eq (by decide : 0 < 64) (by kernel_rfl)
theorem o_table : OpensQ Try.prog w 44 fun l => ∃ x : Tb, l = cTb x := by
  have h := opens_struct (w := w) Try.underlying44 (Qs := [QS, QI, QI, QB, Qsteps]) (by
    simp only [fieldsQ, c_bool, c_int, c_steps, c_str, c_table]
    exact ⟨trivial, o_str w, trivial, o_int w, trivial, o_int w, trivial, o_bool w, trivial, o_steps w, trivial⟩)
  refine h.mono ?_
  rintro l ⟨_, _, ⟨a, rfl⟩, ⟨_, _, ⟨b, rfl⟩, ⟨_, _, ⟨c, rfl⟩, ⟨_, _, ⟨d, rfl⟩, ⟨_, _, ⟨e, rfl⟩, rfl, rfl⟩, rfl⟩, rfl⟩, rfl⟩, rfl⟩
  exact ⟨⟨a, b, c, d, e⟩, rfl⟩
abbrev Qtables (l : List AV) : Prop := ∃ k : List Tb, l = [encL 5 cTb k]
theorem c_tables : Try.prog.cellsOf 26 = 1 := by kernel_rfl
theorem o_tables : OpensQ Try.prog w 26 Qtables :=
  (opens_list (enc := cTb) (ok := fun _ => True) Try.underlying26 c_table (by decide) b_table ((o_table w).mono fun l ⟨n, h⟩ => ⟨n, trivial, h⟩)).mono fun l ⟨k, _, h⟩ => ⟨k, h⟩
end
end Go.Proofs.Ytmalhikcdideoaa

set_option linter.unusedVariables false
namespace Go.Proofs.Ytmalhikcdideoaa
open Go Go.ChangeShapes Go.WideShapes Go.ChangeAt Go.RowKit Sl
theorem own : ownKnob Try.prog.godebug = none := by kernel_rfl
theorem laidOut : laidOutB Try.prog = true := by kernel_rfl
theorem glob0 (W : World) : GlobH W fun _ => none := fun x hx => by cases hx
theorem evals_walk (op : Int) (x : Nd) (l : List V) (ts : List Tb) (W : World) {v0 v1 v2 v3 : Value} (h0 : Rd W (fun _ => none) (I op) v0) (h1 : Rd W (fun _ => none) (aggL (cNd x)) v1) (h2 : Rd W (fun _ => none) (encL 2 cVal l) v2) (h3 : Rd W (fun _ => none) (encL 5 cTb ts) v3) :
    Calls Try.prog 3 #[v0, v1, v2, v3] W fun e w' => e = .returned (.bool true) ∧ Below W.heap.size W w' := by
  refine (evals_ok op x.op x.kd x.n (encL 1 cI x.kids) x.nm l ts (fun _ => none) W #[v0, v1, v2, v3] ⟨fun b o hb => (by cases hb), glob0 W⟩ ⟨rfl, fun i a hi => ?_⟩).mono ?_
  · match i, hi with
    | 0, hi => cases hi; exact ⟨_, rfl, h0⟩
    | 1, hi => cases hi; exact ⟨_, rfl, h1⟩
    | 2, hi => cases hi; exact ⟨_, rfl, h2⟩
    | 3, hi => cases hi; exact ⟨_, rfl, h3⟩
    | n + 4, hi => simp at hi
  · rintro e w' ⟨u, r, h', rfl, ⟨rfl, rfl⟩, hr, _, hio, hst⟩
    exact ⟨by rw [show u = .bool true from hr], hst.below hio⟩
theorem mem_all {l : List Nat} (h : l.all (· ≤ reachBytes) = true) : ∀ n ∈ l, n ≤ reachBytes := fun n hn => by simpa using List.all_eq_true.1 h n hn
set_option maxRecDepth 100000 in
theorem lifted (os : Os) (started : os.Started) (H : Type) (enc : TypeId × Value → H) :
    ReturnsInHanded {} Try.checked os 3 .any (Rows.typesEvalsSpec.pre6 enc Try.prog Try.f3 Rows.typesEvalsRow.domain false) (Rows.typesEvalsSpec.post enc Try.prog Try.f3 false true false false) := by
  refine returnsInHanded_of_change_sized (C := Try.checked) own started (by kernel_rfl) Try.func3
    (ChangeSpec.witness6 (enc := enc) (C := Try.checked) false ⟨#[], #[.int .i64 0, .agg #[.int .i64 0, .slice none 0 0, .int .i64 0, .int .i64 0, .string ByteArray.empty], .slice none 0 0, .slice none 0 0], []⟩ 8 (by kernel_rfl) (by kernel_rfl) (by kernel_rfl) (by kernel_rfl)) ?_
  intro W base args ds gs before hval0 hW hcnd hsz0 _
  have hsz : (DataW.weightsEach Try.prog (Try.f3.params.toList ++ Rows.typesEvalsSpec.plain.varTypes Try.prog) (ds ++ gs)).all (· ≤ reachBytes) = true := hsz0
  have hval : ∀ (j : Nat) t v, Try.f3.params[j]? = some t → args[j]? = some v → Value.okWide Try.prog W .any base t v := hval0
  have hW' := hW
  obtain ⟨p, q, hA0, hV, rfl, hfz, hnd⟩ := hW
  have hA : DataW.TrodAll enc Try.prog W 0 (fun _ => true) true Try.f3.params.toList args.toList ds p := hA0
  rw [Try.params3] at hA hval hsz
  obtain ⟨v0, vs0, d0, ds0, p0, q0, hargs, rfl, rfl, t0, r0⟩ := trodAll_cons hA
  obtain ⟨v1, vs1, d1, ds1, p1, q1, rfl, rfl, rfl, t1, r1⟩ := trodAll_cons r0
  obtain ⟨v2, vs2, d2, ds2, p2, q2, rfl, rfl, rfl, t2, r2⟩ := trodAll_cons r1
  obtain ⟨v3, vs3, d3, ds3, p3, q3, rfl, rfl, rfl, t3, r3⟩ := trodAll_cons r2
  obtain ⟨rfl, rfl, rfl⟩ := trodAll_nil r3
  obtain rfl : args = #[v0, v1, v2, v3] := by cases args; simp_all
  obtain ⟨rfl, rfl⟩ := trodVars_none hV
  have hs := mem_all hsz
  have w0 : ∀ n ∈ d0.weights Try.prog 3, n ≤ reachBytes := fun n hn => hs n (by simp only [List.cons_append, List.nil_append, DataW.weightsEach, List.mem_append]; exact .inl hn)
  have w1 : ∀ n ∈ d1.weights Try.prog 24, n ≤ reachBytes := fun n hn => hs n (by simp only [List.cons_append, List.nil_append, DataW.weightsEach, List.mem_append]; exact .inr (.inl hn))
  have w2 : ∀ n ∈ d2.weights Try.prog 25, n ≤ reachBytes := fun n hn => hs n (by simp only [List.cons_append, List.nil_append, DataW.weightsEach, List.mem_append]; exact .inr (.inr (.inl hn)))
  have w3 : ∀ n ∈ d3.weights Try.prog 26, n ≤ reachBytes := fun n hn => hs n (by simp only [List.cons_append, List.nil_append, DataW.weightsEach, List.mem_append]; exact .inr (.inr (.inr (.inl hn))))
  obtain ⟨n0, e0⟩ := okWide_int Try.underlying3 (hval 0 3 v0 rfl rfl)
  obtain ⟨c1, e1, _⟩ := okWide_struct Try.underlying24 (hval 1 _ v1 rfl rfl)
  obtain ⟨a2, l2, b2, e2⟩ := okWide_slice Try.underlying25 (hval 2 _ v2 rfl rfl)
  obtain ⟨a3, l3, b3, e3⟩ := okWide_slice Try.underlying26 (hval 3 _ v3 rfl rfl)
  obtain ⟨x0, ⟨op, o0⟩, y0⟩ := arg_one (o_int W) t0 w0 (by rw [e0]; rfl)
  obtain ⟨x1, ⟨nd, o1⟩, y1⟩ := arg_agg (o_node W) (e1 ▸ t1) w1
  obtain ⟨x2, ⟨l, o2⟩, y2⟩ := arg_one (o_vals W) t2 w2 (by rw [e2]; rfl)
  obtain ⟨x3, ⟨ts, o3⟩, y3⟩ := arg_one (o_tables W) t3 w3 (by rw [e3]; rfl)
  obtain rfl : x0 = I op := by simpa using o0
  obtain rfl : x2 = encL 2 cVal l := by simpa using o2
  obtain rfl : x3 = encL 5 cTb ts := by simpa using o3
  subst o1
  clear hA0 hval0 hsz0 hsz
  have lt : ∀ {t : TypeId} {v : Value} {d : DataW H} {p : List MemPlace}, DataW.Trod enc Try.prog W 0 (fun _ => true) true t v d p → ∀ x ∈ p, x.block < W.heap.size := fun k => by obtain ⟨m, hm⟩ := k; exact DataW.trod_lt m _ _ _ hm
  refine (evals_walk op nd l ts W y0 (e1 ▸ y1) y2 y3).mono fun e W' ⟨he, bel⟩ => ?_
  subst he
  exact ⟨_, rfl, _, _, _, [], _, [], hW', trodAll_mk1 (shut_bool Try.underlying4 _), (trodAll_cons_mk (Below.trod laidOut (by kernel_rfl) (of_decide_eq_true (by kernel_rfl)) t0 bel (lt t0)) (trodAll_cons_mk (Below.trod laidOut (by kernel_rfl) (of_decide_eq_true (by kernel_rfl)) t1 bel (lt t1)) (trodAll_cons_mk (Below.trod laidOut (by kernel_rfl) (of_decide_eq_true (by kernel_rfl)) t2 bel (lt t2)) (trodAll_cons_mk (Below.trod laidOut (by kernel_rfl) (of_decide_eq_true (by kernel_rfl)) t3 bel (lt t3)) trodAll_mk0)))), rfl, bel.frame _, fun h => by cases h⟩
theorem typesEvals_holds : Rows.TypesEvalsSaid :=
  OpenClaim.holds_of_wide 3 Try.f3 rfl rfl rfl rfl rfl rfl rfl ⟨rfl, rfl, rfl, rfl, rfl⟩ rfl rfl rfl rfl rfl (by kernel_rfl) Try.func3 (by kernel_rfl)
    (of_decide_eq_true (by kernel_rfl)) (by unfold Func.isWrapper; first | (rw [if_pos (by decide +kernel)]; kernel_rfl) | (rw [if_neg (by decide +kernel)]; exact ⟨rfl, rfl⟩))
    (fun os started H enc _ => lifted os started H enc)
end Go.Proofs.Ytmalhikcdideoaa
