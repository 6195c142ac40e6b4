/- tree.one, given what word.Name says. fact.Name. The packages day and cash: years between days; rounding. day.Years; cash.Round. The package table: Check, slices, At. The package table: slices, At. The package table: At. The plain law of TypesEvals: what the program computes of checked values is what the reference computes. types.strict, by operation; types.kind, types.logic, types.strict for all o -/
import Derived.Test.YtmalhikcdideoaaZ0
import Derived.Test.YtmalhikcdideoaaSlV
set_option linter.unusedVariables false
set_option linter.unusedSimpArgs false
namespace Go.Proofs.Ytmalhikcdideoaa
open Go Sl
attribute [local irreducible] LpQ XR XRo XRg XRQ putQ XFv XL XW2 wQ putW X XO XOp XH XHo XW SeqQ BlkQ XOQ XHQ NrmQ XC XM XG XHM XHG XD CallK
set_option maxRecDepth 100000
theorem idxfC_ok {h : Hp} (g : FuncId) (hc : callable Try.prog g = true) (caps : List Value) (p : Int → Bool) (hp : ∀ x, PureAt Try.prog h g ([I x] ++ caps.map .v) (B (p x))) (l : List Int) : PureAt Try.prog h 81 [encL 1 cI l, .v (.func (.func g) #[] caps.toArray)] (I (fIdx p l 0)) := by
  generalize hR : fIdx p l 0 = R
  unfold PureAt
  refine CallK.lens fun hlen => ?_; have hlen := (hlen _ (by simp only [List.mem_cons, true_or, or_true] : (encL 1 cI l) ∈ _)).encL; refine callK_body Try.func81 rfl (by rw [nt81]; simp) ?_; rw [nt81, rs81]
  (repeat' (first | simp [go_sem, X_region, *] | simp (disch := omega) only [om, *] | ((first | refine XC_split ?_ ?_ | refine XG_true ?_ ?_ | refine XG_false ?_ ?_ | refine XRg_true ?_ ?_ | refine XRg_false ?_ ?_) <;> intro hc <;> (try simp only [bl] at hc) <;> (try (exfalso; omega))) | refine XD_w [] [] [] (fun _ => none) mixed (by decide +kernel) (sub_none _) ?_ | fail))
  refine X_lpF (fun i => (4 ≤ i ∧ i ≤ 5) ∨ (8 ≤ i ∧ i ≤ 18)) (fun n T h' => ∃ (i : Nat) (r : List Int), n = r.length ∧ i ≤ l.length ∧ l.drop i = r ∧ T 8 = I i ∧ fIdx p r i = R ∧ h' = h) l.length ⟨0, l, by simp [go_sem, hR]⟩ ?_
  clear hR; rintro J hJ n T h' hfr ⟨i, r, rfl, hi, hd, h8, hR, rfl⟩
  rcases r with _ | ⟨x, r⟩
  · have hlt := drop_nil hd
    subst hR
    (repeat' (first | simp [go_sem, X_region, *] | simp (disch := omega) only [om, *] | ((first | refine XC_split ?_ ?_ | refine XG_true ?_ ?_ | refine XG_false ?_ ?_ | refine XRg_true ?_ ?_ | refine XRg_false ?_ ?_) <;> intro hc <;> (try simp only [bl] at hc) <;> (try (exfalso; omega))) | refine XD_w [] [] [] (fun _ => none) mixed (by decide +kernel) (sub_none _) ?_ | fail))
    all_goals exact Wk.refl _ _
  · obtain ⟨hlt, hx, hd2⟩ := drop_cons hd
    have hpx := hp x
    rw [fIdx] at hR
    cases he : p x
    · rw [he] at hpx
      rw [he, if_neg (by simp)] at hR
      (repeat' (first | simp [go_sem, X_region, *] | simp (disch := omega) only [om, *] | ((first | refine XC_split ?_ ?_ | refine XG_true ?_ ?_ | refine XG_false ?_ ?_ | refine XRg_true ?_ ?_ | refine XRg_false ?_ ?_) <;> intro hc <;> (try simp only [bl] at hc) <;> (try (exfalso; omega))) | refine XD_w [] [] [] (fun _ => none) mixed (by decide +kernel) (sub_none _) ?_ | refine Pure.call (hpx) ?_ | refine ⟨_, Pure.at (hpx), ?_⟩ | refine ⟨_, hpx, ?_⟩ | refine PureAt.call (hpx) ?_ | fail))
      exact ⟨_, Nat.lt_succ_self _, hJ.out _ _ _ ⟨(by (repeat (refine fr_upd (by decide) ?_)); exact hfr), i + 1, r, rfl, by omega, hd2, by simp [go_sem, *], hR, rfl⟩⟩
    · rw [he] at hpx
      rw [he, if_pos rfl] at hR
      subst hR
      (repeat' (first | simp [go_sem, X_region, *] | simp (disch := omega) only [om, *] | ((first | refine XC_split ?_ ?_ | refine XG_true ?_ ?_ | refine XG_false ?_ ?_ | refine XRg_true ?_ ?_ | refine XRg_false ?_ ?_) <;> intro hc <;> (try simp only [bl] at hc) <;> (try (exfalso; omega))) | refine XD_w [] [] [] (fun _ => none) mixed (by decide +kernel) (sub_none _) ?_ | refine Pure.call (hpx) ?_ | refine ⟨_, Pure.at (hpx), ?_⟩ | refine ⟨_, hpx, ?_⟩ | refine PureAt.call (hpx) ?_ | fail))
      all_goals exact Wk.refl _ _
theorem cfunC_ok {h : Hp} (g : FuncId) (hc : callable Try.prog g = true) (caps : List Value) (p : Int → Bool) (hp : ∀ x, PureAt Try.prog h g ([I x] ++ caps.map .v) (B (p x))) (l : List Int) : PureAt Try.prog h 70 [encL 1 cI l, .v (.func (.func g) #[] caps.toArray)] (B (l.any p)) := by
  unfold PureAt
  refine callK_body Try.func70 rfl (by rw [nt70]; simp) ?_; rw [nt70, rs70]
  rw [← fIdx_ge p l 0 (by omega)]
  have hi := idxfC_ok g hc caps p hp l
  generalize fIdx p l 0 = q at *
  ((repeat' (first | simp [go_sem, X_region, *] | simp (disch := omega) only [om, *] | ((first | refine XC_split ?_ ?_ | refine XG_true ?_ ?_ | refine XG_false ?_ ?_ | refine XRg_true ?_ ?_ | refine XRg_false ?_ ?_) <;> intro hc <;> (try simp only [bl] at hc) <;> (try (exfalso; omega))) | refine XD_w [] [] [] (fun _ => none) mixed (by decide +kernel) (sub_none _) ?_ | refine Pure.call (hi) ?_ | refine ⟨_, Pure.at (hi), ?_⟩ | refine ⟨_, hi, ?_⟩ | refine PureAt.call (hi) ?_ | (intro bk hbk; (try simp only [go_sem] at hbk)))); all_goals (refine Wk.fin (by repeat (first | exact Sub.refl _ | refine Sub.upd (by simp [*]) ?_)) ?_; first | (simp [*]; done) | (simp only []; (repeat' (first | split | rfl | omega | (simp_all; done))); done) | (simp [*]; (repeat' (first | split | omega | (rw [Bool.eq_iff_iff]; simp; omega))); done) | (simp [*])))
theorem onefar_ok {h : Hp} {b : Nat} {o : Ob} {i : Int} (hb : h b = some o) (h1 : o.s = 1) (h2 : o.n = 1) (h4 : o.f 0 0 = I i) (k : Int) : PureAt Try.prog h 73 [I k, .v (.pointer (some ⟨b, 0, none⟩))] (B (decide (k < 0 ∨ i ≤ k))) := by
  unfold PureAt
  refine callK_body Try.func73 rfl (by rw [nt73]; simp) ?_; rw [nt73, rs73]
  ((repeat' (first | simp [go_sem, X_region, *] | simp (disch := omega) only [om, *] | ((first | refine XC_split ?_ ?_ | refine XG_true ?_ ?_ | refine XG_false ?_ ?_ | refine XRg_true ?_ ?_ | refine XRg_false ?_ ?_) <;> intro hc <;> (try simp only [bl] at hc) <;> (try (exfalso; omega))) | refine XD_w [] [] [] (fun _ => none) mixed (by decide +kernel) (sub_none _) ?_ | (intro bk hbk; (try simp only [go_sem] at hbk)))); all_goals (refine Wk.fin (by repeat (first | exact Sub.refl _ | refine Sub.upd (by simp [*]) ?_)) ?_; first | (simp [*]; done) | (simp only []; (repeat' (first | split | rfl | omega | (simp_all; done))); done) | (simp [*]; (repeat' (first | split | omega | (rw [Bool.eq_iff_iff]; simp; omega))); done) | (simp [*])))
theorem far_ok {h : Hp} {b : Nat} {o : Ob} {i : Int} (hb : h b = some o) (h1 : o.s = 1) (h2 : o.n = 1) (h4 : o.f 0 0 = I i) (l : List Int) :
    PureAt Try.prog h 70 [encL 1 cI l, .v (.func (.func 73) #[] #[.pointer (some ⟨b, 0, none⟩)])] (B (l.any fun k => decide (k < 0 ∨ i ≤ k))) :=
  cfunC_ok 73 (by simp [go_sem]) [.pointer (some ⟨b, 0, none⟩)] _ (onefar_ok hb h1 h2 h4) l
def namedB (op : Int) : Bool := decide (op = 1 ∨ op = 2 ∨ op = 3 ∨ op = 16)
theorem named_ok (op : Int) : Pure Try.prog 74 [I op] (B (namedB op)) := by
  intro h; refine callK_body Try.func74 rfl (by rw [nt74]; simp) ?_; rw [nt74, rs74]
  ((repeat' (first | simp [go_sem, X_region, *] | simp (disch := omega) only [om, *] | ((first | refine XC_split ?_ ?_ | refine XG_true ?_ ?_ | refine XG_false ?_ ?_ | refine XRg_true ?_ ?_ | refine XRg_false ?_ ?_) <;> intro hc <;> (try simp only [bl] at hc) <;> (try (exfalso; omega))) | refine XD_w [] [] [] (fun _ => none) mixed (by decide +kernel) (sub_none _) ?_ | (intro bk hbk; (try simp only [go_sem] at hbk)))); all_goals (refine Wk.fin (by repeat (first | exact Sub.refl _ | refine Sub.upd (by simp [*]) ?_)) ?_; first | (simp [namedB, *]; done) | (simp only [namedB]; (repeat' (first | split | rfl | omega | (simp_all; done))); done) | (simp [namedB, *]; (repeat' (first | split | omega | (rw [Bool.eq_iff_iff]; simp; omega))); done) | (simp [namedB, *])))
def oneE (nameB : ByteArray → Bool) (x : Nd) (i : Nat) : Int :=
  if ar x.op < 0 then 1 else if (x.kids.length : Int) ≠ ar x.op then 3 else if (x.kids.any fun k => decide (k < 0 ∨ (i : Int) ≤ k)) = true then 3
  else if (x.op ≠ 0 ∧ x.op ≠ 17 ∧ (x.kd ≠ 0 ∨ x.n ≠ 0)) ∨ (namedB x.op = false ∧ x.nm ≠ ⟨#[]⟩) then 3
  else if x.op = 0 ∧ x.kd = 0 then 8 else if x.op = 0 then checkV ⟨x.kd, x.n⟩ else if x.op = 17 ∧ (x.kd < 0 ∨ 5 ≤ x.kd ∨ x.n < 1 ∨ 1099511627776 < x.n) then 1
  else if namedB x.op = true ∧ nameB x.nm = false then 15 else 0
set_option maxHeartbeats 4000000 in
theorem tone_ok (nameB : ByteArray → Bool) (x : Nd) (hn : namedB x.op = true → Pure Try.prog 75 [S x.nm] (B (nameB x.nm))) (i : Nat) :
    Pure Try.prog 55 [aggL (cNd x), I i] (I (oneE nameB x i)) := by
  generalize hR : oneE nameB x i = R
  unfold oneE at hR
  rcases x with ⟨op, kids, kd, n, nm⟩
  simp only [cNd] at *
  have hk := kids_ok op
  change Pure Try.prog 9 [I op] (I (ar op)) at hk
  have hnm := named_ok op
  have hck := checkV_ok ⟨kd, n⟩
  simp only [encV] at hck
  have hfar := fun (h : Hp) (b : Nat) (ob : Ob) => far_ok (h := h) (b := b) (o := ob) (i := (i : Int))
  intro h; refine callK_body Try.func55 rfl (by rw [nt55]; simp) ?_; rw [nt55, rs55]
  by_cases q1 : ar op < 0
  · rw [if_pos q1] at hR
    subst hR
    ((repeat' (first | simp [go_sem, X_region, *] | simp (disch := omega) only [om, *] | ((first | refine XC_split ?_ ?_ | refine XG_true ?_ ?_ | refine XG_false ?_ ?_ | refine XRg_true ?_ ?_ | refine XRg_false ?_ ?_) <;> intro hc <;> (try simp only [bl] at hc) <;> (try (exfalso; omega))) | refine XD_w [] [] [] (fun _ => none) mixed (by decide +kernel) (sub_none _) ?_ | refine Pure.call (hk) ?_ | refine ⟨_, Pure.at (hk), ?_⟩ | refine ⟨_, hk, ?_⟩ | refine PureAt.call (hk) ?_ | (intro bk hbk; (try simp only [go_sem] at hbk)))); all_goals (refine Wk.fin (by repeat (first | exact Sub.refl _ | refine Sub.upd (by simp [*]) ?_)) ?_; first | (simp [*]; done) | (simp only []; (repeat' (first | split | rfl | omega | (simp_all; done))); done) | (simp [*]; (repeat' (first | split | omega | (rw [Bool.eq_iff_iff]; simp; omega))); done) | (simp [*])))
  rw [if_neg q1] at hR
  by_cases q2 : (kids.length : Int) = ar op
  case neg =>
    rw [if_pos q2] at hR
    subst hR
    ((repeat' (first | simp [go_sem, X_region, *] | simp (disch := omega) only [om, *] | ((first | refine XC_split ?_ ?_ | refine XG_true ?_ ?_ | refine XG_false ?_ ?_ | refine XRg_true ?_ ?_ | refine XRg_false ?_ ?_) <;> intro hc <;> (try simp only [bl] at hc) <;> (try (exfalso; omega))) | refine XD_w [] [] [] (fun _ => none) mixed (by decide +kernel) (sub_none _) ?_ | refine Pure.call (hk) ?_ | refine ⟨_, Pure.at (hk), ?_⟩ | refine ⟨_, hk, ?_⟩ | refine PureAt.call (hk) ?_ | (intro bk hbk; (try simp only [go_sem] at hbk)))); all_goals (refine Wk.fin (by repeat (first | exact Sub.refl _ | refine Sub.upd (by simp [*]) ?_)) ?_; first | (simp [*]; done) | (simp only []; (repeat' (first | split | rfl | omega | (simp_all; done))); done) | (simp [*]; (repeat' (first | split | omega | (rw [Bool.eq_iff_iff]; simp; omega))); done) | (simp [*])))
  rw [if_neg (fun h => h q2)] at hR
  have hk0 : 0 ≤ ar op := by omega
  have hkl : ((kids.length : Nat) : Int) = ar op := q2
  cases q3 : kids.any fun k => decide (k < 0 ∨ (i : Int) ≤ k)
  case true =>
    rw [q3, if_pos rfl] at hR
    subst hR
    have hf : ∀ (h : Hp) (b : Nat) (ob : Ob), h b = some ob → ob.s = 1 → ob.n = 1 → ob.f 0 0 = I (i : Int) → PureAt Try.prog h 70 [encL 1 cI kids, .v (.func (.func 73) #[] #[.pointer (some ⟨b, 0, none⟩)])] (B true) := fun h b ob a1 a2 a3 a4 => by rw [← q3]; exact hfar h b ob a1 a2 a3 a4 kids
    (repeat' (first | simp [go_sem, X_region, *] | simp (disch := omega) only [om, *] | ((first | refine XC_split ?_ ?_ | refine XG_true ?_ ?_ | refine XG_false ?_ ?_ | refine XRg_true ?_ ?_ | refine XRg_false ?_ ?_) <;> intro hc <;> (try simp only [bl] at hc) <;> (try (exfalso; omega))) | refine XD_w [] [] [] (fun _ => none) mixed (by decide +kernel) (sub_none _) ?_ | refine Pure.call (hk) ?_ | refine ⟨_, Pure.at (hk), ?_⟩ | refine ⟨_, hk, ?_⟩ | refine PureAt.call (hk) ?_ | fail))
    intro b2 hb2 b3 n1 n2 hb3
    (repeat' (first | simp [go_sem, X_region, *] | simp (disch := omega) only [om, *] | ((first | refine XC_split ?_ ?_ | refine XG_true ?_ ?_ | refine XG_false ?_ ?_ | refine XRg_true ?_ ?_ | refine XRg_false ?_ ?_) <;> intro hc <;> (try simp only [bl] at hc) <;> (try (exfalso; omega))) | refine XD_w [] [] [] (fun _ => none) mixed (by decide +kernel) (sub_none _) ?_ | refine Pure.call (hk) ?_ | refine ⟨_, Pure.at (hk), ?_⟩ | refine ⟨_, hk, ?_⟩ | refine PureAt.call (hk) ?_ | refine Pure.call (hf _ b3 _ (upd_same _ _ _) rfl rfl rfl) ?_ | refine ⟨_, Pure.at (hf _ b3 _ (upd_same _ _ _) rfl rfl rfl), ?_⟩ | refine ⟨_, hf _ b3 _ (upd_same _ _ _) rfl rfl rfl, ?_⟩ | refine PureAt.call (hf _ b3 _ (upd_same _ _ _) rfl rfl rfl) ?_ | fail))
    all_goals exact Wk.fin (by repeat (first | exact Sub.refl _ | refine Sub.upd (by simp [*]) ?_)) rfl
  rw [q3, if_neg (by simp)] at hR
  have hf : ∀ (h : Hp) (b : Nat) (ob : Ob), h b = some ob → ob.s = 1 → ob.n = 1 → ob.f 0 0 = I (i : Int) → PureAt Try.prog h 70 [encL 1 cI kids, .v (.func (.func 73) #[] #[.pointer (some ⟨b, 0, none⟩)])] (B false) := fun h b ob a1 a2 a3 a4 => by rw [← q3]; exact hfar h b ob a1 a2 a3 a4 kids
  clear hfar q3
  have e1 : ∀ k : Int, (I k = I R) = (k = R) := fun k => by simp
  rcases (show op = 0 ∨ op = 17 ∨ (op ≠ 0 ∧ op ≠ 17) by omega) with rfl | rfl | ⟨p1, p2⟩
  · have hnb : namedB 0 = false := by decide
    rw [hnb] at hnm hR
    clear hnb
    simp only [ne_eq, not_true, false_and, true_and, if_true, false_or, Bool.false_eq_true] at hR
    (repeat' (first | simp [go_sem, X_region, *] | simp (disch := omega) only [om, *] | ((first | refine XC_split ?_ ?_ | refine XG_true ?_ ?_ | refine XG_false ?_ ?_ | refine XRg_true ?_ ?_ | refine XRg_false ?_ ?_) <;> intro hc <;> (try simp only [bl] at hc) <;> (try (exfalso; omega))) | refine XD_w [] [] [] (fun _ => none) mixed (by decide +kernel) (sub_none _) ?_ | refine Pure.call (hk) ?_ | refine ⟨_, Pure.at (hk), ?_⟩ | refine ⟨_, hk, ?_⟩ | refine PureAt.call (hk) ?_ | fail))
    intro b2 hb2 b3 n1 n2 hb3
    (repeat' (first | simp [go_sem, X_region, *] | simp (disch := omega) only [om, *] | ((first | refine XC_split ?_ ?_ | refine XG_true ?_ ?_ | refine XG_false ?_ ?_ | refine XRg_true ?_ ?_ | refine XRg_false ?_ ?_) <;> intro hc <;> (try simp only [bl] at hc) <;> (try (exfalso; omega))) | refine XD_w [] [] [] (fun _ => none) mixed (by decide +kernel) (sub_none _) ?_ | refine Pure.call (hk) ?_ | refine ⟨_, Pure.at (hk), ?_⟩ | refine ⟨_, hk, ?_⟩ | refine PureAt.call (hk) ?_ | refine Pure.call (hf _ b3 _ (upd_same _ _ _) rfl rfl rfl) ?_ | refine ⟨_, Pure.at (hf _ b3 _ (upd_same _ _ _) rfl rfl rfl), ?_⟩ | refine ⟨_, hf _ b3 _ (upd_same _ _ _) rfl rfl rfl, ?_⟩ | refine PureAt.call (hf _ b3 _ (upd_same _ _ _) rfl rfl rfl) ?_ | refine Pure.call (hnm) ?_ | refine ⟨_, Pure.at (hnm), ?_⟩ | refine ⟨_, hnm, ?_⟩ | refine PureAt.call (hnm) ?_ | refine Pure.call (hck) ?_ | refine ⟨_, Pure.at (hck), ?_⟩ | refine ⟨_, hck, ?_⟩ | refine PureAt.call (hck) ?_ | fail))
    all_goals (refine Wk.fin (by repeat (first | exact Sub.refl _ | refine Sub.upd (by simp [*]) ?_)) ?_; rw [e1, ← hR]; simp [*])
  · have hnb : namedB 17 = false := by decide
    rw [hnb] at hnm hR
    clear hnb hck
    simp only [ne_eq, not_true, false_and, and_false, true_and, if_false, false_or, Bool.false_eq_true, Int.reduceEq] at hR
    (repeat' (first | simp [go_sem, X_region, *] | simp (disch := omega) only [om, *] | ((first | refine XC_split ?_ ?_ | refine XG_true ?_ ?_ | refine XG_false ?_ ?_ | refine XRg_true ?_ ?_ | refine XRg_false ?_ ?_) <;> intro hc <;> (try simp only [bl] at hc) <;> (try (exfalso; omega))) | refine XD_w [] [] [] (fun _ => none) mixed (by decide +kernel) (sub_none _) ?_ | refine Pure.call (hk) ?_ | refine ⟨_, Pure.at (hk), ?_⟩ | refine ⟨_, hk, ?_⟩ | refine PureAt.call (hk) ?_ | fail))
    intro b2 hb2 b3 n1 n2 hb3
    (repeat' (first | simp [go_sem, X_region, *] | simp (disch := omega) only [om, *] | ((first | refine XC_split ?_ ?_ | refine XG_true ?_ ?_ | refine XG_false ?_ ?_ | refine XRg_true ?_ ?_ | refine XRg_false ?_ ?_) <;> intro hc <;> (try simp only [bl] at hc) <;> (try (exfalso; omega))) | refine XD_w [] [] [] (fun _ => none) mixed (by decide +kernel) (sub_none _) ?_ | refine Pure.call (hk) ?_ | refine ⟨_, Pure.at (hk), ?_⟩ | refine ⟨_, hk, ?_⟩ | refine PureAt.call (hk) ?_ | refine Pure.call (hf _ b3 _ (upd_same _ _ _) rfl rfl rfl) ?_ | refine ⟨_, Pure.at (hf _ b3 _ (upd_same _ _ _) rfl rfl rfl), ?_⟩ | refine ⟨_, hf _ b3 _ (upd_same _ _ _) rfl rfl rfl, ?_⟩ | refine PureAt.call (hf _ b3 _ (upd_same _ _ _) rfl rfl rfl) ?_ | refine Pure.call (hnm) ?_ | refine ⟨_, Pure.at (hnm), ?_⟩ | refine ⟨_, hnm, ?_⟩ | refine PureAt.call (hnm) ?_ | fail))
    all_goals (refine Wk.fin (by repeat (first | exact Sub.refl _ | refine Sub.upd (by simp [*]) ?_)) ?_; rw [e1, ← hR]; first | (simp [*]; done) | (repeat' split <;> first | rfl | omega))
  · simp only [ne_eq, p1, p2, not_false_eq_true, true_and, false_and, if_false] at hR
    cases hnb : namedB op
    · rw [hnb] at hnm hR
      clear hnb hn hck
      simp only [true_and, Bool.false_eq_true, false_and, if_false] at hR
      (repeat' (first | simp [go_sem, X_region, *] | simp (disch := omega) only [om, *] | ((first | refine XC_split ?_ ?_ | refine XG_true ?_ ?_ | refine XG_false ?_ ?_ | refine XRg_true ?_ ?_ | refine XRg_false ?_ ?_) <;> intro hc <;> (try simp only [bl] at hc) <;> (try (exfalso; omega))) | refine XD_w [] [] [] (fun _ => none) mixed (by decide +kernel) (sub_none _) ?_ | refine Pure.call (hk) ?_ | refine ⟨_, Pure.at (hk), ?_⟩ | refine ⟨_, hk, ?_⟩ | refine PureAt.call (hk) ?_ | fail))
      intro b2 hb2 b3 n1 n2 hb3
      (repeat' (first | simp [go_sem, X_region, *] | simp (disch := omega) only [om, *] | ((first | refine XC_split ?_ ?_ | refine XG_true ?_ ?_ | refine XG_false ?_ ?_ | refine XRg_true ?_ ?_ | refine XRg_false ?_ ?_) <;> intro hc <;> (try simp only [bl] at hc) <;> (try (exfalso; omega))) | refine XD_w [] [] [] (fun _ => none) mixed (by decide +kernel) (sub_none _) ?_ | refine Pure.call (hk) ?_ | refine ⟨_, Pure.at (hk), ?_⟩ | refine ⟨_, hk, ?_⟩ | refine PureAt.call (hk) ?_ | refine Pure.call (hf _ b3 _ (upd_same _ _ _) rfl rfl rfl) ?_ | refine ⟨_, Pure.at (hf _ b3 _ (upd_same _ _ _) rfl rfl rfl), ?_⟩ | refine ⟨_, hf _ b3 _ (upd_same _ _ _) rfl rfl rfl, ?_⟩ | refine PureAt.call (hf _ b3 _ (upd_same _ _ _) rfl rfl rfl) ?_ | refine Pure.call (hnm) ?_ | refine ⟨_, Pure.at (hnm), ?_⟩ | refine ⟨_, hnm, ?_⟩ | refine PureAt.call (hnm) ?_ | fail))
      all_goals (refine Wk.fin (by repeat (first | exact Sub.refl _ | refine Sub.upd (by simp [*]) ?_)) ?_; rw [e1, ← hR]; first | (simp [*]; done) | (repeat' split <;> first | rfl | omega))
    · rw [hnb] at hnm hR
      have hn := hn hnb
      clear hnb hck
      generalize nameB nm = nb at *
      simp only [true_and, Bool.true_eq_false, false_and, or_false] at hR
      cases nb
      · (repeat' (first | simp [go_sem, X_region, *] | simp (disch := omega) only [om, *] | ((first | refine XC_split ?_ ?_ | refine XG_true ?_ ?_ | refine XG_false ?_ ?_ | refine XRg_true ?_ ?_ | refine XRg_false ?_ ?_) <;> intro hc <;> (try simp only [bl] at hc) <;> (try (exfalso; omega))) | refine XD_w [] [] [] (fun _ => none) mixed (by decide +kernel) (sub_none _) ?_ | refine Pure.call (hk) ?_ | refine ⟨_, Pure.at (hk), ?_⟩ | refine ⟨_, hk, ?_⟩ | refine PureAt.call (hk) ?_ | fail))
        intro b2 hb2 b3 n1 n2 hb3
        (repeat' (first | simp [go_sem, X_region, *] | simp (disch := omega) only [om, *] | ((first | refine XC_split ?_ ?_ | refine XG_true ?_ ?_ | refine XG_false ?_ ?_ | refine XRg_true ?_ ?_ | refine XRg_false ?_ ?_) <;> intro hc <;> (try simp only [bl] at hc) <;> (try (exfalso; omega))) | refine XD_w [] [] [] (fun _ => none) mixed (by decide +kernel) (sub_none _) ?_ | refine Pure.call (hk) ?_ | refine ⟨_, Pure.at (hk), ?_⟩ | refine ⟨_, hk, ?_⟩ | refine PureAt.call (hk) ?_ | refine Pure.call (hf _ b3 _ (upd_same _ _ _) rfl rfl rfl) ?_ | refine ⟨_, Pure.at (hf _ b3 _ (upd_same _ _ _) rfl rfl rfl), ?_⟩ | refine ⟨_, hf _ b3 _ (upd_same _ _ _) rfl rfl rfl, ?_⟩ | refine PureAt.call (hf _ b3 _ (upd_same _ _ _) rfl rfl rfl) ?_ | refine Pure.call (hnm) ?_ | refine ⟨_, Pure.at (hnm), ?_⟩ | refine ⟨_, hnm, ?_⟩ | refine PureAt.call (hnm) ?_ | refine Pure.call (hn) ?_ | refine ⟨_, Pure.at (hn), ?_⟩ | refine ⟨_, hn, ?_⟩ | refine PureAt.call (hn) ?_ | fail))
        all_goals (refine Wk.fin (by repeat (first | exact Sub.refl _ | refine Sub.upd (by simp [*]) ?_)) ?_; rw [e1, ← hR]; first | (simp [*]; done) | (repeat' split <;> first | rfl | omega))
      · (repeat' (first | simp [go_sem, X_region, *] | simp (disch := omega) only [om, *] | ((first | refine XC_split ?_ ?_ | refine XG_true ?_ ?_ | refine XG_false ?_ ?_ | refine XRg_true ?_ ?_ | refine XRg_false ?_ ?_) <;> intro hc <;> (try simp only [bl] at hc) <;> (try (exfalso; omega))) | refine XD_w [] [] [] (fun _ => none) mixed (by decide +kernel) (sub_none _) ?_ | refine Pure.call (hk) ?_ | refine ⟨_, Pure.at (hk), ?_⟩ | refine ⟨_, hk, ?_⟩ | refine PureAt.call (hk) ?_ | fail))
        intro b2 hb2 b3 n1 n2 hb3
        (repeat' (first | simp [go_sem, X_region, *] | simp (disch := omega) only [om, *] | ((first | refine XC_split ?_ ?_ | refine XG_true ?_ ?_ | refine XG_false ?_ ?_ | refine XRg_true ?_ ?_ | refine XRg_false ?_ ?_) <;> intro hc <;> (try simp only [bl] at hc) <;> (try (exfalso; omega))) | refine XD_w [] [] [] (fun _ => none) mixed (by decide +kernel) (sub_none _) ?_ | refine Pure.call (hk) ?_ | refine ⟨_, Pure.at (hk), ?_⟩ | refine ⟨_, hk, ?_⟩ | refine PureAt.call (hk) ?_ | refine Pure.call (hf _ b3 _ (upd_same _ _ _) rfl rfl rfl) ?_ | refine ⟨_, Pure.at (hf _ b3 _ (upd_same _ _ _) rfl rfl rfl), ?_⟩ | refine ⟨_, hf _ b3 _ (upd_same _ _ _) rfl rfl rfl, ?_⟩ | refine PureAt.call (hf _ b3 _ (upd_same _ _ _) rfl rfl rfl) ?_ | refine Pure.call (hnm) ?_ | refine ⟨_, Pure.at (hnm), ?_⟩ | refine ⟨_, hnm, ?_⟩ | refine PureAt.call (hnm) ?_ | refine Pure.call (hn) ?_ | refine ⟨_, Pure.at (hn), ?_⟩ | refine ⟨_, hn, ?_⟩ | refine PureAt.call (hn) ?_ | fail))
        all_goals (refine Wk.fin (by repeat (first | exact Sub.refl _ | refine Sub.upd (by simp [*]) ?_)) ?_; rw [e1, ← hR]; first | (simp [*]; done) | (repeat' split <;> first | rfl | omega))
end Go.Proofs.Ytmalhikcdideoaa

set_option linter.unusedVariables false
set_option linter.unusedSimpArgs false
namespace Go.Proofs.Ytmalhikcdideoaa
open Go Sl
attribute [local irreducible] LpQ XR XRo XRg XRQ putQ XFv XL XW2 wQ putW X XO XOp XH XHo XW SeqQ BlkQ XOQ XHQ NrmQ XC XM XG XHM XHG XD CallK
def innerC (c : UInt8) : Bool := decide (97 ≤ c.toNat ∧ c.toNat ≤ 122) || decide (48 ≤ c.toNat ∧ c.toNat ≤ 57) || decide (c.toNat = 45)
def fnameB (s : ByteArray) : Bool := decide (0 < s.size ∧ s.size ≤ 20 ∧ 97 ≤ (gb s 0).toNat) && s.data.toList.all innerC
theorem fname_ok (s : ByteArray) : Pure Try.prog 28 [S s] (B (fnameB s)) := by
  generalize hR : fnameB s = R
  intro h; refine callK_body Try.func28 rfl (by rw [nt28]; simp) ?_; rw [nt28, rs28]
  by_cases hz : s = ⟨#[]⟩
  · subst hz
    (repeat' (first | simp [go_sem, X_region, *] | simp (disch := omega) only [om, *] | ((first | refine XC_split ?_ ?_ | refine XG_true ?_ ?_ | refine XG_false ?_ ?_ | refine XRg_true ?_ ?_ | refine XRg_false ?_ ?_) <;> intro hc <;> (try simp only [bl] at hc) <;> (try (exfalso; omega))) | refine XD_w [] [] [] (fun _ => none) mixed (by decide +kernel) (sub_none _) ?_ | fail))
    all_goals (subst hR; exact Wk.of_eq rfl)
  · have hpos : 0 < s.size := by
      rcases s with ⟨⟨l⟩⟩
      rcases l with _ | ⟨c, r⟩
      · exact absurd rfl hz
      · simp [ByteArray.size]
    by_cases hbig : 20 < s.size
    · (repeat' (first | simp [go_sem, X_region, *] | simp (disch := omega) only [om, *] | ((first | refine XC_split ?_ ?_ | refine XG_true ?_ ?_ | refine XG_false ?_ ?_ | refine XRg_true ?_ ?_ | refine XRg_false ?_ ?_) <;> intro hc <;> (try simp only [bl] at hc) <;> (try (exfalso; omega))) | refine XD_w [] [] [] (fun _ => none) mixed (by decide +kernel) (sub_none _) ?_ | fail))
      all_goals (subst hR; exact Wk.of_eq (by simp [fnameB, show ¬ s.size ≤ 20 by omega]))
    · by_cases h97 : (gb s 0).toNat < 97
      · (repeat' (first | simp [go_sem, X_region, *] | simp (disch := omega) only [om, *] | ((first | refine XC_split ?_ ?_ | refine XG_true ?_ ?_ | refine XG_false ?_ ?_ | refine XRg_true ?_ ?_ | refine XRg_false ?_ ?_) <;> intro hc <;> (try simp only [bl] at hc) <;> (try (exfalso; omega))) | refine XD_w [] [] [] (fun _ => none) mixed (by decide +kernel) (sub_none _) ?_ | fail))
        all_goals (subst hR; exact Wk.of_eq (by simp [fnameB, show ¬ 97 ≤ (gb s 0).toNat by omega]))
      · (repeat' (first | simp [go_sem, X_region, *] | simp (disch := omega) only [om, *] | ((first | refine XC_split ?_ ?_ | refine XG_true ?_ ?_ | refine XG_false ?_ ?_ | refine XRg_true ?_ ?_ | refine XRg_false ?_ ?_) <;> intro hc <;> (try simp only [bl] at hc) <;> (try (exfalso; omega))) | refine XD_w [] [] [] (fun _ => none) mixed (by decide +kernel) (sub_none _) ?_ | fail))
        refine X_bytes (s := s) und9 und92 und5 (by simp [go_sem]) (by omega) ?_
        (repeat' (first | simp [go_sem, X_region, *] | simp (disch := omega) only [om, *] | ((first | refine XC_split ?_ ?_ | refine XG_true ?_ ?_ | refine XG_false ?_ ?_ | refine XRg_true ?_ ?_ | refine XRg_false ?_ ?_) <;> intro hc <;> (try simp only [bl] at hc) <;> (try (exfalso; omega))) | refine XD_w [] [] [] (fun _ => none) mixed (by decide +kernel) (sub_none _) ?_ | fail))
        have hR0 : s.data.toList.all innerC = R := by rw [← hR]; simp [fnameB, hpos, show s.size ≤ 20 by omega, show 97 ≤ (gb s 0).toNat by omega]
        have hlen : s.data.toList.length = s.size := rfl
        refine X_lpF (fun i => i = 2 ∨ i = 4 ∨ (20 ≤ i ∧ i ≤ 43)) (fun n T h' => ∃ (i : Nat) (r : List UInt8), n = r.length ∧ i ≤ s.size ∧ s.data.toList.drop i = r ∧ r.all innerC = R ∧ T 20 = I i ∧ h' = h) _ ⟨0, _, rfl, by omega, rfl, hR0, by simp [go_sem], rfl⟩ ?_
        clear hR hR0
        rintro J hJ n T h' hfr ⟨i, r, rfl, hi, hd, hR, t20, rfl⟩
        rcases r with _ | ⟨c, r⟩
        · have hlt : ¬ i < s.size := by have := drop_nil hd; rwa [hlen] at this
          (repeat' (first | simp [go_sem, X_region, *] | simp (disch := omega) only [om, *] | ((first | refine XC_split ?_ ?_ | refine XG_true ?_ ?_ | refine XG_false ?_ ?_ | refine XRg_true ?_ ?_ | refine XRg_false ?_ ?_) <;> intro hc <;> (try simp only [bl] at hc) <;> (try (exfalso; omega))) | refine XD_w [] [] [] (fun _ => none) mixed (by decide +kernel) (sub_none _) ?_ | fail))
          all_goals (subst hR; exact Wk.of_eq rfl)
        · obtain ⟨hlt, hx, hd2⟩ := drop_cons hd
          rw [hlen] at hlt
          have hx : s.data[i]'hlt = c := by simpa using hx
          (repeat' (first | simp [go_sem, X_region, *] | simp (disch := omega) only [om, *] | ((first | refine XC_split ?_ ?_ | refine XG_true ?_ ?_ | refine XG_false ?_ ?_ | refine XRg_true ?_ ?_ | refine XRg_false ?_ ?_) <;> intro hc <;> (try simp only [bl] at hc) <;> (try (exfalso; omega))) | refine XD_w [] [] [] (fun _ => none) mixed (by decide +kernel) (sub_none _) ?_ | fail))
          all_goals first
            | (subst hR; exact Wk.of_eq (by simp only [List.all_cons]; rw [show innerC c = false by simp [innerC]; omega]; rfl))
            | exact ⟨_, Nat.lt_succ_self _, hJ.out _ _ _ ⟨(by (repeat (refine fr_upd (by decide) ?_)); exact hfr), i + 1, r, rfl, by omega, hd2, by rw [← hR, List.all_cons, show innerC c = true by simp [innerC]; omega]; rfl, by simp [go_sem, *], rfl⟩⟩
end Go.Proofs.Ytmalhikcdideoaa

set_option linter.unusedVariables false
set_option linter.unusedSimpArgs false
namespace Go.Proofs.Ytmalhikcdideoaa
open Go Sl
attribute [local irreducible] LpQ XR XRo XRg XRQ putQ XFv XL XW2 wQ putW X XO XOp XH XHo XW SeqQ BlkQ XOQ XHQ NrmQ XC XM XG XHM XHG XD CallK
def dclamp (d : Int) : Int := max 0 (min d 1048575)
theorem dclamp_ok (d : Int) : Pure Try.prog 67 [I d] (I (dclamp d)) := by
  intro h; refine callK_body Try.func67 rfl (by rw [nt67]; simp) ?_; rw [nt67, rs67]
  ((repeat' (first | simp [go_sem, X_region, *] | simp (disch := omega) only [om, *] | ((first | refine XC_split ?_ ?_ | refine XG_true ?_ ?_ | refine XG_false ?_ ?_ | refine XRg_true ?_ ?_ | refine XRg_false ?_ ?_) <;> intro hc <;> (try simp only [bl] at hc) <;> (try (exfalso; omega))) | refine XD_w [] [] [] (fun _ => none) mixed (by decide +kernel) (sub_none _) ?_ | (intro bk hbk; (try simp only [go_sem] at hbk)))); all_goals (refine Wk.fin (by repeat (first | exact Sub.refl _ | refine Sub.upd (by simp [*]) ?_)) ?_; first | (simp [dclamp, *]; done) | (simp only [dclamp]; (repeat' (first | split | rfl | omega | (simp_all; done))); done) | (simp [dclamp, *]; (repeat' (first | split | omega | (rw [Bool.eq_iff_iff]; simp; omega))); done) | (simp [dclamp, *])))
def leapB (y : Int) : Bool := decide (y % 4 = 0) && (decide (y % 100 ≠ 0) || decide (y % 400 = 0))
theorem leap_ok (y : Int) (h0 : 0 ≤ y) : Pure Try.prog 87 [I y] (B (leapB y)) := by
  intro h; refine callK_body Try.func87 rfl (by rw [nt87]; simp) ?_; rw [nt87, rs87]
  ((repeat' (first | simp [go_sem, X_region, *] | simp (disch := omega) only [om, *] | ((first | refine XC_split ?_ ?_ | refine XG_true ?_ ?_ | refine XG_false ?_ ?_ | refine XRg_true ?_ ?_ | refine XRg_false ?_ ?_) <;> intro hc <;> (try simp only [bl] at hc) <;> (try (exfalso; omega))) | refine XD_w [] [] [] (fun _ => none) mixed (by decide +kernel) (sub_none _) ?_ | (intro bk hbk; (try simp only [go_sem] at hbk)))); all_goals (refine Wk.fin (by repeat (first | exact Sub.refl _ | refine Sub.upd (by simp [*]) ?_)) ?_; first | (simp [leapB, *]; done) | (simp only [leapB]; (repeat' (first | split | rfl | omega | (simp_all; done))); done) | (simp [leapB, *]; (repeat' (first | split | omega | (rw [Bool.eq_iff_iff]; simp; omega))); done) | (simp [leapB, *])))
def firstF (y : Int) : Int := 365 * (y - 1) + (y - 1) / 4 - (y - 1) / 100 + (y - 1) / 400
theorem first_ok (y : Int) (h0 : 1 ≤ y) (h1 : y ≤ 2000000) : Pure Try.prog 78 [I y] (I (firstF y)) := by
  intro h; refine callK_body Try.func78 rfl (by rw [nt78]; simp) ?_; rw [nt78, rs78]
  ((repeat' (first | simp [go_sem, X_region, *] | simp (disch := omega) only [om, *] | ((first | refine XC_split ?_ ?_ | refine XG_true ?_ ?_ | refine XG_false ?_ ?_ | refine XRg_true ?_ ?_ | refine XRg_false ?_ ?_) <;> intro hc <;> (try simp only [bl] at hc) <;> (try (exfalso; omega))) | refine XD_w [] [] [] (fun _ => none) mixed (by decide +kernel) (sub_none _) ?_ | (intro bk hbk; (try simp only [go_sem] at hbk)))); all_goals (refine Wk.fin (by repeat (first | exact Sub.refl _ | refine Sub.upd (by simp [*]) ?_)) ?_; first | (simp [firstF, *]; done) | (simp only [firstF]; (repeat' (first | split | rfl | omega | (simp_all; done))); done) | (simp [firstF, *]; (repeat' (first | split | omega | (rw [Bool.eq_iff_iff]; simp; omega))); done) | (simp [firstF, *])))
theorem firstF_gt (y : Int) (h0 : 1 ≤ y) : y < firstF (y + 1) := by unfold firstF; omega
theorem firstF_ran (y : Int) (h0 : 1 ≤ y) (h1 : y ≤ 2000000) : 0 ≤ firstF y ∧ firstF y ≤ 1000000000 := by unfold firstF; omega
def aheadF (y m : Int) : Int := if m ≤ 2 then (367 * m - 362) / 12 else if leapB y = true then (367 * m - 362) / 12 - 1 else (367 * m - 362) / 12 - 2
theorem ahead_ok (y m : Int) (h0 : 0 ≤ y) (h1 : 1 ≤ m) (h2 : m ≤ 13) : Pure Try.prog 79 [I y, I m] (I (aheadF y m)) := by
  have hl := leap_ok y h0
  cases hb : leapB y
  · rw [hb] at hl
    intro h; refine callK_body Try.func79 rfl (by rw [nt79]; simp) ?_; rw [nt79, rs79]
    ((repeat' (first | simp [go_sem, X_region, *] | simp (disch := omega) only [om, *] | ((first | refine XC_split ?_ ?_ | refine XG_true ?_ ?_ | refine XG_false ?_ ?_ | refine XRg_true ?_ ?_ | refine XRg_false ?_ ?_) <;> intro hc <;> (try simp only [bl] at hc) <;> (try (exfalso; omega))) | refine XD_w [] [] [] (fun _ => none) mixed (by decide +kernel) (sub_none _) ?_ | refine Pure.call (hl) ?_ | refine ⟨_, Pure.at (hl), ?_⟩ | refine ⟨_, hl, ?_⟩ | refine PureAt.call (hl) ?_ | (intro bk hbk; (try simp only [go_sem] at hbk)))); all_goals (refine Wk.fin (by repeat (first | exact Sub.refl _ | refine Sub.upd (by simp [*]) ?_)) ?_; first | (simp [aheadF, *]; done) | (simp only [aheadF]; (repeat' (first | split | rfl | omega | (simp_all; done))); done) | (simp [aheadF, *]; (repeat' (first | split | omega | (rw [Bool.eq_iff_iff]; simp; omega))); done) | (simp [aheadF, *])))
  · rw [hb] at hl
    intro h; refine callK_body Try.func79 rfl (by rw [nt79]; simp) ?_; rw [nt79, rs79]
    ((repeat' (first | simp [go_sem, X_region, *] | simp (disch := omega) only [om, *] | ((first | refine XC_split ?_ ?_ | refine XG_true ?_ ?_ | refine XG_false ?_ ?_ | refine XRg_true ?_ ?_ | refine XRg_false ?_ ?_) <;> intro hc <;> (try simp only [bl] at hc) <;> (try (exfalso; omega))) | refine XD_w [] [] [] (fun _ => none) mixed (by decide +kernel) (sub_none _) ?_ | refine Pure.call (hl) ?_ | refine ⟨_, Pure.at (hl), ?_⟩ | refine ⟨_, hl, ?_⟩ | refine PureAt.call (hl) ?_ | (intro bk hbk; (try simp only [go_sem] at hbk)))); all_goals (refine Wk.fin (by repeat (first | exact Sub.refl _ | refine Sub.upd (by simp [*]) ?_)) ?_; first | (simp [aheadF, *]; done) | (simp only [aheadF]; (repeat' (first | split | rfl | omega | (simp_all; done))); done) | (simp [aheadF, *]; (repeat' (first | split | omega | (rw [Bool.eq_iff_iff]; simp; omega))); done) | (simp [aheadF, *])))
theorem aheadF_ran (y m : Int) (h1 : 1 ≤ m) (h2 : m ≤ 13) : -1 ≤ aheadF y m ∧ aheadF y m ≤ 400 := by unfold aheadF; repeat' split <;> omega
def yearF (d : Int) : Nat → Int → Int
  | 0, y => y
  | n + 1, y => if firstF (y + 1) ≤ d then yearF d n (y + 1) else y
theorem yearF_stop (d : Int) (n : Nat) (y : Int) (h : ¬ firstF (y + 1) ≤ d) : yearF d n y = y := by cases n <;> simp [yearF, h]
theorem yearF_ran (d : Int) (h1 : d ≤ 1048575) : ∀ (n : Nat) (y : Int), 1 ≤ y → y ≤ 1048577 → 1 ≤ yearF d n y ∧ yearF d n y ≤ 1048577
  | 0, y, h, h2 => ⟨h, h2⟩
  | n + 1, y, h, h2 => by
    unfold yearF
    split
    · have := firstF_gt y h
      exact yearF_ran d h1 n (y + 1) (by omega) (by omega)
    · exact ⟨h, h2⟩
def monthF (y r : Int) : Nat → Int → Int
  | 0, m => m
  | n + 1, m => if aheadF y (m + 1) ≤ r then monthF y r n (m + 1) else m
theorem monthF_ran (y r : Int) : ∀ (n : Nat) (m : Int), 1 ≤ m → m + n = 12 → 1 ≤ monthF y r n m ∧ monthF y r n m ≤ 12
  | 0, m, h1, h2 => by unfold monthF; omega
  | n + 1, m, h1, h2 => by
    unfold monthF
    split
    · exact monthF_ran y r n (m + 1) (by omega) (by omega)
    · omega
def year0 (d : Int) : Int := 400 * (d / 146097) + d % 146097 / 366 + 1
def yearD (d : Int) : Int := yearF (dclamp d) (dclamp d).toNat (year0 (dclamp d))
def monthD (d : Int) : Int := monthF (yearD d) (dclamp d - firstF (yearD d)) 11 1
def dayD (d : Int) : Int := dclamp d - firstF (yearD d) - aheadF (yearD d) (monthD d) + 1
theorem yearD_ran (d : Int) : 1 ≤ yearD d ∧ yearD d ≤ 1048577 := yearF_ran _ (by unfold dclamp; omega) _ _ (by unfold year0 dclamp; omega) (by unfold year0 dclamp; omega)
theorem monthD_ran (d : Int) : 1 ≤ monthD d ∧ monthD d ≤ 12 := monthF_ran _ _ 11 1 (by omega) (by omega)
theorem parts_ok (d : Int) : Pure Try.prog 68 [I d] (tup3 (I (yearD d)) (I (monthD d)) (I (dayD d))) := by
  have hc := dclamp_ok d
  have hy := yearD_ran d
  have hm := monthD_ran d
  have hm1 : monthF (yearD d) (dclamp d - firstF (yearD d)) 11 1 = monthD d := rfl
  have hy1 : yearF (dclamp d) (dclamp d).toNat (year0 (dclamp d)) = yearD d := rfl
  have hd1 : dayD d = dclamp d - firstF (yearD d) - aheadF (yearD d) (monthD d) + 1 := rfl
  have hc0 : 0 ≤ dclamp d ∧ dclamp d ≤ 1048575 := by unfold dclamp; omega
  rw [hd1]
  generalize monthD d = M at *
  generalize yearD d = Y at *
  generalize dclamp d = c at *
  have hfY := firstF_ran Y (by omega) (by omega)
  have haY := aheadF_ran Y M (by omega) (by omega)
  have e1 := first_ok Y (by omega) (by omega)
  have e2 := ahead_ok Y M (by omega) (by omega) (by omega)
  have hy0 : 1 ≤ year0 c ∧ year0 c ≤ c + 1 := by unfold year0; omega
  intro h; refine callK_body Try.func68 rfl (by rw [nt68]; simp) ?_; rw [nt68, rs68]
  (repeat' (first | simp [go_sem, X_region, *] | simp (disch := omega) only [om, *] | ((first | refine XC_split ?_ ?_ | refine XG_true ?_ ?_ | refine XG_false ?_ ?_ | refine XRg_true ?_ ?_ | refine XRg_false ?_ ?_) <;> intro hc <;> (try simp only [bl] at hc) <;> (try (exfalso; omega))) | refine XD_w [] [] [] (fun _ => none) mixed (by decide +kernel) (sub_none _) ?_ | refine Pure.call (hc) ?_ | refine ⟨_, Pure.at (hc), ?_⟩ | refine ⟨_, hc, ?_⟩ | refine PureAt.call (hc) ?_ | fail))
  refine X_lpF (fun i => i = 5 ∨ (18 ≤ i ∧ i ≤ 24)) (fun n T h' => ∃ y : Int, 1 ≤ y ∧ y ≤ c + 1 ∧ c - y ≤ n ∧ yearF c n y = Y ∧ T 5 = I y ∧ h' = h) c.toNat ⟨year0 c, hy0.1, hy0.2, by omega, hy1, by simp [go_sem, year0], rfl⟩ ?_
  clear hy1
  rintro J hJ n T h' hfr ⟨y, y1, y2, y3, hY, t5, rfl⟩
  have f1 := first_ok (y + 1) (by omega) (by omega)
  have f2 := firstF_gt y y1
  by_cases hq : firstF (y + 1) ≤ c
  · (repeat' (first | simp [go_sem, X_region, *] | simp (disch := omega) only [om, *] | ((first | refine XC_split ?_ ?_ | refine XG_true ?_ ?_ | refine XG_false ?_ ?_ | refine XRg_true ?_ ?_ | refine XRg_false ?_ ?_) <;> intro hc <;> (try simp only [bl] at hc) <;> (try (exfalso; omega))) | refine XD_w [] [] [] (fun _ => none) mixed (by decide +kernel) (sub_none _) ?_ | refine Pure.call (f1) ?_ | refine ⟨_, Pure.at (f1), ?_⟩ | refine ⟨_, f1, ?_⟩ | refine PureAt.call (f1) ?_ | fail))
    rcases n with _ | n
    · omega
    · rw [yearF, if_pos hq] at hY
      exact ⟨n, by omega, hJ.out _ _ _ ⟨(by (repeat (refine fr_upd (by decide) ?_)); exact hfr), y + 1, by omega, by omega, by omega, hY, by simp [go_sem, *], rfl⟩⟩
  · rw [yearF_stop c n y hq] at hY
    subst hY
    (repeat' (first | simp [go_sem, X_region, *] | simp (disch := omega) only [om, *] | ((first | refine XC_split ?_ ?_ | refine XG_true ?_ ?_ | refine XG_false ?_ ?_ | refine XRg_true ?_ ?_ | refine XRg_false ?_ ?_) <;> intro hc <;> (try simp only [bl] at hc) <;> (try (exfalso; omega))) | refine XD_w [] [] [] (fun _ => none) mixed (by decide +kernel) (sub_none _) ?_ | refine Pure.call (f1) ?_ | refine ⟨_, Pure.at (f1), ?_⟩ | refine ⟨_, f1, ?_⟩ | refine PureAt.call (f1) ?_ | refine Pure.call (e1) ?_ | refine ⟨_, Pure.at (e1), ?_⟩ | refine ⟨_, e1, ?_⟩ | refine PureAt.call (e1) ?_ | fail))
    refine X_lpF (fun i => i = 7 ∨ (29 ≤ i ∧ i ≤ 40)) (fun n T h2 => ∃ m : Int, 1 ≤ m ∧ m + n = 12 ∧ monthF y (c - firstF y) n m = M ∧ T 7 = I m ∧ T 6 = I (c - firstF y) ∧ T 5 = I y ∧ h2 = h') 11 ⟨1, by omega, by omega, hm1, by simp [go_sem, *], by simp [go_sem, *], by simp [go_sem, *], rfl⟩ ?_
    clear hm1
    rintro J2 hJ2 n2 T2 h2 hfr ⟨m, m1, m2, hM, t7, t6, t5', rfl⟩
    rcases n2 with _ | n2
    · obtain rfl : m = 12 := by omega
      rw [monthF] at hM
      subst hM
      ((repeat' (first | simp [go_sem, X_region, *] | simp (disch := omega) only [om, *] | ((first | refine XC_split ?_ ?_ | refine XG_true ?_ ?_ | refine XG_false ?_ ?_ | refine XRg_true ?_ ?_ | refine XRg_false ?_ ?_) <;> intro hc <;> (try simp only [bl] at hc) <;> (try (exfalso; omega))) | refine XD_w [] [] [] (fun _ => none) mixed (by decide +kernel) (sub_none _) ?_ | refine Pure.call (e2) ?_ | refine ⟨_, Pure.at (e2), ?_⟩ | refine ⟨_, e2, ?_⟩ | refine PureAt.call (e2) ?_ | (intro bk hbk; (try simp only [go_sem] at hbk)))); all_goals (refine Wk.fin (by repeat (first | exact Sub.refl _ | refine Sub.upd (by simp [*]) ?_)) ?_; first | (simp [*]; done) | (simp only []; (repeat' (first | split | rfl | omega | (simp_all; done))); done) | (simp [*]; (repeat' (first | split | omega | (rw [Bool.eq_iff_iff]; simp; omega))); done) | (simp [*])))
    · rw [monthF] at hM
      have g1 := ahead_ok y (m + 1) (by omega) (by omega) (by omega)
      by_cases hq2 : aheadF y (m + 1) ≤ c - firstF y
      · rw [if_pos hq2] at hM
        (repeat' (first | simp [go_sem, X_region, *] | simp (disch := omega) only [om, *] | ((first | refine XC_split ?_ ?_ | refine XG_true ?_ ?_ | refine XG_false ?_ ?_ | refine XRg_true ?_ ?_ | refine XRg_false ?_ ?_) <;> intro hc <;> (try simp only [bl] at hc) <;> (try (exfalso; omega))) | refine XD_w [] [] [] (fun _ => none) mixed (by decide +kernel) (sub_none _) ?_ | refine Pure.call (g1) ?_ | refine ⟨_, Pure.at (g1), ?_⟩ | refine ⟨_, g1, ?_⟩ | refine PureAt.call (g1) ?_ | fail))
        exact ⟨n2, by omega, hJ2.out _ _ _ ⟨(by (repeat (refine fr_upd (by decide) ?_)); exact hfr), m + 1, by omega, by omega, hM, by simp [go_sem, *], by simp [go_sem, *], by simp [go_sem, *], rfl⟩⟩
      · rw [if_neg hq2] at hM
        subst hM
        ((repeat' (first | simp [go_sem, X_region, *] | simp (disch := omega) only [om, *] | ((first | refine XC_split ?_ ?_ | refine XG_true ?_ ?_ | refine XG_false ?_ ?_ | refine XRg_true ?_ ?_ | refine XRg_false ?_ ?_) <;> intro hc <;> (try simp only [bl] at hc) <;> (try (exfalso; omega))) | refine XD_w [] [] [] (fun _ => none) mixed (by decide +kernel) (sub_none _) ?_ | refine Pure.call (g1) ?_ | refine ⟨_, Pure.at (g1), ?_⟩ | refine ⟨_, g1, ?_⟩ | refine PureAt.call (g1) ?_ | refine Pure.call (e2) ?_ | refine ⟨_, Pure.at (e2), ?_⟩ | refine ⟨_, e2, ?_⟩ | refine PureAt.call (e2) ?_ | (intro bk hbk; (try simp only [go_sem] at hbk)))); all_goals (refine Wk.fin (by repeat (first | exact Sub.refl _ | refine Sub.upd (by simp [*]) ?_)) ?_; first | (simp [*]; done) | (simp only []; (repeat' (first | split | rfl | omega | (simp_all; done))); done) | (simp [*]; (repeat' (first | split | omega | (rw [Bool.eq_iff_iff]; simp; omega))); done) | (simp [*])))
end Go.Proofs.Ytmalhikcdideoaa

set_option linter.unusedVariables false
set_option linter.unusedSimpArgs false
namespace Go.Proofs.Ytmalhikcdideoaa
open Go Sl
attribute [local irreducible] LpQ XR XRo XRg XRQ putQ XFv XL XW2 wQ putW X XO XOp XH XHo XW SeqQ BlkQ XOQ XHQ NrmQ XC XM XG XHM XHG XD CallK
def dmonthF (d : Int) : Int := 12 * (yearD d - 1) + monthD d - 1
theorem dmonth_ok (d : Int) : Pure Try.prog 80 [I d] (I (dmonthF d)) := by
  have hp := parts_ok d
  have hy := yearD_ran d
  have hm := monthD_ran d
  unfold dmonthF
  generalize monthD d = M at *
  generalize yearD d = Y at *
  generalize dayD d = D at *
  intro h; refine callK_body Try.func80 rfl (by rw [nt80]; simp) ?_; rw [nt80, rs80]
  ((repeat' (first | simp [go_sem, X_region, *] | simp (disch := omega) only [om, *] | ((first | refine XC_split ?_ ?_ | refine XG_true ?_ ?_ | refine XG_false ?_ ?_ | refine XRg_true ?_ ?_ | refine XRg_false ?_ ?_) <;> intro hc <;> (try simp only [bl] at hc) <;> (try (exfalso; omega))) | refine XD_w [] [] [] (fun _ => none) mixed (by decide +kernel) (sub_none _) ?_ | refine Pure.call (hp) ?_ | refine ⟨_, Pure.at (hp), ?_⟩ | refine ⟨_, hp, ?_⟩ | refine PureAt.call (hp) ?_ | (intro bk hbk; (try simp only [go_sem] at hbk)))); all_goals (refine Wk.fin (by repeat (first | exact Sub.refl _ | refine Sub.upd (by simp [*]) ?_)) ?_; first | (simp [*]; done) | (simp only []; (repeat' (first | split | rfl | omega | (simp_all; done))); done) | (simp [*]; (repeat' (first | split | omega | (rw [Bool.eq_iff_iff]; simp; omega))); done) | (simp [*])))
def dsizeF (m : Int) : Int := let c := max 0 (min m (dmonthF 1048575)); aheadF (c / 12 + 1) (c % 12 + 2) - aheadF (c / 12 + 1) (c % 12 + 1)
theorem dsize_ok (m : Int) : Pure Try.prog 69 [I m] (I (dsizeF m)) := by
  have hp := dmonth_ok 1048575
  have hy := yearD_ran 1048575
  have hm := monthD_ran 1048575
  have hr : 0 ≤ dmonthF 1048575 ∧ dmonthF 1048575 ≤ 20000000 := by unfold dmonthF; omega
  unfold dsizeF
  dsimp only
  generalize dmonthF 1048575 = X at *
  have e1 := ahead_ok (max 0 (min m X) / 12 + 1) (max 0 (min m X) % 12 + 1) (by omega) (by omega) (by omega)
  have e2 := ahead_ok (max 0 (min m X) / 12 + 1) (max 0 (min m X) % 12 + 2) (by omega) (by omega) (by omega)
  have r1 := aheadF_ran (max 0 (min m X) / 12 + 1) (max 0 (min m X) % 12 + 1) (by omega) (by omega)
  have r2 := aheadF_ran (max 0 (min m X) / 12 + 1) (max 0 (min m X) % 12 + 2) (by omega) (by omega)
  rw [show max 0 (min m X) % 12 + 2 = max 0 (min m X) % 12 + 1 + 1 by omega] at *
  generalize aheadF (max 0 (min m X) / 12 + 1) (max 0 (min m X) % 12 + 1) = A at *
  generalize aheadF (max 0 (min m X) / 12 + 1) (max 0 (min m X) % 12 + 1 + 1) = A' at *
  have hX : 0 ≤ max 0 (min m X) ∧ max 0 (min m X) ≤ 20000000 := by omega
  intro h; refine callK_body Try.func69 rfl (by rw [nt69]; simp) ?_; rw [nt69, rs69]
  (repeat' (first | simp [go_sem, X_region, *] | simp (disch := omega) only [om, *] | ((first | refine XC_split ?_ ?_ | refine XG_true ?_ ?_ | refine XG_false ?_ ?_ | refine XRg_true ?_ ?_ | refine XRg_false ?_ ?_) <;> intro hc <;> (try simp only [bl] at hc) <;> (try (exfalso; omega))) | refine XD_w [] [] [] (fun _ => none) mixed (by decide +kernel) (sub_none _) ?_ | refine Pure.call (hp) ?_ | refine ⟨_, Pure.at (hp), ?_⟩ | refine ⟨_, hp, ?_⟩ | refine PureAt.call (hp) ?_ | fail))
  generalize max 0 (min m X) = c at *
  ((repeat' (first | simp [go_sem, X_region, *] | simp (disch := omega) only [om, *] | ((first | refine XC_split ?_ ?_ | refine XG_true ?_ ?_ | refine XG_false ?_ ?_ | refine XRg_true ?_ ?_ | refine XRg_false ?_ ?_) <;> intro hc <;> (try simp only [bl] at hc) <;> (try (exfalso; omega))) | refine XD_w [] [] [] (fun _ => none) mixed (by decide +kernel) (sub_none _) ?_ | refine Pure.call (e1) ?_ | refine ⟨_, Pure.at (e1), ?_⟩ | refine ⟨_, e1, ?_⟩ | refine PureAt.call (e1) ?_ | refine Pure.call (e2) ?_ | refine ⟨_, Pure.at (e2), ?_⟩ | refine ⟨_, e2, ?_⟩ | refine PureAt.call (e2) ?_ | (intro bk hbk; (try simp only [go_sem] at hbk)))); all_goals (refine Wk.fin (by repeat (first | exact Sub.refl _ | refine Sub.upd (by simp [*]) ?_)) ?_; first | (simp [*]; done) | (simp only []; (repeat' (first | split | rfl | omega | (simp_all; done))); done) | (simp [*]; (repeat' (first | split | omega | (rw [Bool.eq_iff_iff]; simp; omega))); done) | (simp [*])))
def yearsF (a b : Int) : Int :=
  if dclamp b < dclamp a then 0 else
    max 0 (yearD (dclamp b) - yearD (dclamp a) - if monthD (dclamp b) < monthD (dclamp a) ∨ (monthD (dclamp b) = monthD (dclamp a) ∧ dayD (dclamp b) < min (dayD (dclamp a)) (dsizeF (12 * (yearD (dclamp b) - 1) + monthD (dclamp a) - 1))) then 1 else 0)
theorem years_ok (a b : Int) : Pure Try.prog 47 [I a, I b] (I (yearsF a b)) := by
  have ha := dclamp_ok a
  have hb := dclamp_ok b
  unfold yearsF
  generalize dclamp a = A at *
  generalize dclamp b = B' at *
  have pa := parts_ok A
  have pb := parts_ok B'
  have a1 := yearD_ran A; have a2 := monthD_ran A; have b1 := yearD_ran B'; have b2 := monthD_ran B'
  have hs := dsize_ok (12 * (yearD B' - 1) + monthD A - 1)
  generalize dsizeF (12 * (yearD B' - 1) + monthD A - 1) = S' at *
  generalize yearD A = yA at *
  generalize yearD B' = yB at *
  generalize monthD A = mA at *
  generalize monthD B' = mB at *
  generalize dayD A = dA at *
  generalize dayD B' = dB at *
  intro h; refine callK_body Try.func47 rfl (by rw [nt47]; simp) ?_; rw [nt47, rs47]
  ((repeat' (first | simp [go_sem, X_region, *] | simp (disch := omega) only [om, *] | ((first | refine XC_split ?_ ?_ | refine XG_true ?_ ?_ | refine XG_false ?_ ?_ | refine XRg_true ?_ ?_ | refine XRg_false ?_ ?_) <;> intro hc <;> (try simp only [bl] at hc) <;> (try (exfalso; omega))) | refine XD_w [] [] [] (fun _ => none) mixed (by decide +kernel) (sub_none _) ?_ | refine Pure.call (ha) ?_ | refine ⟨_, Pure.at (ha), ?_⟩ | refine ⟨_, ha, ?_⟩ | refine PureAt.call (ha) ?_ | refine Pure.call (hb) ?_ | refine ⟨_, Pure.at (hb), ?_⟩ | refine ⟨_, hb, ?_⟩ | refine PureAt.call (hb) ?_ | refine Pure.call (pa) ?_ | refine ⟨_, Pure.at (pa), ?_⟩ | refine ⟨_, pa, ?_⟩ | refine PureAt.call (pa) ?_ | refine Pure.call (pb) ?_ | refine ⟨_, Pure.at (pb), ?_⟩ | refine ⟨_, pb, ?_⟩ | refine PureAt.call (pb) ?_ | refine Pure.call (hs) ?_ | refine ⟨_, Pure.at (hs), ?_⟩ | refine ⟨_, hs, ?_⟩ | refine PureAt.call (hs) ?_ | (intro bk hbk; (try simp only [go_sem] at hbk)))); all_goals (refine Wk.fin (by repeat (first | exact Sub.refl _ | refine Sub.upd (by simp [*]) ?_)) ?_; first | (simp [*]; done) | (simp only []; (repeat' (first | split | rfl | omega | (simp_all; done))); done) | (simp [*]; (repeat' (first | split | omega | (rw [Bool.eq_iff_iff]; simp; omega))); done) | (simp [*])))
/-! Rounding. -/
theorem down_eq (a b : Int) (hb : 0 < b) : a.tdiv b * b = a - a.tmod b ∧ (if a < a.tdiv b * b then a.tdiv b - 1 else a.tdiv b) = a / b := by
  have h1 := Int.mul_tdiv_add_tmod a b
  rw [Int.mul_comm] at h1
  have h2 : a.tdiv b * b = a - a.tmod b := by omega
  refine ⟨h2, ?_⟩
  have h3 := Int.tmod_lt_of_pos a hb
  have h4 : -b < a.tmod b := by
    have := Int.tmod_lt_of_pos (-a) hb
    rw [Int.neg_tmod] at this
    omega
  rw [h2]
  split
  · have := (Int.ediv_emod_unique hb (a := a) (r := a.tmod b + b) (q := a.tdiv b - 1)).2 ⟨by rw [Int.mul_sub, Int.mul_comm b]; omega, by omega, by omega⟩
    exact this.1.symm
  · have := (Int.ediv_emod_unique hb (a := a) (r := a.tmod b) (q := a.tdiv b)).2 ⟨by rw [Int.mul_comm b]; omega, by omega, by omega⟩
    exact this.1.symm
theorem large_ok (n : Int) : Pure Try.prog 65 [I n] (B (decide (n < -1099511627776 ∨ 1099511627776 < n))) := by
  intro h; refine callK_body Try.func65 rfl (by rw [nt65]; simp) ?_; rw [nt65, rs65]
  ((repeat' (first | simp [go_sem, X_region, *] | simp (disch := omega) only [om, *] | ((first | refine XC_split ?_ ?_ | refine XG_true ?_ ?_ | refine XG_false ?_ ?_ | refine XRg_true ?_ ?_ | refine XRg_false ?_ ?_) <;> intro hc <;> (try simp only [bl] at hc) <;> (try (exfalso; omega))) | refine XD_w [] [] [] (fun _ => none) mixed (by decide +kernel) (sub_none _) ?_ | (intro bk hbk; (try simp only [go_sem] at hbk)))); all_goals (refine Wk.fin (by repeat (first | exact Sub.refl _ | refine Sub.upd (by simp [*]) ?_)) ?_; first | (simp [*]; done) | (simp only []; (repeat' (first | split | rfl | omega | (simp_all; done))); done) | (simp [*]; (repeat' (first | split | omega | (rw [Bool.eq_iff_iff]; simp; omega))); done) | (simp [*])))
theorem tdiv_ran (a b : Int) (hb : 0 < b) (h0 : -1099511627776 ≤ a) (h1 : a ≤ 1099511627776) : -1099511627776 ≤ a.tdiv b ∧ a.tdiv b ≤ 1099511627776 := by
  have h := Int.natAbs_tdiv_le_natAbs a b
  omega
theorem down_ok (a b : Int) (hb : 0 < b) (h0 : -1099511627776 ≤ a) (h1 : a ≤ 1099511627776) (hb2 : b ≤ 1099511627776) : Pure Try.prog 66 [I a, I b] (I (a / b)) := by
  obtain ⟨d1, d2⟩ := down_eq a b hb
  have hr := tdiv_ran a b hb h0 h1
  have h3 := Int.tmod_lt_of_pos a hb
  have h4 : -b < a.tmod b := by
    have := Int.tmod_lt_of_pos (-a) hb
    rw [Int.neg_tmod] at this
    omega
  rw [← d2]
  have w1 : IntKind.i64.wrap (a.tdiv b) = a.tdiv b := w64 (by omega) (by omega)
  have w2 : IntKind.i64.wrap (a.tdiv b * b) = a.tdiv b * b := w64 (by omega) (by omega)
  have w3 : IntKind.i64.wrap (a.tdiv b - 1) = a.tdiv b - 1 := w64 (by omega) (by omega)
  have hb0 : ¬ b = 0 := by omega
  clear d1 d2
  generalize hq : a.tdiv b = q at *
  generalize hp : q * b = p at *
  intro h; refine callK_body Try.func66 rfl (by rw [nt66]; simp) ?_; rw [nt66, rs66]
  ((repeat' (first | simp [go_sem, X_region, *] | simp (disch := omega) only [om, *] | ((first | refine XC_split ?_ ?_ | refine XG_true ?_ ?_ | refine XG_false ?_ ?_ | refine XRg_true ?_ ?_ | refine XRg_false ?_ ?_) <;> intro hc <;> (try simp only [bl] at hc) <;> (try (exfalso; omega))) | refine XD_w [] [] [] (fun _ => none) mixed (by decide +kernel) (sub_none _) ?_ | (intro bk hbk; (try simp only [go_sem] at hbk)))); all_goals (refine Wk.fin (by repeat (first | exact Sub.refl _ | refine Sub.upd (by simp [*]) ?_)) ?_; first | (simp [*]; done) | (simp only []; (repeat' (first | split | rfl | omega | (simp_all; done))); done) | (simp [*]; (repeat' (first | split | omega | (rw [Bool.eq_iff_iff]; simp; omega))); done) | (simp [*])))
def upB (n way m q r : Int) : Bool :=
  if way = 1 then decide (0 < r) else if way = 2 then decide (m ≤ 2 * r) else if way = 3 then decide (m < 2 * r) || (decide (2 * r = m) && decide (0 < n))
  else if way = 4 then decide (m < 2 * r) || (decide (2 * r = m) && !decide (q.tmod 2 = 0)) else false
def roundF (n way m : Int) : Int × Int :=
  if way < 0 ∨ 5 ≤ way ∨ m < 1 ∨ 1099511627776 < m then (0, 1) else if n < -1099511627776 ∨ 1099511627776 < n then (0, 2) else
    (w ((if upB n way m (n / m) (n - n / m * m) = true then n / m + 1 else n / m) * m), 0)
set_option maxHeartbeats 2000000 in
theorem round_ok (n way m : Int) : Pure Try.prog 46 [I n, I way, I m] (tup2 (I (roundF n way m).1) (I (roundF n way m).2)) := by
  have hl := large_ok n
  by_cases h1 : way < 0 ∨ 5 ≤ way ∨ m < 1 ∨ 1099511627776 < m
  · intro h; refine callK_body Try.func46 rfl (by rw [nt46]; simp) ?_; rw [nt46, rs46]
    ((repeat' (first | simp [go_sem, X_region, *] | simp (disch := omega) only [om, *] | ((first | refine XC_split ?_ ?_ | refine XG_true ?_ ?_ | refine XG_false ?_ ?_ | refine XRg_true ?_ ?_ | refine XRg_false ?_ ?_) <;> intro hc <;> (try simp only [bl] at hc) <;> (try (exfalso; omega))) | refine XD_w [] [] [] (fun _ => none) mixed (by decide +kernel) (sub_none _) ?_ | (intro bk hbk; (try simp only [go_sem] at hbk)))); all_goals (refine Wk.fin (by repeat (first | exact Sub.refl _ | refine Sub.upd (by simp [*]) ?_)) ?_; first | (simp [roundF, *]; done) | (simp only [roundF]; (repeat' (first | split | rfl | omega | (simp_all; done))); done) | (simp [roundF, *]; (repeat' (first | split | omega | (rw [Bool.eq_iff_iff]; simp; omega))); done) | (simp [roundF, *])))
  · by_cases h2 : n < -1099511627776 ∨ 1099511627776 < n
    · simp only [h2, decide_true] at hl
      intro h; refine callK_body Try.func46 rfl (by rw [nt46]; simp) ?_; rw [nt46, rs46]
      ((repeat' (first | simp [go_sem, X_region, *] | simp (disch := omega) only [om, *] | ((first | refine XC_split ?_ ?_ | refine XG_true ?_ ?_ | refine XG_false ?_ ?_ | refine XRg_true ?_ ?_ | refine XRg_false ?_ ?_) <;> intro hc <;> (try simp only [bl] at hc) <;> (try (exfalso; omega))) | refine XD_w [] [] [] (fun _ => none) mixed (by decide +kernel) (sub_none _) ?_ | refine Pure.call (hl) ?_ | refine ⟨_, Pure.at (hl), ?_⟩ | refine ⟨_, hl, ?_⟩ | refine PureAt.call (hl) ?_ | (intro bk hbk; (try simp only [go_sem] at hbk)))); all_goals (refine Wk.fin (by repeat (first | exact Sub.refl _ | refine Sub.upd (by simp [*]) ?_)) ?_; first | (simp [roundF, *]; done) | (simp only [roundF]; (repeat' (first | split | rfl | omega | (simp_all; done))); done) | (simp [roundF, *]; (repeat' (first | split | omega | (rw [Bool.eq_iff_iff]; simp; omega))); done) | (simp [roundF, *])))
    · have hd := down_ok n m (by omega) (by omega) (by omega) (by omega)
      simp only [h2, decide_false] at hl
      have hm0 : 0 < m := by omega
      have r0 := Int.emod_nonneg n (show m ≠ 0 by omega)
      have r1 := Int.emod_lt_of_pos n hm0
      have e0 := Int.mul_ediv_add_emod n m
      rw [Int.mul_comm] at e0
      have hq : -1099511627776 ≤ n / m ∧ n / m ≤ 1099511627776 := by
        have := Int.natAbs_ediv_le_natAbs n m
        omega
      unfold roundF
      rw [if_neg h1, if_neg h2]
      generalize n / m = q at *
      obtain ⟨p, hp⟩ : ∃ p, q * m = p := ⟨_, rfl⟩
      rw [hp] at e0 ⊢
      obtain ⟨r, hr⟩ : ∃ r, n - p = r := ⟨_, rfl⟩
      rw [hr]
      have hr0 : 0 ≤ r ∧ r < m := by omega
      have w1 : IntKind.i64.wrap (n - p) = r := by rw [hr]; exact w64 (by omega) (by omega)
      have w2 : IntKind.i64.wrap p = p := w64 (by omega) (by omega)
      clear e0 r0 r1 hr
      simp only [not_or] at h1 h2
      rcases (show way = 0 ∨ way = 1 ∨ way = 2 ∨ way = 3 ∨ way = 4 by omega) with rfl | rfl | rfl | rfl | rfl
      · intro h; refine callK_body Try.func46 rfl (by rw [nt46]; simp) ?_; rw [nt46, rs46]
        ((repeat' (first | simp [go_sem, X_region, *] | simp (disch := omega) only [om, *] | ((first | refine XC_split ?_ ?_ | refine XG_true ?_ ?_ | refine XG_false ?_ ?_ | refine XRg_true ?_ ?_ | refine XRg_false ?_ ?_) <;> intro hc <;> (try simp only [bl] at hc) <;> (try (exfalso; omega))) | refine XD_w [] [] [] (fun _ => none) mixed (by decide +kernel) (sub_none _) ?_ | refine Pure.call (hl) ?_ | refine ⟨_, Pure.at (hl), ?_⟩ | refine ⟨_, hl, ?_⟩ | refine PureAt.call (hl) ?_ | refine Pure.call (hd) ?_ | refine ⟨_, Pure.at (hd), ?_⟩ | refine ⟨_, hd, ?_⟩ | refine PureAt.call (hd) ?_ | (intro bk hbk; (try simp only [go_sem] at hbk)))); all_goals (refine Wk.fin (by repeat (first | exact Sub.refl _ | refine Sub.upd (by simp [*]) ?_)) ?_; first | (simp [upB, w, *]; done) | (simp only [upB, w]; (repeat' (first | split | rfl | omega | (simp_all; done))); done) | (simp [upB, w, *]; (repeat' (first | split | omega | (rw [Bool.eq_iff_iff]; simp; omega))); done) | (simp [upB, w, *])))
      · intro h; refine callK_body Try.func46 rfl (by rw [nt46]; simp) ?_; rw [nt46, rs46]
        ((repeat' (first | simp [go_sem, X_region, *] | simp (disch := omega) only [om, *] | ((first | refine XC_split ?_ ?_ | refine XG_true ?_ ?_ | refine XG_false ?_ ?_ | refine XRg_true ?_ ?_ | refine XRg_false ?_ ?_) <;> intro hc <;> (try simp only [bl] at hc) <;> (try (exfalso; omega))) | refine XD_w [] [] [] (fun _ => none) mixed (by decide +kernel) (sub_none _) ?_ | refine Pure.call (hl) ?_ | refine ⟨_, Pure.at (hl), ?_⟩ | refine ⟨_, hl, ?_⟩ | refine PureAt.call (hl) ?_ | refine Pure.call (hd) ?_ | refine ⟨_, Pure.at (hd), ?_⟩ | refine ⟨_, hd, ?_⟩ | refine PureAt.call (hd) ?_ | (intro bk hbk; (try simp only [go_sem] at hbk)))); all_goals (refine Wk.fin (by repeat (first | exact Sub.refl _ | refine Sub.upd (by simp [*]) ?_)) ?_; first | (simp [upB, w, *]; done) | (simp only [upB, w]; (repeat' (first | split | rfl | omega | (simp_all; done))); done) | (simp [upB, w, *]; (repeat' (first | split | omega | (rw [Bool.eq_iff_iff]; simp; omega))); done) | (simp [upB, w, *])))
      · intro h; refine callK_body Try.func46 rfl (by rw [nt46]; simp) ?_; rw [nt46, rs46]
        ((repeat' (first | simp [go_sem, X_region, *] | simp (disch := omega) only [om, *] | ((first | refine XC_split ?_ ?_ | refine XG_true ?_ ?_ | refine XG_false ?_ ?_ | refine XRg_true ?_ ?_ | refine XRg_false ?_ ?_) <;> intro hc <;> (try simp only [bl] at hc) <;> (try (exfalso; omega))) | refine XD_w [] [] [] (fun _ => none) mixed (by decide +kernel) (sub_none _) ?_ | refine Pure.call (hl) ?_ | refine ⟨_, Pure.at (hl), ?_⟩ | refine ⟨_, hl, ?_⟩ | refine PureAt.call (hl) ?_ | refine Pure.call (hd) ?_ | refine ⟨_, Pure.at (hd), ?_⟩ | refine ⟨_, hd, ?_⟩ | refine PureAt.call (hd) ?_ | (intro bk hbk; (try simp only [go_sem] at hbk)))); all_goals (refine Wk.fin (by repeat (first | exact Sub.refl _ | refine Sub.upd (by simp [*]) ?_)) ?_; first | (simp [upB, w, *]; done) | (simp only [upB, w]; (repeat' (first | split | rfl | omega | (simp_all; done))); done) | (simp [upB, w, *]; (repeat' (first | split | omega | (rw [Bool.eq_iff_iff]; simp; omega))); done) | (simp [upB, w, *])))
      · intro h; refine callK_body Try.func46 rfl (by rw [nt46]; simp) ?_; rw [nt46, rs46]
        ((repeat' (first | simp [go_sem, X_region, *] | simp (disch := omega) only [om, *] | ((first | refine XC_split ?_ ?_ | refine XG_true ?_ ?_ | refine XG_false ?_ ?_ | refine XRg_true ?_ ?_ | refine XRg_false ?_ ?_) <;> intro hc <;> (try simp only [bl] at hc) <;> (try (exfalso; omega))) | refine XD_w [] [] [] (fun _ => none) mixed (by decide +kernel) (sub_none _) ?_ | refine Pure.call (hl) ?_ | refine ⟨_, Pure.at (hl), ?_⟩ | refine ⟨_, hl, ?_⟩ | refine PureAt.call (hl) ?_ | refine Pure.call (hd) ?_ | refine ⟨_, Pure.at (hd), ?_⟩ | refine ⟨_, hd, ?_⟩ | refine PureAt.call (hd) ?_ | (intro bk hbk; (try simp only [go_sem] at hbk)))); all_goals (refine Wk.fin (by repeat (first | exact Sub.refl _ | refine Sub.upd (by simp [*]) ?_)) ?_; first | (simp [upB, w, *]; done) | (simp only [upB, w]; (repeat' (first | split | rfl | omega | (simp_all; done))); done) | (simp [upB, w, *]; (repeat' (first | split | omega | (rw [Bool.eq_iff_iff]; simp; omega))); done) | (simp [upB, w, *])))
      · intro h; refine callK_body Try.func46 rfl (by rw [nt46]; simp) ?_; rw [nt46, rs46]
        ((repeat' (first | simp [go_sem, X_region, *] | simp (disch := omega) only [om, *] | ((first | refine XC_split ?_ ?_ | refine XG_true ?_ ?_ | refine XG_false ?_ ?_ | refine XRg_true ?_ ?_ | refine XRg_false ?_ ?_) <;> intro hc <;> (try simp only [bl] at hc) <;> (try (exfalso; omega))) | refine XD_w [] [] [] (fun _ => none) mixed (by decide +kernel) (sub_none _) ?_ | refine Pure.call (hl) ?_ | refine ⟨_, Pure.at (hl), ?_⟩ | refine ⟨_, hl, ?_⟩ | refine PureAt.call (hl) ?_ | refine Pure.call (hd) ?_ | refine ⟨_, Pure.at (hd), ?_⟩ | refine ⟨_, hd, ?_⟩ | refine PureAt.call (hd) ?_ | (intro bk hbk; (try simp only [go_sem] at hbk)))); all_goals (refine Wk.fin (by repeat (first | exact Sub.refl _ | refine Sub.upd (by simp [*]) ?_)) ?_; first | (simp [upB, w, *]; done) | (simp only [upB, w]; (repeat' (first | split | rfl | omega | (simp_all; done))); done) | (simp [upB, w, *]; (repeat' (first | split | omega | (rw [Bool.eq_iff_iff]; simp; omega))); done) | (simp [upB, w, *])))
end Go.Proofs.Ytmalhikcdideoaa

set_option linter.unusedVariables false
set_option linter.unusedSimpArgs false
namespace Go.Proofs.Ytmalhikcdideoaa
open Go Sl
attribute [local irreducible] LpQ XR XRo XRg XRQ putQ XFv XL XW2 wQ putW X XO XOp XH XHo XW SeqQ BlkQ XOQ XHQ NrmQ XC XM XG XHM XHG XD CallK
abbrev St := Int × Int
def stepsE (low high least most : Int) : List St → Option Int → Int
  | [], _ => 0
  | s :: r, p => if s.1 < low ∨ high < s.1 ∨ s.2 < least ∨ most < s.2 then 2 else if (p.any fun q => decide (s.1 ≤ q)) = true then 9 else stepsE low high least most r (some s.1)
theorem stepsE_in (low high least most : Int) : ∀ (l : List St) (p : Option Int), stepsE low high least most l p = 0 → ∀ s ∈ l, low ≤ s.1 ∧ s.1 ≤ high ∧ least ≤ s.2 ∧ s.2 ≤ most
  | [], _, _, s, hs => by cases hs
  | x :: r, p, h, s, hs => by
    unfold stepsE at h
    split at h
    · cases h
    · split at h
      · cases h
      · rcases List.mem_cons.1 hs with rfl | hs
        · omega
        · exact stepsE_in low high least most r _ h s hs
def chkTb (t : Tb) : Int :=
  if fnameB t.name = false then 15 else if tkindsB t = false then 8 else if t.steps.length = 0 then 13 else if 20 < t.steps.length then 2
  else stepsE (lo t.fr) (hi t.fr) (if t.sl = true then 0 else lo t.to) (if t.sl = true then 1000000 else hi t.to) t.steps none
def prevA (l : List St) (i : Nat) : Option Int := if i = 0 then none else (l[i - 1]?).map (·.1)
theorem prevA_succ {l : List St} {i : Nat} {x : St} (h : l[i]? = some x) : prevA l (i + 1) = some x.1 := by simp [prevA, h]
set_option maxHeartbeats 4000000 in
theorem tcheck_ok (t : Tb) : Pure Try.prog 13 [encTbA t] (I (chkTb t)) := by
  have h1 := fname_ok t.name
  have h2 := tkinds_ok t
  rcases t with ⟨nm, fr, to, sl, l⟩
  have h3 := Range_ok fr
  have h4 := Range_ok to
  generalize hR : chkTb ⟨nm, fr, to, sl, l⟩ = R
  simp only [chkTb] at hR
  generalize fnameB nm = q1 at *
  generalize tkindsB ⟨nm, fr, to, sl, l⟩ = q2 at *
  simp only [encTbA] at *
  intro h; refine callK_body Try.func13 rfl (by rw [nt13]; simp) ?_; rw [nt13, rs13]
  cases q1
  · obtain rfl : 15 = R := by simpa using hR
    ((repeat' (first | simp [go_sem, X_region, *] | simp (disch := omega) only [om, *] | ((first | refine XC_split ?_ ?_ | refine XG_true ?_ ?_ | refine XG_false ?_ ?_ | refine XRg_true ?_ ?_ | refine XRg_false ?_ ?_) <;> intro hc <;> (try simp only [bl] at hc) <;> (try (exfalso; omega))) | refine XD_w [] [] [] (fun _ => none) mixed (by decide +kernel) (sub_none _) ?_ | refine Pure.call (h1) ?_ | refine ⟨_, Pure.at (h1), ?_⟩ | refine ⟨_, h1, ?_⟩ | refine PureAt.call (h1) ?_ | (intro bk hbk; (try simp only [go_sem] at hbk)))); all_goals (refine Wk.fin (by repeat (first | exact Sub.refl _ | refine Sub.upd (by simp [*]) ?_)) ?_; first | (simp [*]; done) | (simp only []; (repeat' (first | split | rfl | omega | (simp_all; done))); done) | (simp [*]; (repeat' (first | split | omega | (rw [Bool.eq_iff_iff]; simp; omega))); done) | (simp [*])))
  cases q2
  · obtain rfl : 8 = R := by simpa using hR
    ((repeat' (first | simp [go_sem, X_region, *] | simp (disch := omega) only [om, *] | ((first | refine XC_split ?_ ?_ | refine XG_true ?_ ?_ | refine XG_false ?_ ?_ | refine XRg_true ?_ ?_ | refine XRg_false ?_ ?_) <;> intro hc <;> (try simp only [bl] at hc) <;> (try (exfalso; omega))) | refine XD_w [] [] [] (fun _ => none) mixed (by decide +kernel) (sub_none _) ?_ | refine Pure.call (h1) ?_ | refine ⟨_, Pure.at (h1), ?_⟩ | refine ⟨_, h1, ?_⟩ | refine PureAt.call (h1) ?_ | refine Pure.call (h2) ?_ | refine ⟨_, Pure.at (h2), ?_⟩ | refine ⟨_, h2, ?_⟩ | refine PureAt.call (h2) ?_ | (intro bk hbk; (try simp only [go_sem] at hbk)))); all_goals (refine Wk.fin (by repeat (first | exact Sub.refl _ | refine Sub.upd (by simp [*]) ?_)) ?_; first | (simp [*]; done) | (simp only []; (repeat' (first | split | rfl | omega | (simp_all; done))); done) | (simp [*]; (repeat' (first | split | omega | (rw [Bool.eq_iff_iff]; simp; omega))); done) | (simp [*])))
  by_cases q3 : l.length = 0
  · obtain rfl : 13 = R := by simpa [q3] using hR
    obtain rfl := List.length_eq_zero_iff.1 q3
    ((repeat' (first | simp [go_sem, X_region, *] | simp (disch := omega) only [om, *] | ((first | refine XC_split ?_ ?_ | refine XG_true ?_ ?_ | refine XG_false ?_ ?_ | refine XRg_true ?_ ?_ | refine XRg_false ?_ ?_) <;> intro hc <;> (try simp only [bl] at hc) <;> (try (exfalso; omega))) | refine XD_w [] [] [] (fun _ => none) mixed (by decide +kernel) (sub_none _) ?_ | refine Pure.call (h1) ?_ | refine ⟨_, Pure.at (h1), ?_⟩ | refine ⟨_, h1, ?_⟩ | refine PureAt.call (h1) ?_ | refine Pure.call (h2) ?_ | refine ⟨_, Pure.at (h2), ?_⟩ | refine ⟨_, h2, ?_⟩ | refine PureAt.call (h2) ?_ | (intro bk hbk; (try simp only [go_sem] at hbk)))); all_goals (refine Wk.fin (by repeat (first | exact Sub.refl _ | refine Sub.upd (by simp [*]) ?_)) ?_; first | (simp [*]; done) | (simp only []; (repeat' (first | split | rfl | omega | (simp_all; done))); done) | (simp [*]; (repeat' (first | split | omega | (rw [Bool.eq_iff_iff]; simp; omega))); done) | (simp [*])))
  by_cases q4 : 20 < l.length
  · obtain rfl : 2 = R := by simpa [q3, q4] using hR
    ((repeat' (first | simp [go_sem, X_region, *] | simp (disch := omega) only [om, *] | ((first | refine XC_split ?_ ?_ | refine XG_true ?_ ?_ | refine XG_false ?_ ?_ | refine XRg_true ?_ ?_ | refine XRg_false ?_ ?_) <;> intro hc <;> (try simp only [bl] at hc) <;> (try (exfalso; omega))) | refine XD_w [] [] [] (fun _ => none) mixed (by decide +kernel) (sub_none _) ?_ | refine Pure.call (h1) ?_ | refine ⟨_, Pure.at (h1), ?_⟩ | refine ⟨_, h1, ?_⟩ | refine PureAt.call (h1) ?_ | refine Pure.call (h2) ?_ | refine ⟨_, Pure.at (h2), ?_⟩ | refine ⟨_, h2, ?_⟩ | refine PureAt.call (h2) ?_ | (intro bk hbk; (try simp only [go_sem] at hbk)))); all_goals (refine Wk.fin (by repeat (first | exact Sub.refl _ | refine Sub.upd (by simp [*]) ?_)) ?_; first | (simp [*]; done) | (simp only []; (repeat' (first | split | rfl | omega | (simp_all; done))); done) | (simp [*]; (repeat' (first | split | omega | (rw [Bool.eq_iff_iff]; simp; omega))); done) | (simp [*])))
  simp only [q3, q4, if_false, Bool.true_eq_false] at hR
  generalize lo fr = low at *
  generalize hi fr = high at *
  generalize lo to = least at *
  generalize hi to = most at *
  (repeat' (first | simp [go_sem, X_region, *] | simp (disch := omega) only [om, *] | ((first | refine XC_split ?_ ?_ | refine XG_true ?_ ?_ | refine XG_false ?_ ?_ | refine XRg_true ?_ ?_ | refine XRg_false ?_ ?_) <;> intro hc <;> (try simp only [bl] at hc) <;> (try (exfalso; omega))) | refine XD_w [] [] [] (fun _ => none) mixed (by decide +kernel) (sub_none _) ?_ | refine Pure.call (h1) ?_ | refine ⟨_, Pure.at (h1), ?_⟩ | refine ⟨_, h1, ?_⟩ | refine PureAt.call (h1) ?_ | refine Pure.call (h2) ?_ | refine ⟨_, Pure.at (h2), ?_⟩ | refine ⟨_, h2, ?_⟩ | refine PureAt.call (h2) ?_ | refine Pure.call (h3) ?_ | refine ⟨_, Pure.at (h3), ?_⟩ | refine ⟨_, h3, ?_⟩ | refine PureAt.call (h3) ?_ | refine Pure.call (h4) ?_ | refine ⟨_, Pure.at (h4), ?_⟩ | refine ⟨_, h4, ?_⟩ | refine PureAt.call (h4) ?_ | fail))
  intro b hb
  cases sl
  · simp only [Bool.false_eq_true, if_false] at hR
    (repeat' (first | simp [go_sem, X_region, *] | simp (disch := omega) only [om, *] | ((first | refine XC_split ?_ ?_ | refine XG_true ?_ ?_ | refine XG_false ?_ ?_ | refine XRg_true ?_ ?_ | refine XRg_false ?_ ?_) <;> intro hc <;> (try simp only [bl] at hc) <;> (try (exfalso; omega))) | refine XD_w [] [] [] (fun _ => none) mixed (by decide +kernel) (sub_none _) ?_ | refine Pure.call (h1) ?_ | refine ⟨_, Pure.at (h1), ?_⟩ | refine ⟨_, h1, ?_⟩ | refine PureAt.call (h1) ?_ | refine Pure.call (h2) ?_ | refine ⟨_, Pure.at (h2), ?_⟩ | refine ⟨_, h2, ?_⟩ | refine PureAt.call (h2) ?_ | refine Pure.call (h3) ?_ | refine ⟨_, Pure.at (h3), ?_⟩ | refine ⟨_, h3, ?_⟩ | refine PureAt.call (h3) ?_ | refine Pure.call (h4) ?_ | refine ⟨_, Pure.at (h4), ?_⟩ | refine ⟨_, h4, ?_⟩ | refine PureAt.call (h4) ?_ | fail))
    refine X_lpF (fun i => i = 2 ∨ (7 ≤ i ∧ i ≤ 8) ∨ (45 ≤ i ∧ i ≤ 88)) (fun n T h2 => ∃ (i : Nat) (r : List St), n = r.length ∧ i ≤ l.length ∧ l.drop i = r ∧ stepsE low high least most r (prevA l i) = R ∧ T 45 = I i ∧ Sub h h2 ∧ h2 b = some ⟨44, 5, 1, fun _ j => ([S nm, I fr, I to, B false, encL 2 cSt l] : List AV).getD j .any⟩) _ ⟨0, l, rfl, by omega, rfl, hR, by simp [go_sem], Sub.upd hb (Sub.refl _), by simp [go_sem]⟩ ?_
    clear hR
    rintro J hJ n T h2 hfr ⟨i, r, rfl, hi, hd, hR, t45, hsub, hbo⟩
    rcases r with _ | ⟨x, r⟩
    · have hlt := drop_nil hd
      (repeat' (first | simp [go_sem, X_region, *] | simp (disch := omega) only [om, *] | ((first | refine XC_split ?_ ?_ | refine XG_true ?_ ?_ | refine XG_false ?_ ?_ | refine XRg_true ?_ ?_ | refine XRg_false ?_ ?_) <;> intro hc <;> (try simp only [bl] at hc) <;> (try (exfalso; omega))) | refine XD_w [] [] [] (fun _ => none) mixed (by decide +kernel) (sub_none _) ?_ | fail))
      all_goals (subst hR; exact Wk.fin hsub rfl)
    · obtain ⟨hlt, hx, hd2⟩ := drop_cons hd
      (repeat' (first | simp [go_sem, X_region, *] | simp (disch := omega) only [om, *] | ((first | refine XC_split ?_ ?_ | refine XG_true ?_ ?_ | refine XG_false ?_ ?_ | refine XRg_true ?_ ?_ | refine XRg_false ?_ ?_) <;> intro hc <;> (try simp only [bl] at hc) <;> (try (exfalso; omega))) | refine XD_w [] [] [] (fun _ => none) mixed (by decide +kernel) (sub_none _) ?_ | fail))
      intro b2 hb2
      have n12 := ne_free hb2 hbo
      by_cases hi0 : i = 0
      · subst hi0
        have hp : prevA l 0 = none := by simp [prevA, *]
        rw [hp] at hR
        (repeat' (first | simp [go_sem, X_region, *] | simp (disch := omega) only [om, *] | ((first | refine XC_split ?_ ?_ | refine XG_true ?_ ?_ | refine XG_false ?_ ?_ | refine XRg_true ?_ ?_ | refine XRg_false ?_ ?_) <;> intro hc <;> (try simp only [bl] at hc) <;> (try (exfalso; omega))) | refine XD_w [] [] [] (fun _ => none) mixed (by decide +kernel) (sub_none _) ?_ | fail))
        all_goals first
          | (refine Wk.fin (Sub.upd (sub_free hsub hb2) hsub) ?_; rw [← hR]; simp [stepsE]; omega)
          | (refine ⟨_, Nat.lt_succ_self _, hJ.out _ _ _ ⟨(by (repeat (refine fr_upd (by decide) ?_)); exact hfr), _ + 1, r, rfl, by omega, hd2, ?_, by simp [go_sem, *], Sub.upd (sub_free hsub hb2) hsub, by simp [go_sem, *]⟩⟩; rw [← hR, prevA_succ (List.getElem?_eq_some_iff.2 ⟨hlt, hx⟩), stepsE, if_neg (by omega), if_neg (by simp; try omega)])
      · obtain ⟨y, hy⟩ : ∃ y, l[i - 1]? = some y := ⟨l[i - 1], List.getElem?_eq_getElem (by omega)⟩
        have hi1 : 0 < i := by omega
        have hi2 : ((i : Int) - 1).toNat = i - 1 := by omega
        have hp : prevA l i = some y.1 := by simp [prevA, *]
        rw [hp] at hR
        (repeat' (first | simp [go_sem, X_region, *] | simp (disch := omega) only [om, *] | ((first | refine XC_split ?_ ?_ | refine XG_true ?_ ?_ | refine XG_false ?_ ?_ | refine XRg_true ?_ ?_ | refine XRg_false ?_ ?_) <;> intro hc <;> (try simp only [bl] at hc) <;> (try (exfalso; omega))) | refine XD_w [] [] [] (fun _ => none) mixed (by decide +kernel) (sub_none _) ?_ | fail))
        all_goals first
          | (refine Wk.fin (Sub.upd (sub_free hsub hb2) hsub) ?_; rw [← hR]; simp [stepsE, hi0, hy]; omega)
          | (refine ⟨_, Nat.lt_succ_self _, hJ.out _ _ _ ⟨(by (repeat (refine fr_upd (by decide) ?_)); exact hfr), _ + 1, r, rfl, by omega, hd2, ?_, by simp [go_sem, *], Sub.upd (sub_free hsub hb2) hsub, by simp [go_sem, *]⟩⟩; rw [← hR, prevA_succ (List.getElem?_eq_some_iff.2 ⟨hlt, hx⟩), stepsE, if_neg (by omega), if_neg (by simp; try omega)])
  · simp only [if_true] at hR
    (repeat' (first | simp [go_sem, X_region, *] | simp (disch := omega) only [om, *] | ((first | refine XC_split ?_ ?_ | refine XG_true ?_ ?_ | refine XG_false ?_ ?_ | refine XRg_true ?_ ?_ | refine XRg_false ?_ ?_) <;> intro hc <;> (try simp only [bl] at hc) <;> (try (exfalso; omega))) | refine XD_w [] [] [] (fun _ => none) mixed (by decide +kernel) (sub_none _) ?_ | refine Pure.call (h1) ?_ | refine ⟨_, Pure.at (h1), ?_⟩ | refine ⟨_, h1, ?_⟩ | refine PureAt.call (h1) ?_ | refine Pure.call (h2) ?_ | refine ⟨_, Pure.at (h2), ?_⟩ | refine ⟨_, h2, ?_⟩ | refine PureAt.call (h2) ?_ | refine Pure.call (h3) ?_ | refine ⟨_, Pure.at (h3), ?_⟩ | refine ⟨_, h3, ?_⟩ | refine PureAt.call (h3) ?_ | refine Pure.call (h4) ?_ | refine ⟨_, Pure.at (h4), ?_⟩ | refine ⟨_, h4, ?_⟩ | refine PureAt.call (h4) ?_ | fail))
    refine X_lpF (fun i => i = 2 ∨ (7 ≤ i ∧ i ≤ 8) ∨ (45 ≤ i ∧ i ≤ 88)) (fun n T h2 => ∃ (i : Nat) (r : List St), n = r.length ∧ i ≤ l.length ∧ l.drop i = r ∧ stepsE low high (0 : Int) (1000000 : Int) r (prevA l i) = R ∧ T 45 = I i ∧ Sub h h2 ∧ h2 b = some ⟨44, 5, 1, fun _ j => ([S nm, I fr, I to, B true, encL 2 cSt l] : List AV).getD j .any⟩) _ ⟨0, l, rfl, by omega, rfl, hR, by simp [go_sem], Sub.upd hb (Sub.refl _), by simp [go_sem]⟩ ?_
    clear hR
    rintro J hJ n T h2 hfr ⟨i, r, rfl, hi, hd, hR, t45, hsub, hbo⟩
    rcases r with _ | ⟨x, r⟩
    · have hlt := drop_nil hd
      (repeat' (first | simp [go_sem, X_region, *] | simp (disch := omega) only [om, *] | ((first | refine XC_split ?_ ?_ | refine XG_true ?_ ?_ | refine XG_false ?_ ?_ | refine XRg_true ?_ ?_ | refine XRg_false ?_ ?_) <;> intro hc <;> (try simp only [bl] at hc) <;> (try (exfalso; omega))) | refine XD_w [] [] [] (fun _ => none) mixed (by decide +kernel) (sub_none _) ?_ | fail))
      all_goals (subst hR; exact Wk.fin hsub rfl)
    · obtain ⟨hlt, hx, hd2⟩ := drop_cons hd
      (repeat' (first | simp [go_sem, X_region, *] | simp (disch := omega) only [om, *] | ((first | refine XC_split ?_ ?_ | refine XG_true ?_ ?_ | refine XG_false ?_ ?_ | refine XRg_true ?_ ?_ | refine XRg_false ?_ ?_) <;> intro hc <;> (try simp only [bl] at hc) <;> (try (exfalso; omega))) | refine XD_w [] [] [] (fun _ => none) mixed (by decide +kernel) (sub_none _) ?_ | fail))
      intro b2 hb2
      have n12 := ne_free hb2 hbo
      by_cases hi0 : i = 0
      · subst hi0
        have hp : prevA l 0 = none := by simp [prevA, *]
        rw [hp] at hR
        (repeat' (first | simp [go_sem, X_region, *] | simp (disch := omega) only [om, *] | ((first | refine XC_split ?_ ?_ | refine XG_true ?_ ?_ | refine XG_false ?_ ?_ | refine XRg_true ?_ ?_ | refine XRg_false ?_ ?_) <;> intro hc <;> (try simp only [bl] at hc) <;> (try (exfalso; omega))) | refine XD_w [] [] [] (fun _ => none) mixed (by decide +kernel) (sub_none _) ?_ | fail))
        all_goals first
          | (refine Wk.fin (Sub.upd (sub_free hsub hb2) hsub) ?_; rw [← hR]; simp [stepsE]; omega)
          | (refine ⟨_, Nat.lt_succ_self _, hJ.out _ _ _ ⟨(by (repeat (refine fr_upd (by decide) ?_)); exact hfr), _ + 1, r, rfl, by omega, hd2, ?_, by simp [go_sem, *], Sub.upd (sub_free hsub hb2) hsub, by simp [go_sem, *]⟩⟩; rw [← hR, prevA_succ (List.getElem?_eq_some_iff.2 ⟨hlt, hx⟩), stepsE, if_neg (by omega), if_neg (by simp; try omega)])
      · obtain ⟨y, hy⟩ : ∃ y, l[i - 1]? = some y := ⟨l[i - 1], List.getElem?_eq_getElem (by omega)⟩
        have hi1 : 0 < i := by omega
        have hi2 : ((i : Int) - 1).toNat = i - 1 := by omega
        have hp : prevA l i = some y.1 := by simp [prevA, *]
        rw [hp] at hR
        (repeat' (first | simp [go_sem, X_region, *] | simp (disch := omega) only [om, *] | ((first | refine XC_split ?_ ?_ | refine XG_true ?_ ?_ | refine XG_false ?_ ?_ | refine XRg_true ?_ ?_ | refine XRg_false ?_ ?_) <;> intro hc <;> (try simp only [bl] at hc) <;> (try (exfalso; omega))) | refine XD_w [] [] [] (fun _ => none) mixed (by decide +kernel) (sub_none _) ?_ | fail))
        all_goals first
          | (refine Wk.fin (Sub.upd (sub_free hsub hb2) hsub) ?_; rw [← hR]; simp [stepsE, hi0, hy]; omega)
          | (refine ⟨_, Nat.lt_succ_self _, hJ.out _ _ _ ⟨(by (repeat (refine fr_upd (by decide) ?_)); exact hfr), _ + 1, r, rfl, by omega, hd2, ?_, by simp [go_sem, *], Sub.upd (sub_free hsub hb2) hsub, by simp [go_sem, *]⟩⟩; rw [← hR, prevA_succ (List.getElem?_eq_some_iff.2 ⟨hlt, hx⟩), stepsE, if_neg (by omega), if_neg (by simp; try omega)])
end Go.Proofs.Ytmalhikcdideoaa

set_option linter.unusedVariables false
set_option linter.unusedSimpArgs false
namespace Go.Proofs.Ytmalhikcdideoaa
open Go Sl
attribute [local irreducible] LpQ XR XRo XRg XRQ putQ XFv XL XW2 wQ putW X XO XOp XH XHo XW SeqQ BlkQ XOQ XHQ NrmQ XC XM XG XHM XHG XD CallK
def topA (n : Int) : List St → Int
  | [] => n
  | x :: _ => min n x.1
def partsF (n : Int) : List St → List Int
  | [] => []
  | s :: r => max 0 (w (topA n r - s.1)) :: partsF n r
theorem partsF_drop (n : Int) : ∀ (i : Nat) (l : List St), (partsF n l).drop i = partsF n (l.drop i)
  | 0, l => rfl
  | i + 1, [] => rfl
  | i + 1, s :: r => by simp only [partsF, List.drop_succ_cons]; exact partsF_drop n i r
theorem partsF_len (n : Int) : ∀ l : List St, (partsF n l).length = l.length
  | [] => rfl
  | s :: r => by simp [partsF, partsF_len n r]
theorem partsF_at (n : Int) {l : List St} {i : Nat} {s : St} {r : List St} (h : l.drop i = s :: r) : (partsF n l)[i]? = some (max 0 (w (topA n r - s.1))) := by
  have := partsF_drop n i l
  rw [h, partsF] at this
  have h2 := congrArg (fun l => l[0]?) this
  simpa using h2
theorem tslices_ok (t : Tb) (n : Int) (hl : t.steps.length ≤ 20) : Pure Try.prog 61 [encTbA t, I n] (encL 1 cI (partsF n t.steps)) := by
  rcases t with ⟨nm, fr, to, sl, l⟩
  simp only [encTbA] at *
  generalize hR : partsF n l = R
  intro h
  refine callK_body Try.func61 rfl (by rw [nt61]; simp) ?_; rw [nt61, rs61]
  (repeat' (first | simp [go_sem, X_region, *] | simp (disch := omega) only [om, *] | ((first | refine XC_split ?_ ?_ | refine XG_true ?_ ?_ | refine XG_false ?_ ?_ | refine XRg_true ?_ ?_ | refine XRg_false ?_ ?_) <;> intro hc <;> (try simp only [bl] at hc) <;> (try (exfalso; omega))) | refine XD_w [] [] [] (fun _ => none) mixed (by decide +kernel) (sub_none _) ?_ | fail))
  intro b0 hb0
  (repeat' (first | simp [go_sem, X_region, *] | simp (disch := omega) only [om, *] | ((first | refine XC_split ?_ ?_ | refine XG_true ?_ ?_ | refine XG_false ?_ ?_ | refine XRg_true ?_ ?_ | refine XRg_false ?_ ?_) <;> intro hc <;> (try simp only [bl] at hc) <;> (try (exfalso; omega))) | refine XD_w [] [] [] (fun _ => none) mixed (by decide +kernel) (sub_none _) ?_ | fail))
  refine X_makeSlice (s := 1) (by_ := 8) l.length l.length und22 zr3 by3 (by simp [go_sem]) (by simp [go_sem]) (by omega) (by omega) (by omega) fun b hb => ?_
  have n1 := ne_free hb (upd_same h b0 _)
  have hb0' : h b = none := by rwa [upd_ne _ _ n1.1] at hb
  (repeat' (first | simp [go_sem, X_region, *] | simp (disch := omega) only [om, *] | ((first | refine XC_split ?_ ?_ | refine XG_true ?_ ?_ | refine XG_false ?_ ?_ | refine XRg_true ?_ ?_ | refine XRg_false ?_ ?_) <;> intro hc <;> (try simp only [bl] at hc) <;> (try (exfalso; omega))) | refine XD_w [] [] [] (fun _ => none) mixed (by decide +kernel) (sub_none _) ?_ | fail))
  refine X_lpF (fun i => (6 ≤ i ∧ i ≤ 8) ∨ (16 ≤ i ∧ i ≤ 45)) (fun k T h2 => ∃ (i : Nat) (r : List St) (o : Ob), k = r.length ∧ i ≤ l.length ∧ l.drop i = r ∧ T 16 = I i ∧ Sub h h2 ∧ h2 b0 = some ⟨44, 5, 1, fun _ j => ([S nm, I fr, I to, B sl, encL 2 cSt l] : List AV).getD j .any⟩ ∧ h2 b = some o ∧ o.ty = 3 ∧ o.s = 1 ∧ o.n = l.length ∧ ∀ k, k < i → ∃ x, R[k]? = some x ∧ o.f k 0 = I x) _ ⟨0, l, _, rfl, by omega, rfl, by simp [go_sem], ?_, by simp [go_sem, *], upd_same _ _ _, rfl, rfl, rfl, fun k hk => absurd hk (by omega)⟩ ?_
  · refine Sub.upd ?_ (Sub.upd hb0 (Sub.refl _))
    exact hb0'
  rintro J hJ k T h2 hfr ⟨i, r, o, rfl, hi, hd, t16, hsub, ho0, ho, o1, o2, o3, hf⟩
  rcases r with _ | ⟨x, r⟩
  · have hlt := drop_nil hd
    (repeat' (first | simp [go_sem, X_region, *] | simp (disch := omega) only [om, *] | ((first | refine XC_split ?_ ?_ | refine XG_true ?_ ?_ | refine XG_false ?_ ?_ | refine XRg_true ?_ ?_ | refine XRg_false ?_ ?_) <;> intro hc <;> (try simp only [bl] at hc) <;> (try (exfalso; omega))) | refine XD_w [] [] [] (fun _ => none) mixed (by decide +kernel) (sub_none _) ?_ | fail))
    have hRl : R.length = l.length := by rw [← hR, partsF_len]
    rw [← hRl]
    refine Wk.rowF ho hsub hb0' o2 (by omega) (by omega) fun k hk j hj => ?_
    obtain ⟨x, h1, h2⟩ := hf k (by omega)
    obtain rfl : j = 0 := by omega
    rw [h2]
    simp [cellsL, h1, cI]
  · obtain ⟨hlt, hx, hd2⟩ := drop_cons hd
    have hat := partsF_at n hd
    rw [hR] at hat
    (repeat' (first | simp [go_sem, X_region, *] | simp (disch := omega) only [om, *] | ((first | refine XC_split ?_ ?_ | refine XG_true ?_ ?_ | refine XG_false ?_ ?_ | refine XRg_true ?_ ?_ | refine XRg_false ?_ ?_) <;> intro hc <;> (try simp only [bl] at hc) <;> (try (exfalso; omega))) | refine XD_w [] [] [] (fun _ => none) mixed (by decide +kernel) (sub_none _) ?_ | fail))
    intro b2 hb2
    have n2 := ne_free hb2 ho0
    have n3 := ne_free hb2 ho
    rcases r with _ | ⟨y, r⟩
    · have hlt2 := drop_nil hd2
      (repeat' (first | simp [go_sem, X_region, *] | simp (disch := omega) only [om, *] | ((first | refine XC_split ?_ ?_ | refine XG_true ?_ ?_ | refine XG_false ?_ ?_ | refine XRg_true ?_ ?_ | refine XRg_false ?_ ?_) <;> intro hc <;> (try simp only [bl] at hc) <;> (try (exfalso; omega))) | refine XD_w [] [] [] (fun _ => none) mixed (by decide +kernel) (sub_none _) ?_ | fail))
      exact
        (hJ.out _ _ _ ⟨(by (repeat (refine fr_upd (by decide) ?_)); exact hfr), i + 1, _, _, rfl, by omega, hd2, by simp [go_sem, *], Sub.upd hb0' (Sub.upd (sub_free hsub hb2) hsub), by simp [go_sem, *], upd_same _ _ _, rfl, rfl, rfl, fun k hk => by
          by_cases hki : k = i
          · subst hki
            exact ⟨_, hat, by simp [setA, topA, w]⟩
          · obtain ⟨x', h1, h2⟩ := hf k (by omega)
            exact ⟨x', h1, by simpa [setA, hki] using h2⟩⟩)
    · obtain ⟨hlt2, hx2, _⟩ := drop_cons hd2
      (repeat' (first | simp [go_sem, X_region, *] | simp (disch := omega) only [om, *] | ((first | refine XC_split ?_ ?_ | refine XG_true ?_ ?_ | refine XG_false ?_ ?_ | refine XRg_true ?_ ?_ | refine XRg_false ?_ ?_) <;> intro hc <;> (try simp only [bl] at hc) <;> (try (exfalso; omega))) | refine XD_w [] [] [] (fun _ => none) mixed (by decide +kernel) (sub_none _) ?_ | fail))
      refine ⟨_, Nat.lt_succ_self _, ?_⟩
      exact
        (hJ.out _ _ _ ⟨(by (repeat (refine fr_upd (by decide) ?_)); exact hfr), i + 1, _, _, rfl, by omega, hd2, by simp [go_sem, *], Sub.upd hb0' (Sub.upd (sub_free hsub hb2) hsub), by simp [go_sem, *], upd_same _ _ _, rfl, rfl, rfl, fun k hk => by
          by_cases hki : k = i
          · subst hki
            exact ⟨_, hat, by simp [setA, topA, w]⟩
          · obtain ⟨x', h1, h2⟩ := hf k (by omega)
            exact ⟨x', h1, by simpa [setA, hki] using h2⟩⟩)
end Go.Proofs.Ytmalhikcdideoaa

set_option linter.unusedVariables false
set_option linter.unusedSimpArgs false
namespace Go.Proofs.Ytmalhikcdideoaa
open Go Sl
attribute [local irreducible] LpQ XR XRo XRg XRQ putQ XFv XL XW2 wQ putW X XO XOp XH XHo XW SeqQ BlkQ XOQ XHQ NrmQ XC XM XG XHM XHG XD CallK
def lastV (n : Int) : List St → Int → Int
  | [], v => v
  | s :: r, v => lastV n r (if s.1 ≤ n then s.2 else v)
def sumP : List Int → List St → Int
  | p :: ps, s :: ss => p * s.2 + sumP ps ss
  | _, _ => 0
def atF (t : Tb) (n : Int) : Int :=
  if chkTb t = 0 then
    if t.sl = true then (fitV ⟨t.to, w ((500000 + sumP (partsF (fitV ⟨t.fr, n⟩).n t.steps) t.steps) / 1000000)⟩).n else lastV (fitV ⟨t.fr, n⟩).n t.steps 0
  else 0
theorem topA_ran (n : Int) (r : List St) (hn : -1099511627776 ≤ n ∧ n ≤ 1099511627776) (hr : ∀ s ∈ r, -1099511627776 ≤ s.1 ∧ s.1 ≤ 1099511627776) : -1099511627776 ≤ topA n r ∧ topA n r ≤ 1099511627776 := by
  cases r with
  | nil => exact hn
  | cons x r => have := hr x (by simp); show _ ≤ min n x.1 ∧ min n x.1 ≤ _; omega
theorem partsF_ran (n : Int) (hn : -1099511627776 ≤ n ∧ n ≤ 1099511627776) : ∀ (l : List St), (∀ s ∈ l, -1099511627776 ≤ s.1 ∧ s.1 ≤ 1099511627776) → ∀ p ∈ partsF n l, 0 ≤ p ∧ p ≤ 2199023255552
  | [], _, p, hp => by cases hp
  | s :: r, h, p, hp => by
    have hs := h s (by simp)
    have hr : ∀ s ∈ r, -1099511627776 ≤ s.1 ∧ s.1 ≤ 1099511627776 := fun s hs => h s (by simp [hs])
    have ht := topA_ran n r hn hr
    unfold partsF at hp
    rcases List.mem_cons.1 hp with rfl | hp
    · have : w (topA n r - s.1) = topA n r - s.1 := w64 (by omega) (by omega)
      rw [this]; omega
    · exact partsF_ran n hn r hr p hp
/-- What a table that Check lets through is. -/
theorem chk_facts {t : Tb} (h : chkTb t = 0) : tkindsB t = true ∧ t.steps.length ≤ 20 ∧ 0 < t.steps.length ∧ ∀ s ∈ t.steps, lo t.fr ≤ s.1 ∧ s.1 ≤ hi t.fr ∧ (t.sl = true → 0 ≤ s.2 ∧ s.2 ≤ 1000000) := by
  unfold chkTb at h
  split at h
  · cases h
  split at h
  · cases h
  rename_i h1
  split at h
  · cases h
  split at h
  · cases h
  refine ⟨by simpa using h1, by omega, by omega, fun s hs => ?_⟩
  have := stepsE_in _ _ _ _ _ _ h s hs
  exact ⟨this.1, this.2.1, fun hsl => by rw [if_pos hsl, if_pos hsl] at this; exact this.2.2⟩
set_option maxHeartbeats 4000000 in
theorem tat_ok (t : Tb) (n : Int) : Pure Try.prog 45 [encTbA t, I n] (I (atF t n)) := by
  have h1 := tcheck_ok t
  have h2 := tfit_ok t n
  have hfit := fitV_in ⟨t.fr, n⟩
  generalize hR : atF t n = R
  unfold atF at hR
  by_cases hc : chkTb t = 0
  · rw [if_pos hc] at hR
    rw [hc] at h1
    obtain ⟨c1, c2, c3, c4⟩ := chk_facts hc
    have h3 := tslices_ok t (fitV ⟨t.fr, n⟩).n c2
    clear hc
    rcases t with ⟨nm, fr, to, sl, l⟩
    have hk : (fitV ⟨fr, n⟩).k = fr ∨ (fitV ⟨fr, n⟩).k = 0 := by
      unfold fitV; split
      · right; rfl
      · left; rfl
    generalize (fitV ⟨fr, n⟩) = m at *
    simp only [encTbA] at *
    cases sl
    · simp only [Bool.false_eq_true, if_false] at hR
      intro h; refine callK_body Try.func45 rfl (by rw [nt45]; simp) ?_; rw [nt45, rs45]
      (repeat' (first | simp [go_sem, X_region, *] | simp (disch := omega) only [om, *] | ((first | refine XC_split ?_ ?_ | refine XG_true ?_ ?_ | refine XG_false ?_ ?_ | refine XRg_true ?_ ?_ | refine XRg_false ?_ ?_) <;> intro hc <;> (try simp only [bl] at hc) <;> (try (exfalso; omega))) | refine XD_w [] [] [] (fun _ => none) mixed (by decide +kernel) (sub_none _) ?_ | refine Pure.call (h1) ?_ | refine ⟨_, Pure.at (h1), ?_⟩ | refine ⟨_, h1, ?_⟩ | refine PureAt.call (h1) ?_ | refine Pure.call (h2) ?_ | refine ⟨_, Pure.at (h2), ?_⟩ | refine ⟨_, h2, ?_⟩ | refine PureAt.call (h2) ?_ | fail))
      intro b hb
      (repeat' (first | simp [go_sem, X_region, *] | simp (disch := omega) only [om, *] | ((first | refine XC_split ?_ ?_ | refine XG_true ?_ ?_ | refine XG_false ?_ ?_ | refine XRg_true ?_ ?_ | refine XRg_false ?_ ?_) <;> intro hc <;> (try simp only [bl] at hc) <;> (try (exfalso; omega))) | refine XD_w [] [] [] (fun _ => none) mixed (by decide +kernel) (sub_none _) ?_ | refine Pure.call (h1) ?_ | refine ⟨_, Pure.at (h1), ?_⟩ | refine ⟨_, h1, ?_⟩ | refine PureAt.call (h1) ?_ | refine Pure.call (h2) ?_ | refine ⟨_, Pure.at (h2), ?_⟩ | refine ⟨_, h2, ?_⟩ | refine PureAt.call (h2) ?_ | fail))
      refine X_lpF (fun i => i = 5 ∨ i = 7 ∨ (29 ≤ i ∧ i ≤ 39)) (fun k T h2 => ∃ (i : Nat) (r : List St) (v : Int), k = r.length ∧ i ≤ l.length ∧ l.drop i = r ∧ T 29 = I i ∧ T 5 = I v ∧ lastV m.n r v = R ∧ Sub h h2) _ ⟨0, l, 0, rfl, by omega, rfl, by simp [go_sem], by simp [go_sem], hR, Sub.upd hb (Sub.refl _)⟩ ?_
      clear hR
      rintro J hJ k T h2 hfr ⟨i, r, v, rfl, hi, hd, t29, t5, hR, hsub⟩
      rcases r with _ | ⟨x, r⟩
      · have hlt := drop_nil hd
        (repeat' (first | simp [go_sem, X_region, *] | simp (disch := omega) only [om, *] | ((first | refine XC_split ?_ ?_ | refine XG_true ?_ ?_ | refine XG_false ?_ ?_ | refine XRg_true ?_ ?_ | refine XRg_false ?_ ?_) <;> intro hc <;> (try simp only [bl] at hc) <;> (try (exfalso; omega))) | refine XD_w [] [] [] (fun _ => none) mixed (by decide +kernel) (sub_none _) ?_ | fail))
        all_goals (subst hR; exact Wk.fin hsub rfl)
      · obtain ⟨hlt, hx, hd2⟩ := drop_cons hd
        rw [lastV] at hR
        (repeat' (first | simp [go_sem, X_region, *] | simp (disch := omega) only [om, *] | ((first | refine XC_split ?_ ?_ | refine XG_true ?_ ?_ | refine XG_false ?_ ?_ | refine XRg_true ?_ ?_ | refine XRg_false ?_ ?_) <;> intro hc <;> (try simp only [bl] at hc) <;> (try (exfalso; omega))) | refine XD_w [] [] [] (fun _ => none) mixed (by decide +kernel) (sub_none _) ?_ | fail))
        intro b2 hb2
        (repeat' (first | simp [go_sem, X_region, *] | simp (disch := omega) only [om, *] | ((first | refine XC_split ?_ ?_ | refine XG_true ?_ ?_ | refine XG_false ?_ ?_ | refine XRg_true ?_ ?_ | refine XRg_false ?_ ?_) <;> intro hc <;> (try simp only [bl] at hc) <;> (try (exfalso; omega))) | refine XD_w [] [] [] (fun _ => none) mixed (by decide +kernel) (sub_none _) ?_ | fail))
        · rw [if_pos (by assumption)] at hR
          exact ⟨_, Nat.lt_succ_self _, hJ.out _ _ _ ⟨(by (repeat (refine fr_upd (by decide) ?_)); exact hfr), i + 1, r, _, rfl, by omega, hd2, by simp [go_sem, *], by simp [go_sem, *], hR, Sub.upd (sub_free hsub hb2) hsub⟩⟩
        · rw [if_neg (by omega)] at hR
          exact ⟨_, Nat.lt_succ_self _, hJ.out _ _ _ ⟨(by (repeat (refine fr_upd (by decide) ?_)); exact hfr), i + 1, r, _, rfl, by omega, hd2, by simp [go_sem, *], by simp [go_sem, *], hR, Sub.upd (sub_free hsub hb2) hsub⟩⟩
    · simp only [if_true] at hR
      have hfr2 : fr = 2 ∧ to = 2 := by
        simp [tkindsB] at c1
        omega
      obtain ⟨rfl, rfl⟩ := hfr2
      have hm : -1099511627776 ≤ m.n ∧ m.n ≤ 1099511627776 := by
        rcases hk with hk | hk <;> rw [hk] at hfit <;> simp [lo, hi] at hfit <;> omega
      have hp := partsF_ran m.n hm l fun s hs => by have := c4 s hs; simp [lo, hi] at this; omega
      have hpl := partsF_len m.n l
      have hv : ∀ s ∈ l, 0 ≤ s.2 ∧ s.2 ≤ 1000000 := fun s hs => (c4 s hs).2.2 rfl
      clear c4 c1 hfit hk
      generalize partsF m.n l = ps at *
      generalize hQ : (500000 + sumP ps l) = Q at hR
      intro h; refine callK_body Try.func45 rfl (by rw [nt45]; simp) ?_; rw [nt45, rs45]
      (repeat' (first | simp [go_sem, X_region, *] | simp (disch := omega) only [om, *] | ((first | refine XC_split ?_ ?_ | refine XG_true ?_ ?_ | refine XG_false ?_ ?_ | refine XRg_true ?_ ?_ | refine XRg_false ?_ ?_) <;> intro hc <;> (try simp only [bl] at hc) <;> (try (exfalso; omega))) | refine XD_w [] [] [] (fun _ => none) mixed (by decide +kernel) (sub_none _) ?_ | refine Pure.call (h1) ?_ | refine ⟨_, Pure.at (h1), ?_⟩ | refine ⟨_, h1, ?_⟩ | refine PureAt.call (h1) ?_ | refine Pure.call (h2) ?_ | refine ⟨_, Pure.at (h2), ?_⟩ | refine ⟨_, h2, ?_⟩ | refine PureAt.call (h2) ?_ | fail))
      intro b hb
      (repeat' (first | simp [go_sem, X_region, *] | simp (disch := omega) only [om, *] | ((first | refine XC_split ?_ ?_ | refine XG_true ?_ ?_ | refine XG_false ?_ ?_ | refine XRg_true ?_ ?_ | refine XRg_false ?_ ?_) <;> intro hc <;> (try simp only [bl] at hc) <;> (try (exfalso; omega))) | refine XD_w [] [] [] (fun _ => none) mixed (by decide +kernel) (sub_none _) ?_ | refine Pure.call (h1) ?_ | refine ⟨_, Pure.at (h1), ?_⟩ | refine ⟨_, h1, ?_⟩ | refine PureAt.call (h1) ?_ | refine Pure.call (h2) ?_ | refine ⟨_, Pure.at (h2), ?_⟩ | refine ⟨_, h2, ?_⟩ | refine PureAt.call (h2) ?_ | refine Pure.call (h3) ?_ | refine ⟨_, Pure.at (h3), ?_⟩ | refine ⟨_, h3, ?_⟩ | refine PureAt.call (h3) ?_ | fail))
      have hfit2 := fitV_ok ⟨2, w (Q / 1000000)⟩
      simp only [encV] at hfit2
      generalize fitV ⟨2, w (Q / 1000000)⟩ = v at *
      refine X_lpF (fun i => (8 ≤ i ∧ i ≤ 14) ∨ (45 ≤ i ∧ i ≤ 74)) (fun k T h2 => ∃ (i : Nat) (rp : List Int) (rs : List St) (acc : Int), k = rp.length ∧ i ≤ l.length ∧ ps.drop i = rp ∧ l.drop i = rs ∧ 500000 ≤ acc ∧ acc ≤ 500000 + i * 2199023255552000000 ∧ acc + sumP rp rs = Q ∧ T 45 = I i ∧ T 8 = U (acc / 18446744073709551616) ∧ T 9 = U (acc % 18446744073709551616) ∧ Sub h h2 ∧ h2 b = some ⟨44, 5, 1, fun _ j => ([S nm, I 2, I 2, B true, encL 2 cSt l] : List AV).getD j .any⟩) _
        ⟨0, ps, l, 500000, rfl, by omega, rfl, rfl, by omega, by omega, hQ, by simp [go_sem], by simp [go_sem], by simp [go_sem], Sub.upd hb (Sub.refl _), by simp [go_sem]⟩ ?_
      clear hQ
      rintro J hJ k T h2 hfr ⟨i, rp, rs, acc, rfl, hi, hd, hd', a1, a2, hQ, t45, t8, t9, hsub, hbo⟩
      rcases rp with _ | ⟨p, rp⟩
      · have hlt := drop_nil hd
        have hacc : acc = Q := by simpa [sumP] using hQ
        subst hacc
        have hdiv := div64_ok (acc / 18446744073709551616) (acc % 18446744073709551616) (by omega) (by omega) (by omega) (by omega)
        rw [show acc / 18446744073709551616 * 18446744073709551616 + acc % 18446744073709551616 = acc by omega] at hdiv
        have hw : IntKind.i64.wrap (acc / 1000000) = w (acc / 1000000) := rfl
        clear hm hp hv c2 c3
        (repeat' (first | simp [go_sem, X_region, *] | simp (disch := omega) only [om, *] | ((first | refine XC_split ?_ ?_ | refine XG_true ?_ ?_ | refine XG_false ?_ ?_ | refine XRg_true ?_ ?_ | refine XRg_false ?_ ?_) <;> intro hc <;> (try simp only [bl] at hc) <;> (try (exfalso; omega))) | refine XD_w [] [] [] (fun _ => none) mixed (by decide +kernel) (sub_none _) ?_ | refine Pure.call (hdiv) ?_ | refine ⟨_, Pure.at (hdiv), ?_⟩ | refine ⟨_, hdiv, ?_⟩ | refine PureAt.call (hdiv) ?_ | refine Pure.call (hfit2) ?_ | refine ⟨_, Pure.at (hfit2), ?_⟩ | refine ⟨_, hfit2, ?_⟩ | refine PureAt.call (hfit2) ?_ | fail))
        all_goals (subst hR; exact Wk.fin hsub rfl)
      · obtain ⟨hlt, hx, hd2⟩ := drop_cons hd
        rcases rs with _ | ⟨x, rs⟩
        · have := drop_nil hd'
          omega
        obtain ⟨hlt', hx', hd2'⟩ := drop_cons hd'
        have p1 := hp p (by rw [← hx]; exact List.getElem_mem hlt)
        have x1 := hv x (by rw [← hx']; exact List.getElem_mem hlt')
        have hz0 : 0 ≤ p * x.2 := Int.mul_nonneg p1.1 x1.1
        have hz1 : p * x.2 ≤ 2199023255552 * 1000000 := Int.mul_le_mul p1.2 x1.2 x1.1 (by omega)
        have hmul := mul64_ok p x.2 (by omega) (by omega) (by omega) (by omega)
        rw [sumP] at hQ
        generalize p * x.2 = z at *
        have hadd := add64_ok (acc % 18446744073709551616) (z % 18446744073709551616) (by omega) (by omega)
        have e1 : acc / 18446744073709551616 + (z / 18446744073709551616 + (acc % 18446744073709551616 + z % 18446744073709551616) / 18446744073709551616) = (acc + z) / 18446744073709551616 := by omega
        have e2 : (acc % 18446744073709551616 + z % 18446744073709551616) % 18446744073709551616 = (acc + z) % 18446744073709551616 := by omega
        rw [e2] at hadd
        have w1 : IntKind.u64.wrap p = p := wrap_u64 (by omega) (by omega)
        have w2 : IntKind.u64.wrap x.2 = x.2 := wrap_u64 (by omega) (by omega)
        have w3 : IntKind.u64.wrap (z / 18446744073709551616 + (acc % 18446744073709551616 + z % 18446744073709551616) / 18446744073709551616) = z / 18446744073709551616 + (acc % 18446744073709551616 + z % 18446744073709551616) / 18446744073709551616 := wrap_u64 (by omega) (by omega)
        have w4 : IntKind.u64.wrap ((acc + z) / 18446744073709551616) = (acc + z) / 18446744073709551616 := wrap_u64 (by omega) (by omega)
        (repeat' (first | simp [go_sem, X_region, *] | simp (disch := omega) only [om, *] | ((first | refine XC_split ?_ ?_ | refine XG_true ?_ ?_ | refine XG_false ?_ ?_ | refine XRg_true ?_ ?_ | refine XRg_false ?_ ?_) <;> intro hc <;> (try simp only [bl] at hc) <;> (try (exfalso; omega))) | refine XD_w [] [] [] (fun _ => none) mixed (by decide +kernel) (sub_none _) ?_ | refine Pure.call (hmul) ?_ | refine ⟨_, Pure.at (hmul), ?_⟩ | refine ⟨_, hmul, ?_⟩ | refine PureAt.call (hmul) ?_ | refine Pure.call (hadd) ?_ | refine ⟨_, Pure.at (hadd), ?_⟩ | refine ⟨_, hadd, ?_⟩ | refine PureAt.call (hadd) ?_ | fail))
        exact ⟨_, Nat.lt_succ_self _, hJ.out _ _ _ ⟨(by (repeat (refine fr_upd (by decide) ?_)); exact hfr), i + 1, rp, rs, acc + z, rfl, by omega, hd2, hd2', by omega, by omega, by omega, by simp [go_sem, *], by simp [go_sem, *], by simp [go_sem, *], hsub, by simp [go_sem, *]⟩⟩
  · rw [if_neg hc] at hR
    subst hR
    intro h; refine callK_body Try.func45 rfl (by rw [nt45]; simp) ?_; rw [nt45, rs45]
    ((repeat' (first | simp [go_sem, X_region, *] | simp (disch := omega) only [om, *] | ((first | refine XC_split ?_ ?_ | refine XG_true ?_ ?_ | refine XG_false ?_ ?_ | refine XRg_true ?_ ?_ | refine XRg_false ?_ ?_) <;> intro hc <;> (try simp only [bl] at hc) <;> (try (exfalso; omega))) | refine XD_w [] [] [] (fun _ => none) mixed (by decide +kernel) (sub_none _) ?_ | refine Pure.call (h1) ?_ | refine ⟨_, Pure.at (h1), ?_⟩ | refine ⟨_, h1, ?_⟩ | refine PureAt.call (h1) ?_ | (intro bk hbk; (try simp only [go_sem] at hbk)))); all_goals (refine Wk.fin (by repeat (first | exact Sub.refl _ | refine Sub.upd (by simp [*]) ?_)) ?_; first | (simp [*]; done) | (simp only []; (repeat' (first | split | rfl | omega | (simp_all; done))); done) | (simp [*]; (repeat' (first | split | omega | (rw [Bool.eq_iff_iff]; simp; omega))); done) | (simp [*])))
end Go.Proofs.Ytmalhikcdideoaa

set_option linter.unusedVariables false
set_option linter.unusedSimpArgs false
namespace Go.Proofs.Ytmalhikcdideoaa
open Go Sl
attribute [local irreducible] LpQ XR XRo XRg XRQ putQ XFv XL XW2 wQ putW X XO XOp XH XHo XW SeqQ BlkQ XOQ XHQ NrmQ XC XM XG XHM XHG XD CallK
theorem fit3_of3 (a : V) : fit3 (of3 a) = of3 a := by
  unfold of3 fit3
  repeat' split
  all_goals simp_all
theorem boolV {a : V} (g : Good a) (h : a.k = 1 ∨ a.k = 0) : a = v0 ∨ a = ⟨1, 0⟩ ∨ a = ⟨1, 1⟩ := by
  rcases h with h | h
  · have h1 := g.l; have h2 := g.h
    rw [h] at h1 h2
    simp [lo, hi] at h1 h2
    have : a.n = 0 ∨ a.n = 1 := by omega
    rcases this with h3 | h3
    · right; left; cases a; simp_all
    · right; right; cases a; simp_all
  · exact .inl (g.none h)
theorem fit_of {a : V} (ga : Good a) {k n : Int} (hk : k = a.k) (h1 : lo a.k ≤ n) (h2 : n ≤ hi a.k) : fitV ⟨k, n⟩ = ⟨a.k, n⟩ := by
  subst hk; exact fit_in ga.k0 ga.k6 h1 h2
section
variable (atF : Tb → Int → Int) (rnd : Int → Int → Int → Int) (yr : Int → Int → Int)
theorem str_res2 {op nk nn : Int} {t : Tb} {a b : V} (hop : op = 7 ∨ op = 8 ∨ op = 9 ∨ op = 10 ∨ op = 11 ∨ op = 12 ∨ op = 13 ∨ op = 14 ∨ op = 18) (ga : Good a) (gb : Good b) (ha : a.k ≠ 0) (hb : b.k ≠ 0) (hk : (kindF op nk a.k b.k 0 t.fr t.to).2 = true) :
    strictF atF rnd yr op nk nn a b t = resF atF rnd yr op nk nn a b v0 false t := by
  have fa := ga.fit; have fb := gb.fit
  have a0 := ga.k0; have a6 := ga.k6; have al := ga.l; have ah := ga.h
  have b0 := gb.k0; have b6 := gb.k6; have bl := gb.l; have bh := gb.h
  rcases hop with rfl | rfl | rfl | rfl | rfl | rfl | rfl | rfl | rfl
  · simp [strictF, resF]
  · simp [strictF, resF]
  · have e : a.k = b.k := by
      by_cases e : a.k = b.k
      · exact e
      · simp [kindF, joinK, ha, hb, e] at hk
    simp [strictF, resF, V_eq, e]
  · have e : (a.k = b.k ∧ a.k ≠ 1 ∧ a.k ≠ 4) ∨ (a.k = 4 ∧ b.k = 3) := by
      simp only [kindF, sumK] at hk
      simp at hk
      split at hk
      · simp at hk
      · simp only [ha, hb, or_self, if_false] at hk
        split at hk
        · right; assumption
        · split at hk
          · simp at hk
          · simp at hk; left; exact ⟨hk, by omega, by omega⟩
    simp [strictF, resF, addV, fa, fb, ha, hb, e, permF]
  · have e : (a.k = 4 ∧ b.k = 4) ∨ (¬ (a.k = 4 ∧ b.k = 4) ∧ ((a.k = b.k ∧ a.k ≠ 1) ∨ (a.k = 4 ∧ b.k = 3))) := by
      simp only [kindF, sumK] at hk
      simp at hk
      split at hk
      · simp at hk
      · simp only [ha, hb, or_self, if_false] at hk
        split at hk
        · right; exact ⟨by omega, by right; assumption⟩
        · split at hk
          · left; assumption
          · simp at hk; right; exact ⟨by assumption, .inl ⟨hk, by omega⟩⟩
    rcases e with ⟨e1, e2⟩ | ⟨e1, e2⟩
    · simp [strictF, resF, subV, fa, fb, e1, e2, permF]
    · have e3 : ¬ (a.k = b.k ∧ a.k = 4) := by omega
      simp [strictF, resF, subV, fa, fb, ha, hb, e1, e2, permF, e3]
  · have e : (a.k = 2 ∨ a.k = 3 ∨ a.k = 5 ∨ a.k = 6) ∧ (b.k = 6 ∨ b.k = 5 ∧ (a.k = 2 ∨ a.k = 3)) := by
      simp only [kindF, productK] at hk
      simp only [ha, hb, or_false] at hk
      simp at hk
      split at hk
      · simp at hk
      · rename_i hq
        split at hk
        · rename_i h5
          simp at hk
          exact ⟨by omega, .inr ⟨h5, hk⟩⟩
        · exact ⟨by omega, by omega⟩
    have n1 : ¬ (a.k = 1 ∨ a.k = 4) := by omega
    rcases e with ⟨e1, e2⟩
    by_cases h6 : b.k = 6
    · have := scaled_fit a.k a.n b.n (by omega) (by omega) (by omega)
      simp [strictF, resF, timesV, fa, fb, ha, hb, n1, h6, permF, this]
    · have h5 : b.k = 5 ∧ (a.k = 2 ∨ a.k = 3) := by omega
      simp [strictF, resF, timesV, fa, fb, ha, n1, h5, permF]
  · have e : a.k = b.k := by
      by_cases e : a.k = b.k
      · exact e
      · simp [kindF, joinK, ha, hb, e] at hk
    have f := fit_of ga (k := (permF 13 a.k b.k v0.k t.fr t.to).1) (n := min a.n b.n) (by simp [permF]) (by rw [← e] at bl; omega) (by omega)
    simp only [strictF, resF, f]
    simp
    cases a; cases b
    simp only at *
    subst e
    split <;> simp <;> omega
  · have e : a.k = b.k := by
      by_cases e : a.k = b.k
      · exact e
      · simp [kindF, joinK, ha, hb, e] at hk
    have f := fit_of ga (k := (permF 14 a.k b.k v0.k t.fr t.to).1) (n := max a.n b.n) (by simp [permF]) (by omega) (by rw [← e] at bh; omega)
    simp only [strictF, resF, f]
    simp
    cases a; cases b
    simp only at *
    subst e
    split <;> simp <;> omega
  · simp [strictF, resF, permF]
theorem eval_comp {op nk nn : Int} {l : List V} {t : Tb} (hop : isOp op) (hl : (l.length : Int) = ar op) (hg : ∀ v ∈ l, Good v) (ht : op = 16 → 1 ≤ t.fr ∧ t.fr ≤ 6) :
    evalV atF rnd yr op nk nn l t = compV atF rnd yr op nk nn l t := by
  unfold evalV compV
  have hp := poss_eq (nk := nk) (fr := t.fr) (to := t.to) (l := l.map (·.k)) hop (by simpa using hl) (by simpa using fun v hv => ⟨(hg v hv).k0, (hg v hv).k6⟩) ht
  rw [hp]
  by_cases hk : kindP op nk t.fr t.to (l.map (·.k)) = true
  case neg => rw [if_neg hk, if_neg hk]
  rw [if_pos hk, if_pos hk]
  clear hp
  have two : ∀ a b : V, l = [a, b] → (op = 7 ∨ op = 8 ∨ op = 9 ∨ op = 10 ∨ op = 11 ∨ op = 12 ∨ op = 13 ∨ op = 14 ∨ op = 18) → (if (logicF op (l.getD 0 v0) (l.getD 1 v0) (l.getD 2 v0)).2 = true then ((logicF op (l.getD 0 v0) (l.getD 1 v0) (l.getD 2 v0)).1, (0 : Int))
      else if l.any (fun v => decide (v.k = 0)) = true then (v0, 0) else (strictF atF rnd yr op nk nn (l.getD 0 v0) (l.getD 1 v0) t, 0)) = (resF atF rnd yr op nk nn (l.getD 0 v0) (l.getD 1 v0) (l.getD 2 v0) (l.any fun v => decide (v.k = 0)) t, 0) := by
    rintro a b rfl h
    have hlog : (logicF op a b v0).2 = false := by
      rcases h with rfl | rfl | rfl | rfl | rfl | rfl | rfl | rfl | rfl <;> simp [logicF]
    simp only [List.getD_cons_zero, List.getD_cons_succ, List.getD_nil, hlog, Bool.false_eq_true, if_false]
    by_cases hn : ([a, b].any fun v => decide (v.k = 0)) = true
    · rw [if_pos hn, hn]
      have : resF atF rnd yr op nk nn a b v0 true t = v0 := by
        unfold resF
        rcases h with rfl | rfl | rfl | rfl | rfl | rfl | rfl | rfl | rfl <;> simp
      rw [this]
    · rw [if_neg hn]
      simp at hn
      have : ([a, b].any fun v => decide (v.k = 0)) = false := by simp [hn]
      rw [this, str_res2 atF rnd yr h (hg a (by simp)) (hg b (by simp)) hn.1 hn.2 hk]
  have t2 : ar op = 2 → ∃ a b, l = [a, b] := fun h => len2 (by rw [hl, h])
  rcases hop.cases with rfl | rfl | rfl | rfl | rfl | rfl | rfl | rfl | rfl | rfl | rfl | rfl | rfl | rfl | rfl
  · obtain ⟨a, rfl⟩ := len1 (show (l.length : Int) = 1 by rw [hl]; decide)
    simp [logicF, resF, not3, fit3_of3]
  · obtain ⟨a, b, rfl⟩ := t2 (by decide)
    simp [kindP, kindF] at hk
    rcases boolV (hg a (by simp)) hk.1 with rfl | rfl | rfl <;> rcases boolV (hg b (by simp)) hk.2 with rfl | rfl | rfl <;> simp [logicF, resF, val3, and3, fit3, of3, yesV, v0]
  · obtain ⟨a, b, rfl⟩ := t2 (by decide)
    simp [kindP, kindF] at hk
    rcases boolV (hg a (by simp)) hk.1 with rfl | rfl | rfl <;> rcases boolV (hg b (by simp)) hk.2 with rfl | rfl | rfl <;> simp [logicF, resF, val3, or3, not3, and3, fit3, of3, yesV, v0]
  · obtain ⟨a, b, h⟩ := t2 (by decide)
    exact two a b h (by simp)
  · obtain ⟨a, b, h⟩ := t2 (by decide)
    exact two a b h (by simp)
  · obtain ⟨a, b, h⟩ := t2 (by decide)
    exact two a b h (by simp)
  · obtain ⟨a, b, h⟩ := t2 (by decide)
    exact two a b h (by simp)
  · obtain ⟨a, b, h⟩ := t2 (by decide)
    exact two a b h (by simp)
  · obtain ⟨a, b, h⟩ := t2 (by decide)
    exact two a b h (by simp)
  · obtain ⟨a, b, h⟩ := t2 (by decide)
    exact two a b h (by simp)
  · obtain ⟨a, b, h⟩ := t2 (by decide)
    exact two a b h (by simp)
  · obtain ⟨a, b, c, rfl⟩ := len3 (show (l.length : Int) = 3 by rw [hl]; decide)
    simp [kindP, kindF] at hk
    rcases boolV (hg a (by simp)) hk.2 with rfl | rfl | rfl <;> simp [logicF, resF, chooseV, fit3, of3, v0]
  · obtain ⟨a, rfl⟩ := len1 (show (l.length : Int) = 1 by rw [hl]; decide)
    by_cases hn : a.k = 0 <;> simp [logicF, resF, strictF, permF, hn]
  · obtain ⟨a, rfl⟩ := len1 (show (l.length : Int) = 1 by rw [hl]; decide)
    by_cases hn : a.k = 0 <;> simp [logicF, resF, strictF, permF, hn]
  · obtain ⟨a, b, h⟩ := t2 (by decide)
    exact two a b h (by simp)
end
end Go.Proofs.Ytmalhikcdideoaa

set_option linter.unusedVariables false
set_option linter.unusedSimpArgs false
namespace Go.Proofs.Ytmalhikcdideoaa
open Go Sl
attribute [local irreducible] LpQ XR XRo XRg XRQ putQ XFv XL XW2 wQ putW X XO XOp XH XHo XW SeqQ BlkQ XOQ XHQ NrmQ XC XM XG XHM XHG XD CallK
@[go_sem] theorem encVa (v : V) : cV v = [I v.k, I v.n] := rfl
def rndF (n way m : Int) : Int := (roundF n way m).1
abbrev strictT := strictF atF rndF yearsF
section
variable (kids nm tn st : AV) (nk nn fr to : Int) (sl : Bool) (a b : V) (t : Tb)
theorem strict_0 : Pure Try.prog 16 [encNd 0 kids nk nn nm, encL 2 cV [], encTb tn fr to sl st] (encV (strictT 0 nk nn a b t)) := by
  intro h; refine callK_body Try.func16 rfl (by rw [nt16]; simp) ?_; rw [nt16, rs16]
  ((repeat' (first | simp [go_sem, X_region, *] | simp (disch := omega) only [om, *] | ((first | refine XC_split ?_ ?_ | refine XG_true ?_ ?_ | refine XG_false ?_ ?_ | refine XRg_true ?_ ?_ | refine XRg_false ?_ ?_) <;> intro hc <;> (try simp only [bl] at hc) <;> (try (exfalso; omega))) | refine XD_w [] [] [] (fun _ => none) mixed (by decide +kernel) (sub_none _) ?_ | refine Pure.call (fitV_ok _) ?_ | refine ⟨_, Pure.at (fitV_ok _), ?_⟩ | refine ⟨_, fitV_ok _, ?_⟩ | refine PureAt.call (fitV_ok _) ?_ | (intro bk hbk; (try simp only [go_sem] at hbk)))); all_goals (refine Wk.fin (by repeat (first | exact Sub.refl _ | refine Sub.upd (by simp [*]) ?_)) ?_; first | (simp [strictT, strictF, encV, *]; done) | (simp only [strictT, strictF, encV]; (repeat' (first | split | rfl | omega | (simp_all; done))); done) | (simp [strictT, strictF, encV, *]; (repeat' (first | split | omega | (rw [Bool.eq_iff_iff]; simp; omega))); done) | (simp [strictT, strictF, encV, *])))
theorem strict_7 : Pure Try.prog 16 [encNd 7 kids nk nn nm, encL 2 cV [a, b], encTb tn fr to sl st] (encV (strictT 7 nk nn a b t)) := by
  intro h; refine callK_body Try.func16 rfl (by rw [nt16]; simp) ?_; rw [nt16, rs16]
  ((repeat' (first | simp [go_sem, X_region, *] | simp (disch := omega) only [om, *] | ((first | refine XC_split ?_ ?_ | refine XG_true ?_ ?_ | refine XG_false ?_ ?_ | refine XRg_true ?_ ?_ | refine XRg_false ?_ ?_) <;> intro hc <;> (try simp only [bl] at hc) <;> (try (exfalso; omega))) | refine XD_w [] [] [] (fun _ => none) mixed (by decide +kernel) (sub_none _) ?_ | refine Pure.call (yes_ok _) ?_ | refine ⟨_, Pure.at (yes_ok _), ?_⟩ | refine ⟨_, yes_ok _, ?_⟩ | refine PureAt.call (yes_ok _) ?_ | (intro bk hbk; (try simp only [go_sem] at hbk)))); all_goals (refine Wk.fin (by repeat (first | exact Sub.refl _ | refine Sub.upd (by simp [*]) ?_)) ?_; first | (simp [strictT, strictF, encV, *]; done) | (simp only [strictT, strictF, encV]; (repeat' (first | split | rfl | omega | (simp_all; done))); done) | (simp [strictT, strictF, encV, *]; (repeat' (first | split | omega | (rw [Bool.eq_iff_iff]; simp; omega))); done) | (simp [strictT, strictF, encV, *])))
theorem strict_8 : Pure Try.prog 16 [encNd 8 kids nk nn nm, encL 2 cV [a, b], encTb tn fr to sl st] (encV (strictT 8 nk nn a b t)) := by
  intro h; refine callK_body Try.func16 rfl (by rw [nt16]; simp) ?_; rw [nt16, rs16]
  ((repeat' (first | simp [go_sem, X_region, *] | simp (disch := omega) only [om, *] | ((first | refine XC_split ?_ ?_ | refine XG_true ?_ ?_ | refine XG_false ?_ ?_ | refine XRg_true ?_ ?_ | refine XRg_false ?_ ?_) <;> intro hc <;> (try simp only [bl] at hc) <;> (try (exfalso; omega))) | refine XD_w [] [] [] (fun _ => none) mixed (by decide +kernel) (sub_none _) ?_ | refine Pure.call (yes_ok _) ?_ | refine ⟨_, Pure.at (yes_ok _), ?_⟩ | refine ⟨_, yes_ok _, ?_⟩ | refine PureAt.call (yes_ok _) ?_ | (intro bk hbk; (try simp only [go_sem] at hbk)))); all_goals (refine Wk.fin (by repeat (first | exact Sub.refl _ | refine Sub.upd (by simp [*]) ?_)) ?_; first | (simp [strictT, strictF, encV, *]; done) | (simp only [strictT, strictF, encV]; (repeat' (first | split | rfl | omega | (simp_all; done))); done) | (simp [strictT, strictF, encV, *]; (repeat' (first | split | omega | (rw [Bool.eq_iff_iff]; simp; omega))); done) | (simp [strictT, strictF, encV, *])))
theorem strict_9 : Pure Try.prog 16 [encNd 9 kids nk nn nm, encL 2 cV [a, b], encTb tn fr to sl st] (encV (strictT 9 nk nn a b t)) := by
  have hy := yes_ok (decide (a.k = b.k) && decide (a.n = b.n))
  intro h; refine callK_body Try.func16 rfl (by rw [nt16]; simp) ?_; rw [nt16, rs16]
  ((repeat' (first | simp [go_sem, X_region, *] | simp (disch := omega) only [om, *] | ((first | refine XC_split ?_ ?_ | refine XG_true ?_ ?_ | refine XG_false ?_ ?_ | refine XRg_true ?_ ?_ | refine XRg_false ?_ ?_) <;> intro hc <;> (try simp only [bl] at hc) <;> (try (exfalso; omega))) | refine XD_w [] [] [] (fun _ => none) mixed (by decide +kernel) (sub_none _) ?_ | refine Pure.call (hy) ?_ | refine ⟨_, Pure.at (hy), ?_⟩ | refine ⟨_, hy, ?_⟩ | refine PureAt.call (hy) ?_ | (intro bk hbk; (try simp only [go_sem] at hbk)))); all_goals (refine Wk.fin (by repeat (first | exact Sub.refl _ | refine Sub.upd (by simp [*]) ?_)) ?_; first | (simp [strictT, strictF, encV, V_eq, *]; done) | (simp only [strictT, strictF, encV, V_eq]; (repeat' (first | split | rfl | omega | (simp_all; done))); done) | (simp [strictT, strictF, encV, V_eq, *]; (repeat' (first | split | omega | (rw [Bool.eq_iff_iff]; simp; omega))); done) | (simp [strictT, strictF, encV, V_eq, *])))
theorem strict_13 : Pure Try.prog 16 [encNd 13 kids nk nn nm, encL 2 cV [a, b], encTb tn fr to sl st] (encV (strictT 13 nk nn a b t)) := by
  by_cases hab : b.n < a.n
  · intro h; refine callK_body Try.func16 rfl (by rw [nt16]; simp) ?_; rw [nt16, rs16]
    ((repeat' (first | simp [go_sem, X_region, *] | simp (disch := omega) only [om, *] | ((first | refine XC_split ?_ ?_ | refine XG_true ?_ ?_ | refine XG_false ?_ ?_ | refine XRg_true ?_ ?_ | refine XRg_false ?_ ?_) <;> intro hc <;> (try simp only [bl] at hc) <;> (try (exfalso; omega))) | refine XD_w [] [] [] (fun _ => none) mixed (by decide +kernel) (sub_none _) ?_ | refine Pure.call (yes_ok _) ?_ | refine ⟨_, Pure.at (yes_ok _), ?_⟩ | refine ⟨_, yes_ok _, ?_⟩ | refine PureAt.call (yes_ok _) ?_ | (intro bk hbk; (try simp only [go_sem] at hbk)))); all_goals (refine Wk.fin (by repeat (first | exact Sub.refl _ | refine Sub.upd (by simp [*]) ?_)) ?_; first | (simp [strictT, strictF, encV, *]; done) | (simp only [strictT, strictF, encV]; (repeat' (first | split | rfl | omega | (simp_all; done))); done) | (simp [strictT, strictF, encV, *]; (repeat' (first | split | omega | (rw [Bool.eq_iff_iff]; simp; omega))); done) | (simp [strictT, strictF, encV, *])))
  · intro h; refine callK_body Try.func16 rfl (by rw [nt16]; simp) ?_; rw [nt16, rs16]
    ((repeat' (first | simp [go_sem, X_region, *] | simp (disch := omega) only [om, *] | ((first | refine XC_split ?_ ?_ | refine XG_true ?_ ?_ | refine XG_false ?_ ?_ | refine XRg_true ?_ ?_ | refine XRg_false ?_ ?_) <;> intro hc <;> (try simp only [bl] at hc) <;> (try (exfalso; omega))) | refine XD_w [] [] [] (fun _ => none) mixed (by decide +kernel) (sub_none _) ?_ | refine Pure.call (yes_ok _) ?_ | refine ⟨_, Pure.at (yes_ok _), ?_⟩ | refine ⟨_, yes_ok _, ?_⟩ | refine PureAt.call (yes_ok _) ?_ | (intro bk hbk; (try simp only [go_sem] at hbk)))); all_goals (refine Wk.fin (by repeat (first | exact Sub.refl _ | refine Sub.upd (by simp [*]) ?_)) ?_; first | (simp [strictT, strictF, encV, *]; done) | (simp only [strictT, strictF, encV]; (repeat' (first | split | rfl | omega | (simp_all; done))); done) | (simp [strictT, strictF, encV, *]; (repeat' (first | split | omega | (rw [Bool.eq_iff_iff]; simp; omega))); done) | (simp [strictT, strictF, encV, *])))
theorem strict_14 : Pure Try.prog 16 [encNd 14 kids nk nn nm, encL 2 cV [a, b], encTb tn fr to sl st] (encV (strictT 14 nk nn a b t)) := by
  by_cases hab : b.n < a.n
  · intro h; refine callK_body Try.func16 rfl (by rw [nt16]; simp) ?_; rw [nt16, rs16]
    ((repeat' (first | simp [go_sem, X_region, *] | simp (disch := omega) only [om, *] | ((first | refine XC_split ?_ ?_ | refine XG_true ?_ ?_ | refine XG_false ?_ ?_ | refine XRg_true ?_ ?_ | refine XRg_false ?_ ?_) <;> intro hc <;> (try simp only [bl] at hc) <;> (try (exfalso; omega))) | refine XD_w [] [] [] (fun _ => none) mixed (by decide +kernel) (sub_none _) ?_ | refine Pure.call (yes_ok _) ?_ | refine ⟨_, Pure.at (yes_ok _), ?_⟩ | refine ⟨_, yes_ok _, ?_⟩ | refine PureAt.call (yes_ok _) ?_ | (intro bk hbk; (try simp only [go_sem] at hbk)))); all_goals (refine Wk.fin (by repeat (first | exact Sub.refl _ | refine Sub.upd (by simp [*]) ?_)) ?_; first | (simp [strictT, strictF, encV, *]; done) | (simp only [strictT, strictF, encV]; (repeat' (first | split | rfl | omega | (simp_all; done))); done) | (simp [strictT, strictF, encV, *]; (repeat' (first | split | omega | (rw [Bool.eq_iff_iff]; simp; omega))); done) | (simp [strictT, strictF, encV, *])))
  · intro h; refine callK_body Try.func16 rfl (by rw [nt16]; simp) ?_; rw [nt16, rs16]
    ((repeat' (first | simp [go_sem, X_region, *] | simp (disch := omega) only [om, *] | ((first | refine XC_split ?_ ?_ | refine XG_true ?_ ?_ | refine XG_false ?_ ?_ | refine XRg_true ?_ ?_ | refine XRg_false ?_ ?_) <;> intro hc <;> (try simp only [bl] at hc) <;> (try (exfalso; omega))) | refine XD_w [] [] [] (fun _ => none) mixed (by decide +kernel) (sub_none _) ?_ | refine Pure.call (yes_ok _) ?_ | refine ⟨_, Pure.at (yes_ok _), ?_⟩ | refine ⟨_, yes_ok _, ?_⟩ | refine PureAt.call (yes_ok _) ?_ | (intro bk hbk; (try simp only [go_sem] at hbk)))); all_goals (refine Wk.fin (by repeat (first | exact Sub.refl _ | refine Sub.upd (by simp [*]) ?_)) ?_; first | (simp [strictT, strictF, encV, *]; done) | (simp only [strictT, strictF, encV]; (repeat' (first | split | rfl | omega | (simp_all; done))); done) | (simp [strictT, strictF, encV, *]; (repeat' (first | split | omega | (rw [Bool.eq_iff_iff]; simp; omega))); done) | (simp [strictT, strictF, encV, *])))
theorem strict_10 : Pure Try.prog 16 [encNd 10 kids nk nn nm, encL 2 cV [a, b], encTb tn fr to sl st] (encV (strictT 10 nk nn a b t)) := by
  intro h; refine callK_body Try.func16 rfl (by rw [nt16]; simp) ?_; rw [nt16, rs16]
  ((repeat' (first | simp [go_sem, X_region, *] | simp (disch := omega) only [om, *] | ((first | refine XC_split ?_ ?_ | refine XG_true ?_ ?_ | refine XG_false ?_ ?_ | refine XRg_true ?_ ?_ | refine XRg_false ?_ ?_) <;> intro hc <;> (try simp only [bl] at hc) <;> (try (exfalso; omega))) | refine XD_w [] [] [] (fun _ => none) mixed (by decide +kernel) (sub_none _) ?_ | refine Pure.call (add_ok a b) ?_ | refine ⟨_, Pure.at (add_ok a b), ?_⟩ | refine ⟨_, add_ok a b, ?_⟩ | refine PureAt.call (add_ok a b) ?_ | (intro bk hbk; (try simp only [go_sem] at hbk)))); all_goals (refine Wk.fin (by repeat (first | exact Sub.refl _ | refine Sub.upd (by simp [*]) ?_)) ?_; first | (simp [strictT, strictF, encV, *]; done) | (simp only [strictT, strictF, encV]; (repeat' (first | split | rfl | omega | (simp_all; done))); done) | (simp [strictT, strictF, encV, *]; (repeat' (first | split | omega | (rw [Bool.eq_iff_iff]; simp; omega))); done) | (simp [strictT, strictF, encV, *])))
theorem strict_11 : Pure Try.prog 16 [encNd 11 kids nk nn nm, encL 2 cV [a, b], encTb tn fr to sl st] (encV (strictT 11 nk nn a b t)) := by
  intro h; refine callK_body Try.func16 rfl (by rw [nt16]; simp) ?_; rw [nt16, rs16]
  ((repeat' (first | simp [go_sem, X_region, *] | simp (disch := omega) only [om, *] | ((first | refine XC_split ?_ ?_ | refine XG_true ?_ ?_ | refine XG_false ?_ ?_ | refine XRg_true ?_ ?_ | refine XRg_false ?_ ?_) <;> intro hc <;> (try simp only [bl] at hc) <;> (try (exfalso; omega))) | refine XD_w [] [] [] (fun _ => none) mixed (by decide +kernel) (sub_none _) ?_ | refine Pure.call (sub_ok a b) ?_ | refine ⟨_, Pure.at (sub_ok a b), ?_⟩ | refine ⟨_, sub_ok a b, ?_⟩ | refine PureAt.call (sub_ok a b) ?_ | (intro bk hbk; (try simp only [go_sem] at hbk)))); all_goals (refine Wk.fin (by repeat (first | exact Sub.refl _ | refine Sub.upd (by simp [*]) ?_)) ?_; first | (simp [strictT, strictF, encV, *]; done) | (simp only [strictT, strictF, encV]; (repeat' (first | split | rfl | omega | (simp_all; done))); done) | (simp [strictT, strictF, encV, *]; (repeat' (first | split | omega | (rw [Bool.eq_iff_iff]; simp; omega))); done) | (simp [strictT, strictF, encV, *])))
theorem strict_12 : Pure Try.prog 16 [encNd 12 kids nk nn nm, encL 2 cV [a, b], encTb tn fr to sl st] (encV (strictT 12 nk nn a b t)) := by
  intro h; refine callK_body Try.func16 rfl (by rw [nt16]; simp) ?_; rw [nt16, rs16]
  ((repeat' (first | simp [go_sem, X_region, *] | simp (disch := omega) only [om, *] | ((first | refine XC_split ?_ ?_ | refine XG_true ?_ ?_ | refine XG_false ?_ ?_ | refine XRg_true ?_ ?_ | refine XRg_false ?_ ?_) <;> intro hc <;> (try simp only [bl] at hc) <;> (try (exfalso; omega))) | refine XD_w [] [] [] (fun _ => none) mixed (by decide +kernel) (sub_none _) ?_ | refine Pure.call (times_ok a b) ?_ | refine ⟨_, Pure.at (times_ok a b), ?_⟩ | refine ⟨_, times_ok a b, ?_⟩ | refine PureAt.call (times_ok a b) ?_ | (intro bk hbk; (try simp only [go_sem] at hbk)))); all_goals (refine Wk.fin (by repeat (first | exact Sub.refl _ | refine Sub.upd (by simp [*]) ?_)) ?_; first | (simp [strictT, strictF, encV, *]; done) | (simp only [strictT, strictF, encV]; (repeat' (first | split | rfl | omega | (simp_all; done))); done) | (simp [strictT, strictF, encV, *]; (repeat' (first | split | omega | (rw [Bool.eq_iff_iff]; simp; omega))); done) | (simp [strictT, strictF, encV, *])))
theorem strict_16 : Pure Try.prog 16 [encNd 16 kids nk nn nm, encL 2 cV [a], encTbA t] (encV (strictT 16 nk nn a b t)) := by
  have h1 := tat_ok t a.n
  have h2 := fitV_ok ⟨t.to, atF t a.n⟩
  rw [show strictT 16 nk nn a b t = fitV ⟨t.to, atF t a.n⟩ by simp [strictT, strictF]]
  generalize atF t a.n = x at *
  generalize fitV ⟨t.to, x⟩ = y at *
  intro h; refine callK_body Try.func16 rfl (by rw [nt16]; simp) ?_; rw [nt16, rs16]
  ((repeat' (first | simp [go_sem, X_region, *] | simp (disch := omega) only [om, *] | ((first | refine XC_split ?_ ?_ | refine XG_true ?_ ?_ | refine XG_false ?_ ?_ | refine XRg_true ?_ ?_ | refine XRg_false ?_ ?_) <;> intro hc <;> (try simp only [bl] at hc) <;> (try (exfalso; omega))) | refine XD_w [] [] [] (fun _ => none) mixed (by decide +kernel) (sub_none _) ?_ | refine Pure.call (h1) ?_ | refine ⟨_, Pure.at (h1), ?_⟩ | refine ⟨_, h1, ?_⟩ | refine PureAt.call (h1) ?_ | refine Pure.call (h2) ?_ | refine ⟨_, Pure.at (h2), ?_⟩ | refine ⟨_, h2, ?_⟩ | refine PureAt.call (h2) ?_ | (intro bk hbk; (try simp only [go_sem] at hbk)))); all_goals (refine Wk.fin (by repeat (first | exact Sub.refl _ | refine Sub.upd (by simp [*]) ?_)) ?_; first | (simp [*]; done) | (simp only []; (repeat' (first | split | rfl | omega | (simp_all; done))); done) | (simp [*]; (repeat' (first | split | omega | (rw [Bool.eq_iff_iff]; simp; omega))); done) | (simp [*])))
theorem strict_17 : Pure Try.prog 16 [encNd 17 kids nk nn nm, encL 2 cV [a], encTb tn fr to sl st] (encV (strictT 17 nk nn a b t)) := by
  have h1 := round_ok a.n nk nn
  have h2 := fitV_ok ⟨2, rndF a.n nk nn⟩
  rw [show strictT 17 nk nn a b t = fitV ⟨2, rndF a.n nk nn⟩ by simp [strictT, strictF]]
  unfold rndF at *
  generalize roundF a.n nk nn = x at *
  generalize fitV ⟨2, x.1⟩ = y at *
  intro h; refine callK_body Try.func16 rfl (by rw [nt16]; simp) ?_; rw [nt16, rs16]
  ((repeat' (first | simp [go_sem, X_region, *] | simp (disch := omega) only [om, *] | ((first | refine XC_split ?_ ?_ | refine XG_true ?_ ?_ | refine XG_false ?_ ?_ | refine XRg_true ?_ ?_ | refine XRg_false ?_ ?_) <;> intro hc <;> (try simp only [bl] at hc) <;> (try (exfalso; omega))) | refine XD_w [] [] [] (fun _ => none) mixed (by decide +kernel) (sub_none _) ?_ | refine Pure.call (h1) ?_ | refine ⟨_, Pure.at (h1), ?_⟩ | refine ⟨_, h1, ?_⟩ | refine PureAt.call (h1) ?_ | refine Pure.call (h2) ?_ | refine ⟨_, Pure.at (h2), ?_⟩ | refine ⟨_, h2, ?_⟩ | refine PureAt.call (h2) ?_ | (intro bk hbk; (try simp only [go_sem] at hbk)))); all_goals (refine Wk.fin (by repeat (first | exact Sub.refl _ | refine Sub.upd (by simp [*]) ?_)) ?_; first | (simp [*]; done) | (simp only []; (repeat' (first | split | rfl | omega | (simp_all; done))); done) | (simp [*]; (repeat' (first | split | omega | (rw [Bool.eq_iff_iff]; simp; omega))); done) | (simp [*])))
theorem strict_18 : Pure Try.prog 16 [encNd 18 kids nk nn nm, encL 2 cV [a, b], encTb tn fr to sl st] (encV (strictT 18 nk nn a b t)) := by
  have h1 := years_ok a.n b.n
  have h2 := fitV_ok ⟨5, yearsF a.n b.n⟩
  rw [show strictT 18 nk nn a b t = fitV ⟨5, yearsF a.n b.n⟩ by simp [strictT, strictF]]
  generalize yearsF a.n b.n = x at *
  generalize fitV ⟨5, x⟩ = y at *
  intro h; refine callK_body Try.func16 rfl (by rw [nt16]; simp) ?_; rw [nt16, rs16]
  ((repeat' (first | simp [go_sem, X_region, *] | simp (disch := omega) only [om, *] | ((first | refine XC_split ?_ ?_ | refine XG_true ?_ ?_ | refine XG_false ?_ ?_ | refine XRg_true ?_ ?_ | refine XRg_false ?_ ?_) <;> intro hc <;> (try simp only [bl] at hc) <;> (try (exfalso; omega))) | refine XD_w [] [] [] (fun _ => none) mixed (by decide +kernel) (sub_none _) ?_ | refine Pure.call (h1) ?_ | refine ⟨_, Pure.at (h1), ?_⟩ | refine ⟨_, h1, ?_⟩ | refine PureAt.call (h1) ?_ | refine Pure.call (h2) ?_ | refine ⟨_, Pure.at (h2), ?_⟩ | refine ⟨_, h2, ?_⟩ | refine PureAt.call (h2) ?_ | (intro bk hbk; (try simp only [go_sem] at hbk)))); all_goals (refine Wk.fin (by repeat (first | exact Sub.refl _ | refine Sub.upd (by simp [*]) ?_)) ?_; first | (simp [*]; done) | (simp only []; (repeat' (first | split | rfl | omega | (simp_all; done))); done) | (simp [*]; (repeat' (first | split | omega | (rw [Bool.eq_iff_iff]; simp; omega))); done) | (simp [*])))
end
end Go.Proofs.Ytmalhikcdideoaa

set_option linter.unusedVariables false
set_option linter.unusedSimpArgs false
namespace Go.Proofs.Ytmalhikcdideoaa
open Go Sl
attribute [local irreducible] LpQ XR XRo XRg XRQ putQ XFv XL XW2 wQ putW X XO XOp XH XHo XW SeqQ BlkQ XOQ XHQ NrmQ XC XM XG XHM XHG XD CallK
theorem kids_ar (o : Int) : Pure Try.prog 9 [I o] (I (ar o)) := kids_ok o
theorem arity_ar (o : Int) : Pure Try.prog 17 [I o] (I (ar o)) := arity_ok o
section
variable (kids nm tn st : AV) (nk nn : Int) (fr to : Int) (sl : Bool)
theorem kind_all {op : Int} (hop : op = 0 ∨ isOp op) {l : List Int} (hl : (l.length : Int) = ar op) :
    ∃ q : Int, Pure Try.prog 14 [encNd op kids nk nn nm, encL 1 cI l, encTb tn fr to sl st] (tup2 (I q) (B (kindP op nk fr to l))) := by
  rcases hop with rfl | hop
  · obtain rfl := len0 (show (l.length : Int) = 0 by rw [hl]; decide)
    exact ⟨_, kind_0 kids nm tn st nk nn 0 0 0 fr to sl⟩
  · have t1 : ar op = 1 → ∃ a, l = [a] := fun h => len1 (by rw [hl, h])
    have t2 : ar op = 2 → ∃ a b, l = [a, b] := fun h => len2 (by rw [hl, h])
    have t3 : ar op = 3 → ∃ a b c, l = [a, b, c] := fun h => len3 (by rw [hl, h])
    rcases hop.cases with rfl | rfl | rfl | rfl | rfl | rfl | rfl | rfl | rfl | rfl | rfl | rfl | rfl | rfl | rfl
    · obtain ⟨a, rfl⟩ := t1 (by decide); exact ⟨_, kind_4 kids nm tn st nk nn a 0 0 fr to sl⟩
    · obtain ⟨a, b, rfl⟩ := t2 (by decide); exact ⟨_, kind_5 kids nm tn st nk nn a b 0 fr to sl⟩
    · obtain ⟨a, b, rfl⟩ := t2 (by decide); exact ⟨_, kind_6 kids nm tn st nk nn a b 0 fr to sl⟩
    · obtain ⟨a, b, rfl⟩ := t2 (by decide); exact ⟨_, kind_7 kids nm tn st nk nn a b 0 fr to sl⟩
    · obtain ⟨a, b, rfl⟩ := t2 (by decide); exact ⟨_, kind_8 kids nm tn st nk nn a b 0 fr to sl⟩
    · obtain ⟨a, b, rfl⟩ := t2 (by decide); exact ⟨_, kind_9 kids nm tn st nk nn a b 0 fr to sl⟩
    · obtain ⟨a, b, rfl⟩ := t2 (by decide); exact ⟨_, kind_10 kids nm tn st nk nn a b 0 fr to sl⟩
    · obtain ⟨a, b, rfl⟩ := t2 (by decide); exact ⟨_, kind_11 kids nm tn st nk nn a b 0 fr to sl⟩
    · obtain ⟨a, b, rfl⟩ := t2 (by decide); exact ⟨_, kind_12 kids nm tn st nk nn a b 0 fr to sl⟩
    · obtain ⟨a, b, rfl⟩ := t2 (by decide); exact ⟨_, kind_13 kids nm tn st nk nn a b 0 fr to sl⟩
    · obtain ⟨a, b, rfl⟩ := t2 (by decide); exact ⟨_, kind_14 kids nm tn st nk nn a b 0 fr to sl⟩
    · obtain ⟨a, b, c, rfl⟩ := t3 (by decide); exact ⟨_, kind_15 kids nm tn st nk nn a b c fr to sl⟩
    · obtain ⟨a, rfl⟩ := t1 (by decide); exact ⟨_, kind_16 kids nm tn st nk nn a 0 0 fr to sl⟩
    · obtain ⟨a, rfl⟩ := t1 (by decide); exact ⟨_, kind_17 kids nm tn st nk nn a 0 0 fr to sl⟩
    · obtain ⟨a, b, rfl⟩ := t2 (by decide); exact ⟨_, kind_18 kids nm tn st nk nn a b 0 fr to sl⟩
/-- On a slice made by appending. -/
theorem kind_own {op : Int} (hop : op = 0 ∨ isOp op) {l : List Int} (hl : (l.length : Int) = ar op) : ∃ q : Int, ∀ {h0 h : Hp} {a : AV}, Own h0 h a 3 1 l.length (cellsL cI l) →
    PureAt Try.prog h 14 [encNd op kids nk nn nm, a, encTb tn fr to sl st] (tup2 (I q) (B (kindP op nk fr to l))) := by
  obtain ⟨q, hq⟩ := kind_all kids nm tn st nk nn fr to sl hop hl
  have hl3 : l.length ≤ 3 := by
    have : ar op ≤ 3 := by unfold ar; repeat' split <;> omega
    omega
  exact ⟨q, fun o => Pure.lend hq (.cons (Lend.refl _) (.cons (o.lend (by omega)) (.cons (Lend.refl _) .nil))) (Flat.tup2 (Flat.v _) (Flat.v _))⟩
end
def logicL (op : Int) (l : List V) : V × Bool := logicF op (l.getD 0 v0) (l.getD 1 v0) (l.getD 2 v0)
theorem logic_all {op : Int} (hop : op = 0 ∨ isOp op) {l : List V} (hl : (l.length : Int) = ar op) : Pure Try.prog 15 [I op, encL 2 cV l] (tup2 (encV (logicL op l).1) (B (logicL op l).2)) := by
  by_cases h : op ≠ 4 ∧ op ≠ 5 ∧ op ≠ 6 ∧ op ≠ 15
  · have := logic_no op l h.1 h.2.1 h.2.2.1 h.2.2.2
    rwa [show logicL op l = (v0, false) by simp [logicL, logicF, h.1, h.2.1, h.2.2.1, h.2.2.2]]
  · rcases (show op = 4 ∨ op = 5 ∨ op = 6 ∨ op = 15 by omega) with rfl | rfl | rfl | rfl
    · obtain ⟨a, rfl⟩ := len1 (show (l.length : Int) = 1 by rw [hl]; decide)
      exact logic_4 a v0 v0
    · obtain ⟨a, b, rfl⟩ := len2 (show (l.length : Int) = 2 by rw [hl]; decide)
      exact logic_5 a b v0
    · obtain ⟨a, b, rfl⟩ := len2 (show (l.length : Int) = 2 by rw [hl]; decide)
      exact logic_6 a b v0
    · obtain ⟨a, b, c, rfl⟩ := len3 (show (l.length : Int) = 3 by rw [hl]; decide)
      exact logic_15 a b c
def strictL (op nk nn : Int) (l : List V) (t : Tb) : V := strictT op nk nn (l.getD 0 v0) (l.getD 1 v0) t
theorem strict_all (kids nm : AV) (nk nn : Int) (t : Tb) {op : Int} (hop : op = 0 ∨ isOp op) {l : List V} (hl : (l.length : Int) = ar op) (hlog : (logicL op l).2 = false) {tv : AV} (htv : tv = encTbA t ∨ (op ≠ 16 ∧ ∃ tn fr to sl st, tv = encTb tn fr to sl st)) :
    Pure Try.prog 16 [encNd op kids nk nn nm, encL 2 cV l, tv] (encV (strictL op nk nn l t)) := by
  obtain ⟨tn, fr, to, sl, st, he⟩ : ∃ tn fr to sl st, tv = encTb tn fr to sl st := by
    rcases htv with h | h
    · exact ⟨_, _, _, _, _, h⟩
    · exact h.2
  rcases hop with rfl | hop
  · obtain rfl := len0 (show (l.length : Int) = 0 by rw [hl]; decide)
    subst he; exact strict_0 kids nm tn st nk nn fr to sl v0 v0 t
  · have t1 : ar op = 1 → ∃ a, l = [a] := fun h => len1 (by rw [hl, h])
    have t2 : ar op = 2 → ∃ a b, l = [a, b] := fun h => len2 (by rw [hl, h])
    rcases hop.cases with rfl | rfl | rfl | rfl | rfl | rfl | rfl | rfl | rfl | rfl | rfl | rfl | rfl | rfl | rfl
    · simp [logicL, logicF] at hlog
    · simp [logicL, logicF] at hlog
    · simp [logicL, logicF] at hlog
    · obtain ⟨a, b, rfl⟩ := t2 (by decide); subst he; exact strict_7 kids nm tn st nk nn fr to sl a b t
    · obtain ⟨a, b, rfl⟩ := t2 (by decide); subst he; exact strict_8 kids nm tn st nk nn fr to sl a b t
    · obtain ⟨a, b, rfl⟩ := t2 (by decide); subst he; exact strict_9 kids nm tn st nk nn fr to sl a b t
    · obtain ⟨a, b, rfl⟩ := t2 (by decide); subst he; exact strict_10 kids nm tn st nk nn fr to sl a b t
    · obtain ⟨a, b, rfl⟩ := t2 (by decide); subst he; exact strict_11 kids nm tn st nk nn fr to sl a b t
    · obtain ⟨a, b, rfl⟩ := t2 (by decide); subst he; exact strict_12 kids nm tn st nk nn fr to sl a b t
    · obtain ⟨a, b, rfl⟩ := t2 (by decide); subst he; exact strict_13 kids nm tn st nk nn fr to sl a b t
    · obtain ⟨a, b, rfl⟩ := t2 (by decide); subst he; exact strict_14 kids nm tn st nk nn fr to sl a b t
    · simp [logicL, logicF] at hlog
    · obtain ⟨a, rfl⟩ := t1 (by decide); obtain rfl : tv = encTbA t := htv.resolve_right (fun h => h.1 rfl); exact strict_16 kids nm nk nn a v0 t
    · obtain ⟨a, rfl⟩ := t1 (by decide); subst he; exact strict_17 kids nm tn st nk nn fr to sl a v0 t
    · obtain ⟨a, b, rfl⟩ := t2 (by decide); subst he; exact strict_18 kids nm tn st nk nn fr to sl a b t
def chkL : List V → Int
  | [] => 0
  | v :: r => if checkV v = 0 then chkL r else checkV v
theorem chkL_all : ∀ (l : List V), chkL l = 0 → ∀ v ∈ l, Good v
  | [], _, v, hv => by cases hv
  | x :: r, h, v, hv => by
    unfold chkL at h
    split at h
    · rcases List.mem_cons.1 hv with rfl | hv
      · exact good_of (by assumption)
      · exact chkL_all r h v hv
    · contradiction
abbrev evalT := evalV atF rndF yearsF
def evalF (op nk nn : Int) (nm : ByteArray) (l : List V) (ts : List Tb) : V × Int :=
  if ¬ (op = 0 ∨ (4 ≤ op ∧ op ≤ 18)) then (v0, 1) else if (l.length : Int) ≠ ar op then (v0, 3) else if chkL l ≠ 0 then (v0, chkL l) else if ownE op nk nn ≠ 0 then (v0, ownE op nk nn)
  else if op = 16 then (match findF nm ts with | none => (v0, 15) | some t => if chkTb t ≠ 0 then (v0, chkTb t) else evalT op nk nn l t) else evalT op nk nn l tb0
end Go.Proofs.Ytmalhikcdideoaa

set_option linter.unusedVariables false
set_option linter.unusedSimpArgs false
namespace Go.Proofs.Ytmalhikcdideoaa
open Go Sl
attribute [local irreducible] LpQ XR XRo XRg XRQ putQ XFv XL XW2 wQ putW X XO XOp XH XHo XW SeqQ BlkQ XOQ XHQ NrmQ XC XM XG XHM XHG XD CallK
set_option maxRecDepth 100000
theorem ar_le (o : Int) : ar o ≤ 3 := by unfold ar; repeat' split <;> omega
theorem oneE_facts {nameB : ByteArray → Bool} {x : Nd} {i : Nat} (h : oneE nameB x i = 0) : x.kids.length ≤ 3 ∧ ∀ k ∈ x.kids, 0 ≤ k ∧ k < i := by
  unfold oneE at h
  split at h
  · cases h
  split at h
  · cases h
  split at h
  · cases h
  · rename_i h1 h2 h3
    have := ar_le x.op
    refine ⟨by omega, fun k hk => ?_⟩
    have h4 : ¬ (k < 0 ∨ (i : Int) ≤ k) := fun hc => h3 (List.any_eq_true.2 ⟨k, hk, by simpa using hc⟩)
    omega
def lit1 : Nd := ⟨0, [], 5, 1, ⟨#[]⟩⟩
theorem one_begun : Pure Try.prog 8 [] (encL 5 cNd [lit1]) := by
  intro h; refine callK_body Try.func8 rfl (by rw [nt8]; simp) ?_; rw [nt8, rs8]
  (repeat' (first | simp [go_sem, X_region, *] | simp (disch := omega) only [om, *] | ((first | refine XC_split ?_ ?_ | refine XG_true ?_ ?_ | refine XG_false ?_ ?_ | refine XRg_true ?_ ?_ | refine XRg_false ?_ ?_) <;> intro hc <;> (try simp only [bl] at hc) <;> (try (exfalso; omega))) | refine XD_w [] [] [] (fun _ => none) mixed (by decide +kernel) (sub_none _) ?_ | fail))
  intro b hb
  (repeat' (first | simp [go_sem, X_region, *] | simp (disch := omega) only [om, *] | ((first | refine XC_split ?_ ?_ | refine XG_true ?_ ?_ | refine XG_false ?_ ?_ | refine XRg_true ?_ ?_ | refine XRg_false ?_ ?_) <;> intro hc <;> (try simp only [bl] at hc) <;> (try (exfalso; omega))) | refine XD_w [] [] [] (fun _ => none) mixed (by decide +kernel) (sub_none _) ?_ | fail))
  refine (Wk.row (upd_same _ _ _) (Sub.upd hb (Sub.refl _)) hb rfl (Nat.le_refl _) (by decide)).trans (Wk.slMap (Sub.refl _) fun i hi j hj => ?_)
  have hi : i < 1 := hi
  have hj : j < 5 := hj
  obtain rfl : i = 0 := by omega
  rcases (show j = 0 ∨ j = 1 ∨ j = 2 ∨ j = 3 ∨ j = 4 by omega) with rfl | rfl | rfl | rfl | rfl
  · exact Wk.refl _ _
  · exact Wk.nil
  · exact Wk.refl _ _
  · exact Wk.refl _ _
  · exact Wk.refl _ _
theorem chk_lit1 (nameB : ByteArray → Bool) : Pure Try.prog 22 [encL 5 cNd [lit1]] (I 0) := by
  refine tchk_ok (oneE nameB) [lit1] (fun i x hx _ => ?_) fun i x hx h => oneE_facts h
  rcases i with _ | i
  · cases hx
    exact tone_ok nameB lit1 (fun h => by cases h) 0
  · simp at hx
theorem of_begun : Pure Try.prog 7 [.v (.slice none 0 0), encL 5 cNd [lit1]] (tup2 (I 5) (I 0)) := by
  have hc := chk_lit1 fun _ => true
  have hk : ∀ h : Hp, PureAt Try.prog h 14 [encNd 0 (encL 1 cI []) 5 1 (S ⟨#[]⟩), .v (.slice none 0 0), encTb (S ⟨#[]⟩) 0 0 false (.v (.slice none 0 0))] (tup2 (I 5) (B true)) := fun h =>
    Pure.lend (kind_0 (encL 1 cI []) (S ⟨#[]⟩) (S ⟨#[]⟩) (.v (.slice none 0 0)) 5 1 0 0 0 0 0 false) (.cons (Lend.refl _) (.cons Lend.nil (.cons (Lend.refl _) .nil))) (Flat.tup2 (Flat.v _) (Flat.v _))
  have hx : ([lit1] : List Nd)[0]? = some lit1 := rfl
  intro h; refine callK_body Try.func7 rfl (by rw [nt7]; simp) ?_; rw [nt7, rs7]
  (repeat' (first | simp [go_sem, X_region, *] | simp (disch := omega) only [om, *] | ((first | refine XC_split ?_ ?_ | refine XG_true ?_ ?_ | refine XG_false ?_ ?_ | refine XRg_true ?_ ?_ | refine XRg_false ?_ ?_) <;> intro hc <;> (try simp only [bl] at hc) <;> (try (exfalso; omega))) | refine XD_w [] [] [] (fun _ => none) mixed (by decide +kernel) (sub_none _) ?_ | refine Pure.call (hc) ?_ | refine ⟨_, Pure.at (hc), ?_⟩ | refine ⟨_, hc, ?_⟩ | refine PureAt.call (hc) ?_ | fail))
  refine X_makeSlice (s := 1) (by_ := 8) 1 1 und22 zr3 by3 (by simp [go_sem]) (by simp [go_sem]) (by omega) (by omega) (by omega) fun b hb => ?_
  (repeat' (first | simp [go_sem, X_region, *] | simp (disch := omega) only [om, *] | ((first | refine XC_split ?_ ?_ | refine XG_true ?_ ?_ | refine XG_false ?_ ?_ | refine XRg_true ?_ ?_ | refine XRg_false ?_ ?_) <;> intro hc <;> (try simp only [bl] at hc) <;> (try (exfalso; omega))) | refine XD_w [] [] [] (fun _ => none) mixed (by decide +kernel) (sub_none _) ?_ | fail))
  refine X_lpF (fun i => (4 ≤ i ∧ i ≤ 5) ∨ (8 ≤ i ∧ i ≤ 12) ∨ (14 ≤ i ∧ i ≤ 18) ∨ (29 ≤ i ∧ i ≤ 112)) (fun k T g => ∃ o : Ob, Sub h g ∧ g b = some o ∧ o.s = 1 ∧ o.n = 1 ∧ o.ty = 3 ∧ ((k = 1 ∧ T 29 = I 0) ∨ (k = 0 ∧ T 29 = I 1 ∧ o.f 0 0 = I 5))) 1 ⟨_, Sub.upd hb (Sub.refl _), upd_same _ _ _, rfl, rfl, rfl, .inl ⟨rfl, by simp [go_sem]⟩⟩ ?_
  rintro J hJ k T g hfr ⟨o, hsub, ho, o1, o2, o3, ⟨rfl, t29⟩ | ⟨rfl, t29, of⟩⟩
  · simp only [lit1] at *
    (repeat' (first | simp [go_sem, X_region, *] | simp (disch := omega) only [om, *] | ((first | refine XC_split ?_ ?_ | refine XG_true ?_ ?_ | refine XG_false ?_ ?_ | refine XRg_true ?_ ?_ | refine XRg_false ?_ ?_) <;> intro hc <;> (try simp only [bl] at hc) <;> (try (exfalso; omega))) | refine XD_w [] [] [] (fun _ => none) mixed (by decide +kernel) (sub_none _) ?_ | fail))
    intro b9 hb9
    have n9 := ne_free hb9 ho
    (repeat' (first | simp [go_sem, X_region, *] | simp (disch := omega) only [om, *] | ((first | refine XC_split ?_ ?_ | refine XG_true ?_ ?_ | refine XG_false ?_ ?_ | refine XRg_true ?_ ?_ | refine XRg_false ?_ ?_) <;> intro hc <;> (try simp only [bl] at hc) <;> (try (exfalso; omega))) | refine XD_w [] [] [] (fun _ => none) mixed (by decide +kernel) (sub_none _) ?_ | fail))
    refine X_lpH (fun i => i = 12 ∨ i = 14 ∨ (63 ≤ i ∧ i ≤ 74)) (fun hE k T g2 => T 63 = I 0 ∧ T 12 = .v (.slice none 0 0) ∧ g2 = hE) 0 ⟨by simp [go_sem], by simp [go_sem], rfl⟩ ?_
    rintro hE hEq J2 hJ2 k T2 g2 hfr2 ⟨t63, t12, rfl⟩
    have e9 := Sub.refl g2 b9 _ (by rw [← hEq]; exact upd_same _ _ _)
    have eb := Sub.refl g2 b _ (by rw [← hEq]; exact (upd_ne _ _ n9.2).trans ho)
    have hsub2 : Sub h g2 := by rw [← hEq]; exact Sub.upd (sub_free hsub hb9) hsub
    clear hEq
    (repeat' (first | simp [go_sem, X_region, *] | simp (disch := omega) only [om, *] | ((first | refine XC_split ?_ ?_ | refine XG_true ?_ ?_ | refine XG_false ?_ ?_ | refine XRg_true ?_ ?_ | refine XRg_false ?_ ?_) <;> intro hc <;> (try simp only [bl] at hc) <;> (try (exfalso; omega))) | refine XD_w [] [] [] (fun _ => none) mixed (by decide +kernel) (sub_none _) ?_ | fail))
    intro b15 hb15
    have m9 := ne_free hb15 e9
    have mb := ne_free hb15 eb
    (repeat' (first | simp [go_sem, X_region, *] | simp (disch := omega) only [om, *] | ((first | refine XC_split ?_ ?_ | refine XG_true ?_ ?_ | refine XG_false ?_ ?_ | refine XRg_true ?_ ?_ | refine XRg_false ?_ ?_) <;> intro hc <;> (try simp only [bl] at hc) <;> (try (exfalso; omega))) | refine XD_w [] [] [] (fun _ => none) mixed (by decide +kernel) (sub_none _) ?_ | refine Pure.call (hk _) ?_ | refine ⟨_, Pure.at (hk _), ?_⟩ | refine ⟨_, hk _, ?_⟩ | refine PureAt.call (hk _) ?_ | fail))
    exact hJ.out _ _ _ ⟨(by (repeat (refine fr_upd (by decide) ?_)); exact fr_in (by intro i; omega) hfr2 (by (repeat (refine fr_upd (by decide) ?_)); exact hfr)), _, Sub.upd hb (Sub.upd (sub_free hsub2 hb15) hsub2), upd_same _ _ _, rfl, rfl, rfl, .inr ⟨rfl, by simp [go_sem], by simp [go_sem]⟩⟩
  · (repeat' (first | simp [go_sem, X_region, *] | simp (disch := omega) only [om, *] | ((first | refine XC_split ?_ ?_ | refine XG_true ?_ ?_ | refine XG_false ?_ ?_ | refine XRg_true ?_ ?_ | refine XRg_false ?_ ?_) <;> intro hc <;> (try simp only [bl] at hc) <;> (try (exfalso; omega))) | refine XD_w [] [] [] (fun _ => none) mixed (by decide +kernel) (sub_none _) ?_ | fail))
    exact Wk.fin hsub rfl
theorem tbegun_ok : Pure Try.prog 4 [] (B true) := by
  intro h; refine callK_body Try.func4 rfl (by rw [nt4]; simp) ?_; rw [nt4, rs4]
  ((repeat' (first | simp [go_sem, X_region, *] | simp (disch := omega) only [om, *] | ((first | refine XC_split ?_ ?_ | refine XG_true ?_ ?_ | refine XG_false ?_ ?_ | refine XRg_true ?_ ?_ | refine XRg_false ?_ ?_) <;> intro hc <;> (try simp only [bl] at hc) <;> (try (exfalso; omega))) | refine XD_w [] [] [] (fun _ => none) mixed (by decide +kernel) (sub_none _) ?_ | refine Pure.call (one_begun) ?_ | refine ⟨_, Pure.at (one_begun), ?_⟩ | refine ⟨_, one_begun, ?_⟩ | refine PureAt.call (one_begun) ?_ | refine Pure.call (of_begun) ?_ | refine ⟨_, Pure.at (of_begun), ?_⟩ | refine ⟨_, of_begun, ?_⟩ | refine PureAt.call (of_begun) ?_ | (intro bk hbk; (try simp only [go_sem] at hbk)))); all_goals (refine Wk.fin (by repeat (first | exact Sub.refl _ | refine Sub.upd (by simp [*]) ?_)) ?_; first | (simp [*]; done) | (simp only []; (repeat' (first | split | rfl | omega | (simp_all; done))); done) | (simp [*]; (repeat' (first | split | omega | (rw [Bool.eq_iff_iff]; simp; omega))); done) | (simp [*])))
end Go.Proofs.Ytmalhikcdideoaa

set_option linter.unusedVariables false
set_option linter.unusedSimpArgs false
namespace Go.Proofs.Ytmalhikcdideoaa
open Go Sl
attribute [local irreducible] LpQ XR XRo XRg XRQ putQ XFv XL XW2 wQ putW X XO XOp XH XHo XW SeqQ BlkQ XOQ XHQ NrmQ XC XM XG XHM XHG XD CallK
set_option maxHeartbeats 4000000 in
theorem eval_ok (op nk nn op0 : Int) (kids : AV) (nm : ByteArray) (l : List V) (ts : List Tb) :
    Pure Try.prog 5 [I op, encNd op0 kids nk nn (S nm), encL 2 cV l, encL 5 cTb ts] (tup2 (encV (evalF op nk nn nm l ts).1) (I (evalF op nk nn nm l ts).2)) := by
  generalize hR : evalF op nk nn nm l ts = R
  unfold evalF at hR
  have hk := kids_ar op
  by_cases q1 : op = 0 ∨ (4 ≤ op ∧ op ≤ 18)
  case neg =>
    rw [if_pos q1] at hR
    subst hR
    have : ar op < 0 ∨ op = 1 ∨ op = 2 ∨ op = 3 := by unfold ar; repeat' split <;> omega
    intro h; refine callK_body Try.func5 rfl (by rw [nt5]; simp) ?_; rw [nt5, rs5]
    ((repeat' (first | simp [go_sem, X_region, *] | simp (disch := omega) only [om, *] | ((first | refine XC_split ?_ ?_ | refine XG_true ?_ ?_ | refine XG_false ?_ ?_ | refine XRg_true ?_ ?_ | refine XRg_false ?_ ?_) <;> intro hc <;> (try simp only [bl] at hc) <;> (try (exfalso; omega))) | refine XD_w [] [] [] (fun _ => none) mixed (by decide +kernel) (sub_none _) ?_ | refine Pure.call (hk) ?_ | refine ⟨_, Pure.at (hk), ?_⟩ | refine ⟨_, hk, ?_⟩ | refine PureAt.call (hk) ?_ | (intro bk hbk; (try simp only [go_sem] at hbk)))); all_goals (refine Wk.fin (by repeat (first | exact Sub.refl _ | refine Sub.upd (by simp [*]) ?_)) ?_; first | (simp [v0, *]; done) | (simp only [v0]; (repeat' (first | split | rfl | omega | (simp_all; done))); done) | (simp [v0, *]; (repeat' (first | split | omega | (rw [Bool.eq_iff_iff]; simp; omega))); done) | (simp [v0, *])))
  rw [if_neg (fun h => h q1)] at hR
  have har : 0 ≤ ar op ∧ ar op ≤ 3 := by unfold ar; repeat' split <;> omega
  by_cases q2 : (l.length : Int) = ar op
  case neg =>
    rw [if_pos q2] at hR
    subst hR
    intro h; refine callK_body Try.func5 rfl (by rw [nt5]; simp) ?_; rw [nt5, rs5]
    ((repeat' (first | simp [go_sem, X_region, *] | simp (disch := omega) only [om, *] | ((first | refine XC_split ?_ ?_ | refine XG_true ?_ ?_ | refine XG_false ?_ ?_ | refine XRg_true ?_ ?_ | refine XRg_false ?_ ?_) <;> intro hc <;> (try simp only [bl] at hc) <;> (try (exfalso; omega))) | refine XD_w [] [] [] (fun _ => none) mixed (by decide +kernel) (sub_none _) ?_ | refine Pure.call (hk) ?_ | refine ⟨_, Pure.at (hk), ?_⟩ | refine ⟨_, hk, ?_⟩ | refine PureAt.call (hk) ?_ | (intro bk hbk; (try simp only [go_sem] at hbk)))); all_goals (refine Wk.fin (by repeat (first | exact Sub.refl _ | refine Sub.upd (by simp [*]) ?_)) ?_; first | (simp [v0, *]; done) | (simp only [v0]; (repeat' (first | split | rfl | omega | (simp_all; done))); done) | (simp [v0, *]; (repeat' (first | split | omega | (rw [Bool.eq_iff_iff]; simp; omega))); done) | (simp [v0, *])))
  rw [if_neg (by simpa using q2)] at hR
  intro h; refine callK_body Try.func5 rfl (by rw [nt5]; simp) ?_; rw [nt5, rs5]
  (repeat' (first | simp [go_sem, X_region, *] | simp (disch := omega) only [om, *] | ((first | refine XC_split ?_ ?_ | refine XG_true ?_ ?_ | refine XG_false ?_ ?_ | refine XRg_true ?_ ?_ | refine XRg_false ?_ ?_) <;> intro hc <;> (try simp only [bl] at hc) <;> (try (exfalso; omega))) | refine XD_w [] [] [] (fun _ => none) mixed (by decide +kernel) (sub_none _) ?_ | refine Pure.call (hk) ?_ | refine ⟨_, Pure.at (hk), ?_⟩ | refine ⟨_, hk, ?_⟩ | refine PureAt.call (hk) ?_ | fail))
  intro b5 hb5 b8 n1 n2 hb8
  (repeat' (first | simp [go_sem, X_region, *] | simp (disch := omega) only [om, *] | ((first | refine XC_split ?_ ?_ | refine XG_true ?_ ?_ | refine XG_false ?_ ?_ | refine XRg_true ?_ ?_ | refine XRg_false ?_ ?_) <;> intro hc <;> (try simp only [bl] at hc) <;> (try (exfalso; omega))) | refine XD_w [] [] [] (fun _ => none) mixed (by decide +kernel) (sub_none _) ?_ | refine Pure.call (hk) ?_ | refine ⟨_, Pure.at (hk), ?_⟩ | refine ⟨_, hk, ?_⟩ | refine PureAt.call (hk) ?_ | fail))
  refine X_lpH (fun i => (9 ≤ i ∧ i ≤ 11) ∨ (13 ≤ i ∧ i ≤ 14) ∨ (49 ≤ i ∧ i ≤ 70)) (fun hE k T h2 => ∃ (i : Nat) (r : List V), k = r.length ∧ i ≤ l.length ∧ l.drop i = r ∧ T 49 = I i ∧ T 11 = B ((l.take i).any fun v => decide (v.k = 0)) ∧ chkL r = chkL l ∧ Own hE h2 (T 10) 3 1 ((l.take i).map (·.k)).length (cellsL cI ((l.take i).map (·.k)))) _
    ⟨0, l, rfl, by omega, rfl, by simp [go_sem], by simp [go_sem], rfl, by simpa [go_sem] using Own.none⟩ ?_
  rintro hE hEq J hJ k T h2 hfr ⟨i, r, rfl, hi, hd, t49, t11, hck, hown⟩
  have e5 := hown.1 b5 _ (by rw [← hEq]; exact upd_same _ _ _)
  have e8 := hown.1 b8 _ (by rw [← hEq]; exact (upd_ne _ _ n1).trans (upd_same _ _ _))
  have hsub : Sub h h2 := fun c oc hc => hown.1 c oc (by
    have m1 := ne_free hb5 hc
    have m2 := ne_free hb8 hc
    rw [← hEq, upd_ne _ _ m1.2, upd_ne _ _ m2.2, upd_ne _ _ m1.2]; exact hc)
  clear hEq
  rcases r with _ | ⟨x, r⟩
  · have hlt := drop_nil hd
    obtain rfl : i = l.length := by omega
    rw [List.take_length] at t11 hown
    simp only [chkL] at hck
    rw [if_neg (by omega)] at hR
    clear hck
    have ho := fun (k : AV) => own_ok op nk nn k (S nm)
    by_cases q4 : ownE op nk nn = 0
    case neg =>
      rw [if_pos q4] at hR
      subst hR
      (repeat' (first | simp [go_sem, X_region, *] | simp (disch := omega) only [om, *] | ((first | refine XC_split ?_ ?_ | refine XG_true ?_ ?_ | refine XG_false ?_ ?_ | refine XRg_true ?_ ?_ | refine XRg_false ?_ ?_) <;> intro hc <;> (try simp only [bl] at hc) <;> (try (exfalso; omega))) | refine XD_w [] [] [] (fun _ => none) mixed (by decide +kernel) (sub_none _) ?_ | refine Pure.call (ho _) ?_ | refine ⟨_, Pure.at (ho _), ?_⟩ | refine ⟨_, ho _, ?_⟩ | refine PureAt.call (ho _) ?_ | fail))
      all_goals exact Wk.fin (Sub.upd hb8 hsub) rfl
    rw [if_neg (fun h => h q4)] at hR
    rw [q4] at ho
    have hlog := logic_all (op := op) q1 (l := l) q2
    by_cases q5 : op = 16
    · rw [if_pos q5] at hR
      subst q5
      have hfind := find_ok nm ts
      cases hq : findF nm ts with
      | none =>
        rw [hq] at hR hfind
        dsimp only at hR
        subst hR
        simp only [encO] at hfind
        (repeat' (first | simp [go_sem, X_region, *] | simp (disch := omega) only [om, *] | ((first | refine XC_split ?_ ?_ | refine XG_true ?_ ?_ | refine XG_false ?_ ?_ | refine XRg_true ?_ ?_ | refine XRg_false ?_ ?_) <;> intro hc <;> (try simp only [bl] at hc) <;> (try (exfalso; omega))) | refine XD_w [] [] [] (fun _ => none) mixed (by decide +kernel) (sub_none _) ?_ | refine Pure.call (ho _) ?_ | refine ⟨_, Pure.at (ho _), ?_⟩ | refine ⟨_, ho _, ?_⟩ | refine PureAt.call (ho _) ?_ | refine Pure.call (hfind) ?_ | refine ⟨_, Pure.at (hfind), ?_⟩ | refine ⟨_, hfind, ?_⟩ | refine PureAt.call (hfind) ?_ | fail))
        intro b16 hb16
        have m5 := ne_free hb16 e5
        have m8 := ne_free hb16 e8
        (repeat' (first | simp [go_sem, X_region, *] | simp (disch := omega) only [om, *] | ((first | refine XC_split ?_ ?_ | refine XG_true ?_ ?_ | refine XG_false ?_ ?_ | refine XRg_true ?_ ?_ | refine XRg_false ?_ ?_) <;> intro hc <;> (try simp only [bl] at hc) <;> (try (exfalso; omega))) | refine XD_w [] [] [] (fun _ => none) mixed (by decide +kernel) (sub_none _) ?_ | refine Pure.call (ho _) ?_ | refine ⟨_, Pure.at (ho _), ?_⟩ | refine ⟨_, ho _, ?_⟩ | refine PureAt.call (ho _) ?_ | refine Pure.call (hfind) ?_ | refine ⟨_, Pure.at (hfind), ?_⟩ | refine ⟨_, hfind, ?_⟩ | refine PureAt.call (hfind) ?_ | fail))
        all_goals exact Wk.fin (Sub.upd hb8 (Sub.upd (sub_free hsub hb16) hsub)) rfl
      | some t =>
        rw [hq] at hR hfind
        dsimp only at hR
        simp only [encO, encTbA] at hfind
        have htc := tcheck_ok t
        simp only [encTbA] at htc
        by_cases q55 : chkTb t = 0
        case neg =>
          rw [if_pos q55] at hR
          subst hR
          (repeat' (first | simp [go_sem, X_region, *] | simp (disch := omega) only [om, *] | ((first | refine XC_split ?_ ?_ | refine XG_true ?_ ?_ | refine XG_false ?_ ?_ | refine XRg_true ?_ ?_ | refine XRg_false ?_ ?_) <;> intro hc <;> (try simp only [bl] at hc) <;> (try (exfalso; omega))) | refine XD_w [] [] [] (fun _ => none) mixed (by decide +kernel) (sub_none _) ?_ | refine Pure.call (ho _) ?_ | refine ⟨_, Pure.at (ho _), ?_⟩ | refine ⟨_, ho _, ?_⟩ | refine PureAt.call (ho _) ?_ | refine Pure.call (hfind) ?_ | refine ⟨_, Pure.at (hfind), ?_⟩ | refine ⟨_, hfind, ?_⟩ | refine PureAt.call (hfind) ?_ | refine Pure.call (htc) ?_ | refine ⟨_, Pure.at (htc), ?_⟩ | refine ⟨_, htc, ?_⟩ | refine PureAt.call (htc) ?_ | fail))
          intro b16 hb16
          have m5 := ne_free hb16 e5
          have m8 := ne_free hb16 e8
          (repeat' (first | simp [go_sem, X_region, *] | simp (disch := omega) only [om, *] | ((first | refine XC_split ?_ ?_ | refine XG_true ?_ ?_ | refine XG_false ?_ ?_ | refine XRg_true ?_ ?_ | refine XRg_false ?_ ?_) <;> intro hc <;> (try simp only [bl] at hc) <;> (try (exfalso; omega))) | refine XD_w [] [] [] (fun _ => none) mixed (by decide +kernel) (sub_none _) ?_ | refine Pure.call (ho _) ?_ | refine ⟨_, Pure.at (ho _), ?_⟩ | refine ⟨_, ho _, ?_⟩ | refine PureAt.call (ho _) ?_ | refine Pure.call (hfind) ?_ | refine ⟨_, Pure.at (hfind), ?_⟩ | refine ⟨_, hfind, ?_⟩ | refine PureAt.call (hfind) ?_ | refine Pure.call (htc) ?_ | refine ⟨_, Pure.at (htc), ?_⟩ | refine ⟨_, htc, ?_⟩ | refine PureAt.call (htc) ?_ | fail))
          all_goals exact Wk.fin (Sub.upd hb8 (Sub.upd (sub_free hsub hb16) hsub)) rfl
        rw [if_neg (fun h => h q55)] at hR
        rw [q55] at htc
        have hstr := fun h => strict_all kids (S nm) nk nn t (op := 16) q1 (l := l) q2 h (.inl rfl)
        simp only [encTbA] at hstr
        clear hq
        obtain ⟨q, hkind⟩ := kind_own kids (S nm) (S t.name) (encL 2 cSt t.steps) nk nn t.fr t.to t.sl (op := 16) q1 (l := l.map (·.k)) (by simpa using q2)
        have hR2 : (if kindP 16 nk t.fr t.to (l.map (·.k)) = true then if (logicL 16 l).2 = true then ((logicL 16 l).1, (0 : Int)) else if l.any (fun v => decide (v.k = 0)) = true then (v0, 0) else (strictL 16 nk nn l t, 0) else (v0, 8)) = R := hR
        clear hR
        generalize strictL 16 nk nn l t = sv at *
        generalize logicL 16 l = lv at *
        generalize kindP 16 nk t.fr t.to (l.map (·.k)) = kv at *
        (repeat' (first | simp [go_sem, X_region, *] | simp (disch := omega) only [om, *] | ((first | refine XC_split ?_ ?_ | refine XG_true ?_ ?_ | refine XG_false ?_ ?_ | refine XRg_true ?_ ?_ | refine XRg_false ?_ ?_) <;> intro hc <;> (try simp only [bl] at hc) <;> (try (exfalso; omega))) | refine XD_w [] [] [] (fun _ => none) mixed (by decide +kernel) (sub_none _) ?_ | refine Pure.call (ho _) ?_ | refine ⟨_, Pure.at (ho _), ?_⟩ | refine ⟨_, ho _, ?_⟩ | refine PureAt.call (ho _) ?_ | refine Pure.call (hfind) ?_ | refine ⟨_, Pure.at (hfind), ?_⟩ | refine ⟨_, hfind, ?_⟩ | refine PureAt.call (hfind) ?_ | refine Pure.call (htc) ?_ | refine ⟨_, Pure.at (htc), ?_⟩ | refine ⟨_, htc, ?_⟩ | refine PureAt.call (htc) ?_ | fail))
        intro b16 hb16
        have m5 := ne_free hb16 e5
        have m8 := ne_free hb16 e8
        have hkd := fun (ob : Ob) => hkind (hown.alloc (ob := ob) hb16)
        cases kv
        · rw [if_neg (by simp)] at hR2
          subst hR2
          (repeat' (first | simp [go_sem, X_region, *] | simp (disch := omega) only [om, *] | ((first | refine XC_split ?_ ?_ | refine XG_true ?_ ?_ | refine XG_false ?_ ?_ | refine XRg_true ?_ ?_ | refine XRg_false ?_ ?_) <;> intro hc <;> (try simp only [bl] at hc) <;> (try (exfalso; omega))) | refine XD_w [] [] [] (fun _ => none) mixed (by decide +kernel) (sub_none _) ?_ | refine Pure.call (ho _) ?_ | refine ⟨_, Pure.at (ho _), ?_⟩ | refine ⟨_, ho _, ?_⟩ | refine PureAt.call (ho _) ?_ | refine Pure.call (hfind) ?_ | refine ⟨_, Pure.at (hfind), ?_⟩ | refine ⟨_, hfind, ?_⟩ | refine PureAt.call (hfind) ?_ | refine Pure.call (htc) ?_ | refine ⟨_, Pure.at (htc), ?_⟩ | refine ⟨_, htc, ?_⟩ | refine PureAt.call (htc) ?_ | refine Pure.call (hkd _) ?_ | refine ⟨_, Pure.at (hkd _), ?_⟩ | refine ⟨_, hkd _, ?_⟩ | refine PureAt.call (hkd _) ?_ | fail))
          all_goals exact Wk.fin (Sub.upd hb8 (Sub.upd (sub_free hsub hb16) hsub)) rfl
        rw [if_pos rfl] at hR2
        cases hl2 : lv.2
        · rw [hl2, if_neg (by simp)] at hR2
          have hsv := hstr hl2
          rw [hl2] at hlog
          cases han : l.any fun v => decide (v.k = 0)
          · rw [han, if_neg (by simp)] at hR2
            rw [han] at t11
            subst hR2
            (repeat' (first | simp [go_sem, X_region, *] | simp (disch := omega) only [om, *] | ((first | refine XC_split ?_ ?_ | refine XG_true ?_ ?_ | refine XG_false ?_ ?_ | refine XRg_true ?_ ?_ | refine XRg_false ?_ ?_) <;> intro hc <;> (try simp only [bl] at hc) <;> (try (exfalso; omega))) | refine XD_w [] [] [] (fun _ => none) mixed (by decide +kernel) (sub_none _) ?_ | refine Pure.call (ho _) ?_ | refine ⟨_, Pure.at (ho _), ?_⟩ | refine ⟨_, ho _, ?_⟩ | refine PureAt.call (ho _) ?_ | refine Pure.call (hfind) ?_ | refine ⟨_, Pure.at (hfind), ?_⟩ | refine ⟨_, hfind, ?_⟩ | refine PureAt.call (hfind) ?_ | refine Pure.call (htc) ?_ | refine ⟨_, Pure.at (htc), ?_⟩ | refine ⟨_, htc, ?_⟩ | refine PureAt.call (htc) ?_ | refine Pure.call (hkd _) ?_ | refine ⟨_, Pure.at (hkd _), ?_⟩ | refine ⟨_, hkd _, ?_⟩ | refine PureAt.call (hkd _) ?_ | refine Pure.call (hlog) ?_ | refine ⟨_, Pure.at (hlog), ?_⟩ | refine ⟨_, hlog, ?_⟩ | refine PureAt.call (hlog) ?_ | refine Pure.call (hsv) ?_ | refine ⟨_, Pure.at (hsv), ?_⟩ | refine ⟨_, hsv, ?_⟩ | refine PureAt.call (hsv) ?_ | fail))
            intro b21 n16a n16b hb21
            have m85 := ne_free hb21 e5
            have m88 := ne_free hb21 e8
            (repeat' (first | simp [go_sem, X_region, *] | simp (disch := omega) only [om, *] | ((first | refine XC_split ?_ ?_ | refine XG_true ?_ ?_ | refine XG_false ?_ ?_ | refine XRg_true ?_ ?_ | refine XRg_false ?_ ?_) <;> intro hc <;> (try simp only [bl] at hc) <;> (try (exfalso; omega))) | refine XD_w [] [] [] (fun _ => none) mixed (by decide +kernel) (sub_none _) ?_ | refine Pure.call (ho _) ?_ | refine ⟨_, Pure.at (ho _), ?_⟩ | refine ⟨_, ho _, ?_⟩ | refine PureAt.call (ho _) ?_ | refine Pure.call (hfind) ?_ | refine ⟨_, Pure.at (hfind), ?_⟩ | refine ⟨_, hfind, ?_⟩ | refine PureAt.call (hfind) ?_ | refine Pure.call (htc) ?_ | refine ⟨_, Pure.at (htc), ?_⟩ | refine ⟨_, htc, ?_⟩ | refine PureAt.call (htc) ?_ | refine Pure.call (hkd _) ?_ | refine ⟨_, Pure.at (hkd _), ?_⟩ | refine ⟨_, hkd _, ?_⟩ | refine PureAt.call (hkd _) ?_ | refine Pure.call (hlog) ?_ | refine ⟨_, Pure.at (hlog), ?_⟩ | refine ⟨_, hlog, ?_⟩ | refine PureAt.call (hlog) ?_ | refine Pure.call (hsv) ?_ | refine ⟨_, Pure.at (hsv), ?_⟩ | refine ⟨_, hsv, ?_⟩ | refine PureAt.call (hsv) ?_ | fail))
            all_goals exact Wk.fin (Sub.upd hb8 (Sub.upd (sub_free hsub hb21) (Sub.upd (sub_free hsub hb16) hsub))) rfl
          · rw [han, if_pos rfl] at hR2
            rw [han] at t11
            subst hR2
            (repeat' (first | simp [go_sem, X_region, *] | simp (disch := omega) only [om, *] | ((first | refine XC_split ?_ ?_ | refine XG_true ?_ ?_ | refine XG_false ?_ ?_ | refine XRg_true ?_ ?_ | refine XRg_false ?_ ?_) <;> intro hc <;> (try simp only [bl] at hc) <;> (try (exfalso; omega))) | refine XD_w [] [] [] (fun _ => none) mixed (by decide +kernel) (sub_none _) ?_ | refine Pure.call (ho _) ?_ | refine ⟨_, Pure.at (ho _), ?_⟩ | refine ⟨_, ho _, ?_⟩ | refine PureAt.call (ho _) ?_ | refine Pure.call (hfind) ?_ | refine ⟨_, Pure.at (hfind), ?_⟩ | refine ⟨_, hfind, ?_⟩ | refine PureAt.call (hfind) ?_ | refine Pure.call (htc) ?_ | refine ⟨_, Pure.at (htc), ?_⟩ | refine ⟨_, htc, ?_⟩ | refine PureAt.call (htc) ?_ | refine Pure.call (hkd _) ?_ | refine ⟨_, Pure.at (hkd _), ?_⟩ | refine ⟨_, hkd _, ?_⟩ | refine PureAt.call (hkd _) ?_ | refine Pure.call (hlog) ?_ | refine ⟨_, Pure.at (hlog), ?_⟩ | refine ⟨_, hlog, ?_⟩ | refine PureAt.call (hlog) ?_ | fail))
            intro b21 n16a n16b hb21
            have m85 := ne_free hb21 e5
            have m88 := ne_free hb21 e8
            (repeat' (first | simp [go_sem, X_region, *] | simp (disch := omega) only [om, *] | ((first | refine XC_split ?_ ?_ | refine XG_true ?_ ?_ | refine XG_false ?_ ?_ | refine XRg_true ?_ ?_ | refine XRg_false ?_ ?_) <;> intro hc <;> (try simp only [bl] at hc) <;> (try (exfalso; omega))) | refine XD_w [] [] [] (fun _ => none) mixed (by decide +kernel) (sub_none _) ?_ | refine Pure.call (ho _) ?_ | refine ⟨_, Pure.at (ho _), ?_⟩ | refine ⟨_, ho _, ?_⟩ | refine PureAt.call (ho _) ?_ | refine Pure.call (hfind) ?_ | refine ⟨_, Pure.at (hfind), ?_⟩ | refine ⟨_, hfind, ?_⟩ | refine PureAt.call (hfind) ?_ | refine Pure.call (htc) ?_ | refine ⟨_, Pure.at (htc), ?_⟩ | refine ⟨_, htc, ?_⟩ | refine PureAt.call (htc) ?_ | refine Pure.call (hkd _) ?_ | refine ⟨_, Pure.at (hkd _), ?_⟩ | refine ⟨_, hkd _, ?_⟩ | refine PureAt.call (hkd _) ?_ | refine Pure.call (hlog) ?_ | refine ⟨_, Pure.at (hlog), ?_⟩ | refine ⟨_, hlog, ?_⟩ | refine PureAt.call (hlog) ?_ | fail))
            all_goals exact Wk.fin (Sub.upd hb8 (Sub.upd (sub_free hsub hb21) (Sub.upd (sub_free hsub hb16) hsub))) rfl
        · rw [hl2, if_pos rfl] at hR2
          rw [hl2] at hlog
          subst hR2
          (repeat' (first | simp [go_sem, X_region, *] | simp (disch := omega) only [om, *] | ((first | refine XC_split ?_ ?_ | refine XG_true ?_ ?_ | refine XG_false ?_ ?_ | refine XRg_true ?_ ?_ | refine XRg_false ?_ ?_) <;> intro hc <;> (try simp only [bl] at hc) <;> (try (exfalso; omega))) | refine XD_w [] [] [] (fun _ => none) mixed (by decide +kernel) (sub_none _) ?_ | refine Pure.call (ho _) ?_ | refine ⟨_, Pure.at (ho _), ?_⟩ | refine ⟨_, ho _, ?_⟩ | refine PureAt.call (ho _) ?_ | refine Pure.call (hfind) ?_ | refine ⟨_, Pure.at (hfind), ?_⟩ | refine ⟨_, hfind, ?_⟩ | refine PureAt.call (hfind) ?_ | refine Pure.call (htc) ?_ | refine ⟨_, Pure.at (htc), ?_⟩ | refine ⟨_, htc, ?_⟩ | refine PureAt.call (htc) ?_ | refine Pure.call (hkd _) ?_ | refine ⟨_, Pure.at (hkd _), ?_⟩ | refine ⟨_, hkd _, ?_⟩ | refine PureAt.call (hkd _) ?_ | refine Pure.call (hlog) ?_ | refine ⟨_, Pure.at (hlog), ?_⟩ | refine ⟨_, hlog, ?_⟩ | refine PureAt.call (hlog) ?_ | fail))
          intro b21 n16a n16b hb21
          have m85 := ne_free hb21 e5
          have m88 := ne_free hb21 e8
          (repeat' (first | simp [go_sem, X_region, *] | simp (disch := omega) only [om, *] | ((first | refine XC_split ?_ ?_ | refine XG_true ?_ ?_ | refine XG_false ?_ ?_ | refine XRg_true ?_ ?_ | refine XRg_false ?_ ?_) <;> intro hc <;> (try simp only [bl] at hc) <;> (try (exfalso; omega))) | refine XD_w [] [] [] (fun _ => none) mixed (by decide +kernel) (sub_none _) ?_ | refine Pure.call (ho _) ?_ | refine ⟨_, Pure.at (ho _), ?_⟩ | refine ⟨_, ho _, ?_⟩ | refine PureAt.call (ho _) ?_ | refine Pure.call (hfind) ?_ | refine ⟨_, Pure.at (hfind), ?_⟩ | refine ⟨_, hfind, ?_⟩ | refine PureAt.call (hfind) ?_ | refine Pure.call (htc) ?_ | refine ⟨_, Pure.at (htc), ?_⟩ | refine ⟨_, htc, ?_⟩ | refine PureAt.call (htc) ?_ | refine Pure.call (hkd _) ?_ | refine ⟨_, Pure.at (hkd _), ?_⟩ | refine ⟨_, hkd _, ?_⟩ | refine PureAt.call (hkd _) ?_ | refine Pure.call (hlog) ?_ | refine ⟨_, Pure.at (hlog), ?_⟩ | refine ⟨_, hlog, ?_⟩ | refine PureAt.call (hlog) ?_ | fail))
          all_goals exact Wk.fin (Sub.upd hb8 (Sub.upd (sub_free hsub hb21) (Sub.upd (sub_free hsub hb16) hsub))) rfl
    · rw [if_neg q5] at hR
      have hstr := fun h => strict_all kids (S nm) nk nn tb0 (op := op) q1 (l := l) q2 h (.inr ⟨q5, S ⟨#[]⟩, 0, 0, false, .v (.slice none 0 0), rfl⟩)
      obtain ⟨q, hkind⟩ := kind_own kids (S nm) ((S ⟨#[]⟩)) ((.v (.slice none 0 0))) nk nn (0 : Int) (0 : Int) false (op := op) q1 (l := l.map (·.k)) (by simpa using q2)
      have hR2 : (if kindP op nk (0 : Int) (0 : Int) (l.map (·.k)) = true then if (logicL op l).2 = true then ((logicL op l).1, (0 : Int)) else if l.any (fun v => decide (v.k = 0)) = true then (v0, 0) else (strictL op nk nn l tb0, 0) else (v0, 8)) = R := hR
      clear hR
      generalize strictL op nk nn l tb0 = sv at *
      generalize logicL op l = lv at *
      generalize kindP op nk (0 : Int) (0 : Int) (l.map (·.k)) = kv at *
      (repeat' (first | simp [go_sem, X_region, *] | simp (disch := omega) only [om, *] | ((first | refine XC_split ?_ ?_ | refine XG_true ?_ ?_ | refine XG_false ?_ ?_ | refine XRg_true ?_ ?_ | refine XRg_false ?_ ?_) <;> intro hc <;> (try simp only [bl] at hc) <;> (try (exfalso; omega))) | refine XD_w [] [] [] (fun _ => none) mixed (by decide +kernel) (sub_none _) ?_ | refine Pure.call (ho _) ?_ | refine ⟨_, Pure.at (ho _), ?_⟩ | refine ⟨_, ho _, ?_⟩ | refine PureAt.call (ho _) ?_ | fail))
      intro b16 hb16
      have m5 := ne_free hb16 e5
      have m8 := ne_free hb16 e8
      have hkd := fun (ob : Ob) => hkind (hown.alloc (ob := ob) hb16)
      cases kv
      · rw [if_neg (by simp)] at hR2
        subst hR2
        (repeat' (first | simp [go_sem, X_region, *] | simp (disch := omega) only [om, *] | ((first | refine XC_split ?_ ?_ | refine XG_true ?_ ?_ | refine XG_false ?_ ?_ | refine XRg_true ?_ ?_ | refine XRg_false ?_ ?_) <;> intro hc <;> (try simp only [bl] at hc) <;> (try (exfalso; omega))) | refine XD_w [] [] [] (fun _ => none) mixed (by decide +kernel) (sub_none _) ?_ | refine Pure.call (ho _) ?_ | refine ⟨_, Pure.at (ho _), ?_⟩ | refine ⟨_, ho _, ?_⟩ | refine PureAt.call (ho _) ?_ | refine Pure.call (hkd _) ?_ | refine ⟨_, Pure.at (hkd _), ?_⟩ | refine ⟨_, hkd _, ?_⟩ | refine PureAt.call (hkd _) ?_ | fail))
        all_goals exact Wk.fin (Sub.upd hb8 (Sub.upd (sub_free hsub hb16) hsub)) rfl
      rw [if_pos rfl] at hR2
      cases hl2 : lv.2
      · rw [hl2, if_neg (by simp)] at hR2
        have hsv := hstr hl2
        rw [hl2] at hlog
        cases han : l.any fun v => decide (v.k = 0)
        · rw [han, if_neg (by simp)] at hR2
          rw [han] at t11
          subst hR2
          (repeat' (first | simp [go_sem, X_region, *] | simp (disch := omega) only [om, *] | ((first | refine XC_split ?_ ?_ | refine XG_true ?_ ?_ | refine XG_false ?_ ?_ | refine XRg_true ?_ ?_ | refine XRg_false ?_ ?_) <;> intro hc <;> (try simp only [bl] at hc) <;> (try (exfalso; omega))) | refine XD_w [] [] [] (fun _ => none) mixed (by decide +kernel) (sub_none _) ?_ | refine Pure.call (ho _) ?_ | refine ⟨_, Pure.at (ho _), ?_⟩ | refine ⟨_, ho _, ?_⟩ | refine PureAt.call (ho _) ?_ | refine Pure.call (hkd _) ?_ | refine ⟨_, Pure.at (hkd _), ?_⟩ | refine ⟨_, hkd _, ?_⟩ | refine PureAt.call (hkd _) ?_ | refine Pure.call (hlog) ?_ | refine ⟨_, Pure.at (hlog), ?_⟩ | refine ⟨_, hlog, ?_⟩ | refine PureAt.call (hlog) ?_ | refine Pure.call (hsv) ?_ | refine ⟨_, Pure.at (hsv), ?_⟩ | refine ⟨_, hsv, ?_⟩ | refine PureAt.call (hsv) ?_ | fail))
          intro b21 n16a n16b hb21
          have m85 := ne_free hb21 e5
          have m88 := ne_free hb21 e8
          (repeat' (first | simp [go_sem, X_region, *] | simp (disch := omega) only [om, *] | ((first | refine XC_split ?_ ?_ | refine XG_true ?_ ?_ | refine XG_false ?_ ?_ | refine XRg_true ?_ ?_ | refine XRg_false ?_ ?_) <;> intro hc <;> (try simp only [bl] at hc) <;> (try (exfalso; omega))) | refine XD_w [] [] [] (fun _ => none) mixed (by decide +kernel) (sub_none _) ?_ | refine Pure.call (ho _) ?_ | refine ⟨_, Pure.at (ho _), ?_⟩ | refine ⟨_, ho _, ?_⟩ | refine PureAt.call (ho _) ?_ | refine Pure.call (hkd _) ?_ | refine ⟨_, Pure.at (hkd _), ?_⟩ | refine ⟨_, hkd _, ?_⟩ | refine PureAt.call (hkd _) ?_ | refine Pure.call (hlog) ?_ | refine ⟨_, Pure.at (hlog), ?_⟩ | refine ⟨_, hlog, ?_⟩ | refine PureAt.call (hlog) ?_ | refine Pure.call (hsv) ?_ | refine ⟨_, Pure.at (hsv), ?_⟩ | refine ⟨_, hsv, ?_⟩ | refine PureAt.call (hsv) ?_ | fail))
          all_goals exact Wk.fin (Sub.upd hb8 (Sub.upd (sub_free hsub hb21) (Sub.upd (sub_free hsub hb16) hsub))) rfl
        · rw [han, if_pos rfl] at hR2
          rw [han] at t11
          subst hR2
          (repeat' (first | simp [go_sem, X_region, *] | simp (disch := omega) only [om, *] | ((first | refine XC_split ?_ ?_ | refine XG_true ?_ ?_ | refine XG_false ?_ ?_ | refine XRg_true ?_ ?_ | refine XRg_false ?_ ?_) <;> intro hc <;> (try simp only [bl] at hc) <;> (try (exfalso; omega))) | refine XD_w [] [] [] (fun _ => none) mixed (by decide +kernel) (sub_none _) ?_ | refine Pure.call (ho _) ?_ | refine ⟨_, Pure.at (ho _), ?_⟩ | refine ⟨_, ho _, ?_⟩ | refine PureAt.call (ho _) ?_ | refine Pure.call (hkd _) ?_ | refine ⟨_, Pure.at (hkd _), ?_⟩ | refine ⟨_, hkd _, ?_⟩ | refine PureAt.call (hkd _) ?_ | refine Pure.call (hlog) ?_ | refine ⟨_, Pure.at (hlog), ?_⟩ | refine ⟨_, hlog, ?_⟩ | refine PureAt.call (hlog) ?_ | fail))
          intro b21 n16a n16b hb21
          have m85 := ne_free hb21 e5
          have m88 := ne_free hb21 e8
          (repeat' (first | simp [go_sem, X_region, *] | simp (disch := omega) only [om, *] | ((first | refine XC_split ?_ ?_ | refine XG_true ?_ ?_ | refine XG_false ?_ ?_ | refine XRg_true ?_ ?_ | refine XRg_false ?_ ?_) <;> intro hc <;> (try simp only [bl] at hc) <;> (try (exfalso; omega))) | refine XD_w [] [] [] (fun _ => none) mixed (by decide +kernel) (sub_none _) ?_ | refine Pure.call (ho _) ?_ | refine ⟨_, Pure.at (ho _), ?_⟩ | refine ⟨_, ho _, ?_⟩ | refine PureAt.call (ho _) ?_ | refine Pure.call (hkd _) ?_ | refine ⟨_, Pure.at (hkd _), ?_⟩ | refine ⟨_, hkd _, ?_⟩ | refine PureAt.call (hkd _) ?_ | refine Pure.call (hlog) ?_ | refine ⟨_, Pure.at (hlog), ?_⟩ | refine ⟨_, hlog, ?_⟩ | refine PureAt.call (hlog) ?_ | fail))
          all_goals exact Wk.fin (Sub.upd hb8 (Sub.upd (sub_free hsub hb21) (Sub.upd (sub_free hsub hb16) hsub))) rfl
      · rw [hl2, if_pos rfl] at hR2
        rw [hl2] at hlog
        subst hR2
        (repeat' (first | simp [go_sem, X_region, *] | simp (disch := omega) only [om, *] | ((first | refine XC_split ?_ ?_ | refine XG_true ?_ ?_ | refine XG_false ?_ ?_ | refine XRg_true ?_ ?_ | refine XRg_false ?_ ?_) <;> intro hc <;> (try simp only [bl] at hc) <;> (try (exfalso; omega))) | refine XD_w [] [] [] (fun _ => none) mixed (by decide +kernel) (sub_none _) ?_ | refine Pure.call (ho _) ?_ | refine ⟨_, Pure.at (ho _), ?_⟩ | refine ⟨_, ho _, ?_⟩ | refine PureAt.call (ho _) ?_ | refine Pure.call (hkd _) ?_ | refine ⟨_, Pure.at (hkd _), ?_⟩ | refine ⟨_, hkd _, ?_⟩ | refine PureAt.call (hkd _) ?_ | refine Pure.call (hlog) ?_ | refine ⟨_, Pure.at (hlog), ?_⟩ | refine ⟨_, hlog, ?_⟩ | refine PureAt.call (hlog) ?_ | fail))
        intro b21 n16a n16b hb21
        have m85 := ne_free hb21 e5
        have m88 := ne_free hb21 e8
        (repeat' (first | simp [go_sem, X_region, *] | simp (disch := omega) only [om, *] | ((first | refine XC_split ?_ ?_ | refine XG_true ?_ ?_ | refine XG_false ?_ ?_ | refine XRg_true ?_ ?_ | refine XRg_false ?_ ?_) <;> intro hc <;> (try simp only [bl] at hc) <;> (try (exfalso; omega))) | refine XD_w [] [] [] (fun _ => none) mixed (by decide +kernel) (sub_none _) ?_ | refine Pure.call (ho _) ?_ | refine ⟨_, Pure.at (ho _), ?_⟩ | refine ⟨_, ho _, ?_⟩ | refine PureAt.call (ho _) ?_ | refine Pure.call (hkd _) ?_ | refine ⟨_, Pure.at (hkd _), ?_⟩ | refine ⟨_, hkd _, ?_⟩ | refine PureAt.call (hkd _) ?_ | refine Pure.call (hlog) ?_ | refine ⟨_, Pure.at (hlog), ?_⟩ | refine ⟨_, hlog, ?_⟩ | refine PureAt.call (hlog) ?_ | fail))
        all_goals exact Wk.fin (Sub.upd hb8 (Sub.upd (sub_free hsub hb21) (Sub.upd (sub_free hsub hb16) hsub))) rfl
  · obtain ⟨hlt, hx, hd2⟩ := drop_cons hd
    have hcx := checkV_ok x
    rw [chkL] at hck
    by_cases hg : checkV x = 0
    · rw [if_pos hg] at hck
      rw [hg] at hcx
      (repeat' (first | simp [go_sem, X_region, *] | simp (disch := omega) only [om, *] | ((first | refine XC_split ?_ ?_ | refine XG_true ?_ ?_ | refine XG_false ?_ ?_ | refine XRg_true ?_ ?_ | refine XRg_false ?_ ?_) <;> intro hc <;> (try simp only [bl] at hc) <;> (try (exfalso; omega))) | refine XD_w [] [] [] (fun _ => none) mixed (by decide +kernel) (sub_none _) ?_ | refine Pure.call (hcx) ?_ | refine ⟨_, Pure.at (hcx), ?_⟩ | refine ⟨_, hcx, ?_⟩ | refine PureAt.call (hcx) ?_ | fail))
      intro b13 hb13
      have m5 := ne_free hb13 e5
      have m8 := ne_free hb13 e8
      (repeat' (first | simp [go_sem, X_region, *] | simp (disch := omega) only [om, *] | ((first | refine XC_split ?_ ?_ | refine XG_true ?_ ?_ | refine XG_false ?_ ?_ | refine XRg_true ?_ ?_ | refine XRg_false ?_ ?_) <;> intro hc <;> (try simp only [bl] at hc) <;> (try (exfalso; omega))) | refine XD_w [] [] [] (fun _ => none) mixed (by decide +kernel) (sub_none _) ?_ | refine Pure.call (hcx) ?_ | refine ⟨_, Pure.at (hcx), ?_⟩ | refine ⟨_, hcx, ?_⟩ | refine PureAt.call (hcx) ?_ | fail))
      refine Own.push2 (x := x.k) (enc := cI) (hown.alloc hb13) (by simp [go_sem, *]) und22 zr3 by3 (by simp [go_sem]) (by simp [go_sem, *]; rfl) (by simp [go_sem, *]) (by simp; omega) (by simp; omega) fun a1 h1 hown1 hkeep1 => ?_
      have q13 := hkeep1 b13 _ (upd_same _ _ _) (own_free hown hb13)
      have ht : l.take (i + 1) = l.take i ++ [x] := by rw [List.take_add_one, List.getElem?_eq_getElem hlt, hx]; rfl
      (repeat' (first | simp [go_sem, X_region, *] | simp (disch := omega) only [om, *] | ((first | refine XC_split ?_ ?_ | refine XG_true ?_ ?_ | refine XG_false ?_ ?_ | refine XRg_true ?_ ?_ | refine XRg_false ?_ ?_) <;> intro hc <;> (try simp only [bl] at hc) <;> (try (exfalso; omega))) | refine XD_w [] [] [] (fun _ => none) mixed (by decide +kernel) (sub_none _) ?_ | fail))
      all_goals exact ⟨_, Nat.lt_succ_self _, hJ.out _ _ _ ⟨(by (repeat (refine fr_upd (by decide) ?_)); exact hfr), i + 1, r, rfl, by omega, hd2, by simp [go_sem, *], by simp [go_sem, *], hck, by rw [ht]; simpa [go_sem] using hown1⟩⟩
    · rw [if_neg hg] at hck
      rw [if_pos (by rw [← hck]; exact hg), ← hck] at hR
      subst hR
      (repeat' (first | simp [go_sem, X_region, *] | simp (disch := omega) only [om, *] | ((first | refine XC_split ?_ ?_ | refine XG_true ?_ ?_ | refine XG_false ?_ ?_ | refine XRg_true ?_ ?_ | refine XRg_false ?_ ?_) <;> intro hc <;> (try simp only [bl] at hc) <;> (try (exfalso; omega))) | refine XD_w [] [] [] (fun _ => none) mixed (by decide +kernel) (sub_none _) ?_ | refine Pure.call (hcx) ?_ | refine ⟨_, Pure.at (hcx), ?_⟩ | refine ⟨_, hcx, ?_⟩ | refine PureAt.call (hcx) ?_ | fail))
      intro b13 hb13
      have m5 := ne_free hb13 e5
      have m8 := ne_free hb13 e8
      (repeat' (first | simp [go_sem, X_region, *] | simp (disch := omega) only [om, *] | ((first | refine XC_split ?_ ?_ | refine XG_true ?_ ?_ | refine XG_false ?_ ?_ | refine XRg_true ?_ ?_ | refine XRg_false ?_ ?_) <;> intro hc <;> (try simp only [bl] at hc) <;> (try (exfalso; omega))) | refine XD_w [] [] [] (fun _ => none) mixed (by decide +kernel) (sub_none _) ?_ | refine Pure.call (hcx) ?_ | refine ⟨_, Pure.at (hcx), ?_⟩ | refine ⟨_, hcx, ?_⟩ | refine PureAt.call (hcx) ?_ | fail))
      exact Wk.fin (Sub.upd hb8 (Sub.upd (sub_free hsub hb13) hsub)) rfl
end Go.Proofs.Ytmalhikcdideoaa
