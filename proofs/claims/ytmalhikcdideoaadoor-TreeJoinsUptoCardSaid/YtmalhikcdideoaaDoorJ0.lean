/- Short words for values. The package unit's checks; the package types: small functions; arities. Tables; types.find; lists of whole numbers. Nodes; tree.Check, given what tree.one says of each node. The reference: Permitted. tree.one, given what word.Name says. mootref2.nodeErr. mootref2.TreeErr. Acts; types.attr, types.looked. types.Tables. What KindOf answers. types.kind. -/
import Derived.Test.YtmalhikcdideoaaDoorFacts
set_option linter.unusedVariables false
set_option linter.unusedSimpArgs false
namespace Go.Proofs.YtmalhikcdideoaaDoor
open Go Sl
attribute [local irreducible] XRange LpQ XR XRo XRg XRQ putQ XFv XL XW2 wQ putW X XO XOp XH XHo XW SeqQ BlkQ XOQ XHQ NrmQ XC XM XG XHM XHG XD CallK
abbrev I (n : Int) : AV := .v (.int .i64 n)
abbrev B (b : Bool) : AV := .v (.bool b)
abbrev S (s : ByteArray) : AV := .v (.string s)
abbrev U (n : Int) : AV := .v (.int .u64 n)
abbrev U8 (c : UInt8) : AV := .v (.int .u8 c.toNat)
@[go_sem] def cS (s : ByteArray) : List AV := [S s]
@[go_sem] def cI (k : Int) : List AV := [I k]
def i64B (n : Int) : Prop := -9223372036854775808 ≤ n ∧ n ≤ 9223372036854775807
end Go.Proofs.YtmalhikcdideoaaDoor

set_option linter.unusedVariables false
set_option linter.unusedSimpArgs false
namespace Go.Proofs.YtmalhikcdideoaaDoor
open Go Sl
attribute [local irreducible] XRange LpQ XR XRo XRg XRQ putQ XFv XL XW2 wQ putW X XO XOp XH XHo XW SeqQ BlkQ XOQ XHQ NrmQ XC XM XG XHM XHG XD CallK
/-- A value: its kind and number. -/
structure V where
  k : Int
  n : Int
deriving DecidableEq
@[go_sem] def encV (v : V) : AV := aggL [I v.k, I v.n]
@[go_sem] def v0 : V := ⟨0, 0⟩

def lo (k : Int) : Int := if k = 1 then 0 else if k = 2 then -1099511627776 else if k = 3 then -1048576 else if k = 4 then 0 else if k = 5 then -1048576 else if k = 6 then -1000000000 else 0
def hi (k : Int) : Int := if k = 1 then 1 else if k = 2 then 1099511627776 else if k = 3 then 1048576 else if k = 4 then 1048575 else if k = 5 then 1048576 else if k = 6 then 1000000000 else 0
theorem Range_ok (k : Int) : Pure Tryd.prog 122 [I k] (tup2 (I (lo k)) (I (hi k))) := by
  intro h; refine callK_body Tryd.func122 rfl (by rw [nt122]; simp) ?_; rw [nt122, rs122]
  ((repeat' (first | simp [go_sem, X_region, *] | simp (disch := omega) only [om, *] | ((first | refine XC_split ?_ ?_ | refine XG_true ?_ ?_ | refine XG_false ?_ ?_ | refine XRg_true ?_ ?_ | refine XRg_false ?_ ?_) <;> intro hc <;> (try simp only [bl] at hc) <;> (try (exfalso; omega))) | refine XD_w [] [] [] (fun _ => none) mixed (by decide +kernel) (sub_none _) ?_ | (intro bk hbk; (try simp only [go_sem] at hbk)))); all_goals (refine Wk.fin (by repeat (first | exact Sub.refl _ | refine Sub.upd (by simp [*]) ?_)) ?_; first | (simp [lo, hi, *]; done) | (simp only [lo, hi]; (repeat' (first | split | rfl | omega | (simp_all; done))); done) | (simp [lo, hi, *]; (repeat' (first | split | omega | (rw [Bool.eq_iff_iff]; simp; omega))); done) | (simp [lo, hi, *])))
theorem known_ok (k : Int) : Pure Tryd.prog 123 [I k] (B (decide (0 ≤ k ∧ k ≤ 6))) := by
  intro h; refine callK_body Tryd.func123 rfl (by rw [nt123]; simp) ?_; rw [nt123, rs123]
  ((repeat' (first | simp [go_sem, X_region, *] | simp (disch := omega) only [om, *] | ((first | refine XC_split ?_ ?_ | refine XG_true ?_ ?_ | refine XG_false ?_ ?_ | refine XRg_true ?_ ?_ | refine XRg_false ?_ ?_) <;> intro hc <;> (try simp only [bl] at hc) <;> (try (exfalso; omega))) | refine XD_w [] [] [] (fun _ => none) mixed (by decide +kernel) (sub_none _) ?_ | (intro bk hbk; (try simp only [go_sem] at hbk)))); all_goals (refine Wk.fin (by repeat (first | exact Sub.refl _ | refine Sub.upd (by simp [*]) ?_)) ?_; first | (simp [*]; done) | (simp only []; (repeat' (first | split | rfl | omega | (simp_all; done))); done) | (simp [*]; (repeat' (first | split | omega | (rw [Bool.eq_iff_iff]; simp; omega))); done) | (simp [*])))
def checkV (v : V) : Int := if ¬ (0 ≤ v.k ∧ v.k ≤ 6) then 8 else if v.n < lo v.k ∨ hi v.k < v.n then 2 else 0
theorem checkV_ok (v : V) : Pure Tryd.prog 97 [encV v] (I (checkV v)) := by
  intro h; refine callK_body Tryd.func97 rfl (by rw [nt97]; simp) ?_; rw [nt97, rs97]
  ((repeat' (first | simp [go_sem, X_region, *] | simp (disch := omega) only [om, *] | ((first | refine XC_split ?_ ?_ | refine XG_true ?_ ?_ | refine XG_false ?_ ?_ | refine XRg_true ?_ ?_ | refine XRg_false ?_ ?_) <;> intro hc <;> (try simp only [bl] at hc) <;> (try (exfalso; omega))) | refine XD_w [] [] [] (fun _ => none) mixed (by decide +kernel) (sub_none _) ?_ | refine Pure.call (Range_ok _) ?_ | refine ⟨_, Pure.at (Range_ok _), ?_⟩ | refine ⟨_, Range_ok _, ?_⟩ | refine PureAt.call (Range_ok _) ?_ | refine Pure.call (known_ok _) ?_ | refine ⟨_, Pure.at (known_ok _), ?_⟩ | refine ⟨_, known_ok _, ?_⟩ | refine PureAt.call (known_ok _) ?_ | (intro bk hbk; (try simp only [go_sem] at hbk)))); all_goals (refine Wk.fin (by repeat (first | exact Sub.refl _ | refine Sub.upd (by simp [*]) ?_)) ?_; first | (simp [checkV, *]; done) | (simp only [checkV]; (repeat' (first | split | rfl | omega | (simp_all; done))); done) | (simp [checkV, *]; (repeat' (first | split | omega | (rw [Bool.eq_iff_iff]; simp; omega))); done) | (simp [checkV, *])))
theorem unitary_ok (k : Int) : Pure Tryd.prog 74 [I k] (B (decide (0 < k ∧ k ≤ 6))) := by
  intro h; refine callK_body Tryd.func74 rfl (by rw [nt74]; simp) ?_; rw [nt74, rs74]
  ((repeat' (first | simp [go_sem, X_region, *] | simp (disch := omega) only [om, *] | ((first | refine XC_split ?_ ?_ | refine XG_true ?_ ?_ | refine XG_false ?_ ?_ | refine XRg_true ?_ ?_ | refine XRg_false ?_ ?_) <;> intro hc <;> (try simp only [bl] at hc) <;> (try (exfalso; omega))) | refine XD_w [] [] [] (fun _ => none) mixed (by decide +kernel) (sub_none _) ?_ | (intro bk hbk; (try simp only [go_sem] at hbk)))); all_goals (refine Wk.fin (by repeat (first | exact Sub.refl _ | refine Sub.upd (by simp [*]) ?_)) ?_; first | (simp [*]; done) | (simp only []; (repeat' (first | split | rfl | omega | (simp_all; done))); done) | (simp [*]; (repeat' (first | split | omega | (rw [Bool.eq_iff_iff]; simp; omega))); done) | (simp [*])))
def joinK (a b : Int) : Int × Bool := if a = 0 then (b, true) else if b = 0 ∨ a = b then (a, true) else (0, false)
theorem join_ok (a b : Int) : Pure Tryd.prog 103 [I a, I b] (tup2 (I (joinK a b).1) (B (joinK a b).2)) := by
  intro h; refine callK_body Tryd.func103 rfl (by rw [nt103]; simp) ?_; rw [nt103, rs103]
  ((repeat' (first | simp [go_sem, X_region, *] | simp (disch := omega) only [om, *] | ((first | refine XC_split ?_ ?_ | refine XG_true ?_ ?_ | refine XG_false ?_ ?_ | refine XRg_true ?_ ?_ | refine XRg_false ?_ ?_) <;> intro hc <;> (try simp only [bl] at hc) <;> (try (exfalso; omega))) | refine XD_w [] [] [] (fun _ => none) mixed (by decide +kernel) (sub_none _) ?_ | (intro bk hbk; (try simp only [go_sem] at hbk)))); all_goals (refine Wk.fin (by repeat (first | exact Sub.refl _ | refine Sub.upd (by simp [*]) ?_)) ?_; first | (simp [joinK, *]; done) | (simp only [joinK]; (repeat' (first | split | rfl | omega | (simp_all; done))); done) | (simp [joinK, *]; (repeat' (first | split | omega | (rw [Bool.eq_iff_iff]; simp; omega))); done) | (simp [joinK, *])))
def sumK (op a b : Int) : Int × Bool := if a = 1 ∨ b = 1 then (0, false) else if a = 0 ∨ b = 0 then (0, decide (b ≠ 4 ∨ op = 11)) else if a = 4 ∧ b = 3 then (4, true) else if a = 4 ∧ b = 4 then (3, decide (op = 11)) else (a, decide (a = b))
theorem sum_ok (op a b : Int) : Pure Tryd.prog 104 [I op, I a, I b] (tup2 (I (sumK op a b).1) (B (sumK op a b).2)) := by
  intro h; refine callK_body Tryd.func104 rfl (by rw [nt104]; simp) ?_; rw [nt104, rs104]
  ((repeat' (first | simp [go_sem, X_region, *] | simp (disch := omega) only [om, *] | ((first | refine XC_split ?_ ?_ | refine XG_true ?_ ?_ | refine XG_false ?_ ?_ | refine XRg_true ?_ ?_ | refine XRg_false ?_ ?_) <;> intro hc <;> (try simp only [bl] at hc) <;> (try (exfalso; omega))) | refine XD_w [] [] [] (fun _ => none) mixed (by decide +kernel) (sub_none _) ?_ | (intro bk hbk; (try simp only [go_sem] at hbk)))); all_goals (refine Wk.fin (by repeat (first | exact Sub.refl _ | refine Sub.upd (by simp [*]) ?_)) ?_; first | (simp [sumK, *]; done) | (simp only [sumK]; (repeat' (first | split | rfl | omega | (simp_all; done))); done) | (simp [sumK, *]; (repeat' (first | split | omega | (rw [Bool.eq_iff_iff]; simp; omega))); done) | (simp [sumK, *])))
def eitherB (k : Int) : List Int → Bool
  | [] => decide (k = 0)
  | x :: r => if k = x then true else eitherB k r
theorem either_ok (k : Int) (l : List Int) : Pure Tryd.prog 102 [I k, encL 1 cI l] (B (eitherB k l)) := by
  generalize hR : B (eitherB k l) = R
  intro h; refine CallK.lens fun hlen => ?_; have hlen := (hlen _ (by simp only [List.mem_cons, true_or, or_true] : (encL 1 cI l) ∈ _)).encL; refine callK_body Tryd.func102 rfl (by rw [nt102]; simp) ?_; rw [nt102, rs102]
  (repeat' (first | simp [go_sem, X_region, *] | simp (disch := omega) only [om, *] | ((first | refine XC_split ?_ ?_ | refine XG_true ?_ ?_ | refine XG_false ?_ ?_ | refine XRg_true ?_ ?_ | refine XRg_false ?_ ?_) <;> intro hc <;> (try simp only [bl] at hc) <;> (try (exfalso; omega))) | refine XD_w [] [] [] (fun _ => none) mixed (by decide +kernel) (sub_none _) ?_ | (intro bk hbk; (try simp only [go_sem] at hbk))))
  refine X_lp (fun n T h' => ∃ (i : Nat) (r : List Int), n = r.length ∧ i ≤ l.length ∧ l.drop i = r ∧ T 9 = I i ∧ B (eitherB k r) = R ∧ T 0 = I k ∧ T 7 = encL 1 cI l ∧ T 8 = I l.length ∧ h' = h) l.length ⟨0, l, by simp [go_sem, hR]⟩ ?_
  clear hR; rintro J hJ n T h' ⟨i, r, rfl, hi, hd, h9, hR, h0, h7, h8, rfl⟩
  rcases r with _ | ⟨x, r⟩
  · have hlt := drop_nil hd
    (repeat' (first | simp [go_sem, X_region, *] | simp (disch := omega) only [om, *] | ((first | refine XC_split ?_ ?_ | refine XG_true ?_ ?_ | refine XG_false ?_ ?_ | refine XRg_true ?_ ?_ | refine XRg_false ?_ ?_) <;> intro hc <;> (try simp only [bl] at hc) <;> (try (exfalso; omega))) | refine XD_w [] [] [] (fun _ => none) mixed (by decide +kernel) (sub_none _) ?_ | (intro bk hbk; (try simp only [go_sem] at hbk))))
    all_goals (subst hR; exact Wk.of_eq (by simp [eitherB, eq_comm]))
  · obtain ⟨hlt, hx, hd2⟩ := drop_cons hd
    by_cases he : k = x
    · (repeat' (first | simp [go_sem, X_region, *] | simp (disch := omega) only [om, *] | ((first | refine XC_split ?_ ?_ | refine XG_true ?_ ?_ | refine XG_false ?_ ?_ | refine XRg_true ?_ ?_ | refine XRg_false ?_ ?_) <;> intro hc <;> (try simp only [bl] at hc) <;> (try (exfalso; omega))) | refine XD_w [] [] [] (fun _ => none) mixed (by decide +kernel) (sub_none _) ?_ | (intro bk hbk; (try simp only [go_sem] at hbk))))
      all_goals (subst hR; exact Wk.of_eq (by simp [eitherB, he]))
    · (repeat' (first | simp [go_sem, X_region, *] | simp (disch := omega) only [om, *] | ((first | refine XC_split ?_ ?_ | refine XG_true ?_ ?_ | refine XG_false ?_ ?_ | refine XRg_true ?_ ?_ | refine XRg_false ?_ ?_) <;> intro hc <;> (try simp only [bl] at hc) <;> (try (exfalso; omega))) | refine XD_w [] [] [] (fun _ => none) mixed (by decide +kernel) (sub_none _) ?_ | (intro bk hbk; (try simp only [go_sem] at hbk))))
      exact ⟨_, by omega, hJ.out _ _ _ ⟨i + 1, r, rfl, by omega, hd2, by simp [go_sem, *], by rw [← hR]; simp [eitherB, he], by simp [go_sem, *], by simp [go_sem, *], by simp [go_sem, *], rfl⟩⟩
theorem either_lit {h : Hp} {b : Nat} {ob : Ob} (k : Int) (xs : List Int) (hl : xs.length ≤ 1000) (hb : h b = some ob) (h1 : ob.s = 1) (h2 : ob.n = xs.length) (hf : ob.f = fun i j => ((xs.map fun x (_ : Nat) => I x)[i]?.getD fun _ => .any) j) :
    PureAt Tryd.prog h 102 [I k, .row b 1 0 xs.length] (B (eitherB k xs)) := by
  refine Pure.lend (either_ok k xs) (.cons (Lend.refl _) (.cons (Lend.row hb h1 (by omega) (by omega) fun i hi j hj => ?_) .nil)) trivial
  obtain rfl : j = 0 := by omega
  rw [hf]
  simp [hi, cI]
abbrev l2356 : List Int := [2, 3, 5, 6]
abbrev l56 : List Int := [5, 6]
def productK (a b : Int) : Int × Bool := if ¬ (a = 2 ∨ a = 3 ∨ a = 5 ∨ a = 6 ∨ a = 0) ∨ ¬ (b = 5 ∨ b = 6 ∨ b = 0) then (0, false) else if a = 0 ∨ b = 0 then (0, true) else if b = 5 then (a, decide (a = 2 ∨ a = 3)) else (a, true)
theorem product_ok (a b : Int) : Pure Tryd.prog 105 [I a, I b] (tup2 (I (productK a b).1) (B (productK a b).2)) := by
  have e1 : eitherB a l2356 = decide (a = 2 ∨ a = 3 ∨ a = 5 ∨ a = 6 ∨ a = 0) := by simp [eitherB, Bool.eq_iff_iff, or_assoc]
  have e2 : eitherB b l56 = decide (b = 5 ∨ b = 6 ∨ b = 0) := by simp [eitherB, Bool.eq_iff_iff]
  have c1 := fun (h : Hp) (b : Nat) (ob : Ob) => either_lit (h := h) (b := b) (ob := ob) a l2356 (by decide)
  have c2 := fun (h : Hp) (b' : Nat) (ob : Ob) => either_lit (h := h) (b := b') (ob := ob) b l56 (by decide)
  rw [e1] at c1
  rw [e2] at c2
  clear e1 e2
  intro h; refine callK_body Tryd.func105 rfl (by rw [nt105]; simp) ?_; rw [nt105, rs105]
  ((repeat' (first | simp [go_sem, X_region, *] | simp (disch := omega) only [om, *] | ((first | refine XC_split ?_ ?_ | refine XG_true ?_ ?_ | refine XG_false ?_ ?_ | refine XRg_true ?_ ?_ | refine XRg_false ?_ ?_) <;> intro hc <;> (try simp only [bl] at hc) <;> (try (exfalso; omega))) | refine XD_w [] [] [] (fun _ => none) mixed (by decide +kernel) (sub_none _) ?_ | refine Pure.call (c1 _ _ _ (upd_same _ _ _) rfl rfl rfl) ?_ | refine ⟨_, Pure.at (c1 _ _ _ (upd_same _ _ _) rfl rfl rfl), ?_⟩ | refine ⟨_, c1 _ _ _ (upd_same _ _ _) rfl rfl rfl, ?_⟩ | refine PureAt.call (c1 _ _ _ (upd_same _ _ _) rfl rfl rfl) ?_ | refine Pure.call (c2 _ _ _ (upd_same _ _ _) rfl rfl rfl) ?_ | refine ⟨_, Pure.at (c2 _ _ _ (upd_same _ _ _) rfl rfl rfl), ?_⟩ | refine ⟨_, c2 _ _ _ (upd_same _ _ _) rfl rfl rfl, ?_⟩ | refine PureAt.call (c2 _ _ _ (upd_same _ _ _) rfl rfl rfl) ?_ | (intro bk hbk; (try simp only [go_sem] at hbk)))); all_goals (refine Wk.fin (by repeat (first | exact Sub.refl _ | refine Sub.upd (by simp [*]) ?_)) ?_; first | (simp [productK, *]; done) | (simp only [productK]; (repeat' (first | split | rfl | omega | (simp_all; done))); done) | (simp [productK, *]; (repeat' (first | split | omega | (rw [Bool.eq_iff_iff]; simp; omega))); done) | (simp [productK, *])))
theorem kids_ok (o : Int) : Pure Tryd.prog 39 [I o] (I (if o < 0 ∨ 18 < o then -1 else if o ≤ 3 then 0 else if o = 4 ∨ o = 16 ∨ o = 17 then 1 else if o = 15 then 3 else 2)) := by
  intro h; refine callK_body Tryd.func39 rfl (by rw [nt39]; simp) ?_; rw [nt39, rs39]
  ((repeat' (first | simp [go_sem, X_region, *] | simp (disch := omega) only [om, *] | ((first | refine XC_split ?_ ?_ | refine XG_true ?_ ?_ | refine XG_false ?_ ?_ | refine XRg_true ?_ ?_ | refine XRg_false ?_ ?_) <;> intro hc <;> (try simp only [bl] at hc) <;> (try (exfalso; omega))) | refine XD_w [] [] [] (fun _ => none) mixed (by decide +kernel) (sub_none _) ?_ | (intro bk hbk; (try simp only [go_sem] at hbk)))); all_goals (refine Wk.fin (by repeat (first | exact Sub.refl _ | refine Sub.upd (by simp [*]) ?_)) ?_; first | (simp [*]; done) | (simp only []; (repeat' (first | split | rfl | omega | (simp_all; done))); done) | (simp [*]; (repeat' (first | split | omega | (rw [Bool.eq_iff_iff]; simp; omega))); done) | (simp [*])))
theorem arity_ok (o : Int) : Pure Tryd.prog 40 [I o] (I (if o < 0 ∨ 18 < o then -1 else if o ≤ 3 then 0 else if o = 4 ∨ o = 16 ∨ o = 17 then 1 else if o = 15 then 3 else 2)) := by
  by_cases hr : o < 0 ∨ 18 < o
  · rw [if_pos hr]
    intro h; refine callK_body Tryd.func40 rfl (by rw [nt40]; simp) ?_; rw [nt40, rs40]
    ((repeat' (first | simp [go_sem, X_region, *] | simp (disch := omega) only [om, *] | ((first | refine XC_split ?_ ?_ | refine XG_true ?_ ?_ | refine XG_false ?_ ?_ | refine XRg_true ?_ ?_ | refine XRg_false ?_ ?_) <;> intro hc <;> (try simp only [bl] at hc) <;> (try (exfalso; omega))) | refine XD_w [] [] [] (fun _ => none) mixed (by decide +kernel) (sub_none _) ?_ | (intro bk hbk; (try simp only [go_sem] at hbk)))); all_goals (refine Wk.fin (by repeat (first | exact Sub.refl _ | refine Sub.upd (by simp [*]) ?_)) ?_; first | (simp [*]; done) | (simp only []; (repeat' (first | split | rfl | omega | (simp_all; done))); done) | (simp [*]; (repeat' (first | split | omega | (rw [Bool.eq_iff_iff]; simp; omega))); done) | (simp [*])))
  · obtain ⟨n, rfl, hn⟩ : ∃ n : Nat, o = n ∧ n < 19 := ⟨o.toNat, by omega, by omega⟩
    intro h; refine callK_body Tryd.func40 rfl (by rw [nt40]; simp) ?_; rw [nt40, rs40]
    have hcase : n = 0 ∨ n = 1 ∨ n = 2 ∨ n = 3 ∨ n = 4 ∨ n = 5 ∨ n = 6 ∨ n = 7 ∨ n = 8 ∨ n = 9 ∨ n = 10 ∨ n = 11 ∨ n = 12 ∨ n = 13 ∨ n = 14 ∨ n = 15 ∨ n = 16 ∨ n = 17 ∨ n = 18 := by omega
    (repeat' (first | simp [go_sem, X_region, *] | simp (disch := omega) only [om, *] | ((first | refine XC_split ?_ ?_ | refine XG_true ?_ ?_ | refine XG_false ?_ ?_ | refine XRg_true ?_ ?_ | refine XRg_false ?_ ?_) <;> intro hc <;> (try simp only [bl] at hc) <;> (try (exfalso; omega))) | refine XD_w [] [] [] (fun _ => none) mixed (by decide +kernel) (sub_none _) ?_ | fail))
    intro b hb
    refine Wk.fin (Sub.upd hb (Sub.refl _)) ?_
    rcases hcase with rfl | rfl | rfl | rfl | rfl | rfl | rfl | rfl | rfl | rfl | rfl | rfl | rfl | rfl | rfl | rfl | rfl | rfl | rfl <;> rfl
def ar (o : Int) : Int := if o < 0 ∨ 18 < o then -1 else if o ≤ 3 then 0 else if o = 4 ∨ o = 16 ∨ o = 17 then 1 else if o = 15 then 3 else 2
/-- An operation of Eval other than a literal. -/
def isOp (o : Int) : Prop := 4 ≤ o ∧ o ≤ 18
theorem isOp.cases {o : Int} (h : isOp o) : o = 4 ∨ o = 5 ∨ o = 6 ∨ o = 7 ∨ o = 8 ∨ o = 9 ∨ o = 10 ∨ o = 11 ∨ o = 12 ∨ o = 13 ∨ o = 14 ∨ o = 15 ∨ o = 16 ∨ o = 17 ∨ o = 18 := by unfold isOp at h; omega
theorem len0 {α : Type} {l : List α} (h : (l.length : Int) = 0) : l = [] := by
  rcases l with _ | ⟨a, l⟩
  · rfl
  · simp at h; omega
theorem len1 {α : Type} {l : List α} (h : (l.length : Int) = 1) : ∃ a, l = [a] := by
  rcases l with _ | ⟨a, _ | ⟨b, l⟩⟩
  · simp at h
  · exact ⟨a, rfl⟩
  · simp at h; omega
theorem len2 {α : Type} {l : List α} (h : (l.length : Int) = 2) : ∃ a b, l = [a, b] := by
  rcases l with _ | ⟨a, _ | ⟨b, _ | ⟨c, l⟩⟩⟩
  · simp at h
  · simp at h
  · exact ⟨a, b, rfl⟩
  · simp at h; omega
theorem len3 {α : Type} {l : List α} (h : (l.length : Int) = 3) : ∃ a b c, l = [a, b, c] := by
  rcases l with _ | ⟨a, _ | ⟨b, _ | ⟨c, _ | ⟨d, l⟩⟩⟩⟩
  · simp at h
  · simp at h
  · simp at h
  · exact ⟨a, b, c, rfl⟩
  · simp at h; omega
theorem kids_ar (o : Int) : Pure Tryd.prog 39 [I o] (I (ar o)) := kids_ok o
theorem arity_ar (o : Int) : Pure Tryd.prog 40 [I o] (I (ar o)) := arity_ok o
theorem ar_le (o : Int) : ar o ≤ 3 := by unfold ar; repeat' split <;> omega
end Go.Proofs.YtmalhikcdideoaaDoor

set_option linter.unusedVariables false
set_option linter.unusedSimpArgs false
namespace Go.Proofs.YtmalhikcdideoaaDoor
open Go Sl
attribute [local irreducible] XRange LpQ XR XRo XRg XRQ putQ XFv XL XW2 wQ putW X XO XOp XH XHo XW SeqQ BlkQ XOQ XHQ NrmQ XC XM XG XHM XHG XD CallK
/-- A table: name, from, to, slices, steps. -/
structure Tb where
  name : ByteArray
  fr : Int
  to : Int
  sl : Bool
  steps : List (Int × Int)
@[go_sem] def cSt (x : Int × Int) : List AV := [I x.1, I x.2]
@[go_sem] def cTb (t : Tb) : List AV := [S t.name, I t.fr, I t.to, B t.sl, encL 2 cSt t.steps]
def tb0 : Tb := ⟨⟨#[]⟩, 0, 0, false, []⟩
@[go_sem] def cV (v : V) : List AV := [I v.k, I v.n]
abbrev ptrB (b : Nat) : AV := .v (.pointer (some ⟨b, 0, none⟩))
theorem sub_free {h0 h : Hp} {b : Nat} (s : Sub h0 h) (hb : h b = none) : h0 b = none := by
  cases hx : h0 b with
  | none => rfl
  | some o => rw [s b o hx] at hb; cases hb
@[go_sem] def encTbA (t : Tb) : AV := aggL [S t.name, I t.fr, I t.to, B t.sl, encL 2 cSt t.steps]
def findF (nm : ByteArray) : List Tb → Option Tb
  | [] => none
  | t :: r => if t.name = nm then some t else findF nm r
@[go_sem] def encO : Option Tb → AV
  | some t => encTbA t
  | none => aggL [S ⟨#[]⟩, I 0, I 0, B false, .v (.slice none 0 0)]
theorem find_ok (nm : ByteArray) (l : List Tb) : Pure Tryd.prog 73 [encL 5 cTb l, S nm] (tup2 (encO (findF nm l)) (B (findF nm l).isSome)) := by
  generalize hR : findF nm l = R
  intro h; refine CallK.lens fun hlen => ?_; have hlen := (hlen _ (by simp only [List.mem_cons, true_or, or_true] : (encL 5 cTb l) ∈ _)).encL; refine callK_body Tryd.func73 rfl (by rw [nt73]; simp) ?_; rw [nt73, rs73]
  (repeat' (first | simp [go_sem, X_region, *] | simp (disch := omega) only [om, *] | ((first | refine XC_split ?_ ?_ | refine XG_true ?_ ?_ | refine XG_false ?_ ?_ | refine XRg_true ?_ ?_ | refine XRg_false ?_ ?_) <;> intro hc <;> (try simp only [bl] at hc) <;> (try (exfalso; omega))) | refine XD_w [] [] [] (fun _ => none) mixed (by decide +kernel) (sub_none _) ?_ | fail))
  intro b hb
  (repeat' (first | simp [go_sem, X_region, *] | simp (disch := omega) only [om, *] | ((first | refine XC_split ?_ ?_ | refine XG_true ?_ ?_ | refine XG_false ?_ ?_ | refine XRg_true ?_ ?_ | refine XRg_false ?_ ?_) <;> intro hc <;> (try simp only [bl] at hc) <;> (try (exfalso; omega))) | refine XD_w [] [] [] (fun _ => none) mixed (by decide +kernel) (sub_none _) ?_ | fail))
  refine X_lp (fun n T h2 => ∃ (i : Nat) (r : List Tb) (o : Ob), n = r.length ∧ l.drop i = r ∧ findF nm r = R ∧ T 8 = encL 5 cTb l ∧ T 9 = I l.length ∧ T 10 = I i ∧ T 1 = S nm ∧ T 4 = ptrB b ∧ Sub h h2 ∧ h2 b = some o ∧ o.s = 5 ∧ o.n = 1 ∧ o.ty = 68) l.length ⟨0, l, _, rfl, rfl, hR, by simp [go_sem], by simp [go_sem], by simp [go_sem], by simp [go_sem], by simp [go_sem], Sub.upd hb (Sub.refl _), upd_same _ _ _, rfl, rfl, rfl⟩ ?_
  clear hR
  rintro J hJ n T h2 ⟨i, r, o, rfl, hd, hR, t8, t9, t10, t1, t4, hsub, ho, o1, o2, o3⟩
  rcases r with _ | ⟨x, r⟩
  · have hlt := drop_nil hd
    (repeat' (first | simp [go_sem, X_region, *] | simp (disch := omega) only [om, *] | ((first | refine XC_split ?_ ?_ | refine XG_true ?_ ?_ | refine XG_false ?_ ?_ | refine XRg_true ?_ ?_ | refine XRg_false ?_ ?_) <;> intro hc <;> (try simp only [bl] at hc) <;> (try (exfalso; omega))) | refine XD_w [] [] [] (fun _ => none) mixed (by decide +kernel) (sub_none _) ?_ | fail))
    subst hR
    exact Wk.drop _ (Sub.upd hb hsub)
  · obtain ⟨hlt, hx, hd2⟩ := drop_cons hd
    by_cases he : x.name = nm
    · (repeat' (first | simp [go_sem, X_region, *] | simp (disch := omega) only [om, *] | ((first | refine XC_split ?_ ?_ | refine XG_true ?_ ?_ | refine XG_false ?_ ?_ | refine XRg_true ?_ ?_ | refine XRg_false ?_ ?_) <;> intro hc <;> (try simp only [bl] at hc) <;> (try (exfalso; omega))) | refine XD_w [] [] [] (fun _ => none) mixed (by decide +kernel) (sub_none _) ?_ | fail))
      intro b2 hb2
      have n12 := ne_free hb2 ho
      (repeat' (first | simp [go_sem, X_region, *] | simp (disch := omega) only [om, *] | ((first | refine XC_split ?_ ?_ | refine XG_true ?_ ?_ | refine XG_false ?_ ?_ | refine XRg_true ?_ ?_ | refine XRg_false ?_ ?_) <;> intro hc <;> (try simp only [bl] at hc) <;> (try (exfalso; omega))) | refine XD_w [] [] [] (fun _ => none) mixed (by decide +kernel) (sub_none _) ?_ | fail))
      rw [show R = some x by rw [← hR]; simp [findF, he]]
      subst he
      exact Wk.drop _ (Sub.upd hb (Sub.upd (sub_free hsub hb2) hsub))
    · (repeat' (first | simp [go_sem, X_region, *] | simp (disch := omega) only [om, *] | ((first | refine XC_split ?_ ?_ | refine XG_true ?_ ?_ | refine XG_false ?_ ?_ | refine XRg_true ?_ ?_ | refine XRg_false ?_ ?_) <;> intro hc <;> (try simp only [bl] at hc) <;> (try (exfalso; omega))) | refine XD_w [] [] [] (fun _ => none) mixed (by decide +kernel) (sub_none _) ?_ | fail))
      intro b2 hb2
      have n12 := ne_free hb2 ho
      exact ⟨r.length, by omega, hJ.out _ _ _ ⟨i + 1, r, o, rfl, hd2, by rw [← hR]; simp [findF, he], by simp [go_sem, *], by simp [go_sem, *], by simp [go_sem, *], by simp [go_sem, *], by simp [go_sem, *], Sub.upd (sub_free hsub hb2) hsub, by rw [upd_ne _ _ n12.2]; exact ho, o1, o2, o3⟩⟩
def iIdx (v : Int) : List Int → Int → Int
  | [], _ => -1
  | x :: r, i => if v = x then i else iIdx v r (i + 1)
theorem iIdx_ge (v : Int) (l : List Int) (i : Int) (hi : 0 ≤ i) : decide (0 ≤ iIdx v l i) = l.any fun k => decide (v = k) := by
  induction l generalizing i with
  | nil => simp [iIdx]
  | cons x l ih =>
    unfold iIdx
    by_cases h : v = x
    · simp [h, hi]
    · simp [h]; simpa using ih (i + 1) (by omega)
theorem iindex_ok (v : Int) (l : List Int) : Pure Tryd.prog 110 [encL 1 cI l, I v] (I (iIdx v l 0)) := by
  generalize hR : I (iIdx v l 0) = R
  intro h; refine CallK.lens fun hlen => ?_; have hlen := (hlen _ (by simp only [List.mem_cons, true_or, or_true] : (encL 1 cI l) ∈ _)).encL; refine callK_body Tryd.func110 rfl (by rw [nt110]; simp) ?_; rw [nt110, rs110]
  (repeat' (first | simp [go_sem, X_region, *] | simp (disch := omega) only [om, *] | ((first | refine XC_split ?_ ?_ | refine XG_true ?_ ?_ | refine XG_false ?_ ?_ | refine XRg_true ?_ ?_ | refine XRg_false ?_ ?_) <;> intro hc <;> (try simp only [bl] at hc) <;> (try (exfalso; omega))) | refine XD_w [] [] [] (fun _ => none) mixed (by decide +kernel) (sub_none _) ?_ | (intro bk hbk; (try simp only [go_sem] at hbk))))
  refine X_lp (fun n T h' => ∃ (i : Nat) (r : List Int), n = r.length ∧ i ≤ l.length ∧ l.drop i = r ∧ T 8 = I i ∧ I (iIdx v r i) = R ∧ T 0 = encL 1 cI l ∧ T 1 = I v ∧ T 7 = I l.length ∧ h' = h) l.length ⟨0, l, by simp [go_sem, hR]⟩ ?_
  clear hR; rintro J hJ n T h' ⟨i, r, rfl, hi, hd, h8, hR, h0, h1, h7, rfl⟩
  rcases r with _ | ⟨x, r⟩
  · have hlt := drop_nil hd
    (repeat' (first | simp [go_sem, X_region, *] | simp (disch := omega) only [om, *] | ((first | refine XC_split ?_ ?_ | refine XG_true ?_ ?_ | refine XG_false ?_ ?_ | refine XRg_true ?_ ?_ | refine XRg_false ?_ ?_) <;> intro hc <;> (try simp only [bl] at hc) <;> (try (exfalso; omega))) | refine XD_w [] [] [] (fun _ => none) mixed (by decide +kernel) (sub_none _) ?_ | (intro bk hbk; (try simp only [go_sem] at hbk))))
    all_goals (subst hR; exact Wk.of_eq (by simp [iIdx]))
  · obtain ⟨hlt, hx, hd2⟩ := drop_cons hd
    by_cases he : v = x
    · (repeat' (first | simp [go_sem, X_region, *] | simp (disch := omega) only [om, *] | ((first | refine XC_split ?_ ?_ | refine XG_true ?_ ?_ | refine XG_false ?_ ?_ | refine XRg_true ?_ ?_ | refine XRg_false ?_ ?_) <;> intro hc <;> (try simp only [bl] at hc) <;> (try (exfalso; omega))) | refine XD_w [] [] [] (fun _ => none) mixed (by decide +kernel) (sub_none _) ?_ | (intro bk hbk; (try simp only [go_sem] at hbk))))
      all_goals (subst hR; exact Wk.of_eq (by simp [iIdx, *]))
    · (repeat' (first | simp [go_sem, X_region, *] | simp (disch := omega) only [om, *] | ((first | refine XC_split ?_ ?_ | refine XG_true ?_ ?_ | refine XG_false ?_ ?_ | refine XRg_true ?_ ?_ | refine XRg_false ?_ ?_) <;> intro hc <;> (try simp only [bl] at hc) <;> (try (exfalso; omega))) | refine XD_w [] [] [] (fun _ => none) mixed (by decide +kernel) (sub_none _) ?_ | (intro bk hbk; (try simp only [go_sem] at hbk))))
      exact ⟨_, by omega, hJ.out _ _ _ ⟨i + 1, r, rfl, by omega, hd2, by simp [go_sem, *], by rw [← hR]; simp [iIdx, he], by simp [go_sem, *], by simp [go_sem, *], by simp [go_sem, *], rfl⟩⟩
theorem icont_ok (v : Int) (l : List Int) : Pure Tryd.prog 78 [encL 1 cI l, I v] (B (l.any fun k => decide (v = k))) := by
  intro h; refine callK_body Tryd.func78 rfl (by rw [nt78]; simp) ?_; rw [nt78, rs78]
  rw [← iIdx_ge v l 0 (by omega)]
  ((repeat' (first | simp [go_sem, X_region, *] | simp (disch := omega) only [om, *] | ((first | refine XC_split ?_ ?_ | refine XG_true ?_ ?_ | refine XG_false ?_ ?_ | refine XRg_true ?_ ?_ | refine XRg_false ?_ ?_) <;> intro hc <;> (try simp only [bl] at hc) <;> (try (exfalso; omega))) | refine XD_w [] [] [] (fun _ => none) mixed (by decide +kernel) (sub_none _) ?_ | refine Pure.call (iindex_ok v l) ?_ | refine ⟨_, Pure.at (iindex_ok v l), ?_⟩ | refine ⟨_, iindex_ok v l, ?_⟩ | refine PureAt.call (iindex_ok v l) ?_ | (intro bk hbk; (try simp only [go_sem] at hbk)))); all_goals (refine Wk.fin (by repeat (first | exact Sub.refl _ | refine Sub.upd (by simp [*]) ?_)) ?_; first | (simp [*]; done) | (simp only []; (repeat' (first | split | rfl | omega | (simp_all; done))); done) | (simp [*]; (repeat' (first | split | omega | (rw [Bool.eq_iff_iff]; simp; omega))); done) | (simp [*])))
theorem clone_ok (l : List Int) (h0 : 0 < l.length) (h1 : l.length ≤ 1000) (h : Hp) : CallK Tryd.prog h 61 [encL 1 cI l] fun r h' => Own h h' r 3 1 l.length (cellsL cI l) := by
  refine callK_body Tryd.func61 rfl (by rw [nt61]; simp) ?_; rw [nt61, rs61]
  (repeat' (first | simp [go_sem, X_region, *] | simp (disch := omega) only [om, *] | ((first | refine XC_split ?_ ?_ | refine XG_true ?_ ?_ | refine XG_false ?_ ?_ | refine XRg_true ?_ ?_ | refine XRg_false ?_ ?_) <;> intro hc <;> (try simp only [bl] at hc) <;> (try (exfalso; omega))) | refine XD_w [] [] [] (fun _ => none) mixed (by decide +kernel) (sub_none _) ?_ | fail))
  refine Own.append (h0 := h) (e := 3) (s := 1) (n := 0) (f := fun _ _ => .any) (m := l.length) (q := cellsL cI l) ⟨Sub.refl h, .inl ⟨rfl, .inr (by simp [go_sem])⟩⟩ und37 zr3 by3 (by simp [go_sem]) (by simp [go_sem]) (by omega) (by omega) fun a h' ho _ => ?_
  simp only [Nat.zero_add, Nat.not_lt_zero, if_false, Nat.sub_zero] at ho
  (repeat' (first | simp [go_sem, X_region, *] | simp (disch := omega) only [om, *] | ((first | refine XC_split ?_ ?_ | refine XG_true ?_ ?_ | refine XG_false ?_ ?_ | refine XRg_true ?_ ?_ | refine XRg_false ?_ ?_) <;> intro hc <;> (try simp only [bl] at hc) <;> (try (exfalso; omega))) | refine XD_w [] [] [] (fun _ => none) mixed (by decide +kernel) (sub_none _) ?_ | fail))
  exact ⟨_, _, Wk.refl _ _, ho⟩
end Go.Proofs.YtmalhikcdideoaaDoor

set_option linter.unusedVariables false
set_option linter.unusedSimpArgs false
namespace Go.Proofs.YtmalhikcdideoaaDoor
open Go Sl
attribute [local irreducible] XRange LpQ XR XRo XRg XRQ putQ XFv XL XW2 wQ putW X XO XOp XH XHo XW SeqQ BlkQ XOQ XHQ NrmQ XC XM XG XHM XHG XD CallK
/-- A fact that simp does not take as a rule. -/
structure Hid (p : Prop) : Prop where
  out : p
/-- A node of an expression. -/
structure Nd where
  op : Int
  kids : List Int
  kd : Int
  n : Int
  nm : ByteArray
@[go_sem] def cNd (x : Nd) : List AV := [I x.op, encL 1 cI x.kids, I x.kd, I x.n, S x.nm]
/-- Kids are counted. -/
def useF : List Int → List Int → Option (List Int)
  | u, [] => some u
  | u, k :: r => if 1 < u.getD k.toNat 0 + 1 then none else useF (u.set k.toNat (u.getD k.toNat 0 + 1)) r
def nodesF (oneE : Nd → Nat → Int) : List Nd → Nat → List Int → Int × List Int
  | [], _, u => (0, u)
  | x :: r, i, u => if oneE x i ≠ 0 then (oneE x i, []) else match useF u x.kids with
    | none => (3, [])
    | some u' => nodesF oneE r (i + 1) u'
def chkE (oneE : Nd → Nat → Int) (e : List Nd) : Int :=
  if 100 < e.length then 2 else if e.length = 0 then 4
  else if (nodesF oneE e 0 (List.replicate e.length 0)).1 ≠ 0 then (nodesF oneE e 0 (List.replicate e.length 0)).1
  else if ((nodesF oneE e 0 (List.replicate e.length 0)).2.take (e.length - 1)).any (fun u => decide (0 = u)) = true then 3 else 0
theorem useF_len : ∀ (k u u' : List Int), useF u k = some u' → u'.length = u.length
  | [], u, u', h => by cases h; rfl
  | k :: r, u, u', h => by
    unfold useF at h
    split at h
    · cases h
    · have := useF_len r _ _ h
      simpa using this
/-- The counts of kids, in a block of the call's own. -/
structure Cnt (h : Hp) (b n : Nat) (u : List Int) : Prop where
  out : ∃ o, h b = some o ∧ o.ty = 3 ∧ o.s = 1 ∧ o.n = n ∧ u.length = n ∧ Hid (∀ k x, u[k]? = some x → o.f k 0 = I x) ∧ ∀ x ∈ u, 0 ≤ x ∧ x ≤ 1
set_option maxHeartbeats 4000000 in
theorem tchk_ok (oneE : Nd → Nat → Int) (e : List Nd) (h1 : ∀ (i : Nat) (x : Nd), e[i]? = some x → e.length ≤ 100 → Pure Tryd.prog 77 [aggL (cNd x), I i] (I (oneE x i)))
    (h2 : ∀ (i : Nat) (x : Nd), e[i]? = some x → oneE x i = 0 → x.kids.length ≤ 3 ∧ ∀ k ∈ x.kids, 0 ≤ k ∧ k < i) :
    Pure Tryd.prog 41 [encL 5 cNd e] (I (chkE oneE e)) := by
  generalize hR : chkE oneE e = R
  unfold chkE at hR
  intro h
  by_cases q1 : 100 < e.length
  · rw [if_pos q1] at hR
    subst hR
    refine callK_body Tryd.func41 rfl (by rw [nt41]; simp) ?_; rw [nt41, rs41]
    ((repeat' (first | simp [go_sem, X_region, *] | simp (disch := omega) only [om, *] | ((first | refine XC_split ?_ ?_ | refine XG_true ?_ ?_ | refine XG_false ?_ ?_ | refine XRg_true ?_ ?_ | refine XRg_false ?_ ?_) <;> intro hc <;> (try simp only [bl] at hc) <;> (try (exfalso; omega))) | refine XD_w [] [] [] (fun _ => none) mixed (by decide +kernel) (sub_none _) ?_ | (intro bk hbk; (try simp only [go_sem] at hbk)))); all_goals (refine Wk.fin (by repeat (first | exact Sub.refl _ | refine Sub.upd (by simp [*]) ?_)) ?_; first | (simp [*]; done) | (simp only []; (repeat' (first | split | rfl | omega | (simp_all; done))); done) | (simp [*]; (repeat' (first | split | omega | (rw [Bool.eq_iff_iff]; simp; omega))); done) | (simp [*])))
  rw [if_neg q1] at hR
  by_cases q2 : e.length = 0
  · rw [if_pos q2] at hR
    subst hR
    refine callK_body Tryd.func41 rfl (by rw [nt41]; simp) ?_; rw [nt41, rs41]
    ((repeat' (first | simp [go_sem, X_region, *] | simp (disch := omega) only [om, *] | ((first | refine XC_split ?_ ?_ | refine XG_true ?_ ?_ | refine XG_false ?_ ?_ | refine XRg_true ?_ ?_ | refine XRg_false ?_ ?_) <;> intro hc <;> (try simp only [bl] at hc) <;> (try (exfalso; omega))) | refine XD_w [] [] [] (fun _ => none) mixed (by decide +kernel) (sub_none _) ?_ | (intro bk hbk; (try simp only [go_sem] at hbk)))); all_goals (refine Wk.fin (by repeat (first | exact Sub.refl _ | refine Sub.upd (by simp [*]) ?_)) ?_; first | (simp [*]; done) | (simp only []; (repeat' (first | split | rfl | omega | (simp_all; done))); done) | (simp [*]; (repeat' (first | split | omega | (rw [Bool.eq_iff_iff]; simp; omega))); done) | (simp [*])))
  rw [if_neg q2] at hR
  refine callK_body Tryd.func41 rfl (by rw [nt41]; simp) ?_; rw [nt41, rs41]
  (repeat' (first | simp [go_sem, X_region, *] | simp (disch := omega) only [om, *] | ((first | refine XC_split ?_ ?_ | refine XG_true ?_ ?_ | refine XG_false ?_ ?_ | refine XRg_true ?_ ?_ | refine XRg_false ?_ ?_) <;> intro hc <;> (try simp only [bl] at hc) <;> (try (exfalso; omega))) | refine XD_w [] [] [] (fun _ => none) mixed (by decide +kernel) (sub_none _) ?_ | fail))
  refine X_makeSlice (s := 1) (by_ := 8) e.length e.length und37 zr3 by3 (by simp [go_sem]) (by simp [go_sem]) (by omega) (by omega) (by omega) fun b hb => ?_
  (repeat' (first | simp [go_sem, X_region, *] | simp (disch := omega) only [om, *] | ((first | refine XC_split ?_ ?_ | refine XG_true ?_ ?_ | refine XG_false ?_ ?_ | refine XRg_true ?_ ?_ | refine XRg_false ?_ ?_) <;> intro hc <;> (try simp only [bl] at hc) <;> (try (exfalso; omega))) | refine XD_w [] [] [] (fun _ => none) mixed (by decide +kernel) (sub_none _) ?_ | fail))
  generalize hN : nodesF oneE e 0 (List.replicate e.length 0) = N at hR
  refine X_lpF (fun i => i = 2 ∨ (4 ≤ i ∧ i ≤ 6) ∨ i = 8 ∨ (20 ≤ i ∧ i ≤ 50)) (fun k T g => ∃ (i : Nat) (r : List Nd) (u : List Int), k = r.length ∧ i ≤ e.length ∧ e.drop i = r ∧ nodesF oneE r i u = N ∧ T 20 = I i ∧ Sub h g ∧ Cnt g b e.length u) _ ⟨0, e, _, rfl, by omega, rfl, hN, by simp [go_sem], Sub.upd hb (Sub.refl _), ⟨_, upd_same _ _ _, rfl, rfl, rfl, by simp, ⟨?_⟩, ?_⟩⟩ ?_
  · intro k x hx
    rw [List.getElem?_replicate] at hx
    split at hx
    · cases hx; simp
    · cases hx
  · intro x hx
    have := List.eq_of_mem_replicate hx
    omega
  clear hN
  rintro J hJ k T g hfr ⟨i, r, u, rfl, hi, hd, hN, t20, hsub, ⟨o, ho, o1, o2, o3, o4, o5, o6⟩⟩
  rcases r with _ | ⟨x, r⟩
  · have hlt := drop_nil hd
    rw [nodesF] at hN
    subst hN
    obtain ⟨m, hm⟩ : ∃ m, e.length = m + 1 := ⟨e.length - 1, by omega⟩
    have hcont : PureAt Tryd.prog g 78 [.row b 1 0 m, I 0] (B ((u.take m).any fun k => decide (0 = k))) := by
      have hl : (u.take m).length = m := by rw [List.length_take]; omega
      refine Pure.lend (icont_ok 0 (u.take m)) (.cons ?_ (.cons (Lend.refl _) .nil)) (Flat.v _)
      rw [encL_eq, hl]
      refine Lend.row ho o2 (by omega) (by omega) fun i hi j hj => ?_
      obtain rfl : j = 0 := by omega
      have hx : (u.take m)[i]? = some (u.take m)[i] := List.getElem?_eq_getElem (by omega)
      rw [cellsL_at hx, o5.out i (u.take m)[i] (by have h3 := hx; rw [List.getElem?_take, if_pos (by omega)] at h3; exact h3)]
      rfl
    rw [if_neg (by simp), hm, Nat.add_sub_cancel] at hR
    have hm1 : ((e.length : Nat) : Int) - 1 = (m : Int) := by omega
    generalize (u.take m).any (fun k => decide (0 = k)) = q at *
    cases q
    · rw [if_neg (by simp)] at hR
      subst hR
      (repeat' (first | simp [go_sem, X_region, *] | simp (disch := omega) only [om, *] | ((first | refine XC_split ?_ ?_ | refine XG_true ?_ ?_ | refine XG_false ?_ ?_ | refine XRg_true ?_ ?_ | refine XRg_false ?_ ?_) <;> intro hc <;> (try simp only [bl] at hc) <;> (try (exfalso; omega))) | refine XD_w [] [] [] (fun _ => none) mixed (by decide +kernel) (sub_none _) ?_ | refine Pure.call (hcont) ?_ | refine ⟨_, Pure.at (hcont), ?_⟩ | refine ⟨_, hcont, ?_⟩ | refine PureAt.call (hcont) ?_ | fail))
      all_goals exact Wk.fin hsub rfl
    · rw [if_pos rfl] at hR
      subst hR
      (repeat' (first | simp [go_sem, X_region, *] | simp (disch := omega) only [om, *] | ((first | refine XC_split ?_ ?_ | refine XG_true ?_ ?_ | refine XG_false ?_ ?_ | refine XRg_true ?_ ?_ | refine XRg_false ?_ ?_) <;> intro hc <;> (try simp only [bl] at hc) <;> (try (exfalso; omega))) | refine XD_w [] [] [] (fun _ => none) mixed (by decide +kernel) (sub_none _) ?_ | refine Pure.call (hcont) ?_ | refine ⟨_, Pure.at (hcont), ?_⟩ | refine ⟨_, hcont, ?_⟩ | refine PureAt.call (hcont) ?_ | fail))
      all_goals exact Wk.fin hsub rfl
  · obtain ⟨hlt, hx, hd2⟩ := drop_cons hd
    have hxi : e[i]? = some x := List.getElem?_eq_some_iff.2 ⟨hlt, hx⟩
    have g1 := h1 i x hxi (by omega)
    have g2 := h2 i x hxi
    simp only [cNd] at g1
    rw [nodesF] at hN
    by_cases q3 : oneE x i = 0
    case neg =>
      rw [if_pos q3] at hN
      subst hN
      rw [if_pos q3] at hR
      subst hR
      (repeat' (first | simp [go_sem, X_region, *] | simp (disch := omega) only [om, *] | ((first | refine XC_split ?_ ?_ | refine XG_true ?_ ?_ | refine XG_false ?_ ?_ | refine XRg_true ?_ ?_ | refine XRg_false ?_ ?_) <;> intro hc <;> (try simp only [bl] at hc) <;> (try (exfalso; omega))) | refine XD_w [] [] [] (fun _ => none) mixed (by decide +kernel) (sub_none _) ?_ | refine Pure.call (g1) ?_ | refine ⟨_, Pure.at (g1), ?_⟩ | refine ⟨_, g1, ?_⟩ | refine PureAt.call (g1) ?_ | fail))
      intro b5 hb5
      have n5 := ne_free hb5 ho
      (repeat' (first | simp [go_sem, X_region, *] | simp (disch := omega) only [om, *] | ((first | refine XC_split ?_ ?_ | refine XG_true ?_ ?_ | refine XG_false ?_ ?_ | refine XRg_true ?_ ?_ | refine XRg_false ?_ ?_) <;> intro hc <;> (try simp only [bl] at hc) <;> (try (exfalso; omega))) | refine XD_w [] [] [] (fun _ => none) mixed (by decide +kernel) (sub_none _) ?_ | refine Pure.call (g1) ?_ | refine ⟨_, Pure.at (g1), ?_⟩ | refine ⟨_, g1, ?_⟩ | refine PureAt.call (g1) ?_ | fail))
      all_goals exact Wk.fin (Sub.upd (sub_free hsub hb5) hsub) rfl
    rw [if_neg (fun h => h q3)] at hN
    obtain ⟨hk3, g2⟩ := g2 q3
    rw [q3] at g1
    (repeat' (first | simp [go_sem, X_region, *] | simp (disch := omega) only [om, *] | ((first | refine XC_split ?_ ?_ | refine XG_true ?_ ?_ | refine XG_false ?_ ?_ | refine XRg_true ?_ ?_ | refine XRg_false ?_ ?_) <;> intro hc <;> (try simp only [bl] at hc) <;> (try (exfalso; omega))) | refine XD_w [] [] [] (fun _ => none) mixed (by decide +kernel) (sub_none _) ?_ | refine Pure.call (g1) ?_ | refine ⟨_, Pure.at (g1), ?_⟩ | refine ⟨_, g1, ?_⟩ | refine PureAt.call (g1) ?_ | fail))
    intro b5 hb5
    have n5 := ne_free hb5 ho
    (repeat' (first | simp [go_sem, X_region, *] | simp (disch := omega) only [om, *] | ((first | refine XC_split ?_ ?_ | refine XG_true ?_ ?_ | refine XG_false ?_ ?_ | refine XRg_true ?_ ?_ | refine XRg_false ?_ ?_) <;> intro hc <;> (try simp only [bl] at hc) <;> (try (exfalso; omega))) | refine XD_w [] [] [] (fun _ => none) mixed (by decide +kernel) (sub_none _) ?_ | refine Pure.call (g1) ?_ | refine ⟨_, Pure.at (g1), ?_⟩ | refine ⟨_, g1, ?_⟩ | refine PureAt.call (g1) ?_ | fail))
    generalize hU : useF u x.kids = U at hN
    refine X_lpF (fun i => i = 2 ∨ i = 8 ∨ (34 ≤ i ∧ i ≤ 49)) (fun k T g => ∃ (j : Nat) (rk u : List Int), k = rk.length ∧ j ≤ x.kids.length ∧ x.kids.drop j = rk ∧ useF u rk = U ∧ T 34 = I j ∧ Sub h g ∧ Cnt g b e.length u) _
      ⟨0, x.kids, u, rfl, by omega, rfl, hU, by simp [go_sem], Sub.upd (sub_free hsub hb5) hsub, ⟨o, by rw [upd_ne _ _ n5.2]; exact ho, o1, o2, o3, o4, o5, o6⟩⟩ ?_
    clear hU
    rintro J2 hJ2 k2 T2 g' hfr2 ⟨j, rk, u', rfl, hj, hdk, hU, t34, hsub', ⟨p, hp, p1, p2, p3, p4, p5, p6⟩⟩
    rcases rk with _ | ⟨k, rk⟩
    · have hltk := drop_nil hdk
      rw [useF] at hU
      subst hU
      (repeat' (first | simp [go_sem, X_region, *] | simp (disch := omega) only [om, *] | ((first | refine XC_split ?_ ?_ | refine XG_true ?_ ?_ | refine XG_false ?_ ?_ | refine XRg_true ?_ ?_ | refine XRg_false ?_ ?_) <;> intro hc <;> (try simp only [bl] at hc) <;> (try (exfalso; omega))) | refine XD_w [] [] [] (fun _ => none) mixed (by decide +kernel) (sub_none _) ?_ | fail))
      all_goals exact ⟨_, Nat.lt_succ_self _, hJ.out _ _ _ ⟨(by (repeat (refine fr_upd (by decide) ?_)); exact fr_in (by intro i; omega) hfr2 (by (repeat (refine fr_upd (by decide) ?_)); exact hfr)), i + 1, r, u', rfl, by omega, hd2, hN, by simp [go_sem, *], hsub', ⟨p, hp, p1, p2, p3, p4, p5, p6⟩⟩⟩
    · obtain ⟨hltk, hxk, hdk2⟩ := drop_cons hdk
      have gk := g2 k (by rw [← hxk]; exact List.getElem_mem hltk)
      obtain ⟨kn, rfl⟩ : ∃ kn : Nat, k = kn := ⟨k.toNat, by omega⟩
      have hkn : kn < u'.length := by omega
      have hkn2 : kn < e.length := by omega
      obtain ⟨v, hkv⟩ : ∃ v, u'[kn]? = some v := ⟨_, List.getElem?_eq_getElem hkn⟩
      have pf := p5.out kn v hkv
      have pr := p6 v (List.mem_of_getElem? hkv)
      rw [useF, Int.toNat_natCast, List.getD_eq_getElem?_getD, hkv, Option.getD_some] at hU
      by_cases q4 : 1 < v + 1
      · rw [if_pos q4] at hU
        subst hU
        simp only at hN
        subst hN
        rw [if_pos (by simp)] at hR
        subst hR
        (repeat' (first | simp [go_sem, X_region, *] | simp (disch := omega) only [om, *] | ((first | refine XC_split ?_ ?_ | refine XG_true ?_ ?_ | refine XG_false ?_ ?_ | refine XRg_true ?_ ?_ | refine XRg_false ?_ ?_) <;> intro hc <;> (try simp only [bl] at hc) <;> (try (exfalso; omega))) | refine XD_w [] [] [] (fun _ => none) mixed (by decide +kernel) (sub_none _) ?_ | fail))
        all_goals exact Wk.fin (Sub.upd hb hsub') rfl
      · rw [if_neg q4] at hU
        (repeat' (first | simp [go_sem, X_region, *] | simp (disch := omega) only [om, *] | ((first | refine XC_split ?_ ?_ | refine XG_true ?_ ?_ | refine XG_false ?_ ?_ | refine XRg_true ?_ ?_ | refine XRg_false ?_ ?_) <;> intro hc <;> (try simp only [bl] at hc) <;> (try (exfalso; omega))) | refine XD_w [] [] [] (fun _ => none) mixed (by decide +kernel) (sub_none _) ?_ | fail))
        refine ⟨_, Nat.lt_succ_self _, hJ2.out _ _ _ ⟨(by (repeat (refine fr_upd (by decide) ?_)); exact hfr2), j + 1, rk, _, rfl, by omega, hdk2, hU, by simp [go_sem, *], Sub.upd hb hsub', ⟨_, upd_same _ _ _, rfl, rfl, rfl, by simpa using p4, ⟨?_⟩, ?_⟩⟩⟩
        · intro q y hy
          rw [List.getElem?_set] at hy
          by_cases hq : kn = q
          · subst hq
            rw [if_pos rfl, if_pos hkn] at hy
            cases hy
            simp
          · rw [if_neg hq] at hy
            simp [show ¬ q = kn from fun e => hq e.symm, p5.out q y hy]
        · intro y hy
          rcases List.mem_or_eq_of_mem_set hy with hy | rfl
          · exact p6 y hy
          · omega
end Go.Proofs.YtmalhikcdideoaaDoor

set_option linter.unusedVariables false
set_option linter.unusedSimpArgs false
namespace Go.Proofs.YtmalhikcdideoaaDoor
open Go Sl
attribute [local irreducible] XRange LpQ XR XRo XRg XRQ putQ XFv XL XW2 wQ putW X XO XOp XH XHo XW SeqQ BlkQ XOQ XHQ NrmQ XC XM XG XHM XHG XD CallK
def permF (op a b c fr to : Int) : Int × Bool :=
  if op = 4 then (1, decide (a = 1))
  else if op = 5 ∨ op = 6 then (1, decide (a = 1 ∧ b = 1))
  else if op = 7 ∨ op = 8 then (1, decide (a = b ∧ a ≠ 1))
  else if op = 9 then (1, decide (a = b))
  else if op = 13 ∨ op = 14 then (a, decide (a = b ∧ a ≠ 1))
  else if op = 10 ∨ op = 11 then if op = 11 ∧ a = b ∧ a = 4 then (3, true) else (a, decide ((a = b ∧ a ≠ 1 ∧ a ≠ 4) ∨ (a = 4 ∧ b = 3)))
  else if op = 12 then (a, decide ((b = 6 ∧ (a = 2 ∨ a = 3 ∨ a = 5 ∨ a = 6)) ∨ (b = 5 ∧ (a = 2 ∨ a = 3))))
  else if op = 15 then (b, decide (a = 1 ∧ b = c))
  else if op = 16 then (to, decide (a = fr))
  else if op = 17 then (2, decide (a = 2))
  else (5, decide (a = b ∧ a = 4))
section
variable (a b c fr to : Int)
theorem perm_7 : Pure Tryd.prog 76 [I 7, encL 1 cI (a :: b :: []), I fr, I to] (tup2 (I (permF 7 a b c fr to).1) (B (permF 7 a b c fr to).2)) := by
  intro h; refine callK_body Tryd.func76 rfl (by rw [nt76]; simp) ?_; rw [nt76, rs76]
  ((repeat' (first | simp [go_sem, X_region, *] | simp (disch := omega) only [om, *] | ((first | refine XC_split ?_ ?_ | refine XG_true ?_ ?_ | refine XG_false ?_ ?_ | refine XRg_true ?_ ?_ | refine XRg_false ?_ ?_) <;> intro hc <;> (try simp only [bl] at hc) <;> (try (exfalso; omega))) | refine XD_w [] [] [] (fun _ => none) mixed (by decide +kernel) (sub_none _) ?_ | (intro bk hbk; (try simp only [go_sem] at hbk)))); all_goals (refine Wk.fin (by repeat (first | exact Sub.refl _ | refine Sub.upd (by simp [*]) ?_)) ?_; first | (simp [permF, *]; done) | (simp only [permF]; (repeat' (first | split | rfl | omega | (simp_all; done))); done) | (simp [permF, *]; (repeat' (first | split | omega | (rw [Bool.eq_iff_iff]; simp; omega))); done) | (simp [permF, *])))
theorem perm_8 : Pure Tryd.prog 76 [I 8, encL 1 cI (a :: b :: []), I fr, I to] (tup2 (I (permF 8 a b c fr to).1) (B (permF 8 a b c fr to).2)) := by
  intro h; refine callK_body Tryd.func76 rfl (by rw [nt76]; simp) ?_; rw [nt76, rs76]
  ((repeat' (first | simp [go_sem, X_region, *] | simp (disch := omega) only [om, *] | ((first | refine XC_split ?_ ?_ | refine XG_true ?_ ?_ | refine XG_false ?_ ?_ | refine XRg_true ?_ ?_ | refine XRg_false ?_ ?_) <;> intro hc <;> (try simp only [bl] at hc) <;> (try (exfalso; omega))) | refine XD_w [] [] [] (fun _ => none) mixed (by decide +kernel) (sub_none _) ?_ | (intro bk hbk; (try simp only [go_sem] at hbk)))); all_goals (refine Wk.fin (by repeat (first | exact Sub.refl _ | refine Sub.upd (by simp [*]) ?_)) ?_; first | (simp [permF, *]; done) | (simp only [permF]; (repeat' (first | split | rfl | omega | (simp_all; done))); done) | (simp [permF, *]; (repeat' (first | split | omega | (rw [Bool.eq_iff_iff]; simp; omega))); done) | (simp [permF, *])))
theorem perm_9 : Pure Tryd.prog 76 [I 9, encL 1 cI (a :: b :: []), I fr, I to] (tup2 (I (permF 9 a b c fr to).1) (B (permF 9 a b c fr to).2)) := by
  intro h; refine callK_body Tryd.func76 rfl (by rw [nt76]; simp) ?_; rw [nt76, rs76]
  ((repeat' (first | simp [go_sem, X_region, *] | simp (disch := omega) only [om, *] | ((first | refine XC_split ?_ ?_ | refine XG_true ?_ ?_ | refine XG_false ?_ ?_ | refine XRg_true ?_ ?_ | refine XRg_false ?_ ?_) <;> intro hc <;> (try simp only [bl] at hc) <;> (try (exfalso; omega))) | refine XD_w [] [] [] (fun _ => none) mixed (by decide +kernel) (sub_none _) ?_ | (intro bk hbk; (try simp only [go_sem] at hbk)))); all_goals (refine Wk.fin (by repeat (first | exact Sub.refl _ | refine Sub.upd (by simp [*]) ?_)) ?_; first | (simp [permF, *]; done) | (simp only [permF]; (repeat' (first | split | rfl | omega | (simp_all; done))); done) | (simp [permF, *]; (repeat' (first | split | omega | (rw [Bool.eq_iff_iff]; simp; omega))); done) | (simp [permF, *])))
theorem perm_13 : Pure Tryd.prog 76 [I 13, encL 1 cI (a :: b :: []), I fr, I to] (tup2 (I (permF 13 a b c fr to).1) (B (permF 13 a b c fr to).2)) := by
  intro h; refine callK_body Tryd.func76 rfl (by rw [nt76]; simp) ?_; rw [nt76, rs76]
  ((repeat' (first | simp [go_sem, X_region, *] | simp (disch := omega) only [om, *] | ((first | refine XC_split ?_ ?_ | refine XG_true ?_ ?_ | refine XG_false ?_ ?_ | refine XRg_true ?_ ?_ | refine XRg_false ?_ ?_) <;> intro hc <;> (try simp only [bl] at hc) <;> (try (exfalso; omega))) | refine XD_w [] [] [] (fun _ => none) mixed (by decide +kernel) (sub_none _) ?_ | (intro bk hbk; (try simp only [go_sem] at hbk)))); all_goals (refine Wk.fin (by repeat (first | exact Sub.refl _ | refine Sub.upd (by simp [*]) ?_)) ?_; first | (simp [permF, *]; done) | (simp only [permF]; (repeat' (first | split | rfl | omega | (simp_all; done))); done) | (simp [permF, *]; (repeat' (first | split | omega | (rw [Bool.eq_iff_iff]; simp; omega))); done) | (simp [permF, *])))
theorem perm_14 : Pure Tryd.prog 76 [I 14, encL 1 cI (a :: b :: []), I fr, I to] (tup2 (I (permF 14 a b c fr to).1) (B (permF 14 a b c fr to).2)) := by
  intro h; refine callK_body Tryd.func76 rfl (by rw [nt76]; simp) ?_; rw [nt76, rs76]
  ((repeat' (first | simp [go_sem, X_region, *] | simp (disch := omega) only [om, *] | ((first | refine XC_split ?_ ?_ | refine XG_true ?_ ?_ | refine XG_false ?_ ?_ | refine XRg_true ?_ ?_ | refine XRg_false ?_ ?_) <;> intro hc <;> (try simp only [bl] at hc) <;> (try (exfalso; omega))) | refine XD_w [] [] [] (fun _ => none) mixed (by decide +kernel) (sub_none _) ?_ | (intro bk hbk; (try simp only [go_sem] at hbk)))); all_goals (refine Wk.fin (by repeat (first | exact Sub.refl _ | refine Sub.upd (by simp [*]) ?_)) ?_; first | (simp [permF, *]; done) | (simp only [permF]; (repeat' (first | split | rfl | omega | (simp_all; done))); done) | (simp [permF, *]; (repeat' (first | split | omega | (rw [Bool.eq_iff_iff]; simp; omega))); done) | (simp [permF, *])))
theorem perm_10 : Pure Tryd.prog 76 [I 10, encL 1 cI (a :: b :: []), I fr, I to] (tup2 (I (permF 10 a b c fr to).1) (B (permF 10 a b c fr to).2)) := by
  intro h; refine callK_body Tryd.func76 rfl (by rw [nt76]; simp) ?_; rw [nt76, rs76]
  ((repeat' (first | simp [go_sem, X_region, *] | simp (disch := omega) only [om, *] | ((first | refine XC_split ?_ ?_ | refine XG_true ?_ ?_ | refine XG_false ?_ ?_ | refine XRg_true ?_ ?_ | refine XRg_false ?_ ?_) <;> intro hc <;> (try simp only [bl] at hc) <;> (try (exfalso; omega))) | refine XD_w [] [] [] (fun _ => none) mixed (by decide +kernel) (sub_none _) ?_ | (intro bk hbk; (try simp only [go_sem] at hbk)))); all_goals (refine Wk.fin (by repeat (first | exact Sub.refl _ | refine Sub.upd (by simp [*]) ?_)) ?_; first | (simp [permF, *]; done) | (simp only [permF]; (repeat' (first | split | rfl | omega | (simp_all; done))); done) | (simp [permF, *]; (repeat' (first | split | omega | (rw [Bool.eq_iff_iff]; simp; omega))); done) | (simp [permF, *])))
theorem perm_11 : Pure Tryd.prog 76 [I 11, encL 1 cI (a :: b :: []), I fr, I to] (tup2 (I (permF 11 a b c fr to).1) (B (permF 11 a b c fr to).2)) := by
  intro h; refine callK_body Tryd.func76 rfl (by rw [nt76]; simp) ?_; rw [nt76, rs76]
  ((repeat' (first | simp [go_sem, X_region, *] | simp (disch := omega) only [om, *] | ((first | refine XC_split ?_ ?_ | refine XG_true ?_ ?_ | refine XG_false ?_ ?_ | refine XRg_true ?_ ?_ | refine XRg_false ?_ ?_) <;> intro hc <;> (try simp only [bl] at hc) <;> (try (exfalso; omega))) | refine XD_w [] [] [] (fun _ => none) mixed (by decide +kernel) (sub_none _) ?_ | (intro bk hbk; (try simp only [go_sem] at hbk)))); all_goals (refine Wk.fin (by repeat (first | exact Sub.refl _ | refine Sub.upd (by simp [*]) ?_)) ?_; first | (simp [permF, *]; done) | (simp only [permF]; (repeat' (first | split | rfl | omega | (simp_all; done))); done) | (simp [permF, *]; (repeat' (first | split | omega | (rw [Bool.eq_iff_iff]; simp; omega))); done) | (simp [permF, *])))
theorem perm_12 : Pure Tryd.prog 76 [I 12, encL 1 cI (a :: b :: []), I fr, I to] (tup2 (I (permF 12 a b c fr to).1) (B (permF 12 a b c fr to).2)) := by
  intro h; refine callK_body Tryd.func76 rfl (by rw [nt76]; simp) ?_; rw [nt76, rs76]
  ((repeat' (first | simp [go_sem, X_region, *] | simp (disch := omega) only [om, *] | ((first | refine XC_split ?_ ?_ | refine XG_true ?_ ?_ | refine XG_false ?_ ?_ | refine XRg_true ?_ ?_ | refine XRg_false ?_ ?_) <;> intro hc <;> (try simp only [bl] at hc) <;> (try (exfalso; omega))) | refine XD_w [] [] [] (fun _ => none) mixed (by decide +kernel) (sub_none _) ?_ | (intro bk hbk; (try simp only [go_sem] at hbk)))); all_goals (refine Wk.fin (by repeat (first | exact Sub.refl _ | refine Sub.upd (by simp [*]) ?_)) ?_; first | (simp [permF, *]; done) | (simp only [permF]; (repeat' (first | split | rfl | omega | (simp_all; done))); done) | (simp [permF, *]; (repeat' (first | split | omega | (rw [Bool.eq_iff_iff]; simp; omega))); done) | (simp [permF, *])))
theorem perm_15 : Pure Tryd.prog 76 [I 15, encL 1 cI (a :: b :: c :: []), I fr, I to] (tup2 (I (permF 15 a b c fr to).1) (B (permF 15 a b c fr to).2)) := by
  intro h; refine callK_body Tryd.func76 rfl (by rw [nt76]; simp) ?_; rw [nt76, rs76]
  ((repeat' (first | simp [go_sem, X_region, *] | simp (disch := omega) only [om, *] | ((first | refine XC_split ?_ ?_ | refine XG_true ?_ ?_ | refine XG_false ?_ ?_ | refine XRg_true ?_ ?_ | refine XRg_false ?_ ?_) <;> intro hc <;> (try simp only [bl] at hc) <;> (try (exfalso; omega))) | refine XD_w [] [] [] (fun _ => none) mixed (by decide +kernel) (sub_none _) ?_ | (intro bk hbk; (try simp only [go_sem] at hbk)))); all_goals (refine Wk.fin (by repeat (first | exact Sub.refl _ | refine Sub.upd (by simp [*]) ?_)) ?_; first | (simp [permF, *]; done) | (simp only [permF]; (repeat' (first | split | rfl | omega | (simp_all; done))); done) | (simp [permF, *]; (repeat' (first | split | omega | (rw [Bool.eq_iff_iff]; simp; omega))); done) | (simp [permF, *])))
theorem perm_16 : Pure Tryd.prog 76 [I 16, encL 1 cI [a], I fr, I to] (tup2 (I (permF 16 a b c fr to).1) (B (permF 16 a b c fr to).2)) := by
  intro h; refine callK_body Tryd.func76 rfl (by rw [nt76]; simp) ?_; rw [nt76, rs76]
  ((repeat' (first | simp [go_sem, X_region, *] | simp (disch := omega) only [om, *] | ((first | refine XC_split ?_ ?_ | refine XG_true ?_ ?_ | refine XG_false ?_ ?_ | refine XRg_true ?_ ?_ | refine XRg_false ?_ ?_) <;> intro hc <;> (try simp only [bl] at hc) <;> (try (exfalso; omega))) | refine XD_w [] [] [] (fun _ => none) mixed (by decide +kernel) (sub_none _) ?_ | (intro bk hbk; (try simp only [go_sem] at hbk)))); all_goals (refine Wk.fin (by repeat (first | exact Sub.refl _ | refine Sub.upd (by simp [*]) ?_)) ?_; first | (simp [permF, *]; done) | (simp only [permF]; (repeat' (first | split | rfl | omega | (simp_all; done))); done) | (simp [permF, *]; (repeat' (first | split | omega | (rw [Bool.eq_iff_iff]; simp; omega))); done) | (simp [permF, *])))
theorem perm_17 : Pure Tryd.prog 76 [I 17, encL 1 cI [a], I fr, I to] (tup2 (I (permF 17 a b c fr to).1) (B (permF 17 a b c fr to).2)) := by
  intro h; refine callK_body Tryd.func76 rfl (by rw [nt76]; simp) ?_; rw [nt76, rs76]
  ((repeat' (first | simp [go_sem, X_region, *] | simp (disch := omega) only [om, *] | ((first | refine XC_split ?_ ?_ | refine XG_true ?_ ?_ | refine XG_false ?_ ?_ | refine XRg_true ?_ ?_ | refine XRg_false ?_ ?_) <;> intro hc <;> (try simp only [bl] at hc) <;> (try (exfalso; omega))) | refine XD_w [] [] [] (fun _ => none) mixed (by decide +kernel) (sub_none _) ?_ | (intro bk hbk; (try simp only [go_sem] at hbk)))); all_goals (refine Wk.fin (by repeat (first | exact Sub.refl _ | refine Sub.upd (by simp [*]) ?_)) ?_; first | (simp [permF, *]; done) | (simp only [permF]; (repeat' (first | split | rfl | omega | (simp_all; done))); done) | (simp [permF, *]; (repeat' (first | split | omega | (rw [Bool.eq_iff_iff]; simp; omega))); done) | (simp [permF, *])))
theorem perm_18 : Pure Tryd.prog 76 [I 18, encL 1 cI (a :: b :: []), I fr, I to] (tup2 (I (permF 18 a b c fr to).1) (B (permF 18 a b c fr to).2)) := by
  intro h; refine callK_body Tryd.func76 rfl (by rw [nt76]; simp) ?_; rw [nt76, rs76]
  ((repeat' (first | simp [go_sem, X_region, *] | simp (disch := omega) only [om, *] | ((first | refine XC_split ?_ ?_ | refine XG_true ?_ ?_ | refine XG_false ?_ ?_ | refine XRg_true ?_ ?_ | refine XRg_false ?_ ?_) <;> intro hc <;> (try simp only [bl] at hc) <;> (try (exfalso; omega))) | refine XD_w [] [] [] (fun _ => none) mixed (by decide +kernel) (sub_none _) ?_ | (intro bk hbk; (try simp only [go_sem] at hbk)))); all_goals (refine Wk.fin (by repeat (first | exact Sub.refl _ | refine Sub.upd (by simp [*]) ?_)) ?_; first | (simp [permF, *]; done) | (simp only [permF]; (repeat' (first | split | rfl | omega | (simp_all; done))); done) | (simp [permF, *]; (repeat' (first | split | omega | (rw [Bool.eq_iff_iff]; simp; omega))); done) | (simp [permF, *])))
end
def fIdx (p : Int → Bool) : List Int → Int → Int
  | [], _ => -1
  | x :: r, i => if p x = true then i else fIdx p r (i + 1)
theorem fIdx_ge (p : Int → Bool) (l : List Int) (i : Int) (hi : 0 ≤ i) : decide (0 ≤ fIdx p l i) = l.any p := by
  induction l generalizing i with
  | nil => simp [fIdx]
  | cons x l ih =>
    unfold fIdx
    by_cases h : p x = true
    · simp [h, hi]
    · simp [h]; simpa using ih (i + 1) (by omega)
theorem idxf_ok (g : FuncId) (hc : callable Tryd.prog g = true) (p : Int → Bool) (hp : ∀ x, Pure Tryd.prog g [I x] (B (p x))) (l : List Int) : Pure Tryd.prog 126 [encL 1 cI l, .v (.func (.func g) #[] #[])] (I (fIdx p l 0)) := by
  generalize hR : I (fIdx p l 0) = R
  intro h; refine CallK.lens fun hlen => ?_; have hlen := (hlen _ (by simp only [List.mem_cons, true_or, or_true] : (encL 1 cI l) ∈ _)).encL; refine callK_body Tryd.func126 rfl (by rw [nt126]; simp) ?_; rw [nt126, rs126]
  (repeat' (first | simp [go_sem, X_region, *] | simp (disch := omega) only [om, *] | ((first | refine XC_split ?_ ?_ | refine XG_true ?_ ?_ | refine XG_false ?_ ?_ | refine XRg_true ?_ ?_ | refine XRg_false ?_ ?_) <;> intro hc <;> (try simp only [bl] at hc) <;> (try (exfalso; omega))) | refine XD_w [] [] [] (fun _ => none) mixed (by decide +kernel) (sub_none _) ?_ | (intro bk hbk; (try simp only [go_sem] at hbk))))
  refine X_lp (fun n T h' => ∃ (i : Nat) (r : List Int), n = r.length ∧ i ≤ l.length ∧ l.drop i = r ∧ T 8 = I i ∧ I (fIdx p r i) = R ∧ T 0 = encL 1 cI l ∧ T 1 = .v (.func (.func g) #[] #[]) ∧ T 7 = I l.length ∧ h' = h) l.length ⟨0, l, by simp [go_sem, hR]⟩ ?_
  clear hR; rintro J hJ n T h' ⟨i, r, rfl, hi, hd, h8, hR, h0, h1, h7, rfl⟩
  rcases r with _ | ⟨x, r⟩
  · have hlt := drop_nil hd
    (repeat' (first | simp [go_sem, X_region, *] | simp (disch := omega) only [om, *] | ((first | refine XC_split ?_ ?_ | refine XG_true ?_ ?_ | refine XG_false ?_ ?_ | refine XRg_true ?_ ?_ | refine XRg_false ?_ ?_) <;> intro hc <;> (try simp only [bl] at hc) <;> (try (exfalso; omega))) | refine XD_w [] [] [] (fun _ => none) mixed (by decide +kernel) (sub_none _) ?_ | (intro bk hbk; (try simp only [go_sem] at hbk))))
    all_goals (subst hR; exact Wk.of_eq (by simp [fIdx]))
  · obtain ⟨hlt, hx, hd2⟩ := drop_cons hd
    have hpx := hp x
    cases he : p x
    · rw [he] at hpx
      (repeat' (first | simp [go_sem, X_region, *] | simp (disch := omega) only [om, *] | ((first | refine XC_split ?_ ?_ | refine XG_true ?_ ?_ | refine XG_false ?_ ?_ | refine XRg_true ?_ ?_ | refine XRg_false ?_ ?_) <;> intro hc <;> (try simp only [bl] at hc) <;> (try (exfalso; omega))) | refine XD_w [] [] [] (fun _ => none) mixed (by decide +kernel) (sub_none _) ?_ | refine Pure.call (hpx) ?_ | refine ⟨_, Pure.at (hpx), ?_⟩ | refine ⟨_, hpx, ?_⟩ | refine PureAt.call (hpx) ?_ | (intro bk hbk; (try simp only [go_sem] at hbk))))
      exact ⟨_, by omega, hJ.out _ _ _ ⟨i + 1, r, rfl, by omega, hd2, by simp [go_sem, *], by rw [← hR]; simp [fIdx, he], by simp [go_sem, *], by simp [go_sem, *], by simp [go_sem, *], rfl⟩⟩
    · rw [he] at hpx
      (repeat' (first | simp [go_sem, X_region, *] | simp (disch := omega) only [om, *] | ((first | refine XC_split ?_ ?_ | refine XG_true ?_ ?_ | refine XG_false ?_ ?_ | refine XRg_true ?_ ?_ | refine XRg_false ?_ ?_) <;> intro hc <;> (try simp only [bl] at hc) <;> (try (exfalso; omega))) | refine XD_w [] [] [] (fun _ => none) mixed (by decide +kernel) (sub_none _) ?_ | refine Pure.call (hpx) ?_ | refine ⟨_, Pure.at (hpx), ?_⟩ | refine ⟨_, hpx, ?_⟩ | refine PureAt.call (hpx) ?_ | (intro bk hbk; (try simp only [go_sem] at hbk))))
      all_goals (subst hR; exact Wk.of_eq (by simp [fIdx, *]))
theorem cfun_ok (g : FuncId) (hc : callable Tryd.prog g = true) (p : Int → Bool) (hp : ∀ x, Pure Tryd.prog g [I x] (B (p x))) (l : List Int) : Pure Tryd.prog 106 [encL 1 cI l, .v (.func (.func g) #[] #[])] (B (l.any p)) := by
  intro h; refine callK_body Tryd.func106 rfl (by rw [nt106]; simp) ?_; rw [nt106, rs106]
  rw [← fIdx_ge p l 0 (by omega)]
  ((repeat' (first | simp [go_sem, X_region, *] | simp (disch := omega) only [om, *] | ((first | refine XC_split ?_ ?_ | refine XG_true ?_ ?_ | refine XG_false ?_ ?_ | refine XRg_true ?_ ?_ | refine XRg_false ?_ ?_) <;> intro hc <;> (try simp only [bl] at hc) <;> (try (exfalso; omega))) | refine XD_w [] [] [] (fun _ => none) mixed (by decide +kernel) (sub_none _) ?_ | refine Pure.call (idxf_ok g hc p hp l) ?_ | refine ⟨_, Pure.at (idxf_ok g hc p hp l), ?_⟩ | refine ⟨_, idxf_ok g hc p hp l, ?_⟩ | refine PureAt.call (idxf_ok g hc p hp l) ?_ | (intro bk hbk; (try simp only [go_sem] at hbk)))); all_goals (refine Wk.fin (by repeat (first | exact Sub.refl _ | refine Sub.upd (by simp [*]) ?_)) ?_; first | (simp [*]; done) | (simp only []; (repeat' (first | split | rfl | omega | (simp_all; done))); done) | (simp [*]; (repeat' (first | split | omega | (rw [Bool.eq_iff_iff]; simp; omega))); done) | (simp [*])))
theorem notbool_ok (x : Int) : Pure Tryd.prog 107 [I x] (B (decide (x ≠ 1))) := by
  intro h; refine callK_body Tryd.func107 rfl (by rw [nt107]; simp) ?_; rw [nt107, rs107]
  ((repeat' (first | simp [go_sem, X_region, *] | simp (disch := omega) only [om, *] | ((first | refine XC_split ?_ ?_ | refine XG_true ?_ ?_ | refine XG_false ?_ ?_ | refine XRg_true ?_ ?_ | refine XRg_false ?_ ?_) <;> intro hc <;> (try simp only [bl] at hc) <;> (try (exfalso; omega))) | refine XD_w [] [] [] (fun _ => none) mixed (by decide +kernel) (sub_none _) ?_ | (intro bk hbk; (try simp only [go_sem] at hbk)))); all_goals (refine Wk.fin (by repeat (first | exact Sub.refl _ | refine Sub.upd (by simp [*]) ?_)) ?_; first | (simp [*]; done) | (simp only []; (repeat' (first | split | rfl | omega | (simp_all; done))); done) | (simp [*]; (repeat' (first | split | omega | (rw [Bool.eq_iff_iff]; simp; omega))); done) | (simp [*])))
section
variable (a b c fr to : Int)
theorem perm_4 : Pure Tryd.prog 76 [I 4, encL 1 cI [a], I fr, I to] (tup2 (I (permF 4 a b c fr to).1) (B (permF 4 a b c fr to).2)) := by
  have hc := cfun_ok 107 (by simp [go_sem]) (fun x => decide (x ≠ 1)) notbool_ok [a]
  simp only [List.any_cons, List.any_nil, Bool.or_false] at hc
  intro h; refine callK_body Tryd.func76 rfl (by rw [nt76]; simp) ?_; rw [nt76, rs76]
  ((repeat' (first | simp [go_sem, X_region, *] | simp (disch := omega) only [om, *] | ((first | refine XC_split ?_ ?_ | refine XG_true ?_ ?_ | refine XG_false ?_ ?_ | refine XRg_true ?_ ?_ | refine XRg_false ?_ ?_) <;> intro hc <;> (try simp only [bl] at hc) <;> (try (exfalso; omega))) | refine XD_w [] [] [] (fun _ => none) mixed (by decide +kernel) (sub_none _) ?_ | refine Pure.call (hc) ?_ | refine ⟨_, Pure.at (hc), ?_⟩ | refine ⟨_, hc, ?_⟩ | refine PureAt.call (hc) ?_ | (intro bk hbk; (try simp only [go_sem] at hbk)))); all_goals (refine Wk.fin (by repeat (first | exact Sub.refl _ | refine Sub.upd (by simp [*]) ?_)) ?_; first | (simp [permF, *]; done) | (simp only [permF]; (repeat' (first | split | rfl | omega | (simp_all; done))); done) | (simp [permF, *]; (repeat' (first | split | omega | (rw [Bool.eq_iff_iff]; simp; omega))); done) | (simp [permF, *])))
theorem perm_5 : Pure Tryd.prog 76 [I 5, encL 1 cI (a :: b :: []), I fr, I to] (tup2 (I (permF 5 a b c fr to).1) (B (permF 5 a b c fr to).2)) := by
  have hc := cfun_ok 107 (by simp [go_sem]) (fun x => decide (x ≠ 1)) notbool_ok (a :: b :: [])
  simp only [List.any_cons, List.any_nil, Bool.or_false] at hc
  intro h; refine callK_body Tryd.func76 rfl (by rw [nt76]; simp) ?_; rw [nt76, rs76]
  ((repeat' (first | simp [go_sem, X_region, *] | simp (disch := omega) only [om, *] | ((first | refine XC_split ?_ ?_ | refine XG_true ?_ ?_ | refine XG_false ?_ ?_ | refine XRg_true ?_ ?_ | refine XRg_false ?_ ?_) <;> intro hc <;> (try simp only [bl] at hc) <;> (try (exfalso; omega))) | refine XD_w [] [] [] (fun _ => none) mixed (by decide +kernel) (sub_none _) ?_ | refine Pure.call (hc) ?_ | refine ⟨_, Pure.at (hc), ?_⟩ | refine ⟨_, hc, ?_⟩ | refine PureAt.call (hc) ?_ | (intro bk hbk; (try simp only [go_sem] at hbk)))); all_goals (refine Wk.fin (by repeat (first | exact Sub.refl _ | refine Sub.upd (by simp [*]) ?_)) ?_; first | (simp [permF, *]; done) | (simp only [permF]; (repeat' (first | split | rfl | omega | (simp_all; done))); done) | (simp [permF, *]; (repeat' (first | split | omega | (rw [Bool.eq_iff_iff]; simp; omega))); done) | (simp [permF, *])))
theorem perm_6 : Pure Tryd.prog 76 [I 6, encL 1 cI (a :: b :: []), I fr, I to] (tup2 (I (permF 6 a b c fr to).1) (B (permF 6 a b c fr to).2)) := by
  have hc := cfun_ok 107 (by simp [go_sem]) (fun x => decide (x ≠ 1)) notbool_ok (a :: b :: [])
  simp only [List.any_cons, List.any_nil, Bool.or_false] at hc
  intro h; refine callK_body Tryd.func76 rfl (by rw [nt76]; simp) ?_; rw [nt76, rs76]
  ((repeat' (first | simp [go_sem, X_region, *] | simp (disch := omega) only [om, *] | ((first | refine XC_split ?_ ?_ | refine XG_true ?_ ?_ | refine XG_false ?_ ?_ | refine XRg_true ?_ ?_ | refine XRg_false ?_ ?_) <;> intro hc <;> (try simp only [bl] at hc) <;> (try (exfalso; omega))) | refine XD_w [] [] [] (fun _ => none) mixed (by decide +kernel) (sub_none _) ?_ | refine Pure.call (hc) ?_ | refine ⟨_, Pure.at (hc), ?_⟩ | refine ⟨_, hc, ?_⟩ | refine PureAt.call (hc) ?_ | (intro bk hbk; (try simp only [go_sem] at hbk)))); all_goals (refine Wk.fin (by repeat (first | exact Sub.refl _ | refine Sub.upd (by simp [*]) ?_)) ?_; first | (simp [permF, *]; done) | (simp only [permF]; (repeat' (first | split | rfl | omega | (simp_all; done))); done) | (simp [permF, *]; (repeat' (first | split | omega | (rw [Bool.eq_iff_iff]; simp; omega))); done) | (simp [permF, *])))
end
def permP (op fr to : Int) (k : List Int) : Bool := (permF op (k.getD 0 0) (k.getD 1 0) (k.getD 2 0) fr to).2
theorem perm_all {op : Int} (hop : isOp op) {l : List Int} (hl : (l.length : Int) = ar op) (fr to : Int) :
    Pure Tryd.prog 76 [I op, encL 1 cI l, I fr, I to] (tup2 (I (permF op (l.getD 0 0) (l.getD 1 0) (l.getD 2 0) fr to).1) (B (permP op fr to l))) := by
  have t1 : ar op = 1 → ∃ a, l = [a] := fun h => len1 (by rw [hl, h])
  have t2 : ar op = 2 → ∃ a b, l = [a, b] := fun h => len2 (by rw [hl, h])
  have t3 : ar op = 3 → ∃ a b c, l = [a, b, c] := fun h => len3 (by rw [hl, h])
  rcases hop.cases with rfl | rfl | rfl | rfl | rfl | rfl | rfl | rfl | rfl | rfl | rfl | rfl | rfl | rfl | rfl
  · obtain ⟨a, rfl⟩ := t1 (by decide); exact perm_4 a 0 0 fr to
  · obtain ⟨a, b, rfl⟩ := t2 (by decide); exact perm_5 a b 0 fr to
  · obtain ⟨a, b, rfl⟩ := t2 (by decide); exact perm_6 a b 0 fr to
  · obtain ⟨a, b, rfl⟩ := t2 (by decide); exact perm_7 a b 0 fr to
  · obtain ⟨a, b, rfl⟩ := t2 (by decide); exact perm_8 a b 0 fr to
  · obtain ⟨a, b, rfl⟩ := t2 (by decide); exact perm_9 a b 0 fr to
  · obtain ⟨a, b, rfl⟩ := t2 (by decide); exact perm_10 a b 0 fr to
  · obtain ⟨a, b, rfl⟩ := t2 (by decide); exact perm_11 a b 0 fr to
  · obtain ⟨a, b, rfl⟩ := t2 (by decide); exact perm_12 a b 0 fr to
  · obtain ⟨a, b, rfl⟩ := t2 (by decide); exact perm_13 a b 0 fr to
  · obtain ⟨a, b, rfl⟩ := t2 (by decide); exact perm_14 a b 0 fr to
  · obtain ⟨a, b, c, rfl⟩ := t3 (by decide); exact perm_15 a b c fr to
  · obtain ⟨a, rfl⟩ := t1 (by decide); exact perm_16 a 0 0 fr to
  · obtain ⟨a, rfl⟩ := t1 (by decide); exact perm_17 a 0 0 fr to
  · obtain ⟨a, b, rfl⟩ := t2 (by decide); exact perm_18 a b 0 fr to
end Go.Proofs.YtmalhikcdideoaaDoor

set_option linter.unusedVariables false
set_option linter.unusedSimpArgs false
namespace Go.Proofs.YtmalhikcdideoaaDoor
open Go Sl
attribute [local irreducible] XRange LpQ XR XRo XRg XRQ putQ XFv XL XW2 wQ putW X XO XOp XH XHo XW SeqQ BlkQ XOQ XHQ NrmQ XC XM XG XHM XHG XD CallK
set_option maxRecDepth 100000
theorem idxfC_ok {h : Hp} (g : FuncId) (hc : callable Tryd.prog g = true) (caps : List Value) (p : Int → Bool) (hp : ∀ x, PureAt Tryd.prog h g ([I x] ++ caps.map .v) (B (p x))) (l : List Int) : PureAt Tryd.prog h 126 [encL 1 cI l, .v (.func (.func g) #[] caps.toArray)] (I (fIdx p l 0)) := by
  generalize hR : fIdx p l 0 = R
  unfold PureAt
  refine CallK.lens fun hlen => ?_; have hlen := (hlen _ (by simp only [List.mem_cons, true_or, or_true] : (encL 1 cI l) ∈ _)).encL; refine callK_body Tryd.func126 rfl (by rw [nt126]; simp) ?_; rw [nt126, rs126]
  (repeat' (first | simp [go_sem, X_region, *] | simp (disch := omega) only [om, *] | ((first | refine XC_split ?_ ?_ | refine XG_true ?_ ?_ | refine XG_false ?_ ?_ | refine XRg_true ?_ ?_ | refine XRg_false ?_ ?_) <;> intro hc <;> (try simp only [bl] at hc) <;> (try (exfalso; omega))) | refine XD_w [] [] [] (fun _ => none) mixed (by decide +kernel) (sub_none _) ?_ | fail))
  refine X_lpF (fun i => (4 ≤ i ∧ i ≤ 5) ∨ (8 ≤ i ∧ i ≤ 18)) (fun n T h' => ∃ (i : Nat) (r : List Int), n = r.length ∧ i ≤ l.length ∧ l.drop i = r ∧ T 8 = I i ∧ fIdx p r i = R ∧ h' = h) l.length ⟨0, l, by simp [go_sem, hR]⟩ ?_
  clear hR; rintro J hJ n T h' hfr ⟨i, r, rfl, hi, hd, h8, hR, rfl⟩
  rcases r with _ | ⟨x, r⟩
  · have hlt := drop_nil hd
    subst hR
    (repeat' (first | simp [go_sem, X_region, *] | simp (disch := omega) only [om, *] | ((first | refine XC_split ?_ ?_ | refine XG_true ?_ ?_ | refine XG_false ?_ ?_ | refine XRg_true ?_ ?_ | refine XRg_false ?_ ?_) <;> intro hc <;> (try simp only [bl] at hc) <;> (try (exfalso; omega))) | refine XD_w [] [] [] (fun _ => none) mixed (by decide +kernel) (sub_none _) ?_ | fail))
    all_goals exact Wk.refl _ _
  · obtain ⟨hlt, hx, hd2⟩ := drop_cons hd
    have hpx := hp x
    rw [fIdx] at hR
    cases he : p x
    · rw [he] at hpx
      rw [he, if_neg (by simp)] at hR
      (repeat' (first | simp [go_sem, X_region, *] | simp (disch := omega) only [om, *] | ((first | refine XC_split ?_ ?_ | refine XG_true ?_ ?_ | refine XG_false ?_ ?_ | refine XRg_true ?_ ?_ | refine XRg_false ?_ ?_) <;> intro hc <;> (try simp only [bl] at hc) <;> (try (exfalso; omega))) | refine XD_w [] [] [] (fun _ => none) mixed (by decide +kernel) (sub_none _) ?_ | refine Pure.call (hpx) ?_ | refine ⟨_, Pure.at (hpx), ?_⟩ | refine ⟨_, hpx, ?_⟩ | refine PureAt.call (hpx) ?_ | fail))
      exact ⟨_, Nat.lt_succ_self _, hJ.out _ _ _ ⟨(by (repeat (refine fr_upd (by decide) ?_)); exact hfr), i + 1, r, rfl, by omega, hd2, by simp [go_sem, *], hR, rfl⟩⟩
    · rw [he] at hpx
      rw [he, if_pos rfl] at hR
      subst hR
      (repeat' (first | simp [go_sem, X_region, *] | simp (disch := omega) only [om, *] | ((first | refine XC_split ?_ ?_ | refine XG_true ?_ ?_ | refine XG_false ?_ ?_ | refine XRg_true ?_ ?_ | refine XRg_false ?_ ?_) <;> intro hc <;> (try simp only [bl] at hc) <;> (try (exfalso; omega))) | refine XD_w [] [] [] (fun _ => none) mixed (by decide +kernel) (sub_none _) ?_ | refine Pure.call (hpx) ?_ | refine ⟨_, Pure.at (hpx), ?_⟩ | refine ⟨_, hpx, ?_⟩ | refine PureAt.call (hpx) ?_ | fail))
      all_goals exact Wk.refl _ _
theorem cfunC_ok {h : Hp} (g : FuncId) (hc : callable Tryd.prog g = true) (caps : List Value) (p : Int → Bool) (hp : ∀ x, PureAt Tryd.prog h g ([I x] ++ caps.map .v) (B (p x))) (l : List Int) : PureAt Tryd.prog h 106 [encL 1 cI l, .v (.func (.func g) #[] caps.toArray)] (B (l.any p)) := by
  unfold PureAt
  refine callK_body Tryd.func106 rfl (by rw [nt106]; simp) ?_; rw [nt106, rs106]
  rw [← fIdx_ge p l 0 (by omega)]
  have hi := idxfC_ok g hc caps p hp l
  generalize fIdx p l 0 = q at *
  ((repeat' (first | simp [go_sem, X_region, *] | simp (disch := omega) only [om, *] | ((first | refine XC_split ?_ ?_ | refine XG_true ?_ ?_ | refine XG_false ?_ ?_ | refine XRg_true ?_ ?_ | refine XRg_false ?_ ?_) <;> intro hc <;> (try simp only [bl] at hc) <;> (try (exfalso; omega))) | refine XD_w [] [] [] (fun _ => none) mixed (by decide +kernel) (sub_none _) ?_ | refine Pure.call (hi) ?_ | refine ⟨_, Pure.at (hi), ?_⟩ | refine ⟨_, hi, ?_⟩ | refine PureAt.call (hi) ?_ | (intro bk hbk; (try simp only [go_sem] at hbk)))); all_goals (refine Wk.fin (by repeat (first | exact Sub.refl _ | refine Sub.upd (by simp [*]) ?_)) ?_; first | (simp [*]; done) | (simp only []; (repeat' (first | split | rfl | omega | (simp_all; done))); done) | (simp [*]; (repeat' (first | split | omega | (rw [Bool.eq_iff_iff]; simp; omega))); done) | (simp [*])))
theorem onefar_ok {h : Hp} {b : Nat} {o : Ob} {i : Int} (hb : h b = some o) (h1 : o.s = 1) (h2 : o.n = 1) (h4 : o.f 0 0 = I i) (k : Int) : PureAt Tryd.prog h 108 [I k, .v (.pointer (some ⟨b, 0, none⟩))] (B (decide (k < 0 ∨ i ≤ k))) := by
  unfold PureAt
  refine callK_body Tryd.func108 rfl (by rw [nt108]; simp) ?_; rw [nt108, rs108]
  ((repeat' (first | simp [go_sem, X_region, *] | simp (disch := omega) only [om, *] | ((first | refine XC_split ?_ ?_ | refine XG_true ?_ ?_ | refine XG_false ?_ ?_ | refine XRg_true ?_ ?_ | refine XRg_false ?_ ?_) <;> intro hc <;> (try simp only [bl] at hc) <;> (try (exfalso; omega))) | refine XD_w [] [] [] (fun _ => none) mixed (by decide +kernel) (sub_none _) ?_ | (intro bk hbk; (try simp only [go_sem] at hbk)))); all_goals (refine Wk.fin (by repeat (first | exact Sub.refl _ | refine Sub.upd (by simp [*]) ?_)) ?_; first | (simp [*]; done) | (simp only []; (repeat' (first | split | rfl | omega | (simp_all; done))); done) | (simp [*]; (repeat' (first | split | omega | (rw [Bool.eq_iff_iff]; simp; omega))); done) | (simp [*])))
theorem far_ok {h : Hp} {b : Nat} {o : Ob} {i : Int} (hb : h b = some o) (h1 : o.s = 1) (h2 : o.n = 1) (h4 : o.f 0 0 = I i) (l : List Int) :
    PureAt Tryd.prog h 106 [encL 1 cI l, .v (.func (.func 108) #[] #[.pointer (some ⟨b, 0, none⟩)])] (B (l.any fun k => decide (k < 0 ∨ i ≤ k))) :=
  cfunC_ok 108 (by simp [go_sem]) [.pointer (some ⟨b, 0, none⟩)] _ (onefar_ok hb h1 h2 h4) l
def namedB (op : Int) : Bool := decide (op = 1 ∨ op = 2 ∨ op = 3 ∨ op = 16)
theorem named_ok (op : Int) : Pure Tryd.prog 109 [I op] (B (namedB op)) := by
  intro h; refine callK_body Tryd.func109 rfl (by rw [nt109]; simp) ?_; rw [nt109, rs109]
  ((repeat' (first | simp [go_sem, X_region, *] | simp (disch := omega) only [om, *] | ((first | refine XC_split ?_ ?_ | refine XG_true ?_ ?_ | refine XG_false ?_ ?_ | refine XRg_true ?_ ?_ | refine XRg_false ?_ ?_) <;> intro hc <;> (try simp only [bl] at hc) <;> (try (exfalso; omega))) | refine XD_w [] [] [] (fun _ => none) mixed (by decide +kernel) (sub_none _) ?_ | (intro bk hbk; (try simp only [go_sem] at hbk)))); all_goals (refine Wk.fin (by repeat (first | exact Sub.refl _ | refine Sub.upd (by simp [*]) ?_)) ?_; first | (simp [namedB, *]; done) | (simp only [namedB]; (repeat' (first | split | rfl | omega | (simp_all; done))); done) | (simp [namedB, *]; (repeat' (first | split | omega | (rw [Bool.eq_iff_iff]; simp; omega))); done) | (simp [namedB, *])))
def oneE (nameB : ByteArray → Bool) (x : Nd) (i : Nat) : Int :=
  if ar x.op < 0 then 1 else if (x.kids.length : Int) ≠ ar x.op then 3 else if (x.kids.any fun k => decide (k < 0 ∨ (i : Int) ≤ k)) = true then 3
  else if (x.op ≠ 0 ∧ x.op ≠ 17 ∧ (x.kd ≠ 0 ∨ x.n ≠ 0)) ∨ (namedB x.op = false ∧ x.nm ≠ ⟨#[]⟩) then 3
  else if x.op = 0 ∧ x.kd = 0 then 8 else if x.op = 0 then checkV ⟨x.kd, x.n⟩ else if x.op = 17 ∧ (x.kd < 0 ∨ 5 ≤ x.kd ∨ x.n < 1 ∨ 1099511627776 < x.n) then 1
  else if namedB x.op = true ∧ nameB x.nm = false then 15 else 0
set_option maxHeartbeats 4000000 in
theorem tone_ok (nameB : ByteArray → Bool) (x : Nd) (hn : namedB x.op = true → Pure Tryd.prog 17 [S x.nm] (B (nameB x.nm))) (i : Nat) :
    Pure Tryd.prog 77 [aggL (cNd x), I i] (I (oneE nameB x i)) := by
  generalize hR : oneE nameB x i = R
  unfold oneE at hR
  rcases x with ⟨op, kids, kd, n, nm⟩
  simp only [cNd] at *
  have hk := kids_ok op
  change Pure Tryd.prog 39 [I op] (I (ar op)) at hk
  have hnm := named_ok op
  have hck := checkV_ok ⟨kd, n⟩
  simp only [encV] at hck
  have hfar := fun (h : Hp) (b : Nat) (ob : Ob) => far_ok (h := h) (b := b) (o := ob) (i := (i : Int))
  intro h; refine callK_body Tryd.func77 rfl (by rw [nt77]; simp) ?_; rw [nt77, rs77]
  by_cases q1 : ar op < 0
  · rw [if_pos q1] at hR
    subst hR
    ((repeat' (first | simp [go_sem, X_region, *] | simp (disch := omega) only [om, *] | ((first | refine XC_split ?_ ?_ | refine XG_true ?_ ?_ | refine XG_false ?_ ?_ | refine XRg_true ?_ ?_ | refine XRg_false ?_ ?_) <;> intro hc <;> (try simp only [bl] at hc) <;> (try (exfalso; omega))) | refine XD_w [] [] [] (fun _ => none) mixed (by decide +kernel) (sub_none _) ?_ | refine Pure.call (hk) ?_ | refine ⟨_, Pure.at (hk), ?_⟩ | refine ⟨_, hk, ?_⟩ | refine PureAt.call (hk) ?_ | (intro bk hbk; (try simp only [go_sem] at hbk)))); all_goals (refine Wk.fin (by repeat (first | exact Sub.refl _ | refine Sub.upd (by simp [*]) ?_)) ?_; first | (simp [*]; done) | (simp only []; (repeat' (first | split | rfl | omega | (simp_all; done))); done) | (simp [*]; (repeat' (first | split | omega | (rw [Bool.eq_iff_iff]; simp; omega))); done) | (simp [*])))
  rw [if_neg q1] at hR
  by_cases q2 : (kids.length : Int) = ar op
  case neg =>
    rw [if_pos q2] at hR
    subst hR
    ((repeat' (first | simp [go_sem, X_region, *] | simp (disch := omega) only [om, *] | ((first | refine XC_split ?_ ?_ | refine XG_true ?_ ?_ | refine XG_false ?_ ?_ | refine XRg_true ?_ ?_ | refine XRg_false ?_ ?_) <;> intro hc <;> (try simp only [bl] at hc) <;> (try (exfalso; omega))) | refine XD_w [] [] [] (fun _ => none) mixed (by decide +kernel) (sub_none _) ?_ | refine Pure.call (hk) ?_ | refine ⟨_, Pure.at (hk), ?_⟩ | refine ⟨_, hk, ?_⟩ | refine PureAt.call (hk) ?_ | (intro bk hbk; (try simp only [go_sem] at hbk)))); all_goals (refine Wk.fin (by repeat (first | exact Sub.refl _ | refine Sub.upd (by simp [*]) ?_)) ?_; first | (simp [*]; done) | (simp only []; (repeat' (first | split | rfl | omega | (simp_all; done))); done) | (simp [*]; (repeat' (first | split | omega | (rw [Bool.eq_iff_iff]; simp; omega))); done) | (simp [*])))
  rw [if_neg (fun h => h q2)] at hR
  have hk0 : 0 ≤ ar op := by omega
  have hkl : ((kids.length : Nat) : Int) = ar op := q2
  cases q3 : kids.any fun k => decide (k < 0 ∨ (i : Int) ≤ k)
  case true =>
    rw [q3, if_pos rfl] at hR
    subst hR
    have hf : ∀ (h : Hp) (b : Nat) (ob : Ob), h b = some ob → ob.s = 1 → ob.n = 1 → ob.f 0 0 = I (i : Int) → PureAt Tryd.prog h 106 [encL 1 cI kids, .v (.func (.func 108) #[] #[.pointer (some ⟨b, 0, none⟩)])] (B true) := fun h b ob a1 a2 a3 a4 => by rw [← q3]; exact hfar h b ob a1 a2 a3 a4 kids
    (repeat' (first | simp [go_sem, X_region, *] | simp (disch := omega) only [om, *] | ((first | refine XC_split ?_ ?_ | refine XG_true ?_ ?_ | refine XG_false ?_ ?_ | refine XRg_true ?_ ?_ | refine XRg_false ?_ ?_) <;> intro hc <;> (try simp only [bl] at hc) <;> (try (exfalso; omega))) | refine XD_w [] [] [] (fun _ => none) mixed (by decide +kernel) (sub_none _) ?_ | refine Pure.call (hk) ?_ | refine ⟨_, Pure.at (hk), ?_⟩ | refine ⟨_, hk, ?_⟩ | refine PureAt.call (hk) ?_ | fail))
    intro b2 hb2 b3 n1 n2 hb3
    (repeat' (first | simp [go_sem, X_region, *] | simp (disch := omega) only [om, *] | ((first | refine XC_split ?_ ?_ | refine XG_true ?_ ?_ | refine XG_false ?_ ?_ | refine XRg_true ?_ ?_ | refine XRg_false ?_ ?_) <;> intro hc <;> (try simp only [bl] at hc) <;> (try (exfalso; omega))) | refine XD_w [] [] [] (fun _ => none) mixed (by decide +kernel) (sub_none _) ?_ | refine Pure.call (hk) ?_ | refine ⟨_, Pure.at (hk), ?_⟩ | refine ⟨_, hk, ?_⟩ | refine PureAt.call (hk) ?_ | refine Pure.call (hf _ b3 _ (upd_same _ _ _) rfl rfl rfl) ?_ | refine ⟨_, Pure.at (hf _ b3 _ (upd_same _ _ _) rfl rfl rfl), ?_⟩ | refine ⟨_, hf _ b3 _ (upd_same _ _ _) rfl rfl rfl, ?_⟩ | refine PureAt.call (hf _ b3 _ (upd_same _ _ _) rfl rfl rfl) ?_ | fail))
    all_goals exact Wk.fin (by repeat (first | exact Sub.refl _ | refine Sub.upd (by simp [*]) ?_)) rfl
  rw [q3, if_neg (by simp)] at hR
  have hf : ∀ (h : Hp) (b : Nat) (ob : Ob), h b = some ob → ob.s = 1 → ob.n = 1 → ob.f 0 0 = I (i : Int) → PureAt Tryd.prog h 106 [encL 1 cI kids, .v (.func (.func 108) #[] #[.pointer (some ⟨b, 0, none⟩)])] (B false) := fun h b ob a1 a2 a3 a4 => by rw [← q3]; exact hfar h b ob a1 a2 a3 a4 kids
  clear hfar q3
  have e1 : ∀ k : Int, (I k = I R) = (k = R) := fun k => by simp
  rcases (show op = 0 ∨ op = 17 ∨ (op ≠ 0 ∧ op ≠ 17) by omega) with rfl | rfl | ⟨p1, p2⟩
  · have hnb : namedB 0 = false := by decide
    rw [hnb] at hnm hR
    clear hnb
    simp only [ne_eq, not_true, false_and, true_and, if_true, false_or, Bool.false_eq_true] at hR
    (repeat' (first | simp [go_sem, X_region, *] | simp (disch := omega) only [om, *] | ((first | refine XC_split ?_ ?_ | refine XG_true ?_ ?_ | refine XG_false ?_ ?_ | refine XRg_true ?_ ?_ | refine XRg_false ?_ ?_) <;> intro hc <;> (try simp only [bl] at hc) <;> (try (exfalso; omega))) | refine XD_w [] [] [] (fun _ => none) mixed (by decide +kernel) (sub_none _) ?_ | refine Pure.call (hk) ?_ | refine ⟨_, Pure.at (hk), ?_⟩ | refine ⟨_, hk, ?_⟩ | refine PureAt.call (hk) ?_ | fail))
    intro b2 hb2 b3 n1 n2 hb3
    (repeat' (first | simp [go_sem, X_region, *] | simp (disch := omega) only [om, *] | ((first | refine XC_split ?_ ?_ | refine XG_true ?_ ?_ | refine XG_false ?_ ?_ | refine XRg_true ?_ ?_ | refine XRg_false ?_ ?_) <;> intro hc <;> (try simp only [bl] at hc) <;> (try (exfalso; omega))) | refine XD_w [] [] [] (fun _ => none) mixed (by decide +kernel) (sub_none _) ?_ | refine Pure.call (hk) ?_ | refine ⟨_, Pure.at (hk), ?_⟩ | refine ⟨_, hk, ?_⟩ | refine PureAt.call (hk) ?_ | refine Pure.call (hf _ b3 _ (upd_same _ _ _) rfl rfl rfl) ?_ | refine ⟨_, Pure.at (hf _ b3 _ (upd_same _ _ _) rfl rfl rfl), ?_⟩ | refine ⟨_, hf _ b3 _ (upd_same _ _ _) rfl rfl rfl, ?_⟩ | refine PureAt.call (hf _ b3 _ (upd_same _ _ _) rfl rfl rfl) ?_ | refine Pure.call (hnm) ?_ | refine ⟨_, Pure.at (hnm), ?_⟩ | refine ⟨_, hnm, ?_⟩ | refine PureAt.call (hnm) ?_ | refine Pure.call (hck) ?_ | refine ⟨_, Pure.at (hck), ?_⟩ | refine ⟨_, hck, ?_⟩ | refine PureAt.call (hck) ?_ | fail))
    all_goals (refine Wk.fin (by repeat (first | exact Sub.refl _ | refine Sub.upd (by simp [*]) ?_)) ?_; rw [e1, ← hR]; simp [*])
  · have hnb : namedB 17 = false := by decide
    rw [hnb] at hnm hR
    clear hnb hck
    simp only [ne_eq, not_true, false_and, and_false, true_and, if_false, false_or, Bool.false_eq_true, Int.reduceEq] at hR
    (repeat' (first | simp [go_sem, X_region, *] | simp (disch := omega) only [om, *] | ((first | refine XC_split ?_ ?_ | refine XG_true ?_ ?_ | refine XG_false ?_ ?_ | refine XRg_true ?_ ?_ | refine XRg_false ?_ ?_) <;> intro hc <;> (try simp only [bl] at hc) <;> (try (exfalso; omega))) | refine XD_w [] [] [] (fun _ => none) mixed (by decide +kernel) (sub_none _) ?_ | refine Pure.call (hk) ?_ | refine ⟨_, Pure.at (hk), ?_⟩ | refine ⟨_, hk, ?_⟩ | refine PureAt.call (hk) ?_ | fail))
    intro b2 hb2 b3 n1 n2 hb3
    (repeat' (first | simp [go_sem, X_region, *] | simp (disch := omega) only [om, *] | ((first | refine XC_split ?_ ?_ | refine XG_true ?_ ?_ | refine XG_false ?_ ?_ | refine XRg_true ?_ ?_ | refine XRg_false ?_ ?_) <;> intro hc <;> (try simp only [bl] at hc) <;> (try (exfalso; omega))) | refine XD_w [] [] [] (fun _ => none) mixed (by decide +kernel) (sub_none _) ?_ | refine Pure.call (hk) ?_ | refine ⟨_, Pure.at (hk), ?_⟩ | refine ⟨_, hk, ?_⟩ | refine PureAt.call (hk) ?_ | refine Pure.call (hf _ b3 _ (upd_same _ _ _) rfl rfl rfl) ?_ | refine ⟨_, Pure.at (hf _ b3 _ (upd_same _ _ _) rfl rfl rfl), ?_⟩ | refine ⟨_, hf _ b3 _ (upd_same _ _ _) rfl rfl rfl, ?_⟩ | refine PureAt.call (hf _ b3 _ (upd_same _ _ _) rfl rfl rfl) ?_ | refine Pure.call (hnm) ?_ | refine ⟨_, Pure.at (hnm), ?_⟩ | refine ⟨_, hnm, ?_⟩ | refine PureAt.call (hnm) ?_ | fail))
    all_goals (refine Wk.fin (by repeat (first | exact Sub.refl _ | refine Sub.upd (by simp [*]) ?_)) ?_; rw [e1, ← hR]; first | (simp [*]; done) | (repeat' split <;> first | rfl | omega))
  · simp only [ne_eq, p1, p2, not_false_eq_true, true_and, false_and, if_false] at hR
    cases hnb : namedB op
    · rw [hnb] at hnm hR
      clear hnb hn hck
      simp only [true_and, Bool.false_eq_true, false_and, if_false] at hR
      (repeat' (first | simp [go_sem, X_region, *] | simp (disch := omega) only [om, *] | ((first | refine XC_split ?_ ?_ | refine XG_true ?_ ?_ | refine XG_false ?_ ?_ | refine XRg_true ?_ ?_ | refine XRg_false ?_ ?_) <;> intro hc <;> (try simp only [bl] at hc) <;> (try (exfalso; omega))) | refine XD_w [] [] [] (fun _ => none) mixed (by decide +kernel) (sub_none _) ?_ | refine Pure.call (hk) ?_ | refine ⟨_, Pure.at (hk), ?_⟩ | refine ⟨_, hk, ?_⟩ | refine PureAt.call (hk) ?_ | fail))
      intro b2 hb2 b3 n1 n2 hb3
      (repeat' (first | simp [go_sem, X_region, *] | simp (disch := omega) only [om, *] | ((first | refine XC_split ?_ ?_ | refine XG_true ?_ ?_ | refine XG_false ?_ ?_ | refine XRg_true ?_ ?_ | refine XRg_false ?_ ?_) <;> intro hc <;> (try simp only [bl] at hc) <;> (try (exfalso; omega))) | refine XD_w [] [] [] (fun _ => none) mixed (by decide +kernel) (sub_none _) ?_ | refine Pure.call (hk) ?_ | refine ⟨_, Pure.at (hk), ?_⟩ | refine ⟨_, hk, ?_⟩ | refine PureAt.call (hk) ?_ | refine Pure.call (hf _ b3 _ (upd_same _ _ _) rfl rfl rfl) ?_ | refine ⟨_, Pure.at (hf _ b3 _ (upd_same _ _ _) rfl rfl rfl), ?_⟩ | refine ⟨_, hf _ b3 _ (upd_same _ _ _) rfl rfl rfl, ?_⟩ | refine PureAt.call (hf _ b3 _ (upd_same _ _ _) rfl rfl rfl) ?_ | refine Pure.call (hnm) ?_ | refine ⟨_, Pure.at (hnm), ?_⟩ | refine ⟨_, hnm, ?_⟩ | refine PureAt.call (hnm) ?_ | fail))
      all_goals (refine Wk.fin (by repeat (first | exact Sub.refl _ | refine Sub.upd (by simp [*]) ?_)) ?_; rw [e1, ← hR]; first | (simp [*]; done) | (repeat' split <;> first | rfl | omega))
    · rw [hnb] at hnm hR
      have hn := hn hnb
      clear hnb hck
      generalize nameB nm = nb at *
      simp only [true_and, Bool.true_eq_false, false_and, or_false] at hR
      cases nb
      · (repeat' (first | simp [go_sem, X_region, *] | simp (disch := omega) only [om, *] | ((first | refine XC_split ?_ ?_ | refine XG_true ?_ ?_ | refine XG_false ?_ ?_ | refine XRg_true ?_ ?_ | refine XRg_false ?_ ?_) <;> intro hc <;> (try simp only [bl] at hc) <;> (try (exfalso; omega))) | refine XD_w [] [] [] (fun _ => none) mixed (by decide +kernel) (sub_none _) ?_ | refine Pure.call (hk) ?_ | refine ⟨_, Pure.at (hk), ?_⟩ | refine ⟨_, hk, ?_⟩ | refine PureAt.call (hk) ?_ | fail))
        intro b2 hb2 b3 n1 n2 hb3
        (repeat' (first | simp [go_sem, X_region, *] | simp (disch := omega) only [om, *] | ((first | refine XC_split ?_ ?_ | refine XG_true ?_ ?_ | refine XG_false ?_ ?_ | refine XRg_true ?_ ?_ | refine XRg_false ?_ ?_) <;> intro hc <;> (try simp only [bl] at hc) <;> (try (exfalso; omega))) | refine XD_w [] [] [] (fun _ => none) mixed (by decide +kernel) (sub_none _) ?_ | refine Pure.call (hk) ?_ | refine ⟨_, Pure.at (hk), ?_⟩ | refine ⟨_, hk, ?_⟩ | refine PureAt.call (hk) ?_ | refine Pure.call (hf _ b3 _ (upd_same _ _ _) rfl rfl rfl) ?_ | refine ⟨_, Pure.at (hf _ b3 _ (upd_same _ _ _) rfl rfl rfl), ?_⟩ | refine ⟨_, hf _ b3 _ (upd_same _ _ _) rfl rfl rfl, ?_⟩ | refine PureAt.call (hf _ b3 _ (upd_same _ _ _) rfl rfl rfl) ?_ | refine Pure.call (hnm) ?_ | refine ⟨_, Pure.at (hnm), ?_⟩ | refine ⟨_, hnm, ?_⟩ | refine PureAt.call (hnm) ?_ | refine Pure.call (hn) ?_ | refine ⟨_, Pure.at (hn), ?_⟩ | refine ⟨_, hn, ?_⟩ | refine PureAt.call (hn) ?_ | fail))
        all_goals (refine Wk.fin (by repeat (first | exact Sub.refl _ | refine Sub.upd (by simp [*]) ?_)) ?_; rw [e1, ← hR]; first | (simp [*]; done) | (repeat' split <;> first | rfl | omega))
      · (repeat' (first | simp [go_sem, X_region, *] | simp (disch := omega) only [om, *] | ((first | refine XC_split ?_ ?_ | refine XG_true ?_ ?_ | refine XG_false ?_ ?_ | refine XRg_true ?_ ?_ | refine XRg_false ?_ ?_) <;> intro hc <;> (try simp only [bl] at hc) <;> (try (exfalso; omega))) | refine XD_w [] [] [] (fun _ => none) mixed (by decide +kernel) (sub_none _) ?_ | refine Pure.call (hk) ?_ | refine ⟨_, Pure.at (hk), ?_⟩ | refine ⟨_, hk, ?_⟩ | refine PureAt.call (hk) ?_ | fail))
        intro b2 hb2 b3 n1 n2 hb3
        (repeat' (first | simp [go_sem, X_region, *] | simp (disch := omega) only [om, *] | ((first | refine XC_split ?_ ?_ | refine XG_true ?_ ?_ | refine XG_false ?_ ?_ | refine XRg_true ?_ ?_ | refine XRg_false ?_ ?_) <;> intro hc <;> (try simp only [bl] at hc) <;> (try (exfalso; omega))) | refine XD_w [] [] [] (fun _ => none) mixed (by decide +kernel) (sub_none _) ?_ | refine Pure.call (hk) ?_ | refine ⟨_, Pure.at (hk), ?_⟩ | refine ⟨_, hk, ?_⟩ | refine PureAt.call (hk) ?_ | refine Pure.call (hf _ b3 _ (upd_same _ _ _) rfl rfl rfl) ?_ | refine ⟨_, Pure.at (hf _ b3 _ (upd_same _ _ _) rfl rfl rfl), ?_⟩ | refine ⟨_, hf _ b3 _ (upd_same _ _ _) rfl rfl rfl, ?_⟩ | refine PureAt.call (hf _ b3 _ (upd_same _ _ _) rfl rfl rfl) ?_ | refine Pure.call (hnm) ?_ | refine ⟨_, Pure.at (hnm), ?_⟩ | refine ⟨_, hnm, ?_⟩ | refine PureAt.call (hnm) ?_ | refine Pure.call (hn) ?_ | refine ⟨_, Pure.at (hn), ?_⟩ | refine ⟨_, hn, ?_⟩ | refine PureAt.call (hn) ?_ | fail))
        all_goals (refine Wk.fin (by repeat (first | exact Sub.refl _ | refine Sub.upd (by simp [*]) ?_)) ?_; rw [e1, ← hR]; first | (simp [*]; done) | (repeat' split <;> first | rfl | omega))
end Go.Proofs.YtmalhikcdideoaaDoor

set_option linter.unusedVariables false
set_option linter.unusedSimpArgs false
namespace Go.Proofs.YtmalhikcdideoaaDoor
open Go Sl
attribute [local irreducible] XRange LpQ XR XRo XRg XRQ putQ XFv XL XW2 wQ putW X XO XOp XH XHo XW SeqQ BlkQ XOQ XHQ NrmQ XC XM XG XHM XHG XD CallK
open Go.RowKit
set_option maxHeartbeats 4000000 in
theorem nodeErr_ok (nameB : ByteArray → Bool) (x : Nd) (hn : namedB x.op = true → Pure Tryd.prog 18 [S x.nm] (B (nameB x.nm))) (i : Nat) :
    Pure Tryd.prog 60 [aggL (cNd x), I i] (I (oneE nameB x i)) := by
  generalize hR : oneE nameB x i = R
  unfold oneE at hR
  rcases x with ⟨op, kids, kd, n, nm⟩
  simp only [cNd] at *
  have hk := arity_ok op
  change Pure Tryd.prog 40 [I op] (I (ar op)) at hk
  have hck := checkV_ok ⟨kd, n⟩
  simp only [encV] at hck
  intro h; refine callK_body Tryd.func60 rfl (by rw [nt60]; simp) ?_; rw [nt60, rs60]
  by_cases q1 : ar op < 0
  · rw [if_pos q1] at hR
    subst hR
    ((repeat' (first | simp [go_sem, X_region, *] | simp (disch := omega) only [om, *] | ((first | refine XC_split ?_ ?_ | refine XG_true ?_ ?_ | refine XG_false ?_ ?_ | refine XRg_true ?_ ?_ | refine XRg_false ?_ ?_) <;> intro hc <;> (try simp only [bl] at hc) <;> (try (exfalso; omega))) | refine XD_w [] [] [] (fun _ => none) mixed (by decide +kernel) (sub_none _) ?_ | refine Pure.call (hk) ?_ | refine ⟨_, Pure.at (hk), ?_⟩ | refine ⟨_, hk, ?_⟩ | refine PureAt.call (hk) ?_ | (intro bk hbk; (try simp only [go_sem] at hbk)))); all_goals (refine Wk.fin (by repeat (first | exact Sub.refl _ | refine Sub.upd (by simp [*]) ?_)) ?_; first | (simp [*]; done) | (simp only []; (repeat' (first | split | rfl | omega | (simp_all; done))); done) | (simp [*]; (repeat' (first | split | omega | (rw [Bool.eq_iff_iff]; simp; omega))); done) | (simp [*])))
  rw [if_neg q1] at hR
  by_cases q2 : (kids.length : Int) = ar op
  case neg =>
    rw [if_pos q2] at hR
    subst hR
    ((repeat' (first | simp [go_sem, X_region, *] | simp (disch := omega) only [om, *] | ((first | refine XC_split ?_ ?_ | refine XG_true ?_ ?_ | refine XG_false ?_ ?_ | refine XRg_true ?_ ?_ | refine XRg_false ?_ ?_) <;> intro hc <;> (try simp only [bl] at hc) <;> (try (exfalso; omega))) | refine XD_w [] [] [] (fun _ => none) mixed (by decide +kernel) (sub_none _) ?_ | refine Pure.call (hk) ?_ | refine ⟨_, Pure.at (hk), ?_⟩ | refine ⟨_, hk, ?_⟩ | refine PureAt.call (hk) ?_ | (intro bk hbk; (try simp only [go_sem] at hbk)))); all_goals (refine Wk.fin (by repeat (first | exact Sub.refl _ | refine Sub.upd (by simp [*]) ?_)) ?_; first | (simp [*]; done) | (simp only []; (repeat' (first | split | rfl | omega | (simp_all; done))); done) | (simp [*]; (repeat' (first | split | omega | (rw [Bool.eq_iff_iff]; simp; omega))); done) | (simp [*])))
  rw [if_neg (fun h => h q2)] at hR
  have hk0 : 0 ≤ ar op := by omega
  have hkl : ((kids.length : Nat) : Int) = ar op := q2
  have hk3 : kids.length ≤ 3 := by have := ar_le op; omega
  (repeat' (first | simp [go_sem, X_region, *] | simp (disch := omega) only [om, *] | ((first | refine XC_split ?_ ?_ | refine XG_true ?_ ?_ | refine XG_false ?_ ?_ | refine XRg_true ?_ ?_ | refine XRg_false ?_ ?_) <;> intro hc <;> (try simp only [bl] at hc) <;> (try (exfalso; omega))) | refine XD_w [] [] [] (fun _ => none) mixed (by decide +kernel) (sub_none _) ?_ | refine Pure.call (hk) ?_ | refine ⟨_, Pure.at (hk), ?_⟩ | refine ⟨_, hk, ?_⟩ | refine PureAt.call (hk) ?_ | fail))
  intro b hb
  (repeat' (first | simp [go_sem, X_region, *] | simp (disch := omega) only [om, *] | ((first | refine XC_split ?_ ?_ | refine XG_true ?_ ?_ | refine XG_false ?_ ?_ | refine XRg_true ?_ ?_ | refine XRg_false ?_ ?_) <;> intro hc <;> (try simp only [bl] at hc) <;> (try (exfalso; omega))) | refine XD_w [] [] [] (fun _ => none) mixed (by decide +kernel) (sub_none _) ?_ | refine Pure.call (hk) ?_ | refine ⟨_, Pure.at (hk), ?_⟩ | refine ⟨_, hk, ?_⟩ | refine PureAt.call (hk) ?_ | fail))
  obtain ⟨Q, hQ⟩ : ∃ Q, (kids.any fun k => decide (k < 0 ∨ (i : Int) ≤ k)) = Q := ⟨_, rfl⟩
  rw [hQ] at hR
  refine X_lpH (fun i => i = 4 ∨ i = 6 ∨ (22 ≤ i ∧ i ≤ 33)) (fun hE n T g => ∃ (j : Nat) (rk : List Int), n = rk.length ∧ j ≤ kids.length ∧ kids.drop j = rk ∧ (rk.any fun k => decide (k < 0 ∨ (i : Int) ≤ k)) = Q ∧ T 22 = I j ∧ g = hE) kids.length
    ⟨0, kids, rfl, by omega, rfl, hQ, by simp [go_sem], rfl⟩ ?_
  clear hQ
  rintro hE hEq J hJ n2 T g hfr ⟨j, rk, rfl, hj, hdk, hQ, t22, rfl⟩
  have kb : g b = some ⟨39, 5, 1, fun x j => [I op, AV.sl 1 kids.length (cellsL cI kids), I kd, I n, S nm][j]?.getD AV.any⟩ := by rw [← hEq]; exact upd_same _ _ _
  have hsub : Sub h g := by rw [← hEq]; exact Sub.upd hb (Sub.refl _)
  clear hEq hb
  have e1 : ∀ k : Int, (I k = I R) = (k = R) := fun k => by simp
  rcases rk with _ | ⟨y, rk⟩
  · have hltk := drop_nil hdk
    rw [List.any_nil] at hQ
    subst hQ
    rw [if_neg (by simp)] at hR
    rcases (show op = 0 ∨ op = 17 ∨ (op ≠ 0 ∧ op ≠ 17) by omega) with rfl | rfl | ⟨p1, p2⟩
    · have hnb : namedB 0 = false := by decide
      rw [hnb] at hR
      clear hnb
      simp only [ne_eq, not_true, false_and, true_and, if_true, false_or, Bool.false_eq_true] at hR
      (repeat' (first | simp [go_sem, X_region, *] | simp (disch := omega) only [om, *] | ((first | refine XC_split ?_ ?_ | refine XG_true ?_ ?_ | refine XG_false ?_ ?_ | refine XRg_true ?_ ?_ | refine XRg_false ?_ ?_) <;> intro hc <;> (try simp only [bl] at hc) <;> (try (exfalso; omega))) | refine XD_w [] [] [] (fun _ => none) mixed (by decide +kernel) (sub_none _) ?_ | refine Pure.call (hck) ?_ | refine ⟨_, Pure.at (hck), ?_⟩ | refine ⟨_, hck, ?_⟩ | refine PureAt.call (hck) ?_ | fail))
      all_goals (refine Wk.fin hsub ?_; rw [e1, ← hR]; first | (simp [*]; done) | (repeat' split <;> first | rfl | omega | (exfalso; simp_all; done) | (exfalso; simp_all; omega)))
    · have hnb : namedB 17 = false := by decide
      rw [hnb] at hR
      clear hnb hck
      simp only [ne_eq, not_true, false_and, and_false, true_and, if_false, false_or, Bool.false_eq_true, Int.reduceEq] at hR
      (repeat' (first | simp [go_sem, X_region, *] | simp (disch := omega) only [om, *] | ((first | refine XC_split ?_ ?_ | refine XG_true ?_ ?_ | refine XG_false ?_ ?_ | refine XRg_true ?_ ?_ | refine XRg_false ?_ ?_) <;> intro hc <;> (try simp only [bl] at hc) <;> (try (exfalso; omega))) | refine XD_w [] [] [] (fun _ => none) mixed (by decide +kernel) (sub_none _) ?_ | fail))
      all_goals (refine Wk.fin hsub ?_; rw [e1, ← hR]; first | (simp [*]; done) | (repeat' split <;> first | rfl | omega | (exfalso; simp_all; done) | (exfalso; simp_all; omega)))
    · simp only [ne_eq, p1, p2, not_false_eq_true, true_and, false_and, if_false] at hR
      cases hnb : namedB op
      · rw [hnb] at hR
        have p3 : ¬ op = 1 ∧ ¬ op = 2 ∧ ¬ op = 3 ∧ ¬ op = 16 := by simp [namedB] at hnb; omega
        obtain ⟨p3, p4, p5, p6⟩ := p3
        clear hnb hn hck
        simp only [true_and, Bool.false_eq_true, false_and, if_false] at hR
        (repeat' (first | simp [go_sem, X_region, *] | simp (disch := omega) only [om, *] | ((first | refine XC_split ?_ ?_ | refine XG_true ?_ ?_ | refine XG_false ?_ ?_ | refine XRg_true ?_ ?_ | refine XRg_false ?_ ?_) <;> intro hc <;> (try simp only [bl] at hc) <;> (try (exfalso; omega))) | refine XD_w [] [] [] (fun _ => none) mixed (by decide +kernel) (sub_none _) ?_ | fail))
        all_goals (refine Wk.fin hsub ?_; rw [e1, ← hR]; first | (simp [*]; done) | (repeat' split <;> first | rfl | omega | (exfalso; simp_all; done) | (exfalso; simp_all; omega)))
      · rw [hnb] at hR
        replace hn := hn hnb
        have p3 : op = 1 ∨ op = 2 ∨ op = 3 ∨ op = 16 := by simp [namedB] at hnb; omega
        clear hnb hck
        generalize nameB nm = nb at *
        simp only [true_and, Bool.true_eq_false, false_and, or_false] at hR
        clear p1 p2
        rcases p3 with rfl | rfl | rfl | rfl
        · cases nb
          · (repeat' (first | simp [go_sem, X_region, *] | simp (disch := omega) only [om, *] | ((first | refine XC_split ?_ ?_ | refine XG_true ?_ ?_ | refine XG_false ?_ ?_ | refine XRg_true ?_ ?_ | refine XRg_false ?_ ?_) <;> intro hc <;> (try simp only [bl] at hc) <;> (try (exfalso; omega))) | refine XD_w [] [] [] (fun _ => none) mixed (by decide +kernel) (sub_none _) ?_ | refine Pure.call (hn) ?_ | refine ⟨_, Pure.at (hn), ?_⟩ | refine ⟨_, hn, ?_⟩ | refine PureAt.call (hn) ?_ | fail))
            all_goals (refine Wk.fin hsub ?_; rw [e1, ← hR]; first | (simp [*]; done) | (repeat' split <;> first | rfl | omega | (exfalso; simp_all; done) | (exfalso; simp_all; omega)))
          · (repeat' (first | simp [go_sem, X_region, *] | simp (disch := omega) only [om, *] | ((first | refine XC_split ?_ ?_ | refine XG_true ?_ ?_ | refine XG_false ?_ ?_ | refine XRg_true ?_ ?_ | refine XRg_false ?_ ?_) <;> intro hc <;> (try simp only [bl] at hc) <;> (try (exfalso; omega))) | refine XD_w [] [] [] (fun _ => none) mixed (by decide +kernel) (sub_none _) ?_ | refine Pure.call (hn) ?_ | refine ⟨_, Pure.at (hn), ?_⟩ | refine ⟨_, hn, ?_⟩ | refine PureAt.call (hn) ?_ | fail))
            all_goals (refine Wk.fin hsub ?_; rw [e1, ← hR]; first | (simp [*]; done) | (repeat' split <;> first | rfl | omega | (exfalso; simp_all; done) | (exfalso; simp_all; omega)))
        · cases nb
          · (repeat' (first | simp [go_sem, X_region, *] | simp (disch := omega) only [om, *] | ((first | refine XC_split ?_ ?_ | refine XG_true ?_ ?_ | refine XG_false ?_ ?_ | refine XRg_true ?_ ?_ | refine XRg_false ?_ ?_) <;> intro hc <;> (try simp only [bl] at hc) <;> (try (exfalso; omega))) | refine XD_w [] [] [] (fun _ => none) mixed (by decide +kernel) (sub_none _) ?_ | refine Pure.call (hn) ?_ | refine ⟨_, Pure.at (hn), ?_⟩ | refine ⟨_, hn, ?_⟩ | refine PureAt.call (hn) ?_ | fail))
            all_goals (refine Wk.fin hsub ?_; rw [e1, ← hR]; first | (simp [*]; done) | (repeat' split <;> first | rfl | omega | (exfalso; simp_all; done) | (exfalso; simp_all; omega)))
          · (repeat' (first | simp [go_sem, X_region, *] | simp (disch := omega) only [om, *] | ((first | refine XC_split ?_ ?_ | refine XG_true ?_ ?_ | refine XG_false ?_ ?_ | refine XRg_true ?_ ?_ | refine XRg_false ?_ ?_) <;> intro hc <;> (try simp only [bl] at hc) <;> (try (exfalso; omega))) | refine XD_w [] [] [] (fun _ => none) mixed (by decide +kernel) (sub_none _) ?_ | refine Pure.call (hn) ?_ | refine ⟨_, Pure.at (hn), ?_⟩ | refine ⟨_, hn, ?_⟩ | refine PureAt.call (hn) ?_ | fail))
            all_goals (refine Wk.fin hsub ?_; rw [e1, ← hR]; first | (simp [*]; done) | (repeat' split <;> first | rfl | omega | (exfalso; simp_all; done) | (exfalso; simp_all; omega)))
        · cases nb
          · (repeat' (first | simp [go_sem, X_region, *] | simp (disch := omega) only [om, *] | ((first | refine XC_split ?_ ?_ | refine XG_true ?_ ?_ | refine XG_false ?_ ?_ | refine XRg_true ?_ ?_ | refine XRg_false ?_ ?_) <;> intro hc <;> (try simp only [bl] at hc) <;> (try (exfalso; omega))) | refine XD_w [] [] [] (fun _ => none) mixed (by decide +kernel) (sub_none _) ?_ | refine Pure.call (hn) ?_ | refine ⟨_, Pure.at (hn), ?_⟩ | refine ⟨_, hn, ?_⟩ | refine PureAt.call (hn) ?_ | fail))
            all_goals (refine Wk.fin hsub ?_; rw [e1, ← hR]; first | (simp [*]; done) | (repeat' split <;> first | rfl | omega | (exfalso; simp_all; done) | (exfalso; simp_all; omega)))
          · (repeat' (first | simp [go_sem, X_region, *] | simp (disch := omega) only [om, *] | ((first | refine XC_split ?_ ?_ | refine XG_true ?_ ?_ | refine XG_false ?_ ?_ | refine XRg_true ?_ ?_ | refine XRg_false ?_ ?_) <;> intro hc <;> (try simp only [bl] at hc) <;> (try (exfalso; omega))) | refine XD_w [] [] [] (fun _ => none) mixed (by decide +kernel) (sub_none _) ?_ | refine Pure.call (hn) ?_ | refine ⟨_, Pure.at (hn), ?_⟩ | refine ⟨_, hn, ?_⟩ | refine PureAt.call (hn) ?_ | fail))
            all_goals (refine Wk.fin hsub ?_; rw [e1, ← hR]; first | (simp [*]; done) | (repeat' split <;> first | rfl | omega | (exfalso; simp_all; done) | (exfalso; simp_all; omega)))
        · cases nb
          · (repeat' (first | simp [go_sem, X_region, *] | simp (disch := omega) only [om, *] | ((first | refine XC_split ?_ ?_ | refine XG_true ?_ ?_ | refine XG_false ?_ ?_ | refine XRg_true ?_ ?_ | refine XRg_false ?_ ?_) <;> intro hc <;> (try simp only [bl] at hc) <;> (try (exfalso; omega))) | refine XD_w [] [] [] (fun _ => none) mixed (by decide +kernel) (sub_none _) ?_ | refine Pure.call (hn) ?_ | refine ⟨_, Pure.at (hn), ?_⟩ | refine ⟨_, hn, ?_⟩ | refine PureAt.call (hn) ?_ | fail))
            all_goals (refine Wk.fin hsub ?_; rw [e1, ← hR]; first | (simp [*]; done) | (repeat' split <;> first | rfl | omega | (exfalso; simp_all; done) | (exfalso; simp_all; omega)))
          · (repeat' (first | simp [go_sem, X_region, *] | simp (disch := omega) only [om, *] | ((first | refine XC_split ?_ ?_ | refine XG_true ?_ ?_ | refine XG_false ?_ ?_ | refine XRg_true ?_ ?_ | refine XRg_false ?_ ?_) <;> intro hc <;> (try simp only [bl] at hc) <;> (try (exfalso; omega))) | refine XD_w [] [] [] (fun _ => none) mixed (by decide +kernel) (sub_none _) ?_ | refine Pure.call (hn) ?_ | refine ⟨_, Pure.at (hn), ?_⟩ | refine ⟨_, hn, ?_⟩ | refine PureAt.call (hn) ?_ | fail))
            all_goals (refine Wk.fin hsub ?_; rw [e1, ← hR]; first | (simp [*]; done) | (repeat' split <;> first | rfl | omega | (exfalso; simp_all; done) | (exfalso; simp_all; omega)))
  · obtain ⟨hltk, hxk, hdk2⟩ := drop_cons hdk
    rw [List.any_cons] at hQ
    by_cases q4 : y < 0 ∨ (i : Int) ≤ y
    · rw [decide_eq_true q4, Bool.true_or] at hQ
      subst hQ
      rw [if_pos rfl] at hR
      subst hR
      (repeat' (first | simp [go_sem, X_region, *] | simp (disch := omega) only [om, *] | ((first | refine XC_split ?_ ?_ | refine XG_true ?_ ?_ | refine XG_false ?_ ?_ | refine XRg_true ?_ ?_ | refine XRg_false ?_ ?_) <;> intro hc <;> (try simp only [bl] at hc) <;> (try (exfalso; omega))) | refine XD_w [] [] [] (fun _ => none) mixed (by decide +kernel) (sub_none _) ?_ | fail))
      all_goals exact Wk.fin hsub rfl
    · rw [decide_eq_false q4, Bool.false_or] at hQ
      (repeat' (first | simp [go_sem, X_region, *] | simp (disch := omega) only [om, *] | ((first | refine XC_split ?_ ?_ | refine XG_true ?_ ?_ | refine XG_false ?_ ?_ | refine XRg_true ?_ ?_ | refine XRg_false ?_ ?_) <;> intro hc <;> (try simp only [bl] at hc) <;> (try (exfalso; omega))) | refine XD_w [] [] [] (fun _ => none) mixed (by decide +kernel) (sub_none _) ?_ | fail))
      all_goals exact ⟨_, Nat.lt_succ_self _, hJ.out _ _ _ ⟨(by (repeat (refine fr_upd (by decide) ?_)); exact hfr), j + 1, rk, rfl, by omega, hdk2, hQ, by simp [go_sem, *], rfl⟩⟩
end Go.Proofs.YtmalhikcdideoaaDoor

set_option linter.unusedVariables false
set_option linter.unusedSimpArgs false
namespace Go.Proofs.YtmalhikcdideoaaDoor
open Go Sl
attribute [local irreducible] XRange LpQ XR XRo XRg XRQ putQ XFv XL XW2 wQ putW X XO XOp XH XHo XW SeqQ BlkQ XOQ XHQ NrmQ XC XM XG XHM XHG XD CallK
open Go.RowKit
def upF : List (Int × Bool) → List Int → Option (List (Int × Bool))
  | m, [] => some m
  | m, k :: r => if (mget m k).getD false = true then none else upF (mset m k true) r
def nodesG (oneE : Nd → Nat → Int) : List Nd → Nat → List (Int × Bool) → Int × List (Int × Bool)
  | [], _, m => (0, m)
  | x :: r, i, m => if oneE x i ≠ 0 then (oneE x i, []) else match upF m x.kids with
    | none => (3, [])
    | some m' => nodesG oneE r (i + 1) m'
def treeE (oneE : Nd → Nat → Int) (e : List Nd) : Int :=
  if 100 < e.length then 2 else if e.length = 0 then 4
  else if (nodesG oneE e 0 []).1 ≠ 0 then (nodesG oneE e 0 []).1
  else if (nodesG oneE e 0 []).2.length ≠ e.length - 1 then 3 else 0
structure MapA (h : Hp) (b : Nat) (m : List (Int × Bool)) : Prop where
  out : ∃ o, h b = some o ∧ IsMap I B m o
set_option maxHeartbeats 4000000 in
theorem treeErr_ok (oneE : Nd → Nat → Int) (e : List Nd) (h1 : ∀ (i : Nat) (x : Nd), e[i]? = some x → e.length ≤ 100 → Pure Tryd.prog 60 [aggL (cNd x), I i] (I (oneE x i)))
    (h2 : ∀ (i : Nat) (x : Nd), e[i]? = some x → oneE x i = 0 → x.kids.length ≤ 3) :
    Pure Tryd.prog 20 [encL 5 cNd e] (I (treeE oneE e)) := by
  have hq : ∀ k k' : Int, keyEq (keyT Tryd.prog 3) (I k) (I k') = some (decide (k = k')) := fun k k' => by rw [kt93]; simp [keyEq]
  have hkt : keyT Tryd.prog 3 ≠ 0 := by rw [kt93]; decide
  generalize hR : treeE oneE e = R
  unfold treeE at hR
  intro h
  by_cases q1 : 100 < e.length
  · rw [if_pos q1] at hR
    subst hR
    refine callK_body Tryd.func20 rfl (by rw [nt20]; simp) ?_; rw [nt20, rs20]
    ((repeat' (first | simp [go_sem, X_region, *] | simp (disch := omega) only [om, *] | ((first | refine XC_split ?_ ?_ | refine XG_true ?_ ?_ | refine XG_false ?_ ?_ | refine XRg_true ?_ ?_ | refine XRg_false ?_ ?_) <;> intro hc <;> (try simp only [bl] at hc) <;> (try (exfalso; omega))) | refine XD_w [] [] [] (fun _ => none) mixed (by decide +kernel) (sub_none _) ?_ | (intro bk hbk; (try simp only [go_sem] at hbk)))); all_goals (refine Wk.fin (by repeat (first | exact Sub.refl _ | refine Sub.upd (by simp [*]) ?_)) ?_; first | (simp [*]; done) | (simp only []; (repeat' (first | split | rfl | omega | (simp_all; done))); done) | (simp [*]; (repeat' (first | split | omega | (rw [Bool.eq_iff_iff]; simp; omega))); done) | (simp [*])))
  rw [if_neg q1] at hR
  by_cases q2 : e.length = 0
  · rw [if_pos q2] at hR
    subst hR
    refine callK_body Tryd.func20 rfl (by rw [nt20]; simp) ?_; rw [nt20, rs20]
    ((repeat' (first | simp [go_sem, X_region, *] | simp (disch := omega) only [om, *] | ((first | refine XC_split ?_ ?_ | refine XG_true ?_ ?_ | refine XG_false ?_ ?_ | refine XRg_true ?_ ?_ | refine XRg_false ?_ ?_) <;> intro hc <;> (try simp only [bl] at hc) <;> (try (exfalso; omega))) | refine XD_w [] [] [] (fun _ => none) mixed (by decide +kernel) (sub_none _) ?_ | (intro bk hbk; (try simp only [go_sem] at hbk)))); all_goals (refine Wk.fin (by repeat (first | exact Sub.refl _ | refine Sub.upd (by simp [*]) ?_)) ?_; first | (simp [*]; done) | (simp only []; (repeat' (first | split | rfl | omega | (simp_all; done))); done) | (simp [*]; (repeat' (first | split | omega | (rw [Bool.eq_iff_iff]; simp; omega))); done) | (simp [*])))
  rw [if_neg q2] at hR
  refine callK_body Tryd.func20 rfl (by rw [nt20]; simp) ?_; rw [nt20, rs20]
  (repeat' (first | simp [go_sem, X_region, *] | simp (disch := omega) only [om, *] | ((first | refine XC_split ?_ ?_ | refine XG_true ?_ ?_ | refine XG_false ?_ ?_ | refine XRg_true ?_ ?_ | refine XRg_false ?_ ?_) <;> intro hc <;> (try simp only [bl] at hc) <;> (try (exfalso; omega))) | refine XD_w [] [] [] (fun _ => none) mixed (by decide +kernel) (sub_none _) ?_ | fail))
  intro b hb
  (repeat' (first | simp [go_sem, X_region, *] | simp (disch := omega) only [om, *] | ((first | refine XC_split ?_ ?_ | refine XG_true ?_ ?_ | refine XG_false ?_ ?_ | refine XRg_true ?_ ?_ | refine XRg_false ?_ ?_) <;> intro hc <;> (try simp only [bl] at hc) <;> (try (exfalso; omega))) | refine XD_w [] [] [] (fun _ => none) mixed (by decide +kernel) (sub_none _) ?_ | fail))
  generalize hN : nodesG oneE e 0 [] = N at hR
  refine X_lpF (fun i => i = 2 ∨ (4 ≤ i ∧ i ≤ 6) ∨ i = 8 ∨ (18 ≤ i ∧ i ≤ 42)) (fun k T g => ∃ (i : Nat) (r : List Nd) (m : List (Int × Bool)), k = r.length ∧ i ≤ e.length ∧ e.drop i = r ∧ nodesG oneE r i m = N ∧ T 18 = I i ∧ Sub h g ∧ h b = none ∧ MapA g b m) _ ⟨0, e, _, rfl, by omega, rfl, hN, by simp [go_sem], Sub.upd hb (Sub.refl _), hb, ⟨_, upd_same _ _ _, IsMap.nil _ _⟩⟩ ?_
  clear hN
  rintro J hJ k T g hfr ⟨i, r, m, rfl, hi, hd, hN, t18, hsub, hb, ⟨o, ho, hm⟩⟩
  rcases r with _ | ⟨x, r⟩
  · have hlt := drop_nil hd
    rw [nodesG] at hN
    subst hN
    rw [if_neg (by simp)] at hR
    obtain ⟨n, hn⟩ : ∃ n, e.length = n + 1 := ⟨e.length - 1, by omega⟩
    rw [hn, Nat.add_sub_cancel] at hR
    have hn1 : ((e.length : Nat) : Int) - 1 = (n : Int) := by omega
    (repeat' (first | simp [go_sem, X_region, *] | simp (disch := omega) only [om, *] | ((first | refine XC_split ?_ ?_ | refine XG_true ?_ ?_ | refine XG_false ?_ ?_ | refine XRg_true ?_ ?_ | refine XRg_false ?_ ?_) <;> intro hc <;> (try simp only [bl] at hc) <;> (try (exfalso; omega))) | refine XD_w [] [] [] (fun _ => none) mixed (by decide +kernel) (sub_none _) ?_ | fail))
    refine X_mapLen hm ho (by simp [go_sem]) und93 ?_
    by_cases q5 : m.length = n
    · rw [if_neg (fun h => h q5)] at hR
      subst hR
      (repeat' (first | simp [go_sem, X_region, *] | simp (disch := omega) only [om, *] | ((first | refine XC_split ?_ ?_ | refine XG_true ?_ ?_ | refine XG_false ?_ ?_ | refine XRg_true ?_ ?_ | refine XRg_false ?_ ?_) <;> intro hc <;> (try simp only [bl] at hc) <;> (try (exfalso; omega))) | refine XD_w [] [] [] (fun _ => none) mixed (by decide +kernel) (sub_none _) ?_ | fail))
      all_goals exact Wk.fin hsub rfl
    · rw [if_pos q5] at hR
      subst hR
      (repeat' (first | simp [go_sem, X_region, *] | simp (disch := omega) only [om, *] | ((first | refine XC_split ?_ ?_ | refine XG_true ?_ ?_ | refine XG_false ?_ ?_ | refine XRg_true ?_ ?_ | refine XRg_false ?_ ?_) <;> intro hc <;> (try simp only [bl] at hc) <;> (try (exfalso; omega))) | refine XD_w [] [] [] (fun _ => none) mixed (by decide +kernel) (sub_none _) ?_ | fail))
      all_goals exact Wk.fin hsub rfl
  · obtain ⟨hlt, hx, hd2⟩ := drop_cons hd
    have hxi : e[i]? = some x := List.getElem?_eq_some_iff.2 ⟨hlt, hx⟩
    have g1 := h1 i x hxi (by omega)
    have g2 := h2 i x hxi
    simp only [cNd] at g1
    rw [nodesG] at hN
    by_cases q3 : oneE x i = 0
    case neg =>
      rw [if_pos q3] at hN
      subst hN
      rw [if_pos q3] at hR
      subst hR
      (repeat' (first | simp [go_sem, X_region, *] | simp (disch := omega) only [om, *] | ((first | refine XC_split ?_ ?_ | refine XG_true ?_ ?_ | refine XG_false ?_ ?_ | refine XRg_true ?_ ?_ | refine XRg_false ?_ ?_) <;> intro hc <;> (try simp only [bl] at hc) <;> (try (exfalso; omega))) | refine XD_w [] [] [] (fun _ => none) mixed (by decide +kernel) (sub_none _) ?_ | refine Pure.call (g1) ?_ | refine ⟨_, Pure.at (g1), ?_⟩ | refine ⟨_, g1, ?_⟩ | refine PureAt.call (g1) ?_ | fail))
      intro b5 hb5
      have n5 := ne_free hb5 ho
      (repeat' (first | simp [go_sem, X_region, *] | simp (disch := omega) only [om, *] | ((first | refine XC_split ?_ ?_ | refine XG_true ?_ ?_ | refine XG_false ?_ ?_ | refine XRg_true ?_ ?_ | refine XRg_false ?_ ?_) <;> intro hc <;> (try simp only [bl] at hc) <;> (try (exfalso; omega))) | refine XD_w [] [] [] (fun _ => none) mixed (by decide +kernel) (sub_none _) ?_ | refine Pure.call (g1) ?_ | refine ⟨_, Pure.at (g1), ?_⟩ | refine ⟨_, g1, ?_⟩ | refine PureAt.call (g1) ?_ | fail))
      all_goals exact Wk.fin (Sub.upd (sub_free hsub hb5) hsub) rfl
    rw [if_neg (fun h => h q3)] at hN
    replace g2 := g2 q3
    rw [q3] at g1
    (repeat' (first | simp [go_sem, X_region, *] | simp (disch := omega) only [om, *] | ((first | refine XC_split ?_ ?_ | refine XG_true ?_ ?_ | refine XG_false ?_ ?_ | refine XRg_true ?_ ?_ | refine XRg_false ?_ ?_) <;> intro hc <;> (try simp only [bl] at hc) <;> (try (exfalso; omega))) | refine XD_w [] [] [] (fun _ => none) mixed (by decide +kernel) (sub_none _) ?_ | refine Pure.call (g1) ?_ | refine ⟨_, Pure.at (g1), ?_⟩ | refine ⟨_, g1, ?_⟩ | refine PureAt.call (g1) ?_ | fail))
    intro b5 hb5
    have n5 := ne_free hb5 ho
    (repeat' (first | simp [go_sem, X_region, *] | simp (disch := omega) only [om, *] | ((first | refine XC_split ?_ ?_ | refine XG_true ?_ ?_ | refine XG_false ?_ ?_ | refine XRg_true ?_ ?_ | refine XRg_false ?_ ?_) <;> intro hc <;> (try simp only [bl] at hc) <;> (try (exfalso; omega))) | refine XD_w [] [] [] (fun _ => none) mixed (by decide +kernel) (sub_none _) ?_ | refine Pure.call (g1) ?_ | refine ⟨_, Pure.at (g1), ?_⟩ | refine ⟨_, g1, ?_⟩ | refine PureAt.call (g1) ?_ | fail))
    generalize hU : upF m x.kids = U at hN
    refine X_lpF (fun i => i = 2 ∨ i = 8 ∨ (32 ≤ i ∧ i ≤ 41)) (fun k T g => ∃ (j : Nat) (rk : List Int) (m : List (Int × Bool)), k = rk.length ∧ j ≤ x.kids.length ∧ x.kids.drop j = rk ∧ upF m rk = U ∧ T 32 = I j ∧ Sub h g ∧ MapA g b m) _
      ⟨0, x.kids, m, rfl, by omega, rfl, hU, by simp [go_sem], Sub.upd (sub_free hsub hb5) hsub, ⟨o, by rw [upd_ne _ _ n5.2]; exact ho, hm⟩⟩ ?_
    clear hU hm ho hsub n5 hb5
    rintro J2 hJ2 k2 T2 g' hfr2 ⟨j, rk, m', rfl, hj, hdk, hU, t32, hsub, ⟨p, hp, hm⟩⟩
    rcases rk with _ | ⟨y, rk⟩
    · have hltk := drop_nil hdk
      rw [upF] at hU
      subst hU
      (repeat' (first | simp [go_sem, X_region, *] | simp (disch := omega) only [om, *] | ((first | refine XC_split ?_ ?_ | refine XG_true ?_ ?_ | refine XG_false ?_ ?_ | refine XRg_true ?_ ?_ | refine XRg_false ?_ ?_) <;> intro hc <;> (try simp only [bl] at hc) <;> (try (exfalso; omega))) | refine XD_w [] [] [] (fun _ => none) mixed (by decide +kernel) (sub_none _) ?_ | fail))
      all_goals exact ⟨_, Nat.lt_succ_self _, hJ.out _ _ _ ⟨(by (repeat (refine fr_upd (by decide) ?_)); exact fr_in (by intro i; omega) hfr2 (by (repeat (refine fr_upd (by decide) ?_)); exact hfr)), i + 1, r, m', rfl, by omega, hd2, hN, by simp [go_sem, *], hsub, hb, ⟨p, hp, hm⟩⟩⟩
    · obtain ⟨hltk, hxk, hdk2⟩ := drop_cons hdk
      rw [upF] at hU
      cases q4 : (mget m' y).getD false
      · rw [q4, if_neg (by simp)] at hU
        (repeat' (first | simp [go_sem, X_region, *] | simp (disch := omega) only [om, *] | ((first | refine XC_split ?_ ?_ | refine XG_true ?_ ?_ | refine XG_false ?_ ?_ | refine XRg_true ?_ ?_ | refine XRg_false ?_ ?_) <;> intro hc <;> (try simp only [bl] at hc) <;> (try (exfalso; omega))) | refine XD_w [] [] [] (fun _ => none) mixed (by decide +kernel) (sub_none _) ?_ | fail))
        refine X_lookup (k := y) (z := false) hm hp (by simp [go_sem]) (by simp [go_sem]) und93 (hq _) hkt zv4 ?_
        rw [q4]
        (repeat' (first | simp [go_sem, X_region, lookR, *] | simp (disch := omega) only [om, *] | ((first | refine XC_split ?_ ?_ | refine XG_true ?_ ?_ | refine XG_false ?_ ?_ | refine XRg_true ?_ ?_ | refine XRg_false ?_ ?_) <;> intro hc <;> (try simp only [bl] at hc) <;> (try (exfalso; omega))) | refine XD_w [] [] [] (fun _ => none) mixed (by decide +kernel) (sub_none _) ?_ | fail))
        refine X_mapUpdate (k := y) (v := true) hm hp (by simp [go_sem]) (by simp [go_sem]) (by simp [go_sem]) und93 (hq _) hkt fun ob' hm' => ?_
        (repeat' (first | simp [go_sem, X_region, *] | simp (disch := omega) only [om, *] | ((first | refine XC_split ?_ ?_ | refine XG_true ?_ ?_ | refine XG_false ?_ ?_ | refine XRg_true ?_ ?_ | refine XRg_false ?_ ?_) <;> intro hc <;> (try simp only [bl] at hc) <;> (try (exfalso; omega))) | refine XD_w [] [] [] (fun _ => none) mixed (by decide +kernel) (sub_none _) ?_ | fail))
        exact ⟨_, Nat.lt_succ_self _, hJ2.out _ _ _ ⟨(by (repeat (refine fr_upd (by decide) ?_)); exact hfr2), j + 1, rk, _, rfl, by omega, hdk2, hU, by simp [go_sem, *], Sub.upd hb hsub, ⟨ob', upd_same _ _ _, hm'⟩⟩⟩
      · rw [q4, if_pos rfl] at hU
        subst hU
        simp only at hN
        subst hN
        rw [if_pos (by simp)] at hR
        subst hR
        (repeat' (first | simp [go_sem, X_region, *] | simp (disch := omega) only [om, *] | ((first | refine XC_split ?_ ?_ | refine XG_true ?_ ?_ | refine XG_false ?_ ?_ | refine XRg_true ?_ ?_ | refine XRg_false ?_ ?_) <;> intro hc <;> (try simp only [bl] at hc) <;> (try (exfalso; omega))) | refine XD_w [] [] [] (fun _ => none) mixed (by decide +kernel) (sub_none _) ?_ | fail))
        refine X_lookup (k := y) (z := false) hm hp (by simp [go_sem]) (by simp [go_sem]) und93 (hq _) hkt zv4 ?_
        rw [q4]
        (repeat' (first | simp [go_sem, X_region, lookR, *] | simp (disch := omega) only [om, *] | ((first | refine XC_split ?_ ?_ | refine XG_true ?_ ?_ | refine XG_false ?_ ?_ | refine XRg_true ?_ ?_ | refine XRg_false ?_ ?_) <;> intro hc <;> (try simp only [bl] at hc) <;> (try (exfalso; omega))) | refine XD_w [] [] [] (fun _ => none) mixed (by decide +kernel) (sub_none _) ?_ | fail))
        all_goals exact Wk.fin hsub rfl
end Go.Proofs.YtmalhikcdideoaaDoor

set_option linter.unusedVariables false
set_option linter.unusedSimpArgs false
namespace Go.Proofs.YtmalhikcdideoaaDoor
open Go Sl
attribute [local irreducible] XRange LpQ XR XRo XRg XRQ putQ XFv XL XW2 wQ putW X XO XOp XH XHo XW SeqQ BlkQ XOQ XHQ NrmQ XC XM XG XHM XHG XD CallK
open Go.RowKit
/-- An attribute: name and kind; an act: attributes and tables. What is not read is not told. -/
structure At where
  name : ByteArray
  kind : Int
structure Ac where
  attrs : List At
  tables : List Tb
@[go_sem] def cAt (a : At) : List AV := [S a.name, I a.kind, .any, .any, .any, .any, .any]
@[go_sem] def cAc (a : Ac) : List AV := [.any, .any, .any, encL 7 cAt a.attrs, encL 5 cTb a.tables, .any]
def atIn (nm : ByteArray) : List At → Option Int
  | [] => none
  | a :: r => if a.name = nm then some a.kind else atIn nm r
def atF (nm : ByteArray) : List Ac → Option Int
  | [] => none
  | a :: r => (atIn nm a.attrs).or (atF nm r)
def atR (o : Option Int) : AV := tup2 (I (o.getD 0)) (B o.isSome)
theorem attr_ok (nm : ByteArray) (l : List Ac) (hal : ∀ a ∈ l, a.attrs.length ≤ 1000000000000) : Pure Tryd.prog 101 [encL 6 cAc l, S nm] (atR (atF nm l)) := by
  generalize hR : atF nm l = R
  intro h; refine CallK.lens fun hlen => ?_; have hlen := (hlen _ (by simp only [List.mem_cons, true_or, or_true] : (encL 6 cAc l) ∈ _)).encL; refine callK_body Tryd.func101 rfl (by rw [nt101]; simp) ?_; rw [nt101, rs101]
  (repeat' (first | simp [go_sem, X_region, *] | simp (disch := omega) only [om, *] | ((first | refine XC_split ?_ ?_ | refine XG_true ?_ ?_ | refine XG_false ?_ ?_ | refine XRg_true ?_ ?_ | refine XRg_false ?_ ?_) <;> intro hc <;> (try simp only [bl] at hc) <;> (try (exfalso; omega))) | refine XD_w [] [] [] (fun _ => none) mixed (by decide +kernel) (sub_none _) ?_ | fail))
  refine X_lpF (fun i => (4 ≤ i ∧ i ≤ 5) ∨ i = 7 ∨ i = 9 ∨ (12 ≤ i ∧ i ≤ 30)) (fun n T g => ∃ (i : Nat) (r : List Ac), n = r.length ∧ i ≤ l.length ∧ l.drop i = r ∧ atF nm r = R ∧ T 12 = I i ∧ Sub h g) l.length ⟨0, l, rfl, by omega, rfl, hR, by simp [go_sem], Sub.refl _⟩ ?_
  clear hR
  rintro J hJ n T g hfr ⟨i, r, rfl, hi, hd, hR, t12, hsub⟩
  rcases r with _ | ⟨x, r⟩
  · have hlt := drop_nil hd
    subst hR
    (repeat' (first | simp [go_sem, X_region, *] | simp (disch := omega) only [om, *] | ((first | refine XC_split ?_ ?_ | refine XG_true ?_ ?_ | refine XG_false ?_ ?_ | refine XRg_true ?_ ?_ | refine XRg_false ?_ ?_) <;> intro hc <;> (try simp only [bl] at hc) <;> (try (exfalso; omega))) | refine XD_w [] [] [] (fun _ => none) mixed (by decide +kernel) (sub_none _) ?_ | fail))
    exact Wk.drop _ hsub
  · obtain ⟨hlt, hx, hd2⟩ := drop_cons hd
    have hxl := hal x (by rw [← hx]; exact List.getElem_mem hlt)
    (repeat' (first | simp [go_sem, X_region, *] | simp (disch := omega) only [om, *] | ((first | refine XC_split ?_ ?_ | refine XG_true ?_ ?_ | refine XG_false ?_ ?_ | refine XRg_true ?_ ?_ | refine XRg_false ?_ ?_) <;> intro hc <;> (try simp only [bl] at hc) <;> (try (exfalso; omega))) | refine XD_w [] [] [] (fun _ => none) mixed (by decide +kernel) (sub_none _) ?_ | fail))
    intro b hb
    obtain ⟨Q, hQ⟩ : ∃ Q, atIn nm x.attrs = Q := ⟨_, rfl⟩
    have hRQ : Q.or (atF nm r) = R := by rw [← hR, atF, hQ]
    clear hR
    refine X_lpF (fun i => (4 ≤ i ∧ i ≤ 5) ∨ i = 9 ∨ (19 ≤ i ∧ i ≤ 29)) (fun n T g => ∃ (j : Nat) (rk : List At), n = rk.length ∧ j ≤ x.attrs.length ∧ x.attrs.drop j = rk ∧ atIn nm rk = Q ∧ T 19 = I j ∧ Sub h g) x.attrs.length
      ⟨0, x.attrs, rfl, by omega, rfl, hQ, by simp [go_sem], Sub.upd (sub_free hsub hb) hsub⟩ ?_
    clear hQ hsub hb
    rintro J2 hJ2 n2 T2 g' hfr2 ⟨j, rk, rfl, hj, hdk, hQ, t19, hsub⟩
    rcases rk with _ | ⟨y, rk⟩
    · have hltk := drop_nil hdk
      rw [atIn] at hQ
      subst hQ
      rw [Option.none_or] at hRQ
      (repeat' (first | simp [go_sem, X_region, *] | simp (disch := omega) only [om, *] | ((first | refine XC_split ?_ ?_ | refine XG_true ?_ ?_ | refine XG_false ?_ ?_ | refine XRg_true ?_ ?_ | refine XRg_false ?_ ?_) <;> intro hc <;> (try simp only [bl] at hc) <;> (try (exfalso; omega))) | refine XD_w [] [] [] (fun _ => none) mixed (by decide +kernel) (sub_none _) ?_ | fail))
      all_goals exact ⟨_, Nat.lt_succ_self _, hJ.out _ _ _ ⟨(by (repeat (refine fr_upd (by decide) ?_)); exact fr_in (by intro i; omega) hfr2 (by (repeat (refine fr_upd (by decide) ?_)); exact hfr)), i + 1, r, rfl, by omega, hd2, hRQ, by simp [go_sem, *], hsub⟩⟩
    · obtain ⟨hltk, hxk, hdk2⟩ := drop_cons hdk
      rw [atIn] at hQ
      by_cases he : y.name = nm
      · rw [if_pos he] at hQ
        subst hQ
        rw [Option.some_or] at hRQ
        subst hRQ
        (repeat' (first | simp [go_sem, X_region, *] | simp (disch := omega) only [om, *] | ((first | refine XC_split ?_ ?_ | refine XG_true ?_ ?_ | refine XG_false ?_ ?_ | refine XRg_true ?_ ?_ | refine XRg_false ?_ ?_) <;> intro hc <;> (try simp only [bl] at hc) <;> (try (exfalso; omega))) | refine XD_w [] [] [] (fun _ => none) mixed (by decide +kernel) (sub_none _) ?_ | fail))
        intro b2 hb2
        (repeat' (first | simp [go_sem, X_region, *] | simp (disch := omega) only [om, *] | ((first | refine XC_split ?_ ?_ | refine XG_true ?_ ?_ | refine XG_false ?_ ?_ | refine XRg_true ?_ ?_ | refine XRg_false ?_ ?_) <;> intro hc <;> (try simp only [bl] at hc) <;> (try (exfalso; omega))) | refine XD_w [] [] [] (fun _ => none) mixed (by decide +kernel) (sub_none _) ?_ | fail))
        exact Wk.drop _ (Sub.upd (sub_free hsub hb2) hsub)
      · rw [if_neg he] at hQ
        (repeat' (first | simp [go_sem, X_region, *] | simp (disch := omega) only [om, *] | ((first | refine XC_split ?_ ?_ | refine XG_true ?_ ?_ | refine XG_false ?_ ?_ | refine XRg_true ?_ ?_ | refine XRg_false ?_ ?_) <;> intro hc <;> (try simp only [bl] at hc) <;> (try (exfalso; omega))) | refine XD_w [] [] [] (fun _ => none) mixed (by decide +kernel) (sub_none _) ?_ | fail))
        intro b2 hb2
        (repeat' (first | simp [go_sem, X_region, *] | simp (disch := omega) only [om, *] | ((first | refine XC_split ?_ ?_ | refine XG_true ?_ ?_ | refine XG_false ?_ ?_ | refine XRg_true ?_ ?_ | refine XRg_false ?_ ?_) <;> intro hc <;> (try simp only [bl] at hc) <;> (try (exfalso; omega))) | refine XD_w [] [] [] (fun _ => none) mixed (by decide +kernel) (sub_none _) ?_ | fail))
        exact ⟨_, Nat.lt_succ_self _, hJ2.out _ _ _ ⟨(by (repeat (refine fr_upd (by decide) ?_)); exact hfr2), j + 1, rk, rfl, by omega, hdk2, hQ, by simp [go_sem, *], Sub.upd (sub_free hsub hb2) hsub⟩⟩
/-- What types.looked says of an operation and the kind of what it names. -/
def lookF (op : Int) (o : Option Int) : Int × Int :=
  match o with
  | none => (0, 15)
  | some k => if op = 1 ∧ (0 < k ∧ k ≤ 6) then (k, 0) else if op = 3 ∧ k = 1 then (5, 0) else if op = 2 ∧ (k = 2 ∨ k = 3 ∨ k = 5 ∨ k = 6) then (k, 0) else (0, 8)
theorem looked_ok (l : List Ac) (hal : ∀ a ∈ l, a.attrs.length ≤ 1000000000000) (x : Nd) : Pure Tryd.prog 72 [encL 6 cAc l, aggL (cNd x)] (tup2 (I (lookF x.op (atF x.nm l)).1) (I (lookF x.op (atF x.nm l)).2)) := by
  have ha := attr_ok x.nm l hal
  obtain ⟨op, kids, kind, n, nm⟩ := x
  simp only [cNd] at ha ⊢
  cases hq : atF nm l with
  | none =>
    rw [hq] at ha
    simp only [atR, Option.getD_none, Option.isSome_none] at ha
    intro h; refine callK_body Tryd.func72 rfl (by rw [nt72]; simp) ?_; rw [nt72, rs72]
    ((repeat' (first | simp [go_sem, X_region, *] | simp (disch := omega) only [om, *] | ((first | refine XC_split ?_ ?_ | refine XG_true ?_ ?_ | refine XG_false ?_ ?_ | refine XRg_true ?_ ?_ | refine XRg_false ?_ ?_) <;> intro hc <;> (try simp only [bl] at hc) <;> (try (exfalso; omega))) | refine XD_w [] [] [] (fun _ => none) mixed (by decide +kernel) (sub_none _) ?_ | refine Pure.call (ha) ?_ | refine ⟨_, Pure.at (ha), ?_⟩ | refine ⟨_, ha, ?_⟩ | refine PureAt.call (ha) ?_ | (intro bk hbk; (try simp only [go_sem] at hbk)))); all_goals (refine Wk.fin (by repeat (first | exact Sub.refl _ | refine Sub.upd (by simp [*]) ?_)) ?_; first | (simp [lookF, *]; done) | (simp only [lookF]; (repeat' (first | split | rfl | omega | (simp_all; done))); done) | (simp [lookF, *]; (repeat' (first | split | omega | (rw [Bool.eq_iff_iff]; simp; omega))); done) | (simp [lookF, *])))
  | some k =>
    rw [hq] at ha
    simp only [atR, Option.getD_some, Option.isSome_some] at ha
    have hu := unitary_ok k
    intro h; refine callK_body Tryd.func72 rfl (by rw [nt72]; simp) ?_; rw [nt72, rs72]
    ((repeat' (first | simp [go_sem, X_region, *] | simp (disch := omega) only [om, *] | ((first | refine XC_split ?_ ?_ | refine XG_true ?_ ?_ | refine XG_false ?_ ?_ | refine XRg_true ?_ ?_ | refine XRg_false ?_ ?_) <;> intro hc <;> (try simp only [bl] at hc) <;> (try (exfalso; omega))) | refine XD_w [] [] [] (fun _ => none) mixed (by decide +kernel) (sub_none _) ?_ | refine Pure.call (ha) ?_ | refine ⟨_, Pure.at (ha), ?_⟩ | refine ⟨_, ha, ?_⟩ | refine PureAt.call (ha) ?_ | refine Pure.call (hu) ?_ | refine ⟨_, Pure.at (hu), ?_⟩ | refine ⟨_, hu, ?_⟩ | refine PureAt.call (hu) ?_ | (intro bk hbk; (try simp only [go_sem] at hbk)))); all_goals (refine Wk.fin (by repeat (first | exact Sub.refl _ | refine Sub.upd (by simp [*]) ?_)) ?_; first | (simp [lookF, *]; done) | (simp only [lookF]; (repeat' (first | split | rfl | omega | (simp_all; done))); done) | (simp [lookF, *]; (repeat' (first | split | omega | (rw [Bool.eq_iff_iff]; simp; omega))); done) | (simp [lookF, *])))
end Go.Proofs.YtmalhikcdideoaaDoor

set_option linter.unusedVariables false
set_option linter.unusedSimpArgs false
namespace Go.Proofs.YtmalhikcdideoaaDoor
open Go Sl
attribute [local irreducible] XRange LpQ XR XRo XRg XRQ putQ XFv XL XW2 wQ putW X XO XOp XH XHo XW SeqQ BlkQ XOQ XHQ NrmQ XC XM XG XHM XHG XD CallK
open Go.RowKit
theorem ownD_alloc {h0 h : Hp} {a : AV} {e : TypeId} {s n b : Nat} {f : Nat → Nat → AV} {ob : Ob} (o : OwnD h0 h a e s n f) (hb : h b = none) : OwnD h0 (upd h b (some ob)) a e s n f := by
  obtain ⟨g, hk, o, hs, hw⟩ := o
  exact ⟨g, hk, o.alloc hb, hs, hw⟩
theorem ownD_free {h0 h : Hp} {a : AV} {e : TypeId} {s n c : Nat} {f : Nat → Nat → AV} (o : OwnD h0 h a e s n f) (hc : h c = none) : a ≠ .row c s 0 n := by
  obtain ⟨g, hk, o, hs, hw⟩ := o
  exact own_free o hc
theorem own_with {h0 h : Hp} {a : AV} {e : TypeId} {s n c : Nat} {f : Nat → Nat → AV} {oc : Ob} (o : Own h0 h a e s n f) (hc : h c = none) : Own (upd h0 c (some oc)) (upd h c (some oc)) a e s n f := by
  obtain ⟨hs, ho⟩ := o
  refine ⟨fun k ok hk => ?_, ?_⟩
  · by_cases hkc : k = c
    · subst hkc; rw [upd_same] at hk ⊢; exact hk
    · rw [upd_ne _ _ hkc] at hk ⊢; exact hs k ok hk
  · rcases ho with ho | ⟨b1, o1, h1, h2, h3, h4⟩
    · exact .inl ho
    · have n1 : b1 ≠ c := fun e => by rw [e, hc] at h3; cases h3
      exact .inr ⟨b1, o1, h1, by rw [upd_ne _ _ n1]; exact h2, by rw [upd_ne _ _ n1]; exact h3, h4⟩
theorem upd_swap {α : Type} {g : Nat → α} {b c : Nat} {x y z : α} (hn : c ≠ b) : upd (upd (upd g b x) c y) b z = upd (upd g b z) c y := by
  funext k
  by_cases hb : k = b
  · subst hb; simp [upd, Ne.symm hn]
  · by_cases hc : k = c
    · subst hc; simp [upd, hb]
    · simp [upd, hb, hc]
/-- 'append(nil, l...)'. -/
theorem X_clone {P : Program} {N : Nat} {T : Nat → AV} {h : Hp} {K : (Nat → AV) → Hp → Prop} {d : Option Tmp} {X Y : Operand} {t e : TypeId} {t' : TypeId} {p : String} {af : Array Edge} {g : Option (Nat × Bool)} {s m by_ : Nat} {z : List Value} {q : Nat → Nat → AV}
    (hu : P.underlying t = some (.slice e)) (hz : zeroA P e = some (s, z)) (hb : bytesT P e = some by_) (hd : dOk N d = true) (hx : ev T X = .v (.slice none 0 0)) (hy : ev T Y = .sl s m q) (hm : m * by_ ≤ 140737488355328) (hm' : m ≤ 140737488355328)
    (h0 : m = 0 → K (putD T d (.v (.slice none 0 0))) h) (h1 : 0 < m → ∀ b, h b = none → K (putD T d (.row b s 0 m)) (upd h b (some ⟨e, s, m, q⟩))) : XW P N ⟨d, .call ⟨.builtin .append, #[X, Y], #[t, t]⟩, t', p, af, g⟩ T h K := by
  simp only [XW, hu, hz, hb, hx, hy, srcA]
  exact ⟨hd, .inl ⟨trivial, hm, hm', h0, h1⟩⟩
def tabsL (l : List Ac) : List Tb := l.flatMap (·.tables)
theorem tables_ok (l : List Ac) (hN : (tabsL l).length ≤ 1000000000) (hst : ∀ a ∈ l, ∀ t ∈ a.tables, t.steps.length ≤ 1000000000) : Pure Tryd.prog 35 [encL 6 cAc l] (encL 5 cTb (tabsL l)) := by
  generalize hR : tabsL l = R at *
  intro h; refine CallK.lens fun hlen => ?_; have hlen := (hlen _ (by simp only [List.mem_cons, true_or, or_true] : (encL 6 cAc l) ∈ _)).encL; refine callK_body Tryd.func35 rfl (by rw [nt35]; simp) ?_; rw [nt35, rs35]
  (repeat' (first | simp [go_sem, X_region, *] | simp (disch := omega) only [om, *] | ((first | refine XC_split ?_ ?_ | refine XG_true ?_ ?_ | refine XG_false ?_ ?_ | refine XRg_true ?_ ?_ | refine XRg_false ?_ ?_) <;> intro hc <;> (try simp only [bl] at hc) <;> (try (exfalso; omega))) | refine XD_w [] [] [] (fun _ => none) mixed (by decide +kernel) (sub_none _) ?_ | fail))
  refine X_lpF (fun i => i = 3 ∨ i = 5 ∨ i = 7 ∨ (10 ≤ i ∧ i ≤ 30)) (fun n T g => ∃ (i : Nat) (r : List Ac) (acc : List Tb), n = r.length ∧ i ≤ l.length ∧ l.drop i = r ∧ acc ++ tabsL r = R ∧ T 10 = I i ∧ OwnD h g (T 3) 68 5 acc.length (cellsL cTb acc)) l.length ⟨0, l, [], rfl, by omega, rfl, hR, by simp [go_sem], by simpa [go_sem] using Own.none.deep⟩ ?_
  clear hR
  rintro J hJ n T g hfr ⟨i, r, acc, rfl, hi, hd, hR, t10, hown⟩
  rcases r with _ | ⟨x, r⟩
  · have hlt := drop_nil hd
    have : R = acc := by rw [← hR]; simp [tabsL]
    subst this
    (repeat' (first | simp [go_sem, X_region, *] | simp (disch := omega) only [om, *] | ((first | refine XC_split ?_ ?_ | refine XG_true ?_ ?_ | refine XG_false ?_ ?_ | refine XRg_true ?_ ?_ | refine XRg_false ?_ ?_) <;> intro hc <;> (try simp only [bl] at hc) <;> (try (exfalso; omega))) | refine XD_w [] [] [] (fun _ => none) mixed (by decide +kernel) (sub_none _) ?_ | fail))
    exact hown.frozen (by omega)
  · obtain ⟨hlt, hx, hd2⟩ := drop_cons hd
    have hxs := hst x (by rw [← hx]; exact List.getElem_mem hlt)
    have hxl : x.tables.length ≤ 1000000000 := by rw [← hR] at hN; simp [tabsL] at hN; omega
    (repeat' (first | simp [go_sem, X_region, *] | simp (disch := omega) only [om, *] | ((first | refine XC_split ?_ ?_ | refine XG_true ?_ ?_ | refine XG_false ?_ ?_ | refine XRg_true ?_ ?_ | refine XRg_false ?_ ?_) <;> intro hc <;> (try simp only [bl] at hc) <;> (try (exfalso; omega))) | refine XD_w [] [] [] (fun _ => none) mixed (by decide +kernel) (sub_none _) ?_ | fail))
    intro b hb
    have hR2 : acc ++ (x.tables ++ tabsL r) = R := by rw [← hR]; simp [tabsL]
    clear hR
    refine X_lpF (fun i => i = 3 ∨ i = 7 ∨ (17 ≤ i ∧ i ≤ 29)) (fun n T g => ∃ (j : Nat) (rk acc : List Tb), n = rk.length ∧ j ≤ x.tables.length ∧ x.tables.drop j = rk ∧ acc ++ (rk ++ tabsL r) = R ∧ T 17 = I j ∧ OwnD h g (T 3) 68 5 acc.length (cellsL cTb acc)) x.tables.length
      ⟨0, x.tables, acc, rfl, by omega, rfl, hR2, by simp [go_sem], by simpa [go_sem] using ownD_alloc hown hb⟩ ?_
    clear hR2 hown hb
    rintro J2 hJ2 n2 T2 g' hfr2 ⟨j, rk, acc', rfl, hj, hdk, hR, t17, hown⟩
    rcases rk with _ | ⟨y, rk⟩
    · have hltk := drop_nil hdk
      (repeat' (first | simp [go_sem, X_region, *] | simp (disch := omega) only [om, *] | ((first | refine XC_split ?_ ?_ | refine XG_true ?_ ?_ | refine XG_false ?_ ?_ | refine XRg_true ?_ ?_ | refine XRg_false ?_ ?_) <;> intro hc <;> (try simp only [bl] at hc) <;> (try (exfalso; omega))) | refine XD_w [] [] [] (fun _ => none) mixed (by decide +kernel) (sub_none _) ?_ | fail))
      all_goals exact ⟨_, Nat.lt_succ_self _, hJ.out _ _ _ ⟨(by (repeat (refine fr_upd (by decide) ?_)); exact fr_in (by intro i; omega) hfr2 (by (repeat (refine fr_upd (by decide) ?_)); exact hfr)), i + 1, r, acc', rfl, by omega, hd2, hR, by simp [go_sem, *], by simpa [go_sem] using hown⟩⟩
    · obtain ⟨hltk, hxk, hdk2⟩ := drop_cons hdk
      have hys := hxs y (by rw [← hxk]; exact List.getElem_mem hltk)
      have hAcc : acc'.length + 1 ≤ 1000000000 := by
        have := congrArg List.length hR
        simp only [List.length_append, List.length_cons] at this
        omega
      have hR' : (acc' ++ [y]) ++ (rk ++ tabsL r) = R := by rw [← hR]; simp
      (repeat' (first | simp [go_sem, X_region, *] | simp (disch := omega) only [om, *] | ((first | refine XC_split ?_ ?_ | refine XG_true ?_ ?_ | refine XG_false ?_ ?_ | refine XRg_true ?_ ?_ | refine XRg_false ?_ ?_) <;> intro hc <;> (try simp only [bl] at hc) <;> (try (exfalso; omega))) | refine XD_w [] [] [] (fun _ => none) mixed (by decide +kernel) (sub_none _) ?_ | fail))
      intro b7 hb7
      (repeat' (first | simp [go_sem, X_region, *] | simp (disch := omega) only [om, *] | ((first | refine XC_split ?_ ?_ | refine XG_true ?_ ?_ | refine XG_false ?_ ?_ | refine XRg_true ?_ ?_ | refine XRg_false ?_ ?_) <;> intro hc <;> (try simp only [bl] at hc) <;> (try (exfalso; omega))) | refine XD_w [] [] [] (fun _ => none) mixed (by decide +kernel) (sub_none _) ?_ | fail))
      refine X_clone (m := y.steps.length) (q := cellsL cSt y.steps) und66 zr114 by114 (by simp [go_sem]) (by simp [go_sem]) (by simp [go_sem]) (by omega) (by omega) (fun hz => ?_) fun hpos c hc => ?_
      · (repeat' (first | simp [go_sem, X_region, *] | simp (disch := omega) only [om, *] | ((first | refine XC_split ?_ ?_ | refine XG_true ?_ ?_ | refine XG_false ?_ ?_ | refine XRg_true ?_ ?_ | refine XRg_false ?_ ?_) <;> intro hc <;> (try simp only [bl] at hc) <;> (try (exfalso; omega))) | refine XD_w [] [] [] (fun _ => none) mixed (by decide +kernel) (sub_none _) ?_ | fail))
        intro b n1 n2 hb
        rw [hz] at hys
        obtain ⟨f, hk, o, hs, hw⟩ := hown
        refine OwnD.push (x := y) (o.alloc hb7) hs hw (by simp [go_sem]) und60 zr68 by68 (by simp [go_sem]) (by rw [upd_ne _ _ n1]; exact hb) (by simp [go_sem]) rfl (by simp) (fun q hq => ?_) (by omega) (by omega) fun a' g9 own9 hk9 => ?_
        · have e4 : Wk hk (.v (.slice none 0 0)) h (encL 2 cSt y.steps) := by
            rw [encL_eq, hz]
            exact Own.frozen (e := 114) ⟨hs, .inl ⟨rfl, .inl rfl⟩⟩ (by omega)
          rcases (show q = 0 ∨ q = 1 ∨ q = 2 ∨ q = 3 ∨ q = 4 by omega) with rfl | rfl | rfl | rfl | rfl
          · exact Wk.drop _ hs
          · exact Wk.drop _ hs
          · exact Wk.drop _ hs
          · exact Wk.drop _ hs
          · exact e4
        · (repeat' (first | simp [go_sem, X_region, *] | simp (disch := omega) only [om, *] | ((first | refine XC_split ?_ ?_ | refine XG_true ?_ ?_ | refine XG_false ?_ ?_ | refine XRg_true ?_ ?_ | refine XRg_false ?_ ?_) <;> intro hc <;> (try simp only [bl] at hc) <;> (try (exfalso; omega))) | refine XD_w [] [] [] (fun _ => none) mixed (by decide +kernel) (sub_none _) ?_ | fail))
          exact ⟨_, Nat.lt_succ_self _, hJ2.out _ _ _ ⟨(by (repeat (refine fr_upd (by decide) ?_)); exact hfr2), j + 1, rk, _, rfl, by omega, hdk2, hR', by simp [go_sem, *], by simpa [go_sem] using own9⟩⟩
      · have nc : c ≠ b7 := fun e => by rw [e, upd_same] at hc; cases hc
        have nc' : b7 ≠ c := fun e => nc e.symm
        have hc' : g' c = none := by rw [← hc, upd_ne _ _ nc]
        clear hc
        (repeat' (first | simp [go_sem, X_region, *] | simp (disch := omega) only [om, *] | ((first | refine XC_split ?_ ?_ | refine XG_true ?_ ?_ | refine XG_false ?_ ?_ | refine XRg_true ?_ ?_ | refine XRg_false ?_ ?_) <;> intro hc <;> (try simp only [bl] at hc) <;> (try (exfalso; omega))) | refine XD_w [] [] [] (fun _ => none) mixed (by decide +kernel) (sub_none _) ?_ | fail))
        intro b n1 n2 n3 n4 n5 n6 hb
        rw [upd_swap nc]
        obtain ⟨f, hk, o, hs, hw⟩ := hown
        have hkc : hk c = none := sub_none_of o.1 hc'
        have hkk : Sub hk (upd hk c (some ⟨114, 2, y.steps.length, cellsL cSt y.steps⟩)) := fun k ok hk2 => by rw [upd_ne _ _ (fun e => by rw [e, hkc] at hk2; cases hk2)]; exact hk2
        refine OwnD.push (x := y) (hk := upd hk c (some ⟨114, 2, y.steps.length, cellsL cSt y.steps⟩)) (own_with (o.alloc hb7) (by rw [upd_ne _ _ nc]; exact hc')) (hs.trans hkk) (fun i hi j hj => (Wk.drop _ hkk).trans (hw i hi j hj)) (by simp [go_sem]) und60 zr68 by68 (by simp [go_sem]) (by rw [upd_ne _ _ n3, upd_ne _ _ n1]; exact hb) (by simp [go_sem]) rfl (by simp) (fun q hq => ?_) (by omega) (by omega) fun a' g9 own9 hk9 => ?_
        · have e4 : Wk (upd hk c (some ⟨114, 2, y.steps.length, cellsL cSt y.steps⟩)) (.row c 2 0 y.steps.length) h (encL 2 cSt y.steps) := by
            rw [encL_eq]
            exact Own.frozen (e := 114) ⟨hs.trans hkk, .inr ⟨c, _, rfl, sub_none_of hs hkc, upd_same _ _ _, rfl, rfl, rfl, hpos, fun _ _ _ _ => rfl⟩⟩ (by omega)
          rcases (show q = 0 ∨ q = 1 ∨ q = 2 ∨ q = 3 ∨ q = 4 by omega) with rfl | rfl | rfl | rfl | rfl
          · exact Wk.drop _ (hs.trans hkk)
          · exact Wk.drop _ (hs.trans hkk)
          · exact Wk.drop _ (hs.trans hkk)
          · exact Wk.drop _ (hs.trans hkk)
          · exact e4
        · (repeat' (first | simp [go_sem, X_region, *] | simp (disch := omega) only [om, *] | ((first | refine XC_split ?_ ?_ | refine XG_true ?_ ?_ | refine XG_false ?_ ?_ | refine XRg_true ?_ ?_ | refine XRg_false ?_ ?_) <;> intro hc <;> (try simp only [bl] at hc) <;> (try (exfalso; omega))) | refine XD_w [] [] [] (fun _ => none) mixed (by decide +kernel) (sub_none _) ?_ | fail))
          exact ⟨_, Nat.lt_succ_self _, hJ2.out _ _ _ ⟨(by (repeat (refine fr_upd (by decide) ?_)); exact hfr2), j + 1, rk, _, rfl, by omega, hdk2, hR', by simp [go_sem, *], by simpa [go_sem] using own9⟩⟩
end Go.Proofs.YtmalhikcdideoaaDoor

set_option linter.unusedVariables false
set_option linter.unusedSimpArgs false
namespace Go.Proofs.YtmalhikcdideoaaDoor
open Go Sl
attribute [local irreducible] XRange LpQ XR XRo XRg XRQ putQ XFv XL XW2 wQ putW X XO XOp XH XHo XW SeqQ BlkQ XOQ XHQ NrmQ XC XM XG XHM XHG XD CallK
open Go.RowKit
theorem mget_mset {κ ν : Type} [DecidableEq κ] (l : List (κ × ν)) (k : κ) (v : ν) (k' : κ) : mget (mset l k v) k' = if k' = k then some v else mget l k' := by
  induction l with
  | nil => simp [mget, mset]
  | cons x l ih =>
    unfold mset
    by_cases h : k = x.1
    · rw [if_pos h]
      simp only [mget, ← h]
      by_cases h2 : k' = k <;> simp [h2]
    · rw [if_neg h]
      simp only [mget, ih]
      by_cases h2 : k' = x.1
      · have : ¬ k' = k := fun e => h (by rw [← e, h2])
        simp [h2, Ne.symm h, fun e : x.1 = k => h e.symm]
      · simp [h2]
/-- The kinds of nodes, by what the names are. -/
def nodeK (at_ : ByteArray → Option Int) (tb : ByteArray → Option Tb) (x : Nd) (ks : List Int) : Int × Int :=
  if x.op = 0 then (x.kd, 0)
  else if (x.op ≤ 3 ∧ (at_ x.nm).isSome = false) ∨ (x.op = 16 ∧ (tb x.nm).isSome = false) then (0, 15)
  else if x.op = 1 then (if 1 ≤ (at_ x.nm).getD 0 ∧ (at_ x.nm).getD 0 ≤ 6 then ((at_ x.nm).getD 0, 0) else (0, 8))
  else if x.op = 16 ∧ (min ((tb x.nm).getD tb0).fr ((tb x.nm).getD tb0).to < 1 ∨ 6 < max ((tb x.nm).getD tb0).fr ((tb x.nm).getD tb0).to) then (0, 8)
  else if x.op = 2 then (if (at_ x.nm).getD 0 = 2 ∨ (at_ x.nm).getD 0 = 3 ∨ (at_ x.nm).getD 0 = 5 ∨ (at_ x.nm).getD 0 = 6 then ((at_ x.nm).getD 0, 0) else (0, 8))
  else if x.op = 3 then (if (at_ x.nm).getD 0 = 1 then (5, 0) else (0, 8))
  else if permP x.op ((tb x.nm).getD tb0).fr ((tb x.nm).getD tb0).to ks = true then ((permF x.op (ks.getD 0 0) (ks.getD 1 0) (ks.getD 2 0) ((tb x.nm).getD tb0).fr ((tb x.nm).getD tb0).to).1, 0) else (0, 8)
def kndF (nk : Nd → List Int → Int × Int) : List Nd → List Int → Int × Int
  | [], acc => (acc.getD (acc.length - 1) 0, 0)
  | x :: r, acc => if (nk x (x.kids.map fun k => acc.getD k.toNat 0)).2 ≠ 0 then (0, (nk x (x.kids.map fun k => acc.getD k.toNat 0)).2)
    else kndF nk r (acc ++ [(nk x (x.kids.map fun k => acc.getD k.toNat 0)).1])
structure MapsA (h : Hp) (b1 b2 : Nat) (ma : List (ByteArray × Int)) (mt : List (ByteArray × Option Tb)) : Prop where
  out : ∃ o1 o2, h b1 = some o1 ∧ h b2 = some o2 ∧ IsMap S I ma o1 ∧ IsMap S encO mt o2
/-- What a map of tables answers. -/
structure MtIs (mt : List (ByteArray × Option Tb)) (l : List Tb) : Prop where
  out : ∀ nm, mget mt nm = (findF nm l).map some
structure MaIs (ma : List (ByteArray × Int)) (f : ByteArray → Option Int) : Prop where
  out : ∀ nm, mget ma nm = f nm
def treeOf (tE : List Nd → Int) (l : List Ac) (e : List Nd) : Int × Int := if tE e ≠ 0 then (0, tE e) else kndF (nodeK (fun nm => atF nm l) fun nm => findF nm (tabsL l)) e []
end Go.Proofs.YtmalhikcdideoaaDoor

set_option linter.unusedVariables false
set_option linter.unusedSimpArgs false
namespace Go.Proofs.YtmalhikcdideoaaDoor
open Go Sl
attribute [local irreducible] XRange LpQ XR XRo XRg XRQ putQ XFv XL XW2 wQ putW X XO XOp XH XHo XW SeqQ BlkQ XOQ XHQ NrmQ XC XM XG XHM XHG XD CallK
/-- A table, told: its name, from, to, slices, and its steps. -/
abbrev encTb (nm : AV) (fr to : Int) (sl : Bool) (st : AV) : AV := aggL [nm, I fr, I to, B sl, st]
abbrev encNd (op : Int) (kids : AV) (kd n : Int) (nm : AV) : AV := aggL [I op, kids, I kd, I n, nm]
theorem either_sl {h : Hp} {f : Nat → Nat → AV} (k : Int) (xs : List Int) (hl : xs.length ≤ 1000) (hf : f = fun i j => ((xs.map fun x (_ : Nat) => I x)[i]?.getD fun _ => .any) j) :
    PureAt Tryd.prog h 102 [I k, .sl 1 xs.length f] (B (eitherB k xs)) := by
  refine Pure.lend (either_ok k xs) (.cons (Lend.refl _) (.cons (Lend.sl fun i hi j hj => ?_) .nil)) trivial
  obtain rfl : j = 0 := by omega
  rw [hf]
  simp [hi, cI]
theorem either1 (k x : Int) : eitherB k [x] = decide (k = x ∨ k = 0) := by simp [eitherB, Bool.eq_iff_iff]
theorem row1 {h : Hp} {b : Nat} {ob : Ob} (k x : Int) (hb : h b = some ob) (h1 : ob.s = 1) (h2 : ob.n = 1) (hf : ob.f = fun i j => (([x].map fun x (_ : Nat) => I x)[i]?.getD fun _ => .any) j) :
    PureAt Tryd.prog h 102 [I k, .row b 1 0 1] (B (decide (k = x ∨ k = 0))) := by
  rw [← either1]
  exact either_lit k [x] (by simp) hb h1 h2 hf
theorem sl1 {h : Hp} {f : Nat → Nat → AV} (k x : Int) (hf : f = fun i j => (([x].map fun x (_ : Nat) => I x)[i]?.getD fun _ => .any) j) :
    PureAt Tryd.prog h 102 [I k, .sl 1 1 f] (B (decide (k = x ∨ k = 0))) := by
  rw [← either1]
  exact either_sl k [x] (by simp) hf
def kindF (op nk a b c fr to : Int) : Int × Bool :=
  if op = 0 then (nk, true)
  else if op = 4 then (1, decide (a = 1 ∨ a = 0))
  else if op = 5 ∨ op = 6 then (1, decide ((a = 1 ∨ a = 0) ∧ (b = 1 ∨ b = 0)))
  else if op = 9 then (1, (joinK a b).2)
  else if op = 7 ∨ op = 8 then (1, (joinK a b).2 && decide ((joinK a b).1 ≠ 1))
  else if op = 13 ∨ op = 14 then ((joinK a b).1, (joinK a b).2 && decide ((joinK a b).1 ≠ 1))
  else if op = 10 ∨ op = 11 then sumK op a b
  else if op = 12 then productK a b
  else if op = 15 then ((joinK b c).1, (joinK b c).2 && decide (a = 1 ∨ a = 0))
  else if op = 16 then (to, decide (a = fr ∨ a = 0))
  else if op = 17 then (2, decide (a = 2 ∨ a = 0))
  else (5, decide ((a = 4 ∨ a = 0) ∧ (b = 4 ∨ b = 0)))
section
variable (kids nm tn st : AV) (nk n a b c fr to : Int) (sl : Bool)
theorem kind_0 : Pure Tryd.prog 75 [encNd 0 kids nk n nm, encL 1 cI [], encTb tn fr to sl st] (tup2 (I (kindF 0 nk a b c fr to).1) (B (kindF 0 nk a b c fr to).2)) := by
  intro h; refine callK_body Tryd.func75 rfl (by rw [nt75]; simp) ?_; rw [nt75, rs75]
  ((repeat' (first | simp [go_sem, X_region, *] | simp (disch := omega) only [om, *] | ((first | refine XC_split ?_ ?_ | refine XG_true ?_ ?_ | refine XG_false ?_ ?_ | refine XRg_true ?_ ?_ | refine XRg_false ?_ ?_) <;> intro hc <;> (try simp only [bl] at hc) <;> (try (exfalso; omega))) | refine XD_w [] [] [] (fun _ => none) mixed (by decide +kernel) (sub_none _) ?_ | (intro bk hbk; (try simp only [go_sem] at hbk)))); all_goals (refine Wk.fin (by repeat (first | exact Sub.refl _ | refine Sub.upd (by simp [*]) ?_)) ?_; first | (simp [kindF, *]; done) | (simp only [kindF]; (repeat' (first | split | rfl | omega | (simp_all; done))); done) | (simp [kindF, *]; (repeat' (first | split | omega | (rw [Bool.eq_iff_iff]; simp; omega))); done) | (simp [kindF, *])))
theorem kind_4 : Pure Tryd.prog 75 [encNd 4 kids nk n nm, encL 1 cI [a], encTb tn fr to sl st] (tup2 (I (kindF 4 nk a b c fr to).1) (B (kindF 4 nk a b c fr to).2)) := by
  intro h; refine callK_body Tryd.func75 rfl (by rw [nt75]; simp) ?_; rw [nt75, rs75]
  ((repeat' (first | simp [go_sem, X_region, *] | simp (disch := omega) only [om, *] | ((first | refine XC_split ?_ ?_ | refine XG_true ?_ ?_ | refine XG_false ?_ ?_ | refine XRg_true ?_ ?_ | refine XRg_false ?_ ?_) <;> intro hc <;> (try simp only [bl] at hc) <;> (try (exfalso; omega))) | refine XD_w [] [] [] (fun _ => none) mixed (by decide +kernel) (sub_none _) ?_ | refine Pure.call (row1 _ _ (upd_same _ _ _) rfl rfl rfl) ?_ | refine ⟨_, Pure.at (row1 _ _ (upd_same _ _ _) rfl rfl rfl), ?_⟩ | refine ⟨_, row1 _ _ (upd_same _ _ _) rfl rfl rfl, ?_⟩ | refine PureAt.call (row1 _ _ (upd_same _ _ _) rfl rfl rfl) ?_ | (intro bk hbk; (try simp only [go_sem] at hbk)))); all_goals (refine Wk.fin (by repeat (first | exact Sub.refl _ | refine Sub.upd (by simp [*]) ?_)) ?_; first | (simp [kindF, *]; done) | (simp only [kindF]; (repeat' (first | split | rfl | omega | (simp_all; done))); done) | (simp [kindF, *]; (repeat' (first | split | omega | (rw [Bool.eq_iff_iff]; simp; omega))); done) | (simp [kindF, *])))
theorem kind_5 : Pure Tryd.prog 75 [encNd 5 kids nk n nm, encL 1 cI (a :: b :: []), encTb tn fr to sl st] (tup2 (I (kindF 5 nk a b c fr to).1) (B (kindF 5 nk a b c fr to).2)) := by
  intro h; refine callK_body Tryd.func75 rfl (by rw [nt75]; simp) ?_; rw [nt75, rs75]
  ((repeat' (first | simp [go_sem, X_region, *] | simp (disch := omega) only [om, *] | ((first | refine XC_split ?_ ?_ | refine XG_true ?_ ?_ | refine XG_false ?_ ?_ | refine XRg_true ?_ ?_ | refine XRg_false ?_ ?_) <;> intro hc <;> (try simp only [bl] at hc) <;> (try (exfalso; omega))) | refine XD_w [] [] [] (fun _ => none) mixed (by decide +kernel) (sub_none _) ?_ | refine Pure.call (row1 _ _ (upd_same _ _ _) rfl rfl rfl) ?_ | refine ⟨_, Pure.at (row1 _ _ (upd_same _ _ _) rfl rfl rfl), ?_⟩ | refine ⟨_, row1 _ _ (upd_same _ _ _) rfl rfl rfl, ?_⟩ | refine PureAt.call (row1 _ _ (upd_same _ _ _) rfl rfl rfl) ?_ | (intro bk hbk; (try simp only [go_sem] at hbk)))); all_goals (refine Wk.fin (by repeat (first | exact Sub.refl _ | refine Sub.upd (by simp [*]) ?_)) ?_; first | (simp [kindF, *]; done) | (simp only [kindF]; (repeat' (first | split | rfl | omega | (simp_all; done))); done) | (simp [kindF, *]; (repeat' (first | split | omega | (rw [Bool.eq_iff_iff]; simp; omega))); done) | (simp [kindF, *])))
theorem kind_9 : Pure Tryd.prog 75 [encNd 9 kids nk n nm, encL 1 cI (a :: b :: []), encTb tn fr to sl st] (tup2 (I (kindF 9 nk a b c fr to).1) (B (kindF 9 nk a b c fr to).2)) := by
  intro h; refine callK_body Tryd.func75 rfl (by rw [nt75]; simp) ?_; rw [nt75, rs75]
  ((repeat' (first | simp [go_sem, X_region, *] | simp (disch := omega) only [om, *] | ((first | refine XC_split ?_ ?_ | refine XG_true ?_ ?_ | refine XG_false ?_ ?_ | refine XRg_true ?_ ?_ | refine XRg_false ?_ ?_) <;> intro hc <;> (try simp only [bl] at hc) <;> (try (exfalso; omega))) | refine XD_w [] [] [] (fun _ => none) mixed (by decide +kernel) (sub_none _) ?_ | refine Pure.call (join_ok _ _) ?_ | refine ⟨_, Pure.at (join_ok _ _), ?_⟩ | refine ⟨_, join_ok _ _, ?_⟩ | refine PureAt.call (join_ok _ _) ?_ | (intro bk hbk; (try simp only [go_sem] at hbk)))); all_goals (refine Wk.fin (by repeat (first | exact Sub.refl _ | refine Sub.upd (by simp [*]) ?_)) ?_; first | (simp [kindF, *]; done) | (simp only [kindF]; (repeat' (first | split | rfl | omega | (simp_all; done))); done) | (simp [kindF, *]; (repeat' (first | split | omega | (rw [Bool.eq_iff_iff]; simp; omega))); done) | (simp [kindF, *])))
theorem kind_16 : Pure Tryd.prog 75 [encNd 16 kids nk n nm, encL 1 cI [a], encTb tn fr to sl st] (tup2 (I (kindF 16 nk a b c fr to).1) (B (kindF 16 nk a b c fr to).2)) := by
  intro h; refine callK_body Tryd.func75 rfl (by rw [nt75]; simp) ?_; rw [nt75, rs75]
  ((repeat' (first | simp [go_sem, X_region, *] | simp (disch := omega) only [om, *] | ((first | refine XC_split ?_ ?_ | refine XG_true ?_ ?_ | refine XG_false ?_ ?_ | refine XRg_true ?_ ?_ | refine XRg_false ?_ ?_) <;> intro hc <;> (try simp only [bl] at hc) <;> (try (exfalso; omega))) | refine XD_w [] [] [] (fun _ => none) mixed (by decide +kernel) (sub_none _) ?_ | refine Pure.call (sl1 _ _ rfl) ?_ | refine ⟨_, Pure.at (sl1 _ _ rfl), ?_⟩ | refine ⟨_, sl1 _ _ rfl, ?_⟩ | refine PureAt.call (sl1 _ _ rfl) ?_ | (intro bk hbk; (try simp only [go_sem] at hbk)))); all_goals (refine Wk.fin (by repeat (first | exact Sub.refl _ | refine Sub.upd (by simp [*]) ?_)) ?_; first | (simp [kindF, *]; done) | (simp only [kindF]; (repeat' (first | split | rfl | omega | (simp_all; done))); done) | (simp [kindF, *]; (repeat' (first | split | omega | (rw [Bool.eq_iff_iff]; simp; omega))); done) | (simp [kindF, *])))
theorem kind_12 : Pure Tryd.prog 75 [encNd 12 kids nk n nm, encL 1 cI (a :: b :: []), encTb tn fr to sl st] (tup2 (I (kindF 12 nk a b c fr to).1) (B (kindF 12 nk a b c fr to).2)) := by
  intro h; refine callK_body Tryd.func75 rfl (by rw [nt75]; simp) ?_; rw [nt75, rs75]
  ((repeat' (first | simp [go_sem, X_region, *] | simp (disch := omega) only [om, *] | ((first | refine XC_split ?_ ?_ | refine XG_true ?_ ?_ | refine XG_false ?_ ?_ | refine XRg_true ?_ ?_ | refine XRg_false ?_ ?_) <;> intro hc <;> (try simp only [bl] at hc) <;> (try (exfalso; omega))) | refine XD_w [] [] [] (fun _ => none) mixed (by decide +kernel) (sub_none _) ?_ | refine Pure.call (product_ok _ _) ?_ | refine ⟨_, Pure.at (product_ok _ _), ?_⟩ | refine ⟨_, product_ok _ _, ?_⟩ | refine PureAt.call (product_ok _ _) ?_ | (intro bk hbk; (try simp only [go_sem] at hbk)))); all_goals (refine Wk.fin (by repeat (first | exact Sub.refl _ | refine Sub.upd (by simp [*]) ?_)) ?_; first | (simp [kindF, *]; done) | (simp only [kindF]; (repeat' (first | split | rfl | omega | (simp_all; done))); done) | (simp [kindF, *]; (repeat' (first | split | omega | (rw [Bool.eq_iff_iff]; simp; omega))); done) | (simp [kindF, *])))
theorem kind_15 : Pure Tryd.prog 75 [encNd 15 kids nk n nm, encL 1 cI (a :: b :: c :: []), encTb tn fr to sl st] (tup2 (I (kindF 15 nk a b c fr to).1) (B (kindF 15 nk a b c fr to).2)) := by
  intro h; refine callK_body Tryd.func75 rfl (by rw [nt75]; simp) ?_; rw [nt75, rs75]
  ((repeat' (first | simp [go_sem, X_region, *] | simp (disch := omega) only [om, *] | ((first | refine XC_split ?_ ?_ | refine XG_true ?_ ?_ | refine XG_false ?_ ?_ | refine XRg_true ?_ ?_ | refine XRg_false ?_ ?_) <;> intro hc <;> (try simp only [bl] at hc) <;> (try (exfalso; omega))) | refine XD_w [] [] [] (fun _ => none) mixed (by decide +kernel) (sub_none _) ?_ | refine Pure.call (join_ok _ _) ?_ | refine ⟨_, Pure.at (join_ok _ _), ?_⟩ | refine ⟨_, join_ok _ _, ?_⟩ | refine PureAt.call (join_ok _ _) ?_ | refine Pure.call (row1 _ _ (upd_same _ _ _) rfl rfl rfl) ?_ | refine ⟨_, Pure.at (row1 _ _ (upd_same _ _ _) rfl rfl rfl), ?_⟩ | refine ⟨_, row1 _ _ (upd_same _ _ _) rfl rfl rfl, ?_⟩ | refine PureAt.call (row1 _ _ (upd_same _ _ _) rfl rfl rfl) ?_ | (intro bk hbk; (try simp only [go_sem] at hbk)))); all_goals (refine Wk.fin (by repeat (first | exact Sub.refl _ | refine Sub.upd (by simp [*]) ?_)) ?_; first | (simp [kindF, *]; done) | (simp only [kindF]; (repeat' (first | split | rfl | omega | (simp_all; done))); done) | (simp [kindF, *]; (repeat' (first | split | omega | (rw [Bool.eq_iff_iff]; simp; omega))); done) | (simp [kindF, *])))
theorem kind_6 : Pure Tryd.prog 75 [encNd 6 kids nk n nm, encL 1 cI (a :: b :: []), encTb tn fr to sl st] (tup2 (I (kindF 6 nk a b c fr to).1) (B (kindF 6 nk a b c fr to).2)) := by
  intro h; refine callK_body Tryd.func75 rfl (by rw [nt75]; simp) ?_; rw [nt75, rs75]
  ((repeat' (first | simp [go_sem, X_region, *] | simp (disch := omega) only [om, *] | ((first | refine XC_split ?_ ?_ | refine XG_true ?_ ?_ | refine XG_false ?_ ?_ | refine XRg_true ?_ ?_ | refine XRg_false ?_ ?_) <;> intro hc <;> (try simp only [bl] at hc) <;> (try (exfalso; omega))) | refine XD_w [] [] [] (fun _ => none) mixed (by decide +kernel) (sub_none _) ?_ | refine Pure.call (row1 _ _ (upd_same _ _ _) rfl rfl rfl) ?_ | refine ⟨_, Pure.at (row1 _ _ (upd_same _ _ _) rfl rfl rfl), ?_⟩ | refine ⟨_, row1 _ _ (upd_same _ _ _) rfl rfl rfl, ?_⟩ | refine PureAt.call (row1 _ _ (upd_same _ _ _) rfl rfl rfl) ?_ | (intro bk hbk; (try simp only [go_sem] at hbk)))); all_goals (refine Wk.fin (by repeat (first | exact Sub.refl _ | refine Sub.upd (by simp [*]) ?_)) ?_; first | (simp [kindF, *]; done) | (simp only [kindF]; (repeat' (first | split | rfl | omega | (simp_all; done))); done) | (simp [kindF, *]; (repeat' (first | split | omega | (rw [Bool.eq_iff_iff]; simp; omega))); done) | (simp [kindF, *])))
theorem kind_7 : Pure Tryd.prog 75 [encNd 7 kids nk n nm, encL 1 cI (a :: b :: []), encTb tn fr to sl st] (tup2 (I (kindF 7 nk a b c fr to).1) (B (kindF 7 nk a b c fr to).2)) := by
  intro h; refine callK_body Tryd.func75 rfl (by rw [nt75]; simp) ?_; rw [nt75, rs75]
  ((repeat' (first | simp [go_sem, X_region, *] | simp (disch := omega) only [om, *] | ((first | refine XC_split ?_ ?_ | refine XG_true ?_ ?_ | refine XG_false ?_ ?_ | refine XRg_true ?_ ?_ | refine XRg_false ?_ ?_) <;> intro hc <;> (try simp only [bl] at hc) <;> (try (exfalso; omega))) | refine XD_w [] [] [] (fun _ => none) mixed (by decide +kernel) (sub_none _) ?_ | refine Pure.call (join_ok _ _) ?_ | refine ⟨_, Pure.at (join_ok _ _), ?_⟩ | refine ⟨_, join_ok _ _, ?_⟩ | refine PureAt.call (join_ok _ _) ?_ | (intro bk hbk; (try simp only [go_sem] at hbk)))); all_goals (refine Wk.fin (by repeat (first | exact Sub.refl _ | refine Sub.upd (by simp [*]) ?_)) ?_; first | (simp [kindF, *]; done) | (simp only [kindF]; (repeat' (first | split | rfl | omega | (simp_all; done))); done) | (simp [kindF, *]; (repeat' (first | split | omega | (rw [Bool.eq_iff_iff]; simp; omega))); done) | (simp [kindF, *])))
theorem kind_8 : Pure Tryd.prog 75 [encNd 8 kids nk n nm, encL 1 cI (a :: b :: []), encTb tn fr to sl st] (tup2 (I (kindF 8 nk a b c fr to).1) (B (kindF 8 nk a b c fr to).2)) := by
  intro h; refine callK_body Tryd.func75 rfl (by rw [nt75]; simp) ?_; rw [nt75, rs75]
  ((repeat' (first | simp [go_sem, X_region, *] | simp (disch := omega) only [om, *] | ((first | refine XC_split ?_ ?_ | refine XG_true ?_ ?_ | refine XG_false ?_ ?_ | refine XRg_true ?_ ?_ | refine XRg_false ?_ ?_) <;> intro hc <;> (try simp only [bl] at hc) <;> (try (exfalso; omega))) | refine XD_w [] [] [] (fun _ => none) mixed (by decide +kernel) (sub_none _) ?_ | refine Pure.call (join_ok _ _) ?_ | refine ⟨_, Pure.at (join_ok _ _), ?_⟩ | refine ⟨_, join_ok _ _, ?_⟩ | refine PureAt.call (join_ok _ _) ?_ | (intro bk hbk; (try simp only [go_sem] at hbk)))); all_goals (refine Wk.fin (by repeat (first | exact Sub.refl _ | refine Sub.upd (by simp [*]) ?_)) ?_; first | (simp [kindF, *]; done) | (simp only [kindF]; (repeat' (first | split | rfl | omega | (simp_all; done))); done) | (simp [kindF, *]; (repeat' (first | split | omega | (rw [Bool.eq_iff_iff]; simp; omega))); done) | (simp [kindF, *])))
theorem kind_13 : Pure Tryd.prog 75 [encNd 13 kids nk n nm, encL 1 cI (a :: b :: []), encTb tn fr to sl st] (tup2 (I (kindF 13 nk a b c fr to).1) (B (kindF 13 nk a b c fr to).2)) := by
  intro h; refine callK_body Tryd.func75 rfl (by rw [nt75]; simp) ?_; rw [nt75, rs75]
  ((repeat' (first | simp [go_sem, X_region, *] | simp (disch := omega) only [om, *] | ((first | refine XC_split ?_ ?_ | refine XG_true ?_ ?_ | refine XG_false ?_ ?_ | refine XRg_true ?_ ?_ | refine XRg_false ?_ ?_) <;> intro hc <;> (try simp only [bl] at hc) <;> (try (exfalso; omega))) | refine XD_w [] [] [] (fun _ => none) mixed (by decide +kernel) (sub_none _) ?_ | refine Pure.call (join_ok _ _) ?_ | refine ⟨_, Pure.at (join_ok _ _), ?_⟩ | refine ⟨_, join_ok _ _, ?_⟩ | refine PureAt.call (join_ok _ _) ?_ | (intro bk hbk; (try simp only [go_sem] at hbk)))); all_goals (refine Wk.fin (by repeat (first | exact Sub.refl _ | refine Sub.upd (by simp [*]) ?_)) ?_; first | (simp [kindF, *]; done) | (simp only [kindF]; (repeat' (first | split | rfl | omega | (simp_all; done))); done) | (simp [kindF, *]; (repeat' (first | split | omega | (rw [Bool.eq_iff_iff]; simp; omega))); done) | (simp [kindF, *])))
theorem kind_14 : Pure Tryd.prog 75 [encNd 14 kids nk n nm, encL 1 cI (a :: b :: []), encTb tn fr to sl st] (tup2 (I (kindF 14 nk a b c fr to).1) (B (kindF 14 nk a b c fr to).2)) := by
  intro h; refine callK_body Tryd.func75 rfl (by rw [nt75]; simp) ?_; rw [nt75, rs75]
  ((repeat' (first | simp [go_sem, X_region, *] | simp (disch := omega) only [om, *] | ((first | refine XC_split ?_ ?_ | refine XG_true ?_ ?_ | refine XG_false ?_ ?_ | refine XRg_true ?_ ?_ | refine XRg_false ?_ ?_) <;> intro hc <;> (try simp only [bl] at hc) <;> (try (exfalso; omega))) | refine XD_w [] [] [] (fun _ => none) mixed (by decide +kernel) (sub_none _) ?_ | refine Pure.call (join_ok _ _) ?_ | refine ⟨_, Pure.at (join_ok _ _), ?_⟩ | refine ⟨_, join_ok _ _, ?_⟩ | refine PureAt.call (join_ok _ _) ?_ | (intro bk hbk; (try simp only [go_sem] at hbk)))); all_goals (refine Wk.fin (by repeat (first | exact Sub.refl _ | refine Sub.upd (by simp [*]) ?_)) ?_; first | (simp [kindF, *]; done) | (simp only [kindF]; (repeat' (first | split | rfl | omega | (simp_all; done))); done) | (simp [kindF, *]; (repeat' (first | split | omega | (rw [Bool.eq_iff_iff]; simp; omega))); done) | (simp [kindF, *])))
theorem kind_10 : Pure Tryd.prog 75 [encNd 10 kids nk n nm, encL 1 cI (a :: b :: []), encTb tn fr to sl st] (tup2 (I (kindF 10 nk a b c fr to).1) (B (kindF 10 nk a b c fr to).2)) := by
  intro h; refine callK_body Tryd.func75 rfl (by rw [nt75]; simp) ?_; rw [nt75, rs75]
  ((repeat' (first | simp [go_sem, X_region, *] | simp (disch := omega) only [om, *] | ((first | refine XC_split ?_ ?_ | refine XG_true ?_ ?_ | refine XG_false ?_ ?_ | refine XRg_true ?_ ?_ | refine XRg_false ?_ ?_) <;> intro hc <;> (try simp only [bl] at hc) <;> (try (exfalso; omega))) | refine XD_w [] [] [] (fun _ => none) mixed (by decide +kernel) (sub_none _) ?_ | refine Pure.call (sum_ok _ _ _) ?_ | refine ⟨_, Pure.at (sum_ok _ _ _), ?_⟩ | refine ⟨_, sum_ok _ _ _, ?_⟩ | refine PureAt.call (sum_ok _ _ _) ?_ | (intro bk hbk; (try simp only [go_sem] at hbk)))); all_goals (refine Wk.fin (by repeat (first | exact Sub.refl _ | refine Sub.upd (by simp [*]) ?_)) ?_; first | (simp [kindF, *]; done) | (simp only [kindF]; (repeat' (first | split | rfl | omega | (simp_all; done))); done) | (simp [kindF, *]; (repeat' (first | split | omega | (rw [Bool.eq_iff_iff]; simp; omega))); done) | (simp [kindF, *])))
theorem kind_11 : Pure Tryd.prog 75 [encNd 11 kids nk n nm, encL 1 cI (a :: b :: []), encTb tn fr to sl st] (tup2 (I (kindF 11 nk a b c fr to).1) (B (kindF 11 nk a b c fr to).2)) := by
  intro h; refine callK_body Tryd.func75 rfl (by rw [nt75]; simp) ?_; rw [nt75, rs75]
  ((repeat' (first | simp [go_sem, X_region, *] | simp (disch := omega) only [om, *] | ((first | refine XC_split ?_ ?_ | refine XG_true ?_ ?_ | refine XG_false ?_ ?_ | refine XRg_true ?_ ?_ | refine XRg_false ?_ ?_) <;> intro hc <;> (try simp only [bl] at hc) <;> (try (exfalso; omega))) | refine XD_w [] [] [] (fun _ => none) mixed (by decide +kernel) (sub_none _) ?_ | refine Pure.call (sum_ok _ _ _) ?_ | refine ⟨_, Pure.at (sum_ok _ _ _), ?_⟩ | refine ⟨_, sum_ok _ _ _, ?_⟩ | refine PureAt.call (sum_ok _ _ _) ?_ | (intro bk hbk; (try simp only [go_sem] at hbk)))); all_goals (refine Wk.fin (by repeat (first | exact Sub.refl _ | refine Sub.upd (by simp [*]) ?_)) ?_; first | (simp [kindF, *]; done) | (simp only [kindF]; (repeat' (first | split | rfl | omega | (simp_all; done))); done) | (simp [kindF, *]; (repeat' (first | split | omega | (rw [Bool.eq_iff_iff]; simp; omega))); done) | (simp [kindF, *])))
theorem kind_17 : Pure Tryd.prog 75 [encNd 17 kids nk n nm, encL 1 cI [a], encTb tn fr to sl st] (tup2 (I (kindF 17 nk a b c fr to).1) (B (kindF 17 nk a b c fr to).2)) := by
  intro h; refine callK_body Tryd.func75 rfl (by rw [nt75]; simp) ?_; rw [nt75, rs75]
  ((repeat' (first | simp [go_sem, X_region, *] | simp (disch := omega) only [om, *] | ((first | refine XC_split ?_ ?_ | refine XG_true ?_ ?_ | refine XG_false ?_ ?_ | refine XRg_true ?_ ?_ | refine XRg_false ?_ ?_) <;> intro hc <;> (try simp only [bl] at hc) <;> (try (exfalso; omega))) | refine XD_w [] [] [] (fun _ => none) mixed (by decide +kernel) (sub_none _) ?_ | refine Pure.call (row1 _ _ (upd_same _ _ _) rfl rfl rfl) ?_ | refine ⟨_, Pure.at (row1 _ _ (upd_same _ _ _) rfl rfl rfl), ?_⟩ | refine ⟨_, row1 _ _ (upd_same _ _ _) rfl rfl rfl, ?_⟩ | refine PureAt.call (row1 _ _ (upd_same _ _ _) rfl rfl rfl) ?_ | (intro bk hbk; (try simp only [go_sem] at hbk)))); all_goals (refine Wk.fin (by repeat (first | exact Sub.refl _ | refine Sub.upd (by simp [*]) ?_)) ?_; first | (simp [kindF, *]; done) | (simp only [kindF]; (repeat' (first | split | rfl | omega | (simp_all; done))); done) | (simp [kindF, *]; (repeat' (first | split | omega | (rw [Bool.eq_iff_iff]; simp; omega))); done) | (simp [kindF, *])))
theorem kind_18 : Pure Tryd.prog 75 [encNd 18 kids nk n nm, encL 1 cI (a :: b :: []), encTb tn fr to sl st] (tup2 (I (kindF 18 nk a b c fr to).1) (B (kindF 18 nk a b c fr to).2)) := by
  intro h; refine callK_body Tryd.func75 rfl (by rw [nt75]; simp) ?_; rw [nt75, rs75]
  ((repeat' (first | simp [go_sem, X_region, *] | simp (disch := omega) only [om, *] | ((first | refine XC_split ?_ ?_ | refine XG_true ?_ ?_ | refine XG_false ?_ ?_ | refine XRg_true ?_ ?_ | refine XRg_false ?_ ?_) <;> intro hc <;> (try simp only [bl] at hc) <;> (try (exfalso; omega))) | refine XD_w [] [] [] (fun _ => none) mixed (by decide +kernel) (sub_none _) ?_ | refine Pure.call (row1 _ _ (upd_same _ _ _) rfl rfl rfl) ?_ | refine ⟨_, Pure.at (row1 _ _ (upd_same _ _ _) rfl rfl rfl), ?_⟩ | refine ⟨_, row1 _ _ (upd_same _ _ _) rfl rfl rfl, ?_⟩ | refine PureAt.call (row1 _ _ (upd_same _ _ _) rfl rfl rfl) ?_ | (intro bk hbk; (try simp only [go_sem] at hbk)))); all_goals (refine Wk.fin (by repeat (first | exact Sub.refl _ | refine Sub.upd (by simp [*]) ?_)) ?_; first | (simp [kindF, *]; done) | (simp only [kindF]; (repeat' (first | split | rfl | omega | (simp_all; done))); done) | (simp [kindF, *]; (repeat' (first | split | omega | (rw [Bool.eq_iff_iff]; simp; omega))); done) | (simp [kindF, *])))
end
def kindP (op nk fr to : Int) (k : List Int) : Bool := (kindF op nk (k.getD 0 0) (k.getD 1 0) (k.getD 2 0) fr to).2
section
variable (kids nm tn st : AV) (nk nn : Int) (fr to : Int) (sl : Bool)
theorem kind_all {op : Int} (hop : op = 0 ∨ isOp op) {l : List Int} (hl : (l.length : Int) = ar op) :
    ∃ q : Int, Pure Tryd.prog 75 [encNd op kids nk nn nm, encL 1 cI l, encTb tn fr to sl st] (tup2 (I q) (B (kindP op nk fr to l))) := by
  rcases hop with rfl | hop
  · obtain rfl := len0 (show (l.length : Int) = 0 by rw [hl]; decide)
    exact ⟨_, kind_0 kids nm tn st nk nn 0 0 0 fr to sl⟩
  · have t1 : ar op = 1 → ∃ a, l = [a] := fun h => len1 (by rw [hl, h])
    have t2 : ar op = 2 → ∃ a b, l = [a, b] := fun h => len2 (by rw [hl, h])
    have t3 : ar op = 3 → ∃ a b c, l = [a, b, c] := fun h => len3 (by rw [hl, h])
    rcases hop.cases with rfl | rfl | rfl | rfl | rfl | rfl | rfl | rfl | rfl | rfl | rfl | rfl | rfl | rfl | rfl
    · obtain ⟨a, rfl⟩ := t1 (by decide); exact ⟨_, kind_4 kids nm tn st nk nn a 0 0 fr to sl⟩
    · obtain ⟨a, b, rfl⟩ := t2 (by decide); exact ⟨_, kind_5 kids nm tn st nk nn a b 0 fr to sl⟩
    · obtain ⟨a, b, rfl⟩ := t2 (by decide); exact ⟨_, kind_6 kids nm tn st nk nn a b 0 fr to sl⟩
    · obtain ⟨a, b, rfl⟩ := t2 (by decide); exact ⟨_, kind_7 kids nm tn st nk nn a b 0 fr to sl⟩
    · obtain ⟨a, b, rfl⟩ := t2 (by decide); exact ⟨_, kind_8 kids nm tn st nk nn a b 0 fr to sl⟩
    · obtain ⟨a, b, rfl⟩ := t2 (by decide); exact ⟨_, kind_9 kids nm tn st nk nn a b 0 fr to sl⟩
    · obtain ⟨a, b, rfl⟩ := t2 (by decide); exact ⟨_, kind_10 kids nm tn st nk nn a b 0 fr to sl⟩
    · obtain ⟨a, b, rfl⟩ := t2 (by decide); exact ⟨_, kind_11 kids nm tn st nk nn a b 0 fr to sl⟩
    · obtain ⟨a, b, rfl⟩ := t2 (by decide); exact ⟨_, kind_12 kids nm tn st nk nn a b 0 fr to sl⟩
    · obtain ⟨a, b, rfl⟩ := t2 (by decide); exact ⟨_, kind_13 kids nm tn st nk nn a b 0 fr to sl⟩
    · obtain ⟨a, b, rfl⟩ := t2 (by decide); exact ⟨_, kind_14 kids nm tn st nk nn a b 0 fr to sl⟩
    · obtain ⟨a, b, c, rfl⟩ := t3 (by decide); exact ⟨_, kind_15 kids nm tn st nk nn a b c fr to sl⟩
    · obtain ⟨a, rfl⟩ := t1 (by decide); exact ⟨_, kind_16 kids nm tn st nk nn a 0 0 fr to sl⟩
    · obtain ⟨a, rfl⟩ := t1 (by decide); exact ⟨_, kind_17 kids nm tn st nk nn a 0 0 fr to sl⟩
    · obtain ⟨a, b, rfl⟩ := t2 (by decide); exact ⟨_, kind_18 kids nm tn st nk nn a b 0 fr to sl⟩
/-- On a slice made by appending. -/
theorem kind_own {op : Int} (hop : op = 0 ∨ isOp op) {l : List Int} (hl : (l.length : Int) = ar op) : ∃ q : Int, ∀ {h0 h : Hp} {a : AV}, Own h0 h a 3 1 l.length (cellsL cI l) →
    PureAt Tryd.prog h 75 [encNd op kids nk nn nm, a, encTb tn fr to sl st] (tup2 (I q) (B (kindP op nk fr to l))) := by
  obtain ⟨q, hq⟩ := kind_all kids nm tn st nk nn fr to sl hop hl
  have hl3 : l.length ≤ 3 := by
    have : ar op ≤ 3 := by unfold ar; repeat' split <;> omega
    omega
  exact ⟨q, fun o => Pure.lend hq (.cons (Lend.refl _) (.cons (o.lend (by omega)) (.cons (Lend.refl _) .nil))) (Flat.tup2 (Flat.v _) (Flat.v _))⟩
end
end Go.Proofs.YtmalhikcdideoaaDoor
