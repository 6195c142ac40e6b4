/- The packages unit and three: what their functions return. The package types: what its small functions return. Loops over lists that nobody writes. The package unit: sums. The package math/bits, as far as it is used here. math/bits.Div64 by a million. unit.size, unit.shared, unit.Times; the reference's scaled. unit.Times; types.product; kinds of operations. types.product. types.kind. types.find, ty -/
import Derived.Test.YtmalhikcdideoaaFacts
import Derived.Laws.MathBits
import Derived.Lib.EndianBits
import Derived.Laws.Externs
import Derived.Shelf.Spec.BitsCarry
import Derived.Test.YtmalhikcdideoaaSlV
set_option linter.unusedVariables false
set_option linter.unusedSimpArgs false
namespace Go.Proofs.Ytmalhikcdideoaa
open Go Sl
attribute [local irreducible] LpQ XR XRo XRg XRQ putQ XFv XL XW2 wQ putW X XO XOp XH XHo XW SeqQ BlkQ XOQ XHQ NrmQ XC XM XG XHM XHG XD CallK

abbrev I (n : Int) : AV := .v (.int .i64 n)
abbrev B (b : Bool) : AV := .v (.bool b)
abbrev S (s : ByteArray) : AV := .v (.string s)
/-- A value: its kind and number. -/
structure V where
  k : Int
  n : Int
deriving DecidableEq
@[go_sem] def encV (v : V) : AV := aggL [I v.k, I v.n]
@[go_sem] def v0 : V := ⟨0, 0⟩

def lo (k : Int) : Int := if k = 1 then 0 else if k = 2 then -1099511627776 else if k = 3 then -1048576 else if k = 4 then 0 else if k = 5 then -1048576 else if k = 6 then -1000000000 else 0
def hi (k : Int) : Int := if k = 1 then 1 else if k = 2 then 1099511627776 else if k = 3 then 1048576 else if k = 4 then 1048575 else if k = 5 then 1048576 else if k = 6 then 1000000000 else 0
theorem Range_ok (k : Int) : Pure Try.prog 26 [I k] (tup2 (I (lo k)) (I (hi k))) := by
  intro h; refine callK_body Try.func26 rfl (by rw [nt26]; simp) ?_; rw [nt26, rs26]
  ((repeat' (first | simp [go_sem, X_region, *] | simp (disch := omega) only [om, *] | ((first | refine XC_split ?_ ?_ | refine XG_true ?_ ?_ | refine XG_false ?_ ?_ | refine XRg_true ?_ ?_ | refine XRg_false ?_ ?_) <;> intro hc <;> (try simp only [bl] at hc) <;> (try (exfalso; omega))) | refine XD_w [] [] [] (fun _ => none) mixed (by decide +kernel) (sub_none _) ?_ | (intro bk hbk; (try simp only [go_sem] at hbk)))); all_goals (refine Wk.fin (by repeat (first | exact Sub.refl _ | refine Sub.upd (by simp [*]) ?_)) ?_; first | (simp [lo, hi, *]; done) | (simp only [lo, hi]; (repeat' (first | split | rfl | omega | (simp_all; done))); done) | (simp [lo, hi, *]; (repeat' (first | split | omega | (rw [Bool.eq_iff_iff]; simp; omega))); done) | (simp [lo, hi, *])))
theorem known_ok (k : Int) : Pure Try.prog 27 [I k] (B (decide (0 ≤ k ∧ k ≤ 6))) := by
  intro h; refine callK_body Try.func27 rfl (by rw [nt27]; simp) ?_; rw [nt27, rs27]
  ((repeat' (first | simp [go_sem, X_region, *] | simp (disch := omega) only [om, *] | ((first | refine XC_split ?_ ?_ | refine XG_true ?_ ?_ | refine XG_false ?_ ?_ | refine XRg_true ?_ ?_ | refine XRg_false ?_ ?_) <;> intro hc <;> (try simp only [bl] at hc) <;> (try (exfalso; omega))) | refine XD_w [] [] [] (fun _ => none) mixed (by decide +kernel) (sub_none _) ?_ | (intro bk hbk; (try simp only [go_sem] at hbk)))); all_goals (refine Wk.fin (by repeat (first | exact Sub.refl _ | refine Sub.upd (by simp [*]) ?_)) ?_; first | (simp [*]; done) | (simp only []; (repeat' (first | split | rfl | omega | (simp_all; done))); done) | (simp [*]; (repeat' (first | split | omega | (rw [Bool.eq_iff_iff]; simp; omega))); done) | (simp [*])))
def fit3 (a : Int) : Int := if a = 0 ∨ a = 1 then a else 2
theorem fit3_ok (a : Int) : Pure Try.prog 57 [I a] (I (fit3 a)) := by
  intro h; refine callK_body Try.func57 rfl (by rw [nt57]; simp) ?_; rw [nt57, rs57]
  ((repeat' (first | simp [go_sem, X_region, *] | simp (disch := omega) only [om, *] | ((first | refine XC_split ?_ ?_ | refine XG_true ?_ ?_ | refine XG_false ?_ ?_ | refine XRg_true ?_ ?_ | refine XRg_false ?_ ?_) <;> intro hc <;> (try simp only [bl] at hc) <;> (try (exfalso; omega))) | refine XD_w [] [] [] (fun _ => none) mixed (by decide +kernel) (sub_none _) ?_ | (intro bk hbk; (try simp only [go_sem] at hbk)))); all_goals (refine Wk.fin (by repeat (first | exact Sub.refl _ | refine Sub.upd (by simp [*]) ?_)) ?_; first | (simp [fit3, *]; done) | (simp only [fit3]; (repeat' (first | split | rfl | omega | (simp_all; done))); done) | (simp [fit3, *]; (repeat' (first | split | omega | (rw [Bool.eq_iff_iff]; simp; omega))); done) | (simp [fit3, *])))
def of3 (v : V) : Int := if v.k = 1 then fit3 v.n else 2
theorem of3_ok (v : V) : Pure Try.prog 36 [encV v] (I (of3 v)) := by
  intro h; refine callK_body Try.func36 rfl (by rw [nt36]; simp) ?_; rw [nt36, rs36]
  ((repeat' (first | simp [go_sem, X_region, *] | simp (disch := omega) only [om, *] | ((first | refine XC_split ?_ ?_ | refine XG_true ?_ ?_ | refine XG_false ?_ ?_ | refine XRg_true ?_ ?_ | refine XRg_false ?_ ?_) <;> intro hc <;> (try simp only [bl] at hc) <;> (try (exfalso; omega))) | refine XD_w [] [] [] (fun _ => none) mixed (by decide +kernel) (sub_none _) ?_ | refine Pure.call (fit3_ok _) ?_ | refine ⟨_, Pure.at (fit3_ok _), ?_⟩ | refine ⟨_, fit3_ok _, ?_⟩ | refine PureAt.call (fit3_ok _) ?_ | (intro bk hbk; (try simp only [go_sem] at hbk)))); all_goals (refine Wk.fin (by repeat (first | exact Sub.refl _ | refine Sub.upd (by simp [*]) ?_)) ?_; first | (simp [of3, *]; done) | (simp only [of3]; (repeat' (first | split | rfl | omega | (simp_all; done))); done) | (simp [of3, *]; (repeat' (first | split | omega | (rw [Bool.eq_iff_iff]; simp; omega))); done) | (simp [of3, *])))
def val3 (t : Int) : V := if fit3 t = 2 then v0 else ⟨1, fit3 t⟩
theorem val3_ok (t : Int) : Pure Try.prog 34 [I t] (encV (val3 t)) := by
  intro h; refine callK_body Try.func34 rfl (by rw [nt34]; simp) ?_; rw [nt34, rs34]
  ((repeat' (first | simp [go_sem, X_region, *] | simp (disch := omega) only [om, *] | ((first | refine XC_split ?_ ?_ | refine XG_true ?_ ?_ | refine XG_false ?_ ?_ | refine XRg_true ?_ ?_ | refine XRg_false ?_ ?_) <;> intro hc <;> (try simp only [bl] at hc) <;> (try (exfalso; omega))) | refine XD_w [] [] [] (fun _ => none) mixed (by decide +kernel) (sub_none _) ?_ | refine Pure.call (fit3_ok _) ?_ | refine ⟨_, Pure.at (fit3_ok _), ?_⟩ | refine ⟨_, fit3_ok _, ?_⟩ | refine PureAt.call (fit3_ok _) ?_ | (intro bk hbk; (try simp only [go_sem] at hbk)))); all_goals (refine Wk.fin (by repeat (first | exact Sub.refl _ | refine Sub.upd (by simp [*]) ?_)) ?_; first | (simp [val3, encV, v0, *]; done) | (simp only [val3, encV, v0]; (repeat' (first | split | rfl | omega | (simp_all; done))); done) | (simp [val3, encV, v0, *]; (repeat' (first | split | omega | (rw [Bool.eq_iff_iff]; simp; omega))); done) | (simp [val3, encV, v0, *])))
def not3 (a : Int) : Int := if fit3 a = 0 then 1 else if fit3 a = 1 then 0 else 2
theorem not3_ok (a : Int) : Pure Try.prog 35 [I a] (I (not3 a)) := by
  intro h; refine callK_body Try.func35 rfl (by rw [nt35]; simp) ?_; rw [nt35, rs35]
  ((repeat' (first | simp [go_sem, X_region, *] | simp (disch := omega) only [om, *] | ((first | refine XC_split ?_ ?_ | refine XG_true ?_ ?_ | refine XG_false ?_ ?_ | refine XRg_true ?_ ?_ | refine XRg_false ?_ ?_) <;> intro hc <;> (try simp only [bl] at hc) <;> (try (exfalso; omega))) | refine XD_w [] [] [] (fun _ => none) mixed (by decide +kernel) (sub_none _) ?_ | refine Pure.call (fit3_ok _) ?_ | refine ⟨_, Pure.at (fit3_ok _), ?_⟩ | refine ⟨_, fit3_ok _, ?_⟩ | refine PureAt.call (fit3_ok _) ?_ | (intro bk hbk; (try simp only [go_sem] at hbk)))); all_goals (refine Wk.fin (by repeat (first | exact Sub.refl _ | refine Sub.upd (by simp [*]) ?_)) ?_; first | (simp [not3, *]; done) | (simp only [not3]; (repeat' (first | split | rfl | omega | (simp_all; done))); done) | (simp [not3, *]; (repeat' (first | split | omega | (rw [Bool.eq_iff_iff]; simp; omega))); done) | (simp [not3, *])))
def and3 (a b : Int) : Int := if fit3 a = 0 ∨ fit3 b = 0 then 0 else if fit3 a = 1 ∧ fit3 b = 1 then 1 else 2
theorem and3_ok (a b : Int) : Pure Try.prog 37 [I a, I b] (I (and3 a b)) := by
  intro h; refine callK_body Try.func37 rfl (by rw [nt37]; simp) ?_; rw [nt37, rs37]
  ((repeat' (first | simp [go_sem, X_region, *] | simp (disch := omega) only [om, *] | ((first | refine XC_split ?_ ?_ | refine XG_true ?_ ?_ | refine XG_false ?_ ?_ | refine XRg_true ?_ ?_ | refine XRg_false ?_ ?_) <;> intro hc <;> (try simp only [bl] at hc) <;> (try (exfalso; omega))) | refine XD_w [] [] [] (fun _ => none) mixed (by decide +kernel) (sub_none _) ?_ | refine Pure.call (fit3_ok _) ?_ | refine ⟨_, Pure.at (fit3_ok _), ?_⟩ | refine ⟨_, fit3_ok _, ?_⟩ | refine PureAt.call (fit3_ok _) ?_ | (intro bk hbk; (try simp only [go_sem] at hbk)))); all_goals (refine Wk.fin (by repeat (first | exact Sub.refl _ | refine Sub.upd (by simp [*]) ?_)) ?_; first | (simp [and3, *]; done) | (simp only [and3]; (repeat' (first | split | rfl | omega | (simp_all; done))); done) | (simp [and3, *]; (repeat' (first | split | omega | (rw [Bool.eq_iff_iff]; simp; omega))); done) | (simp [and3, *])))
def or3 (a b : Int) : Int := not3 (and3 (not3 a) (not3 b))
theorem or3_ok (a b : Int) : Pure Try.prog 38 [I a, I b] (I (or3 a b)) := by
  intro h; refine callK_body Try.func38 rfl (by rw [nt38]; simp) ?_; rw [nt38, rs38]
  ((repeat' (first | simp [go_sem, X_region, *] | simp (disch := omega) only [om, *] | ((first | refine XC_split ?_ ?_ | refine XG_true ?_ ?_ | refine XG_false ?_ ?_ | refine XRg_true ?_ ?_ | refine XRg_false ?_ ?_) <;> intro hc <;> (try simp only [bl] at hc) <;> (try (exfalso; omega))) | refine XD_w [] [] [] (fun _ => none) mixed (by decide +kernel) (sub_none _) ?_ | refine Pure.call (not3_ok _) ?_ | refine ⟨_, Pure.at (not3_ok _), ?_⟩ | refine ⟨_, not3_ok _, ?_⟩ | refine PureAt.call (not3_ok _) ?_ | refine Pure.call (and3_ok _ _) ?_ | refine ⟨_, Pure.at (and3_ok _ _), ?_⟩ | refine ⟨_, and3_ok _ _, ?_⟩ | refine PureAt.call (and3_ok _ _) ?_ | (intro bk hbk; (try simp only [go_sem] at hbk)))); all_goals (refine Wk.fin (by repeat (first | exact Sub.refl _ | refine Sub.upd (by simp [*]) ?_)) ?_; first | (simp [or3, *]; done) | (simp only [or3]; (repeat' (first | split | rfl | omega | (simp_all; done))); done) | (simp [or3, *]; (repeat' (first | split | omega | (rw [Bool.eq_iff_iff]; simp; omega))); done) | (simp [or3, *])))
def checkV (v : V) : Int := if ¬ (0 ≤ v.k ∧ v.k ≤ 6) then 8 else if v.n < lo v.k ∨ hi v.k < v.n then 2 else 0
theorem checkV_ok (v : V) : Pure Try.prog 10 [encV v] (I (checkV v)) := by
  intro h; refine callK_body Try.func10 rfl (by rw [nt10]; simp) ?_; rw [nt10, rs10]
  ((repeat' (first | simp [go_sem, X_region, *] | simp (disch := omega) only [om, *] | ((first | refine XC_split ?_ ?_ | refine XG_true ?_ ?_ | refine XG_false ?_ ?_ | refine XRg_true ?_ ?_ | refine XRg_false ?_ ?_) <;> intro hc <;> (try simp only [bl] at hc) <;> (try (exfalso; omega))) | refine XD_w [] [] [] (fun _ => none) mixed (by decide +kernel) (sub_none _) ?_ | refine Pure.call (Range_ok _) ?_ | refine ⟨_, Pure.at (Range_ok _), ?_⟩ | refine ⟨_, Range_ok _, ?_⟩ | refine PureAt.call (Range_ok _) ?_ | refine Pure.call (known_ok _) ?_ | refine ⟨_, Pure.at (known_ok _), ?_⟩ | refine ⟨_, known_ok _, ?_⟩ | refine PureAt.call (known_ok _) ?_ | (intro bk hbk; (try simp only [go_sem] at hbk)))); all_goals (refine Wk.fin (by repeat (first | exact Sub.refl _ | refine Sub.upd (by simp [*]) ?_)) ?_; first | (simp [checkV, *]; done) | (simp only [checkV]; (repeat' (first | split | rfl | omega | (simp_all; done))); done) | (simp [checkV, *]; (repeat' (first | split | omega | (rw [Bool.eq_iff_iff]; simp; omega))); done) | (simp [checkV, *])))
def fitV (v : V) : V := if ¬ (0 ≤ v.k ∧ v.k ≤ 6) then v0 else ⟨v.k, max (lo v.k) (min v.n (hi v.k))⟩
theorem fitV_ok (v : V) : Pure Try.prog 44 [encV v] (encV (fitV v)) := by
  intro h; refine callK_body Try.func44 rfl (by rw [nt44]; simp) ?_; rw [nt44, rs44]
  ((repeat' (first | simp [go_sem, X_region, *] | simp (disch := omega) only [om, *] | ((first | refine XC_split ?_ ?_ | refine XG_true ?_ ?_ | refine XG_false ?_ ?_ | refine XRg_true ?_ ?_ | refine XRg_false ?_ ?_) <;> intro hc <;> (try simp only [bl] at hc) <;> (try (exfalso; omega))) | refine XD_w [] [] [] (fun _ => none) mixed (by decide +kernel) (sub_none _) ?_ | refine Pure.call (Range_ok _) ?_ | refine ⟨_, Pure.at (Range_ok _), ?_⟩ | refine ⟨_, Range_ok _, ?_⟩ | refine PureAt.call (Range_ok _) ?_ | refine Pure.call (known_ok _) ?_ | refine ⟨_, Pure.at (known_ok _), ?_⟩ | refine ⟨_, known_ok _, ?_⟩ | refine PureAt.call (known_ok _) ?_ | (intro bk hbk; (try simp only [go_sem] at hbk)))); all_goals (refine Wk.fin (by repeat (first | exact Sub.refl _ | refine Sub.upd (by simp [*]) ?_)) ?_; first | (simp [fitV, v0, *]; done) | (simp only [fitV, v0]; (repeat' (first | split | rfl | omega | (simp_all; done))); done) | (simp [fitV, v0, *]; (repeat' (first | split | omega | (rw [Bool.eq_iff_iff]; simp; omega))); done) | (simp [fitV, v0, *])))
end Go.Proofs.Ytmalhikcdideoaa

set_option linter.unusedVariables false
set_option linter.unusedSimpArgs false
namespace Go.Proofs.Ytmalhikcdideoaa
open Go Sl
attribute [local irreducible] LpQ XR XRo XRg XRQ putQ XFv XL XW2 wQ putW X XO XOp XH XHo XW SeqQ BlkQ XOQ XHQ NrmQ XC XM XG XHM XHG XD CallK

theorem unitary_ok (k : Int) : Pure Try.prog 25 [I k] (B (decide (0 < k ∧ k ≤ 6))) := by
  intro h; refine callK_body Try.func25 rfl (by rw [nt25]; simp) ?_; rw [nt25, rs25]
  ((repeat' (first | simp [go_sem, X_region, *] | simp (disch := omega) only [om, *] | ((first | refine XC_split ?_ ?_ | refine XG_true ?_ ?_ | refine XG_false ?_ ?_ | refine XRg_true ?_ ?_ | refine XRg_false ?_ ?_) <;> intro hc <;> (try simp only [bl] at hc) <;> (try (exfalso; omega))) | refine XD_w [] [] [] (fun _ => none) mixed (by decide +kernel) (sub_none _) ?_ | (intro bk hbk; (try simp only [go_sem] at hbk)))); all_goals (refine Wk.fin (by repeat (first | exact Sub.refl _ | refine Sub.upd (by simp [*]) ?_)) ?_; first | (simp [*]; done) | (simp only []; (repeat' (first | split | rfl | omega | (simp_all; done))); done) | (simp [*]; (repeat' (first | split | omega | (rw [Bool.eq_iff_iff]; simp; omega))); done) | (simp [*])))
def joinK (a b : Int) : Int × Bool := if a = 0 then (b, true) else if b = 0 ∨ a = b then (a, true) else (0, false)
theorem join_ok (a b : Int) : Pure Try.prog 31 [I a, I b] (tup2 (I (joinK a b).1) (B (joinK a b).2)) := by
  intro h; refine callK_body Try.func31 rfl (by rw [nt31]; simp) ?_; rw [nt31, rs31]
  ((repeat' (first | simp [go_sem, X_region, *] | simp (disch := omega) only [om, *] | ((first | refine XC_split ?_ ?_ | refine XG_true ?_ ?_ | refine XG_false ?_ ?_ | refine XRg_true ?_ ?_ | refine XRg_false ?_ ?_) <;> intro hc <;> (try simp only [bl] at hc) <;> (try (exfalso; omega))) | refine XD_w [] [] [] (fun _ => none) mixed (by decide +kernel) (sub_none _) ?_ | (intro bk hbk; (try simp only [go_sem] at hbk)))); all_goals (refine Wk.fin (by repeat (first | exact Sub.refl _ | refine Sub.upd (by simp [*]) ?_)) ?_; first | (simp [joinK, *]; done) | (simp only [joinK]; (repeat' (first | split | rfl | omega | (simp_all; done))); done) | (simp [joinK, *]; (repeat' (first | split | omega | (rw [Bool.eq_iff_iff]; simp; omega))); done) | (simp [joinK, *])))
def sumK (op a b : Int) : Int × Bool := if a = 1 ∨ b = 1 then (0, false) else if a = 0 ∨ b = 0 then (0, decide (b ≠ 4 ∨ op = 11)) else if a = 4 ∧ b = 3 then (4, true) else if a = 4 ∧ b = 4 then (3, decide (op = 11)) else (a, decide (a = b))
theorem sum_ok (op a b : Int) : Pure Try.prog 32 [I op, I a, I b] (tup2 (I (sumK op a b).1) (B (sumK op a b).2)) := by
  intro h; refine callK_body Try.func32 rfl (by rw [nt32]; simp) ?_; rw [nt32, rs32]
  ((repeat' (first | simp [go_sem, X_region, *] | simp (disch := omega) only [om, *] | ((first | refine XC_split ?_ ?_ | refine XG_true ?_ ?_ | refine XG_false ?_ ?_ | refine XRg_true ?_ ?_ | refine XRg_false ?_ ?_) <;> intro hc <;> (try simp only [bl] at hc) <;> (try (exfalso; omega))) | refine XD_w [] [] [] (fun _ => none) mixed (by decide +kernel) (sub_none _) ?_ | (intro bk hbk; (try simp only [go_sem] at hbk)))); all_goals (refine Wk.fin (by repeat (first | exact Sub.refl _ | refine Sub.upd (by simp [*]) ?_)) ?_; first | (simp [sumK, *]; done) | (simp only [sumK]; (repeat' (first | split | rfl | omega | (simp_all; done))); done) | (simp [sumK, *]; (repeat' (first | split | omega | (rw [Bool.eq_iff_iff]; simp; omega))); done) | (simp [sumK, *])))
def yesV (b : Bool) : V := ⟨1, if b then 1 else 0⟩
theorem yes_ok (b : Bool) : Pure Try.prog 40 [B b] (encV (yesV b)) := by
  intro h; refine callK_body Try.func40 rfl (by rw [nt40]; simp) ?_; rw [nt40, rs40]
  ((repeat' (first | simp [go_sem, X_region, *] | simp (disch := omega) only [om, *] | ((first | refine XC_split ?_ ?_ | refine XG_true ?_ ?_ | refine XG_false ?_ ?_ | refine XRg_true ?_ ?_ | refine XRg_false ?_ ?_) <;> intro hc <;> (try simp only [bl] at hc) <;> (try (exfalso; omega))) | refine XD_w [] [] [] (fun _ => none) mixed (by decide +kernel) (sub_none _) ?_ | (intro bk hbk; (try simp only [go_sem] at hbk)))); all_goals (refine Wk.fin (by repeat (first | exact Sub.refl _ | refine Sub.upd (by simp [*]) ?_)) ?_; first | (simp [yesV, encV, *]; done) | (simp only [yesV, encV]; (repeat' (first | split | rfl | omega | (simp_all; done))); done) | (simp [yesV, encV, *]; (repeat' (first | split | omega | (rw [Bool.eq_iff_iff]; simp; omega))); done) | (simp [yesV, encV, *])))
theorem V_eq (a b : V) : (a = b) = (a.k = b.k ∧ a.n = b.n) := by cases a; cases b; simp
def chooseV (c a b : V) : V := if of3 c = 1 then a else if of3 c = 0 then b else if a = b then a else v0
theorem choose_ok (c a b : V) : Pure Try.prog 39 [encV c, encV a, encV b] (encV (chooseV c a b)) := by
  intro h; refine callK_body Try.func39 rfl (by rw [nt39]; simp) ?_; rw [nt39, rs39]
  ((repeat' (first | simp [go_sem, X_region, *] | simp (disch := omega) only [om, *] | ((first | refine XC_split ?_ ?_ | refine XG_true ?_ ?_ | refine XG_false ?_ ?_ | refine XRg_true ?_ ?_ | refine XRg_false ?_ ?_) <;> intro hc <;> (try simp only [bl] at hc) <;> (try (exfalso; omega))) | refine XD_w [] [] [] (fun _ => none) mixed (by decide +kernel) (sub_none _) ?_ | refine Pure.call (of3_ok c) ?_ | refine ⟨_, Pure.at (of3_ok c), ?_⟩ | refine ⟨_, of3_ok c, ?_⟩ | refine PureAt.call (of3_ok c) ?_ | (intro bk hbk; (try simp only [go_sem] at hbk)))); all_goals (refine Wk.fin (by repeat (first | exact Sub.refl _ | refine Sub.upd (by simp [*]) ?_)) ?_; first | (simp [chooseV, v0, V_eq, *]; done) | (simp only [chooseV, v0, V_eq]; (repeat' (first | split | rfl | omega | (simp_all; done))); done) | (simp [chooseV, v0, V_eq, *]; (repeat' (first | split | omega | (rw [Bool.eq_iff_iff]; simp; omega))); done) | (simp [chooseV, v0, V_eq, *])))
def ownE (op kind n : Int) : Int := if op = 0 then (if kind = 0 then 8 else checkV ⟨kind, n⟩) else if op = 17 ∧ (kind < 0 ∨ 5 ≤ kind ∨ n < 1 ∨ 1099511627776 < n) then 1 else 0
theorem own_ok (op kind n : Int) (kids name : AV) : Pure Try.prog 11 [aggL [I op, kids, I kind, I n, name]] (I (ownE op kind n)) := by
  intro h; refine callK_body Try.func11 rfl (by rw [nt11]; simp) ?_; rw [nt11, rs11]
  ((repeat' (first | simp [go_sem, X_region, *] | simp (disch := omega) only [om, *] | ((first | refine XC_split ?_ ?_ | refine XG_true ?_ ?_ | refine XG_false ?_ ?_ | refine XRg_true ?_ ?_ | refine XRg_false ?_ ?_) <;> intro hc <;> (try simp only [bl] at hc) <;> (try (exfalso; omega))) | refine XD_w [] [] [] (fun _ => none) mixed (by decide +kernel) (sub_none _) ?_ | refine Pure.call (checkV_ok ⟨kind, n⟩) ?_ | refine ⟨_, Pure.at (checkV_ok ⟨kind, n⟩), ?_⟩ | refine ⟨_, checkV_ok ⟨kind, n⟩, ?_⟩ | refine PureAt.call (checkV_ok ⟨kind, n⟩) ?_ | (intro bk hbk; (try simp only [go_sem] at hbk)))); all_goals (refine Wk.fin (by repeat (first | exact Sub.refl _ | refine Sub.upd (by simp [*]) ?_)) ?_; first | (simp [ownE, *]; done) | (simp only [ownE]; (repeat' (first | split | rfl | omega | (simp_all; done))); done) | (simp [ownE, *]; (repeat' (first | split | omega | (rw [Bool.eq_iff_iff]; simp; omega))); done) | (simp [ownE, *])))
end Go.Proofs.Ytmalhikcdideoaa

set_option linter.unusedVariables false
set_option linter.unusedSimpArgs false
namespace Go.Proofs.Ytmalhikcdideoaa
open Go Sl
attribute [local irreducible] LpQ XR XRo XRg XRQ putQ XFv XL XW2 wQ putW X XO XOp XH XHo XW SeqQ BlkQ XOQ XHQ NrmQ XC XM XG XHM XHG XD CallK
@[go_sem] def cI (k : Int) : List AV := [I k]
def eitherB (k : Int) : List Int → Bool
  | [] => decide (k = 0)
  | x :: r => if k = x then true else eitherB k r
theorem either_ok (k : Int) (l : List Int) : Pure Try.prog 30 [I k, encL 1 cI l] (B (eitherB k l)) := by
  generalize hR : B (eitherB k l) = R
  intro h; refine CallK.lens fun hlen => ?_; have hlen := (hlen _ (by simp only [List.mem_cons, true_or, or_true] : (encL 1 cI l) ∈ _)).encL; refine callK_body Try.func30 rfl (by rw [nt30]; simp) ?_; rw [nt30, rs30]
  (repeat' (first | simp [go_sem, X_region, *] | simp (disch := omega) only [om, *] | ((first | refine XC_split ?_ ?_ | refine XG_true ?_ ?_ | refine XG_false ?_ ?_ | refine XRg_true ?_ ?_ | refine XRg_false ?_ ?_) <;> intro hc <;> (try simp only [bl] at hc) <;> (try (exfalso; omega))) | refine XD_w [] [] [] (fun _ => none) mixed (by decide +kernel) (sub_none _) ?_ | (intro bk hbk; (try simp only [go_sem] at hbk))))
  refine X_loop (fun n T h' => ∃ (i : Nat) (r : List Int), n = r.length ∧ l.drop i = r ∧ T 9 = I i ∧ B (eitherB k r) = R ∧ T 0 = I k ∧ T 7 = encL 1 cI l ∧ T 8 = I l.length ∧ h' = h) l.length ⟨0, l, by simp [go_sem, hR]⟩ ?_
  clear hR; rintro n T h' ⟨i, r, rfl, hd, h9, hR, h0, h7, h8, rfl⟩
  rcases r with _ | ⟨x, r⟩
  · have hlt := drop_nil hd
    (repeat' (first | simp [go_sem, X_region, *] | simp (disch := omega) only [om, *] | ((first | refine XC_split ?_ ?_ | refine XG_true ?_ ?_ | refine XG_false ?_ ?_ | refine XRg_true ?_ ?_ | refine XRg_false ?_ ?_) <;> intro hc <;> (try simp only [bl] at hc) <;> (try (exfalso; omega))) | refine XD_w [] [] [] (fun _ => none) mixed (by decide +kernel) (sub_none _) ?_ | (intro bk hbk; (try simp only [go_sem] at hbk))))
    all_goals (subst hR; exact Wk.of_eq (by simp [eitherB, *]))
  · obtain ⟨hlt, hx, hd2⟩ := drop_cons hd
    have hw : IntKind.i64.wrap (i + 1) = ((i + 1 : Nat) : Int) := by rw [w64 (by omega) (by omega)]; omega
    (repeat' (first | simp [go_sem, X_region, *] | simp (disch := omega) only [om, *] | ((first | refine XC_split ?_ ?_ | refine XG_true ?_ ?_ | refine XG_false ?_ ?_ | refine XRg_true ?_ ?_ | refine XRg_false ?_ ?_) <;> intro hc <;> (try simp only [bl] at hc) <;> (try (exfalso; omega))) | refine XD_w [] [] [] (fun _ => none) mixed (by decide +kernel) (sub_none _) ?_ | (intro bk hbk; (try simp only [go_sem] at hbk))))
    all_goals first | (subst hR; exact Wk.of_eq (by simp [eitherB, *])) | exact ⟨_, Nat.lt_succ_self _, i + 1, r, rfl, hd2, by simp, by simp only [eitherB] at hR; simp_all⟩
end Go.Proofs.Ytmalhikcdideoaa

set_option linter.unusedVariables false
set_option linter.unusedSimpArgs false
namespace Go.Proofs.Ytmalhikcdideoaa
open Go Sl
attribute [local irreducible] LpQ XR XRo XRg XRQ putQ XFv XL XW2 wQ putW X XO XOp XH XHo XW SeqQ BlkQ XOQ XHQ NrmQ XC XM XG XHM XHG XD CallK
def w (x : Int) : Int := IntKind.i64.wrap x
theorem of_ok (k n : Int) : Pure Try.prog 58 [I k, I n] (encV (fitV ⟨k, n⟩)) := by
  intro h; refine callK_body Try.func58 rfl (by rw [nt58]; simp) ?_; rw [nt58, rs58]
  ((repeat' (first | simp [go_sem, X_region, *] | simp (disch := omega) only [om, *] | ((first | refine XC_split ?_ ?_ | refine XG_true ?_ ?_ | refine XG_false ?_ ?_ | refine XRg_true ?_ ?_ | refine XRg_false ?_ ?_) <;> intro hc <;> (try simp only [bl] at hc) <;> (try (exfalso; omega))) | refine XD_w [] [] [] (fun _ => none) mixed (by decide +kernel) (sub_none _) ?_ | refine Pure.call (fitV_ok ⟨k, n⟩) ?_ | refine ⟨_, Pure.at (fitV_ok ⟨k, n⟩), ?_⟩ | refine ⟨_, fitV_ok ⟨k, n⟩, ?_⟩ | refine PureAt.call (fitV_ok ⟨k, n⟩) ?_ | (intro bk hbk; (try simp only [go_sem] at hbk)))); all_goals (refine Wk.fin (by repeat (first | exact Sub.refl _ | refine Sub.upd (by simp [*]) ?_)) ?_; first | (simp [encV, *]; done) | (simp only [encV]; (repeat' (first | split | rfl | omega | (simp_all; done))); done) | (simp [encV, *]; (repeat' (first | split | omega | (rw [Bool.eq_iff_iff]; simp; omega))); done) | (simp [encV, *])))
def addV (a b : V) : V × Int := let a := fitV a; let b := fitV b
  if a.k = 0 ∨ b.k = 0 then (v0, 0) else if (a.k = b.k ∧ a.k ≠ 1 ∧ a.k ≠ 4) ∨ (a.k = 4 ∧ b.k = 3) then (fitV ⟨a.k, w (a.n + b.n)⟩, 0) else (v0, 8)
theorem add_ok (a b : V) : Pure Try.prog 41 [encV a, encV b] (tup2 (encV (addV a b).1) (I (addV a b).2)) := by
  intro h; refine callK_body Try.func41 rfl (by rw [nt41]; simp) ?_; rw [nt41, rs41]
  ((repeat' (first | simp [go_sem, X_region, *] | simp (disch := omega) only [om, *] | ((first | refine XC_split ?_ ?_ | refine XG_true ?_ ?_ | refine XG_false ?_ ?_ | refine XRg_true ?_ ?_ | refine XRg_false ?_ ?_) <;> intro hc <;> (try simp only [bl] at hc) <;> (try (exfalso; omega))) | refine XD_w [] [] [] (fun _ => none) mixed (by decide +kernel) (sub_none _) ?_ | refine Pure.call (fitV_ok a) ?_ | refine ⟨_, Pure.at (fitV_ok a), ?_⟩ | refine ⟨_, fitV_ok a, ?_⟩ | refine PureAt.call (fitV_ok a) ?_ | refine Pure.call (fitV_ok b) ?_ | refine ⟨_, Pure.at (fitV_ok b), ?_⟩ | refine ⟨_, fitV_ok b, ?_⟩ | refine PureAt.call (fitV_ok b) ?_ | refine Pure.call (of_ok _ _) ?_ | refine ⟨_, Pure.at (of_ok _ _), ?_⟩ | refine ⟨_, of_ok _ _, ?_⟩ | refine PureAt.call (of_ok _ _) ?_ | (intro bk hbk; (try simp only [go_sem] at hbk)))); all_goals (refine Wk.fin (by repeat (first | exact Sub.refl _ | refine Sub.upd (by simp [*]) ?_)) ?_; first | (simp [addV, w, *]; done) | (simp only [addV, w]; (repeat' (first | split | rfl | omega | (simp_all; done))); done) | (simp [addV, w, *]; (repeat' (first | split | omega | (rw [Bool.eq_iff_iff]; simp; omega))); done) | (simp [addV, w, *])))
def subV (a b : V) : V × Int := let a := fitV a; let b := fitV b
  if a.k = 0 ∨ b.k = 0 then (v0, 0) else if a.k = 4 ∧ b.k = 4 then (fitV ⟨3, w (a.n - b.n)⟩, 0) else if (a.k = b.k ∧ a.k ≠ 1) ∨ (a.k = 4 ∧ b.k = 3) then (fitV ⟨a.k, w (a.n - b.n)⟩, 0) else (v0, 8)
theorem sub_ok (a b : V) : Pure Try.prog 42 [encV a, encV b] (tup2 (encV (subV a b).1) (I (subV a b).2)) := by
  intro h; refine callK_body Try.func42 rfl (by rw [nt42]; simp) ?_; rw [nt42, rs42]
  ((repeat' (first | simp [go_sem, X_region, *] | simp (disch := omega) only [om, *] | ((first | refine XC_split ?_ ?_ | refine XG_true ?_ ?_ | refine XG_false ?_ ?_ | refine XRg_true ?_ ?_ | refine XRg_false ?_ ?_) <;> intro hc <;> (try simp only [bl] at hc) <;> (try (exfalso; omega))) | refine XD_w [] [] [] (fun _ => none) mixed (by decide +kernel) (sub_none _) ?_ | refine Pure.call (fitV_ok a) ?_ | refine ⟨_, Pure.at (fitV_ok a), ?_⟩ | refine ⟨_, fitV_ok a, ?_⟩ | refine PureAt.call (fitV_ok a) ?_ | refine Pure.call (fitV_ok b) ?_ | refine ⟨_, Pure.at (fitV_ok b), ?_⟩ | refine ⟨_, fitV_ok b, ?_⟩ | refine PureAt.call (fitV_ok b) ?_ | refine Pure.call (of_ok _ _) ?_ | refine ⟨_, Pure.at (of_ok _ _), ?_⟩ | refine ⟨_, of_ok _ _, ?_⟩ | refine PureAt.call (of_ok _ _) ?_ | (intro bk hbk; (try simp only [go_sem] at hbk)))); all_goals (refine Wk.fin (by repeat (first | exact Sub.refl _ | refine Sub.upd (by simp [*]) ?_)) ?_; first | (simp [subV, w, *]; done) | (simp only [subV, w]; (repeat' (first | split | rfl | omega | (simp_all; done))); done) | (simp [subV, w, *]; (repeat' (first | split | omega | (rw [Bool.eq_iff_iff]; simp; omega))); done) | (simp [subV, w, *])))
end Go.Proofs.Ytmalhikcdideoaa

set_option linter.unusedVariables false
set_option linter.unusedSimpArgs false
namespace Go.Proofs.Ytmalhikcdideoaa
open Go Sl
attribute [local irreducible] LpQ XR XRo XRg XRQ putQ XFv XL XW2 wQ putW X XO XOp XH XHo XW SeqQ BlkQ XOQ XHQ NrmQ XC XM XG XHM XHG XD CallK
abbrev U (n : Int) : AV := .v (.int .u64 n)
theorem and32 (z : Int) (h0 : 0 ≤ z) (h1 : z < 18446744073709551616) : band .u64 z 4294967295 = z % 4294967296 := and_low32 z h0 h1
theorem u64_in (n : Int) : 0 ≤ IntKind.u64.wrap n ∧ IntKind.u64.wrap n < 18446744073709551616 := by rw [IntKind.wrap_u64]; omega
theorem and32w (n : Int) : band .u64 (IntKind.u64.wrap n) 4294967295 = (IntKind.u64.wrap n) % 4294967296 := and32 _ (u64_in n).1 (u64_in n).2
theorem fd32 (n : Int) : n.fdiv 4294967296 = n / 4294967296 := Int.fdiv_eq_ediv_of_nonneg _ (by omega)
theorem mul64_ok (x y : Int) (hx0 : 0 ≤ x) (hx : x < 18446744073709551616) (hy0 : 0 ≤ y) (hy : y < 18446744073709551616) : Pure Try.prog 62 [U x, U y] (tup2 (U (x * y / 18446744073709551616)) (U (x * y % 18446744073709551616))) := by
  intro h; refine callK_body Try.func62 rfl (by rw [nt62]; simp) ?_; rw [nt62, rs62]
  (repeat' (first | simp [go_sem, X_region, *] | simp (disch := omega) only [om, *] | ((first | refine XC_split ?_ ?_ | refine XG_true ?_ ?_ | refine XG_false ?_ ?_ | refine XRg_true ?_ ?_ | refine XRg_false ?_ ?_) <;> intro hc <;> (try simp only [bl] at hc) <;> (try (exfalso; omega))) | refine XD_w [] [] [] (fun _ => none) mixed (by decide +kernel) (sub_none _) ?_ | (intro bk hbk; (try simp only [go_sem] at hbk))))
  refine Wk.of_eq ?_
  have hm := mul64_arith x y hx0 hx hy0 hy
  simp only [and32w, and32 x hx0 hx, and32 y hy0 hy, fd32]
  simp only [IntKind.wrap_u64]
  rw [hm]
set_option maxRecDepth 100000 in
theorem len64_ok : Pure Try.prog 86 [U 1000000] (I 20) := by
  intro h; refine callK_body Try.func86 rfl (by rw [nt86]; simp) ?_; rw [nt86, rs86]
  have e8 : IntKind.u8.wrap 15 = 15 := by decide
  (repeat' (first | simp [go_sem, X_region, *] | simp (disch := omega) only [om, *] | ((first | refine XC_split ?_ ?_ | refine XG_true ?_ ?_ | refine XG_false ?_ ?_ | refine XRg_true ?_ ?_ | refine XRg_false ?_ ?_) <;> intro hc <;> (try simp only [bl] at hc) <;> (try (exfalso; omega))) | refine XD_w [] [] [] (fun _ => none) mixed (by decide +kernel) (sub_none _) ?_ | (intro bk hbk; (try simp only [go_sem] at hbk))))
  exact Wk.of_eq (congrArg (fun n => I n) (by decide +kernel))
theorem lz64_ok : Pure Try.prog 77 [U 1000000] (I 44) := by
  intro h; refine callK_body Try.func77 rfl (by rw [nt77]; simp) ?_; rw [nt77, rs77]
  (repeat' (first | simp [go_sem, X_region, *] | simp (disch := omega) only [om, *] | ((first | refine XC_split ?_ ?_ | refine XG_true ?_ ?_ | refine XG_false ?_ ?_ | refine XRg_true ?_ ?_ | refine XRg_false ?_ ?_) <;> intro hc <;> (try simp only [bl] at hc) <;> (try (exfalso; omega))) | refine XD_w [] [] [] (fun _ => none) mixed (by decide +kernel) (sub_none _) ?_ | refine Pure.call (len64_ok) ?_ | refine ⟨_, Pure.at (len64_ok), ?_⟩ | refine ⟨_, len64_ok, ?_⟩ | refine PureAt.call (len64_ok) ?_ | (intro bk hbk; (try simp only [go_sem] at hbk))))
end Go.Proofs.Ytmalhikcdideoaa

set_option linter.unusedVariables false
set_option linter.unusedSimpArgs false
namespace Go.Proofs.Ytmalhikcdideoaa
open Go Sl
attribute [local irreducible] LpQ XR XRo XRg XRQ putQ XFv XL XW2 wQ putW X XO XOp XH XHo XW SeqQ BlkQ XOQ XHQ NrmQ XC XM XG XHM XHG XD CallK
theorem fdp (n m : Int) (h : 0 < m) : n.fdiv m = n / m := Int.fdiv_eq_ediv_of_nonneg _ (by omega)
theorem wu {x : Int} (h0 : 0 ≤ x) (h1 : x < 18446744073709551616) : IntKind.u64.wrap x = x := by rw [IntKind.wrap_u64]; omega
theorem bor44 (x y : Int) (h0 : 0 ≤ x) (h1 : x % 17592186044416 = 0) (h2 : x < 18446744073709551616) (h3 : 0 ≤ y) (h4 : y < 17592186044416) : bor .u64 x y = x + y :=
  bits_join .u64 64 (by decide) (fun n a b => wraps_u64 n a b) 44 x y h0 h1 (by omega) h3 (by omega) (by omega)
theorem div64_0 (lo : Int) (h2 : 0 ≤ lo) (h3 : lo < 18446744073709551616) : Pure Try.prog 64 [U 0, U lo, U 1000000] (tup2 (U (lo / 1000000)) (U (lo % 1000000))) := by
  intro h; refine callK_body Try.func64 rfl (by rw [nt64]; simp) ?_; rw [nt64, rs64]
  have e1 : IntKind.u64.wrap (lo.tdiv 1000000) = lo / 1000000 := by rw [Int.tdiv_eq_ediv_of_nonneg h2, wu (by omega) (by omega)]
  have e2 : lo.tmod 1000000 = lo % 1000000 := Int.tmod_eq_emod_of_nonneg h2
  (repeat' (first | simp [go_sem, X_region, *] | simp (disch := omega) only [om, *] | ((first | refine XC_split ?_ ?_ | refine XG_true ?_ ?_ | refine XG_false ?_ ?_ | refine XRg_true ?_ ?_ | refine XRg_false ?_ ?_) <;> intro hc <;> (try simp only [bl] at hc) <;> (try (exfalso; omega))) | refine XD_w [] [] [] (fun _ => none) mixed (by decide +kernel) (sub_none _) ?_ | (intro bk hbk; (try simp only [go_sem] at hbk))))
  all_goals exact Wk.of_eq (by simp [*])
theorem div64_1 (hi lo : Int) (h0 : 0 ≤ hi) (h1 : hi < 1000000) (hz : ¬ hi = 0) (h2 : 0 ≤ lo) (h3 : lo < 18446744073709551616) : Pure Try.prog 64 [U hi, U lo, U 1000000] (tup2 (U ((hi * 18446744073709551616 + lo) / 1000000)) (U ((hi * 18446744073709551616 + lo) % 1000000))) := by
  intro h; refine callK_body Try.func64 rfl (by rw [nt64]; simp) ?_; rw [nt64, rs64]
  have hlt : ¬ 1000000 ≤ hi := by omega
  (repeat' (first | simp [go_sem, *] | simp (disch := omega) only [om, *] | ((first | refine XC_split ?_ ?_ | refine XG_true ?_ ?_ | refine XG_false ?_ ?_ | refine XRg_true ?_ ?_ | refine XRg_false ?_ ?_) <;> intro hc <;> (try simp only [bl] at hc) <;> (try (exfalso; omega))) | refine XD_w [] [] [] (fun _ => none) mixed (by decide +kernel) (sub_none _) ?_ | (intro bk hbk; (try simp only [go_sem] at hbk))))
  simp only [X_region]
  (repeat' (first | simp [go_sem, *] | simp (disch := omega) only [om, *] | ((first | refine XC_split ?_ ?_ | refine XG_true ?_ ?_ | refine XG_false ?_ ?_ | refine XRg_true ?_ ?_ | refine XRg_false ?_ ?_) <;> intro hc <;> (try simp only [bl] at hc) <;> (try (exfalso; omega))) | refine XD_w [] [] [] (fun _ => none) mixed (by decide +kernel) (sub_none _) ?_ | (intro bk hbk; (try simp only [go_sem] at hbk))))
  simp only [X_region]
  (repeat' (first | simp [go_sem, *] | simp (disch := omega) only [om, *] | ((first | refine XC_split ?_ ?_ | refine XG_true ?_ ?_ | refine XG_false ?_ ?_ | refine XRg_true ?_ ?_ | refine XRg_false ?_ ?_) <;> intro hc <;> (try simp only [bl] at hc) <;> (try (exfalso; omega))) | refine XD_w [] [] [] (fun _ => none) mixed (by decide +kernel) (sub_none _) ?_ | (intro bk hbk; (try simp only [go_sem] at hbk))))
  simp only [X_region]
  (repeat' (first | simp [go_sem, *] | simp (disch := omega) only [om, *] | ((first | refine XC_split ?_ ?_ | refine XG_true ?_ ?_ | refine XG_false ?_ ?_ | refine XRg_true ?_ ?_ | refine XRg_false ?_ ?_) <;> intro hc <;> (try simp only [bl] at hc) <;> (try (exfalso; omega))) | refine XD_w [] [] [] (fun _ => none) mixed (by decide +kernel) (sub_none _) ?_ | (intro bk hbk; (try simp only [go_sem] at hbk))))
  simp only [X_region]
  (repeat' (first | simp [go_sem, *] | simp (disch := omega) only [om, *] | ((first | refine XC_split ?_ ?_ | refine XG_true ?_ ?_ | refine XG_false ?_ ?_ | refine XRg_true ?_ ?_ | refine XRg_false ?_ ?_) <;> intro hc <;> (try simp only [bl] at hc) <;> (try (exfalso; omega))) | refine XD_w [] [] [] (fun _ => none) mixed (by decide +kernel) (sub_none _) ?_ | (intro bk hbk; (try simp only [go_sem] at hbk))))
  refine X_abs (fun T => T 0 = U hi ∧ T 1 = U lo ∧ T 2 = U 1000000) (by simp [go_sem, *]) ?_
  rintro T ⟨t0, t1, t2⟩
  have e44 : IntKind.u64.wrap 44 = 44 := by decide
  have eY : IntKind.u64.wrap 17592186044416000000 = 17592186044416000000 := by decide
  have eQ : (17592186044416000000 : Int).fdiv 4294967296 = 4096000000 := by decide
  have eR : band .u64 17592186044416000000 4294967295 = 0 := by rw [and32 _ (by omega) (by omega)]; omega
  (repeat' (first | simp [go_sem, *] | simp (disch := omega) only [om, *] | ((first | refine XC_split ?_ ?_ | refine XG_true ?_ ?_ | refine XG_false ?_ ?_ | refine XRg_true ?_ ?_ | refine XRg_false ?_ ?_) <;> intro hc <;> (try simp only [bl] at hc) <;> (try (exfalso; omega))) | refine XD_w [] [] [] (fun _ => none) mixed (by decide +kernel) (sub_none _) ?_ | refine Pure.call (lz64_ok) ?_ | refine ⟨_, Pure.at (lz64_ok), ?_⟩ | refine ⟨_, lz64_ok, ?_⟩ | refine PureAt.call (lz64_ok) ?_ | (intro bk hbk; (try simp only [go_sem] at hbk))))
  simp only [X_region]
  (repeat' (first | simp [go_sem, *] | simp (disch := omega) only [om, *] | ((first | refine XC_split ?_ ?_ | refine XG_true ?_ ?_ | refine XG_false ?_ ?_ | refine XRg_true ?_ ?_ | refine XRg_false ?_ ?_) <;> intro hc <;> (try simp only [bl] at hc) <;> (try (exfalso; omega))) | refine XD_w [] [] [] (fun _ => none) mixed (by decide +kernel) (sub_none _) ?_ | refine Pure.call (lz64_ok) ?_ | refine ⟨_, Pure.at (lz64_ok), ?_⟩ | refine ⟨_, lz64_ok, ?_⟩ | refine PureAt.call (lz64_ok) ?_ | (intro bk hbk; (try simp only [go_sem] at hbk))))
  simp only [X_region]
  (repeat' (first | simp [go_sem, *] | simp (disch := omega) only [om, *] | ((first | refine XC_split ?_ ?_ | refine XG_true ?_ ?_ | refine XG_false ?_ ?_ | refine XRg_true ?_ ?_ | refine XRg_false ?_ ?_) <;> intro hc <;> (try simp only [bl] at hc) <;> (try (exfalso; omega))) | refine XD_w [] [] [] (fun _ => none) mixed (by decide +kernel) (sub_none _) ?_ | refine Pure.call (lz64_ok) ?_ | refine ⟨_, Pure.at (lz64_ok), ?_⟩ | refine ⟨_, lz64_ok, ?_⟩ | refine PureAt.call (lz64_ok) ?_ | (intro bk hbk; (try simp only [go_sem] at hbk))))
  simp only [X_region]
  (repeat' (first | simp [go_sem, *] | simp (disch := omega) only [om, *] | ((first | refine XC_split ?_ ?_ | refine XG_true ?_ ?_ | refine XG_false ?_ ?_ | refine XRg_true ?_ ?_ | refine XRg_false ?_ ?_) <;> intro hc <;> (try simp only [bl] at hc) <;> (try (exfalso; omega))) | refine XD_w [] [] [] (fun _ => none) mixed (by decide +kernel) (sub_none _) ?_ | refine Pure.call (lz64_ok) ?_ | refine ⟨_, Pure.at (lz64_ok), ?_⟩ | refine ⟨_, lz64_ok, ?_⟩ | refine PureAt.call (lz64_ok) ?_ | (intro bk hbk; (try simp only [go_sem] at hbk))))
  simp only [X_region]
  (repeat' (first | simp [go_sem, *] | simp (disch := omega) only [om, *] | ((first | refine XC_split ?_ ?_ | refine XG_true ?_ ?_ | refine XG_false ?_ ?_ | refine XRg_true ?_ ?_ | refine XRg_false ?_ ?_) <;> intro hc <;> (try simp only [bl] at hc) <;> (try (exfalso; omega))) | refine XD_w [] [] [] (fun _ => none) mixed (by decide +kernel) (sub_none _) ?_ | refine Pure.call (lz64_ok) ?_ | refine ⟨_, Pure.at (lz64_ok), ?_⟩ | refine ⟨_, lz64_ok, ?_⟩ | refine PureAt.call (lz64_ok) ?_ | (intro bk hbk; (try simp only [go_sem] at hbk))))
  refine X_abs (fun T => T 0 = U hi ∧ T 1 = U lo ∧ T 2 = U 17592186044416000000 ∧ T 8 = U 44 ∧ T 9 = U 4096000000 ∧ T 10 = U 0) (by simp [go_sem, *]) ?_
  rintro T ⟨t0, t1, t2, t8, t9, t10⟩
  obtain ⟨A, hA⟩ : ∃ A, hi * 17592186044416 + lo / 1048576 = A := ⟨_, rfl⟩
  obtain ⟨L, hL⟩ : ∃ L, lo * 17592186044416 % 18446744073709551616 = L := ⟨_, rfl⟩
  have e20 : IntKind.u64.wrap 20 = 20 := by decide
  have w1 : IntKind.u64.wrap (hi * 17592186044416) = hi * 17592186044416 := wu (by omega) (by omega)
  have f1 : lo.fdiv 1048576 = lo / 1048576 := fdp _ _ (by omega)
  have b1 : bor .u64 (hi * 17592186044416) (lo / 1048576) = A := by rw [bor44 _ _ (by omega) (by omega) (by omega) (by omega) (by omega), hA]
  have w2 : IntKind.u64.wrap (lo * 17592186044416) = L := by rw [IntKind.wrap_u64, hL]
  (repeat' (first | simp [go_sem, *] | simp (disch := omega) only [om, *] | ((first | refine XC_split ?_ ?_ | refine XG_true ?_ ?_ | refine XG_false ?_ ?_ | refine XRg_true ?_ ?_ | refine XRg_false ?_ ?_) <;> intro hc <;> (try simp only [bl] at hc) <;> (try (exfalso; omega))) | refine XD_w [] [] [] (fun _ => none) mixed (by decide +kernel) (sub_none _) ?_ | (intro bk hbk; (try simp only [go_sem] at hbk))))
  simp only [X_region]
  (repeat' (first | simp [go_sem, *] | simp (disch := omega) only [om, *] | ((first | refine XC_split ?_ ?_ | refine XG_true ?_ ?_ | refine XG_false ?_ ?_ | refine XRg_true ?_ ?_ | refine XRg_false ?_ ?_) <;> intro hc <;> (try simp only [bl] at hc) <;> (try (exfalso; omega))) | refine XD_w [] [] [] (fun _ => none) mixed (by decide +kernel) (sub_none _) ?_ | (intro bk hbk; (try simp only [go_sem] at hbk))))
  simp only [X_region]
  (repeat' (first | simp [go_sem, *] | simp (disch := omega) only [om, *] | ((first | refine XC_split ?_ ?_ | refine XG_true ?_ ?_ | refine XG_false ?_ ?_ | refine XRg_true ?_ ?_ | refine XRg_false ?_ ?_) <;> intro hc <;> (try simp only [bl] at hc) <;> (try (exfalso; omega))) | refine XD_w [] [] [] (fun _ => none) mixed (by decide +kernel) (sub_none _) ?_ | (intro bk hbk; (try simp only [go_sem] at hbk))))
  refine X_abs (fun T => T 2 = U 17592186044416000000 ∧ T 8 = U 44 ∧ T 9 = U 4096000000 ∧ T 10 = U 0 ∧ T 11 = U A ∧ T 12 = U L) (by simp [go_sem, *]) ?_
  rintro T ⟨t2, t8, t9, t10, t11, t12⟩
  have f2 : L.fdiv 4294967296 = L / 4294967296 := fdp _ _ (by omega)
  have b2 : band .u64 L 4294967295 = L % 4294967296 := and32 _ (by omega) (by omega)
  have w3 : IntKind.u64.wrap (A.tdiv 4096000000) = A / 4096000000 := by rw [Int.tdiv_eq_ediv_of_nonneg (by omega), wu (by omega) (by omega)]
  have w4 : IntKind.u64.wrap (A / 4096000000 * 4096000000) = A / 4096000000 * 4096000000 := wu (by omega) (by omega)
  have w5 : IntKind.u64.wrap (A - A / 4096000000 * 4096000000) = A % 4096000000 := by rw [wu (by omega) (by omega)]; omega
  (repeat' (first | simp [go_sem, *] | simp (disch := omega) only [om, *] | ((first | refine XC_split ?_ ?_ | refine XG_true ?_ ?_ | refine XG_false ?_ ?_ | refine XRg_true ?_ ?_ | refine XRg_false ?_ ?_) <;> intro hc <;> (try simp only [bl] at hc) <;> (try (exfalso; omega))) | refine XD_w [] [] [] (fun _ => none) mixed (by decide +kernel) (sub_none _) ?_ | (intro bk hbk; (try simp only [go_sem] at hbk))))
  simp only [X_region]
  (repeat' (first | simp [go_sem, *] | simp (disch := omega) only [om, *] | ((first | refine XC_split ?_ ?_ | refine XG_true ?_ ?_ | refine XG_false ?_ ?_ | refine XRg_true ?_ ?_ | refine XRg_false ?_ ?_) <;> intro hc <;> (try simp only [bl] at hc) <;> (try (exfalso; omega))) | refine XD_w [] [] [] (fun _ => none) mixed (by decide +kernel) (sub_none _) ?_ | (intro bk hbk; (try simp only [go_sem] at hbk))))
  simp only [X_region]
  (repeat' (first | simp [go_sem, *] | simp (disch := omega) only [om, *] | ((first | refine XC_split ?_ ?_ | refine XG_true ?_ ?_ | refine XG_false ?_ ?_ | refine XRg_true ?_ ?_ | refine XRg_false ?_ ?_) <;> intro hc <;> (try simp only [bl] at hc) <;> (try (exfalso; omega))) | refine XD_w [] [] [] (fun _ => none) mixed (by decide +kernel) (sub_none _) ?_ | (intro bk hbk; (try simp only [go_sem] at hbk))))
  simp only [X_region]
  (repeat' (first | simp [go_sem, *] | simp (disch := omega) only [om, *] | ((first | refine XC_split ?_ ?_ | refine XG_true ?_ ?_ | refine XG_false ?_ ?_ | refine XRg_true ?_ ?_ | refine XRg_false ?_ ?_) <;> intro hc <;> (try simp only [bl] at hc) <;> (try (exfalso; omega))) | refine XD_w [] [] [] (fun _ => none) mixed (by decide +kernel) (sub_none _) ?_ | (intro bk hbk; (try simp only [go_sem] at hbk))))
  simp only [X_region]
  (repeat' (first | simp [go_sem, *] | simp (disch := omega) only [om, *] | ((first | refine XC_split ?_ ?_ | refine XG_true ?_ ?_ | refine XG_false ?_ ?_ | refine XRg_true ?_ ?_ | refine XRg_false ?_ ?_) <;> intro hc <;> (try simp only [bl] at hc) <;> (try (exfalso; omega))) | refine XD_w [] [] [] (fun _ => none) mixed (by decide +kernel) (sub_none _) ?_ | (intro bk hbk; (try simp only [go_sem] at hbk))))
  obtain ⟨q, hq⟩ : ∃ q, A / 4096000000 = q := ⟨_, rfl⟩
  obtain ⟨r, hr⟩ : ∃ r, A % 4096000000 = r := ⟨_, rfl⟩
  obtain ⟨u1, hu1⟩ : ∃ u1, L / 4294967296 = u1 := ⟨_, rfl⟩
  obtain ⟨u0, hu0⟩ : ∃ u0, L % 4294967296 = u0 := ⟨_, rfl⟩
  refine X_abs (fun T => T 2 = U 17592186044416000000 ∧ T 8 = U 44 ∧ T 9 = U 4096000000 ∧ T 10 = U 0 ∧ T 11 = U A ∧ T 13 = U u1 ∧ T 14 = U u0 ∧ T 15 = U q ∧ T 16 = U r) (by simp [go_sem, *]) ?_
  rintro T ⟨t2, t8, t9, t10, t11, t13, t14, t15, t16⟩
  have z0 : IntKind.u64.wrap 0 = 0 := by decide
  have w6 : IntKind.u64.wrap (4294967296 * r) = 4294967296 * r := wu (by omega) (by omega)
  have w7 : IntKind.u64.wrap (4294967296 * r + u1) = 4294967296 * r + u1 := wu (by omega) (by omega)
  have c1 : ¬ (4294967296 ≤ q) := by omega
  have c2 : ¬ (4294967296 * r + u1 < 0) := by omega
  refine X_loop (fun n T' h' => n = 0 ∧ T' = T ∧ h' = h) 0 ⟨rfl, rfl, rfl⟩ ?_
  rintro n T h ⟨rfl, rfl, rfl⟩
  (repeat' (first | simp [go_sem, *] | simp (disch := omega) only [om, *] | ((first | refine XC_split ?_ ?_ | refine XG_true ?_ ?_ | refine XG_false ?_ ?_ | refine XRg_true ?_ ?_ | refine XRg_false ?_ ?_) <;> intro hc <;> (try simp only [bl] at hc) <;> (try (exfalso; omega))) | refine XD_w [] [] [] (fun _ => none) mixed (by decide +kernel) (sub_none _) ?_ | (intro bk hbk; (try simp only [go_sem] at hbk))))
  simp only [X_region]
  (repeat' (first | simp [go_sem, *] | simp (disch := omega) only [om, *] | ((first | refine XC_split ?_ ?_ | refine XG_true ?_ ?_ | refine XG_false ?_ ?_ | refine XRg_true ?_ ?_ | refine XRg_false ?_ ?_) <;> intro hc <;> (try simp only [bl] at hc) <;> (try (exfalso; omega))) | refine XD_w [] [] [] (fun _ => none) mixed (by decide +kernel) (sub_none _) ?_ | (intro bk hbk; (try simp only [go_sem] at hbk))))
  obtain ⟨B, hB⟩ : ∃ B, r * 4294967296 + u1 = B := ⟨_, rfl⟩
  have w9 : IntKind.u64.wrap (IntKind.u64.wrap (IntKind.u64.wrap (A * 4294967296) + u1) - IntKind.u64.wrap (q * 17592186044416000000)) = B := by simp only [IntKind.wrap_u64]; omega
  have w10 : IntKind.u64.wrap (B.tdiv 4096000000) = B / 4096000000 := by rw [Int.tdiv_eq_ediv_of_nonneg (by omega), wu (by omega) (by omega)]
  have w11 : IntKind.u64.wrap (B / 4096000000 * 4096000000) = B / 4096000000 * 4096000000 := wu (by omega) (by omega)
  have w12 : IntKind.u64.wrap (B - B / 4096000000 * 4096000000) = B % 4096000000 := by rw [wu (by omega) (by omega)]; omega
  (repeat' (first | simp [go_sem, *] | simp (disch := omega) only [om, *] | ((first | refine XC_split ?_ ?_ | refine XG_true ?_ ?_ | refine XG_false ?_ ?_ | refine XRg_true ?_ ?_ | refine XRg_false ?_ ?_) <;> intro hc <;> (try simp only [bl] at hc) <;> (try (exfalso; omega))) | refine XD_w [] [] [] (fun _ => none) mixed (by decide +kernel) (sub_none _) ?_ | (intro bk hbk; (try simp only [go_sem] at hbk))))
  simp only [X_region]
  (repeat' (first | simp [go_sem, *] | simp (disch := omega) only [om, *] | ((first | refine XC_split ?_ ?_ | refine XG_true ?_ ?_ | refine XG_false ?_ ?_ | refine XRg_true ?_ ?_ | refine XRg_false ?_ ?_) <;> intro hc <;> (try simp only [bl] at hc) <;> (try (exfalso; omega))) | refine XD_w [] [] [] (fun _ => none) mixed (by decide +kernel) (sub_none _) ?_ | (intro bk hbk; (try simp only [go_sem] at hbk))))
  simp only [X_region]
  (repeat' (first | simp [go_sem, *] | simp (disch := omega) only [om, *] | ((first | refine XC_split ?_ ?_ | refine XG_true ?_ ?_ | refine XG_false ?_ ?_ | refine XRg_true ?_ ?_ | refine XRg_false ?_ ?_) <;> intro hc <;> (try simp only [bl] at hc) <;> (try (exfalso; omega))) | refine XD_w [] [] [] (fun _ => none) mixed (by decide +kernel) (sub_none _) ?_ | (intro bk hbk; (try simp only [go_sem] at hbk))))
  simp only [X_region]
  (repeat' (first | simp [go_sem, *] | simp (disch := omega) only [om, *] | ((first | refine XC_split ?_ ?_ | refine XG_true ?_ ?_ | refine XG_false ?_ ?_ | refine XRg_true ?_ ?_ | refine XRg_false ?_ ?_) <;> intro hc <;> (try simp only [bl] at hc) <;> (try (exfalso; omega))) | refine XD_w [] [] [] (fun _ => none) mixed (by decide +kernel) (sub_none _) ?_ | (intro bk hbk; (try simp only [go_sem] at hbk))))
  obtain ⟨q0, hq0⟩ : ∃ q0, B / 4096000000 = q0 := ⟨_, rfl⟩
  obtain ⟨s, hs⟩ : ∃ s, B % 4096000000 = s := ⟨_, rfl⟩
  refine X_abs (fun T => T 2 = U 17592186044416000000 ∧ T 8 = U 44 ∧ T 9 = U 4096000000 ∧ T 10 = U 0 ∧ T 14 = U u0 ∧ T 15 = U q ∧ T 16 = U s ∧ T 17 = U B ∧ T 18 = U q0) (by simp [go_sem, *]) ?_
  rintro T ⟨t2, t8, t9, t10, t14, t15, t16, t17, t18⟩
  have w13 : IntKind.u64.wrap (4294967296 * s) = 4294967296 * s := wu (by omega) (by omega)
  have w14 : IntKind.u64.wrap (4294967296 * s + u0) = 4294967296 * s + u0 := wu (by omega) (by omega)
  have c3 : ¬ (4294967296 ≤ q0) := by omega
  have c4 : ¬ (4294967296 * s + u0 < 0) := by omega
  refine X_loop (fun n T' h' => n = 0 ∧ T' = T ∧ h' = h) 0 ⟨rfl, rfl, rfl⟩ ?_
  rintro n T h ⟨rfl, rfl, rfl⟩
  have e44b : (2 : Int) ^ 44 = 17592186044416 := by decide
  have w15 : IntKind.u64.wrap (q * 4294967296) = q * 4294967296 := wu (by omega) (by omega)
  have w16 : IntKind.u64.wrap (q * 4294967296 + q0) = q * 4294967296 + q0 := wu (by omega) (by omega)
  have w17 : IntKind.u64.wrap (IntKind.u64.wrap (IntKind.u64.wrap (B * 4294967296) + u0) - IntKind.u64.wrap (q0 * 17592186044416000000)) = s * 4294967296 + u0 := by simp only [IntKind.wrap_u64]; omega
  have w18 : (s * 4294967296 + u0).fdiv 17592186044416 = (s * 4294967296 + u0) / 17592186044416 := fdp _ _ (by omega)
  (repeat' (first | simp [go_sem, X_region, *] | simp (disch := omega) only [om, *] | ((first | refine XC_split ?_ ?_ | refine XG_true ?_ ?_ | refine XG_false ?_ ?_ | refine XRg_true ?_ ?_ | refine XRg_false ?_ ?_) <;> intro hc <;> (try simp only [bl] at hc) <;> (try (exfalso; omega))) | refine XD_w [] [] [] (fun _ => none) mixed (by decide +kernel) (sub_none _) ?_ | (intro bk hbk; (try simp only [go_sem] at hbk))))
  have hN : (hi * 18446744073709551616 + lo) * 17592186044416 = (q * 4294967296 + q0) * 17592186044416000000 + (s * 4294967296 + u0) := by omega
  obtain ⟨Q, hQ⟩ : ∃ Q, q * 4294967296 + q0 = Q := ⟨_, rfl⟩
  obtain ⟨R, hR⟩ : ∃ R, s * 4294967296 + u0 = R := ⟨_, rfl⟩
  have hR0 : 0 ≤ R ∧ R < 17592186044416000000 := by omega
  rw [hQ, hR] at hN ⊢
  clear w6 w7 w9 w10 w11 w12 w13 w14 w15 w16 w17 w18 w1 w2 w3 w4 w5
  exact Wk.of_eq (by rw [show (hi * 18446744073709551616 + lo) / 1000000 = Q by omega, show (hi * 18446744073709551616 + lo) % 1000000 = R / 17592186044416 by omega])
theorem div64_ok (hi lo : Int) (h0 : 0 ≤ hi) (h1 : hi < 1000000) (h2 : 0 ≤ lo) (h3 : lo < 18446744073709551616) : Pure Try.prog 64 [U hi, U lo, U 1000000] (tup2 (U ((hi * 18446744073709551616 + lo) / 1000000)) (U ((hi * 18446744073709551616 + lo) % 1000000))) := by
  by_cases hz : hi = 0
  · subst hz; simpa using div64_0 lo h2 h3
  · exact div64_1 hi lo h0 h1 hz h2 h3
end Go.Proofs.Ytmalhikcdideoaa

set_option linter.unusedVariables false
set_option linter.unusedSimpArgs false
namespace Go.Proofs.Ytmalhikcdideoaa
open Go Sl
attribute [local irreducible] LpQ XR XRo XRg XRQ putQ XFv XL XW2 wQ putW X XO XOp XH XHo XW SeqQ BlkQ XOQ XHQ NrmQ XC XM XG XHM XHG XD CallK
theorem add64_ok (x y : Int) (hx : 0 ≤ x) (hy : 0 ≤ y) : Ext Try.prog 63 [U x, U y, U 0] (tup2 (U ((x + y) % 18446744073709551616)) (U ((x + y) / 18446744073709551616))) := by
  intro w h vals hh ha
  obtain ⟨u1, e1, r1⟩ := ha.2 0 _ rfl
  obtain ⟨u2, e2, r2⟩ := ha.2 1 _ rfl
  obtain ⟨u3, e3, r3⟩ := ha.2 2 _ rfl
  cases r1; cases r2; cases r3
  have hv : vals = #[.int .u64 x, .int .u64 y, .int .u64 0] := by
    have h1 := ha.1
    apply Array.ext
    · simpa using h1
    · intro i h2 h3
      match i, h3 with
      | 0, _ => rw [Array.getElem?_eq_getElem h2] at e1; simpa using e1
      | 1, _ => rw [Array.getElem?_eq_getElem h2] at e2; simpa using e2
      | 2, _ => rw [Array.getElem?_eq_getElem h2] at e3; simpa using e3
  subst hv
  refine ⟨.tuple #[.int .u64 ((x + y) % 18446744073709551616), .int .u64 ((x + y) / 18446744073709551616)], ?_, _, rfl, rfl, fun j hj => ?_⟩
  · rw [run_callFunc_extern Try.func63 (by kernel_rfl) (by kernel_rfl) (by kernel_rfl) (e := add64Entry) (by kernel_rfl), run_add64 x y 0 hx hy (by omega) (by omega), Int.add_zero]
    rfl
  · match j, hj with
    | 0, _ => exact ⟨_, rfl, rfl⟩
    | 1, _ => exact ⟨_, rfl, rfl⟩
def absI (n : Int) : Int := max n (-n)
theorem size_ok (n : Int) (h0 : -9223372036854775807 ≤ n) (h1 : n ≤ 9223372036854775807) : Pure Try.prog 76 [I n] (U (absI n)) := by
  have e1 : IntKind.i64.wrap (-n) = -n := w64 (by omega) (by omega)
  have e2 : IntKind.u64.wrap (max n (-n)) = max n (-n) := wu (by omega) (by omega)
  intro h; refine callK_body Try.func76 rfl (by rw [nt76]; simp) ?_; rw [nt76, rs76]
  ((repeat' (first | simp [go_sem, X_region, *] | simp (disch := omega) only [om, *] | ((first | refine XC_split ?_ ?_ | refine XG_true ?_ ?_ | refine XG_false ?_ ?_ | refine XRg_true ?_ ?_ | refine XRg_false ?_ ?_) <;> intro hc <;> (try simp only [bl] at hc) <;> (try (exfalso; omega))) | refine XD_w [] [] [] (fun _ => none) mixed (by decide +kernel) (sub_none _) ?_ | (intro bk hbk; (try simp only [go_sem] at hbk)))); all_goals (refine Wk.fin (by repeat (first | exact Sub.refl _ | refine Sub.upd (by simp [*]) ?_)) ?_; first | (simp [absI, *]; done) | (simp only [absI]; (repeat' (first | split | rfl | omega | (simp_all; done))); done) | (simp [absI, *]; (repeat' (first | split | omega | (rw [Bool.eq_iff_iff]; simp; omega))); done) | (simp [absI, *])))
/-- n times a share, in millionths, rounded to the nearest number, halves up; at most 'most' without its sign. -/
def sharedF (a b most : Int) : Int :=
  let neg := decide (a < 0) != decide (b < 0)
  let q := (absI a * absI b + if neg then 499999 else 500000) / 1000000
  let m := if q < most then q else most
  if neg then -m else m
theorem shared_ok (a b most : Int) (ha : absI a ≤ 1099511627776) (hb : absI b ≤ 1000000000) (hm0 : 0 ≤ most) (hm : most ≤ 1099511627776) : Pure Try.prog 59 [I a, I b, I most] (I (sharedF a b most)) := by
  have a0 : 0 ≤ absI a := by unfold absI; omega
  have b0 : 0 ≤ absI b := by unfold absI; omega
  have ra : -1099511627776 ≤ a ∧ a ≤ 1099511627776 := by unfold absI at ha; omega
  have rb : -1000000000 ≤ b ∧ b ≤ 1000000000 := by unfold absI at hb; omega
  have s1 := size_ok a (by omega) (by omega)
  have s2 := size_ok b (by omega) (by omega)
  have hmul := mul64_ok (absI a) (absI b) a0 (by omega) b0 (by omega)
  have hp : absI a * absI b ≤ 1099511627776 * 1000000000 := Int.mul_le_mul ha hb b0 (by omega)
  have hp0 : 0 ≤ absI a * absI b := Int.mul_nonneg a0 b0
  unfold sharedF
  dsimp only
  generalize absI a * absI b = p at *
  simp only [bne]
  obtain ⟨hi, hhi⟩ : ∃ hi, p / 18446744073709551616 = hi := ⟨_, rfl⟩
  obtain ⟨lo, hlo⟩ : ∃ lo, p % 18446744073709551616 = lo := ⟨_, rfl⟩
  rw [hhi, hlo] at hmul
  have key : ∀ half : Int, 0 ≤ half → half ≤ 500000 → ∃ c lo2 q : Int, Ext Try.prog 63 [U lo, U half, U 0] (tup2 (U lo2) (U c)) ∧ IntKind.u64.wrap (hi + c) = hi + c ∧ ¬ 1000000 ≤ hi + c ∧ (∃ m, Pure Try.prog 64 [U (hi + c), U lo2, U 1000000] (tup2 (U q) (U m))) ∧ (p + half) / 1000000 = q ∧ 0 ≤ q ∧ q ≤ 4611686018427387904 := fun half h0 h1 => by
    refine ⟨(lo + half) / 18446744073709551616, (lo + half) % 18446744073709551616, (p + half) / 1000000, add64_ok lo half (by omega) h0, wu (by omega) (by omega), by omega, ⟨(p + half) % 1000000, ?_⟩, rfl, by omega, by omega⟩
    have := div64_ok (hi + (lo + half) / 18446744073709551616) ((lo + half) % 18446744073709551616) (by omega) (by omega) (by omega) (by omega)
    rwa [show (hi + (lo + half) / 18446744073709551616) * 18446744073709551616 + (lo + half) % 18446744073709551616 = p + half by omega] at this
  clear hp hp0 hhi hlo ha hb a0 b0
  have w1 : IntKind.u64.wrap most = most := wu (by omega) (by omega)
  have w2 : IntKind.i64.wrap (-most) = -most := w64 (by omega) (by omega)
  intro h; refine callK_body Try.func59 rfl (by rw [nt59]; simp) ?_; rw [nt59, rs59]
  rcases (Bool.eq_false_or_eq_true (decide (a < 0) == decide (b < 0))).symm with hq | hq
  · obtain ⟨c, lo2, q, k1, k2, k3, ⟨m, k4⟩, k5, k6, k7⟩ := key 499999 (by omega) (by omega)
    have w3 : IntKind.i64.wrap q = q := w64 (by omega) (by omega)
    have w4 : IntKind.i64.wrap (-q) = -q := w64 (by omega) (by omega)
    have w5 : IntKind.u64.wrap 499999 = 499999 := wu (by omega) (by omega)
    (repeat' (first | simp [go_sem, X_region, *] | simp (disch := omega) only [om, *] | ((first | refine XC_split ?_ ?_ | refine XG_true ?_ ?_ | refine XG_false ?_ ?_ | refine XRg_true ?_ ?_ | refine XRg_false ?_ ?_) <;> intro hc <;> (try simp only [bl] at hc) <;> (try (exfalso; omega))) | refine XD_w [] [] [] (fun _ => none) mixed (by decide +kernel) (sub_none _) ?_ | refine Pure.call (s1) ?_ | refine ⟨_, Pure.at (s1), ?_⟩ | refine ⟨_, s1, ?_⟩ | refine PureAt.call (s1) ?_ | refine Pure.call (s2) ?_ | refine ⟨_, Pure.at (s2), ?_⟩ | refine ⟨_, s2, ?_⟩ | refine PureAt.call (s2) ?_ | refine Pure.call (hmul) ?_ | refine ⟨_, Pure.at (hmul), ?_⟩ | refine ⟨_, hmul, ?_⟩ | refine PureAt.call (hmul) ?_ | refine Pure.call (k1) ?_ | refine ⟨_, Pure.at (k1), ?_⟩ | refine ⟨_, k1, ?_⟩ | refine PureAt.call (k1) ?_ | refine Pure.call (k4) ?_ | refine ⟨_, Pure.at (k4), ?_⟩ | refine ⟨_, k4, ?_⟩ | refine PureAt.call (k4) ?_ | fail))
    all_goals exact Wk.of_eq (by simp [*])
  · obtain ⟨c, lo2, q, k1, k2, k3, ⟨m, k4⟩, k5, k6, k7⟩ := key 500000 (by omega) (by omega)
    have w3 : IntKind.i64.wrap q = q := w64 (by omega) (by omega)
    (repeat' (first | simp [go_sem, X_region, *] | simp (disch := omega) only [om, *] | ((first | refine XC_split ?_ ?_ | refine XG_true ?_ ?_ | refine XG_false ?_ ?_ | refine XRg_true ?_ ?_ | refine XRg_false ?_ ?_) <;> intro hc <;> (try simp only [bl] at hc) <;> (try (exfalso; omega))) | refine XD_w [] [] [] (fun _ => none) mixed (by decide +kernel) (sub_none _) ?_ | refine Pure.call (s1) ?_ | refine ⟨_, Pure.at (s1), ?_⟩ | refine ⟨_, s1, ?_⟩ | refine PureAt.call (s1) ?_ | refine Pure.call (s2) ?_ | refine ⟨_, Pure.at (s2), ?_⟩ | refine ⟨_, s2, ?_⟩ | refine PureAt.call (s2) ?_ | refine Pure.call (hmul) ?_ | refine ⟨_, Pure.at (hmul), ?_⟩ | refine ⟨_, hmul, ?_⟩ | refine PureAt.call (hmul) ?_ | refine Pure.call (k1) ?_ | refine ⟨_, Pure.at (k1), ?_⟩ | refine ⟨_, k1, ?_⟩ | refine PureAt.call (k1) ?_ | refine Pure.call (k4) ?_ | refine ⟨_, Pure.at (k4), ?_⟩ | refine ⟨_, k4, ?_⟩ | refine PureAt.call (k4) ?_ | fail))
    all_goals exact Wk.of_eq (by simp [*])
/-- The reference: a times b in millionths. -/
def scaledF (a b : Int) : Int :=
  let p := absI a * absI b
  if (decide (a < 0) != decide (b < 0)) then -(p / 1000000 + if 500000 < p % 1000000 then 1 else 0) else p / 1000000 + if 500000 ≤ p % 1000000 then 1 else 0
theorem scaled_ok (a b : Int) (ha : absI a ≤ 1099511627776) (hb : absI b ≤ 1000000000) : Pure Try.prog 54 [I a, I b] (I (scaledF a b)) := by
  have a0 : 0 ≤ absI a := by unfold absI; omega
  have b0 : 0 ≤ absI b := by unfold absI; omega
  have ra : -1099511627776 ≤ a ∧ a ≤ 1099511627776 := by unfold absI at ha; omega
  have rb : -1000000000 ≤ b ∧ b ≤ 1000000000 := by unfold absI at hb; omega
  have e1 : IntKind.i64.wrap (-a) = -a := w64 (by omega) (by omega)
  have e2 : IntKind.i64.wrap (-b) = -b := w64 (by omega) (by omega)
  have e3 : IntKind.u64.wrap (max a (-a)) = absI a := wu (by omega) (by omega)
  have e4 : IntKind.u64.wrap (max b (-b)) = absI b := wu (by omega) (by omega)
  have hmul := mul64_ok (absI a) (absI b) a0 (by omega) b0 (by omega)
  have hp : absI a * absI b ≤ 1099511627776 * 1000000000 := Int.mul_le_mul ha hb b0 (by omega)
  have hp0 : 0 ≤ absI a * absI b := Int.mul_nonneg a0 b0
  unfold scaledF
  dsimp only
  generalize absI a * absI b = p at *
  simp only [bne]
  have hd := div64_ok (p / 18446744073709551616) (p % 18446744073709551616) (by omega) (by omega) (by omega) (by omega)
  rw [show p / 18446744073709551616 * 18446744073709551616 + p % 18446744073709551616 = p by omega] at hd
  obtain ⟨q, hq⟩ : ∃ q, p / 1000000 = q := ⟨_, rfl⟩
  obtain ⟨r, hr⟩ : ∃ r, p % 1000000 = r := ⟨_, rfl⟩
  rw [hq, hr] at hd ⊢
  have hq0 : 0 ≤ q ∧ q ≤ 1099511627776000 := by omega
  generalize p / 18446744073709551616 = hi at *
  generalize p % 18446744073709551616 = lo at *
  clear hp hp0 ha hb a0 b0 hq hr
  have w1 : IntKind.u64.wrap (q + 1) = q + 1 := wu (by omega) (by omega)
  have w2 : IntKind.i64.wrap (q + 1) = q + 1 := w64 (by omega) (by omega)
  have w3 : IntKind.i64.wrap q = q := w64 (by omega) (by omega)
  have w4 : IntKind.i64.wrap (-q) = -q := w64 (by omega) (by omega)
  have w5 : IntKind.i64.wrap (-(q + 1)) = -(q + 1) := w64 (by omega) (by omega)
  intro h; refine callK_body Try.func54 rfl (by rw [nt54]; simp) ?_; rw [nt54, rs54]
  rcases (Bool.eq_false_or_eq_true (decide (a < 0) == decide (b < 0))).symm with hn | hn
  · (repeat' (first | simp [go_sem, X_region, *] | simp (disch := omega) only [om, *] | ((first | refine XC_split ?_ ?_ | refine XG_true ?_ ?_ | refine XG_false ?_ ?_ | refine XRg_true ?_ ?_ | refine XRg_false ?_ ?_) <;> intro hc <;> (try simp only [bl] at hc) <;> (try (exfalso; omega))) | refine XD_w [] [] [] (fun _ => none) mixed (by decide +kernel) (sub_none _) ?_ | refine Pure.call (hmul) ?_ | refine ⟨_, Pure.at (hmul), ?_⟩ | refine ⟨_, hmul, ?_⟩ | refine PureAt.call (hmul) ?_ | refine Pure.call (hd) ?_ | refine ⟨_, Pure.at (hd), ?_⟩ | refine ⟨_, hd, ?_⟩ | refine PureAt.call (hd) ?_ | fail))
    all_goals exact Wk.of_eq (by simp [*])
  · (repeat' (first | simp [go_sem, X_region, *] | simp (disch := omega) only [om, *] | ((first | refine XC_split ?_ ?_ | refine XG_true ?_ ?_ | refine XG_false ?_ ?_ | refine XRg_true ?_ ?_ | refine XRg_false ?_ ?_) <;> intro hc <;> (try simp only [bl] at hc) <;> (try (exfalso; omega))) | refine XD_w [] [] [] (fun _ => none) mixed (by decide +kernel) (sub_none _) ?_ | refine Pure.call (hmul) ?_ | refine ⟨_, Pure.at (hmul), ?_⟩ | refine ⟨_, hmul, ?_⟩ | refine PureAt.call (hmul) ?_ | refine Pure.call (hd) ?_ | refine ⟨_, Pure.at (hd), ?_⟩ | refine ⟨_, hd, ?_⟩ | refine PureAt.call (hd) ?_ | fail))
    all_goals exact Wk.of_eq (by simp [*])
end Go.Proofs.Ytmalhikcdideoaa

set_option linter.unusedVariables false
set_option linter.unusedSimpArgs false
namespace Go.Proofs.Ytmalhikcdideoaa
open Go Sl
attribute [local irreducible] LpQ XR XRo XRg XRQ putQ XFv XL XW2 wQ putW X XO XOp XH XHo XW SeqQ BlkQ XOQ XHQ NrmQ XC XM XG XHM XHG XD CallK
theorem lohi (k : Int) : -1099511627776 ≤ lo k ∧ lo k ≤ 0 ∧ 0 ≤ hi k ∧ hi k ≤ 1099511627776 := by
  unfold lo hi
  refine ⟨?_, ?_, ?_, ?_⟩ <;> (repeat' split) <;> omega
theorem lohi6 : lo 6 = -1000000000 ∧ hi 6 = 1000000000 := ⟨rfl, rfl⟩
theorem fitV_in (v : V) : lo (fitV v).k ≤ (fitV v).n ∧ (fitV v).n ≤ hi (fitV v).k := by
  unfold fitV
  split
  · exact ⟨by decide, by decide⟩
  · have := lohi v.k
    simp only
    omega
def timesV (a b : V) : V × Int := let a := fitV a; let b := fitV b
  if a.k = 0 ∨ b.k = 0 then (v0, 0) else if a.k = 1 ∨ a.k = 4 then (v0, 8) else if b.k = 6 then (fitV ⟨a.k, sharedF a.n b.n (hi a.k)⟩, 0) else if b.k = 5 ∧ (a.k = 2 ∨ a.k = 3) then (fitV ⟨a.k, w (a.n * b.n)⟩, 0) else (v0, 8)
set_option maxHeartbeats 2000000 in
theorem times_ok (a b : V) : Pure Try.prog 43 [encV a, encV b] (tup2 (encV (timesV a b).1) (I (timesV a b).2)) := by
  have f1 := fitV_ok a
  have f2 := fitV_ok b
  have g1 := fitV_in a
  have g2 := fitV_in b
  unfold timesV
  dsimp only
  generalize fitV a = fa at *
  generalize fitV b = fb at *
  have hl := lohi fa.k
  intro h; refine callK_body Try.func43 rfl (by rw [nt43]; simp) ?_; rw [nt43, rs43]
  by_cases hb : fb.k = 6
  · rw [hb, lohi6.1, lohi6.2] at g2
    have hs := shared_ok fa.n fb.n (hi fa.k) (by unfold absI; omega) (by unfold absI; omega) (by omega) (by omega)
    clear g1 g2 hl
    ((repeat' (first | simp [go_sem, X_region, *] | simp (disch := omega) only [om, *] | ((first | refine XC_split ?_ ?_ | refine XG_true ?_ ?_ | refine XG_false ?_ ?_ | refine XRg_true ?_ ?_ | refine XRg_false ?_ ?_) <;> intro hc <;> (try simp only [bl] at hc) <;> (try (exfalso; omega))) | refine XD_w [] [] [] (fun _ => none) mixed (by decide +kernel) (sub_none _) ?_ | refine Pure.call (f1) ?_ | refine ⟨_, Pure.at (f1), ?_⟩ | refine ⟨_, f1, ?_⟩ | refine PureAt.call (f1) ?_ | refine Pure.call (f2) ?_ | refine ⟨_, Pure.at (f2), ?_⟩ | refine ⟨_, f2, ?_⟩ | refine PureAt.call (f2) ?_ | refine Pure.call (Range_ok fa.k) ?_ | refine ⟨_, Pure.at (Range_ok fa.k), ?_⟩ | refine ⟨_, Range_ok fa.k, ?_⟩ | refine PureAt.call (Range_ok fa.k) ?_ | refine Pure.call (hs) ?_ | refine ⟨_, Pure.at (hs), ?_⟩ | refine ⟨_, hs, ?_⟩ | refine PureAt.call (hs) ?_ | refine Pure.call (of_ok _ _) ?_ | refine ⟨_, Pure.at (of_ok _ _), ?_⟩ | refine ⟨_, of_ok _ _, ?_⟩ | refine PureAt.call (of_ok _ _) ?_ | (intro bk hbk; (try simp only [go_sem] at hbk)))); all_goals (refine Wk.fin (by repeat (first | exact Sub.refl _ | refine Sub.upd (by simp [*]) ?_)) ?_; first | (simp [w, *]; done) | (simp only [w]; (repeat' (first | split | rfl | omega | (simp_all; done))); done) | (simp [w, *]; (repeat' (first | split | omega | (rw [Bool.eq_iff_iff]; simp; omega))); done) | (simp [w, *])))
  · clear g1 g2 hl
    ((repeat' (first | simp [go_sem, X_region, *] | simp (disch := omega) only [om, *] | ((first | refine XC_split ?_ ?_ | refine XG_true ?_ ?_ | refine XG_false ?_ ?_ | refine XRg_true ?_ ?_ | refine XRg_false ?_ ?_) <;> intro hc <;> (try simp only [bl] at hc) <;> (try (exfalso; omega))) | refine XD_w [] [] [] (fun _ => none) mixed (by decide +kernel) (sub_none _) ?_ | refine Pure.call (f1) ?_ | refine ⟨_, Pure.at (f1), ?_⟩ | refine ⟨_, f1, ?_⟩ | refine PureAt.call (f1) ?_ | refine Pure.call (f2) ?_ | refine ⟨_, Pure.at (f2), ?_⟩ | refine ⟨_, f2, ?_⟩ | refine PureAt.call (f2) ?_ | refine Pure.call (Range_ok fa.k) ?_ | refine ⟨_, Pure.at (Range_ok fa.k), ?_⟩ | refine ⟨_, Range_ok fa.k, ?_⟩ | refine PureAt.call (Range_ok fa.k) ?_ | refine Pure.call (of_ok _ _) ?_ | refine ⟨_, Pure.at (of_ok _ _), ?_⟩ | refine ⟨_, of_ok _ _, ?_⟩ | refine PureAt.call (of_ok _ _) ?_ | (intro bk hbk; (try simp only [go_sem] at hbk)))); all_goals (refine Wk.fin (by repeat (first | exact Sub.refl _ | refine Sub.upd (by simp [*]) ?_)) ?_; first | (simp [w, *]; done) | (simp only [w]; (repeat' (first | split | rfl | omega | (simp_all; done))); done) | (simp [w, *]; (repeat' (first | split | omega | (rw [Bool.eq_iff_iff]; simp; omega))); done) | (simp [w, *])))
end Go.Proofs.Ytmalhikcdideoaa

set_option linter.unusedVariables false
set_option linter.unusedSimpArgs false
namespace Go.Proofs.Ytmalhikcdideoaa
open Go Sl
attribute [local irreducible] LpQ XR XRo XRg XRQ putQ XFv XL XW2 wQ putW X XO XOp XH XHo XW SeqQ BlkQ XOQ XHQ NrmQ XC XM XG XHM XHG XD CallK
theorem either_lit {h : Hp} {b : Nat} {ob : Ob} (k : Int) (xs : List Int) (hl : xs.length ≤ 1000) (hb : h b = some ob) (h1 : ob.s = 1) (h2 : ob.n = xs.length) (hf : ob.f = fun i j => ((xs.map fun x (_ : Nat) => I x)[i]?.getD fun _ => .any) j) :
    PureAt Try.prog h 30 [I k, .row b 1 0 xs.length] (B (eitherB k xs)) := by
  refine Pure.lend (either_ok k xs) (.cons (Lend.refl _) (.cons (Lend.row hb h1 (by omega) (by omega) fun i hi j hj => ?_) .nil)) trivial
  obtain rfl : j = 0 := by omega
  rw [hf]
  simp [hi, cI]
abbrev l2356 : List Int := [2, 3, 5, 6]
abbrev l56 : List Int := [5, 6]
def productK (a b : Int) : Int × Bool := if ¬ (a = 2 ∨ a = 3 ∨ a = 5 ∨ a = 6 ∨ a = 0) ∨ ¬ (b = 5 ∨ b = 6 ∨ b = 0) then (0, false) else if a = 0 ∨ b = 0 then (0, true) else if b = 5 then (a, decide (a = 2 ∨ a = 3)) else (a, true)
theorem product_ok (a b : Int) : Pure Try.prog 33 [I a, I b] (tup2 (I (productK a b).1) (B (productK a b).2)) := by
  have e1 : eitherB a l2356 = decide (a = 2 ∨ a = 3 ∨ a = 5 ∨ a = 6 ∨ a = 0) := by simp [eitherB, Bool.eq_iff_iff, or_assoc]
  have e2 : eitherB b l56 = decide (b = 5 ∨ b = 6 ∨ b = 0) := by simp [eitherB, Bool.eq_iff_iff]
  have c1 := fun (h : Hp) (b : Nat) (ob : Ob) => either_lit (h := h) (b := b) (ob := ob) a l2356 (by decide)
  have c2 := fun (h : Hp) (b' : Nat) (ob : Ob) => either_lit (h := h) (b := b') (ob := ob) b l56 (by decide)
  rw [e1] at c1
  rw [e2] at c2
  clear e1 e2
  intro h; refine callK_body Try.func33 rfl (by rw [nt33]; simp) ?_; rw [nt33, rs33]
  ((repeat' (first | simp [go_sem, X_region, *] | simp (disch := omega) only [om, *] | ((first | refine XC_split ?_ ?_ | refine XG_true ?_ ?_ | refine XG_false ?_ ?_ | refine XRg_true ?_ ?_ | refine XRg_false ?_ ?_) <;> intro hc <;> (try simp only [bl] at hc) <;> (try (exfalso; omega))) | refine XD_w [] [] [] (fun _ => none) mixed (by decide +kernel) (sub_none _) ?_ | refine Pure.call (c1 _ _ _ (upd_same _ _ _) rfl rfl rfl) ?_ | refine ⟨_, Pure.at (c1 _ _ _ (upd_same _ _ _) rfl rfl rfl), ?_⟩ | refine ⟨_, c1 _ _ _ (upd_same _ _ _) rfl rfl rfl, ?_⟩ | refine PureAt.call (c1 _ _ _ (upd_same _ _ _) rfl rfl rfl) ?_ | refine Pure.call (c2 _ _ _ (upd_same _ _ _) rfl rfl rfl) ?_ | refine ⟨_, Pure.at (c2 _ _ _ (upd_same _ _ _) rfl rfl rfl), ?_⟩ | refine ⟨_, c2 _ _ _ (upd_same _ _ _) rfl rfl rfl, ?_⟩ | refine PureAt.call (c2 _ _ _ (upd_same _ _ _) rfl rfl rfl) ?_ | (intro bk hbk; (try simp only [go_sem] at hbk)))); all_goals (refine Wk.fin (by repeat (first | exact Sub.refl _ | refine Sub.upd (by simp [*]) ?_)) ?_; first | (simp [productK, *]; done) | (simp only [productK]; (repeat' (first | split | rfl | omega | (simp_all; done))); done) | (simp [productK, *]; (repeat' (first | split | omega | (rw [Bool.eq_iff_iff]; simp; omega))); done) | (simp [productK, *])))
theorem kids_ok (o : Int) : Pure Try.prog 9 [I o] (I (if o < 0 ∨ 18 < o then -1 else if o ≤ 3 then 0 else if o = 4 ∨ o = 16 ∨ o = 17 then 1 else if o = 15 then 3 else 2)) := by
  intro h; refine callK_body Try.func9 rfl (by rw [nt9]; simp) ?_; rw [nt9, rs9]
  ((repeat' (first | simp [go_sem, X_region, *] | simp (disch := omega) only [om, *] | ((first | refine XC_split ?_ ?_ | refine XG_true ?_ ?_ | refine XG_false ?_ ?_ | refine XRg_true ?_ ?_ | refine XRg_false ?_ ?_) <;> intro hc <;> (try simp only [bl] at hc) <;> (try (exfalso; omega))) | refine XD_w [] [] [] (fun _ => none) mixed (by decide +kernel) (sub_none _) ?_ | (intro bk hbk; (try simp only [go_sem] at hbk)))); all_goals (refine Wk.fin (by repeat (first | exact Sub.refl _ | refine Sub.upd (by simp [*]) ?_)) ?_; first | (simp [*]; done) | (simp only []; (repeat' (first | split | rfl | omega | (simp_all; done))); done) | (simp [*]; (repeat' (first | split | omega | (rw [Bool.eq_iff_iff]; simp; omega))); done) | (simp [*])))
theorem arity_ok (o : Int) : Pure Try.prog 17 [I o] (I (if o < 0 ∨ 18 < o then -1 else if o ≤ 3 then 0 else if o = 4 ∨ o = 16 ∨ o = 17 then 1 else if o = 15 then 3 else 2)) := by
  by_cases hr : o < 0 ∨ 18 < o
  · rw [if_pos hr]
    intro h; refine callK_body Try.func17 rfl (by rw [nt17]; simp) ?_; rw [nt17, rs17]
    ((repeat' (first | simp [go_sem, X_region, *] | simp (disch := omega) only [om, *] | ((first | refine XC_split ?_ ?_ | refine XG_true ?_ ?_ | refine XG_false ?_ ?_ | refine XRg_true ?_ ?_ | refine XRg_false ?_ ?_) <;> intro hc <;> (try simp only [bl] at hc) <;> (try (exfalso; omega))) | refine XD_w [] [] [] (fun _ => none) mixed (by decide +kernel) (sub_none _) ?_ | (intro bk hbk; (try simp only [go_sem] at hbk)))); all_goals (refine Wk.fin (by repeat (first | exact Sub.refl _ | refine Sub.upd (by simp [*]) ?_)) ?_; first | (simp [*]; done) | (simp only []; (repeat' (first | split | rfl | omega | (simp_all; done))); done) | (simp [*]; (repeat' (first | split | omega | (rw [Bool.eq_iff_iff]; simp; omega))); done) | (simp [*])))
  · obtain ⟨n, rfl, hn⟩ : ∃ n : Nat, o = n ∧ n < 19 := ⟨o.toNat, by omega, by omega⟩
    intro h; refine callK_body Try.func17 rfl (by rw [nt17]; simp) ?_; rw [nt17, rs17]
    have hcase : n = 0 ∨ n = 1 ∨ n = 2 ∨ n = 3 ∨ n = 4 ∨ n = 5 ∨ n = 6 ∨ n = 7 ∨ n = 8 ∨ n = 9 ∨ n = 10 ∨ n = 11 ∨ n = 12 ∨ n = 13 ∨ n = 14 ∨ n = 15 ∨ n = 16 ∨ n = 17 ∨ n = 18 := by omega
    (repeat' (first | simp [go_sem, X_region, *] | simp (disch := omega) only [om, *] | ((first | refine XC_split ?_ ?_ | refine XG_true ?_ ?_ | refine XG_false ?_ ?_ | refine XRg_true ?_ ?_ | refine XRg_false ?_ ?_) <;> intro hc <;> (try simp only [bl] at hc) <;> (try (exfalso; omega))) | refine XD_w [] [] [] (fun _ => none) mixed (by decide +kernel) (sub_none _) ?_ | fail))
    intro b hb
    refine Wk.fin (Sub.upd hb (Sub.refl _)) ?_
    rcases hcase with rfl | rfl | rfl | rfl | rfl | rfl | rfl | rfl | rfl | rfl | rfl | rfl | rfl | rfl | rfl | rfl | rfl | rfl | rfl <;> rfl
end Go.Proofs.Ytmalhikcdideoaa

set_option linter.unusedVariables false
set_option linter.unusedSimpArgs false
namespace Go.Proofs.Ytmalhikcdideoaa
open Go Sl
attribute [local irreducible] LpQ XR XRo XRg XRQ putQ XFv XL XW2 wQ putW X XO XOp XH XHo XW SeqQ BlkQ XOQ XHQ NrmQ XC XM XG XHM XHG XD CallK
/-- A table, told: its name, from, to, slices, and its steps. -/
abbrev encTb (nm : AV) (fr to : Int) (sl : Bool) (st : AV) : AV := aggL [nm, I fr, I to, B sl, st]
abbrev encNd (op : Int) (kids : AV) (kd n : Int) (nm : AV) : AV := aggL [I op, kids, I kd, I n, nm]
theorem either_sl {h : Hp} {f : Nat → Nat → AV} (k : Int) (xs : List Int) (hl : xs.length ≤ 1000) (hf : f = fun i j => ((xs.map fun x (_ : Nat) => I x)[i]?.getD fun _ => .any) j) :
    PureAt Try.prog h 30 [I k, .sl 1 xs.length f] (B (eitherB k xs)) := by
  refine Pure.lend (either_ok k xs) (.cons (Lend.refl _) (.cons (Lend.sl fun i hi j hj => ?_) .nil)) trivial
  obtain rfl : j = 0 := by omega
  rw [hf]
  simp [hi, cI]
theorem either1 (k x : Int) : eitherB k [x] = decide (k = x ∨ k = 0) := by simp [eitherB, Bool.eq_iff_iff]
theorem row1 {h : Hp} {b : Nat} {ob : Ob} (k x : Int) (hb : h b = some ob) (h1 : ob.s = 1) (h2 : ob.n = 1) (hf : ob.f = fun i j => (([x].map fun x (_ : Nat) => I x)[i]?.getD fun _ => .any) j) :
    PureAt Try.prog h 30 [I k, .row b 1 0 1] (B (decide (k = x ∨ k = 0))) := by
  rw [← either1]
  exact either_lit k [x] (by simp) hb h1 h2 hf
theorem sl1 {h : Hp} {f : Nat → Nat → AV} (k x : Int) (hf : f = fun i j => (([x].map fun x (_ : Nat) => I x)[i]?.getD fun _ => .any) j) :
    PureAt Try.prog h 30 [I k, .sl 1 1 f] (B (decide (k = x ∨ k = 0))) := by
  rw [← either1]
  exact either_sl k [x] (by simp) hf
def kindF (op nk a b c fr to : Int) : Int × Bool :=
  if op = 0 then (nk, true)
  else if op = 4 then (1, decide (a = 1 ∨ a = 0))
  else if op = 5 ∨ op = 6 then (1, decide ((a = 1 ∨ a = 0) ∧ (b = 1 ∨ b = 0)))
  else if op = 9 then (1, (joinK a b).2)
  else if op = 7 ∨ op = 8 then (1, (joinK a b).2 && decide ((joinK a b).1 ≠ 1))
  else if op = 13 ∨ op = 14 then ((joinK a b).1, (joinK a b).2 && decide ((joinK a b).1 ≠ 1))
  else if op = 10 ∨ op = 11 then sumK op a b
  else if op = 12 then productK a b
  else if op = 15 then ((joinK b c).1, (joinK b c).2 && decide (a = 1 ∨ a = 0))
  else if op = 16 then (to, decide (a = fr ∨ a = 0))
  else if op = 17 then (2, decide (a = 2 ∨ a = 0))
  else (5, decide ((a = 4 ∨ a = 0) ∧ (b = 4 ∨ b = 0)))
section
variable (kids nm tn st : AV) (nk n a b c fr to : Int) (sl : Bool)
theorem kind_0 : Pure Try.prog 14 [encNd 0 kids nk n nm, encL 1 cI [], encTb tn fr to sl st] (tup2 (I (kindF 0 nk a b c fr to).1) (B (kindF 0 nk a b c fr to).2)) := by
  intro h; refine callK_body Try.func14 rfl (by rw [nt14]; simp) ?_; rw [nt14, rs14]
  ((repeat' (first | simp [go_sem, X_region, *] | simp (disch := omega) only [om, *] | ((first | refine XC_split ?_ ?_ | refine XG_true ?_ ?_ | refine XG_false ?_ ?_ | refine XRg_true ?_ ?_ | refine XRg_false ?_ ?_) <;> intro hc <;> (try simp only [bl] at hc) <;> (try (exfalso; omega))) | refine XD_w [] [] [] (fun _ => none) mixed (by decide +kernel) (sub_none _) ?_ | (intro bk hbk; (try simp only [go_sem] at hbk)))); all_goals (refine Wk.fin (by repeat (first | exact Sub.refl _ | refine Sub.upd (by simp [*]) ?_)) ?_; first | (simp [kindF, *]; done) | (simp only [kindF]; (repeat' (first | split | rfl | omega | (simp_all; done))); done) | (simp [kindF, *]; (repeat' (first | split | omega | (rw [Bool.eq_iff_iff]; simp; omega))); done) | (simp [kindF, *])))
theorem kind_4 : Pure Try.prog 14 [encNd 4 kids nk n nm, encL 1 cI [a], encTb tn fr to sl st] (tup2 (I (kindF 4 nk a b c fr to).1) (B (kindF 4 nk a b c fr to).2)) := by
  intro h; refine callK_body Try.func14 rfl (by rw [nt14]; simp) ?_; rw [nt14, rs14]
  ((repeat' (first | simp [go_sem, X_region, *] | simp (disch := omega) only [om, *] | ((first | refine XC_split ?_ ?_ | refine XG_true ?_ ?_ | refine XG_false ?_ ?_ | refine XRg_true ?_ ?_ | refine XRg_false ?_ ?_) <;> intro hc <;> (try simp only [bl] at hc) <;> (try (exfalso; omega))) | refine XD_w [] [] [] (fun _ => none) mixed (by decide +kernel) (sub_none _) ?_ | refine Pure.call (row1 _ _ (upd_same _ _ _) rfl rfl rfl) ?_ | refine ⟨_, Pure.at (row1 _ _ (upd_same _ _ _) rfl rfl rfl), ?_⟩ | refine ⟨_, row1 _ _ (upd_same _ _ _) rfl rfl rfl, ?_⟩ | refine PureAt.call (row1 _ _ (upd_same _ _ _) rfl rfl rfl) ?_ | (intro bk hbk; (try simp only [go_sem] at hbk)))); all_goals (refine Wk.fin (by repeat (first | exact Sub.refl _ | refine Sub.upd (by simp [*]) ?_)) ?_; first | (simp [kindF, *]; done) | (simp only [kindF]; (repeat' (first | split | rfl | omega | (simp_all; done))); done) | (simp [kindF, *]; (repeat' (first | split | omega | (rw [Bool.eq_iff_iff]; simp; omega))); done) | (simp [kindF, *])))
theorem kind_5 : Pure Try.prog 14 [encNd 5 kids nk n nm, encL 1 cI (a :: b :: []), encTb tn fr to sl st] (tup2 (I (kindF 5 nk a b c fr to).1) (B (kindF 5 nk a b c fr to).2)) := by
  intro h; refine callK_body Try.func14 rfl (by rw [nt14]; simp) ?_; rw [nt14, rs14]
  ((repeat' (first | simp [go_sem, X_region, *] | simp (disch := omega) only [om, *] | ((first | refine XC_split ?_ ?_ | refine XG_true ?_ ?_ | refine XG_false ?_ ?_ | refine XRg_true ?_ ?_ | refine XRg_false ?_ ?_) <;> intro hc <;> (try simp only [bl] at hc) <;> (try (exfalso; omega))) | refine XD_w [] [] [] (fun _ => none) mixed (by decide +kernel) (sub_none _) ?_ | refine Pure.call (row1 _ _ (upd_same _ _ _) rfl rfl rfl) ?_ | refine ⟨_, Pure.at (row1 _ _ (upd_same _ _ _) rfl rfl rfl), ?_⟩ | refine ⟨_, row1 _ _ (upd_same _ _ _) rfl rfl rfl, ?_⟩ | refine PureAt.call (row1 _ _ (upd_same _ _ _) rfl rfl rfl) ?_ | (intro bk hbk; (try simp only [go_sem] at hbk)))); all_goals (refine Wk.fin (by repeat (first | exact Sub.refl _ | refine Sub.upd (by simp [*]) ?_)) ?_; first | (simp [kindF, *]; done) | (simp only [kindF]; (repeat' (first | split | rfl | omega | (simp_all; done))); done) | (simp [kindF, *]; (repeat' (first | split | omega | (rw [Bool.eq_iff_iff]; simp; omega))); done) | (simp [kindF, *])))
theorem kind_9 : Pure Try.prog 14 [encNd 9 kids nk n nm, encL 1 cI (a :: b :: []), encTb tn fr to sl st] (tup2 (I (kindF 9 nk a b c fr to).1) (B (kindF 9 nk a b c fr to).2)) := by
  intro h; refine callK_body Try.func14 rfl (by rw [nt14]; simp) ?_; rw [nt14, rs14]
  ((repeat' (first | simp [go_sem, X_region, *] | simp (disch := omega) only [om, *] | ((first | refine XC_split ?_ ?_ | refine XG_true ?_ ?_ | refine XG_false ?_ ?_ | refine XRg_true ?_ ?_ | refine XRg_false ?_ ?_) <;> intro hc <;> (try simp only [bl] at hc) <;> (try (exfalso; omega))) | refine XD_w [] [] [] (fun _ => none) mixed (by decide +kernel) (sub_none _) ?_ | refine Pure.call (join_ok _ _) ?_ | refine ⟨_, Pure.at (join_ok _ _), ?_⟩ | refine ⟨_, join_ok _ _, ?_⟩ | refine PureAt.call (join_ok _ _) ?_ | (intro bk hbk; (try simp only [go_sem] at hbk)))); all_goals (refine Wk.fin (by repeat (first | exact Sub.refl _ | refine Sub.upd (by simp [*]) ?_)) ?_; first | (simp [kindF, *]; done) | (simp only [kindF]; (repeat' (first | split | rfl | omega | (simp_all; done))); done) | (simp [kindF, *]; (repeat' (first | split | omega | (rw [Bool.eq_iff_iff]; simp; omega))); done) | (simp [kindF, *])))
theorem kind_16 : Pure Try.prog 14 [encNd 16 kids nk n nm, encL 1 cI [a], encTb tn fr to sl st] (tup2 (I (kindF 16 nk a b c fr to).1) (B (kindF 16 nk a b c fr to).2)) := by
  intro h; refine callK_body Try.func14 rfl (by rw [nt14]; simp) ?_; rw [nt14, rs14]
  ((repeat' (first | simp [go_sem, X_region, *] | simp (disch := omega) only [om, *] | ((first | refine XC_split ?_ ?_ | refine XG_true ?_ ?_ | refine XG_false ?_ ?_ | refine XRg_true ?_ ?_ | refine XRg_false ?_ ?_) <;> intro hc <;> (try simp only [bl] at hc) <;> (try (exfalso; omega))) | refine XD_w [] [] [] (fun _ => none) mixed (by decide +kernel) (sub_none _) ?_ | refine Pure.call (sl1 _ _ rfl) ?_ | refine ⟨_, Pure.at (sl1 _ _ rfl), ?_⟩ | refine ⟨_, sl1 _ _ rfl, ?_⟩ | refine PureAt.call (sl1 _ _ rfl) ?_ | (intro bk hbk; (try simp only [go_sem] at hbk)))); all_goals (refine Wk.fin (by repeat (first | exact Sub.refl _ | refine Sub.upd (by simp [*]) ?_)) ?_; first | (simp [kindF, *]; done) | (simp only [kindF]; (repeat' (first | split | rfl | omega | (simp_all; done))); done) | (simp [kindF, *]; (repeat' (first | split | omega | (rw [Bool.eq_iff_iff]; simp; omega))); done) | (simp [kindF, *])))
theorem kind_12 : Pure Try.prog 14 [encNd 12 kids nk n nm, encL 1 cI (a :: b :: []), encTb tn fr to sl st] (tup2 (I (kindF 12 nk a b c fr to).1) (B (kindF 12 nk a b c fr to).2)) := by
  intro h; refine callK_body Try.func14 rfl (by rw [nt14]; simp) ?_; rw [nt14, rs14]
  ((repeat' (first | simp [go_sem, X_region, *] | simp (disch := omega) only [om, *] | ((first | refine XC_split ?_ ?_ | refine XG_true ?_ ?_ | refine XG_false ?_ ?_ | refine XRg_true ?_ ?_ | refine XRg_false ?_ ?_) <;> intro hc <;> (try simp only [bl] at hc) <;> (try (exfalso; omega))) | refine XD_w [] [] [] (fun _ => none) mixed (by decide +kernel) (sub_none _) ?_ | refine Pure.call (product_ok _ _) ?_ | refine ⟨_, Pure.at (product_ok _ _), ?_⟩ | refine ⟨_, product_ok _ _, ?_⟩ | refine PureAt.call (product_ok _ _) ?_ | (intro bk hbk; (try simp only [go_sem] at hbk)))); all_goals (refine Wk.fin (by repeat (first | exact Sub.refl _ | refine Sub.upd (by simp [*]) ?_)) ?_; first | (simp [kindF, *]; done) | (simp only [kindF]; (repeat' (first | split | rfl | omega | (simp_all; done))); done) | (simp [kindF, *]; (repeat' (first | split | omega | (rw [Bool.eq_iff_iff]; simp; omega))); done) | (simp [kindF, *])))
theorem kind_15 : Pure Try.prog 14 [encNd 15 kids nk n nm, encL 1 cI (a :: b :: c :: []), encTb tn fr to sl st] (tup2 (I (kindF 15 nk a b c fr to).1) (B (kindF 15 nk a b c fr to).2)) := by
  intro h; refine callK_body Try.func14 rfl (by rw [nt14]; simp) ?_; rw [nt14, rs14]
  ((repeat' (first | simp [go_sem, X_region, *] | simp (disch := omega) only [om, *] | ((first | refine XC_split ?_ ?_ | refine XG_true ?_ ?_ | refine XG_false ?_ ?_ | refine XRg_true ?_ ?_ | refine XRg_false ?_ ?_) <;> intro hc <;> (try simp only [bl] at hc) <;> (try (exfalso; omega))) | refine XD_w [] [] [] (fun _ => none) mixed (by decide +kernel) (sub_none _) ?_ | refine Pure.call (join_ok _ _) ?_ | refine ⟨_, Pure.at (join_ok _ _), ?_⟩ | refine ⟨_, join_ok _ _, ?_⟩ | refine PureAt.call (join_ok _ _) ?_ | refine Pure.call (row1 _ _ (upd_same _ _ _) rfl rfl rfl) ?_ | refine ⟨_, Pure.at (row1 _ _ (upd_same _ _ _) rfl rfl rfl), ?_⟩ | refine ⟨_, row1 _ _ (upd_same _ _ _) rfl rfl rfl, ?_⟩ | refine PureAt.call (row1 _ _ (upd_same _ _ _) rfl rfl rfl) ?_ | (intro bk hbk; (try simp only [go_sem] at hbk)))); all_goals (refine Wk.fin (by repeat (first | exact Sub.refl _ | refine Sub.upd (by simp [*]) ?_)) ?_; first | (simp [kindF, *]; done) | (simp only [kindF]; (repeat' (first | split | rfl | omega | (simp_all; done))); done) | (simp [kindF, *]; (repeat' (first | split | omega | (rw [Bool.eq_iff_iff]; simp; omega))); done) | (simp [kindF, *])))
theorem kind_6 : Pure Try.prog 14 [encNd 6 kids nk n nm, encL 1 cI (a :: b :: []), encTb tn fr to sl st] (tup2 (I (kindF 6 nk a b c fr to).1) (B (kindF 6 nk a b c fr to).2)) := by
  intro h; refine callK_body Try.func14 rfl (by rw [nt14]; simp) ?_; rw [nt14, rs14]
  ((repeat' (first | simp [go_sem, X_region, *] | simp (disch := omega) only [om, *] | ((first | refine XC_split ?_ ?_ | refine XG_true ?_ ?_ | refine XG_false ?_ ?_ | refine XRg_true ?_ ?_ | refine XRg_false ?_ ?_) <;> intro hc <;> (try simp only [bl] at hc) <;> (try (exfalso; omega))) | refine XD_w [] [] [] (fun _ => none) mixed (by decide +kernel) (sub_none _) ?_ | refine Pure.call (row1 _ _ (upd_same _ _ _) rfl rfl rfl) ?_ | refine ⟨_, Pure.at (row1 _ _ (upd_same _ _ _) rfl rfl rfl), ?_⟩ | refine ⟨_, row1 _ _ (upd_same _ _ _) rfl rfl rfl, ?_⟩ | refine PureAt.call (row1 _ _ (upd_same _ _ _) rfl rfl rfl) ?_ | (intro bk hbk; (try simp only [go_sem] at hbk)))); all_goals (refine Wk.fin (by repeat (first | exact Sub.refl _ | refine Sub.upd (by simp [*]) ?_)) ?_; first | (simp [kindF, *]; done) | (simp only [kindF]; (repeat' (first | split | rfl | omega | (simp_all; done))); done) | (simp [kindF, *]; (repeat' (first | split | omega | (rw [Bool.eq_iff_iff]; simp; omega))); done) | (simp [kindF, *])))
theorem kind_7 : Pure Try.prog 14 [encNd 7 kids nk n nm, encL 1 cI (a :: b :: []), encTb tn fr to sl st] (tup2 (I (kindF 7 nk a b c fr to).1) (B (kindF 7 nk a b c fr to).2)) := by
  intro h; refine callK_body Try.func14 rfl (by rw [nt14]; simp) ?_; rw [nt14, rs14]
  ((repeat' (first | simp [go_sem, X_region, *] | simp (disch := omega) only [om, *] | ((first | refine XC_split ?_ ?_ | refine XG_true ?_ ?_ | refine XG_false ?_ ?_ | refine XRg_true ?_ ?_ | refine XRg_false ?_ ?_) <;> intro hc <;> (try simp only [bl] at hc) <;> (try (exfalso; omega))) | refine XD_w [] [] [] (fun _ => none) mixed (by decide +kernel) (sub_none _) ?_ | refine Pure.call (join_ok _ _) ?_ | refine ⟨_, Pure.at (join_ok _ _), ?_⟩ | refine ⟨_, join_ok _ _, ?_⟩ | refine PureAt.call (join_ok _ _) ?_ | (intro bk hbk; (try simp only [go_sem] at hbk)))); all_goals (refine Wk.fin (by repeat (first | exact Sub.refl _ | refine Sub.upd (by simp [*]) ?_)) ?_; first | (simp [kindF, *]; done) | (simp only [kindF]; (repeat' (first | split | rfl | omega | (simp_all; done))); done) | (simp [kindF, *]; (repeat' (first | split | omega | (rw [Bool.eq_iff_iff]; simp; omega))); done) | (simp [kindF, *])))
theorem kind_8 : Pure Try.prog 14 [encNd 8 kids nk n nm, encL 1 cI (a :: b :: []), encTb tn fr to sl st] (tup2 (I (kindF 8 nk a b c fr to).1) (B (kindF 8 nk a b c fr to).2)) := by
  intro h; refine callK_body Try.func14 rfl (by rw [nt14]; simp) ?_; rw [nt14, rs14]
  ((repeat' (first | simp [go_sem, X_region, *] | simp (disch := omega) only [om, *] | ((first | refine XC_split ?_ ?_ | refine XG_true ?_ ?_ | refine XG_false ?_ ?_ | refine XRg_true ?_ ?_ | refine XRg_false ?_ ?_) <;> intro hc <;> (try simp only [bl] at hc) <;> (try (exfalso; omega))) | refine XD_w [] [] [] (fun _ => none) mixed (by decide +kernel) (sub_none _) ?_ | refine Pure.call (join_ok _ _) ?_ | refine ⟨_, Pure.at (join_ok _ _), ?_⟩ | refine ⟨_, join_ok _ _, ?_⟩ | refine PureAt.call (join_ok _ _) ?_ | (intro bk hbk; (try simp only [go_sem] at hbk)))); all_goals (refine Wk.fin (by repeat (first | exact Sub.refl _ | refine Sub.upd (by simp [*]) ?_)) ?_; first | (simp [kindF, *]; done) | (simp only [kindF]; (repeat' (first | split | rfl | omega | (simp_all; done))); done) | (simp [kindF, *]; (repeat' (first | split | omega | (rw [Bool.eq_iff_iff]; simp; omega))); done) | (simp [kindF, *])))
theorem kind_13 : Pure Try.prog 14 [encNd 13 kids nk n nm, encL 1 cI (a :: b :: []), encTb tn fr to sl st] (tup2 (I (kindF 13 nk a b c fr to).1) (B (kindF 13 nk a b c fr to).2)) := by
  intro h; refine callK_body Try.func14 rfl (by rw [nt14]; simp) ?_; rw [nt14, rs14]
  ((repeat' (first | simp [go_sem, X_region, *] | simp (disch := omega) only [om, *] | ((first | refine XC_split ?_ ?_ | refine XG_true ?_ ?_ | refine XG_false ?_ ?_ | refine XRg_true ?_ ?_ | refine XRg_false ?_ ?_) <;> intro hc <;> (try simp only [bl] at hc) <;> (try (exfalso; omega))) | refine XD_w [] [] [] (fun _ => none) mixed (by decide +kernel) (sub_none _) ?_ | refine Pure.call (join_ok _ _) ?_ | refine ⟨_, Pure.at (join_ok _ _), ?_⟩ | refine ⟨_, join_ok _ _, ?_⟩ | refine PureAt.call (join_ok _ _) ?_ | (intro bk hbk; (try simp only [go_sem] at hbk)))); all_goals (refine Wk.fin (by repeat (first | exact Sub.refl _ | refine Sub.upd (by simp [*]) ?_)) ?_; first | (simp [kindF, *]; done) | (simp only [kindF]; (repeat' (first | split | rfl | omega | (simp_all; done))); done) | (simp [kindF, *]; (repeat' (first | split | omega | (rw [Bool.eq_iff_iff]; simp; omega))); done) | (simp [kindF, *])))
theorem kind_14 : Pure Try.prog 14 [encNd 14 kids nk n nm, encL 1 cI (a :: b :: []), encTb tn fr to sl st] (tup2 (I (kindF 14 nk a b c fr to).1) (B (kindF 14 nk a b c fr to).2)) := by
  intro h; refine callK_body Try.func14 rfl (by rw [nt14]; simp) ?_; rw [nt14, rs14]
  ((repeat' (first | simp [go_sem, X_region, *] | simp (disch := omega) only [om, *] | ((first | refine XC_split ?_ ?_ | refine XG_true ?_ ?_ | refine XG_false ?_ ?_ | refine XRg_true ?_ ?_ | refine XRg_false ?_ ?_) <;> intro hc <;> (try simp only [bl] at hc) <;> (try (exfalso; omega))) | refine XD_w [] [] [] (fun _ => none) mixed (by decide +kernel) (sub_none _) ?_ | refine Pure.call (join_ok _ _) ?_ | refine ⟨_, Pure.at (join_ok _ _), ?_⟩ | refine ⟨_, join_ok _ _, ?_⟩ | refine PureAt.call (join_ok _ _) ?_ | (intro bk hbk; (try simp only [go_sem] at hbk)))); all_goals (refine Wk.fin (by repeat (first | exact Sub.refl _ | refine Sub.upd (by simp [*]) ?_)) ?_; first | (simp [kindF, *]; done) | (simp only [kindF]; (repeat' (first | split | rfl | omega | (simp_all; done))); done) | (simp [kindF, *]; (repeat' (first | split | omega | (rw [Bool.eq_iff_iff]; simp; omega))); done) | (simp [kindF, *])))
theorem kind_10 : Pure Try.prog 14 [encNd 10 kids nk n nm, encL 1 cI (a :: b :: []), encTb tn fr to sl st] (tup2 (I (kindF 10 nk a b c fr to).1) (B (kindF 10 nk a b c fr to).2)) := by
  intro h; refine callK_body Try.func14 rfl (by rw [nt14]; simp) ?_; rw [nt14, rs14]
  ((repeat' (first | simp [go_sem, X_region, *] | simp (disch := omega) only [om, *] | ((first | refine XC_split ?_ ?_ | refine XG_true ?_ ?_ | refine XG_false ?_ ?_ | refine XRg_true ?_ ?_ | refine XRg_false ?_ ?_) <;> intro hc <;> (try simp only [bl] at hc) <;> (try (exfalso; omega))) | refine XD_w [] [] [] (fun _ => none) mixed (by decide +kernel) (sub_none _) ?_ | refine Pure.call (sum_ok _ _ _) ?_ | refine ⟨_, Pure.at (sum_ok _ _ _), ?_⟩ | refine ⟨_, sum_ok _ _ _, ?_⟩ | refine PureAt.call (sum_ok _ _ _) ?_ | (intro bk hbk; (try simp only [go_sem] at hbk)))); all_goals (refine Wk.fin (by repeat (first | exact Sub.refl _ | refine Sub.upd (by simp [*]) ?_)) ?_; first | (simp [kindF, *]; done) | (simp only [kindF]; (repeat' (first | split | rfl | omega | (simp_all; done))); done) | (simp [kindF, *]; (repeat' (first | split | omega | (rw [Bool.eq_iff_iff]; simp; omega))); done) | (simp [kindF, *])))
theorem kind_11 : Pure Try.prog 14 [encNd 11 kids nk n nm, encL 1 cI (a :: b :: []), encTb tn fr to sl st] (tup2 (I (kindF 11 nk a b c fr to).1) (B (kindF 11 nk a b c fr to).2)) := by
  intro h; refine callK_body Try.func14 rfl (by rw [nt14]; simp) ?_; rw [nt14, rs14]
  ((repeat' (first | simp [go_sem, X_region, *] | simp (disch := omega) only [om, *] | ((first | refine XC_split ?_ ?_ | refine XG_true ?_ ?_ | refine XG_false ?_ ?_ | refine XRg_true ?_ ?_ | refine XRg_false ?_ ?_) <;> intro hc <;> (try simp only [bl] at hc) <;> (try (exfalso; omega))) | refine XD_w [] [] [] (fun _ => none) mixed (by decide +kernel) (sub_none _) ?_ | refine Pure.call (sum_ok _ _ _) ?_ | refine ⟨_, Pure.at (sum_ok _ _ _), ?_⟩ | refine ⟨_, sum_ok _ _ _, ?_⟩ | refine PureAt.call (sum_ok _ _ _) ?_ | (intro bk hbk; (try simp only [go_sem] at hbk)))); all_goals (refine Wk.fin (by repeat (first | exact Sub.refl _ | refine Sub.upd (by simp [*]) ?_)) ?_; first | (simp [kindF, *]; done) | (simp only [kindF]; (repeat' (first | split | rfl | omega | (simp_all; done))); done) | (simp [kindF, *]; (repeat' (first | split | omega | (rw [Bool.eq_iff_iff]; simp; omega))); done) | (simp [kindF, *])))
theorem kind_17 : Pure Try.prog 14 [encNd 17 kids nk n nm, encL 1 cI [a], encTb tn fr to sl st] (tup2 (I (kindF 17 nk a b c fr to).1) (B (kindF 17 nk a b c fr to).2)) := by
  intro h; refine callK_body Try.func14 rfl (by rw [nt14]; simp) ?_; rw [nt14, rs14]
  ((repeat' (first | simp [go_sem, X_region, *] | simp (disch := omega) only [om, *] | ((first | refine XC_split ?_ ?_ | refine XG_true ?_ ?_ | refine XG_false ?_ ?_ | refine XRg_true ?_ ?_ | refine XRg_false ?_ ?_) <;> intro hc <;> (try simp only [bl] at hc) <;> (try (exfalso; omega))) | refine XD_w [] [] [] (fun _ => none) mixed (by decide +kernel) (sub_none _) ?_ | refine Pure.call (row1 _ _ (upd_same _ _ _) rfl rfl rfl) ?_ | refine ⟨_, Pure.at (row1 _ _ (upd_same _ _ _) rfl rfl rfl), ?_⟩ | refine ⟨_, row1 _ _ (upd_same _ _ _) rfl rfl rfl, ?_⟩ | refine PureAt.call (row1 _ _ (upd_same _ _ _) rfl rfl rfl) ?_ | (intro bk hbk; (try simp only [go_sem] at hbk)))); all_goals (refine Wk.fin (by repeat (first | exact Sub.refl _ | refine Sub.upd (by simp [*]) ?_)) ?_; first | (simp [kindF, *]; done) | (simp only [kindF]; (repeat' (first | split | rfl | omega | (simp_all; done))); done) | (simp [kindF, *]; (repeat' (first | split | omega | (rw [Bool.eq_iff_iff]; simp; omega))); done) | (simp [kindF, *])))
theorem kind_18 : Pure Try.prog 14 [encNd 18 kids nk n nm, encL 1 cI (a :: b :: []), encTb tn fr to sl st] (tup2 (I (kindF 18 nk a b c fr to).1) (B (kindF 18 nk a b c fr to).2)) := by
  intro h; refine callK_body Try.func14 rfl (by rw [nt14]; simp) ?_; rw [nt14, rs14]
  ((repeat' (first | simp [go_sem, X_region, *] | simp (disch := omega) only [om, *] | ((first | refine XC_split ?_ ?_ | refine XG_true ?_ ?_ | refine XG_false ?_ ?_ | refine XRg_true ?_ ?_ | refine XRg_false ?_ ?_) <;> intro hc <;> (try simp only [bl] at hc) <;> (try (exfalso; omega))) | refine XD_w [] [] [] (fun _ => none) mixed (by decide +kernel) (sub_none _) ?_ | refine Pure.call (row1 _ _ (upd_same _ _ _) rfl rfl rfl) ?_ | refine ⟨_, Pure.at (row1 _ _ (upd_same _ _ _) rfl rfl rfl), ?_⟩ | refine ⟨_, row1 _ _ (upd_same _ _ _) rfl rfl rfl, ?_⟩ | refine PureAt.call (row1 _ _ (upd_same _ _ _) rfl rfl rfl) ?_ | (intro bk hbk; (try simp only [go_sem] at hbk)))); all_goals (refine Wk.fin (by repeat (first | exact Sub.refl _ | refine Sub.upd (by simp [*]) ?_)) ?_; first | (simp [kindF, *]; done) | (simp only [kindF]; (repeat' (first | split | rfl | omega | (simp_all; done))); done) | (simp [kindF, *]; (repeat' (first | split | omega | (rw [Bool.eq_iff_iff]; simp; omega))); done) | (simp [kindF, *])))
end
end Go.Proofs.Ytmalhikcdideoaa

set_option linter.unusedVariables false
set_option linter.unusedSimpArgs false
namespace Go.Proofs.Ytmalhikcdideoaa
open Go Sl
attribute [local irreducible] LpQ XR XRo XRg XRQ putQ XFv XL XW2 wQ putW X XO XOp XH XHo XW SeqQ BlkQ XOQ XHQ NrmQ XC XM XG XHM XHG XD CallK
/-- A table: name, from, to, slices, steps. -/
structure Tb where
  name : ByteArray
  fr : Int
  to : Int
  sl : Bool
  steps : List (Int × Int)
@[go_sem] def cSt (x : Int × Int) : List AV := [I x.1, I x.2]
@[go_sem] def cTb (t : Tb) : List AV := [S t.name, I t.fr, I t.to, B t.sl, encL 2 cSt t.steps]
def tb0 : Tb := ⟨⟨#[]⟩, 0, 0, false, []⟩
@[go_sem] def cV (v : V) : List AV := [I v.k, I v.n]
def logicF (o : Int) (a b c : V) : V × Bool :=
  if o = 4 then (val3 (not3 (of3 a)), true) else if o = 5 then (val3 (and3 (of3 a) (of3 b)), true) else if o = 6 then (val3 (or3 (of3 a) (of3 b)), true) else if o = 15 then (chooseV a b c, true) else (v0, false)
section
variable (a b c : V)
theorem logic_4 : Pure Try.prog 15 [I 4, encL 2 cV [a]] (tup2 (encV (logicF 4 a b c).1) (B (logicF 4 a b c).2)) := by
  intro h; refine callK_body Try.func15 rfl (by rw [nt15]; simp) ?_; rw [nt15, rs15]
  ((repeat' (first | simp [go_sem, X_region, *] | simp (disch := omega) only [om, *] | ((first | refine XC_split ?_ ?_ | refine XG_true ?_ ?_ | refine XG_false ?_ ?_ | refine XRg_true ?_ ?_ | refine XRg_false ?_ ?_) <;> intro hc <;> (try simp only [bl] at hc) <;> (try (exfalso; omega))) | refine XD_w [] [] [] (fun _ => none) mixed (by decide +kernel) (sub_none _) ?_ | refine Pure.call (of3_ok _) ?_ | refine ⟨_, Pure.at (of3_ok _), ?_⟩ | refine ⟨_, of3_ok _, ?_⟩ | refine PureAt.call (of3_ok _) ?_ | refine Pure.call (not3_ok _) ?_ | refine ⟨_, Pure.at (not3_ok _), ?_⟩ | refine ⟨_, not3_ok _, ?_⟩ | refine PureAt.call (not3_ok _) ?_ | refine Pure.call (val3_ok _) ?_ | refine ⟨_, Pure.at (val3_ok _), ?_⟩ | refine ⟨_, val3_ok _, ?_⟩ | refine PureAt.call (val3_ok _) ?_ | (intro bk hbk; (try simp only [go_sem] at hbk)))); all_goals (refine Wk.fin (by repeat (first | exact Sub.refl _ | refine Sub.upd (by simp [*]) ?_)) ?_; first | (simp [logicF, *]; done) | (simp only [logicF]; (repeat' (first | split | rfl | omega | (simp_all; done))); done) | (simp [logicF, *]; (repeat' (first | split | omega | (rw [Bool.eq_iff_iff]; simp; omega))); done) | (simp [logicF, *])))
theorem logic_5 : Pure Try.prog 15 [I 5, encL 2 cV (a :: b :: [])] (tup2 (encV (logicF 5 a b c).1) (B (logicF 5 a b c).2)) := by
  intro h; refine callK_body Try.func15 rfl (by rw [nt15]; simp) ?_; rw [nt15, rs15]
  ((repeat' (first | simp [go_sem, X_region, *] | simp (disch := omega) only [om, *] | ((first | refine XC_split ?_ ?_ | refine XG_true ?_ ?_ | refine XG_false ?_ ?_ | refine XRg_true ?_ ?_ | refine XRg_false ?_ ?_) <;> intro hc <;> (try simp only [bl] at hc) <;> (try (exfalso; omega))) | refine XD_w [] [] [] (fun _ => none) mixed (by decide +kernel) (sub_none _) ?_ | refine Pure.call (of3_ok _) ?_ | refine ⟨_, Pure.at (of3_ok _), ?_⟩ | refine ⟨_, of3_ok _, ?_⟩ | refine PureAt.call (of3_ok _) ?_ | refine Pure.call (and3_ok _ _) ?_ | refine ⟨_, Pure.at (and3_ok _ _), ?_⟩ | refine ⟨_, and3_ok _ _, ?_⟩ | refine PureAt.call (and3_ok _ _) ?_ | refine Pure.call (val3_ok _) ?_ | refine ⟨_, Pure.at (val3_ok _), ?_⟩ | refine ⟨_, val3_ok _, ?_⟩ | refine PureAt.call (val3_ok _) ?_ | (intro bk hbk; (try simp only [go_sem] at hbk)))); all_goals (refine Wk.fin (by repeat (first | exact Sub.refl _ | refine Sub.upd (by simp [*]) ?_)) ?_; first | (simp [logicF, *]; done) | (simp only [logicF]; (repeat' (first | split | rfl | omega | (simp_all; done))); done) | (simp [logicF, *]; (repeat' (first | split | omega | (rw [Bool.eq_iff_iff]; simp; omega))); done) | (simp [logicF, *])))
theorem logic_6 : Pure Try.prog 15 [I 6, encL 2 cV (a :: b :: [])] (tup2 (encV (logicF 6 a b c).1) (B (logicF 6 a b c).2)) := by
  intro h; refine callK_body Try.func15 rfl (by rw [nt15]; simp) ?_; rw [nt15, rs15]
  ((repeat' (first | simp [go_sem, X_region, *] | simp (disch := omega) only [om, *] | ((first | refine XC_split ?_ ?_ | refine XG_true ?_ ?_ | refine XG_false ?_ ?_ | refine XRg_true ?_ ?_ | refine XRg_false ?_ ?_) <;> intro hc <;> (try simp only [bl] at hc) <;> (try (exfalso; omega))) | refine XD_w [] [] [] (fun _ => none) mixed (by decide +kernel) (sub_none _) ?_ | refine Pure.call (of3_ok _) ?_ | refine ⟨_, Pure.at (of3_ok _), ?_⟩ | refine ⟨_, of3_ok _, ?_⟩ | refine PureAt.call (of3_ok _) ?_ | refine Pure.call (or3_ok _ _) ?_ | refine ⟨_, Pure.at (or3_ok _ _), ?_⟩ | refine ⟨_, or3_ok _ _, ?_⟩ | refine PureAt.call (or3_ok _ _) ?_ | refine Pure.call (val3_ok _) ?_ | refine ⟨_, Pure.at (val3_ok _), ?_⟩ | refine ⟨_, val3_ok _, ?_⟩ | refine PureAt.call (val3_ok _) ?_ | (intro bk hbk; (try simp only [go_sem] at hbk)))); all_goals (refine Wk.fin (by repeat (first | exact Sub.refl _ | refine Sub.upd (by simp [*]) ?_)) ?_; first | (simp [logicF, *]; done) | (simp only [logicF]; (repeat' (first | split | rfl | omega | (simp_all; done))); done) | (simp [logicF, *]; (repeat' (first | split | omega | (rw [Bool.eq_iff_iff]; simp; omega))); done) | (simp [logicF, *])))
theorem logic_15 : Pure Try.prog 15 [I 15, encL 2 cV (a :: b :: c :: [])] (tup2 (encV (logicF 15 a b c).1) (B (logicF 15 a b c).2)) := by
  intro h; refine callK_body Try.func15 rfl (by rw [nt15]; simp) ?_; rw [nt15, rs15]
  ((repeat' (first | simp [go_sem, X_region, *] | simp (disch := omega) only [om, *] | ((first | refine XC_split ?_ ?_ | refine XG_true ?_ ?_ | refine XG_false ?_ ?_ | refine XRg_true ?_ ?_ | refine XRg_false ?_ ?_) <;> intro hc <;> (try simp only [bl] at hc) <;> (try (exfalso; omega))) | refine XD_w [] [] [] (fun _ => none) mixed (by decide +kernel) (sub_none _) ?_ | refine Pure.call (choose_ok _ _ _) ?_ | refine ⟨_, Pure.at (choose_ok _ _ _), ?_⟩ | refine ⟨_, choose_ok _ _ _, ?_⟩ | refine PureAt.call (choose_ok _ _ _) ?_ | (intro bk hbk; (try simp only [go_sem] at hbk)))); all_goals (refine Wk.fin (by repeat (first | exact Sub.refl _ | refine Sub.upd (by simp [*]) ?_)) ?_; first | (simp [logicF, *]; done) | (simp only [logicF]; (repeat' (first | split | rfl | omega | (simp_all; done))); done) | (simp [logicF, *]; (repeat' (first | split | omega | (rw [Bool.eq_iff_iff]; simp; omega))); done) | (simp [logicF, *])))
theorem logic_no (o : Int) (l : List V) (h4 : o ≠ 4) (h5 : o ≠ 5) (h6 : o ≠ 6) (h15 : o ≠ 15) : Pure Try.prog 15 [I o, encL 2 cV l] (tup2 (encV v0) (B false)) := by
  intro h; refine callK_body Try.func15 rfl (by rw [nt15]; simp) ?_; rw [nt15, rs15]
  ((repeat' (first | simp [go_sem, X_region, *] | simp (disch := omega) only [om, *] | ((first | refine XC_split ?_ ?_ | refine XG_true ?_ ?_ | refine XG_false ?_ ?_ | refine XRg_true ?_ ?_ | refine XRg_false ?_ ?_) <;> intro hc <;> (try simp only [bl] at hc) <;> (try (exfalso; omega))) | refine XD_w [] [] [] (fun _ => none) mixed (by decide +kernel) (sub_none _) ?_ | (intro bk hbk; (try simp only [go_sem] at hbk)))); all_goals (refine Wk.fin (by repeat (first | exact Sub.refl _ | refine Sub.upd (by simp [*]) ?_)) ?_; first | (simp [v0, *]; done) | (simp only [v0]; (repeat' (first | split | rfl | omega | (simp_all; done))); done) | (simp [v0, *]; (repeat' (first | split | omega | (rw [Bool.eq_iff_iff]; simp; omega))); done) | (simp [v0, *])))
end
end Go.Proofs.Ytmalhikcdideoaa

set_option linter.unusedVariables false
set_option linter.unusedSimpArgs false
namespace Go.Proofs.Ytmalhikcdideoaa
open Go Sl
attribute [local irreducible] LpQ XR XRo XRg XRQ putQ XFv XL XW2 wQ putW X XO XOp XH XHo XW SeqQ BlkQ XOQ XHQ NrmQ XC XM XG XHM XHG XD CallK
abbrev ptr (b : Nat) : AV := .v (.pointer (some ⟨b, 0, none⟩))
theorem sub_free {h0 h : Hp} {b : Nat} (s : Sub h0 h) (hb : h b = none) : h0 b = none := by
  cases hx : h0 b with
  | none => rfl
  | some o => rw [s b o hx] at hb; cases hb
@[go_sem] def encTbA (t : Tb) : AV := aggL [S t.name, I t.fr, I t.to, B t.sl, encL 2 cSt t.steps]
def findF (nm : ByteArray) : List Tb → Option Tb
  | [] => none
  | t :: r => if t.name = nm then some t else findF nm r
@[go_sem] def encO : Option Tb → AV
  | some t => encTbA t
  | none => aggL [S ⟨#[]⟩, I 0, I 0, B false, .v (.slice none 0 0)]
theorem find_ok (nm : ByteArray) (l : List Tb) : Pure Try.prog 12 [encL 5 cTb l, S nm] (tup2 (encO (findF nm l)) (B (findF nm l).isSome)) := by
  generalize hR : findF nm l = R
  intro h; refine CallK.lens fun hlen => ?_; have hlen := (hlen _ (by simp only [List.mem_cons, true_or, or_true] : (encL 5 cTb l) ∈ _)).encL; refine callK_body Try.func12 rfl (by rw [nt12]; simp) ?_; rw [nt12, rs12]
  (repeat' (first | simp [go_sem, X_region, *] | simp (disch := omega) only [om, *] | ((first | refine XC_split ?_ ?_ | refine XG_true ?_ ?_ | refine XG_false ?_ ?_ | refine XRg_true ?_ ?_ | refine XRg_false ?_ ?_) <;> intro hc <;> (try simp only [bl] at hc) <;> (try (exfalso; omega))) | refine XD_w [] [] [] (fun _ => none) mixed (by decide +kernel) (sub_none _) ?_ | fail))
  intro b hb
  (repeat' (first | simp [go_sem, X_region, *] | simp (disch := omega) only [om, *] | ((first | refine XC_split ?_ ?_ | refine XG_true ?_ ?_ | refine XG_false ?_ ?_ | refine XRg_true ?_ ?_ | refine XRg_false ?_ ?_) <;> intro hc <;> (try simp only [bl] at hc) <;> (try (exfalso; omega))) | refine XD_w [] [] [] (fun _ => none) mixed (by decide +kernel) (sub_none _) ?_ | fail))
  refine X_lp (fun n T h2 => ∃ (i : Nat) (r : List Tb) (o : Ob), n = r.length ∧ l.drop i = r ∧ findF nm r = R ∧ T 8 = encL 5 cTb l ∧ T 9 = I l.length ∧ T 10 = I i ∧ T 1 = S nm ∧ T 4 = ptr b ∧ Sub h h2 ∧ h2 b = some o ∧ o.s = 5 ∧ o.n = 1 ∧ o.ty = 44) l.length ⟨0, l, _, rfl, rfl, hR, by simp [go_sem], by simp [go_sem], by simp [go_sem], by simp [go_sem], by simp [go_sem], Sub.upd hb (Sub.refl _), upd_same _ _ _, rfl, rfl, rfl⟩ ?_
  clear hR
  rintro J hJ n T h2 ⟨i, r, o, rfl, hd, hR, t8, t9, t10, t1, t4, hsub, ho, o1, o2, o3⟩
  rcases r with _ | ⟨x, r⟩
  · have hlt := drop_nil hd
    (repeat' (first | simp [go_sem, X_region, *] | simp (disch := omega) only [om, *] | ((first | refine XC_split ?_ ?_ | refine XG_true ?_ ?_ | refine XG_false ?_ ?_ | refine XRg_true ?_ ?_ | refine XRg_false ?_ ?_) <;> intro hc <;> (try simp only [bl] at hc) <;> (try (exfalso; omega))) | refine XD_w [] [] [] (fun _ => none) mixed (by decide +kernel) (sub_none _) ?_ | fail))
    subst hR
    exact Wk.drop _ (Sub.upd hb hsub)
  · obtain ⟨hlt, hx, hd2⟩ := drop_cons hd
    by_cases he : x.name = nm
    · (repeat' (first | simp [go_sem, X_region, *] | simp (disch := omega) only [om, *] | ((first | refine XC_split ?_ ?_ | refine XG_true ?_ ?_ | refine XG_false ?_ ?_ | refine XRg_true ?_ ?_ | refine XRg_false ?_ ?_) <;> intro hc <;> (try simp only [bl] at hc) <;> (try (exfalso; omega))) | refine XD_w [] [] [] (fun _ => none) mixed (by decide +kernel) (sub_none _) ?_ | fail))
      intro b2 hb2
      have n12 := ne_free hb2 ho
      (repeat' (first | simp [go_sem, X_region, *] | simp (disch := omega) only [om, *] | ((first | refine XC_split ?_ ?_ | refine XG_true ?_ ?_ | refine XG_false ?_ ?_ | refine XRg_true ?_ ?_ | refine XRg_false ?_ ?_) <;> intro hc <;> (try simp only [bl] at hc) <;> (try (exfalso; omega))) | refine XD_w [] [] [] (fun _ => none) mixed (by decide +kernel) (sub_none _) ?_ | fail))
      rw [show R = some x by rw [← hR]; simp [findF, he]]
      subst he
      exact Wk.drop _ (Sub.upd hb (Sub.upd (sub_free hsub hb2) hsub))
    · (repeat' (first | simp [go_sem, X_region, *] | simp (disch := omega) only [om, *] | ((first | refine XC_split ?_ ?_ | refine XG_true ?_ ?_ | refine XG_false ?_ ?_ | refine XRg_true ?_ ?_ | refine XRg_false ?_ ?_) <;> intro hc <;> (try simp only [bl] at hc) <;> (try (exfalso; omega))) | refine XD_w [] [] [] (fun _ => none) mixed (by decide +kernel) (sub_none _) ?_ | fail))
      intro b2 hb2
      have n12 := ne_free hb2 ho
      exact ⟨r.length, by omega, hJ.out _ _ _ ⟨i + 1, r, o, rfl, hd2, by rw [← hR]; simp [findF, he], by simp [go_sem, *], by simp [go_sem, *], by simp [go_sem, *], by simp [go_sem, *], by simp [go_sem, *], Sub.upd (sub_free hsub hb2) hsub, by rw [upd_ne _ _ n12.2]; exact ho, o1, o2, o3⟩⟩
end Go.Proofs.Ytmalhikcdideoaa

set_option linter.unusedVariables false
set_option linter.unusedSimpArgs false
namespace Go.Proofs.Ytmalhikcdideoaa
open Go Sl
attribute [local irreducible] LpQ XR XRo XRg XRQ putQ XFv XL XW2 wQ putW X XO XOp XH XHo XW SeqQ BlkQ XOQ XHQ NrmQ XC XM XG XHM XHG XD CallK
def tkindsB (t : Tb) : Bool := decide (2 ≤ t.fr ∧ t.fr ≤ 6) && decide (t.to = 2 ∨ t.to = 3 ∨ t.to = 5 ∨ t.to = 6) && (!t.sl || decide (t.fr = 2 ∧ t.to = 2))
theorem tkinds_ok (t : Tb) : Pure Try.prog 29 [encTbA t] (B (tkindsB t)) := by
  intro h; refine callK_body Try.func29 rfl (by rw [nt29]; simp) ?_; rw [nt29, rs29]
  ((repeat' (first | simp [go_sem, X_region, *] | simp (disch := omega) only [om, *] | ((first | refine XC_split ?_ ?_ | refine XG_true ?_ ?_ | refine XG_false ?_ ?_ | refine XRg_true ?_ ?_ | refine XRg_false ?_ ?_) <;> intro hc <;> (try simp only [bl] at hc) <;> (try (exfalso; omega))) | refine XD_w [] [] [] (fun _ => none) mixed (by decide +kernel) (sub_none _) ?_ | (intro bk hbk; (try simp only [go_sem] at hbk)))); all_goals (refine Wk.fin (by repeat (first | exact Sub.refl _ | refine Sub.upd (by simp [*]) ?_)) ?_; first | (simp [tkindsB, *]; done) | (simp only [tkindsB]; (repeat' (first | split | rfl | omega | (simp_all; done))); done) | (simp [tkindsB, *]; (repeat' (first | split | omega | (rw [Bool.eq_iff_iff]; simp; omega))); done) | (simp [tkindsB, *])))
theorem tfit_ok (t : Tb) (n : Int) : Pure Try.prog 60 [encTbA t, I n] (I (fitV ⟨t.fr, n⟩).n) := by
  have hf := fitV_ok ⟨t.fr, n⟩
  generalize fitV ⟨t.fr, n⟩ = v at *
  intro h; refine callK_body Try.func60 rfl (by rw [nt60]; simp) ?_; rw [nt60, rs60]
  ((repeat' (first | simp [go_sem, X_region, *] | simp (disch := omega) only [om, *] | ((first | refine XC_split ?_ ?_ | refine XG_true ?_ ?_ | refine XG_false ?_ ?_ | refine XRg_true ?_ ?_ | refine XRg_false ?_ ?_) <;> intro hc <;> (try simp only [bl] at hc) <;> (try (exfalso; omega))) | refine XD_w [] [] [] (fun _ => none) mixed (by decide +kernel) (sub_none _) ?_ | refine Pure.call (hf) ?_ | refine ⟨_, Pure.at (hf), ?_⟩ | refine ⟨_, hf, ?_⟩ | refine PureAt.call (hf) ?_ | (intro bk hbk; (try simp only [go_sem] at hbk)))); all_goals (refine Wk.fin (by repeat (first | exact Sub.refl _ | refine Sub.upd (by simp [*]) ?_)) ?_; first | (simp [*]; done) | (simp only []; (repeat' (first | split | rfl | omega | (simp_all; done))); done) | (simp [*]; (repeat' (first | split | omega | (rw [Bool.eq_iff_iff]; simp; omega))); done) | (simp [*])))
theorem clamp_ok (n lo hi : Int) (hl : lo ≤ hi) : Pure Try.prog 72 [I n, I lo, I hi] (I (max lo (min n hi))) := by
  rw [show max lo (min n hi) = min (max n lo) hi by omega]
  intro h; refine callK_body Try.func72 rfl (by rw [nt72]; simp) ?_; rw [nt72, rs72]
  ((repeat' (first | simp [go_sem, X_region, *] | simp (disch := omega) only [om, *] | ((first | refine XC_split ?_ ?_ | refine XG_true ?_ ?_ | refine XG_false ?_ ?_ | refine XRg_true ?_ ?_ | refine XRg_false ?_ ?_) <;> intro hc <;> (try simp only [bl] at hc) <;> (try (exfalso; omega))) | refine XD_w [] [] [] (fun _ => none) mixed (by decide +kernel) (sub_none _) ?_ | (intro bk hbk; (try simp only [go_sem] at hbk)))); all_goals (refine Wk.fin (by repeat (first | exact Sub.refl _ | refine Sub.upd (by simp [*]) ?_)) ?_; first | (simp [*]; done) | (simp only []; (repeat' (first | split | rfl | omega | (simp_all; done))); done) | (simp [*]; (repeat' (first | split | omega | (rw [Bool.eq_iff_iff]; simp; omega))); done) | (simp [*])))
set_option maxHeartbeats 2000000 in
theorem fitted_ok (k n : Int) (h0 : 0 ≤ k) (h6 : k ≤ 6) : Pure Try.prog 53 [I k, I n] (encV (fitV ⟨k, n⟩)) := by
  obtain ⟨m, rfl, hm⟩ : ∃ m : Nat, k = m ∧ m < 7 := ⟨k.toNat, by omega, by omega⟩
  have hcase : m = 0 ∨ m = 1 ∨ m = 2 ∨ m = 3 ∨ m = 4 ∨ m = 5 ∨ m = 6 := by omega
  rcases hcase with rfl | rfl | rfl | rfl | rfl | rfl | rfl
  · intro h; refine callK_body Try.func53 rfl (by rw [nt53]; simp) ?_; rw [nt53, rs53]
    ((repeat' (first | simp [go_sem, X_region, *] | simp (disch := omega) only [om, *] | ((first | refine XC_split ?_ ?_ | refine XG_true ?_ ?_ | refine XG_false ?_ ?_ | refine XRg_true ?_ ?_ | refine XRg_false ?_ ?_) <;> intro hc <;> (try simp only [bl] at hc) <;> (try (exfalso; omega))) | refine XD_w [] [] [] (fun _ => none) mixed (by decide +kernel) (sub_none _) ?_ | refine Pure.call (clamp_ok _ _ _ (by decide)) ?_ | refine ⟨_, Pure.at (clamp_ok _ _ _ (by decide)), ?_⟩ | refine ⟨_, clamp_ok _ _ _ (by decide), ?_⟩ | refine PureAt.call (clamp_ok _ _ _ (by decide)) ?_ | (intro bk hbk; (try simp only [go_sem] at hbk)))); all_goals (refine Wk.fin (by repeat (first | exact Sub.refl _ | refine Sub.upd (by simp [*]) ?_)) ?_; first | (simp [fitV, lo, hi, *]; done) | (simp only [fitV, lo, hi]; (repeat' (first | split | rfl | omega | (simp_all; done))); done) | (simp [fitV, lo, hi, *]; (repeat' (first | split | omega | (rw [Bool.eq_iff_iff]; simp; omega))); done) | (simp [fitV, lo, hi, *])))
  · intro h; refine callK_body Try.func53 rfl (by rw [nt53]; simp) ?_; rw [nt53, rs53]
    ((repeat' (first | simp [go_sem, X_region, *] | simp (disch := omega) only [om, *] | ((first | refine XC_split ?_ ?_ | refine XG_true ?_ ?_ | refine XG_false ?_ ?_ | refine XRg_true ?_ ?_ | refine XRg_false ?_ ?_) <;> intro hc <;> (try simp only [bl] at hc) <;> (try (exfalso; omega))) | refine XD_w [] [] [] (fun _ => none) mixed (by decide +kernel) (sub_none _) ?_ | refine Pure.call (clamp_ok _ _ _ (by decide)) ?_ | refine ⟨_, Pure.at (clamp_ok _ _ _ (by decide)), ?_⟩ | refine ⟨_, clamp_ok _ _ _ (by decide), ?_⟩ | refine PureAt.call (clamp_ok _ _ _ (by decide)) ?_ | (intro bk hbk; (try simp only [go_sem] at hbk)))); all_goals (refine Wk.fin (by repeat (first | exact Sub.refl _ | refine Sub.upd (by simp [*]) ?_)) ?_; first | (simp [fitV, lo, hi, *]; done) | (simp only [fitV, lo, hi]; (repeat' (first | split | rfl | omega | (simp_all; done))); done) | (simp [fitV, lo, hi, *]; (repeat' (first | split | omega | (rw [Bool.eq_iff_iff]; simp; omega))); done) | (simp [fitV, lo, hi, *])))
  · intro h; refine callK_body Try.func53 rfl (by rw [nt53]; simp) ?_; rw [nt53, rs53]
    ((repeat' (first | simp [go_sem, X_region, *] | simp (disch := omega) only [om, *] | ((first | refine XC_split ?_ ?_ | refine XG_true ?_ ?_ | refine XG_false ?_ ?_ | refine XRg_true ?_ ?_ | refine XRg_false ?_ ?_) <;> intro hc <;> (try simp only [bl] at hc) <;> (try (exfalso; omega))) | refine XD_w [] [] [] (fun _ => none) mixed (by decide +kernel) (sub_none _) ?_ | refine Pure.call (clamp_ok _ _ _ (by decide)) ?_ | refine ⟨_, Pure.at (clamp_ok _ _ _ (by decide)), ?_⟩ | refine ⟨_, clamp_ok _ _ _ (by decide), ?_⟩ | refine PureAt.call (clamp_ok _ _ _ (by decide)) ?_ | (intro bk hbk; (try simp only [go_sem] at hbk)))); all_goals (refine Wk.fin (by repeat (first | exact Sub.refl _ | refine Sub.upd (by simp [*]) ?_)) ?_; first | (simp [fitV, lo, hi, *]; done) | (simp only [fitV, lo, hi]; (repeat' (first | split | rfl | omega | (simp_all; done))); done) | (simp [fitV, lo, hi, *]; (repeat' (first | split | omega | (rw [Bool.eq_iff_iff]; simp; omega))); done) | (simp [fitV, lo, hi, *])))
  · intro h; refine callK_body Try.func53 rfl (by rw [nt53]; simp) ?_; rw [nt53, rs53]
    ((repeat' (first | simp [go_sem, X_region, *] | simp (disch := omega) only [om, *] | ((first | refine XC_split ?_ ?_ | refine XG_true ?_ ?_ | refine XG_false ?_ ?_ | refine XRg_true ?_ ?_ | refine XRg_false ?_ ?_) <;> intro hc <;> (try simp only [bl] at hc) <;> (try (exfalso; omega))) | refine XD_w [] [] [] (fun _ => none) mixed (by decide +kernel) (sub_none _) ?_ | refine Pure.call (clamp_ok _ _ _ (by decide)) ?_ | refine ⟨_, Pure.at (clamp_ok _ _ _ (by decide)), ?_⟩ | refine ⟨_, clamp_ok _ _ _ (by decide), ?_⟩ | refine PureAt.call (clamp_ok _ _ _ (by decide)) ?_ | (intro bk hbk; (try simp only [go_sem] at hbk)))); all_goals (refine Wk.fin (by repeat (first | exact Sub.refl _ | refine Sub.upd (by simp [*]) ?_)) ?_; first | (simp [fitV, lo, hi, *]; done) | (simp only [fitV, lo, hi]; (repeat' (first | split | rfl | omega | (simp_all; done))); done) | (simp [fitV, lo, hi, *]; (repeat' (first | split | omega | (rw [Bool.eq_iff_iff]; simp; omega))); done) | (simp [fitV, lo, hi, *])))
  · intro h; refine callK_body Try.func53 rfl (by rw [nt53]; simp) ?_; rw [nt53, rs53]
    ((repeat' (first | simp [go_sem, X_region, *] | simp (disch := omega) only [om, *] | ((first | refine XC_split ?_ ?_ | refine XG_true ?_ ?_ | refine XG_false ?_ ?_ | refine XRg_true ?_ ?_ | refine XRg_false ?_ ?_) <;> intro hc <;> (try simp only [bl] at hc) <;> (try (exfalso; omega))) | refine XD_w [] [] [] (fun _ => none) mixed (by decide +kernel) (sub_none _) ?_ | refine Pure.call (clamp_ok _ _ _ (by decide)) ?_ | refine ⟨_, Pure.at (clamp_ok _ _ _ (by decide)), ?_⟩ | refine ⟨_, clamp_ok _ _ _ (by decide), ?_⟩ | refine PureAt.call (clamp_ok _ _ _ (by decide)) ?_ | (intro bk hbk; (try simp only [go_sem] at hbk)))); all_goals (refine Wk.fin (by repeat (first | exact Sub.refl _ | refine Sub.upd (by simp [*]) ?_)) ?_; first | (simp [fitV, lo, hi, *]; done) | (simp only [fitV, lo, hi]; (repeat' (first | split | rfl | omega | (simp_all; done))); done) | (simp [fitV, lo, hi, *]; (repeat' (first | split | omega | (rw [Bool.eq_iff_iff]; simp; omega))); done) | (simp [fitV, lo, hi, *])))
  · intro h; refine callK_body Try.func53 rfl (by rw [nt53]; simp) ?_; rw [nt53, rs53]
    ((repeat' (first | simp [go_sem, X_region, *] | simp (disch := omega) only [om, *] | ((first | refine XC_split ?_ ?_ | refine XG_true ?_ ?_ | refine XG_false ?_ ?_ | refine XRg_true ?_ ?_ | refine XRg_false ?_ ?_) <;> intro hc <;> (try simp only [bl] at hc) <;> (try (exfalso; omega))) | refine XD_w [] [] [] (fun _ => none) mixed (by decide +kernel) (sub_none _) ?_ | refine Pure.call (clamp_ok _ _ _ (by decide)) ?_ | refine ⟨_, Pure.at (clamp_ok _ _ _ (by decide)), ?_⟩ | refine ⟨_, clamp_ok _ _ _ (by decide), ?_⟩ | refine PureAt.call (clamp_ok _ _ _ (by decide)) ?_ | (intro bk hbk; (try simp only [go_sem] at hbk)))); all_goals (refine Wk.fin (by repeat (first | exact Sub.refl _ | refine Sub.upd (by simp [*]) ?_)) ?_; first | (simp [fitV, lo, hi, *]; done) | (simp only [fitV, lo, hi]; (repeat' (first | split | rfl | omega | (simp_all; done))); done) | (simp [fitV, lo, hi, *]; (repeat' (first | split | omega | (rw [Bool.eq_iff_iff]; simp; omega))); done) | (simp [fitV, lo, hi, *])))
  · intro h; refine callK_body Try.func53 rfl (by rw [nt53]; simp) ?_; rw [nt53, rs53]
    ((repeat' (first | simp [go_sem, X_region, *] | simp (disch := omega) only [om, *] | ((first | refine XC_split ?_ ?_ | refine XG_true ?_ ?_ | refine XG_false ?_ ?_ | refine XRg_true ?_ ?_ | refine XRg_false ?_ ?_) <;> intro hc <;> (try simp only [bl] at hc) <;> (try (exfalso; omega))) | refine XD_w [] [] [] (fun _ => none) mixed (by decide +kernel) (sub_none _) ?_ | refine Pure.call (clamp_ok _ _ _ (by decide)) ?_ | refine ⟨_, Pure.at (clamp_ok _ _ _ (by decide)), ?_⟩ | refine ⟨_, clamp_ok _ _ _ (by decide), ?_⟩ | refine PureAt.call (clamp_ok _ _ _ (by decide)) ?_ | (intro bk hbk; (try simp only [go_sem] at hbk)))); all_goals (refine Wk.fin (by repeat (first | exact Sub.refl _ | refine Sub.upd (by simp [*]) ?_)) ?_; first | (simp [fitV, lo, hi, *]; done) | (simp only [fitV, lo, hi]; (repeat' (first | split | rfl | omega | (simp_all; done))); done) | (simp [fitV, lo, hi, *]; (repeat' (first | split | omega | (rw [Bool.eq_iff_iff]; simp; omega))); done) | (simp [fitV, lo, hi, *])))
end Go.Proofs.Ytmalhikcdideoaa

set_option linter.unusedVariables false
set_option linter.unusedSimpArgs false
namespace Go.Proofs.Ytmalhikcdideoaa
open Go Sl
attribute [local irreducible] LpQ XR XRo XRg XRQ putQ XFv XL XW2 wQ putW X XO XOp XH XHo XW SeqQ BlkQ XOQ XHQ NrmQ XC XM XG XHM XHG XD CallK
def permF (op a b c fr to : Int) : Int × Bool :=
  if op = 4 then (1, decide (a = 1))
  else if op = 5 ∨ op = 6 then (1, decide (a = 1 ∧ b = 1))
  else if op = 7 ∨ op = 8 then (1, decide (a = b ∧ a ≠ 1))
  else if op = 9 then (1, decide (a = b))
  else if op = 13 ∨ op = 14 then (a, decide (a = b ∧ a ≠ 1))
  else if op = 10 ∨ op = 11 then if op = 11 ∧ a = b ∧ a = 4 then (3, true) else (a, decide ((a = b ∧ a ≠ 1 ∧ a ≠ 4) ∨ (a = 4 ∧ b = 3)))
  else if op = 12 then (a, decide ((b = 6 ∧ (a = 2 ∨ a = 3 ∨ a = 5 ∨ a = 6)) ∨ (b = 5 ∧ (a = 2 ∨ a = 3))))
  else if op = 15 then (b, decide (a = 1 ∧ b = c))
  else if op = 16 then (to, decide (a = fr))
  else if op = 17 then (2, decide (a = 2))
  else (5, decide (a = b ∧ a = 4))
section
variable (a b c fr to : Int)
theorem perm_7 : Pure Try.prog 49 [I 7, encL 1 cI (a :: b :: []), I fr, I to] (tup2 (I (permF 7 a b c fr to).1) (B (permF 7 a b c fr to).2)) := by
  intro h; refine callK_body Try.func49 rfl (by rw [nt49]; simp) ?_; rw [nt49, rs49]
  ((repeat' (first | simp [go_sem, X_region, *] | simp (disch := omega) only [om, *] | ((first | refine XC_split ?_ ?_ | refine XG_true ?_ ?_ | refine XG_false ?_ ?_ | refine XRg_true ?_ ?_ | refine XRg_false ?_ ?_) <;> intro hc <;> (try simp only [bl] at hc) <;> (try (exfalso; omega))) | refine XD_w [] [] [] (fun _ => none) mixed (by decide +kernel) (sub_none _) ?_ | (intro bk hbk; (try simp only [go_sem] at hbk)))); all_goals (refine Wk.fin (by repeat (first | exact Sub.refl _ | refine Sub.upd (by simp [*]) ?_)) ?_; first | (simp [permF, *]; done) | (simp only [permF]; (repeat' (first | split | rfl | omega | (simp_all; done))); done) | (simp [permF, *]; (repeat' (first | split | omega | (rw [Bool.eq_iff_iff]; simp; omega))); done) | (simp [permF, *])))
theorem perm_8 : Pure Try.prog 49 [I 8, encL 1 cI (a :: b :: []), I fr, I to] (tup2 (I (permF 8 a b c fr to).1) (B (permF 8 a b c fr to).2)) := by
  intro h; refine callK_body Try.func49 rfl (by rw [nt49]; simp) ?_; rw [nt49, rs49]
  ((repeat' (first | simp [go_sem, X_region, *] | simp (disch := omega) only [om, *] | ((first | refine XC_split ?_ ?_ | refine XG_true ?_ ?_ | refine XG_false ?_ ?_ | refine XRg_true ?_ ?_ | refine XRg_false ?_ ?_) <;> intro hc <;> (try simp only [bl] at hc) <;> (try (exfalso; omega))) | refine XD_w [] [] [] (fun _ => none) mixed (by decide +kernel) (sub_none _) ?_ | (intro bk hbk; (try simp only [go_sem] at hbk)))); all_goals (refine Wk.fin (by repeat (first | exact Sub.refl _ | refine Sub.upd (by simp [*]) ?_)) ?_; first | (simp [permF, *]; done) | (simp only [permF]; (repeat' (first | split | rfl | omega | (simp_all; done))); done) | (simp [permF, *]; (repeat' (first | split | omega | (rw [Bool.eq_iff_iff]; simp; omega))); done) | (simp [permF, *])))
theorem perm_9 : Pure Try.prog 49 [I 9, encL 1 cI (a :: b :: []), I fr, I to] (tup2 (I (permF 9 a b c fr to).1) (B (permF 9 a b c fr to).2)) := by
  intro h; refine callK_body Try.func49 rfl (by rw [nt49]; simp) ?_; rw [nt49, rs49]
  ((repeat' (first | simp [go_sem, X_region, *] | simp (disch := omega) only [om, *] | ((first | refine XC_split ?_ ?_ | refine XG_true ?_ ?_ | refine XG_false ?_ ?_ | refine XRg_true ?_ ?_ | refine XRg_false ?_ ?_) <;> intro hc <;> (try simp only [bl] at hc) <;> (try (exfalso; omega))) | refine XD_w [] [] [] (fun _ => none) mixed (by decide +kernel) (sub_none _) ?_ | (intro bk hbk; (try simp only [go_sem] at hbk)))); all_goals (refine Wk.fin (by repeat (first | exact Sub.refl _ | refine Sub.upd (by simp [*]) ?_)) ?_; first | (simp [permF, *]; done) | (simp only [permF]; (repeat' (first | split | rfl | omega | (simp_all; done))); done) | (simp [permF, *]; (repeat' (first | split | omega | (rw [Bool.eq_iff_iff]; simp; omega))); done) | (simp [permF, *])))
theorem perm_13 : Pure Try.prog 49 [I 13, encL 1 cI (a :: b :: []), I fr, I to] (tup2 (I (permF 13 a b c fr to).1) (B (permF 13 a b c fr to).2)) := by
  intro h; refine callK_body Try.func49 rfl (by rw [nt49]; simp) ?_; rw [nt49, rs49]
  ((repeat' (first | simp [go_sem, X_region, *] | simp (disch := omega) only [om, *] | ((first | refine XC_split ?_ ?_ | refine XG_true ?_ ?_ | refine XG_false ?_ ?_ | refine XRg_true ?_ ?_ | refine XRg_false ?_ ?_) <;> intro hc <;> (try simp only [bl] at hc) <;> (try (exfalso; omega))) | refine XD_w [] [] [] (fun _ => none) mixed (by decide +kernel) (sub_none _) ?_ | (intro bk hbk; (try simp only [go_sem] at hbk)))); all_goals (refine Wk.fin (by repeat (first | exact Sub.refl _ | refine Sub.upd (by simp [*]) ?_)) ?_; first | (simp [permF, *]; done) | (simp only [permF]; (repeat' (first | split | rfl | omega | (simp_all; done))); done) | (simp [permF, *]; (repeat' (first | split | omega | (rw [Bool.eq_iff_iff]; simp; omega))); done) | (simp [permF, *])))
theorem perm_14 : Pure Try.prog 49 [I 14, encL 1 cI (a :: b :: []), I fr, I to] (tup2 (I (permF 14 a b c fr to).1) (B (permF 14 a b c fr to).2)) := by
  intro h; refine callK_body Try.func49 rfl (by rw [nt49]; simp) ?_; rw [nt49, rs49]
  ((repeat' (first | simp [go_sem, X_region, *] | simp (disch := omega) only [om, *] | ((first | refine XC_split ?_ ?_ | refine XG_true ?_ ?_ | refine XG_false ?_ ?_ | refine XRg_true ?_ ?_ | refine XRg_false ?_ ?_) <;> intro hc <;> (try simp only [bl] at hc) <;> (try (exfalso; omega))) | refine XD_w [] [] [] (fun _ => none) mixed (by decide +kernel) (sub_none _) ?_ | (intro bk hbk; (try simp only [go_sem] at hbk)))); all_goals (refine Wk.fin (by repeat (first | exact Sub.refl _ | refine Sub.upd (by simp [*]) ?_)) ?_; first | (simp [permF, *]; done) | (simp only [permF]; (repeat' (first | split | rfl | omega | (simp_all; done))); done) | (simp [permF, *]; (repeat' (first | split | omega | (rw [Bool.eq_iff_iff]; simp; omega))); done) | (simp [permF, *])))
theorem perm_10 : Pure Try.prog 49 [I 10, encL 1 cI (a :: b :: []), I fr, I to] (tup2 (I (permF 10 a b c fr to).1) (B (permF 10 a b c fr to).2)) := by
  intro h; refine callK_body Try.func49 rfl (by rw [nt49]; simp) ?_; rw [nt49, rs49]
  ((repeat' (first | simp [go_sem, X_region, *] | simp (disch := omega) only [om, *] | ((first | refine XC_split ?_ ?_ | refine XG_true ?_ ?_ | refine XG_false ?_ ?_ | refine XRg_true ?_ ?_ | refine XRg_false ?_ ?_) <;> intro hc <;> (try simp only [bl] at hc) <;> (try (exfalso; omega))) | refine XD_w [] [] [] (fun _ => none) mixed (by decide +kernel) (sub_none _) ?_ | (intro bk hbk; (try simp only [go_sem] at hbk)))); all_goals (refine Wk.fin (by repeat (first | exact Sub.refl _ | refine Sub.upd (by simp [*]) ?_)) ?_; first | (simp [permF, *]; done) | (simp only [permF]; (repeat' (first | split | rfl | omega | (simp_all; done))); done) | (simp [permF, *]; (repeat' (first | split | omega | (rw [Bool.eq_iff_iff]; simp; omega))); done) | (simp [permF, *])))
theorem perm_11 : Pure Try.prog 49 [I 11, encL 1 cI (a :: b :: []), I fr, I to] (tup2 (I (permF 11 a b c fr to).1) (B (permF 11 a b c fr to).2)) := by
  intro h; refine callK_body Try.func49 rfl (by rw [nt49]; simp) ?_; rw [nt49, rs49]
  ((repeat' (first | simp [go_sem, X_region, *] | simp (disch := omega) only [om, *] | ((first | refine XC_split ?_ ?_ | refine XG_true ?_ ?_ | refine XG_false ?_ ?_ | refine XRg_true ?_ ?_ | refine XRg_false ?_ ?_) <;> intro hc <;> (try simp only [bl] at hc) <;> (try (exfalso; omega))) | refine XD_w [] [] [] (fun _ => none) mixed (by decide +kernel) (sub_none _) ?_ | (intro bk hbk; (try simp only [go_sem] at hbk)))); all_goals (refine Wk.fin (by repeat (first | exact Sub.refl _ | refine Sub.upd (by simp [*]) ?_)) ?_; first | (simp [permF, *]; done) | (simp only [permF]; (repeat' (first | split | rfl | omega | (simp_all; done))); done) | (simp [permF, *]; (repeat' (first | split | omega | (rw [Bool.eq_iff_iff]; simp; omega))); done) | (simp [permF, *])))
theorem perm_12 : Pure Try.prog 49 [I 12, encL 1 cI (a :: b :: []), I fr, I to] (tup2 (I (permF 12 a b c fr to).1) (B (permF 12 a b c fr to).2)) := by
  intro h; refine callK_body Try.func49 rfl (by rw [nt49]; simp) ?_; rw [nt49, rs49]
  ((repeat' (first | simp [go_sem, X_region, *] | simp (disch := omega) only [om, *] | ((first | refine XC_split ?_ ?_ | refine XG_true ?_ ?_ | refine XG_false ?_ ?_ | refine XRg_true ?_ ?_ | refine XRg_false ?_ ?_) <;> intro hc <;> (try simp only [bl] at hc) <;> (try (exfalso; omega))) | refine XD_w [] [] [] (fun _ => none) mixed (by decide +kernel) (sub_none _) ?_ | (intro bk hbk; (try simp only [go_sem] at hbk)))); all_goals (refine Wk.fin (by repeat (first | exact Sub.refl _ | refine Sub.upd (by simp [*]) ?_)) ?_; first | (simp [permF, *]; done) | (simp only [permF]; (repeat' (first | split | rfl | omega | (simp_all; done))); done) | (simp [permF, *]; (repeat' (first | split | omega | (rw [Bool.eq_iff_iff]; simp; omega))); done) | (simp [permF, *])))
theorem perm_15 : Pure Try.prog 49 [I 15, encL 1 cI (a :: b :: c :: []), I fr, I to] (tup2 (I (permF 15 a b c fr to).1) (B (permF 15 a b c fr to).2)) := by
  intro h; refine callK_body Try.func49 rfl (by rw [nt49]; simp) ?_; rw [nt49, rs49]
  ((repeat' (first | simp [go_sem, X_region, *] | simp (disch := omega) only [om, *] | ((first | refine XC_split ?_ ?_ | refine XG_true ?_ ?_ | refine XG_false ?_ ?_ | refine XRg_true ?_ ?_ | refine XRg_false ?_ ?_) <;> intro hc <;> (try simp only [bl] at hc) <;> (try (exfalso; omega))) | refine XD_w [] [] [] (fun _ => none) mixed (by decide +kernel) (sub_none _) ?_ | (intro bk hbk; (try simp only [go_sem] at hbk)))); all_goals (refine Wk.fin (by repeat (first | exact Sub.refl _ | refine Sub.upd (by simp [*]) ?_)) ?_; first | (simp [permF, *]; done) | (simp only [permF]; (repeat' (first | split | rfl | omega | (simp_all; done))); done) | (simp [permF, *]; (repeat' (first | split | omega | (rw [Bool.eq_iff_iff]; simp; omega))); done) | (simp [permF, *])))
theorem perm_16 : Pure Try.prog 49 [I 16, encL 1 cI [a], I fr, I to] (tup2 (I (permF 16 a b c fr to).1) (B (permF 16 a b c fr to).2)) := by
  intro h; refine callK_body Try.func49 rfl (by rw [nt49]; simp) ?_; rw [nt49, rs49]
  ((repeat' (first | simp [go_sem, X_region, *] | simp (disch := omega) only [om, *] | ((first | refine XC_split ?_ ?_ | refine XG_true ?_ ?_ | refine XG_false ?_ ?_ | refine XRg_true ?_ ?_ | refine XRg_false ?_ ?_) <;> intro hc <;> (try simp only [bl] at hc) <;> (try (exfalso; omega))) | refine XD_w [] [] [] (fun _ => none) mixed (by decide +kernel) (sub_none _) ?_ | (intro bk hbk; (try simp only [go_sem] at hbk)))); all_goals (refine Wk.fin (by repeat (first | exact Sub.refl _ | refine Sub.upd (by simp [*]) ?_)) ?_; first | (simp [permF, *]; done) | (simp only [permF]; (repeat' (first | split | rfl | omega | (simp_all; done))); done) | (simp [permF, *]; (repeat' (first | split | omega | (rw [Bool.eq_iff_iff]; simp; omega))); done) | (simp [permF, *])))
theorem perm_17 : Pure Try.prog 49 [I 17, encL 1 cI [a], I fr, I to] (tup2 (I (permF 17 a b c fr to).1) (B (permF 17 a b c fr to).2)) := by
  intro h; refine callK_body Try.func49 rfl (by rw [nt49]; simp) ?_; rw [nt49, rs49]
  ((repeat' (first | simp [go_sem, X_region, *] | simp (disch := omega) only [om, *] | ((first | refine XC_split ?_ ?_ | refine XG_true ?_ ?_ | refine XG_false ?_ ?_ | refine XRg_true ?_ ?_ | refine XRg_false ?_ ?_) <;> intro hc <;> (try simp only [bl] at hc) <;> (try (exfalso; omega))) | refine XD_w [] [] [] (fun _ => none) mixed (by decide +kernel) (sub_none _) ?_ | (intro bk hbk; (try simp only [go_sem] at hbk)))); all_goals (refine Wk.fin (by repeat (first | exact Sub.refl _ | refine Sub.upd (by simp [*]) ?_)) ?_; first | (simp [permF, *]; done) | (simp only [permF]; (repeat' (first | split | rfl | omega | (simp_all; done))); done) | (simp [permF, *]; (repeat' (first | split | omega | (rw [Bool.eq_iff_iff]; simp; omega))); done) | (simp [permF, *])))
theorem perm_18 : Pure Try.prog 49 [I 18, encL 1 cI (a :: b :: []), I fr, I to] (tup2 (I (permF 18 a b c fr to).1) (B (permF 18 a b c fr to).2)) := by
  intro h; refine callK_body Try.func49 rfl (by rw [nt49]; simp) ?_; rw [nt49, rs49]
  ((repeat' (first | simp [go_sem, X_region, *] | simp (disch := omega) only [om, *] | ((first | refine XC_split ?_ ?_ | refine XG_true ?_ ?_ | refine XG_false ?_ ?_ | refine XRg_true ?_ ?_ | refine XRg_false ?_ ?_) <;> intro hc <;> (try simp only [bl] at hc) <;> (try (exfalso; omega))) | refine XD_w [] [] [] (fun _ => none) mixed (by decide +kernel) (sub_none _) ?_ | (intro bk hbk; (try simp only [go_sem] at hbk)))); all_goals (refine Wk.fin (by repeat (first | exact Sub.refl _ | refine Sub.upd (by simp [*]) ?_)) ?_; first | (simp [permF, *]; done) | (simp only [permF]; (repeat' (first | split | rfl | omega | (simp_all; done))); done) | (simp [permF, *]; (repeat' (first | split | omega | (rw [Bool.eq_iff_iff]; simp; omega))); done) | (simp [permF, *])))
end
end Go.Proofs.Ytmalhikcdideoaa

set_option linter.unusedVariables false
set_option linter.unusedSimpArgs false
namespace Go.Proofs.Ytmalhikcdideoaa
open Go Sl
attribute [local irreducible] LpQ XR XRo XRg XRQ putQ XFv XL XW2 wQ putW X XO XOp XH XHo XW SeqQ BlkQ XOQ XHQ NrmQ XC XM XG XHM XHG XD CallK
def fIdx (p : Int → Bool) : List Int → Int → Int
  | [], _ => -1
  | x :: r, i => if p x = true then i else fIdx p r (i + 1)
theorem fIdx_ge (p : Int → Bool) (l : List Int) (i : Int) (hi : 0 ≤ i) : decide (0 ≤ fIdx p l i) = l.any p := by
  induction l generalizing i with
  | nil => simp [fIdx]
  | cons x l ih =>
    unfold fIdx
    by_cases h : p x = true
    · simp [h, hi]
    · simp [h]; simpa using ih (i + 1) (by omega)
theorem idxf_ok (g : FuncId) (hc : callable Try.prog g = true) (p : Int → Bool) (hp : ∀ x, Pure Try.prog g [I x] (B (p x))) (l : List Int) : Pure Try.prog 81 [encL 1 cI l, .v (.func (.func g) #[] #[])] (I (fIdx p l 0)) := by
  generalize hR : I (fIdx p l 0) = R
  intro h; refine CallK.lens fun hlen => ?_; have hlen := (hlen _ (by simp only [List.mem_cons, true_or, or_true] : (encL 1 cI l) ∈ _)).encL; refine callK_body Try.func81 rfl (by rw [nt81]; simp) ?_; rw [nt81, rs81]
  (repeat' (first | simp [go_sem, X_region, *] | simp (disch := omega) only [om, *] | ((first | refine XC_split ?_ ?_ | refine XG_true ?_ ?_ | refine XG_false ?_ ?_ | refine XRg_true ?_ ?_ | refine XRg_false ?_ ?_) <;> intro hc <;> (try simp only [bl] at hc) <;> (try (exfalso; omega))) | refine XD_w [] [] [] (fun _ => none) mixed (by decide +kernel) (sub_none _) ?_ | (intro bk hbk; (try simp only [go_sem] at hbk))))
  refine X_lp (fun n T h' => ∃ (i : Nat) (r : List Int), n = r.length ∧ i ≤ l.length ∧ l.drop i = r ∧ T 8 = I i ∧ I (fIdx p r i) = R ∧ T 0 = encL 1 cI l ∧ T 1 = .v (.func (.func g) #[] #[]) ∧ T 7 = I l.length ∧ h' = h) l.length ⟨0, l, by simp [go_sem, hR]⟩ ?_
  clear hR; rintro J hJ n T h' ⟨i, r, rfl, hi, hd, h8, hR, h0, h1, h7, rfl⟩
  rcases r with _ | ⟨x, r⟩
  · have hlt := drop_nil hd
    (repeat' (first | simp [go_sem, X_region, *] | simp (disch := omega) only [om, *] | ((first | refine XC_split ?_ ?_ | refine XG_true ?_ ?_ | refine XG_false ?_ ?_ | refine XRg_true ?_ ?_ | refine XRg_false ?_ ?_) <;> intro hc <;> (try simp only [bl] at hc) <;> (try (exfalso; omega))) | refine XD_w [] [] [] (fun _ => none) mixed (by decide +kernel) (sub_none _) ?_ | (intro bk hbk; (try simp only [go_sem] at hbk))))
    all_goals (subst hR; exact Wk.of_eq (by simp [fIdx]))
  · obtain ⟨hlt, hx, hd2⟩ := drop_cons hd
    have hpx := hp x
    cases he : p x
    · rw [he] at hpx
      (repeat' (first | simp [go_sem, X_region, *] | simp (disch := omega) only [om, *] | ((first | refine XC_split ?_ ?_ | refine XG_true ?_ ?_ | refine XG_false ?_ ?_ | refine XRg_true ?_ ?_ | refine XRg_false ?_ ?_) <;> intro hc <;> (try simp only [bl] at hc) <;> (try (exfalso; omega))) | refine XD_w [] [] [] (fun _ => none) mixed (by decide +kernel) (sub_none _) ?_ | refine Pure.call (hpx) ?_ | refine ⟨_, Pure.at (hpx), ?_⟩ | refine ⟨_, hpx, ?_⟩ | refine PureAt.call (hpx) ?_ | (intro bk hbk; (try simp only [go_sem] at hbk))))
      exact ⟨_, by omega, hJ.out _ _ _ ⟨i + 1, r, rfl, by omega, hd2, by simp [go_sem, *], by rw [← hR]; simp [fIdx, he], by simp [go_sem, *], by simp [go_sem, *], by simp [go_sem, *], rfl⟩⟩
    · rw [he] at hpx
      (repeat' (first | simp [go_sem, X_region, *] | simp (disch := omega) only [om, *] | ((first | refine XC_split ?_ ?_ | refine XG_true ?_ ?_ | refine XG_false ?_ ?_ | refine XRg_true ?_ ?_ | refine XRg_false ?_ ?_) <;> intro hc <;> (try simp only [bl] at hc) <;> (try (exfalso; omega))) | refine XD_w [] [] [] (fun _ => none) mixed (by decide +kernel) (sub_none _) ?_ | refine Pure.call (hpx) ?_ | refine ⟨_, Pure.at (hpx), ?_⟩ | refine ⟨_, hpx, ?_⟩ | refine PureAt.call (hpx) ?_ | (intro bk hbk; (try simp only [go_sem] at hbk))))
      all_goals (subst hR; exact Wk.of_eq (by simp [fIdx, *]))
theorem cfun_ok (g : FuncId) (hc : callable Try.prog g = true) (p : Int → Bool) (hp : ∀ x, Pure Try.prog g [I x] (B (p x))) (l : List Int) : Pure Try.prog 70 [encL 1 cI l, .v (.func (.func g) #[] #[])] (B (l.any p)) := by
  intro h; refine callK_body Try.func70 rfl (by rw [nt70]; simp) ?_; rw [nt70, rs70]
  rw [← fIdx_ge p l 0 (by omega)]
  ((repeat' (first | simp [go_sem, X_region, *] | simp (disch := omega) only [om, *] | ((first | refine XC_split ?_ ?_ | refine XG_true ?_ ?_ | refine XG_false ?_ ?_ | refine XRg_true ?_ ?_ | refine XRg_false ?_ ?_) <;> intro hc <;> (try simp only [bl] at hc) <;> (try (exfalso; omega))) | refine XD_w [] [] [] (fun _ => none) mixed (by decide +kernel) (sub_none _) ?_ | refine Pure.call (idxf_ok g hc p hp l) ?_ | refine ⟨_, Pure.at (idxf_ok g hc p hp l), ?_⟩ | refine ⟨_, idxf_ok g hc p hp l, ?_⟩ | refine PureAt.call (idxf_ok g hc p hp l) ?_ | (intro bk hbk; (try simp only [go_sem] at hbk)))); all_goals (refine Wk.fin (by repeat (first | exact Sub.refl _ | refine Sub.upd (by simp [*]) ?_)) ?_; first | (simp [*]; done) | (simp only []; (repeat' (first | split | rfl | omega | (simp_all; done))); done) | (simp [*]; (repeat' (first | split | omega | (rw [Bool.eq_iff_iff]; simp; omega))); done) | (simp [*])))
theorem notbool_ok (x : Int) : Pure Try.prog 71 [I x] (B (decide (x ≠ 1))) := by
  intro h; refine callK_body Try.func71 rfl (by rw [nt71]; simp) ?_; rw [nt71, rs71]
  ((repeat' (first | simp [go_sem, X_region, *] | simp (disch := omega) only [om, *] | ((first | refine XC_split ?_ ?_ | refine XG_true ?_ ?_ | refine XG_false ?_ ?_ | refine XRg_true ?_ ?_ | refine XRg_false ?_ ?_) <;> intro hc <;> (try simp only [bl] at hc) <;> (try (exfalso; omega))) | refine XD_w [] [] [] (fun _ => none) mixed (by decide +kernel) (sub_none _) ?_ | (intro bk hbk; (try simp only [go_sem] at hbk)))); all_goals (refine Wk.fin (by repeat (first | exact Sub.refl _ | refine Sub.upd (by simp [*]) ?_)) ?_; first | (simp [*]; done) | (simp only []; (repeat' (first | split | rfl | omega | (simp_all; done))); done) | (simp [*]; (repeat' (first | split | omega | (rw [Bool.eq_iff_iff]; simp; omega))); done) | (simp [*])))
section
variable (a b c fr to : Int)
theorem perm_4 : Pure Try.prog 49 [I 4, encL 1 cI [a], I fr, I to] (tup2 (I (permF 4 a b c fr to).1) (B (permF 4 a b c fr to).2)) := by
  have hc := cfun_ok 71 (by simp [go_sem]) (fun x => decide (x ≠ 1)) notbool_ok [a]
  simp only [List.any_cons, List.any_nil, Bool.or_false] at hc
  intro h; refine callK_body Try.func49 rfl (by rw [nt49]; simp) ?_; rw [nt49, rs49]
  ((repeat' (first | simp [go_sem, X_region, *] | simp (disch := omega) only [om, *] | ((first | refine XC_split ?_ ?_ | refine XG_true ?_ ?_ | refine XG_false ?_ ?_ | refine XRg_true ?_ ?_ | refine XRg_false ?_ ?_) <;> intro hc <;> (try simp only [bl] at hc) <;> (try (exfalso; omega))) | refine XD_w [] [] [] (fun _ => none) mixed (by decide +kernel) (sub_none _) ?_ | refine Pure.call (hc) ?_ | refine ⟨_, Pure.at (hc), ?_⟩ | refine ⟨_, hc, ?_⟩ | refine PureAt.call (hc) ?_ | (intro bk hbk; (try simp only [go_sem] at hbk)))); all_goals (refine Wk.fin (by repeat (first | exact Sub.refl _ | refine Sub.upd (by simp [*]) ?_)) ?_; first | (simp [permF, *]; done) | (simp only [permF]; (repeat' (first | split | rfl | omega | (simp_all; done))); done) | (simp [permF, *]; (repeat' (first | split | omega | (rw [Bool.eq_iff_iff]; simp; omega))); done) | (simp [permF, *])))
theorem perm_5 : Pure Try.prog 49 [I 5, encL 1 cI (a :: b :: []), I fr, I to] (tup2 (I (permF 5 a b c fr to).1) (B (permF 5 a b c fr to).2)) := by
  have hc := cfun_ok 71 (by simp [go_sem]) (fun x => decide (x ≠ 1)) notbool_ok (a :: b :: [])
  simp only [List.any_cons, List.any_nil, Bool.or_false] at hc
  intro h; refine callK_body Try.func49 rfl (by rw [nt49]; simp) ?_; rw [nt49, rs49]
  ((repeat' (first | simp [go_sem, X_region, *] | simp (disch := omega) only [om, *] | ((first | refine XC_split ?_ ?_ | refine XG_true ?_ ?_ | refine XG_false ?_ ?_ | refine XRg_true ?_ ?_ | refine XRg_false ?_ ?_) <;> intro hc <;> (try simp only [bl] at hc) <;> (try (exfalso; omega))) | refine XD_w [] [] [] (fun _ => none) mixed (by decide +kernel) (sub_none _) ?_ | refine Pure.call (hc) ?_ | refine ⟨_, Pure.at (hc), ?_⟩ | refine ⟨_, hc, ?_⟩ | refine PureAt.call (hc) ?_ | (intro bk hbk; (try simp only [go_sem] at hbk)))); all_goals (refine Wk.fin (by repeat (first | exact Sub.refl _ | refine Sub.upd (by simp [*]) ?_)) ?_; first | (simp [permF, *]; done) | (simp only [permF]; (repeat' (first | split | rfl | omega | (simp_all; done))); done) | (simp [permF, *]; (repeat' (first | split | omega | (rw [Bool.eq_iff_iff]; simp; omega))); done) | (simp [permF, *])))
theorem perm_6 : Pure Try.prog 49 [I 6, encL 1 cI (a :: b :: []), I fr, I to] (tup2 (I (permF 6 a b c fr to).1) (B (permF 6 a b c fr to).2)) := by
  have hc := cfun_ok 71 (by simp [go_sem]) (fun x => decide (x ≠ 1)) notbool_ok (a :: b :: [])
  simp only [List.any_cons, List.any_nil, Bool.or_false] at hc
  intro h; refine callK_body Try.func49 rfl (by rw [nt49]; simp) ?_; rw [nt49, rs49]
  ((repeat' (first | simp [go_sem, X_region, *] | simp (disch := omega) only [om, *] | ((first | refine XC_split ?_ ?_ | refine XG_true ?_ ?_ | refine XG_false ?_ ?_ | refine XRg_true ?_ ?_ | refine XRg_false ?_ ?_) <;> intro hc <;> (try simp only [bl] at hc) <;> (try (exfalso; omega))) | refine XD_w [] [] [] (fun _ => none) mixed (by decide +kernel) (sub_none _) ?_ | refine Pure.call (hc) ?_ | refine ⟨_, Pure.at (hc), ?_⟩ | refine ⟨_, hc, ?_⟩ | refine PureAt.call (hc) ?_ | (intro bk hbk; (try simp only [go_sem] at hbk)))); all_goals (refine Wk.fin (by repeat (first | exact Sub.refl _ | refine Sub.upd (by simp [*]) ?_)) ?_; first | (simp [permF, *]; done) | (simp only [permF]; (repeat' (first | split | rfl | omega | (simp_all; done))); done) | (simp [permF, *]; (repeat' (first | split | omega | (rw [Bool.eq_iff_iff]; simp; omega))); done) | (simp [permF, *])))
end
end Go.Proofs.Ytmalhikcdideoaa

set_option linter.unusedVariables false
set_option linter.unusedSimpArgs false
namespace Go.Proofs.Ytmalhikcdideoaa
open Go Sl
attribute [local irreducible] LpQ XR XRo XRg XRQ putQ XFv XL XW2 wQ putW X XO XOp XH XHo XW SeqQ BlkQ XOQ XHQ NrmQ XC XM XG XHM XHG XD CallK
def iIdx (v : Int) : List Int → Int → Int
  | [], _ => -1
  | x :: r, i => if v = x then i else iIdx v r (i + 1)
theorem iIdx_ge (v : Int) (l : List Int) (i : Int) (hi : 0 ≤ i) : decide (0 ≤ iIdx v l i) = l.any fun k => decide (v = k) := by
  induction l generalizing i with
  | nil => simp [iIdx]
  | cons x l ih =>
    unfold iIdx
    by_cases h : v = x
    · simp [h, hi]
    · simp [h]; simpa using ih (i + 1) (by omega)
theorem iindex_ok (v : Int) (l : List Int) : Pure Try.prog 48 [encL 1 cI l, I v] (I (iIdx v l 0)) := by
  generalize hR : I (iIdx v l 0) = R
  intro h; refine CallK.lens fun hlen => ?_; have hlen := (hlen _ (by simp only [List.mem_cons, true_or, or_true] : (encL 1 cI l) ∈ _)).encL; refine callK_body Try.func48 rfl (by rw [nt48]; simp) ?_; rw [nt48, rs48]
  (repeat' (first | simp [go_sem, X_region, *] | simp (disch := omega) only [om, *] | ((first | refine XC_split ?_ ?_ | refine XG_true ?_ ?_ | refine XG_false ?_ ?_ | refine XRg_true ?_ ?_ | refine XRg_false ?_ ?_) <;> intro hc <;> (try simp only [bl] at hc) <;> (try (exfalso; omega))) | refine XD_w [] [] [] (fun _ => none) mixed (by decide +kernel) (sub_none _) ?_ | (intro bk hbk; (try simp only [go_sem] at hbk))))
  refine X_lp (fun n T h' => ∃ (i : Nat) (r : List Int), n = r.length ∧ i ≤ l.length ∧ l.drop i = r ∧ T 8 = I i ∧ I (iIdx v r i) = R ∧ T 0 = encL 1 cI l ∧ T 1 = I v ∧ T 7 = I l.length ∧ h' = h) l.length ⟨0, l, by simp [go_sem, hR]⟩ ?_
  clear hR; rintro J hJ n T h' ⟨i, r, rfl, hi, hd, h8, hR, h0, h1, h7, rfl⟩
  rcases r with _ | ⟨x, r⟩
  · have hlt := drop_nil hd
    (repeat' (first | simp [go_sem, X_region, *] | simp (disch := omega) only [om, *] | ((first | refine XC_split ?_ ?_ | refine XG_true ?_ ?_ | refine XG_false ?_ ?_ | refine XRg_true ?_ ?_ | refine XRg_false ?_ ?_) <;> intro hc <;> (try simp only [bl] at hc) <;> (try (exfalso; omega))) | refine XD_w [] [] [] (fun _ => none) mixed (by decide +kernel) (sub_none _) ?_ | (intro bk hbk; (try simp only [go_sem] at hbk))))
    all_goals (subst hR; exact Wk.of_eq (by simp [iIdx]))
  · obtain ⟨hlt, hx, hd2⟩ := drop_cons hd
    by_cases he : v = x
    · (repeat' (first | simp [go_sem, X_region, *] | simp (disch := omega) only [om, *] | ((first | refine XC_split ?_ ?_ | refine XG_true ?_ ?_ | refine XG_false ?_ ?_ | refine XRg_true ?_ ?_ | refine XRg_false ?_ ?_) <;> intro hc <;> (try simp only [bl] at hc) <;> (try (exfalso; omega))) | refine XD_w [] [] [] (fun _ => none) mixed (by decide +kernel) (sub_none _) ?_ | (intro bk hbk; (try simp only [go_sem] at hbk))))
      all_goals (subst hR; exact Wk.of_eq (by simp [iIdx, *]))
    · (repeat' (first | simp [go_sem, X_region, *] | simp (disch := omega) only [om, *] | ((first | refine XC_split ?_ ?_ | refine XG_true ?_ ?_ | refine XG_false ?_ ?_ | refine XRg_true ?_ ?_ | refine XRg_false ?_ ?_) <;> intro hc <;> (try simp only [bl] at hc) <;> (try (exfalso; omega))) | refine XD_w [] [] [] (fun _ => none) mixed (by decide +kernel) (sub_none _) ?_ | (intro bk hbk; (try simp only [go_sem] at hbk))))
      exact ⟨_, by omega, hJ.out _ _ _ ⟨i + 1, r, rfl, by omega, hd2, by simp [go_sem, *], by rw [← hR]; simp [iIdx, he], by simp [go_sem, *], by simp [go_sem, *], by simp [go_sem, *], rfl⟩⟩
theorem icont_ok (v : Int) (l : List Int) : Pure Try.prog 52 [encL 1 cI l, I v] (B (l.any fun k => decide (v = k))) := by
  intro h; refine callK_body Try.func52 rfl (by rw [nt52]; simp) ?_; rw [nt52, rs52]
  rw [← iIdx_ge v l 0 (by omega)]
  ((repeat' (first | simp [go_sem, X_region, *] | simp (disch := omega) only [om, *] | ((first | refine XC_split ?_ ?_ | refine XG_true ?_ ?_ | refine XG_false ?_ ?_ | refine XRg_true ?_ ?_ | refine XRg_false ?_ ?_) <;> intro hc <;> (try simp only [bl] at hc) <;> (try (exfalso; omega))) | refine XD_w [] [] [] (fun _ => none) mixed (by decide +kernel) (sub_none _) ?_ | refine Pure.call (iindex_ok v l) ?_ | refine ⟨_, Pure.at (iindex_ok v l), ?_⟩ | refine ⟨_, iindex_ok v l, ?_⟩ | refine PureAt.call (iindex_ok v l) ?_ | (intro bk hbk; (try simp only [go_sem] at hbk)))); all_goals (refine Wk.fin (by repeat (first | exact Sub.refl _ | refine Sub.upd (by simp [*]) ?_)) ?_; first | (simp [*]; done) | (simp only []; (repeat' (first | split | rfl | omega | (simp_all; done))); done) | (simp [*]; (repeat' (first | split | omega | (rw [Bool.eq_iff_iff]; simp; omega))); done) | (simp [*])))
theorem clone_ok (l : List Int) (h0 : 0 < l.length) (h1 : l.length ≤ 1000) (h : Hp) : CallK Try.prog h 50 [encL 1 cI l] fun r h' => Own h h' r 3 1 l.length (cellsL cI l) := by
  refine callK_body Try.func50 rfl (by rw [nt50]; simp) ?_; rw [nt50, rs50]
  (repeat' (first | simp [go_sem, X_region, *] | simp (disch := omega) only [om, *] | ((first | refine XC_split ?_ ?_ | refine XG_true ?_ ?_ | refine XG_false ?_ ?_ | refine XRg_true ?_ ?_ | refine XRg_false ?_ ?_) <;> intro hc <;> (try simp only [bl] at hc) <;> (try (exfalso; omega))) | refine XD_w [] [] [] (fun _ => none) mixed (by decide +kernel) (sub_none _) ?_ | fail))
  refine Own.append (h0 := h) (e := 3) (s := 1) (n := 0) (f := fun _ _ => .any) (m := l.length) (q := cellsL cI l) ⟨Sub.refl h, .inl ⟨rfl, .inr (by simp [go_sem])⟩⟩ und22 zr3 by3 (by simp [go_sem]) (by simp [go_sem]) (by omega) (by omega) fun a h' ho _ => ?_
  simp only [Nat.zero_add, Nat.not_lt_zero, if_false, Nat.sub_zero] at ho
  (repeat' (first | simp [go_sem, X_region, *] | simp (disch := omega) only [om, *] | ((first | refine XC_split ?_ ?_ | refine XG_true ?_ ?_ | refine XG_false ?_ ?_ | refine XRg_true ?_ ?_ | refine XRg_false ?_ ?_) <;> intro hc <;> (try simp only [bl] at hc) <;> (try (exfalso; omega))) | refine XD_w [] [] [] (fun _ => none) mixed (by decide +kernel) (sub_none _) ?_ | fail))
  exact ⟨_, _, Wk.refl _ _, ho⟩
end Go.Proofs.Ytmalhikcdideoaa

set_option linter.unusedVariables false
set_option linter.unusedSimpArgs false
namespace Go.Proofs.Ytmalhikcdideoaa
open Go Sl
attribute [local irreducible] LpQ XR XRo XRg XRQ putQ XFv XL XW2 wQ putW X XO XOp XH XHo XW SeqQ BlkQ XOQ XHQ NrmQ XC XM XG XHM XHG XD CallK
/-- A fact that simp does not take as a rule. -/
structure Hid (p : Prop) : Prop where
  out : p
/-- A node of an expression. -/
structure Nd where
  op : Int
  kids : List Int
  kd : Int
  n : Int
  nm : ByteArray
@[go_sem] def cNd (x : Nd) : List AV := [I x.op, encL 1 cI x.kids, I x.kd, I x.n, S x.nm]
/-- Kids are counted. -/
def useF : List Int → List Int → Option (List Int)
  | u, [] => some u
  | u, k :: r => if 1 < u.getD k.toNat 0 + 1 then none else useF (u.set k.toNat (u.getD k.toNat 0 + 1)) r
def nodesF (oneE : Nd → Nat → Int) : List Nd → Nat → List Int → Int × List Int
  | [], _, u => (0, u)
  | x :: r, i, u => if oneE x i ≠ 0 then (oneE x i, []) else match useF u x.kids with
    | none => (3, [])
    | some u' => nodesF oneE r (i + 1) u'
def chkE (oneE : Nd → Nat → Int) (e : List Nd) : Int :=
  if 100 < e.length then 2 else if e.length = 0 then 4
  else if (nodesF oneE e 0 (List.replicate e.length 0)).1 ≠ 0 then (nodesF oneE e 0 (List.replicate e.length 0)).1
  else if ((nodesF oneE e 0 (List.replicate e.length 0)).2.take (e.length - 1)).any (fun u => decide (0 = u)) = true then 3 else 0
theorem useF_len : ∀ (k u u' : List Int), useF u k = some u' → u'.length = u.length
  | [], u, u', h => by cases h; rfl
  | k :: r, u, u', h => by
    unfold useF at h
    split at h
    · cases h
    · have := useF_len r _ _ h
      simpa using this
/-- The counts of kids, in a block of the call's own. -/
structure Cnt (h : Hp) (b n : Nat) (u : List Int) : Prop where
  out : ∃ o, h b = some o ∧ o.ty = 3 ∧ o.s = 1 ∧ o.n = n ∧ u.length = n ∧ Hid (∀ k x, u[k]? = some x → o.f k 0 = I x) ∧ ∀ x ∈ u, 0 ≤ x ∧ x ≤ 1
set_option maxHeartbeats 4000000 in
theorem tchk_ok (oneE : Nd → Nat → Int) (e : List Nd) (h1 : ∀ (i : Nat) (x : Nd), e[i]? = some x → e.length ≤ 100 → Pure Try.prog 55 [aggL (cNd x), I i] (I (oneE x i)))
    (h2 : ∀ (i : Nat) (x : Nd), e[i]? = some x → oneE x i = 0 → x.kids.length ≤ 3 ∧ ∀ k ∈ x.kids, 0 ≤ k ∧ k < i) :
    Pure Try.prog 22 [encL 5 cNd e] (I (chkE oneE e)) := by
  generalize hR : chkE oneE e = R
  unfold chkE at hR
  intro h
  by_cases q1 : 100 < e.length
  · rw [if_pos q1] at hR
    subst hR
    refine callK_body Try.func22 rfl (by rw [nt22]; simp) ?_; rw [nt22, rs22]
    ((repeat' (first | simp [go_sem, X_region, *] | simp (disch := omega) only [om, *] | ((first | refine XC_split ?_ ?_ | refine XG_true ?_ ?_ | refine XG_false ?_ ?_ | refine XRg_true ?_ ?_ | refine XRg_false ?_ ?_) <;> intro hc <;> (try simp only [bl] at hc) <;> (try (exfalso; omega))) | refine XD_w [] [] [] (fun _ => none) mixed (by decide +kernel) (sub_none _) ?_ | (intro bk hbk; (try simp only [go_sem] at hbk)))); all_goals (refine Wk.fin (by repeat (first | exact Sub.refl _ | refine Sub.upd (by simp [*]) ?_)) ?_; first | (simp [*]; done) | (simp only []; (repeat' (first | split | rfl | omega | (simp_all; done))); done) | (simp [*]; (repeat' (first | split | omega | (rw [Bool.eq_iff_iff]; simp; omega))); done) | (simp [*])))
  rw [if_neg q1] at hR
  by_cases q2 : e.length = 0
  · rw [if_pos q2] at hR
    subst hR
    refine callK_body Try.func22 rfl (by rw [nt22]; simp) ?_; rw [nt22, rs22]
    ((repeat' (first | simp [go_sem, X_region, *] | simp (disch := omega) only [om, *] | ((first | refine XC_split ?_ ?_ | refine XG_true ?_ ?_ | refine XG_false ?_ ?_ | refine XRg_true ?_ ?_ | refine XRg_false ?_ ?_) <;> intro hc <;> (try simp only [bl] at hc) <;> (try (exfalso; omega))) | refine XD_w [] [] [] (fun _ => none) mixed (by decide +kernel) (sub_none _) ?_ | (intro bk hbk; (try simp only [go_sem] at hbk)))); all_goals (refine Wk.fin (by repeat (first | exact Sub.refl _ | refine Sub.upd (by simp [*]) ?_)) ?_; first | (simp [*]; done) | (simp only []; (repeat' (first | split | rfl | omega | (simp_all; done))); done) | (simp [*]; (repeat' (first | split | omega | (rw [Bool.eq_iff_iff]; simp; omega))); done) | (simp [*])))
  rw [if_neg q2] at hR
  refine callK_body Try.func22 rfl (by rw [nt22]; simp) ?_; rw [nt22, rs22]
  (repeat' (first | simp [go_sem, X_region, *] | simp (disch := omega) only [om, *] | ((first | refine XC_split ?_ ?_ | refine XG_true ?_ ?_ | refine XG_false ?_ ?_ | refine XRg_true ?_ ?_ | refine XRg_false ?_ ?_) <;> intro hc <;> (try simp only [bl] at hc) <;> (try (exfalso; omega))) | refine XD_w [] [] [] (fun _ => none) mixed (by decide +kernel) (sub_none _) ?_ | fail))
  refine X_makeSlice (s := 1) (by_ := 8) e.length e.length und22 zr3 by3 (by simp [go_sem]) (by simp [go_sem]) (by omega) (by omega) (by omega) fun b hb => ?_
  (repeat' (first | simp [go_sem, X_region, *] | simp (disch := omega) only [om, *] | ((first | refine XC_split ?_ ?_ | refine XG_true ?_ ?_ | refine XG_false ?_ ?_ | refine XRg_true ?_ ?_ | refine XRg_false ?_ ?_) <;> intro hc <;> (try simp only [bl] at hc) <;> (try (exfalso; omega))) | refine XD_w [] [] [] (fun _ => none) mixed (by decide +kernel) (sub_none _) ?_ | fail))
  generalize hN : nodesF oneE e 0 (List.replicate e.length 0) = N at hR
  refine X_lpF (fun i => i = 2 ∨ (4 ≤ i ∧ i ≤ 6) ∨ i = 8 ∨ (20 ≤ i ∧ i ≤ 50)) (fun k T g => ∃ (i : Nat) (r : List Nd) (u : List Int), k = r.length ∧ i ≤ e.length ∧ e.drop i = r ∧ nodesF oneE r i u = N ∧ T 20 = I i ∧ Sub h g ∧ Cnt g b e.length u) _ ⟨0, e, _, rfl, by omega, rfl, hN, by simp [go_sem], Sub.upd hb (Sub.refl _), ⟨_, upd_same _ _ _, rfl, rfl, rfl, by simp, ⟨?_⟩, ?_⟩⟩ ?_
  · intro k x hx
    rw [List.getElem?_replicate] at hx
    split at hx
    · cases hx; simp
    · cases hx
  · intro x hx
    have := List.eq_of_mem_replicate hx
    omega
  clear hN
  rintro J hJ k T g hfr ⟨i, r, u, rfl, hi, hd, hN, t20, hsub, ⟨o, ho, o1, o2, o3, o4, o5, o6⟩⟩
  rcases r with _ | ⟨x, r⟩
  · have hlt := drop_nil hd
    rw [nodesF] at hN
    subst hN
    obtain ⟨m, hm⟩ : ∃ m, e.length = m + 1 := ⟨e.length - 1, by omega⟩
    have hcont : PureAt Try.prog g 52 [.row b 1 0 m, I 0] (B ((u.take m).any fun k => decide (0 = k))) := by
      have hl : (u.take m).length = m := by rw [List.length_take]; omega
      refine Pure.lend (icont_ok 0 (u.take m)) (.cons ?_ (.cons (Lend.refl _) .nil)) (Flat.v _)
      rw [encL_eq, hl]
      refine Lend.row ho o2 (by omega) (by omega) fun i hi j hj => ?_
      obtain rfl : j = 0 := by omega
      have hx : (u.take m)[i]? = some (u.take m)[i] := List.getElem?_eq_getElem (by omega)
      rw [cellsL_at hx, o5.out i (u.take m)[i] (by have h3 := hx; rw [List.getElem?_take, if_pos (by omega)] at h3; exact h3)]
      rfl
    rw [if_neg (by simp), hm, Nat.add_sub_cancel] at hR
    have hm1 : ((e.length : Nat) : Int) - 1 = (m : Int) := by omega
    generalize (u.take m).any (fun k => decide (0 = k)) = q at *
    cases q
    · rw [if_neg (by simp)] at hR
      subst hR
      (repeat' (first | simp [go_sem, X_region, *] | simp (disch := omega) only [om, *] | ((first | refine XC_split ?_ ?_ | refine XG_true ?_ ?_ | refine XG_false ?_ ?_ | refine XRg_true ?_ ?_ | refine XRg_false ?_ ?_) <;> intro hc <;> (try simp only [bl] at hc) <;> (try (exfalso; omega))) | refine XD_w [] [] [] (fun _ => none) mixed (by decide +kernel) (sub_none _) ?_ | refine Pure.call (hcont) ?_ | refine ⟨_, Pure.at (hcont), ?_⟩ | refine ⟨_, hcont, ?_⟩ | refine PureAt.call (hcont) ?_ | fail))
      all_goals exact Wk.fin hsub rfl
    · rw [if_pos rfl] at hR
      subst hR
      (repeat' (first | simp [go_sem, X_region, *] | simp (disch := omega) only [om, *] | ((first | refine XC_split ?_ ?_ | refine XG_true ?_ ?_ | refine XG_false ?_ ?_ | refine XRg_true ?_ ?_ | refine XRg_false ?_ ?_) <;> intro hc <;> (try simp only [bl] at hc) <;> (try (exfalso; omega))) | refine XD_w [] [] [] (fun _ => none) mixed (by decide +kernel) (sub_none _) ?_ | refine Pure.call (hcont) ?_ | refine ⟨_, Pure.at (hcont), ?_⟩ | refine ⟨_, hcont, ?_⟩ | refine PureAt.call (hcont) ?_ | fail))
      all_goals exact Wk.fin hsub rfl
  · obtain ⟨hlt, hx, hd2⟩ := drop_cons hd
    have hxi : e[i]? = some x := List.getElem?_eq_some_iff.2 ⟨hlt, hx⟩
    have g1 := h1 i x hxi (by omega)
    have g2 := h2 i x hxi
    simp only [cNd] at g1
    rw [nodesF] at hN
    by_cases q3 : oneE x i = 0
    case neg =>
      rw [if_pos q3] at hN
      subst hN
      rw [if_pos q3] at hR
      subst hR
      (repeat' (first | simp [go_sem, X_region, *] | simp (disch := omega) only [om, *] | ((first | refine XC_split ?_ ?_ | refine XG_true ?_ ?_ | refine XG_false ?_ ?_ | refine XRg_true ?_ ?_ | refine XRg_false ?_ ?_) <;> intro hc <;> (try simp only [bl] at hc) <;> (try (exfalso; omega))) | refine XD_w [] [] [] (fun _ => none) mixed (by decide +kernel) (sub_none _) ?_ | refine Pure.call (g1) ?_ | refine ⟨_, Pure.at (g1), ?_⟩ | refine ⟨_, g1, ?_⟩ | refine PureAt.call (g1) ?_ | fail))
      intro b5 hb5
      have n5 := ne_free hb5 ho
      (repeat' (first | simp [go_sem, X_region, *] | simp (disch := omega) only [om, *] | ((first | refine XC_split ?_ ?_ | refine XG_true ?_ ?_ | refine XG_false ?_ ?_ | refine XRg_true ?_ ?_ | refine XRg_false ?_ ?_) <;> intro hc <;> (try simp only [bl] at hc) <;> (try (exfalso; omega))) | refine XD_w [] [] [] (fun _ => none) mixed (by decide +kernel) (sub_none _) ?_ | refine Pure.call (g1) ?_ | refine ⟨_, Pure.at (g1), ?_⟩ | refine ⟨_, g1, ?_⟩ | refine PureAt.call (g1) ?_ | fail))
      all_goals exact Wk.fin (Sub.upd (sub_free hsub hb5) hsub) rfl
    rw [if_neg (fun h => h q3)] at hN
    obtain ⟨hk3, g2⟩ := g2 q3
    rw [q3] at g1
    (repeat' (first | simp [go_sem, X_region, *] | simp (disch := omega) only [om, *] | ((first | refine XC_split ?_ ?_ | refine XG_true ?_ ?_ | refine XG_false ?_ ?_ | refine XRg_true ?_ ?_ | refine XRg_false ?_ ?_) <;> intro hc <;> (try simp only [bl] at hc) <;> (try (exfalso; omega))) | refine XD_w [] [] [] (fun _ => none) mixed (by decide +kernel) (sub_none _) ?_ | refine Pure.call (g1) ?_ | refine ⟨_, Pure.at (g1), ?_⟩ | refine ⟨_, g1, ?_⟩ | refine PureAt.call (g1) ?_ | fail))
    intro b5 hb5
    have n5 := ne_free hb5 ho
    (repeat' (first | simp [go_sem, X_region, *] | simp (disch := omega) only [om, *] | ((first | refine XC_split ?_ ?_ | refine XG_true ?_ ?_ | refine XG_false ?_ ?_ | refine XRg_true ?_ ?_ | refine XRg_false ?_ ?_) <;> intro hc <;> (try simp only [bl] at hc) <;> (try (exfalso; omega))) | refine XD_w [] [] [] (fun _ => none) mixed (by decide +kernel) (sub_none _) ?_ | refine Pure.call (g1) ?_ | refine ⟨_, Pure.at (g1), ?_⟩ | refine ⟨_, g1, ?_⟩ | refine PureAt.call (g1) ?_ | fail))
    generalize hU : useF u x.kids = U at hN
    refine X_lpF (fun i => i = 2 ∨ i = 8 ∨ (34 ≤ i ∧ i ≤ 49)) (fun k T g => ∃ (j : Nat) (rk u : List Int), k = rk.length ∧ j ≤ x.kids.length ∧ x.kids.drop j = rk ∧ useF u rk = U ∧ T 34 = I j ∧ Sub h g ∧ Cnt g b e.length u) _
      ⟨0, x.kids, u, rfl, by omega, rfl, hU, by simp [go_sem], Sub.upd (sub_free hsub hb5) hsub, ⟨o, by rw [upd_ne _ _ n5.2]; exact ho, o1, o2, o3, o4, o5, o6⟩⟩ ?_
    clear hU
    rintro J2 hJ2 k2 T2 g' hfr2 ⟨j, rk, u', rfl, hj, hdk, hU, t34, hsub', ⟨p, hp, p1, p2, p3, p4, p5, p6⟩⟩
    rcases rk with _ | ⟨k, rk⟩
    · have hltk := drop_nil hdk
      rw [useF] at hU
      subst hU
      (repeat' (first | simp [go_sem, X_region, *] | simp (disch := omega) only [om, *] | ((first | refine XC_split ?_ ?_ | refine XG_true ?_ ?_ | refine XG_false ?_ ?_ | refine XRg_true ?_ ?_ | refine XRg_false ?_ ?_) <;> intro hc <;> (try simp only [bl] at hc) <;> (try (exfalso; omega))) | refine XD_w [] [] [] (fun _ => none) mixed (by decide +kernel) (sub_none _) ?_ | fail))
      all_goals exact ⟨_, Nat.lt_succ_self _, hJ.out _ _ _ ⟨(by (repeat (refine fr_upd (by decide) ?_)); exact fr_in (by intro i; omega) hfr2 (by (repeat (refine fr_upd (by decide) ?_)); exact hfr)), i + 1, r, u', rfl, by omega, hd2, hN, by simp [go_sem, *], hsub', ⟨p, hp, p1, p2, p3, p4, p5, p6⟩⟩⟩
    · obtain ⟨hltk, hxk, hdk2⟩ := drop_cons hdk
      have gk := g2 k (by rw [← hxk]; exact List.getElem_mem hltk)
      obtain ⟨kn, rfl⟩ : ∃ kn : Nat, k = kn := ⟨k.toNat, by omega⟩
      have hkn : kn < u'.length := by omega
      have hkn2 : kn < e.length := by omega
      obtain ⟨v, hkv⟩ : ∃ v, u'[kn]? = some v := ⟨_, List.getElem?_eq_getElem hkn⟩
      have pf := p5.out kn v hkv
      have pr := p6 v (List.mem_of_getElem? hkv)
      rw [useF, Int.toNat_natCast, List.getD_eq_getElem?_getD, hkv, Option.getD_some] at hU
      by_cases q4 : 1 < v + 1
      · rw [if_pos q4] at hU
        subst hU
        simp only at hN
        subst hN
        rw [if_pos (by simp)] at hR
        subst hR
        (repeat' (first | simp [go_sem, X_region, *] | simp (disch := omega) only [om, *] | ((first | refine XC_split ?_ ?_ | refine XG_true ?_ ?_ | refine XG_false ?_ ?_ | refine XRg_true ?_ ?_ | refine XRg_false ?_ ?_) <;> intro hc <;> (try simp only [bl] at hc) <;> (try (exfalso; omega))) | refine XD_w [] [] [] (fun _ => none) mixed (by decide +kernel) (sub_none _) ?_ | fail))
        all_goals exact Wk.fin (Sub.upd hb hsub') rfl
      · rw [if_neg q4] at hU
        (repeat' (first | simp [go_sem, X_region, *] | simp (disch := omega) only [om, *] | ((first | refine XC_split ?_ ?_ | refine XG_true ?_ ?_ | refine XG_false ?_ ?_ | refine XRg_true ?_ ?_ | refine XRg_false ?_ ?_) <;> intro hc <;> (try simp only [bl] at hc) <;> (try (exfalso; omega))) | refine XD_w [] [] [] (fun _ => none) mixed (by decide +kernel) (sub_none _) ?_ | fail))
        refine ⟨_, Nat.lt_succ_self _, hJ2.out _ _ _ ⟨(by (repeat (refine fr_upd (by decide) ?_)); exact hfr2), j + 1, rk, _, rfl, by omega, hdk2, hU, by simp [go_sem, *], Sub.upd hb hsub', ⟨_, upd_same _ _ _, rfl, rfl, rfl, by simpa using p4, ⟨?_⟩, ?_⟩⟩⟩
        · intro q y hy
          rw [List.getElem?_set] at hy
          by_cases hq : kn = q
          · subst hq
            rw [if_pos rfl, if_pos hkn] at hy
            cases hy
            simp
          · rw [if_neg hq] at hy
            simp [show ¬ q = kn from fun e => hq e.symm, p5.out q y hy]
        · intro y hy
          rcases List.mem_or_eq_of_mem_set hy with hy | rfl
          · exact p6 y hy
          · omega
end Go.Proofs.Ytmalhikcdideoaa

set_option linter.unusedVariables false
set_option linter.unusedSimpArgs false
namespace Go.Proofs.Ytmalhikcdideoaa
open Go Sl
attribute [local irreducible] LpQ XR XRo XRg XRQ putQ XFv XL XW2 wQ putW X XO XOp XH XHo XW SeqQ BlkQ XOQ XHQ NrmQ XC XM XG XHM XHG XD CallK
def posF (P : List Int → Bool) : Nat → List Int → Bool
  | 0, k => P k
  | z + 1, k => (List.range 6).any fun (x : Nat) => posF P z (k.set (iIdx 0 k 0).toNat ((x : Int) + 1))
theorem iIdx_at (v : Int) : ∀ (l : List Int) (i : Int), 0 ≤ i → (iIdx v l i = -1 ∧ l.count v = 0) ∨ ∃ j : Nat, iIdx v l i = i + j ∧ l[j]? = some v
  | [], i, _ => .inl ⟨rfl, rfl⟩
  | x :: r, i, hi => by
    unfold iIdx
    by_cases h : v = x
    · subst h; exact .inr ⟨0, by simp, rfl⟩
    · rw [if_neg h]
      rcases iIdx_at v r (i + 1) (by omega) with ⟨h1, h2⟩ | ⟨j, h1, h2⟩
      · exact .inl ⟨h1, by rw [List.count_cons, h2]; simp; exact fun e => h e.symm⟩
      · exact .inr ⟨j + 1, by rw [h1]; omega, by simpa using h2⟩
theorem possible_ok (op fr to : Int) (P : List Int → Bool) (ar : Nat) (har : ar ≤ 3) (hP : ∀ k : List Int, k.length = ar → ∃ q : Int, Pure Try.prog 49 [I op, encL 1 cI k, I fr, I to] (tup2 (I q) (B (P k)))) :
    ∀ (z : Nat) (k : List Int), k.length = ar → k.count 0 = z → Pure Try.prog 20 [I op, encL 1 cI k, I fr, I to] (B (posF P z k)) := by
  intro z
  induction z with
  | zero =>
    intro k hk hz
    obtain ⟨q, hq⟩ := hP k hk
    have hi := iindex_ok 0 k
    have hm : iIdx 0 k 0 = -1 := by
      rcases iIdx_at 0 k 0 (by omega) with ⟨h1, _⟩ | ⟨j, _, h2⟩
      · exact h1
      · have : 0 < k.count 0 := List.count_pos_iff.2 (List.mem_iff_getElem?.2 ⟨j, h2⟩)
        omega
    rw [hm] at hi
    clear hk
    intro h; refine callK_body Try.func20 rfl (by rw [nt20]; simp) ?_; rw [nt20, rs20]
    ((repeat' (first | simp [go_sem, X_region, *] | simp (disch := omega) only [om, *] | ((first | refine XC_split ?_ ?_ | refine XG_true ?_ ?_ | refine XG_false ?_ ?_ | refine XRg_true ?_ ?_ | refine XRg_false ?_ ?_) <;> intro hc <;> (try simp only [bl] at hc) <;> (try (exfalso; omega))) | refine XD_w [] [] [] (fun _ => none) mixed (by decide +kernel) (sub_none _) ?_ | refine Pure.call (hi) ?_ | refine ⟨_, Pure.at (hi), ?_⟩ | refine ⟨_, hi, ?_⟩ | refine PureAt.call (hi) ?_ | refine Pure.call (hq) ?_ | refine ⟨_, Pure.at (hq), ?_⟩ | refine ⟨_, hq, ?_⟩ | refine PureAt.call (hq) ?_ | (intro bk hbk; (try simp only [go_sem] at hbk)))); all_goals (refine Wk.fin (by repeat (first | exact Sub.refl _ | refine Sub.upd (by simp [*]) ?_)) ?_; first | (simp [posF, *]; done) | (simp only [posF]; (repeat' (first | split | rfl | omega | (simp_all; done))); done) | (simp [posF, *]; (repeat' (first | split | omega | (rw [Bool.eq_iff_iff]; simp; omega))); done) | (simp [posF, *])))
  | succ z ih =>
    intro k hk hz
    have hi := iindex_ok 0 k
    obtain ⟨j, hj, hkj⟩ : ∃ j : Nat, iIdx 0 k 0 = j ∧ k[j]? = some 0 := by
      rcases iIdx_at 0 k 0 (by omega) with ⟨_, h2⟩ | ⟨j, h1, h2⟩
      · omega
      · exact ⟨j, by omega, h2⟩
    have hjl : j < k.length := (List.getElem?_eq_some_iff.1 hkj).1
    have hk3 : k.length ≤ 3 := by omega
    rw [hj] at hi
    have hnext : ∀ x : Nat, Pure Try.prog 20 [I op, encL 1 cI (k.set j ((x : Int) + 1)), I fr, I to] (B (posF P z (k.set j ((x : Int) + 1)))) := fun x => ih _ (by simpa using hk) (by
      rw [List.count_set hjl]
      have h1 : k[j] = 0 := by
        have := List.getElem?_eq_getElem hjl
        rw [hkj] at this
        exact (Option.some.inj this).symm
      have h2 : ((x : Int) + 1 == 0) = false := by simp; omega
      simp [h1, h2, hz])
    have hgoal : posF P (z + 1) k = (List.range' 0 6).any fun (x : Nat) => posF P z (k.set j ((x : Int) + 1)) := by
      simp only [posF, hj, Int.toNat_natCast, List.range_eq_range']
    rw [hgoal]
    clear hgoal hj hP ih hk hz
    generalize hR : B ((List.range' 0 6).any fun (x : Nat) => posF P z (k.set j ((x : Int) + 1))) = R
    intro h; refine callK_body Try.func20 rfl (by rw [nt20]; simp) ?_; rw [nt20, rs20]
    (repeat' (first | simp [go_sem, X_region, *] | simp (disch := omega) only [om, *] | ((first | refine XC_split ?_ ?_ | refine XG_true ?_ ?_ | refine XG_false ?_ ?_ | refine XRg_true ?_ ?_ | refine XRg_false ?_ ?_) <;> intro hc <;> (try simp only [bl] at hc) <;> (try (exfalso; omega))) | refine XD_w [] [] [] (fun _ => none) mixed (by decide +kernel) (sub_none _) ?_ | refine Pure.call (hi) ?_ | refine ⟨_, Pure.at (hi), ?_⟩ | refine ⟨_, hi, ?_⟩ | refine PureAt.call (hi) ?_ | fail))
    refine X_lp (fun n T h2 => ∃ i : Nat, n = 6 - i ∧ i ≤ 6 ∧ B ((List.range' i (6 - i)).any fun (x : Nat) => posF P z (k.set j ((x : Int) + 1))) = R ∧ T 0 = I op ∧ T 1 = encL 1 cI k ∧ T 2 = I fr ∧ T 3 = I to ∧ T 9 = I j ∧ T 12 = I (i + 1) ∧ Sub h h2) _ ⟨0, rfl, by omega, hR, by simp [go_sem], by simp [go_sem], by simp [go_sem], by simp [go_sem], by simp [go_sem], by simp [go_sem], Sub.refl _⟩ ?_
    clear hR
    rintro J hJ n T h2 ⟨i, rfl, hi6, hR, t0, t1, t2, t3, t9, t12, hsub⟩
    by_cases hlast : i = 6
    · subst hlast
      (repeat' (first | simp [go_sem, X_region, *] | simp (disch := omega) only [om, *] | ((first | refine XC_split ?_ ?_ | refine XG_true ?_ ?_ | refine XG_false ?_ ?_ | refine XRg_true ?_ ?_ | refine XRg_false ?_ ?_) <;> intro hc <;> (try simp only [bl] at hc) <;> (try (exfalso; omega))) | refine XD_w [] [] [] (fun _ => none) mixed (by decide +kernel) (sub_none _) ?_ | fail))
      all_goals (subst hR; exact Wk.drop _ hsub)
    · have hx := hnext i
      rw [show List.range' i (6 - i) = i :: List.range' (i + 1) (6 - (i + 1)) by rw [show 6 - i = (6 - (i + 1)) + 1 by omega]; rfl, List.any_cons] at hR
      (repeat' (first | simp [go_sem, X_region, *] | simp (disch := omega) only [om, *] | ((first | refine XC_split ?_ ?_ | refine XG_true ?_ ?_ | refine XG_false ?_ ?_ | refine XRg_true ?_ ?_ | refine XRg_false ?_ ?_) <;> intro hc <;> (try simp only [bl] at hc) <;> (try (exfalso; omega))) | refine XD_w [] [] [] (fun _ => none) mixed (by decide +kernel) (sub_none _) ?_ | fail))
      refine CallK.mono (clone_ok k (by omega) (by omega) h2) ?_
      rintro r0 h3 ⟨hs3, ⟨hz0, _⟩ | ⟨b, o, rfl, hb2, hb3, o1, o2, o3, hpos, of⟩⟩
      · omega
      (repeat' (first | simp [go_sem, X_region, *] | simp (disch := omega) only [om, *] | ((first | refine XC_split ?_ ?_ | refine XG_true ?_ ?_ | refine XG_false ?_ ?_ | refine XRg_true ?_ ?_ | refine XRg_false ?_ ?_) <;> intro hc <;> (try simp only [bl] at hc) <;> (try (exfalso; omega))) | refine XD_w [] [] [] (fun _ => none) mixed (by decide +kernel) (sub_none _) ?_ | fail))
      have hx2 : Pure Try.prog 20 [I op, .sl 1 k.length (cellsL cI (k.set j ((i : Int) + 1))), I fr, I to] (B (posF P z (k.set j ((i : Int) + 1)))) := by
        have := hnext i
        rwa [encL_go, List.length_set] at this
      refine PureAt.call (Pure.lend hx2 (.cons (Lend.refl _) (.cons (Lend.row (upd_same _ _ _) rfl (Nat.le_refl _) (Nat.le_trans hk3 (by decide)) fun i' hi' j' hj' => ?_) (LendL.self _))) trivial) ?_
      · obtain rfl : j' = 0 := by omega
        by_cases hij : i' = j
        · subst hij
          simp [cellsL, cI, hjl]
        · have := of i' hi' 0 (by omega)
          simp [hij, this, cellsL, List.getElem?_set, show ¬ j = i' from fun e => hij e.symm]
      · have hsub2 : Sub h h3 := fun c oc hc => hs3 c oc (hsub c oc hc)
        have hfree := sub_free hsub hb2
        cases hv : posF P z (k.set j ((i : Int) + 1))
        · rw [hv] at hR
          (repeat' (first | simp [go_sem, X_region, *] | simp (disch := omega) only [om, *] | ((first | refine XC_split ?_ ?_ | refine XG_true ?_ ?_ | refine XG_false ?_ ?_ | refine XRg_true ?_ ?_ | refine XRg_false ?_ ?_) <;> intro hc <;> (try simp only [bl] at hc) <;> (try (exfalso; omega))) | refine XD_w [] [] [] (fun _ => none) mixed (by decide +kernel) (sub_none _) ?_ | fail))
          exact ⟨6 - (i + 1), by omega, hJ.out _ _ _ ⟨i + 1, rfl, by omega, by simpa using hR, by simp [go_sem, *], by simp [go_sem, *], by simp [go_sem, *], by simp [go_sem, *], by simp [go_sem, *], by simp [go_sem, *], Sub.upd hfree hsub2⟩⟩
        · rw [hv] at hR
          (repeat' (first | simp [go_sem, X_region, *] | simp (disch := omega) only [om, *] | ((first | refine XC_split ?_ ?_ | refine XG_true ?_ ?_ | refine XG_false ?_ ?_ | refine XRg_true ?_ ?_ | refine XRg_false ?_ ?_) <;> intro hc <;> (try simp only [bl] at hc) <;> (try (exfalso; omega))) | refine XD_w [] [] [] (fun _ => none) mixed (by decide +kernel) (sub_none _) ?_ | fail))
          all_goals (subst hR; simp only [Bool.true_or]; exact Wk.drop _ (Sub.upd hfree hsub2))
end Go.Proofs.Ytmalhikcdideoaa

set_option linter.unusedVariables false
set_option linter.unusedSimpArgs false
namespace Go.Proofs.Ytmalhikcdideoaa
open Go Sl
attribute [local irreducible] LpQ XR XRo XRg XRQ putQ XFv XL XW2 wQ putW X XO XOp XH XHo XW SeqQ BlkQ XOQ XHQ NrmQ XC XM XG XHM XHG XD CallK
def ar (o : Int) : Int := if o < 0 ∨ 18 < o then -1 else if o ≤ 3 then 0 else if o = 4 ∨ o = 16 ∨ o = 17 then 1 else if o = 15 then 3 else 2
/-- An operation of Eval other than a literal. -/
def isOp (o : Int) : Prop := 4 ≤ o ∧ o ≤ 18
theorem isOp.cases {o : Int} (h : isOp o) : o = 4 ∨ o = 5 ∨ o = 6 ∨ o = 7 ∨ o = 8 ∨ o = 9 ∨ o = 10 ∨ o = 11 ∨ o = 12 ∨ o = 13 ∨ o = 14 ∨ o = 15 ∨ o = 16 ∨ o = 17 ∨ o = 18 := by unfold isOp at h; omega
theorem len0 {α : Type} {l : List α} (h : (l.length : Int) = 0) : l = [] := by
  rcases l with _ | ⟨a, l⟩
  · rfl
  · simp at h; omega
theorem len1 {α : Type} {l : List α} (h : (l.length : Int) = 1) : ∃ a, l = [a] := by
  rcases l with _ | ⟨a, _ | ⟨b, l⟩⟩
  · simp at h
  · exact ⟨a, rfl⟩
  · simp at h; omega
theorem len2 {α : Type} {l : List α} (h : (l.length : Int) = 2) : ∃ a b, l = [a, b] := by
  rcases l with _ | ⟨a, _ | ⟨b, _ | ⟨c, l⟩⟩⟩
  · simp at h
  · simp at h
  · exact ⟨a, b, rfl⟩
  · simp at h; omega
theorem len3 {α : Type} {l : List α} (h : (l.length : Int) = 3) : ∃ a b c, l = [a, b, c] := by
  rcases l with _ | ⟨a, _ | ⟨b, _ | ⟨c, _ | ⟨d, l⟩⟩⟩⟩
  · simp at h
  · simp at h
  · simp at h
  · exact ⟨a, b, c, rfl⟩
  · simp at h; omega
def permP (op fr to : Int) (k : List Int) : Bool := (permF op (k.getD 0 0) (k.getD 1 0) (k.getD 2 0) fr to).2
def kindP (op nk fr to : Int) (k : List Int) : Bool := (kindF op nk (k.getD 0 0) (k.getD 1 0) (k.getD 2 0) fr to).2
theorem fin7 {k : Int} (h : 0 ≤ k ∧ k ≤ 6) : ∃ n : Fin 7, k = (n.val : Int) := ⟨⟨k.toNat, by omega⟩, by simp; omega⟩
theorem posF_congr {P Q : List Int → Bool} (h : ∀ k, P k = Q k) (z : Nat) (k : List Int) : posF P z k = posF Q z k := by
  have : P = Q := funext h
  rw [this]
theorem permP_irr (op fr to : Int) (h : op ≠ 16) (k : List Int) : permP op fr to k = permP op 0 0 k := by simp [permP, permF, h]
theorem kindP_irr (op nk fr to : Int) (h : op ≠ 16) (h0 : op ≠ 0) (k : List Int) : kindP op nk fr to k = kindP op 0 0 0 k := by simp [kindP, kindF, h, h0]
theorem pos1 : ∀ (o : Fin 19) (a : Fin 7), (o.val = 4 ∨ o.val = 17) → posF (permP o.val 0 0) ([(a.val : Int)].count 0) [(a.val : Int)] = kindP o.val 0 0 0 [(a.val : Int)] := by decide +kernel
theorem pos2 : ∀ (o : Fin 19) (a b : Fin 7), (5 ≤ o.val ∧ o.val ≤ 14 ∨ o.val = 18) → posF (permP o.val 0 0) ([(a.val : Int), (b.val : Int)].count 0) [(a.val : Int), (b.val : Int)] = kindP o.val 0 0 0 [(a.val : Int), (b.val : Int)] := by decide +kernel
theorem pos3 : ∀ (a b c : Fin 7), posF (permP 15 0 0) ([(a.val : Int), (b.val : Int), (c.val : Int)].count 0) [(a.val : Int), (b.val : Int), (c.val : Int)] = kindP 15 0 0 0 [(a.val : Int), (b.val : Int), (c.val : Int)] := by decide +kernel
theorem pos16 : ∀ (a f : Fin 7), 1 ≤ f.val → posF (permP 16 f.val 0) ([(a.val : Int)].count 0) [(a.val : Int)] = kindP 16 0 f.val 0 [(a.val : Int)] := by decide +kernel
theorem poss_eq {op nk fr to : Int} {l : List Int} (hop : isOp op) (hl : (l.length : Int) = ar op) (hk : ∀ k ∈ l, 0 ≤ k ∧ k ≤ 6) (ht : op = 16 → 1 ≤ fr ∧ fr ≤ 6) : posF (permP op fr to) (l.count 0) l = kindP op nk fr to l := by
  have go : op ≠ 16 → posF (permP op 0 0) (l.count 0) l = kindP op 0 0 0 l → posF (permP op fr to) (l.count 0) l = kindP op nk fr to l := fun h h2 => by
    rw [posF_congr (permP_irr op fr to h), kindP_irr op nk fr to h (by unfold isOp at hop; omega)]; exact h2
  have g1 : ar op = 1 → op = 4 ∨ op = 17 → posF (permP op 0 0) (l.count 0) l = kindP op 0 0 0 l := fun h1 h2 => by
    rw [h1] at hl
    obtain ⟨a, rfl⟩ := len1 hl
    obtain ⟨x, rfl⟩ := fin7 (hk a (by simp))
    rcases h2 with rfl | rfl
    · exact pos1 4 x (by decide)
    · exact pos1 17 x (by decide)
  have g2 : ar op = 2 → ∀ o : Fin 19, op = (o.val : Int) → (5 ≤ o.val ∧ o.val ≤ 14 ∨ o.val = 18) → posF (permP op 0 0) (l.count 0) l = kindP op 0 0 0 l := fun h1 o h2 h3 => by
    rw [h1] at hl
    obtain ⟨a, b, rfl⟩ := len2 hl
    obtain ⟨x, rfl⟩ := fin7 (hk a (by simp))
    obtain ⟨y, rfl⟩ := fin7 (hk b (by simp))
    subst h2
    exact pos2 o x y h3
  rcases hop.cases with rfl | rfl | rfl | rfl | rfl | rfl | rfl | rfl | rfl | rfl | rfl | rfl | rfl | rfl | rfl
  · exact go (by decide) (g1 (by decide) (.inl rfl))
  · exact go (by decide) (g2 (by decide) 5 rfl (by decide))
  · exact go (by decide) (g2 (by decide) 6 rfl (by decide))
  · exact go (by decide) (g2 (by decide) 7 rfl (by decide))
  · exact go (by decide) (g2 (by decide) 8 rfl (by decide))
  · exact go (by decide) (g2 (by decide) 9 rfl (by decide))
  · exact go (by decide) (g2 (by decide) 10 rfl (by decide))
  · exact go (by decide) (g2 (by decide) 11 rfl (by decide))
  · exact go (by decide) (g2 (by decide) 12 rfl (by decide))
  · exact go (by decide) (g2 (by decide) 13 rfl (by decide))
  · exact go (by decide) (g2 (by decide) 14 rfl (by decide))
  · refine go (by decide) ?_
    obtain ⟨a, b, c, rfl⟩ := len3 (show (l.length : Int) = 3 by rw [hl]; decide)
    obtain ⟨x, rfl⟩ := fin7 (hk a (by simp))
    obtain ⟨y, rfl⟩ := fin7 (hk b (by simp))
    obtain ⟨z, rfl⟩ := fin7 (hk c (by simp))
    exact pos3 x y z
  · obtain ⟨a, rfl⟩ := len1 (show (l.length : Int) = 1 by rw [hl]; decide)
    obtain ⟨x, rfl⟩ := fin7 (hk a (by simp))
    have ht := ht rfl
    obtain ⟨f, rfl⟩ := fin7 (show 0 ≤ fr ∧ fr ≤ 6 by omega)
    have e1 : ∀ k, permP 16 f.val to k = permP 16 f.val 0 k := fun k => by simp [permP, permF]
    have e2 : ∀ k, kindP 16 nk f.val to k = kindP 16 0 f.val 0 k := fun k => by simp [kindP, kindF]
    rw [posF_congr e1, e2]
    exact pos16 x f (by omega)
  · exact go (by decide) (g1 (by decide) (.inr rfl))
  · exact go (by decide) (g2 (by decide) 18 rfl (by decide))
/-! What is computed. -/
section
variable (atF : Tb → Int → Int) (rnd : Int → Int → Int → Int) (yr : Int → Int → Int)
def strictF (op nk nn : Int) (a b : V) (t : Tb) : V :=
  if op = 0 then ⟨nk, nn⟩ else if op = 7 then yesV (decide (a.n < b.n)) else if op = 8 then yesV (decide (a.n ≤ b.n)) else if op = 9 then yesV (decide (a = b))
  else if op = 13 then (if b.n < a.n then b else a) else if op = 14 then (if b.n < a.n then a else b)
  else if op = 10 then (addV a b).1 else if op = 11 then (subV a b).1 else if op = 12 then (timesV a b).1
  else if op = 16 then fitV ⟨t.to, atF t a.n⟩ else if op = 17 then fitV ⟨2, rnd a.n nk nn⟩ else if op = 18 then fitV ⟨5, yr a.n b.n⟩ else v0
def evalV (op nk nn : Int) (l : List V) (t : Tb) : V × Int :=
  if kindP op nk t.fr t.to (l.map (·.k)) = true then
    if (logicF op (l.getD 0 v0) (l.getD 1 v0) (l.getD 2 v0)).2 = true then ((logicF op (l.getD 0 v0) (l.getD 1 v0) (l.getD 2 v0)).1, 0)
    else if l.any (fun v => decide (v.k = 0)) = true then (v0, 0) else (strictF atF rnd yr op nk nn (l.getD 0 v0) (l.getD 1 v0) t, 0)
  else (v0, 8)
def resF (op nk nn : Int) (a b c : V) (opn : Bool) (t : Tb) : V :=
  let k := (permF op a.k b.k c.k t.fr t.to).1
  if op = 4 then val3 (if of3 a = 0 then 1 else if of3 a = 1 then 0 else 2)
  else if op = 5 ∨ op = 6 then (if of3 a = op - 5 ∨ of3 b = op - 5 then yesV (decide (op = 6)) else if opn = true then v0 else yesV (decide (op = 5)))
  else if op = 15 ∧ a.k = 1 then (if a.n = 1 then b else c)
  else if op = 15 ∧ b = c then b
  else if op = 15 ∨ opn = true then v0
  else if op = 7 then yesV (decide (a.n < b.n)) else if op = 8 then yesV (decide (a.n ≤ b.n)) else if op = 9 then yesV (decide (a.n = b.n))
  else if op = 13 then fitV ⟨k, min a.n b.n⟩ else if op = 14 then fitV ⟨k, max a.n b.n⟩ else if op = 10 then fitV ⟨k, w (a.n + b.n)⟩ else if op = 11 then fitV ⟨k, w (a.n - b.n)⟩
  else if op = 12 then (if b.k = 6 then fitV ⟨k, scaledF a.n b.n⟩ else fitV ⟨k, w (a.n * b.n)⟩)
  else if op = 16 then fitV ⟨k, atF t a.n⟩ else if op = 17 then fitV ⟨k, rnd a.n nk nn⟩ else fitV ⟨k, yr a.n b.n⟩
def compV (op nk nn : Int) (l : List V) (t : Tb) : V × Int :=
  if posF (permP op t.fr t.to) ((l.map (·.k)).count 0) (l.map (·.k)) = true then (resF atF rnd yr op nk nn (l.getD 0 v0) (l.getD 1 v0) (l.getD 2 v0) (l.any fun v => decide (v.k = 0)) t, 0) else (v0, 8)
end
/-- A value that unit.Check lets through. -/
structure Good (v : V) : Prop where
  k0 : 0 ≤ v.k
  k6 : v.k ≤ 6
  l : lo v.k ≤ v.n
  h : v.n ≤ hi v.k
theorem good_of {v : V} (h : checkV v = 0) : Good v := by
  unfold checkV at h
  split at h
  · cases h
  · split at h
    · cases h
    · exact ⟨by omega, by omega, by omega, by omega⟩
theorem Good.fit {v : V} (g : Good v) : fitV v = v := by
  have := g.k0; have := g.k6; have := g.l; have := g.h
  unfold fitV
  rw [if_neg (by omega)]
  cases v; simp only [V.mk.injEq, true_and] at *; omega
theorem Good.none {v : V} (g : Good v) (h : v.k = 0) : v = v0 := by
  have h1 := g.l; have h2 := g.h
  rw [h] at h1 h2
  have : v.n = 0 := by simp [lo, hi] at h1 h2; omega
  cases v; simp_all [v0]
theorem fit_in {k n : Int} (h0 : 0 ≤ k) (h6 : k ≤ 6) (h1 : lo k ≤ n) (h2 : n ≤ hi k) : fitV ⟨k, n⟩ = ⟨k, n⟩ := (Good.mk h0 h6 h1 h2 : Good ⟨k, n⟩).fit
theorem hi_lo (k : Int) (h0 : 2 ≤ k) (h6 : k ≤ 6) (h4 : k ≠ 4) : lo k = - hi k := by
  have : k = 2 ∨ k = 3 ∨ k = 5 ∨ k = 6 := by omega
  rcases this with rfl | rfl | rfl | rfl <;> rfl
theorem fit_k (k n : Int) (h0 : 0 ≤ k) (h6 : k ≤ 6) : fitV ⟨k, n⟩ = ⟨k, max (lo k) (min n (hi k))⟩ := by
  show (if ¬ (0 ≤ k ∧ k ≤ 6) then v0 else (⟨k, max (lo k) (min n (hi k))⟩ : V)) = _
  rw [if_neg (by omega)]
theorem scaled_fit (k a b : Int) (h0 : 2 ≤ k) (h6 : k ≤ 6) (h4 : k ≠ 4) : fitV ⟨k, sharedF a b (hi k)⟩ = fitV ⟨k, scaledF a b⟩ := by
  have hl := hi_lo k h0 h6 h4
  have hh := (lohi k).2.2.1
  have hp : 0 ≤ absI a * absI b := Int.mul_nonneg (by unfold absI; omega) (by unfold absI; omega)
  rw [fit_k _ _ (by omega) h6, fit_k _ _ (by omega) h6]
  unfold sharedF scaledF
  dsimp only
  generalize absI a * absI b = p at *
  rw [hl]
  simp only [V.mk.injEq, true_and]
  cases (decide (a < 0) != decide (b < 0))
  · simp only [Bool.false_eq_true, if_false]
    split <;> split <;> omega
  · simp only [if_true]
    split <;> split <;> omega
end Go.Proofs.Ytmalhikcdideoaa
