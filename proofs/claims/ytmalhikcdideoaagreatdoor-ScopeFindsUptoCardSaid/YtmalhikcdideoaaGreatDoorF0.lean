/- Short words for values. The package unit's checks; the package types: small functions; arities. Tables; types.find; lists of whole numbers. Nodes; tree.Check, given what tree.one says of each node. The reference: Permitted. tree.one, given what word.Name says. mootref2.nodeErr. mootref2.TreeErr. Acts; types.attr, types.looked. types.Tables. What KindOf answers. types.kind. -/
import Derived.Test.YtmalhikcdideoaaGreatDoorFacts
set_option linter.unusedVariables false
set_option linter.unusedSimpArgs false
namespace Go.Proofs.YtmalhikcdideoaaGreatDoor
open Go Sl
attribute [local irreducible] XRange LpQ XR XRo XRg XRQ putQ XFv XL XW2 wQ putW X XO XOp XH XHo XW SeqQ BlkQ XOQ XHQ NrmQ XC XM XG XHM XHG XD CallK
abbrev I (n : Int) : AV := .v (.int .i64 n)
abbrev B (b : Bool) : AV := .v (.bool b)
abbrev S (s : ByteArray) : AV := .v (.string s)
abbrev U8 (c : UInt8) : AV := .v (.int .u8 c.toNat)
@[go_sem] def cS (s : ByteArray) : List AV := [S s]
@[go_sem] def cI (k : Int) : List AV := [I k]
def i64B (n : Int) : Prop := -9223372036854775808 ≤ n ∧ n ≤ 9223372036854775807
end Go.Proofs.YtmalhikcdideoaaGreatDoor

set_option linter.unusedVariables false
set_option linter.unusedSimpArgs false
namespace Go.Proofs.YtmalhikcdideoaaGreatDoor
open Go Sl
attribute [local irreducible] XRange LpQ XR XRo XRg XRQ putQ XFv XL XW2 wQ putW X XO XOp XH XHo XW SeqQ BlkQ XOQ XHQ NrmQ XC XM XG XHM XHG XD CallK
/-- A value: its kind and number. -/
structure V where
  k : Int
  n : Int
deriving DecidableEq
@[go_sem] def encV (v : V) : AV := aggL [I v.k, I v.n]
@[go_sem] def v0 : V := ⟨0, 0⟩

def hi (k : Int) : Int := if k = 1 then 1 else if k = 2 then 1099511627776 else if k = 3 then 1048576 else if k = 4 then 1048575 else if k = 5 then 1048576 else if k = 6 then 1000000000 else 0
def eitherB (k : Int) : List Int → Bool
  | [] => decide (k = 0)
  | x :: r => if k = x then true else eitherB k r
theorem either_ok (k : Int) (l : List Int) : Pure Tryz.prog 276 [I k, encL 1 cI l] (B (eitherB k l)) := by
  generalize hR : B (eitherB k l) = R
  intro h; refine CallK.lens fun hlen => ?_; have hlen := (hlen _ (by simp only [List.mem_cons, true_or, or_true] : (encL 1 cI l) ∈ _)).encL; refine callK_body Tryz.func276 rfl (by rw [nt276]; simp) ?_; rw [nt276, rs276]
  (repeat' (first | simp [go_sem, X_region, *] | simp (disch := omega) only [om, *] | ((first | refine XC_split ?_ ?_ | refine XG_true ?_ ?_ | refine XG_false ?_ ?_ | refine XRg_true ?_ ?_ | refine XRg_false ?_ ?_) <;> intro hc <;> (try simp only [bl] at hc) <;> (try (exfalso; omega))) | refine XD_w [] [] [] (fun _ => none) mixed (by decide +kernel) (sub_none _) ?_ | (intro bk hbk; (try simp only [go_sem] at hbk))))
  refine X_lp (fun n T h' => ∃ (i : Nat) (r : List Int), n = r.length ∧ i ≤ l.length ∧ l.drop i = r ∧ T 9 = I i ∧ B (eitherB k r) = R ∧ T 0 = I k ∧ T 7 = encL 1 cI l ∧ T 8 = I l.length ∧ h' = h) l.length ⟨0, l, by simp [go_sem, hR]⟩ ?_
  clear hR; rintro J hJ n T h' ⟨i, r, rfl, hi, hd, h9, hR, h0, h7, h8, rfl⟩
  rcases r with _ | ⟨x, r⟩
  · have hlt := drop_nil hd
    (repeat' (first | simp [go_sem, X_region, *] | simp (disch := omega) only [om, *] | ((first | refine XC_split ?_ ?_ | refine XG_true ?_ ?_ | refine XG_false ?_ ?_ | refine XRg_true ?_ ?_ | refine XRg_false ?_ ?_) <;> intro hc <;> (try simp only [bl] at hc) <;> (try (exfalso; omega))) | refine XD_w [] [] [] (fun _ => none) mixed (by decide +kernel) (sub_none _) ?_ | (intro bk hbk; (try simp only [go_sem] at hbk))))
    all_goals (subst hR; exact Wk.of_eq (by simp [eitherB, eq_comm]))
  · obtain ⟨hlt, hx, hd2⟩ := drop_cons hd
    by_cases he : k = x
    · (repeat' (first | simp [go_sem, X_region, *] | simp (disch := omega) only [om, *] | ((first | refine XC_split ?_ ?_ | refine XG_true ?_ ?_ | refine XG_false ?_ ?_ | refine XRg_true ?_ ?_ | refine XRg_false ?_ ?_) <;> intro hc <;> (try simp only [bl] at hc) <;> (try (exfalso; omega))) | refine XD_w [] [] [] (fun _ => none) mixed (by decide +kernel) (sub_none _) ?_ | (intro bk hbk; (try simp only [go_sem] at hbk))))
      all_goals (subst hR; exact Wk.of_eq (by simp [eitherB, he]))
    · (repeat' (first | simp [go_sem, X_region, *] | simp (disch := omega) only [om, *] | ((first | refine XC_split ?_ ?_ | refine XG_true ?_ ?_ | refine XG_false ?_ ?_ | refine XRg_true ?_ ?_ | refine XRg_false ?_ ?_) <;> intro hc <;> (try simp only [bl] at hc) <;> (try (exfalso; omega))) | refine XD_w [] [] [] (fun _ => none) mixed (by decide +kernel) (sub_none _) ?_ | (intro bk hbk; (try simp only [go_sem] at hbk))))
      exact ⟨_, by omega, hJ.out _ _ _ ⟨i + 1, r, rfl, by omega, hd2, by simp [go_sem, *], by rw [← hR]; simp [eitherB, he], by simp [go_sem, *], by simp [go_sem, *], by simp [go_sem, *], rfl⟩⟩
theorem either_lit {h : Hp} {b : Nat} {ob : Ob} (k : Int) (xs : List Int) (hl : xs.length ≤ 1000) (hb : h b = some ob) (h1 : ob.s = 1) (h2 : ob.n = xs.length) (hf : ob.f = fun i j => ((xs.map fun x (_ : Nat) => I x)[i]?.getD fun _ => .any) j) :
    PureAt Tryz.prog h 276 [I k, .row b 1 0 xs.length] (B (eitherB k xs)) := by
  refine Pure.lend (either_ok k xs) (.cons (Lend.refl _) (.cons (Lend.row hb h1 (by omega) (by omega) fun i hi j hj => ?_) .nil)) trivial
  obtain rfl : j = 0 := by omega
  rw [hf]
  simp [hi, cI]
def ar (o : Int) : Int := if o < 0 ∨ 18 < o then -1 else if o ≤ 3 then 0 else if o = 4 ∨ o = 16 ∨ o = 17 then 1 else if o = 15 then 3 else 2
/-- An operation of Eval other than a literal. -/
def isOp (o : Int) : Prop := 4 ≤ o ∧ o ≤ 18
theorem isOp.cases {o : Int} (h : isOp o) : o = 4 ∨ o = 5 ∨ o = 6 ∨ o = 7 ∨ o = 8 ∨ o = 9 ∨ o = 10 ∨ o = 11 ∨ o = 12 ∨ o = 13 ∨ o = 14 ∨ o = 15 ∨ o = 16 ∨ o = 17 ∨ o = 18 := by unfold isOp at h; omega
end Go.Proofs.YtmalhikcdideoaaGreatDoor

set_option linter.unusedVariables false
set_option linter.unusedSimpArgs false
namespace Go.Proofs.YtmalhikcdideoaaGreatDoor
open Go Sl
attribute [local irreducible] XRange LpQ XR XRo XRg XRQ putQ XFv XL XW2 wQ putW X XO XOp XH XHo XW SeqQ BlkQ XOQ XHQ NrmQ XC XM XG XHM XHG XD CallK
/-- A table: name, from, to, slices, steps. -/
structure Tb where
  name : ByteArray
  fr : Int
  to : Int
  sl : Bool
  steps : List (Int × Int)
@[go_sem] def cSt (x : Int × Int) : List AV := [I x.1, I x.2]
@[go_sem] def cTb (t : Tb) : List AV := [S t.name, I t.fr, I t.to, B t.sl, encL 2 cSt t.steps]
@[go_sem] def cV (v : V) : List AV := [I v.k, I v.n]
abbrev ptrB (b : Nat) : AV := .v (.pointer (some ⟨b, 0, none⟩))
theorem sub_free {h0 h : Hp} {b : Nat} (s : Sub h0 h) (hb : h b = none) : h0 b = none := by
  cases hx : h0 b with
  | none => rfl
  | some o => rw [s b o hx] at hb; cases hb
@[go_sem] def encTbA (t : Tb) : AV := aggL [S t.name, I t.fr, I t.to, B t.sl, encL 2 cSt t.steps]
@[go_sem] def encO : Option Tb → AV
  | some t => encTbA t
  | none => aggL [S ⟨#[]⟩, I 0, I 0, B false, .v (.slice none 0 0)]
def iIdx (v : Int) : List Int → Int → Int
  | [], _ => -1
  | x :: r, i => if v = x then i else iIdx v r (i + 1)
theorem iIdx_ge (v : Int) (l : List Int) (i : Int) (hi : 0 ≤ i) : decide (0 ≤ iIdx v l i) = l.any fun k => decide (v = k) := by
  induction l generalizing i with
  | nil => simp [iIdx]
  | cons x l ih =>
    unfold iIdx
    by_cases h : v = x
    · simp [h, hi]
    · simp [h]; simpa using ih (i + 1) (by omega)
theorem iindex_ok (v : Int) (l : List Int) : Pure Tryz.prog 153 [encL 1 cI l, I v] (I (iIdx v l 0)) := by
  generalize hR : I (iIdx v l 0) = R
  intro h; refine CallK.lens fun hlen => ?_; have hlen := (hlen _ (by simp only [List.mem_cons, true_or, or_true] : (encL 1 cI l) ∈ _)).encL; refine callK_body Tryz.func153 rfl (by rw [nt153]; simp) ?_; rw [nt153, rs153]
  (repeat' (first | simp [go_sem, X_region, *] | simp (disch := omega) only [om, *] | ((first | refine XC_split ?_ ?_ | refine XG_true ?_ ?_ | refine XG_false ?_ ?_ | refine XRg_true ?_ ?_ | refine XRg_false ?_ ?_) <;> intro hc <;> (try simp only [bl] at hc) <;> (try (exfalso; omega))) | refine XD_w [] [] [] (fun _ => none) mixed (by decide +kernel) (sub_none _) ?_ | (intro bk hbk; (try simp only [go_sem] at hbk))))
  refine X_lp (fun n T h' => ∃ (i : Nat) (r : List Int), n = r.length ∧ i ≤ l.length ∧ l.drop i = r ∧ T 8 = I i ∧ I (iIdx v r i) = R ∧ T 0 = encL 1 cI l ∧ T 1 = I v ∧ T 7 = I l.length ∧ h' = h) l.length ⟨0, l, by simp [go_sem, hR]⟩ ?_
  clear hR; rintro J hJ n T h' ⟨i, r, rfl, hi, hd, h8, hR, h0, h1, h7, rfl⟩
  rcases r with _ | ⟨x, r⟩
  · have hlt := drop_nil hd
    (repeat' (first | simp [go_sem, X_region, *] | simp (disch := omega) only [om, *] | ((first | refine XC_split ?_ ?_ | refine XG_true ?_ ?_ | refine XG_false ?_ ?_ | refine XRg_true ?_ ?_ | refine XRg_false ?_ ?_) <;> intro hc <;> (try simp only [bl] at hc) <;> (try (exfalso; omega))) | refine XD_w [] [] [] (fun _ => none) mixed (by decide +kernel) (sub_none _) ?_ | (intro bk hbk; (try simp only [go_sem] at hbk))))
    all_goals (subst hR; exact Wk.of_eq (by simp [iIdx]))
  · obtain ⟨hlt, hx, hd2⟩ := drop_cons hd
    by_cases he : v = x
    · (repeat' (first | simp [go_sem, X_region, *] | simp (disch := omega) only [om, *] | ((first | refine XC_split ?_ ?_ | refine XG_true ?_ ?_ | refine XG_false ?_ ?_ | refine XRg_true ?_ ?_ | refine XRg_false ?_ ?_) <;> intro hc <;> (try simp only [bl] at hc) <;> (try (exfalso; omega))) | refine XD_w [] [] [] (fun _ => none) mixed (by decide +kernel) (sub_none _) ?_ | (intro bk hbk; (try simp only [go_sem] at hbk))))
      all_goals (subst hR; exact Wk.of_eq (by simp [iIdx, *]))
    · (repeat' (first | simp [go_sem, X_region, *] | simp (disch := omega) only [om, *] | ((first | refine XC_split ?_ ?_ | refine XG_true ?_ ?_ | refine XG_false ?_ ?_ | refine XRg_true ?_ ?_ | refine XRg_false ?_ ?_) <;> intro hc <;> (try simp only [bl] at hc) <;> (try (exfalso; omega))) | refine XD_w [] [] [] (fun _ => none) mixed (by decide +kernel) (sub_none _) ?_ | (intro bk hbk; (try simp only [go_sem] at hbk))))
      exact ⟨_, by omega, hJ.out _ _ _ ⟨i + 1, r, rfl, by omega, hd2, by simp [go_sem, *], by rw [← hR]; simp [iIdx, he], by simp [go_sem, *], by simp [go_sem, *], by simp [go_sem, *], rfl⟩⟩
theorem icont_ok (v : Int) (l : List Int) : Pure Tryz.prog 82 [encL 1 cI l, I v] (B (l.any fun k => decide (v = k))) := by
  intro h; refine callK_body Tryz.func82 rfl (by rw [nt82]; simp) ?_; rw [nt82, rs82]
  rw [← iIdx_ge v l 0 (by omega)]
  ((repeat' (first | simp [go_sem, X_region, *] | simp (disch := omega) only [om, *] | ((first | refine XC_split ?_ ?_ | refine XG_true ?_ ?_ | refine XG_false ?_ ?_ | refine XRg_true ?_ ?_ | refine XRg_false ?_ ?_) <;> intro hc <;> (try simp only [bl] at hc) <;> (try (exfalso; omega))) | refine XD_w [] [] [] (fun _ => none) mixed (by decide +kernel) (sub_none _) ?_ | refine Pure.call (iindex_ok v l) ?_ | refine ⟨_, Pure.at (iindex_ok v l), ?_⟩ | refine ⟨_, iindex_ok v l, ?_⟩ | refine PureAt.call (iindex_ok v l) ?_ | (intro bk hbk; (try simp only [go_sem] at hbk)))); all_goals (refine Wk.fin (by repeat (first | exact Sub.refl _ | refine Sub.upd (by simp [*]) ?_)) ?_; first | (simp [*]; done) | (simp only []; (repeat' (first | split | rfl | omega | (simp_all; done))); done) | (simp [*]; (repeat' (first | split | omega | (rw [Bool.eq_iff_iff]; simp; omega))); done) | (simp [*])))
end Go.Proofs.YtmalhikcdideoaaGreatDoor

set_option linter.unusedVariables false
set_option linter.unusedSimpArgs false
namespace Go.Proofs.YtmalhikcdideoaaGreatDoor
open Go Sl
attribute [local irreducible] XRange LpQ XR XRo XRg XRQ putQ XFv XL XW2 wQ putW X XO XOp XH XHo XW SeqQ BlkQ XOQ XHQ NrmQ XC XM XG XHM XHG XD CallK
/-- A fact that simp does not take as a rule. -/
structure Hid (p : Prop) : Prop where
  out : p
/-- A node of an expression. -/
structure Nd where
  op : Int
  kids : List Int
  kd : Int
  n : Int
  nm : ByteArray
@[go_sem] def cNd (x : Nd) : List AV := [I x.op, encL 1 cI x.kids, I x.kd, I x.n, S x.nm]
end Go.Proofs.YtmalhikcdideoaaGreatDoor

set_option linter.unusedVariables false
set_option linter.unusedSimpArgs false
namespace Go.Proofs.YtmalhikcdideoaaGreatDoor
open Go Sl
attribute [local irreducible] XRange LpQ XR XRo XRg XRQ putQ XFv XL XW2 wQ putW X XO XOp XH XHo XW SeqQ BlkQ XOQ XHQ NrmQ XC XM XG XHM XHG XD CallK
section
variable (a b c fr to : Int)
end
section
variable (a b c fr to : Int)
end
end Go.Proofs.YtmalhikcdideoaaGreatDoor

set_option linter.unusedVariables false
set_option linter.unusedSimpArgs false
namespace Go.Proofs.YtmalhikcdideoaaGreatDoor
open Go Sl
attribute [local irreducible] XRange LpQ XR XRo XRg XRQ putQ XFv XL XW2 wQ putW X XO XOp XH XHo XW SeqQ BlkQ XOQ XHQ NrmQ XC XM XG XHM XHG XD CallK
set_option maxRecDepth 100000
end Go.Proofs.YtmalhikcdideoaaGreatDoor

set_option linter.unusedVariables false
set_option linter.unusedSimpArgs false
namespace Go.Proofs.YtmalhikcdideoaaGreatDoor
open Go Sl
attribute [local irreducible] XRange LpQ XR XRo XRg XRQ putQ XFv XL XW2 wQ putW X XO XOp XH XHo XW SeqQ BlkQ XOQ XHQ NrmQ XC XM XG XHM XHG XD CallK
open Go.RowKit
end Go.Proofs.YtmalhikcdideoaaGreatDoor

set_option linter.unusedVariables false
set_option linter.unusedSimpArgs false
namespace Go.Proofs.YtmalhikcdideoaaGreatDoor
open Go Sl
attribute [local irreducible] XRange LpQ XR XRo XRg XRQ putQ XFv XL XW2 wQ putW X XO XOp XH XHo XW SeqQ BlkQ XOQ XHQ NrmQ XC XM XG XHM XHG XD CallK
open Go.RowKit
end Go.Proofs.YtmalhikcdideoaaGreatDoor

set_option linter.unusedVariables false
set_option linter.unusedSimpArgs false
namespace Go.Proofs.YtmalhikcdideoaaGreatDoor
open Go Sl
attribute [local irreducible] XRange LpQ XR XRo XRg XRQ putQ XFv XL XW2 wQ putW X XO XOp XH XHo XW SeqQ BlkQ XOQ XHQ NrmQ XC XM XG XHM XHG XD CallK
open Go.RowKit
/-- An attribute: name and kind; an act: attributes and tables. What is not read is not told. -/
structure At where
  name : ByteArray
  kind : Int
structure Ac where
  attrs : List At
  tables : List Tb
@[go_sem] def cAt (a : At) : List AV := [S a.name, I a.kind, .any, .any, .any, .any, .any]
@[go_sem] def cAc (a : Ac) : List AV := [.any, .any, .any, encL 7 cAt a.attrs, encL 5 cTb a.tables, .any]
end Go.Proofs.YtmalhikcdideoaaGreatDoor

set_option linter.unusedVariables false
set_option linter.unusedSimpArgs false
namespace Go.Proofs.YtmalhikcdideoaaGreatDoor
open Go Sl
attribute [local irreducible] XRange LpQ XR XRo XRg XRQ putQ XFv XL XW2 wQ putW X XO XOp XH XHo XW SeqQ BlkQ XOQ XHQ NrmQ XC XM XG XHM XHG XD CallK
open Go.RowKit
theorem own_with {h0 h : Hp} {a : AV} {e : TypeId} {s n c : Nat} {f : Nat → Nat → AV} {oc : Ob} (o : Own h0 h a e s n f) (hc : h c = none) : Own (upd h0 c (some oc)) (upd h c (some oc)) a e s n f := by
  obtain ⟨hs, ho⟩ := o
  refine ⟨fun k ok hk => ?_, ?_⟩
  · by_cases hkc : k = c
    · subst hkc; rw [upd_same] at hk ⊢; exact hk
    · rw [upd_ne _ _ hkc] at hk ⊢; exact hs k ok hk
  · rcases ho with ho | ⟨b1, o1, h1, h2, h3, h4⟩
    · exact .inl ho
    · have n1 : b1 ≠ c := fun e => by rw [e, hc] at h3; cases h3
      exact .inr ⟨b1, o1, h1, by rw [upd_ne _ _ n1]; exact h2, by rw [upd_ne _ _ n1]; exact h3, h4⟩
end Go.Proofs.YtmalhikcdideoaaGreatDoor

set_option linter.unusedVariables false
set_option linter.unusedSimpArgs false
namespace Go.Proofs.YtmalhikcdideoaaGreatDoor
open Go Sl
attribute [local irreducible] XRange LpQ XR XRo XRg XRQ putQ XFv XL XW2 wQ putW X XO XOp XH XHo XW SeqQ BlkQ XOQ XHQ NrmQ XC XM XG XHM XHG XD CallK
open Go.RowKit
end Go.Proofs.YtmalhikcdideoaaGreatDoor

set_option linter.unusedVariables false
set_option linter.unusedSimpArgs false
namespace Go.Proofs.YtmalhikcdideoaaGreatDoor
open Go Sl
attribute [local irreducible] XRange LpQ XR XRo XRg XRQ putQ XFv XL XW2 wQ putW X XO XOp XH XHo XW SeqQ BlkQ XOQ XHQ NrmQ XC XM XG XHM XHG XD CallK
theorem either_sl {h : Hp} {f : Nat → Nat → AV} (k : Int) (xs : List Int) (hl : xs.length ≤ 1000) (hf : f = fun i j => ((xs.map fun x (_ : Nat) => I x)[i]?.getD fun _ => .any) j) :
    PureAt Tryz.prog h 276 [I k, .sl 1 xs.length f] (B (eitherB k xs)) := by
  refine Pure.lend (either_ok k xs) (.cons (Lend.refl _) (.cons (Lend.sl fun i hi j hj => ?_) .nil)) trivial
  obtain rfl : j = 0 := by omega
  rw [hf]
  simp [hi, cI]
theorem either1 (k x : Int) : eitherB k [x] = decide (k = x ∨ k = 0) := by simp [eitherB, Bool.eq_iff_iff]
theorem row1 {h : Hp} {b : Nat} {ob : Ob} (k x : Int) (hb : h b = some ob) (h1 : ob.s = 1) (h2 : ob.n = 1) (hf : ob.f = fun i j => (([x].map fun x (_ : Nat) => I x)[i]?.getD fun _ => .any) j) :
    PureAt Tryz.prog h 276 [I k, .row b 1 0 1] (B (decide (k = x ∨ k = 0))) := by
  rw [← either1]
  exact either_lit k [x] (by simp) hb h1 h2 hf
theorem sl1 {h : Hp} {f : Nat → Nat → AV} (k x : Int) (hf : f = fun i j => (([x].map fun x (_ : Nat) => I x)[i]?.getD fun _ => .any) j) :
    PureAt Tryz.prog h 276 [I k, .sl 1 1 f] (B (decide (k = x ∨ k = 0))) := by
  rw [← either1]
  exact either_sl k [x] (by simp) hf
section
variable (kids nm tn st : AV) (nk n a b c fr to : Int) (sl : Bool)
end
section
variable (kids nm tn st : AV) (nk nn : Int) (fr to : Int) (sl : Bool)
end
end Go.Proofs.YtmalhikcdideoaaGreatDoor
