/- mootref2.named, Whose's closure. mootref2.Renamed. mootref2.ArticleOf. mootref2.Moved. mootref2.ArticleWhole, an article as a list. mootref2.Whose: a body as text. scopeBegun; the law ScopeRenames. Arguments: what the reading of an argument tells of it. Arguments, and how much they hold: what the reading of an argument tells of it, with its bulk. Arguments of seat D: nodes, tables, attributes, act -/
import Derived.Test.YtmalhikcdideoaaGreatDoorF3
import Derived.Test.YtmalhikcdideoaaGreatDoorSlS
import Derived.ChangeArms
import Derived.ChangeOld
import Derived.SizedLaws
import Derived.ChangeShapes
import Derived.WideShapes
import Derived.Test.YtmalhikcdideoaaGreatDoorRows
import Derived.Test.YtmalhikcdideoaaGreatDoorF0
set_option linter.unusedVariables false
set_option linter.unusedSimpArgs false
namespace Go.Proofs.YtmalhikcdideoaaGreatDoor
open Go Sl
attribute [local irreducible] XRange LpQ XR XRo XRg XRQ putQ XFv XL XW2 wQ putW X XO XOp XH XHo XW SeqQ BlkQ XOQ XHQ NrmQ XC XM XG XHM XHG XD CallK
open Go.RowKit
/-- A call that is handed a literal's row first, and forgets it. -/
theorem CallK.row1 {h : Hp} {f : FuncId} {k s n : Nat} {ob : Ob} {g : Nat → Nat → AV} {x : Value} {K : AV → Hp → Prop} (hk : h k = none) (h1 : ob.s = s) (h2 : ob.n = n) (h3 : n ≤ 140737488355328) (hf : ∀ i, i < n → ∀ j, j < s → ob.f i j = g i j)
    (c : CallK Tryz.prog h f [.sl s n g, .v x] K) : CallK Tryz.prog (upd h k (some ob)) f [.row k s 0 n, .v x] K := by
  have hs : Sub h (upd h k (some ob)) := fun c oc hc => by rw [upd_ne _ _ (fun e => by rw [e, hk] at hc; cases hc)]; exact hc
  unfold CallK at c ⊢
  intro w vals hh ha
  refine (c w vals (relH_forget hh hs) ⟨ha.1, fun i a hi => ?_⟩).mono ?_
  · match i, hi with
    | 0, hi =>
      obtain ⟨u, e, r⟩ := ha.2 0 _ rfl
      cases hi
      exact ⟨u, e, rd_row_to hs hk (upd_same _ _ _) h1 (by omega) h3 hf hh r⟩
    | 1, hi =>
      obtain ⟨u, e, r⟩ := ha.2 1 _ rfl
      cases hi
      exact ⟨u, e, r⟩
  · rintro e w' ⟨u, r, h', k1, k2, k3, k4, k5, k6⟩
    exact ⟨u, r, h', k1, k2, k3, k4, k5, (stp_forget hs).trans k6⟩
def txL : List ByteArray → List UInt8
  | [] => []
  | s :: r => numsL [(s.size : Int)] ++ s.data.toList ++ txL r
def txN : List ByteArray → Nat
  | [] => 0
  | s :: r => 22 + s.size + txN r
def namedL (l : List Rf) : List ByteArray := l.flatMap fun r => [r.1, r.2]
theorem rnamed_ok (l : List Rf) (hl : l.length ≤ 1048576) : Pure Tryz.prog 137 [encL 2 cRf l] (encL 1 cS (namedL l)) := by
  obtain ⟨R, hR⟩ : ∃ R, namedL l = R := ⟨_, rfl⟩
  rw [hR]
  intro h; refine CallK.lens fun hlen => ?_; have hlen := (hlen _ (by simp only [List.mem_cons, true_or, or_true] : (encL 2 cRf l) ∈ _)).encL; refine callK_body Tryz.func137 rfl (by rw [nt137]; simp) ?_; rw [nt137, rs137]
  (repeat' (first | simp [go_sem, X_region, *] | simp (disch := omega) only [om, *] | ((first | refine XC_split ?_ ?_ | refine XG_true ?_ ?_ | refine XG_false ?_ ?_ | refine XRg_true ?_ ?_ | refine XRg_false ?_ ?_) <;> intro hc <;> (try simp only [bl] at hc) <;> (try (exfalso; omega))) | refine XD_w [] [] [] (fun _ => none) mixed (by decide +kernel) (sub_none _) ?_ | fail))
  refine X_lpF (fun i => i = 3 ∨ i = 5 ∨ (8 ≤ i ∧ i ≤ 19)) (fun n T g => ∃ (i : Nat) (r : List Rf) (acc : List ByteArray), n = r.length ∧ i ≤ l.length ∧ l.drop i = r ∧ T 8 = I i ∧ Own h g (T 3) 9 1 acc.length (cellsL cS acc) ∧ Hid (acc ++ namedL r = R) ∧ acc.length = 2 * i) l.length
    ⟨0, l, [], rfl, by omega, rfl, by simp [go_sem], by simpa [go_sem] using Own.none, ⟨hR⟩, rfl⟩ ?_
  clear hR
  rintro J hJ n T g hfr ⟨i, r, acc, rfl, hi, hd, t8, own, hq, hal⟩
  rcases r with _ | ⟨x, r⟩
  · have hlt := drop_nil hd
    obtain rfl : acc = R := by have := hq.out; simpa [namedL] using this
    have w4 := own.frozen (by omega)
    rw [hal] at w4
    clear hq
    (repeat' (first | simp [go_sem, X_region, *] | simp (disch := omega) only [om, *] | ((first | refine XC_split ?_ ?_ | refine XG_true ?_ ?_ | refine XG_false ?_ ?_ | refine XRg_true ?_ ?_ | refine XRg_false ?_ ?_) <;> intro hc <;> (try simp only [bl] at hc) <;> (try (exfalso; omega))) | refine XD_w [] [] [] (fun _ => none) mixed (by decide +kernel) (sub_none _) ?_ | fail))
    all_goals exact w4
  · obtain ⟨hlt, hx, hd2⟩ := drop_cons hd
    (repeat' (first | simp [go_sem, X_region, *] | simp (disch := omega) only [om, *] | ((first | refine XC_split ?_ ?_ | refine XG_true ?_ ?_ | refine XG_false ?_ ?_ | refine XRg_true ?_ ?_ | refine XRg_false ?_ ?_) <;> intro hc <;> (try simp only [bl] at hc) <;> (try (exfalso; omega))) | refine XD_w [] [] [] (fun _ => none) mixed (by decide +kernel) (sub_none _) ?_ | fail))
    intro b5 hb5
    (repeat' (first | simp [go_sem, X_region, *] | simp (disch := omega) only [om, *] | ((first | refine XC_split ?_ ?_ | refine XG_true ?_ ?_ | refine XG_false ?_ ?_ | refine XRg_true ?_ ?_ | refine XRg_false ?_ ?_) <;> intro hc <;> (try simp only [bl] at hc) <;> (try (exfalso; omega))) | refine XD_w [] [] [] (fun _ => none) mixed (by decide +kernel) (sub_none _) ?_ | fail))
    intro bl l1n l2n hbl
    refine Own.append (h0 := h) (e := 9) (s := 1) (n := acc.length) (f := cellsL cS acc) (m := 2) (q := fun i j => ([fun _ => AV.v (Value.string x.1), fun _ => AV.v (Value.string x.2)] : List (Nat → AV))[i]?.getD (fun _ => .any) j) (own_grow own (Sub.upd hbl (Sub.upd hb5 (Sub.refl _)))) und54 zr9 by9 (by simp [go_sem]) (by simp [go_sem]) (by omega) (by omega) fun a h' ho _ => ?_
    have o2 : Own h h' a 9 1 (acc ++ [x.1, x.2]).length (cellsL cS (acc ++ [x.1, x.2])) := by
      have e1 : (acc ++ [x.1, x.2]).length = acc.length + 2 := by simp
      rw [e1]
      refine Own.congr ho fun p hp q hq => ?_
      obtain rfl : q = 0 := by omega
      by_cases hpl : p < acc.length
      · rw [if_pos hpl]; simp [cellsL, List.getElem?_append_left hpl]
      · rw [if_neg hpl]
        obtain ⟨m, rfl⟩ : ∃ m, p = acc.length + m := ⟨p - acc.length, by omega⟩
        rcases (show m = 0 ∨ m = 1 by omega) with rfl | rfl
        · simp [cellsL, cS]
        · simp [cellsL, cS]
    (repeat' (first | simp [go_sem, X_region, *] | simp (disch := omega) only [om, *] | ((first | refine XC_split ?_ ?_ | refine XG_true ?_ ?_ | refine XG_false ?_ ?_ | refine XRg_true ?_ ?_ | refine XRg_false ?_ ?_) <;> intro hc <;> (try simp only [bl] at hc) <;> (try (exfalso; omega))) | refine XD_w [] [] [] (fun _ => none) mixed (by decide +kernel) (sub_none _) ?_ | fail))
    exact ⟨_, Nat.lt_succ_self _, hJ.out _ _ _ ⟨(by (repeat (refine fr_upd (by decide) ?_)); exact hfr), i + 1, r, acc ++ [x.1, x.2], rfl, by omega, hd2, by simp [go_sem], by simpa [go_sem] using o2, ⟨by rw [← hq.out]; simp [namedL]⟩, by simp; omega⟩⟩
theorem rtext_ok {h0 h : Hp} {b : Nat} {s : List UInt8} (x : Bld h0 h b s) (l : List ByteArray) (hlen : s.length + txN l ≤ 140737488355328) (hl : l.length ≤ 140737488355328) :
    CallK Tryz.prog h 61 [encL 1 cS l, ptrV b] fun r h' => Bld h0 h' b (s ++ txL l) := by
  have x0 := x
  refine callK_body Tryz.func61 rfl (by rw [nt61]; simp) ?_; rw [nt61, rs61]
  (repeat' (first | simp [go_sem, X_region, *] | simp (disch := omega) only [om, *] | ((first | refine XC_split ?_ ?_ | refine XG_true ?_ ?_ | refine XG_false ?_ ?_ | refine XRg_true ?_ ?_ | refine XRg_false ?_ ?_) <;> intro hc <;> (try simp only [bl] at hc) <;> (try (exfalso; omega))) | refine XD_w [] [] [] (fun _ => none) mixed (by decide +kernel) (sub_none _) ?_ | fail))
  obtain ⟨R, hR⟩ : ∃ R : List UInt8, s ++ txL l = R := ⟨_, rfl⟩
  refine X_lpF (fun i => i = 4 ∨ (7 ≤ i ∧ i ≤ 17)) (fun n T h' => ∃ (i : Nat) (r : List ByteArray) (acc : List UInt8), n = r.length ∧ i ≤ l.length ∧ l.drop i = r ∧ T 7 = I i ∧ Bld h0 h' b acc ∧ Hid (acc ++ txL r = R) ∧ acc.length + txN r ≤ 140737488355328) l.length
    ⟨0, l, s, rfl, by omega, rfl, by simp [go_sem], x0, ⟨hR⟩, hlen⟩ ?_
  clear x x0
  rintro J hJ n T h' hfr ⟨i, r, acc, rfl, hle, hd, h8, x, hacc, hal⟩
  rcases r with _ | ⟨y, r⟩
  · have hlt := drop_nil hd
    obtain rfl : i = l.length := by omega
    have hacc2 := hacc.out
    simp only [txL, List.append_nil] at hacc2
    (repeat' (first | simp [go_sem, X_region, *] | simp (disch := omega) only [om, *] | ((first | refine XC_split ?_ ?_ | refine XG_true ?_ ?_ | refine XG_false ?_ ?_ | refine XRg_true ?_ ?_ | refine XRg_false ?_ ?_) <;> intro hc <;> (try simp only [bl] at hc) <;> (try (exfalso; omega))) | refine XD_w [] [] [] (fun _ => none) mixed (by decide +kernel) (sub_none _) ?_ | fail))
    refine ⟨_, _, Wk.refl _ _, ?_⟩
    rw [← hacc2]
    exact x
  · obtain ⟨hlt, hx, hd2⟩ := drop_cons hd
    simp only [txN] at hal
    (repeat' (first | simp [go_sem, X_region, *] | simp (disch := omega) only [om, *] | ((first | refine XC_split ?_ ?_ | refine XG_true ?_ ?_ | refine XG_false ?_ ?_ | refine XRg_true ?_ ?_ | refine XRg_false ?_ ?_) <;> intro hc <;> (try simp only [bl] at hc) <;> (try (exfalso; omega))) | refine XD_w [] [] [] (fun _ => none) mixed (by decide +kernel) (sub_none _) ?_ | fail))
    intro bl hbl
    have hin : ∀ n ∈ [(y.size : Int)], -9223372036854775808 ≤ n ∧ n ≤ 9223372036854775807 := by
      simp only [List.mem_cons, List.not_mem_nil, or_false]
      rintro n rfl
      exact ⟨by omega, by omega⟩
    have hnl := numsL_len _ hin
    simp only [List.length_cons, List.length_nil] at hnl
    refine CallK.mono (num_lit x [(y.size : Int)] (by simp only [List.length_cons, List.length_nil]; omega) hin hbl rfl rfl rfl) ?_
    rintro r1 g1 x1
    have hne : acc ++ numsL [(y.size : Int)] ≠ [] := by simp [numsL]
    have hyl : y.data.toList.length = y.size := Array.length_toList
    (repeat' (first | simp [go_sem, X_region, *] | simp (disch := omega) only [om, *] | ((first | refine XC_split ?_ ?_ | refine XG_true ?_ ?_ | refine XG_false ?_ ?_ | refine XRg_true ?_ ?_ | refine XRg_false ?_ ?_) <;> intro hc <;> (try simp only [bl] at hc) <;> (try (exfalso; omega))) | refine XD_w [] [] [] (fun _ => none) mixed (by decide +kernel) (sub_none _) ?_ | fail))
    refine (write_ok x1 y (.inl hne) (by rw [List.length_append]; omega)).mono ?_
    rintro r2 g2 x2
    (repeat' (first | simp [go_sem, X_region, *] | simp (disch := omega) only [om, *] | ((first | refine XC_split ?_ ?_ | refine XG_true ?_ ?_ | refine XG_false ?_ ?_ | refine XRg_true ?_ ?_ | refine XRg_false ?_ ?_) <;> intro hc <;> (try simp only [bl] at hc) <;> (try (exfalso; omega))) | refine XD_w [] [] [] (fun _ => none) mixed (by decide +kernel) (sub_none _) ?_ | fail))
    exact ⟨_, Nat.lt_succ_self _, hJ.out _ _ _ ⟨(by (repeat (refine fr_upd (by decide) ?_)); exact hfr), i + 1, r, _, rfl, by omega, hd2, by simp [go_sem], x2, ⟨by rw [← hacc.out]; simp [txL]⟩, by simp only [List.length_append]; omega⟩⟩
end Go.Proofs.YtmalhikcdideoaaGreatDoor

set_option linter.unusedVariables false
set_option linter.unusedSimpArgs false
namespace Go.Proofs.YtmalhikcdideoaaGreatDoor
open Go Sl
attribute [local irreducible] XRange LpQ XR XRo XRg XRQ putQ XFv XL XW2 wQ putW X XO XOp XH XHo XW SeqQ BlkQ XOQ XHQ NrmQ XC XM XG XHM XHG XD CallK
open Go.RowKit
theorem contB_ok (v : ByteArray) (l : List ByteArray) : Pure Tryz.prog 28 [encL 1 cS l, S v] (B (hasB l v)) := contains_ok v l
theorem X_absH {P : Program} {N : Nat} {c : Code} {T : Nat → AV} {h : Hp} {Q : Exit → (Nat → AV) → Hp → Prop} (p : Hp → Prop) (hp : p h) (hk : ∀ h1, p h1 → X P N c T h1 Q) : X P N c T h Q := hk h hp
theorem X_joinU {P : Program} {N : Nat} {T : Nat → AV} {h : Hp} {Q : Exit → (Nat → AV) → Hp → Prop} {a b : Code} (D : Nat → Prop) (I : (Nat → AV) → Hp → Prop) (ha : ∀ Qn : (Nat → AV) → Hp → Prop, (∀ T' h', (∀ i, ¬ D i → T' i = T i) → I T' h' → Qn T' h') → X P N a T h (SeqJ Qn Q)) (hb : ∀ T' h', (∀ i, ¬ D i → T' i = T i) → I T' h' → X P N b T' h' Q) : X P N (.seq a b) T h Q :=
  X_join (fun T' h' => (∀ i, ¬ D i → T' i = T i) ∧ I T' h') (fun Qn hQ => ha Qn fun T' h' f i => hQ T' h' ⟨f, i⟩) fun T' h' ⟨f, i⟩ => hb T' h' f i
/-- While an act is made anew: the act read, the act made so far, what is finished. -/
structure RnS (HH g : Hp) (b17 b18 : Nat) (oa ob : Ob) (out : AV) (acc : List Acx) (y : Acx) (l3 : List Atx) (l4 : List Tb) (l5 : List Arx) : Prop where
  out : Own (upd (upd HH b17 (some oa)) b18 (some ob)) g out 37 6 acc.length (cellsL cAcx acc)
  a : Own (upd (upd HH b17 (some oa)) b18 (some ob)) g (ob.f 0 3) 99 7 l3.length (cellsL cAtx l3)
  t : Own (upd (upd HH b17 (some oa)) b18 (some ob)) g (ob.f 0 4) 43 5 l4.length (cellsL cTb l4)
  r : Own (upd (upd HH b17 (some oa)) b18 (some ob)) g (ob.f 0 5) 50 6 l5.length (cellsL cArx l5)
  ne : b17 ≠ b18
  a1 : oa.s = 6
  a2 : oa.n = 1
  f3 : oa.f 0 3 = encL 7 cAtx y.attrs
  f4 : oa.f 0 4 = encL 5 cTb y.tables
  f5 : oa.f 0 5 = encL 6 cArx y.arts
  b1 : ob.ty = 37
  b2 : ob.s = 6
  b3 : ob.n = 1
  g0 : ob.f 0 0 = S y.name
  g1 : ob.f 0 1 = I y.level
  g2 : ob.f 0 2 = I y.date
theorem RnS.e18 {HH g : Hp} {b17 b18 : Nat} {oa ob : Ob} {out : AV} {acc : List Acx} {y : Acx} {l3 : List Atx} {l4 : List Tb} {l5 : List Arx} (S : RnS HH g b17 b18 oa ob out acc y l3 l4 l5) : g b18 = some ob := S.out.1 _ _ (upd_same _ _ _)
theorem RnS.e17 {HH g : Hp} {b17 b18 : Nat} {oa ob : Ob} {out : AV} {acc : List Acx} {y : Acx} {l3 : List Atx} {l4 : List Tb} {l5 : List Arx} (S : RnS HH g b17 b18 oa ob out acc y l3 l4 l5) : g b17 = some oa := S.out.1 _ _ ((upd_ne _ _ S.ne).trans (upd_same _ _ _))
end Go.Proofs.YtmalhikcdideoaaGreatDoor

set_option linter.unusedVariables false
set_option linter.unusedSimpArgs false
namespace Go.Proofs.YtmalhikcdideoaaGreatDoor
open Go Sl
attribute [local irreducible] XRange LpQ XR XRo XRg XRQ putQ XFv XL XW2 wQ putW X XO XOp XH XHo XW SeqQ BlkQ XOQ XHQ NrmQ XC XM XG XHM XHG XD CallK
open Go.RowKit
theorem refN_cons (a : Acx) (r : List Acx) (rf : Rf) : hasB (refN (a :: r)) rf = (hasB (a.arts.map fun x => (a.name, x.name)) rf || hasB (refN r) rf) := by
  simp [refN, hasB, List.any_append]
set_option maxHeartbeats 2000000 in
theorem artOf_ok (b : List Acx) (hal : ∀ a ∈ b, a.arts.length ≤ 1048576) (rf : Rf) (h : Hp) : CallK Tryz.prog h 31 [encL 6 cAcx b, eRf rf] fun v h' => ∃ x : Arx, v = tup2 (aggL (cArx x)) (B (hasB (refN b) rf)) ∧ h' = h := by
  obtain ⟨F, hF⟩ : ∃ F, hasB (refN b) rf = F := ⟨_, rfl⟩
  rw [hF]
  refine CallK.lens fun hlen => ?_; have hlen := (hlen _ (by simp only [List.mem_cons, true_or, or_true] : (encL 6 cAcx b) ∈ _)).encL; refine callK_body Tryz.func31 rfl (by rw [nt31]; simp) ?_; rw [nt31, rs31]
  (repeat' (first | simp [go_sem, X_region, *] | simp (disch := omega) only [om, *] | ((first | refine XC_split ?_ ?_ | refine XG_true ?_ ?_ | refine XG_false ?_ ?_ | refine XRg_true ?_ ?_ | refine XRg_false ?_ ?_) <;> intro hc <;> (try simp only [bl] at hc) <;> (try (exfalso; omega))) | refine XD_w [] [] [] (fun _ => none) mixed (by decide +kernel) (sub_none _) ?_ | fail))
  intro b3 hb3
  (repeat' (first | simp [go_sem, X_region, *] | simp (disch := omega) only [om, *] | ((first | refine XC_split ?_ ?_ | refine XG_true ?_ ?_ | refine XG_false ?_ ?_ | refine XRg_true ?_ ?_ | refine XRg_false ?_ ?_) <;> intro hc <;> (try simp only [bl] at hc) <;> (try (exfalso; omega))) | refine XD_w [] [] [] (fun _ => none) mixed (by decide +kernel) (sub_none _) ?_ | fail))
  intro b4 n4a n4b hb4
  obtain ⟨ra, rn⟩ := rf
  refine X_lpF (fun i => i = 5 ∨ i = 7 ∨ i = 9 ∨ (12 ≤ i ∧ i ≤ 32)) (fun n T g => ∃ (i : Nat) (r : List Acx), n = r.length ∧ i ≤ b.length ∧ b.drop i = r ∧ T 12 = I i ∧ Sub h g ∧ (∃ o, g b3 = some o ∧ o.s = 2 ∧ o.n = 1 ∧ o.f 0 0 = S ra ∧ o.f 0 1 = S rn) ∧ (∃ o, g b4 = some o ∧ o.ty = 50 ∧ o.s = 6 ∧ o.n = 1) ∧ Hid (hasB (refN r) (ra, rn) = F)) b.length
    ⟨0, b, rfl, by omega, rfl, by simp [go_sem], Sub.upd hb4 (Sub.upd hb3 (Sub.refl _)), ⟨_, (upd_ne _ _ n4b).trans (upd_same _ _ _), rfl, rfl, rfl, rfl⟩, ⟨_, upd_same _ _ _, rfl, rfl, rfl⟩, ⟨hF⟩⟩ ?_
  clear hF
  rintro J hJ n T g hfr ⟨i, r, rfl, hi, hd, t12, hS, ⟨o3, e3, k1, k2, k3, k4⟩, ⟨o4, e4, j1, j2, j3⟩, hq⟩
  rcases r with _ | ⟨a, r⟩
  · have hlt := drop_nil hd
    obtain rfl : false = F := by rw [← hq.out]; rfl
    clear hq
    (repeat' (first | simp [go_sem, X_region, *] | simp (disch := omega) only [om, *] | ((first | refine XC_split ?_ ?_ | refine XG_true ?_ ?_ | refine XG_false ?_ ?_ | refine XRg_true ?_ ?_ | refine XRg_false ?_ ?_) <;> intro hc <;> (try simp only [bl] at hc) <;> (try (exfalso; omega))) | refine XD_w [] [] [] (fun _ => none) mixed (by decide +kernel) (sub_none _) ?_ | fail))
    have hSS : ∀ o, Sub h (upd g b4 (some o)) := fun o => Sub.upd hb4 hS
    refine ⟨_, Wk.tup2M (hSS _) (Wk.aggLM (hSS _) (l' := cArx arx0) rfl fun j hj => ?_) (Wk.drop _ (hSS _)), arx0, rfl⟩
    have hj : j < 6 := hj
    rcases (show j = 0 ∨ j = 1 ∨ j = 2 ∨ j = 3 ∨ j = 4 ∨ j = 5 by omega) with rfl | rfl | rfl | rfl | rfl | rfl
    · exact Wk.drop _ (hSS _)
    · exact Wk.drop _ (hSS _)
    · exact Wk.nil.trans (Wk.drop _ (hSS _))
    · exact Wk.nil.trans (Wk.drop _ (hSS _))
    · exact Wk.nil.trans (Wk.drop _ (hSS _))
    · exact Wk.drop _ (hSS _)
  · obtain ⟨hlt, hx, hd2⟩ := drop_cons hd
    have hxl := hal a (by rw [← hx]; exact List.getElem_mem hlt)
    replace hq : Hid ((hasB (a.arts.map fun x => (a.name, x.name)) (ra, rn) || hasB (refN r) (ra, rn)) = F) := ⟨by rw [← refN_cons]; exact hq.out⟩
    (repeat' (first | simp [go_sem, X_region, *] | simp (disch := omega) only [om, *] | ((first | refine XC_split ?_ ?_ | refine XG_true ?_ ?_ | refine XG_false ?_ ?_ | refine XRg_true ?_ ?_ | refine XRg_false ?_ ?_) <;> intro hc <;> (try simp only [bl] at hc) <;> (try (exfalso; omega))) | refine XD_w [] [] [] (fun _ => none) mixed (by decide +kernel) (sub_none _) ?_ | fail))
    intro b7 hb7
    have n73 := ne_free hb7 e3
    have n74 := ne_free hb7 e4
    (repeat' (first | simp [go_sem, X_region, *] | simp (disch := omega) only [om, *] | ((first | refine XC_split ?_ ?_ | refine XG_true ?_ ?_ | refine XG_false ?_ ?_ | refine XRg_true ?_ ?_ | refine XRg_false ?_ ?_) <;> intro hc <;> (try simp only [bl] at hc) <;> (try (exfalso; omega))) | refine XD_w [] [] [] (fun _ => none) mixed (by decide +kernel) (sub_none _) ?_ | fail))
    refine X_lpF (fun i => i = 5 ∨ i = 9 ∨ (19 ≤ i ∧ i ≤ 31)) (fun n T g' => ∃ (j : Nat) (rk : List Arx) (oa : Ob), n = rk.length ∧ j ≤ a.arts.length ∧ a.arts.drop j = rk ∧ T 19 = I j ∧ Sub (upd g b7 (some oa)) g' ∧ oa.s = 6 ∧ oa.n = 1 ∧ oa.f 0 0 = S a.name ∧ Hid ((hasB (rk.map fun x => (a.name, x.name)) (ra, rn) || hasB (refN r) (ra, rn)) = F)) a.arts.length
      ⟨0, a.arts, _, rfl, by omega, rfl, by simp [go_sem], Sub.refl _, rfl, rfl, rfl, hq⟩ ?_
    clear hq
    rintro J2 hJ2 n2 T2 g2 hfr2 ⟨j, rk, oa, rfl, hj, hdk, t19, hS2, q1, q2, q3, hq⟩
    have e7 := hS2 b7 _ (upd_same _ _ _)
    have e3' := hS2 b3 _ ((upd_ne _ _ n73.2).trans e3)
    have e4' := hS2 b4 _ ((upd_ne _ _ n74.2).trans e4)
    have hSg : Sub h g2 := (hS.trans (Sub.upd hb7 (Sub.refl _))).trans hS2
    rcases rk with _ | ⟨x, rk⟩
    · have hltk := drop_nil hdk
      have hq2 : Hid (hasB (refN r) (ra, rn) = F) := ⟨by rw [← hq.out]; simp [hasB]⟩
      clear hq
      (repeat' (first | simp [go_sem, X_region, *] | simp (disch := omega) only [om, *] | ((first | refine XC_split ?_ ?_ | refine XG_true ?_ ?_ | refine XG_false ?_ ?_ | refine XRg_true ?_ ?_ | refine XRg_false ?_ ?_) <;> intro hc <;> (try simp only [bl] at hc) <;> (try (exfalso; omega))) | refine XD_w [] [] [] (fun _ => none) mixed (by decide +kernel) (sub_none _) ?_ | fail))
      exact ⟨_, Nat.lt_succ_self _, hJ.out _ _ _ ⟨(by (repeat (refine fr_upd (by decide) ?_)); exact fr_in (by intro i; omega) hfr2 (by (repeat (refine fr_upd (by decide) ?_)); exact hfr)), i + 1, r, rfl, by omega, hd2, by simp [go_sem], hSg, ⟨o3, e3', k1, k2, k3, k4⟩, ⟨o4, e4', j1, j2, j3⟩, hq2⟩⟩
    · obtain ⟨hltk, hxk, hdk2⟩ := drop_cons hdk
      (repeat' (first | simp [go_sem, X_region, *] | simp (disch := omega) only [om, *] | ((first | refine XC_split ?_ ?_ | refine XG_true ?_ ?_ | refine XG_false ?_ ?_ | refine XRg_true ?_ ?_ | refine XRg_false ?_ ?_) <;> intro hc <;> (try simp only [bl] at hc) <;> (try (exfalso; omega))) | refine XD_w [] [] [] (fun _ => none) mixed (by decide +kernel) (sub_none _) ?_ | fail))
      intro b9 hb9
      have n93 := ne_free hb9 e3'
      have n94 := ne_free hb9 e4'
      have n97 := ne_free hb9 e7
      (repeat' (first | simp [go_sem, X_region, *] | simp (disch := omega) only [om, *] | ((first | refine XC_split ?_ ?_ | refine XG_true ?_ ?_ | refine XG_false ?_ ?_ | refine XRg_true ?_ ?_ | refine XRg_false ?_ ?_) <;> intro hc <;> (try simp only [bl] at hc) <;> (try (exfalso; omega))) | refine XD_w [] [] [] (fun _ => none) mixed (by decide +kernel) (sub_none _) ?_ | fail))
      · have hz : a.name = ra ∧ x.name = rn := by simpa [beqB] using hc
        obtain rfl : true = F := by rw [← hq.out]; simp [hasB, hz.1, hz.2]
        exact ⟨_, Wk.drop _ (Sub.upd hb4 (hSg.trans (Sub.upd hb9 (Sub.refl _)))), x, rfl⟩
      · have hz : ¬ (a.name = ra ∧ x.name = rn) := by rintro ⟨e1, e2⟩; rw [e1, e2] at hc; simp [beqB] at hc
        have hq2 : Hid ((hasB (rk.map fun x => (a.name, x.name)) (ra, rn) || hasB (refN r) (ra, rn)) = F) := ⟨by
          rw [← hq.out]
          have h1 : (decide (ra = a.name) && decide (rn = x.name)) = false := by
            by_cases e1 : ra = a.name
            · have e2 : ¬ rn = x.name := fun e2 => hz ⟨e1.symm, e2.symm⟩
              simp [e2]
            · simp [e1]
          simp [hasB, h1]⟩
        exact ⟨_, Nat.lt_succ_self _, hJ2.out _ _ _ ⟨(by (repeat (refine fr_upd (by decide) ?_)); exact hfr2), j + 1, rk, oa, rfl, by omega, hdk2, by simp [go_sem], hS2.trans (Sub.upd hb9 (Sub.refl _)), q1, q2, q3, hq2⟩⟩
end Go.Proofs.YtmalhikcdideoaaGreatDoor

set_option linter.unusedVariables false
set_option linter.unusedSimpArgs false
namespace Go.Proofs.YtmalhikcdideoaaGreatDoor
open Go Sl
attribute [local irreducible] XRange LpQ XR XRo XRg XRQ putQ XFv XL XW2 wQ putW X XO XOp XH XHo XW SeqQ BlkQ XOQ XHQ NrmQ XC XM XG XHM XHG XD CallK
open Go.RowKit
end Go.Proofs.YtmalhikcdideoaaGreatDoor

set_option linter.unusedVariables false
set_option linter.unusedSimpArgs false
namespace Go.Proofs.YtmalhikcdideoaaGreatDoor
open Go Sl
attribute [local irreducible] XRange LpQ XR XRo XRg XRQ putQ XFv XL XW2 wQ putW X XO XOp XH XHo XW SeqQ BlkQ XOQ XHQ NrmQ XC XM XG XHM XHG XD CallK
open Go.RowKit
/-- What a node may have at most. -/
def NdS (x : Nd) : Prop := x.nm.size ≤ 1048576 ∧ x.kids.length ≤ 1048576 ∧ i64B x.op ∧ i64B x.kd ∧ i64B x.n ∧ ∀ k ∈ x.kids, i64B k
def ExS (e : List Nd) : Prop := e.length ≤ 1048576 ∧ ∀ x ∈ e, NdS x
structure ArS (x : Arx) : Prop where
  nm : x.name.size ≤ 1048576
  tg : x.target.size ≤ 1048576
  w : i64B x.weight
  ov : x.over.length ≤ 1048576 ∧ ∀ o ∈ x.over, o.1.size ≤ 1048576 ∧ o.2.size ≤ 1048576
  c : ExS x.cond
  t : ExS x.thn
theorem showE_len : ∀ (e : List Nd), (∀ x ∈ e, NdS x) → (showE e).length ≤ 25000000 * e.length
  | [], _ => by simp [showE]
  | x :: r, h => by
    obtain ⟨e1, e2, e3, e4, e5, e6⟩ := h x (by simp)
    have h2 := showE_len r fun y hy => h y (by simp [hy])
    have hin5 : ∀ n ∈ [x.op, x.kd, x.n, (x.nm.size : Int), (x.kids.length : Int)], -9223372036854775808 ≤ n ∧ n ≤ 9223372036854775807 := by
      simp only [List.mem_cons, List.not_mem_nil, or_false]
      rintro n (rfl | rfl | rfl | rfl | rfl)
      · exact e3
      · exact e4
      · exact e5
      · exact ⟨by omega, by omega⟩
      · exact ⟨by omega, by omega⟩
    have hnl := numsL_len _ hin5
    have hnk := numsL_len x.kids e6
    have hnm : x.nm.data.toList.length = x.nm.size := Array.length_toList
    simp only [List.length_cons, List.length_nil] at hnl
    simp only [showE, showN, List.length_append, List.length_cons, List.length_nil]
    omega
def listB : ByteArray := ⟨#[108, 105, 115, 116]⟩
/-- An expression, in an article's text. -/
def exL (e : List Nd) : List UInt8 := numsL [((bOf (showE e)).size : Int)] ++ (listB ++ bOf (showE e)).data.toList
def exsL : List (List Nd) → List UInt8
  | [] => []
  | e :: r => exL e ++ exsL r
def artL (x : Arx) : List UInt8 := numsL [(x.name.size : Int), x.target.size, x.weight, x.over.length] ++ (x.name ++ x.target).data.toList ++ txL (namedL x.over) ++ exsL [x.cond, x.thn]
theorem txN_len : ∀ (l : List ByteArray), (∀ s ∈ l, s.size ≤ 1048576) → txN l ≤ 1048598 * l.length
  | [], _ => by simp [txN]
  | s :: r, h => by
    have h1 := h s (by simp)
    have h2 := txN_len r fun y hy => h y (by simp [hy])
    simp only [txN, List.length_cons]
    omega
theorem namedL_len (l : List Rf) : (namedL l).length = 2 * l.length := by
  induction l with
  | nil => rfl
  | cons a r ih => simp only [namedL, List.flatMap_cons, List.length_append, List.length_cons, List.length_nil] at ih ⊢; omega
theorem named_sz {l : List Rf} (h : ∀ o ∈ l, o.1.size ≤ 1048576 ∧ o.2.size ≤ 1048576) : ∀ s ∈ namedL l, s.size ≤ 1048576 := fun s hs => by
  simp only [namedL, List.mem_flatMap, List.mem_cons, List.not_mem_nil, or_false] at hs
  obtain ⟨o, ho, rfl | rfl⟩ := hs
  · exact (h o ho).1
  · exact (h o ho).2
theorem in1 {n : Nat} (h : n ≤ 140737488355328) : ∀ m ∈ [(n : Int)], -9223372036854775808 ≤ m ∧ m ≤ 9223372036854775807 := by
  simp only [List.mem_cons, List.not_mem_nil, or_false]
  rintro m rfl
  exact ⟨by omega, by omega⟩
set_option maxHeartbeats 8000000 in
theorem awhole_ok (x : Arx) (hx : ArS x) : Pure Tryz.prog 65 [aggL (cArx x), B false] (S (bOf (artL x))) := by
  obtain ⟨nm, tg, cond, thn, over, wt⟩ := x
  obtain ⟨z1, z2, z3, ⟨z4, z5⟩, z6, z7⟩ := hx
  dsimp only at z1 z2 z3 z4 z5 z6 z7
  have hnd := rnamed_ok over z4
  obtain ⟨R, hR⟩ : ∃ R, artL ⟨nm, tg, cond, thn, over, wt⟩ = R := ⟨_, rfl⟩
  rw [hR]
  intro h; refine callK_body Tryz.func65 rfl (by rw [nt65]; simp) ?_; rw [nt65, rs65]
  generalize hC : Code.seq (Code.region 2 _ _) _ = C
  replace hC : Hid (_ = C) := ⟨hC⟩
  (repeat' (first | simp [go_sem, X_region, *] | simp (disch := omega) only [om, *] | ((first | refine XC_split ?_ ?_ | refine XG_true ?_ ?_ | refine XG_false ?_ ?_ | refine XRg_true ?_ ?_ | refine XRg_false ?_ ?_) <;> intro hc <;> (try simp only [bl] at hc) <;> (try (exfalso; omega))) | refine XD_w [] [] [] (fun _ => none) mixed (by decide +kernel) (sub_none _) ?_ | fail))
  intro b2 hb2 b5 n1 n2 hb5
  refine X_absH (fun g => ∃ H1, Sub h H1 ∧ Bld H1 g b5 [] ∧ ∃ o, H1 b2 = some o ∧ o.s = 6 ∧ o.n = 1 ∧ o.f 0 0 = S nm ∧ o.f 0 1 = S tg ∧ o.f 0 2 = encL 5 cNd cond ∧ o.f 0 3 = encL 5 cNd thn ∧ o.f 0 4 = encL 2 cRf over ∧ o.f 0 5 = I wt)
    ⟨_, Sub.upd hb2 (Sub.refl _), Bld.fresh (by rw [upd_ne _ _ n1]; exact hb5), _, upd_same _ _ _, rfl, rfl, rfl, rfl, rfl, rfl, rfl, rfl⟩ ?_
  rintro g0 ⟨H1, sH1, x0, o, ho, p1, p2, p3, p4, p5, p6, p7, p8⟩
  rw [← hC.out]
  clear hC C
  have ko := x0.sub _ _ ho
  (repeat' (first | simp [go_sem, X_region, *] | simp (disch := omega) only [om, *] | ((first | refine XC_split ?_ ?_ | refine XG_true ?_ ?_ | refine XG_false ?_ ?_ | refine XRg_true ?_ ?_ | refine XRg_false ?_ ?_) <;> intro hc <;> (try simp only [bl] at hc) <;> (try (exfalso; omega))) | refine XD_w [] [] [] (fun _ => none) mixed (by decide +kernel) (sub_none _) ?_ | fail))
  intro bl hbl
  have hin : ∀ n ∈ [(nm.size : Int), tg.size, wt, over.length], -9223372036854775808 ≤ n ∧ n ≤ 9223372036854775807 := by
    simp only [List.mem_cons, List.not_mem_nil, or_false]
    rintro n (rfl | rfl | rfl | rfl)
    · exact ⟨by omega, by omega⟩
    · exact ⟨by omega, by omega⟩
    · exact z3
    · exact ⟨by omega, by omega⟩
  have hnl := numsL_len _ hin
  simp only [List.length_cons, List.length_nil] at hnl
  refine CallK.mono (num_lit x0 [(nm.size : Int), tg.size, wt, over.length] (by simp) hin hbl rfl rfl rfl) ?_
  have hR1 : numsL [(nm.size : Int), tg.size, wt, over.length] ++ (nm ++ tg).data.toList ++ (txL (namedL over) ++ exsL [cond, thn]) = R := by rw [← hR]; simp [artL]
  have hne : numsL [(nm.size : Int), tg.size, wt, over.length] ≠ [] := by simp [numsL]
  clear hR
  rintro r1 g1 x1
  rw [List.nil_append] at x1
  generalize numsL [(nm.size : Int), tg.size, wt, over.length] = N4 at *
  have k1 := x1.sub _ _ ho
  have hnt' : (nm ++ tg).size = nm.size + tg.size := ByteArray.size_append
  have hnt : (nm ++ tg).data.toList.length = nm.size + tg.size := hnt'
  (repeat' (first | simp [go_sem, X_region, *] | simp (disch := omega) only [om, *] | ((first | refine XC_split ?_ ?_ | refine XG_true ?_ ?_ | refine XG_false ?_ ?_ | refine XRg_true ?_ ?_ | refine XRg_false ?_ ?_) <;> intro hc <;> (try simp only [bl] at hc) <;> (try (exfalso; omega))) | refine XD_w [] [] [] (fun _ => none) mixed (by decide +kernel) (sub_none _) ?_ | fail))
  refine (write_ok x1 (nm ++ tg) (.inl hne) (by omega)).mono ?_
  rintro r2 g2 x2
  have k2 := x2.sub _ _ ho
  (repeat' (first | simp [go_sem, X_region, *] | simp (disch := omega) only [om, *] | ((first | refine XC_split ?_ ?_ | refine XG_true ?_ ?_ | refine XG_false ?_ ?_ | refine XRg_true ?_ ?_ | refine XRg_false ?_ ?_) <;> intro hc <;> (try simp only [bl] at hc) <;> (try (exfalso; omega))) | refine XD_w [] [] [] (fun _ => none) mixed (by decide +kernel) (sub_none _) ?_ | refine Pure.call (hnd) ?_ | refine ⟨_, Pure.at (hnd), ?_⟩ | refine ⟨_, hnd, ?_⟩ | refine PureAt.call (hnd) ?_ | fail))
  have hl2 : (N4 ++ (nm ++ tg).data.toList).length ≤ 10000000 := by rw [List.length_append]; omega
  have hne2 : N4 ++ (nm ++ tg).data.toList ≠ [] := by simp [hne]
  generalize N4 ++ (nm ++ tg).data.toList = A0 at *
  have ht := txN_len (namedL over) (named_sz z5)
  have hnn := namedL_len over
  have hzz := named_sz z5
  have hnk : (namedL over).length ≤ 3000000 := by omega
  replace ht : txN (namedL over) ≤ 2400000000000 := by omega
  clear k1 k2 x1 ko x0 hnl hin hnn hnd
  generalize namedL over = NL at *
  refine X_lpF (fun i => i = 7 ∨ (35 ≤ i ∧ i ≤ 45)) (fun n T h' => ∃ (i : Nat) (r : List ByteArray) (acc : List UInt8), n = r.length ∧ i ≤ NL.length ∧ NL.drop i = r ∧ T 35 = I i ∧ Bld H1 h' b5 acc ∧ Hid (acc ++ (txL r ++ exsL [cond, thn]) = R) ∧ acc ≠ [] ∧ acc.length + txN r ≤ 3000000000000) NL.length
    ⟨0, _, A0, rfl, by omega, rfl, by simp [go_sem], x2, ⟨hR1⟩, hne2, by omega⟩ ?_
  clear x2 hR1 hne2 hl2
  rintro J hJ n T g hfr ⟨i, r, acc, rfl, hle, hd, h8, x, hacc, hne, hal⟩
  rcases r with _ | ⟨y, r⟩
  · have hlt := drop_nil hd
    have k := x.sub _ _ ho
    (repeat' (first | simp [go_sem, X_region, *] | simp (disch := omega) only [om, *] | ((first | refine XC_split ?_ ?_ | refine XG_true ?_ ?_ | refine XG_false ?_ ?_ | refine XRg_true ?_ ?_ | refine XRg_false ?_ ?_) <;> intro hc <;> (try simp only [bl] at hc) <;> (try (exfalso; omega))) | refine XD_w [] [] [] (fun _ => none) mixed (by decide +kernel) (sub_none _) ?_ | fail))
    intro bE hbE
    have hE1 : H1 bE = none := sub_none_of x.sub hbE
    refine X_absH (fun g' => ∃ H2, Sub h H2 ∧ Bld H2 g' b5 acc ∧ ∃ o, H2 bE = some o ∧ o.s = 1 ∧ o.n = 2 ∧ o.f 0 0 = encL 5 cNd cond ∧ o.f 1 0 = encL 5 cNd thn) ⟨_, sH1.trans (Sub.upd hE1 (Sub.refl _)), bld_with x hbE, _, upd_same _ _ _, rfl, rfl, rfl, rfl⟩ ?_
    clear k ho sH1 x hbE hE1
    rintro g2 ⟨H2, sH2, x, oE, hoE, q1, q2, q3, q4⟩
    have hes : ∀ e ∈ [cond, thn], ExS e := by
      simp only [List.mem_cons, List.not_mem_nil, or_false]
      rintro e (rfl | rfl)
      · exact z6
      · exact z7
    have hrow : ∀ (i : Nat) (hi : i < [cond, thn].length), oE.f i 0 = encL 5 cNd ([cond, thn][i]) := fun i hi => by
      rcases (show i = 0 ∨ i = 1 by simp only [List.length_cons, List.length_nil] at hi; omega) with rfl | rfl
      · exact q3
      · exact q4
    have hEl : [cond, thn].length = 2 := rfl
    replace hacc : Hid (acc ++ exsL [cond, thn] = R) := ⟨by rw [← hacc.out]; simp [txL]⟩
    simp only [txN] at hal
    clear q3 q4 z6 z7
    generalize [cond, thn] = ES at *
    refine X_lpF (fun i => (9 ≤ i ∧ i ≤ 11) ∨ (52 ≤ i ∧ i ≤ 74)) (fun n T h' => ∃ (i : Nat) (r : List (List Nd)) (acc : List UInt8), n = r.length ∧ i ≤ ES.length ∧ ES.drop i = r ∧ T 52 = I i ∧ Bld H2 h' b5 acc ∧ Hid (acc ++ exsL r = R) ∧ acc ≠ [] ∧ acc.length + 30000000000000 * r.length ≤ 140737488355328) ES.length
      ⟨0, _, acc, rfl, by omega, rfl, by simp [go_sem], x, hacc, hne, by omega⟩ ?_
    clear x hacc hne hal acc
    rintro J2 hJ2 n T2 g3 hfr2 ⟨j, rk, acc, rfl, hlj, hdk, h52, x, hacc, hne, hal⟩
    rcases rk with _ | ⟨e, rk⟩
    · have hltk := drop_nil hdk
      have hj2 : ¬ ((j : Int) < 2) := by omega
      have hacc2 := hacc.out
      simp only [exsL, List.append_nil] at hacc2
      clear hacc
      (repeat' (first | simp [go_sem, X_region, *] | simp (disch := omega) only [om, *] | ((first | refine XC_split ?_ ?_ | refine XG_true ?_ ?_ | refine XG_false ?_ ?_ | refine XRg_true ?_ ?_ | refine XRg_false ?_ ?_) <;> intro hc <;> (try simp only [bl] at hc) <;> (try (exfalso; omega))) | refine XD_w [] [] [] (fun _ => none) mixed (by decide +kernel) (sub_none _) ?_ | fail))
      refine (string_ok x (by omega)).mono ?_
      rintro r1 h1 ⟨rfl, rfl⟩
      rw [hacc2]
      exact Wk.drop _ sH2
    · obtain ⟨hltk, hxk, hdk2⟩ := drop_cons hdk
      have hek := hes e (by rw [← hxk]; exact List.getElem_mem hltk)
      have hsh := shown_ok e hek.1 hek.2
      have hsl := showE_len e hek.2
      have hel := hek.1
      have hj2 : j < 2 := by omega
      have hj3 : (j : Int) < 2 := by omega
      have hro := hrow j hltk
      rw [hxk] at hro
      have hoE' := x.sub _ _ hoE
      simp only [List.length_cons] at hal
      have hsz := bOf_size (showE e)
      have hR0 : Hid (acc ++ (exL e ++ exsL rk) = R) := hacc
      unfold exL at hR0
      have hlz' : (listB ++ bOf (showE e)).size = 4 + (bOf (showE e)).size := ByteArray.size_append
      have hlz : (listB ++ bOf (showE e)).data.toList.length = 4 + (bOf (showE e)).size := hlz'
      generalize bOf (showE e) = BB at *
      have hfit : 4 + BB.size ≤ 9223372036854775807 := by omega
      have hnl := numsL_len _ (in1 (n := BB.size) (by omega))
      simp only [List.length_cons, List.length_nil] at hnl
      have hBB : BB.size ≤ 28000000000000 := by omega
      clear hacc hsz hsl
      (repeat' (first | simp [go_sem, X_region, *] | simp (disch := omega) only [om, *] | ((first | refine XC_split ?_ ?_ | refine XG_true ?_ ?_ | refine XG_false ?_ ?_ | refine XRg_true ?_ ?_ | refine XRg_false ?_ ?_) <;> intro hc <;> (try simp only [bl] at hc) <;> (try (exfalso; omega))) | refine XD_w [] [] [] (fun _ => none) mixed (by decide +kernel) (sub_none _) ?_ | refine Pure.call (hsh) ?_ | refine ⟨_, Pure.at (hsh), ?_⟩ | refine ⟨_, hsh, ?_⟩ | refine PureAt.call (hsh) ?_ | fail))
      intro bl hbl
      refine CallK.mono (num_lit x [(BB.size : Int)] (by simp only [List.length_cons, List.length_nil]; omega) (in1 (by omega)) hbl rfl rfl rfl) ?_
      rintro r1 g1 x1
      (repeat' (first | simp [go_sem, X_region, *] | simp (disch := omega) only [om, *] | ((first | refine XC_split ?_ ?_ | refine XG_true ?_ ?_ | refine XG_false ?_ ?_ | refine XRg_true ?_ ?_ | refine XRg_false ?_ ?_) <;> intro hc <;> (try simp only [bl] at hc) <;> (try (exfalso; omega))) | refine XD_w [] [] [] (fun _ => none) mixed (by decide +kernel) (sub_none _) ?_ | fail))
      refine (write_ok x1 (listB ++ BB) (.inl (by simp [hne])) (by rw [List.length_append]; omega)).mono ?_
      rintro r2 g2 x2
      (repeat' (first | simp [go_sem, X_region, *] | simp (disch := omega) only [om, *] | ((first | refine XC_split ?_ ?_ | refine XG_true ?_ ?_ | refine XG_false ?_ ?_ | refine XRg_true ?_ ?_ | refine XRg_false ?_ ?_) <;> intro hc <;> (try simp only [bl] at hc) <;> (try (exfalso; omega))) | refine XD_w [] [] [] (fun _ => none) mixed (by decide +kernel) (sub_none _) ?_ | fail))
      exact ⟨_, Nat.lt_succ_self _, hJ2.out _ _ _ ⟨(by (repeat (refine fr_upd (by decide) ?_)); exact hfr2), j + 1, rk, _, rfl, by omega, hdk2, by simp [go_sem], x2, ⟨by rw [← hR0.out]; simp⟩, by simp [hne], by simp only [List.length_append]; omega⟩⟩
  · obtain ⟨hlt, hx, hd2⟩ := drop_cons hd
    have hsz := hzz y (by rw [← hx]; exact List.getElem_mem hlt)
    simp only [txN] at hal
    (repeat' (first | simp [go_sem, X_region, *] | simp (disch := omega) only [om, *] | ((first | refine XC_split ?_ ?_ | refine XG_true ?_ ?_ | refine XG_false ?_ ?_ | refine XRg_true ?_ ?_ | refine XRg_false ?_ ?_) <;> intro hc <;> (try simp only [bl] at hc) <;> (try (exfalso; omega))) | refine XD_w [] [] [] (fun _ => none) mixed (by decide +kernel) (sub_none _) ?_ | fail))
    intro bl hbl
    refine CallK.mono (num_lit x [(y.size : Int)] (by simp only [List.length_cons, List.length_nil]; omega) (in1 (by omega)) hbl rfl rfl rfl) ?_
    rintro r1 g1 x1
    have hnl := numsL_len _ (in1 (n := y.size) (by omega))
    simp only [List.length_cons, List.length_nil] at hnl
    have hyl : y.data.toList.length = y.size := Array.length_toList
    (repeat' (first | simp [go_sem, X_region, *] | simp (disch := omega) only [om, *] | ((first | refine XC_split ?_ ?_ | refine XG_true ?_ ?_ | refine XG_false ?_ ?_ | refine XRg_true ?_ ?_ | refine XRg_false ?_ ?_) <;> intro hc <;> (try simp only [bl] at hc) <;> (try (exfalso; omega))) | refine XD_w [] [] [] (fun _ => none) mixed (by decide +kernel) (sub_none _) ?_ | fail))
    refine (write_ok x1 y (.inl (by simp [hne])) (by rw [List.length_append]; omega)).mono ?_
    rintro r2 g2 x2
    (repeat' (first | simp [go_sem, X_region, *] | simp (disch := omega) only [om, *] | ((first | refine XC_split ?_ ?_ | refine XG_true ?_ ?_ | refine XG_false ?_ ?_ | refine XRg_true ?_ ?_ | refine XRg_false ?_ ?_) <;> intro hc <;> (try simp only [bl] at hc) <;> (try (exfalso; omega))) | refine XD_w [] [] [] (fun _ => none) mixed (by decide +kernel) (sub_none _) ?_ | fail))
    exact ⟨_, Nat.lt_succ_self _, hJ.out _ _ _ ⟨(by (repeat (refine fr_upd (by decide) ?_)); exact hfr), i + 1, r, _, rfl, by omega, hd2, by simp [go_sem], x2, ⟨by rw [← hacc.out]; simp [txL]⟩, by simp [hne], by simp only [List.length_append]; omega⟩⟩
end Go.Proofs.YtmalhikcdideoaaGreatDoor

set_option linter.unusedVariables false
set_option linter.unusedSimpArgs false
namespace Go.Proofs.YtmalhikcdideoaaGreatDoor
open Go Sl
attribute [local irreducible] XRange LpQ XR XRo XRg XRQ putQ XFv XL XW2 wQ putW X XO XOp XH XHo XW SeqQ BlkQ XOQ XHQ NrmQ XC XM XG XHM XHG XD CallK
open Go.RowKit
structure AtS (x : Atx) : Prop where
  nm : x.name.size ≤ 1048576
  k : i64B x.kind
  l : i64B x.low
  u : i64B x.high
  bk : i64B x.bk
  bn : i64B x.bn
structure TbS (t : Tb) : Prop where
  nm : t.name.size ≤ 1048576
  st : t.steps.length ≤ 1048576
  fr : i64B t.fr
  to : i64B t.to
  s : ∀ x ∈ t.steps, i64B x.1 ∧ i64B x.2
structure ActS (a : Acx) : Prop where
  nm : a.name.size ≤ 1048576
  lv : i64B a.level
  dt : i64B a.date
  at_ : a.attrs.length ≤ 1048576 ∧ ∀ x ∈ a.attrs, AtS x
  tb : a.tables.length ≤ 1048576 ∧ ∀ x ∈ a.tables, TbS x
  ar : a.arts.length ≤ 1048576 ∧ ∀ x ∈ a.arts, ArS x
def BodyS (b : List Acx) : Prop := b.length ≤ 1048576 ∧ ∀ a ∈ b, ActS a
def attL (x : Atx) : List UInt8 := txL [x.name, boolB x.inp] ++ numsL [x.kind, x.low, x.high, x.bk, x.bn]
def actL (a : Acx) : List UInt8 := txL [a.name] ++ (numsL [a.level, a.date, (a.attrs.length : Int), a.tables.length, a.arts.length] ++ (a.attrs.flatMap attL ++ (a.tables.flatMap (fun t => txL [bOf (wholeL t)]) ++ a.arts.flatMap fun x => txL [bOf (artL x)])))
def whoseL (b : List Acx) : List UInt8 := numsL [(b.length : Int)] ++ b.flatMap actL
theorem txN_txL : ∀ l : List ByteArray, txN l ≤ (txL l).length + 22 * l.length
  | [] => by simp [txN]
  | s :: r => by
    have h := txN_txL r
    have hs : s.data.toList.length = s.size := Array.length_toList
    simp only [txN, txL, List.length_append, List.length_cons]
    omega
theorem rtext_le {h0 h : Hp} {b : Nat} {s R q : List UInt8} (x : Bld h0 h b s) (l : List ByteArray) (hR : s ++ (txL l ++ q) = R) (hl : l.length ≤ 1000) (hRl : R.length ≤ 70368744177664) :
    CallK Tryz.prog h 61 [encL 1 cS l, ptrV b] fun r h' => Bld h0 h' b (s ++ txL l) := by
  refine rtext_ok x l ?_ (by omega)
  have := congrArg List.length hR
  have := txN_txL l
  simp only [List.length_append] at *
  omega
theorem text_lit {h0 h : Hp} {b k : Nat} {s R q : List UInt8} {ob : Ob} (x : Bld h0 h b s) (l : List ByteArray) (hR : s ++ (txL l ++ q) = R) (hl : l.length ≤ 1000) (hRl : R.length ≤ 70368744177664) (hk : h k = none) (h1 : ob.s = 1) (h2 : ob.n = l.length) (hf : ob.f = fun i j => ((l.map fun x (_ : Nat) => S x)[i]?.getD fun _ => .any) j) :
    CallK Tryz.prog (upd h k (some ob)) 61 [.row k 1 0 l.length, ptrV b] fun r h' => Bld h0 h' b (s ++ txL l) := by
  refine CallK.row1 hk h1 h2 (by omega) (fun i hi j hj => ?_) (rtext_le x l hR hl hRl)
  obtain rfl : j = 0 := by omega
  rw [hf]
  simp [hi, cS, cellsL]
/-- A slice that is told in other words. -/
theorem CallK.sl1 {h : Hp} {f : FuncId} {s n : Nat} {g g' : Nat → Nat → AV} {x : Value} {K : AV → Hp → Prop} (hf : ∀ i, i < n → ∀ j, j < s → g i j = g' i j) (c : CallK Tryz.prog h f [.sl s n g', .v x] K) : CallK Tryz.prog h f [.sl s n g, .v x] K := by
  unfold CallK at c ⊢
  intro w vals hh ha
  refine c w vals hh ⟨ha.1, fun i a hi => ?_⟩
  match i, hi with
  | 0, hi =>
    obtain ⟨u, e, o, cap, hu, h1, h2, h3⟩ := ha.2 0 _ rfl
    cases hi
    refine ⟨u, e, o, cap, hu, h1, h2, fun h4 => ?_⟩
    obtain ⟨b, off, q1, q2, q3, q4⟩ := h3 h4
    refine ⟨b, off, q1, q2, q3, fun i hi j hj => ?_⟩
    rw [← hf i hi j hj]
    exact q4 i hi j hj
  | 1, hi =>
    obtain ⟨u, e, r⟩ := ha.2 1 _ rfl
    cases hi
    exact ⟨u, e, r⟩
theorem num_le {h0 h : Hp} {b k : Nat} {s R q : List UInt8} {ob : Ob} (x : Bld h0 h b s) (l : List Int) (hR : s ++ (numsL l ++ q) = R) (hl : l.length ≤ 1000) (hRl : R.length ≤ 70368744177664) (hi : ∀ n ∈ l, -9223372036854775808 ≤ n ∧ n ≤ 9223372036854775807) (hk : h k = none) (h1 : ob.s = 1) (h2 : ob.n = l.length) (hf : ob.f = fun i j => ((l.map fun x (_ : Nat) => I x)[i]?.getD fun _ => .any) j) :
    CallK Tryz.prog (upd h k (some ob)) 60 [ptrV b, .row k 1 0 l.length] fun r h' => Bld h0 h' b (s ++ numsL l) := by
  refine num_lit x l ?_ hi hk h1 h2 hf
  have := congrArg List.length hR
  simp only [List.length_append] at *
  omega
theorem in5 {a b c d e : Int} (h1 : i64B a) (h2 : i64B b) (h3 : i64B c) (h4 : i64B d) (h5 : i64B e) : ∀ m ∈ [a, b, c, d, e], -9223372036854775808 ≤ m ∧ m ≤ 9223372036854775807 := by
  simp only [List.mem_cons, List.not_mem_nil, or_false]
  rintro m (rfl | rfl | rfl | rfl | rfl)
  · exact h1
  · exact h2
  · exact h3
  · exact h4
  · exact h5
set_option maxHeartbeats 8000000 in
theorem rwhose_ok (b : List Acx) (hb : BodyS b) (hRl : (whoseL b).length ≤ 70368744177664) : Pure Tryz.prog 11 [encL 6 cAcx b] (S (bOf (whoseL b))) := by
  obtain ⟨R, hR⟩ : ∃ R, whoseL b = R := ⟨_, rfl⟩
  rw [hR] at hRl ⊢
  obtain ⟨hbl, hba⟩ := hb
  intro h; refine CallK.lens fun hlen => ?_; have hlen := (hlen _ (by simp only [List.mem_cons, true_or, or_true] : (encL 6 cAcx b) ∈ _)).encL; refine callK_body Tryz.func11 rfl (by rw [nt11]; simp) ?_; rw [nt11, rs11]
  (repeat' (first | simp [go_sem, X_region, *] | simp (disch := omega) only [om, *] | ((first | refine XC_split ?_ ?_ | refine XG_true ?_ ?_ | refine XG_false ?_ ?_ | refine XRg_true ?_ ?_ | refine XRg_false ?_ ?_) <;> intro hc <;> (try simp only [bl] at hc) <;> (try (exfalso; omega))) | refine XD_w [] [] [] (fun _ => none) mixed (by decide +kernel) (sub_none _) ?_ | fail))
  intro b3 hb3 bl n1 n2 hbl1
  refine CallK.mono (num_lit (Bld.fresh hb3) [(b.length : Int)] (by simp) (in1 (by omega)) (by rw [upd_ne _ _ n1]; exact hbl1) rfl rfl rfl) ?_
  rintro r0 g0 x0
  rw [List.nil_append] at x0
  (repeat' (first | simp [go_sem, X_region, *] | simp (disch := omega) only [om, *] | ((first | refine XC_split ?_ ?_ | refine XG_true ?_ ?_ | refine XG_false ?_ ?_ | refine XRg_true ?_ ?_ | refine XRg_false ?_ ?_) <;> intro hc <;> (try simp only [bl] at hc) <;> (try (exfalso; omega))) | refine XD_w [] [] [] (fun _ => none) mixed (by decide +kernel) (sub_none _) ?_ | fail))
  refine X_lpF (fun i => i = 6 ∨ i = 8 ∨ i = 10 ∨ i = 12 ∨ (20 ≤ i ∧ i ≤ 100)) (fun n T g => ∃ (i : Nat) (r : List Acx) (acc : List UInt8), n = r.length ∧ i ≤ b.length ∧ b.drop i = r ∧ Hid (acc ++ r.flatMap actL = R) ∧ T 20 = I i ∧ Bld h g b3 acc) b.length
    ⟨0, b, _, rfl, by omega, rfl, ⟨hR⟩, by simp [go_sem], x0⟩ ?_
  clear x0 hR
  rintro J hJ n T g hfr ⟨i, r, acc, rfl, hi, hd, hacc, t20, x⟩
  rcases r with _ | ⟨y, r⟩
  · have hlt := drop_nil hd
    have hacc2 := hacc.out
    simp only [List.flatMap_nil, List.append_nil] at hacc2
    clear hacc
    (repeat' (first | simp [go_sem, X_region, *] | simp (disch := omega) only [om, *] | ((first | refine XC_split ?_ ?_ | refine XG_true ?_ ?_ | refine XG_false ?_ ?_ | refine XRg_true ?_ ?_ | refine XRg_false ?_ ?_) <;> intro hc <;> (try simp only [bl] at hc) <;> (try (exfalso; omega))) | refine XD_w [] [] [] (fun _ => none) mixed (by decide +kernel) (sub_none _) ?_ | fail))
    refine (string_ok x (by rw [hacc2]; omega)).mono ?_
    rintro r1 h1 ⟨rfl, rfl⟩
    rw [hacc2]
    exact Wk.refl _ _
  · obtain ⟨hlt, hx, hd2⟩ := drop_cons hd
    obtain ⟨y1, y2, y3, ⟨y4, y4'⟩, ⟨y5, y5'⟩, ⟨y6, y6'⟩⟩ := hba y (by rw [← hx]; exact List.getElem_mem hlt)
    generalize hC : Code.seq (Code.region 7 _ _) _ = C
    replace hC : Hid (_ = C) := ⟨hC⟩
    (repeat' (first | simp [go_sem, X_region, *] | simp (disch := omega) only [om, *] | ((first | refine XC_split ?_ ?_ | refine XG_true ?_ ?_ | refine XG_false ?_ ?_ | refine XRg_true ?_ ?_ | refine XRg_false ?_ ?_) <;> intro hc <;> (try simp only [bl] at hc) <;> (try (exfalso; omega))) | refine XD_w [] [] [] (fun _ => none) mixed (by decide +kernel) (sub_none _) ?_ | fail))
    intro b6 hb6
    (repeat' (first | simp [go_sem, X_region, *] | simp (disch := omega) only [om, *] | ((first | refine XC_split ?_ ?_ | refine XG_true ?_ ?_ | refine XG_false ?_ ?_ | refine XRg_true ?_ ?_ | refine XRg_false ?_ ?_) <;> intro hc <;> (try simp only [bl] at hc) <;> (try (exfalso; omega))) | refine XD_w [] [] [] (fun _ => none) mixed (by decide +kernel) (sub_none _) ?_ | fail))
    have h6 : h b6 = none := sub_none_of x.sub hb6
    refine X_absH (fun g' => ∃ HB, Sub h HB ∧ Bld HB g' b3 acc ∧ ∃ o, HB b6 = some o ∧ o.s = 6 ∧ o.n = 1 ∧ o.f 0 0 = S y.name ∧ o.f 0 1 = I y.level ∧ o.f 0 2 = I y.date ∧ o.f 0 3 = encL 7 cAtx y.attrs ∧ o.f 0 4 = encL 5 cTb y.tables ∧ o.f 0 5 = encL 6 cArx y.arts)
      ⟨_, Sub.upd h6 (Sub.refl _), bld_with x hb6, _, upd_same _ _ _, rfl, rfl, rfl, rfl, rfl, rfl, rfl, rfl⟩ ?_
    clear x hb6 h6
    rintro g1 ⟨HB, sHB, x, o, ho, p1, p2, p3, p4, p5, p6, p7, p8⟩
    rw [← hC.out]
    clear hC C
    have k := x.sub _ _ ho
    have q0 : acc ++ (txL [y.name] ++ (numsL [y.level, y.date, (y.attrs.length : Int), y.tables.length, y.arts.length] ++ (y.attrs.flatMap attL ++ (y.tables.flatMap (fun t => txL [bOf (wholeL t)]) ++ (y.arts.flatMap (fun x => txL [bOf (artL x)]) ++ r.flatMap actL))))) = R := by
      rw [← hacc.out]
      simp [actL]
    replace q0 : Hid (_ = R) := ⟨q0⟩
    clear hacc
    (repeat' (first | simp [go_sem, X_region, *] | simp (disch := omega) only [om, *] | ((first | refine XC_split ?_ ?_ | refine XG_true ?_ ?_ | refine XG_false ?_ ?_ | refine XRg_true ?_ ?_ | refine XRg_false ?_ ?_) <;> intro hc <;> (try simp only [bl] at hc) <;> (try (exfalso; omega))) | refine XD_w [] [] [] (fun _ => none) mixed (by decide +kernel) (sub_none _) ?_ | fail))
    intro bt hbt
    refine CallK.mono (text_lit x [y.name] q0.out (by simp) hRl hbt rfl rfl rfl) ?_
    rintro r1 g2 x1
    clear k
    have k := x1.sub _ _ ho
    replace q0 := q0.out
    rw [← List.append_assoc] at q0
    replace q0 : Hid (_ = R) := ⟨q0⟩
    (repeat' (first | simp [go_sem, X_region, *] | simp (disch := omega) only [om, *] | ((first | refine XC_split ?_ ?_ | refine XG_true ?_ ?_ | refine XG_false ?_ ?_ | refine XRg_true ?_ ?_ | refine XRg_false ?_ ?_) <;> intro hc <;> (try simp only [bl] at hc) <;> (try (exfalso; omega))) | refine XD_w [] [] [] (fun _ => none) mixed (by decide +kernel) (sub_none _) ?_ | fail))
    intro bt hbt
    refine CallK.mono (num_le x1 [y.level, y.date, (y.attrs.length : Int), y.tables.length, y.arts.length] q0.out (by simp) hRl (in5 y2 y3 ⟨by omega, by omega⟩ ⟨by omega, by omega⟩ ⟨by omega, by omega⟩) hbt rfl rfl rfl) ?_
    rintro r2 g3 x2
    clear k x1 x
    have k := x2.sub _ _ ho
    replace q0 := q0.out
    rw [← List.append_assoc] at q0
    replace q0 : Hid (_ = R) := ⟨q0⟩
    (repeat' (first | simp [go_sem, X_region, *] | simp (disch := omega) only [om, *] | ((first | refine XC_split ?_ ?_ | refine XG_true ?_ ?_ | refine XG_false ?_ ?_ | refine XRg_true ?_ ?_ | refine XRg_false ?_ ?_) <;> intro hc <;> (try simp only [bl] at hc) <;> (try (exfalso; omega))) | refine XD_w [] [] [] (fun _ => none) mixed (by decide +kernel) (sub_none _) ?_ | fail))
    refine X_lpF (fun i => i = 8 ∨ (47 ≤ i ∧ i ≤ 73)) (fun n T' g' => ∃ (j : Nat) (rk : List Atx) (acc : List UInt8), n = rk.length ∧ j ≤ y.attrs.length ∧ y.attrs.drop j = rk ∧ Hid (acc ++ (rk.flatMap attL ++ (y.tables.flatMap (fun t => txL [bOf (wholeL t)]) ++ (y.arts.flatMap (fun x => txL [bOf (artL x)]) ++ r.flatMap actL))) = R) ∧ T' 47 = I j ∧ Bld HB g' b3 acc) y.attrs.length
      ⟨0, _, _, rfl, by omega, rfl, ⟨q0.out⟩, by simp [go_sem], x2⟩ ?_
    clear q0 x2 k
    rintro J2 hJ2 n2' T2 g4 hfr2 ⟨j, rk, acc, rfl, hj, hdk, hacc, t47, x⟩
    have k := x.sub _ _ ho
    rcases rk with _ | ⟨z, rk⟩
    · have hltk := drop_nil hdk
      replace hacc : Hid (acc ++ (y.tables.flatMap (fun t => txL [bOf (wholeL t)]) ++ (y.arts.flatMap (fun x => txL [bOf (artL x)]) ++ r.flatMap actL)) = R) := hacc
      (repeat' (first | simp [go_sem, X_region, *] | simp (disch := omega) only [om, *] | ((first | refine XC_split ?_ ?_ | refine XG_true ?_ ?_ | refine XG_false ?_ ?_ | refine XRg_true ?_ ?_ | refine XRg_false ?_ ?_) <;> intro hc <;> (try simp only [bl] at hc) <;> (try (exfalso; omega))) | refine XD_w [] [] [] (fun _ => none) mixed (by decide +kernel) (sub_none _) ?_ | fail))
      refine X_lpF (fun i => i = 10 ∨ (77 ≤ i ∧ i ≤ 86)) (fun n T' g' => ∃ (j : Nat) (rk : List Tb) (acc : List UInt8), n = rk.length ∧ j ≤ y.tables.length ∧ y.tables.drop j = rk ∧ Hid (acc ++ (rk.flatMap (fun t => txL [bOf (wholeL t)]) ++ (y.arts.flatMap (fun x => txL [bOf (artL x)]) ++ r.flatMap actL)) = R) ∧ T' 77 = I j ∧ Bld HB g' b3 acc) y.tables.length
        ⟨0, _, _, rfl, by omega, rfl, hacc, by simp [go_sem], x⟩ ?_
      clear hacc x k
      rintro J3 hJ3 n3' T3 g5 hfr3 ⟨j3, rk, acc, rfl, hj3, hdk3, hacc, t77, x⟩
      have k := x.sub _ _ ho
      rcases rk with _ | ⟨z, rk⟩
      · have hltk3 := drop_nil hdk3
        replace hacc : Hid (acc ++ (y.arts.flatMap (fun x => txL [bOf (artL x)]) ++ r.flatMap actL) = R) := hacc
        (repeat' (first | simp [go_sem, X_region, *] | simp (disch := omega) only [om, *] | ((first | refine XC_split ?_ ?_ | refine XG_true ?_ ?_ | refine XG_false ?_ ?_ | refine XRg_true ?_ ?_ | refine XRg_false ?_ ?_) <;> intro hc <;> (try simp only [bl] at hc) <;> (try (exfalso; omega))) | refine XD_w [] [] [] (fun _ => none) mixed (by decide +kernel) (sub_none _) ?_ | fail))
        refine X_lpF (fun i => i = 12 ∨ (90 ≤ i ∧ i ≤ 99)) (fun n T' g' => ∃ (j : Nat) (rk : List Arx) (acc : List UInt8), n = rk.length ∧ j ≤ y.arts.length ∧ y.arts.drop j = rk ∧ Hid (acc ++ (rk.flatMap (fun x => txL [bOf (artL x)]) ++ r.flatMap actL) = R) ∧ T' 90 = I j ∧ Bld HB g' b3 acc) y.arts.length
          ⟨0, _, _, rfl, by omega, rfl, hacc, by simp [go_sem], x⟩ ?_
        clear hacc x k
        rintro J4 hJ4 n4' T4 g6 hfr4 ⟨j4, rk, acc, rfl, hj4, hdk4, hacc, t90, x⟩
        have k := x.sub _ _ ho
        rcases rk with _ | ⟨z, rk⟩
        · have hltk4 := drop_nil hdk4
          replace hacc : Hid (acc ++ r.flatMap actL = R) := hacc
          (repeat' (first | simp [go_sem, X_region, *] | simp (disch := omega) only [om, *] | ((first | refine XC_split ?_ ?_ | refine XG_true ?_ ?_ | refine XG_false ?_ ?_ | refine XRg_true ?_ ?_ | refine XRg_false ?_ ?_) <;> intro hc <;> (try simp only [bl] at hc) <;> (try (exfalso; omega))) | refine XD_w [] [] [] (fun _ => none) mixed (by decide +kernel) (sub_none _) ?_ | fail))
          refine ⟨_, Nat.lt_succ_self _, hJ.out _ _ _ ⟨?_, i + 1, r, acc, rfl, by omega, hd2, hacc, by simp [go_sem, hfr2, hfr3, hfr4], x.weaken sHB⟩⟩
          repeat (refine fr_upd (by decide) ?_)
          refine fr_in (by intro i; omega) hfr4 ?_
          repeat (refine fr_upd (by decide) ?_)
          refine fr_in (by intro i; omega) hfr3 ?_
          repeat (refine fr_upd (by decide) ?_)
          refine fr_in (by intro i; omega) hfr2 ?_
          repeat (refine fr_upd (by decide) ?_)
          exact hfr
        · obtain ⟨hltk4, hxk, hdk42⟩ := drop_cons hdk4
          have hwh := awhole_ok z (y6' z (by rw [← hxk]; exact List.getElem_mem hltk4))
          have q0 : acc ++ (txL [bOf (artL z)] ++ (rk.flatMap (fun x => txL [bOf (artL x)]) ++ r.flatMap actL)) = R := by
            rw [← hacc.out]
            simp
          replace q0 : Hid (_ = R) := ⟨q0⟩
          clear hacc
          generalize bOf (artL z) = AA at *
          (repeat' (first | simp [go_sem, X_region, *] | simp (disch := omega) only [om, *] | ((first | refine XC_split ?_ ?_ | refine XG_true ?_ ?_ | refine XG_false ?_ ?_ | refine XRg_true ?_ ?_ | refine XRg_false ?_ ?_) <;> intro hc <;> (try simp only [bl] at hc) <;> (try (exfalso; omega))) | refine XD_w [] [] [] (fun _ => none) mixed (by decide +kernel) (sub_none _) ?_ | fail))
          intro b12 hb12
          have n12 := ne_free hb12 k
          have x' := fun ob => x.alloc (ob := ob) hb12
          clear x
          (repeat' (first | simp [go_sem, X_region, *] | simp (disch := omega) only [om, *] | ((first | refine XC_split ?_ ?_ | refine XG_true ?_ ?_ | refine XG_false ?_ ?_ | refine XRg_true ?_ ?_ | refine XRg_false ?_ ?_) <;> intro hc <;> (try simp only [bl] at hc) <;> (try (exfalso; omega))) | refine XD_w [] [] [] (fun _ => none) mixed (by decide +kernel) (sub_none _) ?_ | refine Pure.call (hwh) ?_ | refine ⟨_, Pure.at (hwh), ?_⟩ | refine ⟨_, hwh, ?_⟩ | refine PureAt.call (hwh) ?_ | fail))
          intro bt m1 m2 hbt
          refine CallK.mono (text_lit (x' _) [AA] q0.out (by simp) hRl (by rw [upd_ne _ _ m1]; exact hbt) rfl rfl rfl) ?_
          rintro r1 g7 x1
          replace q0 := q0.out
          rw [← List.append_assoc] at q0
          replace q0 : Hid (_ = R) := ⟨q0⟩
          (repeat' (first | simp [go_sem, X_region, *] | simp (disch := omega) only [om, *] | ((first | refine XC_split ?_ ?_ | refine XG_true ?_ ?_ | refine XG_false ?_ ?_ | refine XRg_true ?_ ?_ | refine XRg_false ?_ ?_) <;> intro hc <;> (try simp only [bl] at hc) <;> (try (exfalso; omega))) | refine XD_w [] [] [] (fun _ => none) mixed (by decide +kernel) (sub_none _) ?_ | fail))
          exact ⟨_, Nat.lt_succ_self _, hJ4.out _ _ _ ⟨(by (repeat (refine fr_upd (by decide) ?_)); exact hfr4), j4 + 1, rk, _, rfl, by omega, hdk42, q0, by simp [go_sem], x1⟩⟩
      · obtain ⟨hltk3, hxk, hdk32⟩ := drop_cons hdk3
        obtain ⟨v1, v2, v3, v4, v5⟩ := y5' z (by rw [← hxk]; exact List.getElem_mem hltk3)
        have hwh := whole_ok z (by omega) (by omega) v3 v4 v5
        have q0 : acc ++ (txL [bOf (wholeL z)] ++ (rk.flatMap (fun t => txL [bOf (wholeL t)]) ++ (y.arts.flatMap (fun x => txL [bOf (artL x)]) ++ r.flatMap actL))) = R := by
          rw [← hacc.out]
          simp
        replace q0 : Hid (_ = R) := ⟨q0⟩
        clear hacc
        generalize bOf (wholeL z) = AA at *
        (repeat' (first | simp [go_sem, X_region, *] | simp (disch := omega) only [om, *] | ((first | refine XC_split ?_ ?_ | refine XG_true ?_ ?_ | refine XG_false ?_ ?_ | refine XRg_true ?_ ?_ | refine XRg_false ?_ ?_) <;> intro hc <;> (try simp only [bl] at hc) <;> (try (exfalso; omega))) | refine XD_w [] [] [] (fun _ => none) mixed (by decide +kernel) (sub_none _) ?_ | fail))
        intro b10 hb10
        have n10 := ne_free hb10 k
        have x' := fun ob => x.alloc (ob := ob) hb10
        clear x
        (repeat' (first | simp [go_sem, X_region, *] | simp (disch := omega) only [om, *] | ((first | refine XC_split ?_ ?_ | refine XG_true ?_ ?_ | refine XG_false ?_ ?_ | refine XRg_true ?_ ?_ | refine XRg_false ?_ ?_) <;> intro hc <;> (try simp only [bl] at hc) <;> (try (exfalso; omega))) | refine XD_w [] [] [] (fun _ => none) mixed (by decide +kernel) (sub_none _) ?_ | refine Pure.call (hwh) ?_ | refine ⟨_, Pure.at (hwh), ?_⟩ | refine ⟨_, hwh, ?_⟩ | refine PureAt.call (hwh) ?_ | fail))
        intro bt m1 m2 hbt
        refine CallK.mono (text_lit (x' _) [AA] q0.out (by simp) hRl (by rw [upd_ne _ _ m1]; exact hbt) rfl rfl rfl) ?_
        rintro r1 g7 x1
        replace q0 := q0.out
        rw [← List.append_assoc] at q0
        replace q0 : Hid (_ = R) := ⟨q0⟩
        (repeat' (first | simp [go_sem, X_region, *] | simp (disch := omega) only [om, *] | ((first | refine XC_split ?_ ?_ | refine XG_true ?_ ?_ | refine XG_false ?_ ?_ | refine XRg_true ?_ ?_ | refine XRg_false ?_ ?_) <;> intro hc <;> (try simp only [bl] at hc) <;> (try (exfalso; omega))) | refine XD_w [] [] [] (fun _ => none) mixed (by decide +kernel) (sub_none _) ?_ | fail))
        exact ⟨_, Nat.lt_succ_self _, hJ3.out _ _ _ ⟨(by (repeat (refine fr_upd (by decide) ?_)); exact hfr3), j3 + 1, rk, _, rfl, by omega, hdk32, q0, by simp [go_sem], x1⟩⟩
    · obtain ⟨hltk, hxk, hdk2⟩ := drop_cons hdk
      obtain ⟨z1, z2, z3, z4, z5, z6⟩ := y4' z (by rw [← hxk]; exact List.getElem_mem hltk)
      have hfb := fbool_ok z.inp
      have q0 : acc ++ (txL [z.name, boolB z.inp] ++ (numsL [z.kind, z.low, z.high, z.bk, z.bn] ++ (rk.flatMap attL ++ (y.tables.flatMap (fun t => txL [bOf (wholeL t)]) ++ (y.arts.flatMap (fun x => txL [bOf (artL x)]) ++ r.flatMap actL))))) = R := by
        rw [← hacc.out]
        simp [attL]
      replace q0 : Hid (_ = R) := ⟨q0⟩
      clear hacc
      generalize hC : Code.seq (Code.region 12 _ _) _ = C
      replace hC : Hid (_ = C) := ⟨hC⟩
      (repeat' (first | simp [go_sem, X_region, *] | simp (disch := omega) only [om, *] | ((first | refine XC_split ?_ ?_ | refine XG_true ?_ ?_ | refine XG_false ?_ ?_ | refine XRg_true ?_ ?_ | refine XRg_false ?_ ?_) <;> intro hc <;> (try simp only [bl] at hc) <;> (try (exfalso; omega))) | refine XD_w [] [] [] (fun _ => none) mixed (by decide +kernel) (sub_none _) ?_ | fail))
      intro b8 hb8
      (repeat' (first | simp [go_sem, X_region, *] | simp (disch := omega) only [om, *] | ((first | refine XC_split ?_ ?_ | refine XG_true ?_ ?_ | refine XG_false ?_ ?_ | refine XRg_true ?_ ?_ | refine XRg_false ?_ ?_) <;> intro hc <;> (try simp only [bl] at hc) <;> (try (exfalso; omega))) | refine XD_w [] [] [] (fun _ => none) mixed (by decide +kernel) (sub_none _) ?_ | fail))
      have h8 : HB b8 = none := sub_none_of x.sub hb8
      refine X_absH (fun g' => ∃ HA, Sub HB HA ∧ Bld HA g' b3 acc ∧ ∃ o, HA b8 = some o ∧ o.s = 7 ∧ o.n = 1 ∧ o.f 0 0 = S z.name ∧ o.f 0 1 = I z.kind ∧ o.f 0 2 = B z.inp ∧ o.f 0 3 = I z.low ∧ o.f 0 4 = I z.high ∧ o.f 0 5 = I z.bk ∧ o.f 0 6 = I z.bn)
        ⟨_, Sub.upd h8 (Sub.refl _), bld_with x hb8, _, upd_same _ _ _, rfl, rfl, rfl, rfl, rfl, rfl, rfl, rfl, rfl⟩ ?_
      clear x hb8 h8 k
      rintro g5 ⟨HA, sHA, x, oa, hoa, w1, w2, w3, w4, w5, w6, w7, w8, w9⟩
      rw [← hC.out]
      clear hC C
      have k := x.sub _ _ hoa
      (repeat' (first | simp [go_sem, X_region, *] | simp (disch := omega) only [om, *] | ((first | refine XC_split ?_ ?_ | refine XG_true ?_ ?_ | refine XG_false ?_ ?_ | refine XRg_true ?_ ?_ | refine XRg_false ?_ ?_) <;> intro hc <;> (try simp only [bl] at hc) <;> (try (exfalso; omega))) | fail))
      refine XD_w [] [2, 4] [7] HA mixed (by decide +kernel) x.sub ?_
      (repeat' (first | simp [go_sem, X_region, *] | simp (disch := omega) only [om, *] | ((first | refine XC_split ?_ ?_ | refine XG_true ?_ ?_ | refine XG_false ?_ ?_ | refine XRg_true ?_ ?_ | refine XRg_false ?_ ?_) <;> intro hc <;> (try simp only [bl] at hc) <;> (try (exfalso; omega))) | refine XD_w [] [] [] (fun _ => none) mixed (by decide +kernel) (sub_none _) ?_ | refine Pure.call (hfb) ?_ | refine ⟨_, Pure.at (hfb), ?_⟩ | refine ⟨_, hfb, ?_⟩ | refine PureAt.call (hfb) ?_ | fail))
      refine CallK.mono (CallK.sl1 (g' := cellsL cS [z.name, boolB z.inp]) (fun i hi j hj => by
        obtain rfl : j = 0 := by omega
        rcases (show i = 0 ∨ i = 1 by omega) with rfl | rfl
        · rfl
        · rfl) (rtext_le x [z.name, boolB z.inp] q0.out (by simp) hRl)) ?_
      rintro r3 g6 x3
      replace q0 := q0.out
      rw [← List.append_assoc] at q0
      replace q0 : Hid (_ = R) := ⟨q0⟩
      clear k
      have k := x3.sub _ _ hoa
      unfold putW wQ
      refine ⟨fun _ => x3.sub, ?_⟩
      (repeat' (first | simp [go_sem, X_region, *] | simp (disch := omega) only [om, *] | ((first | refine XC_split ?_ ?_ | refine XG_true ?_ ?_ | refine XG_false ?_ ?_ | refine XRg_true ?_ ?_ | refine XRg_false ?_ ?_) <;> intro hc <;> (try simp only [bl] at hc) <;> (try (exfalso; omega))) | refine XD_w [] [] [] (fun _ => none) mixed (by decide +kernel) (sub_none _) ?_ | fail))
      intro bn hbn
      refine CallK.mono (num_le x3 [z.kind, z.low, z.high, z.bk, z.bn] q0.out (by simp) hRl (in5 z2 z3 z4 z5 z6) hbn rfl rfl rfl) ?_
      rintro r4 g7 x4
      replace q0 := q0.out
      rw [← List.append_assoc] at q0
      replace q0 : Hid (_ = R) := ⟨q0⟩
      clear k x3 x
      (repeat' (first | simp [go_sem, X_region, *] | simp (disch := omega) only [om, *] | ((first | refine XC_split ?_ ?_ | refine XG_true ?_ ?_ | refine XG_false ?_ ?_ | refine XRg_true ?_ ?_ | refine XRg_false ?_ ?_) <;> intro hc <;> (try simp only [bl] at hc) <;> (try (exfalso; omega))) | refine XD_w [] [] [] (fun _ => none) mixed (by decide +kernel) (sub_none _) ?_ | fail))
      exact ⟨_, Nat.lt_succ_self _, hJ2.out _ _ _ ⟨(by (repeat (refine fr_upd (by decide) ?_)); exact hfr2), j + 1, rk, _, rfl, by omega, hdk2, q0, by simp [go_sem], x4.weaken sHA⟩⟩
end Go.Proofs.YtmalhikcdideoaaGreatDoor

set_option linter.unusedVariables false
set_option linter.unusedSimpArgs false
namespace Go.Proofs.YtmalhikcdideoaaGreatDoor
open Go Sl
attribute [local irreducible] XRange LpQ XR XRo XRg XRQ putQ XFv XL XW2 wQ putW X XO XOp XH XHo XW SeqQ BlkQ XOQ XHQ NrmQ XC XM XG XHM XHG XD CallK
open Go.RowKit
/-- A call that is handed an argument first whose parts are the call's own, and forgets them. -/
theorem CallK.wk {P : Program} {h h' : Hp} {f : FuncId} {a a' : AV} {l : List AV} {K : AV → Hp → Prop} (hw : Wk h' a h a') (hl : ∀ x ∈ l, ∃ v, x = .v v) (c : CallK P h f (a' :: l) K) : CallK P h' f (a :: l) K := by
  unfold CallK at c ⊢
  intro w vals hh ha
  obtain ⟨u, e, r⟩ := ha.2 0 _ rfl
  obtain ⟨st, rh, r'⟩ := hw.out w u hh r
  refine (c w vals rh ⟨ha.1, fun i x hi => ?_⟩).mono ?_
  · match i, hi with
    | 0, hi =>
      cases hi
      exact ⟨u, e, r'⟩
    | i + 1, hi =>
      obtain ⟨u2, e2, r2⟩ := ha.2 (i + 1) x hi
      obtain ⟨v, rfl⟩ := hl x (List.mem_of_getElem? hi)
      exact ⟨u2, e2, r2⟩
  · rintro e w' ⟨u, r, h', k1, k2, k3, k4, k5, k6⟩
    exact ⟨u, r, h', k1, k2, k3, k4, k5, st.trans k6⟩
def begX : List Acx := [⟨⟨#[97]⟩, 0, 0, [⟨⟨#[120]⟩, 5, false, 0, 0, 0, 0⟩], [], []⟩]
theorem begX_ok : BodyOk begX := ⟨by decide, fun x hx => by
  simp only [begX, List.mem_cons, List.not_mem_nil, or_false] at hx
  subst hx
  exact ⟨by decide, ⟨by decide, by simp⟩, ⟨by decide, by simp⟩⟩⟩
def begY : List Acx := [⟨⟨#[97]⟩, 0, 0, [⟨⟨#[121]⟩, 5, false, 0, 0, 0, 0⟩], [], []⟩]
theorem begY_eq : renF nameF begX 1 ⟨#[120]⟩ ⟨#[121]⟩ = (begY, 0) := by
  have hn : nameF ⟨#[121]⟩ = true := by decide +kernel
  have h1 : hasB (oldN 1 begX) ⟨#[120]⟩ = true := by decide +kernel
  have h2 : hasB (oldN 1 begX) ⟨#[121]⟩ = false := by decide +kernel
  unfold renF
  rw [if_neg (by decide), if_neg (by rw [h1]; simp), if_neg (by rw [hn]; simp), if_neg (by rw [h2]; simp)]
  simp [begX, begY, acR, attR, nmR]
set_option maxHeartbeats 8000000 in
theorem sbegun_ok : Pure Tryz.prog 8 [] (B true) := by
  have hre := rename_ok begX begX_ok 1 ⟨#[120]⟩ ⟨#[121]⟩ (by decide)
  rw [begY_eq] at hre
  intro h; refine callK_body Tryz.func8 rfl (by rw [nt8]; simp) ?_; rw [nt8, rs8]
  (repeat' (first | simp [go_sem, X_region, *] | simp (disch := omega) only [om, *] | ((first | refine XC_split ?_ ?_ | refine XG_true ?_ ?_ | refine XG_false ?_ ?_ | refine XRg_true ?_ ?_ | refine XRg_false ?_ ?_) <;> intro hc <;> (try simp only [bl] at hc) <;> (try (exfalso; omega))) | fail))
  intro b4 hb4 b6 n1 n2 hb6
  refine CallK.wk (h := h) (a' := encL 6 cAcx begX) ?_ (by simp) ((hre h).mono ?_)
  · refine Wk.trans (Wk.row (h' := upd h b4 _) (upd_same _ _ _) (Sub.upd (by rw [upd_ne _ _ n1]; exact hb6) (Sub.refl _)) (by rw [upd_ne _ _ n1]; exact hb6) rfl (Nat.le_refl _) (by decide)) (Wk.slMap (Sub.upd hb4 (Sub.refl _)) fun i hi j hj => ?_)
    obtain rfl : i = 0 := by have : i < 1 := hi; omega
    rcases (show j = 0 ∨ j = 1 ∨ j = 2 ∨ j = 3 ∨ j = 4 ∨ j = 5 by omega) with rfl | rfl | rfl | rfl | rfl | rfl
    · exact Wk.drop _ (Sub.upd hb4 (Sub.refl _))
    · exact Wk.drop _ (Sub.upd hb4 (Sub.refl _))
    · exact Wk.drop _ (Sub.upd hb4 (Sub.refl _))
    · refine (Wk.rowF (f := cellsL cAtx [⟨⟨#[120]⟩, 5, false, 0, 0, 0, 0⟩]) (upd_same _ _ _) (Sub.upd hb4 (Sub.refl _)) hb4 rfl (Nat.le_refl _) (by decide) fun i hi j hj => ?_)
      obtain rfl : i = 0 := by have : i < 1 := hi; omega
      rfl
    · exact Wk.nil.trans (Wk.drop _ (Sub.upd hb4 (Sub.refl _)))
    · exact Wk.nil.trans (Wk.drop _ (Sub.upd hb4 (Sub.refl _)))
  rintro r g ⟨rfl, rfl⟩
  unfold begY
  (repeat' (first | simp [go_sem, X_region, *] | simp (disch := omega) only [om, *] | ((first | refine XC_split ?_ ?_ | refine XG_true ?_ ?_ | refine XG_false ?_ ?_ | refine XRg_true ?_ ?_ | refine XRg_false ?_ ?_) <;> intro hc <;> (try simp only [bl] at hc) <;> (try (exfalso; omega))) | refine XD_w [] [] [] (fun _ => none) mixed (by decide +kernel) (sub_none _) ?_ | fail))
end Go.Proofs.YtmalhikcdideoaaGreatDoor

set_option linter.unusedVariables false
namespace Go.Proofs.YtmalhikcdideoaaGreatDoor
open Go Go.ChangeShapes Go.WideShapes Sl
/-- These cells, told. -/
def CellsR (w : World) (cs : List Value) (l : List AV) : Prop := cs.length = l.length ∧ ∀ j, j < l.length → ∃ x, cs[j]? = some x ∧ x.oneCell' = true ∧ Rd w (fun _ => none) (l.getD j .any) x
theorem CellsR.nil (w : World) : CellsR w [] [] := ⟨rfl, fun j hj => absurd hj (Nat.not_lt_zero j)⟩
theorem CellsR.one {w : World} {x : Value} {a : AV} (h1 : x.oneCell' = true) (h2 : Rd w (fun _ => none) a x) : CellsR w [x] [a] := ⟨rfl, fun j hj => by
  obtain rfl : j = 0 := by simp at hj; omega
  exact ⟨x, rfl, h1, h2⟩⟩
theorem CellsR.append {w : World} {cs cs' : List Value} {l l' : List AV} (a : CellsR w cs l) (b : CellsR w cs' l') : CellsR w (cs ++ cs') (l ++ l') := by
  refine ⟨by simp [a.1, b.1], fun j hj => ?_⟩
  by_cases hl : j < l.length
  · obtain ⟨x, h1, h2, h3⟩ := a.2 j hl
    refine ⟨x, ?_, h2, ?_⟩
    · rw [List.getElem?_append_left (by rw [a.1]; exact hl)]; exact h1
    · rw [List.getD_eq_getElem?_getD] at h3 ⊢
      rw [List.getElem?_append_left hl]; exact h3
  · obtain ⟨x, h1, h2, h3⟩ := b.2 (j - l.length) (by simp at hj; omega)
    refine ⟨x, ?_, h2, ?_⟩
    · rw [List.getElem?_append_right (by rw [a.1]; omega), a.1]; exact h1
    · rw [List.getD_eq_getElem?_getD] at h3 ⊢
      rw [List.getElem?_append_right (by omega)]; exact h3
/-- Of each value of this type that can be read: it is told by cells of which Q speaks. -/
def OpensQ (P : Program) (w : World) (t : TypeId) (Q : List AV → Prop) : Prop :=
  ∀ (H : Type) (enc : TypeId × Value → H) (base : Nat) (sp : Nat → Bool) (held : Bool) (fuel : Nat) (cs : List Value) (d : DataW H) (p : List MemPlace),
    DataW.trod enc P w base sp held fuel t cs = some (d, p) → (∀ n ∈ d.weights P t, n ≤ reachBytes) → ∃ l, Q l ∧ CellsR w cs l
section
variable {P : Program} {w : World} {t e : TypeId}
theorem OpensQ.mono {Q Q' : List AV → Prop} (o : OpensQ P w t Q) (h : ∀ l, Q l → Q' l) : OpensQ P w t Q' := fun H enc base sp held fuel cs d p ht hw =>
  let ⟨l, h1, h2⟩ := o H enc base sp held fuel cs d p ht hw
  ⟨l, h l h1, h2⟩
theorem opens_int {k : IntKind} (hu : P.underlying t = some (.int k)) : OpensQ P w t fun l => ∃ n : Int, (Lit.int k n).wf = true ∧ l = [.v (.int k n)] := by
  intro H enc base sp held fuel cs d p ht hw
  obtain ⟨n, rfl, _, hwf⟩ := DataW.trod_int hu ht
  exact ⟨_, ⟨n, hwf, rfl⟩, CellsR.one rfl rfl⟩
theorem opens_bool (hu : P.underlying t = some .bool) : OpensQ P w t fun l => ∃ b : Bool, l = [.v (.bool b)] := by
  intro H enc base sp held fuel cs d p ht hw
  obtain ⟨b, rfl, _⟩ := DataW.trod_bool hu ht
  exact ⟨_, ⟨b, rfl⟩, CellsR.one rfl rfl⟩
theorem list_of {α : Type} {Q : Nat → α → Prop} : ∀ n : Nat, (∀ i, i < n → ∃ x, Q i x) → ∃ l : List α, l.length = n ∧ ∀ i x, l[i]? = some x → Q i x
  | 0, _ => ⟨[], rfl, fun i x h => by simp at h⟩
  | n + 1, h => by
    obtain ⟨l, h1, h2⟩ := list_of n fun i hi => h i (by omega)
    obtain ⟨x, hx⟩ := h n (by omega)
    refine ⟨l ++ [x], by simp [h1], fun i y hy => ?_⟩
    by_cases hi : i < l.length
    · rw [List.getElem?_append_left hi] at hy; exact h2 i y hy
    · rw [List.getElem?_append_right (by omega)] at hy
      obtain rfl : i = n := by
        have := (List.getElem?_eq_some_iff.1 hy).1
        simp at this; omega
      simp [h1] at hy
      exact hy ▸ hx
theorem weightsAll_mem {H : Type} : ∀ (l : List (DataW H)) (d : DataW H), d ∈ l → ∀ n ∈ d.weights P e, n ∈ DataW.weightsAll P e l
  | [], _, h, _, _ => by simp at h
  | a :: l, d, h, n, hn => by
    simp only [DataW.weightsAll, List.mem_append]
    rcases List.mem_cons.1 h with rfl | h
    · exact .inl hn
    · exact .inr (weightsAll_mem l d h n hn)
end
end Go.Proofs.YtmalhikcdideoaaGreatDoor

set_option linter.unusedVariables false
namespace Go.Proofs.YtmalhikcdideoaaGreatDoor
open Go Go.ChangeShapes Go.WideShapes Sl
def sumL {α : Type} (f : α → Nat) : List α → Nat
  | [] => 0
  | x :: r => f x + sumL f r
theorem sumL_mem {α : Type} {f : α → Nat} : ∀ {l : List α} {x : α}, x ∈ l → f x ≤ sumL f l
  | y :: r, x, h => by
    rw [sumL]
    rcases List.mem_cons.1 h with rfl | h
    · omega
    · have := sumL_mem (f := f) h; omega
theorem sumL_len {α : Type} {f : α → Nat} (hf : ∀ x, 1 ≤ f x) : ∀ l : List α, l.length ≤ sumL f l
  | [] => Nat.le_refl _
  | x :: r => by
    rw [sumL, List.length_cons]
    have := sumL_len hf r
    have := hf x
    omega
theorem bulk_pos {H : Type} (d : DataW H) : 1 ≤ Rows.uptoBulk d := by
  cases d with
  | lit l => cases l <;> simp [Rows.uptoBulk]
  | nil => simp [Rows.uptoBulk]
  | ptr d => simp [Rows.uptoBulk]
  | slice elems spare => simp [Rows.uptoBulk]
  | agg parts => simp [Rows.uptoBulk]
  | iface t d => simp [Rows.uptoBulk]
  | map entries => simp [Rows.uptoBulk]
  | held h => simp [Rows.uptoBulk]
/-- Of each value of this type that can be read: it is told by cells of which Q speaks, and of the value's bulk. -/
def OpensB (P : Program) (w : World) (t : TypeId) (Q : Nat → List AV → Prop) : Prop :=
  ∀ (H : Type) (enc : TypeId × Value → H) (base : Nat) (sp : Nat → Bool) (held : Bool) (fuel : Nat) (cs : List Value) (d : DataW H) (p : List MemPlace),
    DataW.trod enc P w base sp held fuel t cs = some (d, p) → (∀ n ∈ d.weights P t, n ≤ reachBytes) → ∃ l, Q (Rows.uptoBulk d) l ∧ CellsR w cs l
section
variable {P : Program} {w : World} {t e : TypeId}
theorem OpensB.mono {Q Q' : Nat → List AV → Prop} (o : OpensB P w t Q) (h : ∀ n l, Q n l → Q' n l) : OpensB P w t Q' := fun H enc base sp held fuel cs d p ht hw =>
  let ⟨l, h1, h2⟩ := o H enc base sp held fuel cs d p ht hw
  ⟨l, h _ l h1, h2⟩
theorem OpensB.of {Q : List AV → Prop} (o : OpensQ P w t Q) : OpensB P w t fun n l => 1 ≤ n ∧ Q l := fun H enc base sp held fuel cs d p ht hw =>
  let ⟨l, h1, h2⟩ := o H enc base sp held fuel cs d p ht hw
  ⟨l, ⟨bulk_pos d, h1⟩, h2⟩
theorem opensB_string (hu : P.underlying t = some .string) : OpensB P w t fun n l => ∃ s : ByteArray, s.size + 1 ≤ n ∧ l = [.v (.string s)] := by
  intro H enc base sp held fuel cs d p ht hw
  obtain ⟨s, rfl, hd, _⟩ := DataW.trod_string hu ht
  simp only [Prod.mk.injEq] at hd
  obtain ⟨rfl, _⟩ := hd
  refine ⟨_, ⟨s, ?_, rfl⟩, CellsR.one rfl rfl⟩
  have : s.data.toList.length = s.size := Array.length_toList
  simp only [Rows.uptoBulk]
  omega
theorem opensB_i64 (hu : P.underlying t = some (.int .i64)) : OpensB P w t fun n l => ∃ x : Int, (-9223372036854775808 ≤ x ∧ x ≤ 9223372036854775807) ∧ 1 ≤ n ∧ l = [.v (.int .i64 x)] := by
  refine (OpensB.of (opens_int hu)).mono ?_
  rintro n l ⟨h1, x, hw, rfl⟩
  refine ⟨x, ?_, h1, rfl⟩
  have h2 : (IntKind.i64.min ≤ x) ∧ x ≤ IntKind.i64.max := by simpa [Lit.wf] using hw
  have e1 : IntKind.i64.min = -9223372036854775808 := by decide
  have e2 : IntKind.i64.max = 9223372036854775807 := by decide
  omega
theorem typedB {α H : Type} {enc : α → List AV} {ok : α → Prop} {μ : α → Nat} : ∀ (ls : List (List AV)) (ds : List (DataW H)), ls.length = ds.length → (∀ i x, ls[i]? = some x → ∃ y, μ y ≤ Rows.uptoBulk (ds.getD i .nil) ∧ ok y ∧ x = enc y) →
    ∃ ys : List α, ls = ys.map enc ∧ (∀ y ∈ ys, ok y) ∧ sumL μ ys ≤ Rows.uptoBulkAll ds
  | [], _, _, _ => ⟨[], rfl, fun y hy => by simp at hy, by simp [sumL]⟩
  | x :: ls, [], h, _ => by simp at h
  | x :: ls, d :: ds, hl, h => by
    obtain ⟨y, hm, hy, rfl⟩ := h 0 x rfl
    obtain ⟨ys, rfl, hys, hs⟩ := typedB (μ := μ) (ok := ok) (enc := enc) ls ds (by simpa using hl) fun i z hz => h (i + 1) z (by simpa using hz)
    refine ⟨y :: ys, rfl, fun z hz => ?_, ?_⟩
    · rcases List.mem_cons.1 hz with rfl | hz
      · exact hy
      · exact hys z hz
    · simp only [sumL, Rows.uptoBulkAll]
      have : μ y ≤ Rows.uptoBulk d := hm
      omega
theorem opensB_list {α : Type} {enc : α → List AV} {ok : α → Prop} {μ : α → Nat} {s : Nat} (hu : P.underlying t = some (.slice e)) (hs : P.cellsOf e = s) (hs0 : 0 < s) (hb : 0 < P.bytesOf e) (ho : OpensB P w e fun n l => ∃ y, μ y ≤ n ∧ ok y ∧ l = enc y) :
    OpensB P w t fun n l => ∃ ys : List α, sumL μ ys + 1 ≤ n ∧ (∀ y ∈ ys, ok y) ∧ l = [encL s enc ys] := by
  intro H enc' base sp held fuel cs d p ht hw
  rcases DataW.trod_slice hu ht with ⟨rfl, h1, h2⟩ | ⟨a, len, cap, elems, rest, n, _, rfl, hx, hbase, hlc, hcap, hlen, hel, _⟩
  · exact ⟨_, ⟨[], by rw [sumL]; exact bulk_pos _, fun y hy => by simp at hy, rfl⟩, CellsR.one rfl ⟨none, 0, rfl, Nat.le_refl _, by simp, fun h => absurd h (by simp)⟩⟩
  · simp only [Prod.mk.injEq] at hx
    obtain ⟨rfl, _⟩ := hx
    have hwt : (len + rest.length) * P.bytesOf e ≤ reachBytes := by
      have := hw ((elems.length + rest.length) * P.bytesOf e) (by simp [DataW.weights, hu])
      rwa [hlen] at this
    have hlb : len * P.bytesOf e ≤ reachBytes := Nat.le_trans (Nat.mul_le_mul_right _ (by omega)) hwt
    have hln : len ≤ reachBytes := Nat.le_trans (Nat.le_mul_of_pos_right _ hb) hlb
    have each : ∀ i, i < len → ∃ x : List AV, (x.length = s ∧ ∃ y, μ y ≤ Rows.uptoBulk ((elems.map (·.1)).getD i .nil) ∧ ok y ∧ x = enc y) ∧ ∃ ci, w.cells? base (a.add (i * s)) s = some ci ∧ CellsR w ci x := fun i hi => by
      have h1 := hel i hi
      rw [hs, List.getElem?_eq_getElem (by omega)] at h1
      cases hc : w.cells? base (a.add (i * s)) s with
      | none => rw [hc] at h1; simp at h1
      | some ci =>
        rw [hc] at h1
        simp only [Option.bind_some] at h1
        have hmem : elems[i].1 ∈ elems.map (·.1) := List.mem_map.2 ⟨elems[i], List.getElem_mem _, rfl⟩
        obtain ⟨x, hq, hr⟩ := ho H enc' base sp held n ci elems[i].1 elems[i].2 h1 fun m hm => hw m (by
          simp only [DataW.weights, hu, List.mem_cons, List.mem_append]
          exact .inr (.inl (weightsAll_mem _ _ hmem m hm)))
        have hl := (World.cells?_some hc).2.1
        have hg : (elems.map (·.1)).getD i .nil = elems[i].1 := by
          rw [List.getD_eq_getElem?_getD, List.getElem?_map, List.getElem?_eq_getElem (by omega)]; rfl
        exact ⟨x, ⟨by rw [← hr.1, hl], by rw [hg]; exact hq⟩, ci, rfl, hr⟩
    obtain ⟨ls, hll, hls⟩ := list_of len each
    obtain ⟨ys, hy1, hy2, hy3⟩ := typedB (μ := μ) (ok := ok) (enc := enc) ls (elems.map (·.1)) (by rw [List.length_map]; omega) fun i x hx => (hls i x hx).1.2
    have henc : encL s enc ys = .sl s ls.length fun i j => (ls.getD i []).getD j .any := by
      subst hy1
      unfold encL
      rw [List.length_map]
      congr 1
      funext i j
      cases hy : ys[i]? <;> simp [List.getD_eq_getElem?_getD, hy]
    refine ⟨_, ⟨ys, ?_, hy2, rfl⟩, ?_⟩
    · simp only [Rows.uptoBulk]
      omega
    rw [henc]
    refine CellsR.one rfl ⟨some a, cap, by rw [hll], by omega, ?_, fun h0 => ?_⟩
    · rw [hll]; exact Nat.le_trans hln (by decide)
    · rw [hll] at h0
      obtain ⟨c0, hc0, _⟩ := (hls 0 _ (List.getElem?_eq_getElem (by omega))).2
      have hblk := World.cells?_block hc0 hs0
      rw [Nat.zero_mul] at hc0 hblk
      have hadd : a.add 0 = a := rfl
      rw [hadd] at hc0 hblk
      have hsp : a.spot = none := by
        have h2 := (World.cells?_some hc0).2.2 0 hs0
        rw [hadd, List.getElem?_eq_getElem (by rw [(World.cells?_some hc0).2.1]; exact hs0)] at h2
        exact World.cell?_spot h2
      refine ⟨a.block, a.off, by cases a; simp_all, rfl, hblk, fun i hi j hj => ?_⟩
      rw [hll] at hi
      obtain ⟨⟨hxl, _⟩, ci, hci, hr⟩ := hls i _ (List.getElem?_eq_getElem (by omega))
      obtain ⟨x, h1, h2, h3⟩ := hr.2 j (by rw [hxl]; exact hj)
      refine ⟨x, ?_, h2, ?_⟩
      · have h4 := (World.cells?_some hci).2.2 j hj
        rw [← h1, ← h4]
        congr 1
        unfold Addr.add
        cases a with
        | mk b o sp' =>
          simp only at hsp
          subst hsp
          by_cases hi0 : i * s = 0
          · simp only [hi0, if_true]
            by_cases hj0 : j = 0
            · simp [hj0]
            · simp [hj0]
          · simp only [hi0, if_false]
            by_cases hj0 : j = 0
            · simp [hj0]
            · simp [hj0, Nat.add_assoc]
      · show Rd w _ ((ls.getD i []).getD j .any) x
        rw [List.getD_eq_getElem?_getD (l := ls), List.getElem?_eq_getElem (by omega)]
        exact h3
/-- Fields, one behind the other. -/
def catB : List (Nat → List AV → Prop) → Nat → List AV → Prop
  | [], _, l => l = []
  | Q :: Qs, n, l => ∃ a b n1 n2, n1 + n2 ≤ n ∧ Q n1 a ∧ catB Qs n2 b ∧ l = a ++ b
def fieldsB (P : Program) (w : World) : List Field → List (Nat → List AV → Prop) → Nat → Nat → Prop
  | [], [], off, tot => off = tot
  | f :: fs, Q :: Qs, off, tot => f.offset = off ∧ OpensB P w f.type Q ∧ fieldsB P w fs Qs (off + P.cellsOf f.type) tot
  | _, _, _, _ => False
theorem fields_openB {H : Type} {enc : TypeId × Value → H} {base : Nat} {sp : Nat → Bool} {held : Bool} {n : Nat} {cs : List Value} : ∀ (fs : List Field) (Qs : List (Nat → List AV → Prop)) (off : Nat) (xs : List (DataW H × List MemPlace)),
    fieldsB P w fs Qs off cs.length → xs.length = fs.length → (∀ (i : Nat) (f : Field), fs[i]? = some f → DataW.trod enc P w base sp held n f.type ((cs.drop f.offset).take (P.cellsOf f.type)) = xs[i]?) →
    (∀ m ∈ DataW.weightsEach P (fs.map (·.type)) (xs.map (·.1)), m ≤ reachBytes) → ∃ l, catB Qs (Rows.uptoBulkAll (xs.map (·.1))) l ∧ CellsR w (cs.drop off) l
  | [], [], off, xs, h, _, _, _ => ⟨[], rfl, by rw [show off = cs.length from h, List.drop_length]; exact CellsR.nil w⟩
  | f :: fs, Q :: Qs, off, x :: xs, h, hl, hf, hw => by
    obtain ⟨rfl, ho, h⟩ := h
    have h0 := hf 0 f rfl
    simp only [List.getElem?_cons_zero] at h0
    obtain ⟨a, ha, hra⟩ := ho H enc base sp held n _ x.1 x.2 h0 fun m hm => hw m (by simp only [List.map_cons, DataW.weightsEach, List.mem_append]; exact .inl hm)
    obtain ⟨b, hb, hrb⟩ := fields_openB fs Qs _ xs h (by simpa using hl) (fun i g hg => by simpa using hf (i + 1) g (by simpa using hg)) fun m hm => hw m (by simp only [List.map_cons, DataW.weightsEach, List.mem_append]; exact .inr hm)
    refine ⟨a ++ b, ⟨a, b, _, _, Nat.le_refl _, ha, hb, rfl⟩, ?_⟩
    have := hra.append hrb
    rwa [← List.drop_drop, List.take_append_drop] at this
  | [], _ :: _, _, _, h, _, _, _ => h.elim
  | _ :: _, [], _, _, h, _, _, _ => h.elim
  | _ :: _, _ :: _, _, [], _, hl, _, _ => by simp at hl
theorem opensB_struct {fs : Array Field} {Qs : List (Nat → List AV → Prop)} (hu : P.underlying t = some (.struct fs)) (h : fieldsB P w fs.toList Qs 0 (P.cellsOf t)) : OpensB P w t (fun n l => ∃ m, m + 1 = n ∧ catB Qs m l) := by
  intro H enc base sp held fuel cs d p ht hw
  obtain ⟨xs, n, rfl, hx, hl, hlen, hf⟩ := DataW.trod_struct hu ht
  simp only [Prod.mk.injEq] at hx
  obtain ⟨rfl, _⟩ := hx
  rw [← hl] at h
  obtain ⟨l, h1, h2⟩ := fields_openB fs.toList Qs 0 xs h (by simpa using hlen) (fun i f hi => hf i f (by simpa using hi)) fun m hm => hw m (by simpa only [DataW.weights, hu] using hm)
  exact ⟨l, ⟨_, by simp only [Rows.uptoBulk], h1⟩, by simpa using h2⟩
/-- An argument of one cell; one that is a struct. -/
theorem argB_one {Q : Nat → List AV → Prop} {H : Type} {enc : TypeId × Value → H} {base : Nat} {sp : Nat → Bool} {held : Bool} {d : DataW H} {p : List MemPlace} {v : Value} (ho : OpensB P w t Q) (h : DataW.Trod enc P w base sp held t v d p) (hw : ∀ n ∈ d.weights P t, n ≤ reachBytes) (hv : v.oneCell' = true) :
    ∃ a, Q (Rows.uptoBulk d) [a] ∧ Rd w (fun _ => none) a v := by
  obtain ⟨fuel, h⟩ := h
  obtain ⟨l, hq, hl, hr⟩ := ho H enc base sp held fuel _ d p h hw
  have hc : v.cells.toList = [v] := by cases v <;> first | rfl | cases hv
  rw [hc] at hl hr
  match l, hl with
  | [a], _ =>
    obtain ⟨x, h1, _, h3⟩ := hr 0 (by simp)
    simp at h1
    subst h1
    exact ⟨a, hq, h3⟩
end
end Go.Proofs.YtmalhikcdideoaaGreatDoor

set_option linter.unusedVariables false
set_option linter.unusedSimpArgs false
namespace Go.Proofs.YtmalhikcdideoaaGreatDoor
open Go Sl
attribute [local irreducible] XRange LpQ XR XRo XRg XRQ putQ XFv XL XW2 wQ putW X XO XOp XH XHo XW SeqQ BlkQ XOQ XHQ NrmQ XC XM XG XHM XHG XD CallK
section
variable (w : World)
abbrev BI (n : Nat) (l : List AV) : Prop := ∃ x : Int, i64B x ∧ 1 ≤ n ∧ l = [I x]
abbrev BB (n : Nat) (l : List AV) : Prop := 1 ≤ n ∧ ∃ b : Bool, l = [B b]
abbrev BS (n : Nat) (l : List AV) : Prop := ∃ s : ByteArray, s.size + 1 ≤ n ∧ l = [S s]
theorem c_int : Tryz.prog.cellsOf 3 = 1 := by kernel_rfl
theorem c_bool : Tryz.prog.cellsOf 4 = 1 := by kernel_rfl
theorem c_str : Tryz.prog.cellsOf 9 = 1 := by kernel_rfl
theorem b_int : 0 < Tryz.prog.bytesOf 3 := Nat.lt_of_lt_of_eq (by decide : 0 < 8) (by kernel_rfl)
theorem o_int : OpensB Tryz.prog w 3 BI := opensB_i64 Tryz.underlying3
theorem o_bool : OpensB Tryz.prog w 4 BB := OpensB.of (opens_bool Tryz.underlying4)
theorem o_str : OpensB Tryz.prog w 9 BS := opensB_string Tryz.underlying9
def one1 {α : Type} (_ : α) : Nat := 1
abbrev Bints (n : Nat) (l : List AV) : Prop := ∃ k : List Int, sumL one1 k + 1 ≤ n ∧ (∀ x ∈ k, i64B x) ∧ l = [encL 1 cI k]
theorem c_ints : Tryz.prog.cellsOf 63 = 1 := by kernel_rfl
theorem o_ints : OpensB Tryz.prog w 63 Bints :=
  opensB_list (enc := cI) (μ := one1) (ok := i64B) Tryz.underlying63 c_int (by decide) b_int ((o_int w).mono fun n l ⟨x, h1, h2, h3⟩ => ⟨x, h2, h1, h3⟩)
theorem c_val : Tryz.prog.cellsOf 84 = 2 := by kernel_rfl
theorem c_step : Tryz.prog.cellsOf 128 = 2 := by kernel_rfl
theorem b_step : 0 < Tryz.prog.bytesOf 128 := Nat.lt_of_lt_of_eq (by decide : 0 < 16) (by kernel_rfl)
def okSt (x : Int × Int) : Prop := i64B x.1 ∧ i64B x.2
theorem o_step : OpensB Tryz.prog w 128 fun n l => ∃ x : Int × Int, one1 x ≤ n ∧ okSt x ∧ l = cSt x := by
  refine (opensB_struct (w := w) Tryz.underlying128 (Qs := [BI, BI]) (by
    simp only [fieldsB, c_int, c_step]
    exact ⟨trivial, o_int w, trivial, o_int w, trivial⟩)).mono ?_
  rintro n l ⟨m, hm, _, _, n1, n2, hn, ⟨a, ha, _, rfl⟩, ⟨_, _, n3, n4, hn2, ⟨b, hb, _, rfl⟩, rfl, rfl⟩, rfl⟩
  exact ⟨(a, b), by unfold one1; omega, ⟨ha, hb⟩, rfl⟩
abbrev Bsteps (n : Nat) (l : List AV) : Prop := ∃ k : List (Int × Int), sumL one1 k + 1 ≤ n ∧ (∀ x ∈ k, okSt x) ∧ l = [encL 2 cSt k]
theorem c_steps : Tryz.prog.cellsOf 41 = 1 := by kernel_rfl
theorem o_steps : OpensB Tryz.prog w 41 Bsteps :=
  opensB_list (enc := cSt) (μ := one1) (ok := okSt) Tryz.underlying41 c_step (by decide) b_step (o_step w)
theorem c_node : Tryz.prog.cellsOf 65 = 5 := by kernel_rfl
theorem b_node : 0 < Tryz.prog.bytesOf 65 := Nat.lt_of_lt_of_eq (by decide : 0 < 64) (by kernel_rfl)
def muNd (x : Nd) : Nat := x.nm.size + x.kids.length + 1
def okNd (x : Nd) : Prop := i64B x.op ∧ (∀ k ∈ x.kids, i64B k) ∧ i64B x.kd ∧ i64B x.n
theorem sum_one {α : Type} : ∀ l : List α, sumL one1 l = l.length
  | [] => rfl
  | x :: r => by rw [sumL, sum_one r, List.length_cons]; unfold one1; omega
theorem o_node : OpensB Tryz.prog w 65 fun n l => ∃ x : Nd, muNd x ≤ n ∧ okNd x ∧ l = cNd x := by
  refine (opensB_struct (w := w) Tryz.underlying65 (Qs := [BI, Bints, BI, BI, BS]) (by
    simp only [fieldsB, c_int, c_ints, c_str, c_node]
    exact ⟨trivial, o_int w, trivial, o_ints w, trivial, o_int w, trivial, o_int w, trivial, o_str w, trivial⟩)).mono ?_
  rintro n l ⟨m, hm, _, _, n1, n2, hn, ⟨a, ha, _, rfl⟩, ⟨_, _, n3, n4, hn2, ⟨k, hk, hkb, rfl⟩, ⟨_, _, n5, n6, hn3, ⟨c, hc, _, rfl⟩, ⟨_, _, n7, n8, hn4, ⟨d, hd, _, rfl⟩, ⟨_, _, n9, n10, hn5, ⟨s, hs, rfl⟩, rfl, rfl⟩, rfl⟩, rfl⟩, rfl⟩, rfl⟩
  rw [sum_one] at hk
  exact ⟨⟨a, k, c, d, s⟩, by unfold muNd; simp only; omega, ⟨ha, hkb, hc, hd⟩, rfl⟩
theorem o_expr : OpensB Tryz.prog w 47 fun n l => ∃ k : List Nd, sumL muNd k + 1 ≤ n ∧ (∀ x ∈ k, okNd x) ∧ l = [encL 5 cNd k] :=
  opensB_list (enc := cNd) (μ := muNd) (ok := okNd) Tryz.underlying47 c_node (by decide) b_node (o_node w)
theorem c_table : Tryz.prog.cellsOf 43 = 5 := by kernel_rfl
theorem b_table : 0 < Tryz.prog.bytesOf 43 := Nat.lt_of_lt_of_eq (by decide : 0 < 64) (by kernel_rfl)
def muTb (t : Tb) : Nat := t.name.size + t.steps.length + 1
def okTb (t : Tb) : Prop := i64B t.fr ∧ i64B t.to ∧ ∀ x ∈ t.steps, okSt x
theorem o_table : OpensB Tryz.prog w 43 fun n l => ∃ x : Tb, muTb x ≤ n ∧ okTb x ∧ l = cTb x := by
  refine (opensB_struct (w := w) Tryz.underlying43 (Qs := [BS, BI, BI, BB, Bsteps]) (by
    simp only [fieldsB, c_bool, c_int, c_steps, c_str, c_table]
    exact ⟨trivial, o_str w, trivial, o_int w, trivial, o_int w, trivial, o_bool w, trivial, o_steps w, trivial⟩)).mono ?_
  rintro n l ⟨m, hm, _, _, n1, n2, hn, ⟨s, hs, rfl⟩, ⟨_, _, n3, n4, hn2, ⟨a, ha, _, rfl⟩, ⟨_, _, n5, n6, hn3, ⟨b, hb, _, rfl⟩, ⟨_, _, n7, n8, hn4, ⟨_, c, rfl⟩, ⟨_, _, n9, n10, hn5, ⟨k, hk, hkb, rfl⟩, rfl, rfl⟩, rfl⟩, rfl⟩, rfl⟩, rfl⟩
  rw [sum_one] at hk
  exact ⟨⟨s, a, b, c, k⟩, by unfold muTb; simp only; omega, ⟨ha, hb, hkb⟩, rfl⟩
abbrev Btables (n : Nat) (l : List AV) : Prop := ∃ k : List Tb, sumL muTb k + 1 ≤ n ∧ (∀ x ∈ k, okTb x) ∧ l = [encL 5 cTb k]
theorem c_tables : Tryz.prog.cellsOf 34 = 1 := by kernel_rfl
theorem o_tables : OpensB Tryz.prog w 34 Btables :=
  opensB_list (enc := cTb) (μ := muTb) (ok := okTb) Tryz.underlying34 c_table (by decide) b_table (o_table w)
theorem c_attr : Tryz.prog.cellsOf 99 = 7 := by kernel_rfl
theorem b_attr : 0 < Tryz.prog.bytesOf 99 := Nat.lt_of_lt_of_eq (by decide : 0 < 64) (by kernel_rfl)
theorem c_attrs : Tryz.prog.cellsOf 33 = 1 := by kernel_rfl
theorem c_articles : Tryz.prog.cellsOf 35 = 1 := by kernel_rfl
theorem c_act : Tryz.prog.cellsOf 37 = 6 := by kernel_rfl
theorem b_act : 0 < Tryz.prog.bytesOf 37 := Nat.lt_of_lt_of_eq (by decide : 0 < 104) (by kernel_rfl)
end
end Go.Proofs.YtmalhikcdideoaaGreatDoor
