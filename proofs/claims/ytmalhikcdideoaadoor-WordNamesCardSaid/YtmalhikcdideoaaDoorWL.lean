/- A set of ASCII bytes; trimming by it. -/
import Derived.Test.YtmalhikcdideoaaDoorWJ
import Derived.Test.YtmalhikcdideoaaDoorFactsB
set_option linter.unusedVariables false
set_option linter.unusedSimpArgs false
namespace Go.Proofs.YtmalhikcdideoaaDoor
open Go Sl
attribute [local irreducible] LpQ XR XRo XRg XRQ putQ XFv XL XW2 wQ putW X XO XOp XH XHo XW SeqQ BlkQ XOQ XHQ NrmQ XC XM XG XHM XHG XD CallK
def inSet (l : List UInt8) (k : Nat) : Bool := l.any fun c => decide (c.toNat = k)
def setF (l : List UInt8) (k : Nat) : AV := if k < 256 then B (inSet l k) else .any
def rowL (n : Nat) (f : Nat → AV) : List AV := (List.range n).map f
theorem rowL_length (n : Nat) (f : Nat → AV) : (rowL n f).length = n := by simp [rowL]
theorem rowL_at (n k : Nat) (f : Nat → AV) : (rowL n f)[k]?.getD .any = if k < n then f k else .any := by by_cases h : k < n <;> simp [rowL, h]
@[go_sem] theorem rg256 (f : Nat → AV) : (List.range 256).map f = rowL 256 f := rfl
attribute [local go_sem] rowL_length rowL_at
@[go_sem] theorem cellsA_ag (m : Nat) (f : Nat → AV) : cellsA (.agg m f) = some (m, f) := rfl
def bigO : Option Ob → Nat → Nat → Option AV
  | some o, i, off => if i < o.n ∧ off + 256 ≤ o.s then some (aggL (rowL 256 fun k => o.f i (off + k))) else none
  | none, _, _ => none
def bigL (h : Hp) : AV → Option AV
  | .fp m f => if 256 ≤ m then some (aggL (rowL 256 f)) else none
  | .v (.pointer (some ⟨b, off, none⟩)) => bigO (h b) 0 off
  | .pt b s i j => match h b with
    | some o => if o.s = s then bigO (h b) i j else none
    | none => none
  | _ => none
theorem big_own (h : Hp) (b i j : Nat) : ownAt h b i j 256 true = bigO (h b) i j := by
  unfold ownAt
  cases h b <;> rfl
theorem load143 (h : Hp) (x : AV) : loadA Tryd.prog h 143 x = bigL h x := by
  unfold loadA
  rw [ld143]
  unfold bigL
  dsimp only
  split <;> simp only [big_own, rowL] <;> rfl
attribute [local go_sem] bigO bigL
theorem agg_row (f g : Nat → AV) (h : ∀ k, k < 256 → f k = g k) (hg : ∀ k, ¬ k < 256 → g k = .any) : aggL (rowL 256 f) = .agg 256 g := by
  unfold aggL
  rw [rowL_length]
  congr 1
  funext j
  rw [List.getD_eq_getElem?_getD, rowL_at]
  by_cases hj : j < 256
  · simp [hj, h j hj]
  · simp [hj, hg j hj]
theorem setF_at (l : List UInt8) (c : UInt8) : setF l c.toNat = B (l.contains c) := by
  have h := UInt8.toNat_lt c
  have e : inSet l c.toNat = l.contains c := by
    rw [Bool.eq_iff_iff]
    simp [inSet, UInt8.toNat_inj]
  simp [setF, h, e]
theorem set0 (k : Nat) (h : k < 256) : (AV.v ((rep 256 (Value.bool false))[k]?.getD undef)) = setF [] k := by
  rw [rep_at]
  simp [setF, inSet, h]
theorem setF_add (l : List UInt8) (c : UInt8) (k : Nat) : setF (l ++ [c]) k = if k = c.toNat then B true else setF l k := by
  have h := UInt8.toNat_lt c
  by_cases hk : k = c.toNat
  · subst hk
    simp [setF, inSet, h]
  · have : ¬ c.toNat = k := fun e => hk e.symm
    simp [setF, inSet, hk, this]
theorem makeset_ok (s : ByteArray) (hs : s.size ≤ 1000) (ha : ∀ c ∈ s.data.toList, c.toNat < 128) : Pure Tryd.prog 91 [S s] (tup2 (.agg 256 (setF s.data.toList)) (B true)) := by
  generalize hR : s.data.toList = R
  rw [hR] at ha
  intro h; refine callK_body Tryd.func91 rfl (by rw [nt91]; simp) ?_; rw [nt91, rs91]
  (repeat' (first | simp [go_sem, X_region, *] | simp (disch := omega) only [om, *] | ((first | refine XC_split ?_ ?_ | refine XG_true ?_ ?_ | refine XG_false ?_ ?_ | refine XRg_true ?_ ?_ | refine XRg_false ?_ ?_) <;> intro hc <;> (try simp only [bl] at hc) <;> (try (exfalso; omega))) | refine XD_w [] [] [] (fun _ => none) mixed (by decide +kernel) (sub_none _) ?_ | fail))
  intro b hb
  (repeat' (first | simp [go_sem, X_region, *] | simp (disch := omega) only [om, *] | ((first | refine XC_split ?_ ?_ | refine XG_true ?_ ?_ | refine XG_false ?_ ?_ | refine XRg_true ?_ ?_ | refine XRg_false ?_ ?_) <;> intro hc <;> (try simp only [bl] at hc) <;> (try (exfalso; omega))) | refine XD_w [] [] [] (fun _ => none) mixed (by decide +kernel) (sub_none _) ?_ | fail))
  refine X_lp (fun n T h2 => ∃ (i : Nat) (pre r : List UInt8) (o : Ob), n = r.length ∧ i ≤ s.size ∧ s.data.toList.drop i = r ∧ pre ++ r = R ∧ o.ty = 143 ∧ o.s = 256 ∧ o.n = 1 ∧ (∀ k, k < 256 → o.f 0 k = setF pre k) ∧ T 0 = S s ∧ T 2 = ptr b ∧ T 4 = I i ∧ h2 = upd h b (some o)) _ ⟨0, [], R, _, rfl, by omega, by simpa using hR, rfl, rfl, rfl, rfl, set0, by simp [go_sem], by simp [go_sem], by simp [go_sem], rfl⟩ ?_
  rintro J hJ n T h2 ⟨i, pre, r, o, rfl, hi, hd, hpre, o1, o2, o3, of, t0, t2, t4, rfl⟩
  rcases r with _ | ⟨c, r⟩
  · have hlt := str_nil hd
    rw [List.append_nil] at hpre
    subst hpre
    (repeat' (first | simp [go_sem, X_region, ↓load143, *] | simp (disch := omega) only [om, *] | ((first | refine XC_split ?_ ?_ | refine XG_true ?_ ?_ | refine XG_false ?_ ?_ | refine XRg_true ?_ ?_ | refine XRg_false ?_ ?_) <;> intro hc <;> (try simp only [bl] at hc) <;> (try (exfalso; omega))) | refine XD_w [] [] [] (fun _ => none) mixed (by decide +kernel) (sub_none _) ?_ | fail))
    rw [agg_row _ (setF pre) (fun k hk => by simp [hk, of]) fun k hk => by simp [setF, hk]]
    exact Wk.drop _ (Sub.upd hb (Sub.refl _))
  · obtain ⟨hlt, hg, hd2⟩ := str_cons hd
    have hc := ha c (by rw [← hpre]; simp)
    have h256 : c.toNat < 256 := by omega
    (repeat' (first | simp [go_sem, X_region, *] | simp (disch := omega) only [om, *] | ((first | refine XC_split ?_ ?_ | refine XG_true ?_ ?_ | refine XG_false ?_ ?_ | refine XRg_true ?_ ?_ | refine XRg_false ?_ ?_) <;> intro hc <;> (try simp only [bl] at hc) <;> (try (exfalso; omega))) | refine XD_w [] [] [] (fun _ => none) mixed (by decide +kernel) (sub_none _) ?_ | fail))
    exact ⟨by omega, r.length, by omega, hJ.out _ _ _ ⟨i + 1, pre ++ [c], r, ⟨143, 256, 1, _⟩, rfl, by omega, hd2, by simpa using hpre, rfl, rfl, rfl, fun k hk => by
      rw [setF_add]
      by_cases e : k = c.toNat
      · simp [e]
      · have e2 : ¬ (c.toNat ≤ k ∧ k < c.toNat + 1) := by omega
        simp [e, e2, of k hk], by simp [go_sem, *], by simp [go_sem, *], by simp [go_sem, *], rfl⟩⟩
theorem has_ok {h : Hp} {b : Nat} {o : Ob} {l : List UInt8} (hb : h b = some o) (h1 : o.s = 256) (h2 : o.n = 1) (hf : ∀ k, k < 256 → o.f 0 k = setF l k) (c : UInt8) : PureAt Tryd.prog h 117 [ptr b, U8 c] (B (l.contains c)) := by
  have hc := UInt8.toNat_lt c
  have hs := setF_at l c
  refine callK_body Tryd.func117 rfl (by rw [nt117]; simp) ?_; rw [nt117, rs117]
  ((repeat' (first | simp [go_sem, X_region, *] | simp (disch := omega) only [om, *] | ((first | refine XC_split ?_ ?_ | refine XG_true ?_ ?_ | refine XG_false ?_ ?_ | refine XRg_true ?_ ?_ | refine XRg_false ?_ ?_) <;> intro hc <;> (try simp only [bl] at hc) <;> (try (exfalso; omega))) | refine XD_w [] [] [] (fun _ => none) mixed (by decide +kernel) (sub_none _) ?_ | (intro bk hbk; (try simp only [go_sem] at hbk)))); all_goals (refine Wk.fin (by repeat (first | exact Sub.refl _ | refine Sub.upd (by simp [*]) ?_)) ?_; first | (simp [*]; done) | (simp only []; (repeat' (first | split | rfl | omega | (simp_all; done))); done) | (simp [*]; (repeat' (first | split | omega | (rw [Bool.eq_iff_iff]; simp; omega))); done) | (simp [*])))
theorem left_ok {h : Hp} {b : Nat} {o : Ob} {l : List UInt8} (hb : h b = some o) (h1 : o.s = 256) (h2 : o.n = 1) (hf : ∀ k, k < 256 → o.f 0 k = setF l k) (s : List UInt8) (hs : s.length ≤ 1000) : PureAt Tryd.prog h 92 [S (bOf s), ptr b] (S (bOf (s.dropWhile l.contains))) := by
  generalize hR : s.dropWhile l.contains = R
  refine callK_body Tryd.func92 rfl (by rw [nt92]; simp) ?_; rw [nt92, rs92]
  (repeat' (first | simp [go_sem, X_region, *] | simp (disch := omega) only [om, *] | ((first | refine XC_split ?_ ?_ | refine XG_true ?_ ?_ | refine XG_false ?_ ?_ | refine XRg_true ?_ ?_ | refine XRg_false ?_ ?_) <;> intro hc <;> (try simp only [bl] at hc) <;> (try (exfalso; omega))) | refine XD_w [] [] [] (fun _ => none) mixed (by decide +kernel) (sub_none _) ?_ | (intro bk hbk; (try simp only [go_sem] at hbk))))
  refine X_lp (fun n T h' => ∃ (r : List UInt8), n = r.length ∧ r.length ≤ 1000 ∧ r.dropWhile l.contains = R ∧ T 0 = S (bOf r) ∧ T 1 = ptr b ∧ h' = h) _ ⟨s, rfl, hs, hR, by simp [go_sem, *]⟩ ?_
  clear hR
  rintro J hJ n T h' ⟨r, rfl, hr, hR, t0, t1, rfl⟩
  have hsz := bOf_size r
  rcases r with _ | ⟨c, r⟩
  · simp only [List.length_nil] at hsz
    (repeat' (first | simp [go_sem, X_region, *] | simp (disch := omega) only [om, *] | ((first | refine XC_split ?_ ?_ | refine XG_true ?_ ?_ | refine XG_false ?_ ?_ | refine XRg_true ?_ ?_ | refine XRg_false ?_ ?_) <;> intro hc <;> (try simp only [bl] at hc) <;> (try (exfalso; omega))) | refine XD_w [] [] [] (fun _ => none) mixed (by decide +kernel) (sub_none _) ?_ | (intro bk hbk; (try simp only [go_sem] at hbk))))
    all_goals (subst hR; exact Wk.of_eq rfl)
  · simp only [List.length_cons] at hsz hr
    have hg := gb_head c r
    have hx1 : (bOf (c :: r)).extract 1 (r.length + 1) = bOf r := bOf_from (c :: r) 1 (by simp)
    have hh := has_ok hb h1 h2 hf c
    cases hc : l.contains c
    · rw [hc] at hh
      (repeat' (first | simp [go_sem, X_region, *] | simp (disch := omega) only [om, *] | ((first | refine XC_split ?_ ?_ | refine XG_true ?_ ?_ | refine XG_false ?_ ?_ | refine XRg_true ?_ ?_ | refine XRg_false ?_ ?_) <;> intro hc <;> (try simp only [bl] at hc) <;> (try (exfalso; omega))) | refine XD_w [] [] [] (fun _ => none) mixed (by decide +kernel) (sub_none _) ?_ | refine Pure.call (hh) ?_ | refine ⟨_, Pure.at (hh), ?_⟩ | refine ⟨_, hh, ?_⟩ | refine PureAt.call (hh) ?_ | (intro bk hbk; (try simp only [go_sem] at hbk))))
      all_goals (rw [List.dropWhile_cons, hc] at hR; subst hR; exact Wk.of_eq rfl)
    · rw [hc] at hh
      (repeat' (first | simp [go_sem, X_region, *] | simp (disch := omega) only [om, *] | ((first | refine XC_split ?_ ?_ | refine XG_true ?_ ?_ | refine XG_false ?_ ?_ | refine XRg_true ?_ ?_ | refine XRg_false ?_ ?_) <;> intro hc <;> (try simp only [bl] at hc) <;> (try (exfalso; omega))) | refine XD_w [] [] [] (fun _ => none) mixed (by decide +kernel) (sub_none _) ?_ | refine Pure.call (hh) ?_ | refine ⟨_, Pure.at (hh), ?_⟩ | refine ⟨_, hh, ?_⟩ | refine PureAt.call (hh) ?_ | (intro bk hbk; (try simp only [go_sem] at hbk))))
      exact ⟨r.length, by omega, hJ.out _ _ _ ⟨r, rfl, by omega, by rw [← hR, List.dropWhile_cons, hc]; rfl, by simp [go_sem, *], by simp [go_sem, *], rfl⟩⟩
def trimR (p : UInt8 → Bool) (l : List UInt8) : List UInt8 := (l.reverse.dropWhile p).reverse
theorem trimR_in (p : UInt8 → Bool) (l : List UInt8) (c : UInt8) (h : p c = true) : trimR p (l ++ [c]) = trimR p l := by simp [trimR, h]
theorem trimR_out (p : UInt8 → Bool) (l : List UInt8) (c : UInt8) (h : p c = false) : trimR p (l ++ [c]) = l ++ [c] := by simp [trimR, h]
theorem dw_all (p : UInt8 → Bool) : ∀ l : List UInt8, (l.dropWhile p).all p = l.all p
  | [] => rfl
  | x :: t => by
    rw [List.dropWhile_cons]
    cases hx : p x
    · rfl
    · simp [hx, dw_all p t]
theorem dw_nil (p : UInt8 → Bool) : ∀ l : List UInt8, l.dropWhile p = [] ↔ l.all p = true
  | [] => by simp
  | x :: t => by
    rw [List.dropWhile_cons]
    cases hx : p x
    · simp [hx]
    · simp [hx, dw_nil p t]
theorem trim_all (p : UInt8 → Bool) (l : List UInt8) : ((trimR p l).dropWhile p = []) ↔ l.all p = true := by
  rw [dw_nil]
  unfold trimR
  rw [List.all_reverse, dw_all, List.all_reverse]
theorem gb_last (r : List UInt8) (c : UInt8) : gb (bOf (r ++ [c])) r.length = c := by simp [gb, bOf]
theorem right_ok {h : Hp} {b : Nat} {o : Ob} {l : List UInt8} (hb : h b = some o) (h1 : o.s = 256) (h2 : o.n = 1) (hf : ∀ k, k < 256 → o.f 0 k = setF l k) (s : List UInt8) (hs : s.length ≤ 1000) : PureAt Tryd.prog h 93 [S (bOf s), ptr b] (S (bOf (trimR l.contains s))) := by
  generalize hR : trimR l.contains s = R
  refine callK_body Tryd.func93 rfl (by rw [nt93]; simp) ?_; rw [nt93, rs93]
  (repeat' (first | simp [go_sem, X_region, *] | simp (disch := omega) only [om, *] | ((first | refine XC_split ?_ ?_ | refine XG_true ?_ ?_ | refine XG_false ?_ ?_ | refine XRg_true ?_ ?_ | refine XRg_false ?_ ?_) <;> intro hc <;> (try simp only [bl] at hc) <;> (try (exfalso; omega))) | refine XD_w [] [] [] (fun _ => none) mixed (by decide +kernel) (sub_none _) ?_ | (intro bk hbk; (try simp only [go_sem] at hbk))))
  refine X_lp (fun n T h' => ∃ (r : List UInt8), n = r.length ∧ r.length ≤ 1000 ∧ trimR l.contains r = R ∧ T 0 = S (bOf r) ∧ T 1 = ptr b ∧ h' = h) _ ⟨s, rfl, hs, hR, by simp [go_sem, *]⟩ ?_
  clear hR
  rintro J hJ n T h' ⟨r, rfl, hr, hR, t0, t1, rfl⟩
  have hsz := bOf_size r
  rcases List.eq_nil_or_concat r with rfl | ⟨r, c, rfl⟩
  · simp only [List.length_nil] at hsz
    (repeat' (first | simp [go_sem, X_region, *] | simp (disch := omega) only [om, *] | ((first | refine XC_split ?_ ?_ | refine XG_true ?_ ?_ | refine XG_false ?_ ?_ | refine XRg_true ?_ ?_ | refine XRg_false ?_ ?_) <;> intro hc <;> (try simp only [bl] at hc) <;> (try (exfalso; omega))) | refine XD_w [] [] [] (fun _ => none) mixed (by decide +kernel) (sub_none _) ?_ | (intro bk hbk; (try simp only [go_sem] at hbk))))
    all_goals (subst hR; exact Wk.of_eq rfl)
  · simp only [List.concat_eq_append] at *
    simp only [List.length_append, List.length_cons, List.length_nil] at hsz hr ⊢
    have hg := gb_last r c
    have hx1 : (bOf (r ++ [c])).extract 0 r.length = bOf r := by simpa using bOf_extract (r ++ [c]) 0 r.length
    have hh := has_ok hb h1 h2 hf c
    cases hc : l.contains c
    · rw [hc] at hh
      (repeat' (first | simp [go_sem, X_region, *] | simp (disch := omega) only [om, *] | ((first | refine XC_split ?_ ?_ | refine XG_true ?_ ?_ | refine XG_false ?_ ?_ | refine XRg_true ?_ ?_ | refine XRg_false ?_ ?_) <;> intro hc <;> (try simp only [bl] at hc) <;> (try (exfalso; omega))) | refine XD_w [] [] [] (fun _ => none) mixed (by decide +kernel) (sub_none _) ?_ | refine Pure.call (hh) ?_ | refine ⟨_, Pure.at (hh), ?_⟩ | refine ⟨_, hh, ?_⟩ | refine PureAt.call (hh) ?_ | (intro bk hbk; (try simp only [go_sem] at hbk))))
      all_goals (rw [trimR_out _ _ _ hc] at hR; subst hR; exact Wk.of_eq rfl)
    · rw [hc] at hh
      (repeat' (first | simp [go_sem, X_region, *] | simp (disch := omega) only [om, *] | ((first | refine XC_split ?_ ?_ | refine XG_true ?_ ?_ | refine XG_false ?_ ?_ | refine XRg_true ?_ ?_ | refine XRg_false ?_ ?_) <;> intro hc <;> (try simp only [bl] at hc) <;> (try (exfalso; omega))) | refine XD_w [] [] [] (fun _ => none) mixed (by decide +kernel) (sub_none _) ?_ | refine Pure.call (hh) ?_ | refine ⟨_, Pure.at (hh), ?_⟩ | refine ⟨_, hh, ?_⟩ | refine PureAt.call (hh) ?_ | (intro bk hbk; (try simp only [go_sem] at hbk))))
      exact ⟨r.length, by omega, hJ.out _ _ _ ⟨r, rfl, by omega, by rw [← hR, trimR_in _ _ _ hc], by simp [go_sem, *], by simp [go_sem, *], rfl⟩⟩
def innerB : ByteArray := ⟨#[97, 98, 99, 100, 101, 102, 103, 104, 105, 106, 107, 108, 109, 110, 111, 112, 113, 114, 115, 116, 117, 118, 119, 120, 121, 122, 48, 49, 50, 51, 52, 53, 54, 55, 56, 57, 45]⟩
theorem innerB_asc : ∀ c ∈ innerB.data.toList, c.toNat < 128 := by decide +kernel
theorem trim_ok (s : List UInt8) (hs : s.length ≤ 1000) : Pure Tryd.prog 56 [S (bOf s), S ⟨#[97, 98, 99, 100, 101, 102, 103, 104, 105, 106, 107, 108, 109, 110, 111, 112, 113, 114, 115, 116, 117, 118, 119, 120, 121, 122, 48, 49, 50, 51, 52, 53, 54, 55, 56, 57, 45]⟩] (S (bOf ((trimR innerB.data.toList.contains s).dropWhile innerB.data.toList.contains))) := by
  have hm : Pure Tryd.prog 91 [S ⟨#[97, 98, 99, 100, 101, 102, 103, 104, 105, 106, 107, 108, 109, 110, 111, 112, 113, 114, 115, 116, 117, 118, 119, 120, 121, 122, 48, 49, 50, 51, 52, 53, 54, 55, 56, 57, 45]⟩] (tup2 (.agg 256 (setF innerB.data.toList)) (B true)) := makeset_ok innerB (by decide) innerB_asc
  have hle : (trimR innerB.data.toList.contains s).length ≤ 1000 := by
    have := (List.dropWhile_sublist (l := s.reverse) innerB.data.toList.contains).length_le
    simp only [trimR, List.length_reverse] at this ⊢
    omega
  generalize innerB.data.toList = L at *
  intro h; refine callK_body Tryd.func56 rfl (by rw [nt56]; simp) ?_; rw [nt56, rs56]
  rcases s with _ | ⟨c, r⟩
  · have hb0 : bOf [] = ⟨#[]⟩ := rfl
    (repeat' (first | simp [go_sem, X_region, *] | simp (disch := omega) only [om, *] | ((first | refine XC_split ?_ ?_ | refine XG_true ?_ ?_ | refine XG_false ?_ ?_ | refine XRg_true ?_ ?_ | refine XRg_false ?_ ?_) <;> intro hc <;> (try simp only [bl] at hc) <;> (try (exfalso; omega))) | refine XD_w [] [] [] (fun _ => none) mixed (by decide +kernel) (sub_none _) ?_ | (intro bk hbk; (try simp only [go_sem] at hbk))))
    all_goals exact Wk.of_eq (by simp [trimR, hb0])
  · have hne := bOf_ne c r
    have hset : ∀ k, k < 256 → (fun (i' j' : Nat) => if i' = 0 ∧ j' < 256 then setF L j' else AV.any) 0 k = setF L k := fun k hk => by simp [hk]
    (repeat' (first | simp [go_sem, X_region, *] | simp (disch := omega) only [om, *] | ((first | refine XC_split ?_ ?_ | refine XG_true ?_ ?_ | refine XG_false ?_ ?_ | refine XRg_true ?_ ?_ | refine XRg_false ?_ ?_) <;> intro hc <;> (try simp only [bl] at hc) <;> (try (exfalso; omega))) | refine XD_w [] [] [] (fun _ => none) mixed (by decide +kernel) (sub_none _) ?_ | refine Pure.call (hm) ?_ | refine ⟨_, Pure.at (hm), ?_⟩ | refine ⟨_, hm, ?_⟩ | refine PureAt.call (hm) ?_ | fail))
    intro b hb
    refine PureAt.call (right_ok (b := b) (l := L) (upd_same _ _ _) rfl rfl (fun k hk => by simp [hk]) (c :: r) hs) ?_
    refine PureAt.call (left_ok (b := b) (l := L) (upd_same _ _ _) rfl rfl (fun k hk => by simp [hk]) _ hle) ?_
    exact Wk.drop _ (Sub.upd hb (Sub.refl _))
end Go.Proofs.YtmalhikcdideoaaDoor
