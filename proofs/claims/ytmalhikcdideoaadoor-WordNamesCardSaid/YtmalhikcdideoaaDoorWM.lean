/- Names: word.Name, the reference's Name, equality of lists of texts, the law WordNames. -/
import Derived.Test.YtmalhikcdideoaaDoorWL
set_option linter.unusedVariables false
set_option linter.unusedSimpArgs false
namespace Go.Proofs.YtmalhikcdideoaaDoor
open Go Sl
attribute [local irreducible] LpQ XR XRo XRg XRQ putQ XFv XL XW2 wQ putW X XO XOp XH XHo XW SeqQ BlkQ XOQ XHQ NrmQ XC XM XG XHM XHG XD CallK
@[go_sem] theorem binA_beq {P : Program} (t : TypeId) (a b : Bool) (h : P.underlying t = some .bool) : binA P .eql t (.v (.bool a)) (.v (.bool b)) = some (.bool (a == b)) := by simp [binA, h]
@[go_sem] theorem binA_bne {P : Program} (t : TypeId) (a b : Bool) (h : P.underlying t = some .bool) : binA P .neq t (.v (.bool a)) (.v (.bool b)) = some (.bool (!(a == b))) := by simp [binA, h]
def nameF (s : ByteArray) : Bool := decide (0 < s.size ∧ s.size ≤ 20) && isLetter (gb s 0) && s.data.toList.all isInner && !isKey s
theorem wname_ok (s : ByteArray) (hs : s.size ≤ 140737488355328) : Pure Tryd.prog 17 [S s] (B (nameF s)) := by
  generalize hR : nameF s = R
  intro h; refine callK_body Tryd.func17 rfl (by rw [nt17]; simp) ?_; rw [nt17, rs17]
  by_cases hz : s = ⟨#[]⟩
  · subst hz
    (repeat' (first | simp [go_sem, X_region, *] | simp (disch := omega) only [om, *] | ((first | refine XC_split ?_ ?_ | refine XG_true ?_ ?_ | refine XG_false ?_ ?_ | refine XRg_true ?_ ?_ | refine XRg_false ?_ ?_) <;> intro hc <;> (try simp only [bl] at hc) <;> (try (exfalso; omega))) | refine XD_w [] [] [] (fun _ => none) mixed (by decide +kernel) (sub_none _) ?_ | fail))
    all_goals (subst hR; exact Wk.of_eq rfl)
  · have hpos : 0 < s.size := by
      rcases s with ⟨⟨l⟩⟩
      rcases l with _ | ⟨c, r⟩
      · exact absurd rfl hz
      · simp [ByteArray.size]
    by_cases hbig : 20 < s.size
    · (repeat' (first | simp [go_sem, X_region, *] | simp (disch := omega) only [om, *] | ((first | refine XC_split ?_ ?_ | refine XG_true ?_ ?_ | refine XG_false ?_ ?_ | refine XRg_true ?_ ?_ | refine XRg_false ?_ ?_) <;> intro hc <;> (try simp only [bl] at hc) <;> (try (exfalso; omega))) | refine XD_w [] [] [] (fun _ => none) mixed (by decide +kernel) (sub_none _) ?_ | fail))
      all_goals (subst hR; exact Wk.of_eq (by simp [nameF, show ¬ s.size ≤ 20 by omega]))
    · have hlt := letter_ok (gb s 0)
      cases hl : isLetter (gb s 0)
      · rw [hl] at hlt
        (repeat' (first | simp [go_sem, X_region, *] | simp (disch := omega) only [om, *] | ((first | refine XC_split ?_ ?_ | refine XG_true ?_ ?_ | refine XG_false ?_ ?_ | refine XRg_true ?_ ?_ | refine XRg_false ?_ ?_) <;> intro hc <;> (try simp only [bl] at hc) <;> (try (exfalso; omega))) | refine XD_w [] [] [] (fun _ => none) mixed (by decide +kernel) (sub_none _) ?_ | refine Pure.call (hlt) ?_ | refine ⟨_, Pure.at (hlt), ?_⟩ | refine ⟨_, hlt, ?_⟩ | refine PureAt.call (hlt) ?_ | fail))
        all_goals (subst hR; exact Wk.of_eq (by simp [nameF, hl]))
      · rw [hl] at hlt
        have hb := bs_ok keysB s (by decide)
        rw [foundB_mem _ _ keys_rising, show (keysB.any fun k => decide (s = k)) = isKey s from rfl] at hb
        have hR2 : (s.data.toList.all isInner && !isKey s) = R := by rw [← hR]; simp [nameF, hl, hpos, show s.size ≤ 20 by omega]
        clear hR
        (repeat' (first | simp [go_sem, X_region, *] | simp (disch := omega) only [om, *] | ((first | refine XC_split ?_ ?_ | refine XG_true ?_ ?_ | refine XG_false ?_ ?_ | refine XRg_true ?_ ?_ | refine XRg_false ?_ ?_) <;> intro hc <;> (try simp only [bl] at hc) <;> (try (exfalso; omega))) | refine XD_w [] [] [] (fun _ => none) mixed (by decide +kernel) (sub_none _) ?_ | refine Pure.call (hlt) ?_ | refine ⟨_, Pure.at (hlt), ?_⟩ | refine ⟨_, hlt, ?_⟩ | refine PureAt.call (hlt) ?_ | fail))
        refine X_lp (fun n T h' => ∃ (i : Nat) (r : List UInt8), n = r.length ∧ i ≤ s.size ∧ s.data.toList.drop i = r ∧ (r.all isInner && !isKey s) = R ∧ T 0 = S s ∧ T 21 = I i ∧ T 20 = I s.size ∧ h' = h) _ ⟨0, _, rfl, by omega, rfl, hR2, by simp [go_sem], by simp [go_sem], by simp [go_sem], rfl⟩ ?_
        clear hR2
        rintro J hJ n T h' ⟨i, r, rfl, hi, hd, hR, t0, t1, t2, rfl⟩
        rcases r with _ | ⟨c, r⟩
        · have hnl := str_nil hd
          (repeat' (first | simp [go_sem, X_region, *] | simp (disch := omega) only [om, *] | ((first | refine XC_split ?_ ?_ | refine XG_true ?_ ?_ | refine XG_false ?_ ?_ | refine XRg_true ?_ ?_ | refine XRg_false ?_ ?_) <;> intro hc <;> (try simp only [bl] at hc) <;> (try (exfalso; omega))) | refine XD_w [] [] [] (fun _ => none) mixed (by decide +kernel) (sub_none _) ?_ | refine Pure.call (keys_ok) ?_ | refine ⟨_, Pure.at (keys_ok), ?_⟩ | refine ⟨_, keys_ok, ?_⟩ | refine PureAt.call (keys_ok) ?_ | refine Pure.call (hb) ?_ | refine ⟨_, Pure.at (hb), ?_⟩ | refine ⟨_, hb, ?_⟩ | refine PureAt.call (hb) ?_ | fail))
          all_goals (subst hR; exact Wk.of_eq (by simp))
        · obtain ⟨hlt2, hg, hd2⟩ := str_cons hd
          have hi2 := inner_ok c
          cases hc : isInner c
          · rw [hc] at hi2
            (repeat' (first | simp [go_sem, X_region, *] | simp (disch := omega) only [om, *] | ((first | refine XC_split ?_ ?_ | refine XG_true ?_ ?_ | refine XG_false ?_ ?_ | refine XRg_true ?_ ?_ | refine XRg_false ?_ ?_) <;> intro hc <;> (try simp only [bl] at hc) <;> (try (exfalso; omega))) | refine XD_w [] [] [] (fun _ => none) mixed (by decide +kernel) (sub_none _) ?_ | refine Pure.call (hi2) ?_ | refine ⟨_, Pure.at (hi2), ?_⟩ | refine ⟨_, hi2, ?_⟩ | refine PureAt.call (hi2) ?_ | fail))
            all_goals (subst hR; exact Wk.of_eq (by simp [hc]))
          · rw [hc] at hi2
            (repeat' (first | simp [go_sem, X_region, *] | simp (disch := omega) only [om, *] | ((first | refine XC_split ?_ ?_ | refine XG_true ?_ ?_ | refine XG_false ?_ ?_ | refine XRg_true ?_ ?_ | refine XRg_false ?_ ?_) <;> intro hc <;> (try simp only [bl] at hc) <;> (try (exfalso; omega))) | refine XD_w [] [] [] (fun _ => none) mixed (by decide +kernel) (sub_none _) ?_ | refine Pure.call (hi2) ?_ | refine ⟨_, Pure.at (hi2), ?_⟩ | refine ⟨_, hi2, ?_⟩ | refine PureAt.call (hi2) ?_ | fail))
            exact ⟨r.length, by omega, hJ.out _ _ _ ⟨i + 1, r, rfl, by omega, hd2, by rw [← hR]; simp [hc], by simp [go_sem, *], by simp [go_sem, *], by simp [go_sem, *], rfl⟩⟩
theorem eqs_ok (l m : List ByteArray) : Pure Tryd.prog 15 [encL 1 cS l, encL 1 cS m] (B (decide (l = m))) := by
  generalize hR : B (decide (l = m)) = R
  intro h; refine CallK.lens fun hlen => ?_; have hlen := (hlen _ (by simp only [List.mem_cons, true_or, or_true] : (encL 1 cS l) ∈ _)).encL; refine callK_body Tryd.func15 rfl (by rw [nt15]; simp) ?_; rw [nt15, rs15]
  by_cases hlm : l.length = m.length
  · (repeat' (first | simp [go_sem, X_region, *] | simp (disch := omega) only [om, *] | ((first | refine XC_split ?_ ?_ | refine XG_true ?_ ?_ | refine XG_false ?_ ?_ | refine XRg_true ?_ ?_ | refine XRg_false ?_ ?_) <;> intro hc <;> (try simp only [bl] at hc) <;> (try (exfalso; omega))) | refine XD_w [] [] [] (fun _ => none) mixed (by decide +kernel) (sub_none _) ?_ | (intro bk hbk; (try simp only [go_sem] at hbk))))
    refine X_lp (fun n T h' => ∃ (i : Nat) (r r2 : List ByteArray), n = r.length ∧ i ≤ l.length ∧ l.drop i = r ∧ m.drop i = r2 ∧ T 13 = I i ∧ B (decide (r = r2)) = R ∧ T 0 = encL 1 cS l ∧ T 1 = encL 1 cS m ∧ T 12 = I l.length ∧ h' = h) l.length ⟨0, l, m, by simp [go_sem, hR, hlm]⟩ ?_
    clear hR; rintro J hJ n T h' ⟨i, r, r2, rfl, hi, hd, hd', h8, hR, h0, h1, h7, rfl⟩
    rcases r with _ | ⟨x, r⟩
    · have hlt := drop_nil hd
      rcases r2 with _ | ⟨y, r2⟩
      · (repeat' (first | simp [go_sem, X_region, *] | simp (disch := omega) only [om, *] | ((first | refine XC_split ?_ ?_ | refine XG_true ?_ ?_ | refine XG_false ?_ ?_ | refine XRg_true ?_ ?_ | refine XRg_false ?_ ?_) <;> intro hc <;> (try simp only [bl] at hc) <;> (try (exfalso; omega))) | refine XD_w [] [] [] (fun _ => none) mixed (by decide +kernel) (sub_none _) ?_ | (intro bk hbk; (try simp only [go_sem] at hbk))))
        all_goals (subst hR; exact Wk.of_eq (by simp))
      · obtain ⟨hlt2, _⟩ := drop_cons hd'
        omega
    · obtain ⟨hlt, hx, hd2⟩ := drop_cons hd
      rcases r2 with _ | ⟨y, r2⟩
      · have hlt2 := drop_nil hd'
        omega
      · obtain ⟨hlt2, hx2, hd2'⟩ := drop_cons hd'
        by_cases he : x = y
        · (repeat' (first | simp [go_sem, X_region, *] | simp (disch := omega) only [om, *] | ((first | refine XC_split ?_ ?_ | refine XG_true ?_ ?_ | refine XG_false ?_ ?_ | refine XRg_true ?_ ?_ | refine XRg_false ?_ ?_) <;> intro hc <;> (try simp only [bl] at hc) <;> (try (exfalso; omega))) | refine XD_w [] [] [] (fun _ => none) mixed (by decide +kernel) (sub_none _) ?_ | (intro bk hbk; (try simp only [go_sem] at hbk))))
          exact ⟨_, by omega, hJ.out _ _ _ ⟨i + 1, r, r2, rfl, by omega, hd2, hd2', by simp [go_sem, *], by rw [← hR, he]; simp, by simp [go_sem, *], by simp [go_sem, *], by simp [go_sem, *], rfl⟩⟩
        · (repeat' (first | simp [go_sem, X_region, *] | simp (disch := omega) only [om, *] | ((first | refine XC_split ?_ ?_ | refine XG_true ?_ ?_ | refine XG_false ?_ ?_ | refine XRg_true ?_ ?_ | refine XRg_false ?_ ?_) <;> intro hc <;> (try simp only [bl] at hc) <;> (try (exfalso; omega))) | refine XD_w [] [] [] (fun _ => none) mixed (by decide +kernel) (sub_none _) ?_ | (intro bk hbk; (try simp only [go_sem] at hbk))))
          all_goals (subst hR; exact Wk.of_eq (by simp [he]))
  · have hne : ¬ l = m := fun e => hlm (by rw [e])
    (repeat' (first | simp [go_sem, X_region, *] | simp (disch := omega) only [om, *] | ((first | refine XC_split ?_ ?_ | refine XG_true ?_ ?_ | refine XG_false ?_ ?_ | refine XRg_true ?_ ?_ | refine XRg_false ?_ ?_) <;> intro hc <;> (try simp only [bl] at hc) <;> (try (exfalso; omega))) | refine XD_w [] [] [] (fun _ => none) mixed (by decide +kernel) (sub_none _) ?_ | (intro bk hbk; (try simp only [go_sem] at hbk))))
    subst hR
    exact Wk.of_eq (by simp [*])
theorem rune_ok (c : UInt8) : Pure Tryd.prog 58 [.v (.int .i32 c.toNat)] (B (!isInner c)) := by
  intro h; refine callK_body Tryd.func58 rfl (by rw [nt58]; simp) ?_; rw [nt58, rs58]
  ((repeat' (first | simp [go_sem, X_region, *] | simp (disch := omega) only [om, *] | ((first | refine XC_split ?_ ?_ | refine XG_true ?_ ?_ | refine XG_false ?_ ?_ | refine XRg_true ?_ ?_ | refine XRg_false ?_ ?_) <;> intro hc <;> (try simp only [bl] at hc) <;> (try (exfalso; omega))) | refine XD_w [] [] [] (fun _ => none) mixed (by decide +kernel) (sub_none _) ?_ | (intro bk hbk; (try simp only [go_sem] at hbk)))); all_goals (refine Wk.fin (by repeat (first | exact Sub.refl _ | refine Sub.upd (by simp [*]) ?_)) ?_; first | (simp [isInner, isLetter, isDigit, *]; done) | (simp only [isInner, isLetter, isDigit]; (repeat' (first | split | rfl | omega | (simp_all; done))); done) | (simp [isInner, isLetter, isDigit, *]; (repeat' (first | split | omega | (rw [Bool.eq_iff_iff]; simp; omega))); done) | (simp [isInner, isLetter, isDigit, *])))
theorem decode_asc (s : ByteArray) (i : Nat) (c : UInt8) (h : gb s i = c) (hi : i < s.size) (hc : c.toNat < 128) : Utf8.decode s i = (c.toNat, 1) := by
  have e : s.get! i = c := by
    rw [← h]
    rcases s with ⟨⟨l⟩⟩
    simp only [ByteArray.size, List.size_toArray] at hi
    simp [ByteArray.get!, gb, hi]
  unfold Utf8.decode
  simp [e, hc]
theorem idxfn_ok (s : ByteArray) (hs : s.size ≤ 1000) (ha : ∀ c ∈ s.data.toList, isInner c = true) : Pure Tryd.prog 121 [S s, .v (.func (.func 58) #[] #[]), B true] (I (-1)) := by
  intro h; refine callK_body Tryd.func121 rfl (by rw [nt121]; simp) ?_; rw [nt121, rs121]
  (repeat' (first | simp [go_sem, X_region, *] | simp (disch := omega) only [om, *] | ((first | refine XC_split ?_ ?_ | refine XG_true ?_ ?_ | refine XG_false ?_ ?_ | refine XRg_true ?_ ?_ | refine XRg_false ?_ ?_) <;> intro hc <;> (try simp only [bl] at hc) <;> (try (exfalso; omega))) | refine XD_w [] [] [] (fun _ => none) mixed (by decide +kernel) (sub_none _) ?_ | fail))
  intro b hb
  refine X_lp (fun n T h2 => ∃ (i : Nat) (r : List UInt8), n = r.length ∧ i ≤ s.size ∧ s.data.toList.drop i = r ∧ T 1 = .v (.func (.func 58) #[] #[]) ∧ T 2 = B true ∧ T 10 = ptr b ∧ h2 = upd h b (some (sitOb s i))) _ ⟨0, _, rfl, by omega, rfl, by simp [go_sem], by simp [go_sem], by simp [go_sem], rfl⟩ ?_
  rintro J hJ n T h2 ⟨i, r, rfl, hi, hd, t1, t2, t10, rfl⟩
  rcases r with _ | ⟨c, r⟩
  · have hlt := str_nil hd
    (repeat' (first | simp [go_sem, X_region, *] | simp (disch := omega) only [om, *] | ((first | refine XC_split ?_ ?_ | refine XG_true ?_ ?_ | refine XG_false ?_ ?_ | refine XRg_true ?_ ?_ | refine XRg_false ?_ ?_) <;> intro hc <;> (try simp only [bl] at hc) <;> (try (exfalso; omega))) | refine XD_w [] [] [] (fun _ => none) mixed (by decide +kernel) (sub_none _) ?_ | fail))
    refine X_next (by simp [go_sem, *]) (upd_same _ _ _) (fun hp => absurd hp hlt) fun _ => ?_
    (repeat' (first | simp [go_sem, X_region, *] | simp (disch := omega) only [om, *] | ((first | refine XC_split ?_ ?_ | refine XG_true ?_ ?_ | refine XG_false ?_ ?_ | refine XRg_true ?_ ?_ | refine XRg_false ?_ ?_) <;> intro hc <;> (try simp only [bl] at hc) <;> (try (exfalso; omega))) | refine XD_w [] [] [] (fun _ => none) mixed (by decide +kernel) (sub_none _) ?_ | fail))
    all_goals exact Wk.drop _ (Sub.upd hb (Sub.refl _))
  · obtain ⟨hlt, hg, hd2⟩ := str_cons hd
    have hc := ha c (List.mem_of_mem_drop (by rw [hd]; simp))
    have hasc : c.toNat < 128 := by
      simp only [isInner, isLetter, isDigit, Bool.or_eq_true, decide_eq_true_eq] at hc
      omega
    have hdec := decode_asc s i c hg hlt hasc
    have hr := rune_ok c
    rw [hc] at hr
    (repeat' (first | simp [go_sem, X_region, *] | simp (disch := omega) only [om, *] | ((first | refine XC_split ?_ ?_ | refine XG_true ?_ ?_ | refine XG_false ?_ ?_ | refine XRg_true ?_ ?_ | refine XRg_false ?_ ?_) <;> intro hc <;> (try simp only [bl] at hc) <;> (try (exfalso; omega))) | refine XD_w [] [] [] (fun _ => none) mixed (by decide +kernel) (sub_none _) ?_ | fail))
    refine X_next (by simp [go_sem, *]) (upd_same _ _ _) (fun _ => ?_) fun hp => absurd hlt hp
    rw [hdec]
    (repeat' (first | simp [go_sem, X_region, *] | simp (disch := omega) only [om, *] | ((first | refine XC_split ?_ ?_ | refine XG_true ?_ ?_ | refine XG_false ?_ ?_ | refine XRg_true ?_ ?_ | refine XRg_false ?_ ?_) <;> intro hc <;> (try simp only [bl] at hc) <;> (try (exfalso; omega))) | refine XD_w [] [] [] (fun _ => none) mixed (by decide +kernel) (sub_none _) ?_ | refine Pure.call (hr) ?_ | refine ⟨_, Pure.at (hr), ?_⟩ | refine ⟨_, hr, ?_⟩ | refine PureAt.call (hr) ?_ | fail))
    exact ⟨r.length, by omega, hJ.out _ _ _ ⟨i + 1, r, rfl, by omega, hd2, by simp [go_sem, *], by simp [go_sem, *], by simp [go_sem, *], rfl⟩⟩
theorem cfn_ok (s : ByteArray) (hs : s.size ≤ 1000) (ha : ∀ c ∈ s.data.toList, isInner c = true) : Pure Tryd.prog 57 [S s, .v (.func (.func 58) #[] #[])] (B false) := by
  have h1 : Pure Tryd.prog 96 [S s, .v (.func (.func 58) #[] #[])] (I (-1)) := by
    have h0 := idxfn_ok s hs ha
    intro h; refine callK_body Tryd.func96 rfl (by rw [nt96]; simp) ?_; rw [nt96, rs96]
    ((repeat' (first | simp [go_sem, X_region, *] | simp (disch := omega) only [om, *] | ((first | refine XC_split ?_ ?_ | refine XG_true ?_ ?_ | refine XG_false ?_ ?_ | refine XRg_true ?_ ?_ | refine XRg_false ?_ ?_) <;> intro hc <;> (try simp only [bl] at hc) <;> (try (exfalso; omega))) | refine XD_w [] [] [] (fun _ => none) mixed (by decide +kernel) (sub_none _) ?_ | refine Pure.call (h0) ?_ | refine ⟨_, Pure.at (h0), ?_⟩ | refine ⟨_, h0, ?_⟩ | refine PureAt.call (h0) ?_ | (intro bk hbk; (try simp only [go_sem] at hbk)))); all_goals (refine Wk.fin (by repeat (first | exact Sub.refl _ | refine Sub.upd (by simp [*]) ?_)) ?_; first | (simp [*]; done) | (simp only []; (repeat' (first | split | rfl | omega | (simp_all; done))); done) | (simp [*]; (repeat' (first | split | omega | (rw [Bool.eq_iff_iff]; simp; omega))); done) | (simp [*])))
  intro h; refine callK_body Tryd.func57 rfl (by rw [nt57]; simp) ?_; rw [nt57, rs57]
  ((repeat' (first | simp [go_sem, X_region, *] | simp (disch := omega) only [om, *] | ((first | refine XC_split ?_ ?_ | refine XG_true ?_ ?_ | refine XG_false ?_ ?_ | refine XRg_true ?_ ?_ | refine XRg_false ?_ ?_) <;> intro hc <;> (try simp only [bl] at hc) <;> (try (exfalso; omega))) | refine XD_w [] [] [] (fun _ => none) mixed (by decide +kernel) (sub_none _) ?_ | refine Pure.call (h1) ?_ | refine ⟨_, Pure.at (h1), ?_⟩ | refine ⟨_, h1, ?_⟩ | refine PureAt.call (h1) ?_ | (intro bk hbk; (try simp only [go_sem] at hbk)))); all_goals (refine Wk.fin (by repeat (first | exact Sub.refl _ | refine Sub.upd (by simp [*]) ?_)) ?_; first | (simp [*]; done) | (simp only []; (repeat' (first | split | rfl | omega | (simp_all; done))); done) | (simp [*]; (repeat' (first | split | omega | (rw [Bool.eq_iff_iff]; simp; omega))); done) | (simp [*])))
theorem inner_in (c : UInt8) : innerB.data.toList.contains c = isInner c := set_inner c
theorem rname_ok (s : ByteArray) : Pure Tryd.prog 18 [S s] (B (nameF s)) := by
  generalize hR : nameF s = R
  intro h; refine callK_body Tryd.func18 rfl (by rw [nt18]; simp) ?_; rw [nt18, rs18]
  by_cases hz : s = ⟨#[]⟩
  · subst hz
    (repeat' (first | simp [go_sem, X_region, *] | simp (disch := omega) only [om, *] | ((first | refine XC_split ?_ ?_ | refine XG_true ?_ ?_ | refine XG_false ?_ ?_ | refine XRg_true ?_ ?_ | refine XRg_false ?_ ?_) <;> intro hc <;> (try simp only [bl] at hc) <;> (try (exfalso; omega))) | refine XD_w [] [] [] (fun _ => none) mixed (by decide +kernel) (sub_none _) ?_ | fail))
    all_goals (subst hR; exact Wk.of_eq rfl)
  · have hpos : 0 < s.size := by
      rcases s with ⟨⟨l⟩⟩
      rcases l with _ | ⟨c, r⟩
      · exact absurd rfl hz
      · simp [ByteArray.size]
    by_cases hbig : 20 < s.size
    · (repeat' (first | simp [go_sem, X_region, *] | simp (disch := omega) only [om, *] | ((first | refine XC_split ?_ ?_ | refine XG_true ?_ ?_ | refine XG_false ?_ ?_ | refine XRg_true ?_ ?_ | refine XRg_false ?_ ?_) <;> intro hc <;> (try simp only [bl] at hc) <;> (try (exfalso; omega))) | refine XD_w [] [] [] (fun _ => none) mixed (by decide +kernel) (sub_none _) ?_ | fail))
      all_goals (subst hR; exact Wk.of_eq (by simp [nameF, show ¬ s.size ≤ 20 by omega]))
    · cases hl : isLetter (gb s 0)
      · have hl2 := hl
        simp only [isLetter, decide_eq_false_iff_not] at hl2
        (repeat' (first | simp [go_sem, X_region, *] | simp (disch := omega) only [om, *] | ((first | refine XC_split ?_ ?_ | refine XG_true ?_ ?_ | refine XG_false ?_ ?_ | refine XRg_true ?_ ?_ | refine XRg_false ?_ ?_) <;> intro hc <;> (try simp only [bl] at hc) <;> (try (exfalso; omega))) | refine XD_w [] [] [] (fun _ => none) mixed (by decide +kernel) (sub_none _) ?_ | fail))
        all_goals (subst hR; exact Wk.of_eq (by simp [nameF, hl]))
      · have hl2 := hl
        simp only [isLetter, decide_eq_true_eq] at hl2
        have hR2 : (s.data.toList.all isInner && !isKey s) = R := by rw [← hR]; simp [nameF, hl, hpos, show s.size ≤ 20 by omega]
        have hky : (keysB.any fun k => decide (s = k)) = isKey s := rfl
        have ht : Pure Tryd.prog 56 [S s, S ⟨#[97, 98, 99, 100, 101, 102, 103, 104, 105, 106, 107, 108, 109, 110, 111, 112, 113, 114, 115, 116, 117, 118, 119, 120, 121, 122, 48, 49, 50, 51, 52, 53, 54, 55, 56, 57, 45]⟩] (S (bOf ((trimR innerB.data.toList.contains s.data.toList).dropWhile innerB.data.toList.contains))) := by
          have := trim_ok s.data.toList (by simp; omega)
          rwa [show bOf s.data.toList = s from rfl] at this
        have hta := trim_all innerB.data.toList.contains s.data.toList
        rw [show (innerB.data.toList.contains : UInt8 → Bool) = isInner from funext inner_in] at hta ht
        generalize (trimR isInner s.data.toList).dropWhile isInner = tr at hta ht
        cases hall : s.data.toList.all isInner
        · have hne : ¬ bOf tr = ⟨#[]⟩ := fun e => by
            have : tr = [] := by
              rcases tr with _ | ⟨c, r⟩
              · rfl
              · exact absurd e (bOf_ne c r)
            rw [hta.1 this] at hall
            cases hall
          rw [hall] at hR2
          (repeat' (first | simp [go_sem, X_region, *] | simp (disch := omega) only [om, *] | ((first | refine XC_split ?_ ?_ | refine XG_true ?_ ?_ | refine XG_false ?_ ?_ | refine XRg_true ?_ ?_ | refine XRg_false ?_ ?_) <;> intro hc <;> (try simp only [bl] at hc) <;> (try (exfalso; omega))) | refine XD_w [] [] [] (fun _ => none) mixed (by decide +kernel) (sub_none _) ?_ | refine Pure.call (ht) ?_ | refine ⟨_, Pure.at (ht), ?_⟩ | refine ⟨_, ht, ?_⟩ | refine PureAt.call (ht) ?_ | fail))
          all_goals (subst hR2; exact Wk.of_eq rfl)
        · have he : bOf tr = ⟨#[]⟩ := by rw [hta.2 hall]; rfl
          have hcf := cfn_ok s (by omega) (fun c hc => List.all_eq_true.1 hall c hc)
          rw [hall] at hR2
          rw [he] at ht
          (repeat' (first | simp [go_sem, X_region, *] | simp (disch := omega) only [om, *] | ((first | refine XC_split ?_ ?_ | refine XG_true ?_ ?_ | refine XG_false ?_ ?_ | refine XRg_true ?_ ?_ | refine XRg_false ?_ ?_) <;> intro hc <;> (try simp only [bl] at hc) <;> (try (exfalso; omega))) | refine XD_w [] [] [] (fun _ => none) mixed (by decide +kernel) (sub_none _) ?_ | refine Pure.call (ht) ?_ | refine ⟨_, Pure.at (ht), ?_⟩ | refine ⟨_, ht, ?_⟩ | refine PureAt.call (ht) ?_ | refine Pure.call (hcf) ?_ | refine ⟨_, Pure.at (hcf), ?_⟩ | refine ⟨_, hcf, ?_⟩ | refine PureAt.call (hcf) ?_ | refine Pure.call (reserved_ok) ?_ | refine ⟨_, Pure.at (reserved_ok), ?_⟩ | refine ⟨_, reserved_ok, ?_⟩ | refine PureAt.call (reserved_ok) ?_ | refine Pure.call (contains_ok s keysB) ?_ | refine ⟨_, Pure.at (contains_ok s keysB), ?_⟩ | refine ⟨_, contains_ok s keysB, ?_⟩ | refine PureAt.call (contains_ok s keysB) ?_ | fail))
          all_goals (subst hR2; exact Wk.of_eq (by simp))
theorem keyText_fields : Pure Tryd.prog 14 [S keyText] (encL 1 cS keysB) := by
  have hf := fields_ok keyText (by decide +kernel) keyText_asc
  rwa [keyText_fw] at hf
set_option maxRecDepth 100000 in
theorem names_ok (s : ByteArray) (hs : s.size ≤ 140737488355328) : Pure Tryd.prog 4 [S s] (B true) := by
  have hf := keyText_fields
  unfold keyText at hf
  intro h; refine callK_body Tryd.func4 rfl (by rw [nt4]; simp) ?_; rw [nt4, rs4]
  ((repeat' (first | simp [go_sem, X_region, *] | simp (disch := omega) only [om, *] | ((first | refine XC_split ?_ ?_ | refine XG_true ?_ ?_ | refine XG_false ?_ ?_ | refine XRg_true ?_ ?_ | refine XRg_false ?_ ?_) <;> intro hc <;> (try simp only [bl] at hc) <;> (try (exfalso; omega))) | refine XD_w [] [] [] (fun _ => none) mixed (by decide +kernel) (sub_none _) ?_ | refine Pure.call (hf) ?_ | refine ⟨_, Pure.at (hf), ?_⟩ | refine ⟨_, hf, ?_⟩ | refine PureAt.call (hf) ?_ | refine Pure.call (begun_ok) ?_ | refine ⟨_, Pure.at (begun_ok), ?_⟩ | refine ⟨_, begun_ok, ?_⟩ | refine PureAt.call (begun_ok) ?_ | refine Pure.call (keys_ok) ?_ | refine ⟨_, Pure.at (keys_ok), ?_⟩ | refine ⟨_, keys_ok, ?_⟩ | refine PureAt.call (keys_ok) ?_ | refine Pure.call (eqs_ok keysB keysB) ?_ | refine ⟨_, Pure.at (eqs_ok keysB keysB), ?_⟩ | refine ⟨_, eqs_ok keysB keysB, ?_⟩ | refine PureAt.call (eqs_ok keysB keysB) ?_ | refine Pure.call (wname_ok s hs) ?_ | refine ⟨_, Pure.at (wname_ok s hs), ?_⟩ | refine ⟨_, wname_ok s hs, ?_⟩ | refine PureAt.call (wname_ok s hs) ?_ | refine Pure.call (rname_ok s) ?_ | refine ⟨_, Pure.at (rname_ok s), ?_⟩ | refine ⟨_, rname_ok s, ?_⟩ | refine PureAt.call (rname_ok s) ?_ | (intro bk hbk; (try simp only [go_sem] at hbk)))); all_goals (refine Wk.fin (by repeat (first | exact Sub.refl _ | refine Sub.upd (by simp [*]) ?_)) ?_; first | (simp [*]; done) | (simp only []; (repeat' (first | split | rfl | omega | (simp_all; done))); done) | (simp [*]; (repeat' (first | split | omega | (rw [Bool.eq_iff_iff]; simp; omega))); done) | (simp [*])))
end Go.Proofs.YtmalhikcdideoaaDoor
