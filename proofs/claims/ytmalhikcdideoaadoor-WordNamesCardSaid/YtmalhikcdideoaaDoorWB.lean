/- The package word: what its functions return. -/
import Derived.Test.YtmalhikcdideoaaDoorWA
set_option linter.unusedVariables false
set_option linter.unusedSimpArgs false
namespace Go.Proofs.YtmalhikcdideoaaDoor
open Go Sl
attribute [local irreducible] LpQ XR XRo XRg XRQ putQ XFv XL XW2 wQ putW X XO XOp XH XHo XW SeqQ BlkQ XOQ XHQ NrmQ XC XM XG XHM XHG XD CallK
theorem letter_ok (c : UInt8) : Pure Tryd.prog 53 [U8 c] (B (isLetter c)) := by
  intro h; refine callK_body Tryd.func53 rfl (by rw [nt53]; simp) ?_; rw [nt53, rs53]
  ((repeat' (first | simp [go_sem, X_region, *] | simp (disch := omega) only [om, *] | ((first | refine XC_split ?_ ?_ | refine XG_true ?_ ?_ | refine XG_false ?_ ?_ | refine XRg_true ?_ ?_ | refine XRg_false ?_ ?_) <;> intro hc <;> (try simp only [bl] at hc) <;> (try (exfalso; omega))) | refine XD_w [] [] [] (fun _ => none) mixed (by decide +kernel) (sub_none _) ?_ | (intro bk hbk; (try simp only [go_sem] at hbk)))); all_goals (refine Wk.fin (by repeat (first | exact Sub.refl _ | refine Sub.upd (by simp [*]) ?_)) ?_; first | (simp [isLetter, *]; done) | (simp only [isLetter]; (repeat' (first | split | rfl | omega | (simp_all; done))); done) | (simp [isLetter, *]; (repeat' (first | split | omega | (rw [Bool.eq_iff_iff]; simp; omega))); done) | (simp [isLetter, *])))
theorem digit_ok (c : UInt8) : Pure Tryd.prog 82 [U8 c] (B (isDigit c)) := by
  intro h; refine callK_body Tryd.func82 rfl (by rw [nt82]; simp) ?_; rw [nt82, rs82]
  ((repeat' (first | simp [go_sem, X_region, *] | simp (disch := omega) only [om, *] | ((first | refine XC_split ?_ ?_ | refine XG_true ?_ ?_ | refine XG_false ?_ ?_ | refine XRg_true ?_ ?_ | refine XRg_false ?_ ?_) <;> intro hc <;> (try simp only [bl] at hc) <;> (try (exfalso; omega))) | refine XD_w [] [] [] (fun _ => none) mixed (by decide +kernel) (sub_none _) ?_ | (intro bk hbk; (try simp only [go_sem] at hbk)))); all_goals (refine Wk.fin (by repeat (first | exact Sub.refl _ | refine Sub.upd (by simp [*]) ?_)) ?_; first | (simp [isDigit, *]; done) | (simp only [isDigit]; (repeat' (first | split | rfl | omega | (simp_all; done))); done) | (simp [isDigit, *]; (repeat' (first | split | omega | (rw [Bool.eq_iff_iff]; simp; omega))); done) | (simp [isDigit, *])))
theorem inner_ok (c : UInt8) : Pure Tryd.prog 54 [U8 c] (B (isInner c)) := by
  intro h; refine callK_body Tryd.func54 rfl (by rw [nt54]; simp) ?_; rw [nt54, rs54]
  ((repeat' (first | simp [go_sem, X_region, *] | simp (disch := omega) only [om, *] | ((first | refine XC_split ?_ ?_ | refine XG_true ?_ ?_ | refine XG_false ?_ ?_ | refine XRg_true ?_ ?_ | refine XRg_false ?_ ?_) <;> intro hc <;> (try simp only [bl] at hc) <;> (try (exfalso; omega))) | refine XD_w [] [] [] (fun _ => none) mixed (by decide +kernel) (sub_none _) ?_ | refine Pure.call (letter_ok c) ?_ | refine ⟨_, Pure.at (letter_ok c), ?_⟩ | refine ⟨_, letter_ok c, ?_⟩ | refine Pure.call (digit_ok c) ?_ | refine ⟨_, Pure.at (digit_ok c), ?_⟩ | refine ⟨_, digit_ok c, ?_⟩ | (intro bk hbk; (try simp only [go_sem] at hbk)))); all_goals (refine Wk.fin (by repeat (first | exact Sub.refl _ | refine Sub.upd (by simp [*]) ?_)) ?_; first | (simp [isInner, *]; done) | (simp only [isInner]; (repeat' (first | split | rfl | omega | (simp_all; done))); done) | (simp [isInner, *]; (repeat' (first | split | omega | (rw [Bool.eq_iff_iff]; simp; omega))); done) | (simp [isInner, *])))
theorem num_ok (c : UInt8) : Pure Tryd.prog 83 [U8 c] (B (isNum c)) := by
  intro h; refine callK_body Tryd.func83 rfl (by rw [nt83]; simp) ?_; rw [nt83, rs83]
  ((repeat' (first | simp [go_sem, X_region, *] | simp (disch := omega) only [om, *] | ((first | refine XC_split ?_ ?_ | refine XG_true ?_ ?_ | refine XG_false ?_ ?_ | refine XRg_true ?_ ?_ | refine XRg_false ?_ ?_) <;> intro hc <;> (try simp only [bl] at hc) <;> (try (exfalso; omega))) | refine XD_w [] [] [] (fun _ => none) mixed (by decide +kernel) (sub_none _) ?_ | refine Pure.call (digit_ok c) ?_ | refine ⟨_, Pure.at (digit_ok c), ?_⟩ | refine ⟨_, digit_ok c, ?_⟩ | (intro bk hbk; (try simp only [go_sem] at hbk)))); all_goals (refine Wk.fin (by repeat (first | exact Sub.refl _ | refine Sub.upd (by simp [*]) ?_)) ?_; first | (simp [isNum, *]; done) | (simp only [isNum]; (repeat' (first | split | rfl | omega | (simp_all; done))); done) | (simp [isNum, *]; (repeat' (first | split | omega | (rw [Bool.eq_iff_iff]; simp; omega))); done) | (simp [isNum, *])))
theorem nan1_ok (s : ByteArray) : Pure Tryd.prog 116 [S s] (B false) := by
  intro h; refine callK_body Tryd.func116 rfl (by rw [nt116]; simp) ?_; rw [nt116, rs116]
  ((repeat' (first | simp [go_sem, X_region, *] | simp (disch := omega) only [om, *] | ((first | refine XC_split ?_ ?_ | refine XG_true ?_ ?_ | refine XG_false ?_ ?_ | refine XRg_true ?_ ?_ | refine XRg_false ?_ ?_) <;> intro hc <;> (try simp only [bl] at hc) <;> (try (exfalso; omega))) | refine XD_w [] [] [] (fun _ => none) mixed (by decide +kernel) (sub_none _) ?_ | (intro bk hbk; (try simp only [go_sem] at hbk)))); all_goals (refine Wk.fin (by repeat (first | exact Sub.refl _ | refine Sub.upd (by simp [*]) ?_)) ?_; first | (simp [*]; done) | (simp only []; (repeat' (first | split | rfl | omega | (simp_all; done))); done) | (simp [*]; (repeat' (first | split | omega | (rw [Bool.eq_iff_iff]; simp; omega))); done) | (simp [*])))
theorem nan2_ok (s : ByteArray) : Pure Tryd.prog 88 [S s] (B false) := by
  intro h; refine callK_body Tryd.func88 rfl (by rw [nt88]; simp) ?_; rw [nt88, rs88]
  ((repeat' (first | simp [go_sem, X_region, *] | simp (disch := omega) only [om, *] | ((first | refine XC_split ?_ ?_ | refine XG_true ?_ ?_ | refine XG_false ?_ ?_ | refine XRg_true ?_ ?_ | refine XRg_false ?_ ?_) <;> intro hc <;> (try simp only [bl] at hc) <;> (try (exfalso; omega))) | refine XD_w [] [] [] (fun _ => none) mixed (by decide +kernel) (sub_none _) ?_ | (intro bk hbk; (try simp only [go_sem] at hbk)))); all_goals (refine Wk.fin (by repeat (first | exact Sub.refl _ | refine Sub.upd (by simp [*]) ?_)) ?_; first | (simp [*]; done) | (simp only []; (repeat' (first | split | rfl | omega | (simp_all; done))); done) | (simp [*]; (repeat' (first | split | omega | (rw [Bool.eq_iff_iff]; simp; omega))); done) | (simp [*])))
theorem less_ok (a b : ByteArray) : Pure Tryd.prog 87 [S a, S b] (B (Op.bytesLess a.data.toList b.data.toList)) := by
  intro h; refine callK_body Tryd.func87 rfl (by rw [nt87]; simp) ?_; rw [nt87, rs87]
  ((repeat' (first | simp [go_sem, X_region, *] | simp (disch := omega) only [om, *] | ((first | refine XC_split ?_ ?_ | refine XG_true ?_ ?_ | refine XG_false ?_ ?_ | refine XRg_true ?_ ?_ | refine XRg_false ?_ ?_) <;> intro hc <;> (try simp only [bl] at hc) <;> (try (exfalso; omega))) | refine XD_w [] [] [] (fun _ => none) mixed (by decide +kernel) (sub_none _) ?_ | refine Pure.call (nan1_ok _) ?_ | refine ⟨_, Pure.at (nan1_ok _), ?_⟩ | refine ⟨_, nan1_ok _, ?_⟩ | (intro bk hbk; (try simp only [go_sem] at hbk)))); all_goals (refine Wk.fin (by repeat (first | exact Sub.refl _ | refine Sub.upd (by simp [*]) ?_)) ?_; first | (simp [*]; done) | (simp only []; (repeat' (first | split | rfl | omega | (simp_all; done))); done) | (simp [*]; (repeat' (first | split | omega | (rw [Bool.eq_iff_iff]; simp; omega))); done) | (simp [*])))
theorem gb_at {s : ByteArray} {i : Nat} {c : UInt8} {r : List UInt8} (h : s.data.toList.drop i = c :: r) : gb s i = c := by
  obtain ⟨h1, h2, _⟩ := drop_cons h
  unfold gb
  rw [List.getD_eq_getElem?_getD, List.getElem?_eq_getElem h1, h2]; rfl
theorem size_list (s : ByteArray) : s.data.toList.length = s.size := by simp
theorem str_nil {s : ByteArray} {i : Nat} (h : s.data.toList.drop i = []) : ¬ i < s.size := by
  have := drop_nil h
  rwa [size_list] at this
theorem str_cons {s : ByteArray} {i : Nat} {c : UInt8} {r : List UInt8} (h : s.data.toList.drop i = c :: r) : i < s.size ∧ gb s i = c ∧ s.data.toList.drop (i + 1) = r := by
  obtain ⟨h1, h2, h3⟩ := drop_cons h
  exact ⟨by rwa [size_list] at h1, gb_at h, h3⟩
theorem span_ok (f : FuncId) (hc : callable Tryd.prog f = true) (p : UInt8 → Bool) (hp : ∀ c, Pure Tryd.prog f [U8 c] (B (p c))) (s : ByteArray) (a : Nat) (ha : a ≤ s.size) (hs : s.size ≤ 140737488355328) :
    Pure Tryd.prog 81 [S s, I a, .v (.func (.func f) #[] #[])] (I ((s.data.toList.drop a).takeWhile p).length) := by
  generalize hR : I ((s.data.toList.drop a).takeWhile p).length = R
  intro h; refine callK_body Tryd.func81 rfl (by rw [nt81]; simp) ?_; rw [nt81, rs81]
  (repeat' (first | simp [go_sem, X_region, *] | simp (disch := omega) only [om, *] | ((first | refine XC_split ?_ ?_ | refine XG_true ?_ ?_ | refine XG_false ?_ ?_ | refine XRg_true ?_ ?_ | refine XRg_false ?_ ?_) <;> intro hc <;> (try simp only [bl] at hc) <;> (try (exfalso; omega))) | refine XD_w [] [] [] (fun _ => none) mixed (by decide +kernel) (sub_none _) ?_ | (intro bk hbk; (try simp only [go_sem] at hbk))))
  refine X_lp (fun n T h' => ∃ (i : Nat) (r : List UInt8), n = r.length ∧ a + i ≤ s.size ∧ s.data.toList.drop (a + i) = r ∧ T 7 = I i ∧ I ((i + (r.takeWhile p).length : Nat) : Int) = R ∧ T 0 = S s ∧ T 1 = I a ∧ T 2 = .v (.func (.func f) #[] #[]) ∧ h' = h) _ ⟨0, _, rfl, ha, rfl, by simp [go_sem], by simpa using hR, by simp [go_sem], by simp [go_sem], by simp [go_sem], rfl⟩ ?_
  clear hR; rintro J hJ n T h' ⟨i, r, rfl, hi, hd, h7, hR, h0, h1, h2, rfl⟩
  rcases r with _ | ⟨c, r⟩
  · have hlt := str_nil hd
    (repeat' (first | simp [go_sem, X_region, *] | simp (disch := omega) only [om, *] | ((first | refine XC_split ?_ ?_ | refine XG_true ?_ ?_ | refine XG_false ?_ ?_ | refine XRg_true ?_ ?_ | refine XRg_false ?_ ?_) <;> intro hc <;> (try simp only [bl] at hc) <;> (try (exfalso; omega))) | refine XD_w [] [] [] (fun _ => none) mixed (by decide +kernel) (sub_none _) ?_ | (intro bk hbk; (try simp only [go_sem] at hbk))))
    trace_state
    all_goals (subst hR; exact Wk.of_eq (by simp))
  · obtain ⟨hlt, hg, hd2⟩ := str_cons hd
    cases hpc : p c
    · (repeat' (first | simp [go_sem, X_region, *] | simp (disch := omega) only [om, *] | ((first | refine XC_split ?_ ?_ | refine XG_true ?_ ?_ | refine XG_false ?_ ?_ | refine XRg_true ?_ ?_ | refine XRg_false ?_ ?_) <;> intro hc <;> (try simp only [bl] at hc) <;> (try (exfalso; omega))) | refine XD_w [] [] [] (fun _ => none) mixed (by decide +kernel) (sub_none _) ?_ | refine Pure.call (hp c) ?_ | refine ⟨_, Pure.at (hp c), ?_⟩ | refine ⟨_, hp c, ?_⟩ | (intro bk hbk; (try simp only [go_sem] at hbk))))
      trace_state
      all_goals (subst hR; exact Wk.of_eq (by simp [hpc]))
    · (repeat' (first | simp [go_sem, X_region, *] | simp (disch := omega) only [om, *] | ((first | refine XC_split ?_ ?_ | refine XG_true ?_ ?_ | refine XG_false ?_ ?_ | refine XRg_true ?_ ?_ | refine XRg_false ?_ ?_) <;> intro hc <;> (try simp only [bl] at hc) <;> (try (exfalso; omega))) | refine XD_w [] [] [] (fun _ => none) mixed (by decide +kernel) (sub_none _) ?_ | refine Pure.call (hp c) ?_ | refine ⟨_, Pure.at (hp c), ?_⟩ | refine ⟨_, hp c, ?_⟩ | (intro bk hbk; (try simp only [go_sem] at hbk))))
      exact ⟨_, Nat.lt_succ_self _, hJ.out _ _ _ ⟨i + 1, r, rfl, by omega, by rw [← Nat.add_assoc]; exact hd2, by simp [go_sem, *], by rw [← hR]; simp [hpc]; omega, by simp [go_sem, *], by simp [go_sem, *], by simp [go_sem, *], rfl⟩⟩
end Go.Proofs.YtmalhikcdideoaaDoor
