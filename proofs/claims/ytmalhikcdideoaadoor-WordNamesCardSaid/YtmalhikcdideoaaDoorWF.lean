/- Go's library, as far as the tokens of the reference need it. -/
import Derived.Test.YtmalhikcdideoaaDoorWE
import Derived.Lib.Bytealg
import Derived.Laws.Externs
set_option linter.unusedVariables false
set_option linter.unusedSimpArgs false
namespace Go.Proofs.YtmalhikcdideoaaDoor
open Go Sl
attribute [local irreducible] LpQ XR XRo XRg XRQ putQ XFv XL XW2 wQ putW X XO XOp XH XHo XW SeqQ BlkQ XOQ XHQ NrmQ XC XM XG XHM XHG XD CallK
theorem idx0_ok (s : ByteArray) (c : UInt8) : Ext Tryd.prog 113 [S s, U8 c] (I (Lib.indexByte s.data.toList c)) := by
  intro w h vals hh ha
  obtain ⟨u1, e1, r1⟩ := ha.2 0 _ rfl
  obtain ⟨u2, e2, r2⟩ := ha.2 1 _ rfl
  cases r1; cases r2
  have hv : vals = #[.string s, .int .u8 c.toNat] := by
    have h1 := ha.1
    apply Array.ext
    · simpa using h1
    · intro i h2 h3
      match i, h3 with
      | 0, _ => rw [Array.getElem?_eq_getElem h2] at e1; simpa using e1
      | 1, _ => rw [Array.getElem?_eq_getElem h2] at e2; simpa using e2
  subst hv
  refine ⟨_, ?_, rfl⟩
  rw [run_callFunc_extern Tryd.func113 (by kernel_rfl) (by kernel_rfl) (by kernel_rfl) (e := Extern.BytealgIndexByte.indexByte) (by kernel_rfl), Lib.run_indexByteString]
  simp
theorem idx_ge (l : List UInt8) (c : UInt8) : decide (0 ≤ Lib.indexByte l c) = l.contains c := by
  have key : -1 ≤ Lib.indexByte l c ∧ (0 ≤ Lib.indexByte l c ↔ c ∈ l) := by
    induction l with
    | nil => simp [Lib.indexByte]
    | cons b l ih =>
      unfold Lib.indexByte
      by_cases hb : b = c
      · simp [hb]
      · have : ¬ c = b := fun e => hb e.symm
        by_cases h1 : Lib.indexByte l c = -1
        · simp [hb, h1, this]; rw [← ih.2]; omega
        · have h2 : 0 ≤ Lib.indexByte l c := by omega
          have h3 := ih.2.1 h2
          simp [hb, h1, h3]; omega
  rw [Bool.eq_iff_iff]; simp [key.2]
theorem idx1_ok (s : ByteArray) (c : UInt8) : Pure Tryd.prog 84 [S s, U8 c] (I (Lib.indexByte s.data.toList c)) := by
  intro h; refine callK_body Tryd.func84 rfl (by rw [nt84]; simp) ?_; rw [nt84, rs84]
  ((repeat' (first | simp [go_sem, X_region, *] | simp (disch := omega) only [om, *] | ((first | refine XC_split ?_ ?_ | refine XG_true ?_ ?_ | refine XG_false ?_ ?_ | refine XRg_true ?_ ?_ | refine XRg_false ?_ ?_) <;> intro hc <;> (try simp only [bl] at hc) <;> (try (exfalso; omega))) | refine XD_w [] [] [] (fun _ => none) mixed (by decide +kernel) (sub_none _) ?_ | refine Pure.call (idx0_ok s c) ?_ | refine ⟨_, Pure.at (idx0_ok s c), ?_⟩ | refine ⟨_, idx0_ok s c, ?_⟩ | (intro bk hbk; (try simp only [go_sem] at hbk)))); all_goals (refine Wk.fin (by repeat (first | exact Sub.refl _ | refine Sub.upd (by simp [*]) ?_)) ?_; first | (simp [*]; done) | (simp only []; (repeat' (first | split | rfl | omega | (simp_all; done))); done) | (simp [*]; (repeat' (first | split | omega | (rw [Bool.eq_iff_iff]; simp; omega))); done) | (simp [*])))
theorem idx2_ok (s : ByteArray) (c : UInt8) : Pure Tryd.prog 48 [S s, U8 c] (I (Lib.indexByte s.data.toList c)) := by
  intro h; refine callK_body Tryd.func48 rfl (by rw [nt48]; simp) ?_; rw [nt48, rs48]
  ((repeat' (first | simp [go_sem, X_region, *] | simp (disch := omega) only [om, *] | ((first | refine XC_split ?_ ?_ | refine XG_true ?_ ?_ | refine XG_false ?_ ?_ | refine XRg_true ?_ ?_ | refine XRg_false ?_ ?_) <;> intro hc <;> (try simp only [bl] at hc) <;> (try (exfalso; omega))) | refine XD_w [] [] [] (fun _ => none) mixed (by decide +kernel) (sub_none _) ?_ | refine Pure.call (idx1_ok s c) ?_ | refine ⟨_, Pure.at (idx1_ok s c), ?_⟩ | refine ⟨_, idx1_ok s c, ?_⟩ | (intro bk hbk; (try simp only [go_sem] at hbk)))); all_goals (refine Wk.fin (by repeat (first | exact Sub.refl _ | refine Sub.upd (by simp [*]) ?_)) ?_; first | (simp [*]; done) | (simp only []; (repeat' (first | split | rfl | omega | (simp_all; done))); done) | (simp [*]; (repeat' (first | split | omega | (rw [Bool.eq_iff_iff]; simp; omega))); done) | (simp [*])))
/-- Where a text is first. -/
def sIdx (v : ByteArray) : List ByteArray → Int → Int
  | [], _ => -1
  | x :: r, i => if v = x then i else sIdx v r (i + 1)
theorem sIdx_ge (v : ByteArray) (l : List ByteArray) (i : Int) (hi : 0 ≤ i) : decide (0 ≤ sIdx v l i) = l.any fun k => decide (v = k) := by
  induction l generalizing i with
  | nil => simp [sIdx]
  | cons x l ih =>
    unfold sIdx
    by_cases h : v = x
    · simp [h, hi]
    · simp [h]; simpa using ih (i + 1) (by omega)
theorem index_ok (v : ByteArray) (l : List ByteArray) : Pure Tryd.prog 85 [encL 1 cS l, S v] (I (sIdx v l 0)) := by
  generalize hR : I (sIdx v l 0) = R
  intro h; refine CallK.lens fun hlen => ?_; have hlen := (hlen _ (by simp only [List.mem_cons, true_or, or_true] : (encL 1 cS l) ∈ _)).encL; refine callK_body Tryd.func85 rfl (by rw [nt85]; simp) ?_; rw [nt85, rs85]
  (repeat' (first | simp [go_sem, X_region, *] | simp (disch := omega) only [om, *] | ((first | refine XC_split ?_ ?_ | refine XG_true ?_ ?_ | refine XG_false ?_ ?_ | refine XRg_true ?_ ?_ | refine XRg_false ?_ ?_) <;> intro hc <;> (try simp only [bl] at hc) <;> (try (exfalso; omega))) | refine XD_w [] [] [] (fun _ => none) mixed (by decide +kernel) (sub_none _) ?_ | (intro bk hbk; (try simp only [go_sem] at hbk))))
  refine X_lp (fun n T h' => ∃ (i : Nat) (r : List ByteArray), n = r.length ∧ i ≤ l.length ∧ l.drop i = r ∧ T 8 = I i ∧ I (sIdx v r i) = R ∧ T 0 = encL 1 cS l ∧ T 1 = S v ∧ T 7 = I l.length ∧ h' = h) l.length ⟨0, l, by simp [go_sem, hR]⟩ ?_
  clear hR; rintro J hJ n T h' ⟨i, r, rfl, hi, hd, h8, hR, h0, h1, h7, rfl⟩
  rcases r with _ | ⟨x, r⟩
  · have hlt := drop_nil hd
    (repeat' (first | simp [go_sem, X_region, *] | simp (disch := omega) only [om, *] | ((first | refine XC_split ?_ ?_ | refine XG_true ?_ ?_ | refine XG_false ?_ ?_ | refine XRg_true ?_ ?_ | refine XRg_false ?_ ?_) <;> intro hc <;> (try simp only [bl] at hc) <;> (try (exfalso; omega))) | refine XD_w [] [] [] (fun _ => none) mixed (by decide +kernel) (sub_none _) ?_ | (intro bk hbk; (try simp only [go_sem] at hbk))))
    all_goals (subst hR; exact Wk.of_eq (by simp [sIdx]))
  · obtain ⟨hlt, hx, hd2⟩ := drop_cons hd
    by_cases he : v = x
    · (repeat' (first | simp [go_sem, X_region, *] | simp (disch := omega) only [om, *] | ((first | refine XC_split ?_ ?_ | refine XG_true ?_ ?_ | refine XG_false ?_ ?_ | refine XRg_true ?_ ?_ | refine XRg_false ?_ ?_) <;> intro hc <;> (try simp only [bl] at hc) <;> (try (exfalso; omega))) | refine XD_w [] [] [] (fun _ => none) mixed (by decide +kernel) (sub_none _) ?_ | (intro bk hbk; (try simp only [go_sem] at hbk))))
      all_goals (subst hR; exact Wk.of_eq (by simp [sIdx, *]))
    · (repeat' (first | simp [go_sem, X_region, *] | simp (disch := omega) only [om, *] | ((first | refine XC_split ?_ ?_ | refine XG_true ?_ ?_ | refine XG_false ?_ ?_ | refine XRg_true ?_ ?_ | refine XRg_false ?_ ?_) <;> intro hc <;> (try simp only [bl] at hc) <;> (try (exfalso; omega))) | refine XD_w [] [] [] (fun _ => none) mixed (by decide +kernel) (sub_none _) ?_ | (intro bk hbk; (try simp only [go_sem] at hbk))))
      exact ⟨_, by omega, hJ.out _ _ _ ⟨i + 1, r, rfl, by omega, hd2, by simp [go_sem, *], by rw [← hR]; simp [sIdx, he], by simp [go_sem, *], by simp [go_sem, *], by simp [go_sem, *], rfl⟩⟩
theorem contains_ok (v : ByteArray) (l : List ByteArray) : Pure Tryd.prog 49 [encL 1 cS l, S v] (B (l.any fun k => decide (v = k))) := by
  intro h; refine callK_body Tryd.func49 rfl (by rw [nt49]; simp) ?_; rw [nt49, rs49]
  rw [← sIdx_ge v l 0 (by omega)]
  ((repeat' (first | simp [go_sem, X_region, *] | simp (disch := omega) only [om, *] | ((first | refine XC_split ?_ ?_ | refine XG_true ?_ ?_ | refine XG_false ?_ ?_ | refine XRg_true ?_ ?_ | refine XRg_false ?_ ?_) <;> intro hc <;> (try simp only [bl] at hc) <;> (try (exfalso; omega))) | refine XD_w [] [] [] (fun _ => none) mixed (by decide +kernel) (sub_none _) ?_ | refine Pure.call (index_ok v l) ?_ | refine ⟨_, Pure.at (index_ok v l), ?_⟩ | refine ⟨_, index_ok v l, ?_⟩ | (intro bk hbk; (try simp only [go_sem] at hbk)))); all_goals (refine Wk.fin (by repeat (first | exact Sub.refl _ | refine Sub.upd (by simp [*]) ?_)) ?_; first | (simp [*]; done) | (simp only []; (repeat' (first | split | rfl | omega | (simp_all; done))); done) | (simp [*]; (repeat' (first | split | omega | (rw [Bool.eq_iff_iff]; simp; omega))); done) | (simp [*])))
end Go.Proofs.YtmalhikcdideoaaDoor
