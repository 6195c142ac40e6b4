/- The package word: all tokens. -/
import Derived.Test.YtmalhikcdideoaaDoorWD
set_option linter.unusedVariables false
set_option linter.unusedSimpArgs false
namespace Go.Proofs.YtmalhikcdideoaaDoor
open Go Sl
attribute [local irreducible] LpQ XR XRo XRg XRQ putQ XFv XL XW2 wQ putW X XO XOp XH XHo XW SeqQ BlkQ XOQ XHQ NrmQ XC XM XG XHM XHG XD CallK
@[go_sem] def encLn (x : List Tok × Int × Int) : AV := tup3 (encL 3 cT x.1) (I x.2.1) (I x.2.2)
theorem lines_ok (s : ByteArray) (hs : s.size ≤ 140737488355328) : Pure Tryd.prog 11 [S s] (encLn (linesF s)) := by
  generalize hR : linesF s = R
  intro h; refine callK_body Tryd.func11 rfl (by rw [nt11]; simp) ?_; rw [nt11, rs11]
  by_cases hsz : 30000 < s.size
  · rw [linesF, if_pos hsz] at hR
    subst hR
    (repeat' (first | simp [go_sem, X_region, *] | simp (disch := omega) only [om, *] | ((first | refine XC_split ?_ ?_ | refine XG_true ?_ ?_ | refine XG_false ?_ ?_ | refine XRg_true ?_ ?_ | refine XRg_false ?_ ?_) <;> intro hc <;> (try simp only [bl] at hc) <;> (try (exfalso; omega))) | refine XD_w [] [] [] (fun _ => none) mixed (by decide +kernel) (sub_none _) ?_ | (intro bk hbk; (try simp only [go_sem] at hbk))))
    exact Wk.tup3_1 Wk.nil _ _
  · rw [linesF, if_neg hsz] at hR
    (repeat' (first | simp [go_sem, X_region, *] | simp (disch := omega) only [om, *] | ((first | refine XC_split ?_ ?_ | refine XG_true ?_ ?_ | refine XG_false ?_ ?_ | refine XRg_true ?_ ?_ | refine XRg_false ?_ ?_) <;> intro hc <;> (try simp only [bl] at hc) <;> (try (exfalso; omega))) | refine XD_w [] [] [] (fun _ => none) mixed (by decide +kernel) (sub_none _) ?_ | (intro bk hbk; (try simp only [go_sem] at hbk))))
    refine X_lp (fun n T h' => ∃ (i : Nat) (r : List UInt8) (out : List Tok) (line : Int), n = r.length ∧ i ≤ s.size ∧ s.data.toList.drop i = r ∧ out.length ≤ i ∧ 0 ≤ line ∧ line ≤ i + 1 ∧ scanW r line out = R ∧ T 0 = S s ∧ T 6 = I line ∧ T 7 = I i ∧ Own h h' (T 5) 31 3 out.length (cellsL cT out)) _ ⟨0, _, [], 1, rfl, by omega, rfl, by simp, by omega, by omega, hR, by simp [go_sem], by simp [go_sem], by simp [go_sem], by simpa [go_sem] using Own.none⟩ ?_
    clear hR; rintro J hJ n T h' ⟨i, r, out, line, rfl, hi, hd, ho, hl0, hl1, hR, h0, h6, h7, hown⟩
    rcases r with _ | ⟨c, r⟩
    · have hlt := str_nil hd
      rw [scanW] at hR
      subst hR
      (repeat' (first | simp [go_sem, X_region, *] | simp (disch := omega) only [om, *] | ((first | refine XC_split ?_ ?_ | refine XG_true ?_ ?_ | refine XG_false ?_ ?_ | refine XRg_true ?_ ?_ | refine XRg_false ?_ ?_) <;> intro hc <;> (try simp only [bl] at hc) <;> (try (exfalso; omega))) | refine XD_w [] [] [] (fun _ => none) mixed (by decide +kernel) (sub_none _) ?_ | (intro bk hbk; (try simp only [go_sem] at hbk))))
      exact Wk.tup3_1 (hown.frozen (by omega)) _ _
    · obtain ⟨hlt, hg, hd2⟩ := str_cons hd
      have hone := one_ok s i c r hd hs
      have hpos := oneF_pos c r
      have hlen := drop_size hd2 (by omega)
      rw [scanW] at hR
      obtain ⟨k, m, hkm⟩ : ∃ k m, oneF c r = (k, m) := ⟨_, _, rfl⟩
      rw [hkm] at hone hpos hR
      simp only at hone hpos hR
      by_cases hsp : c.toNat = 32 ∨ c.toNat = 10
      · rw [if_pos hsp] at hR
        by_cases h10 : c.toNat = 10
        · rw [if_pos h10] at hR
          (repeat' (first | simp [go_sem, X_region, *] | simp (disch := omega) only [om, *] | ((first | refine XC_split ?_ ?_ | refine XG_true ?_ ?_ | refine XG_false ?_ ?_ | refine XRg_true ?_ ?_ | refine XRg_false ?_ ?_) <;> intro hc <;> (try simp only [bl] at hc) <;> (try (exfalso; omega))) | refine XD_w [] [] [] (fun _ => none) mixed (by decide +kernel) (sub_none _) ?_ | (intro bk hbk; (try simp only [go_sem] at hbk))))
          exact ⟨r.length, by omega, hJ.out _ _ _ ⟨i + 1, r, out, line + 1, rfl, by omega, hd2, by omega, by omega, by omega, hR, by simp [go_sem, *], by simp [go_sem, *], by simp [go_sem, *], by simpa [go_sem] using hown⟩⟩
        · rw [if_neg h10] at hR
          (repeat' (first | simp [go_sem, X_region, *] | simp (disch := omega) only [om, *] | ((first | refine XC_split ?_ ?_ | refine XG_true ?_ ?_ | refine XG_false ?_ ?_ | refine XRg_true ?_ ?_ | refine XRg_false ?_ ?_) <;> intro hc <;> (try simp only [bl] at hc) <;> (try (exfalso; omega))) | refine XD_w [] [] [] (fun _ => none) mixed (by decide +kernel) (sub_none _) ?_ | (intro bk hbk; (try simp only [go_sem] at hbk))))
          exact ⟨r.length, by omega, hJ.out _ _ _ ⟨i + 1, r, out, line, rfl, by omega, hd2, by omega, by omega, by omega, hR, by simp [go_sem, *], by simp [go_sem, *], by simp [go_sem, *], by simpa [go_sem] using hown⟩⟩
      · rw [if_neg hsp] at hR
        simp only [not_or] at hsp
        by_cases hk : k = 0
        · rw [if_pos hk] at hR
          subst hR
          (repeat' (first | simp [go_sem, X_region, *] | simp (disch := omega) only [om, *] | ((first | refine XC_split ?_ ?_ | refine XG_true ?_ ?_ | refine XG_false ?_ ?_ | refine XRg_true ?_ ?_ | refine XRg_false ?_ ?_) <;> intro hc <;> (try simp only [bl] at hc) <;> (try (exfalso; omega))) | refine XD_w [] [] [] (fun _ => none) mixed (by decide +kernel) (sub_none _) ?_ | refine Pure.call (hone) ?_ | refine ⟨_, Pure.at (hone), ?_⟩ | refine ⟨_, hone, ?_⟩ | (intro bk hbk; (try simp only [go_sem] at hbk))))
          exact Wk.tup3_1 (Wk.nil.trans (Wk.drop _ hown.1)) _ _
        · rw [if_neg hk] at hR
          have hpos := hpos hk
          have hx : s.extract i (i + m) = bOf ((c :: r).take m) := by rw [extract_take, hd]
          have hd3 : s.data.toList.drop (i + m) = r.drop (m - 1) := by rw [← hd2, List.drop_drop]; congr 1; omega
          (repeat' (first | simp [go_sem, X_region, *] | simp (disch := omega) only [om, *] | ((first | refine XC_split ?_ ?_ | refine XG_true ?_ ?_ | refine XG_false ?_ ?_ | refine XRg_true ?_ ?_ | refine XRg_false ?_ ?_) <;> intro hc <;> (try simp only [bl] at hc) <;> (try (exfalso; omega))) | refine XD_w [] [] [] (fun _ => none) mixed (by decide +kernel) (sub_none _) ?_ | refine Pure.call (hone) ?_ | refine ⟨_, Pure.at (hone), ?_⟩ | refine ⟨_, hone, ?_⟩ | (intro bk hbk; (try simp only [go_sem] at hbk))))
          refine Own.push (x := ⟨k, bOf ((c :: r).take m), line⟩) (hown) (by simp [go_sem, *]) und23 zr31 by31 (by simp [go_sem]) hbk (by simp [go_sem, *]) rfl (Nat.le_refl _) (by simp [go_sem, *]) (by omega) (by omega) fun a1 h1 hown1 hkeep1 => ?_
          clear hbk
          (repeat' (first | simp [go_sem, X_region, *] | simp (disch := omega) only [om, *] | ((first | refine XC_split ?_ ?_ | refine XG_true ?_ ?_ | refine XG_false ?_ ?_ | refine XRg_true ?_ ?_ | refine XRg_false ?_ ?_) <;> intro hc <;> (try simp only [bl] at hc) <;> (try (exfalso; omega))) | refine XD_w [] [] [] (fun _ => none) mixed (by decide +kernel) (sub_none _) ?_ | (intro bk hbk; (try simp only [go_sem] at hbk))))
          exact ⟨_, by simp; omega, hJ.out _ _ _ ⟨i + m, r.drop (m - 1), out ++ [⟨k, bOf ((c :: r).take m), line⟩], line, rfl, by omega, hd3, by simp; omega, by omega, by omega, hR, by simp [go_sem, *], by simp [go_sem, *], by simp [go_sem, *], by simpa [go_sem] using hown1⟩⟩
theorem scan_ok (s : ByteArray) (hs : s.size ≤ 140737488355328) : Pure Tryd.prog 10 [S s] (tup2 (encL 3 cT (linesF s).1) (I (linesF s).2.2)) := by
  intro h; refine callK_body Tryd.func10 rfl (by rw [nt10]; simp) ?_; rw [nt10, rs10]
  have hl := lines_ok s hs
  (repeat' (first | simp [go_sem, X_region, *] | simp (disch := omega) only [om, *] | ((first | refine XC_split ?_ ?_ | refine XG_true ?_ ?_ | refine XG_false ?_ ?_ | refine XRg_true ?_ ?_ | refine XRg_false ?_ ?_) <;> intro hc <;> (try simp only [bl] at hc) <;> (try (exfalso; omega))) | refine XD_w [] [] [] (fun _ => none) mixed (by decide +kernel) (sub_none _) ?_ | refine Pure.call (hl) ?_ | refine ⟨_, Pure.at (hl), ?_⟩ | refine ⟨_, hl, ?_⟩ | (intro bk hbk; (try simp only [go_sem] at hbk))))
end Go.Proofs.YtmalhikcdideoaaDoor
