/- The package word: keywords, one token, all tokens. -/
import Derived.Test.YtmalhikcdideoaaDoorWC
set_option linter.unusedVariables false
set_option linter.unusedSimpArgs false
namespace Go.Proofs.YtmalhikcdideoaaDoor
open Go Sl
attribute [local irreducible] LpQ XR XRo XRg XRQ putQ XFv XL XW2 wQ putW X XO XOp XH XHo XW SeqQ BlkQ XOQ XHQ NrmQ XC XM XG XHM XHG XD CallK
theorem keys_ok : Pure Tryd.prog 16 [] (encL 1 cS keysB) := by
  intro h; refine callK_body Tryd.func16 rfl (by rw [nt16]; simp) ?_; rw [nt16, rs16]
  (repeat' (first | simp [go_sem, X_region, *] | simp (disch := omega) only [om, *] | ((first | refine XC_split ?_ ?_ | refine XG_true ?_ ?_ | refine XG_false ?_ ?_ | refine XRg_true ?_ ?_ | refine XRg_false ?_ ?_) <;> intro hc <;> (try simp only [bl] at hc) <;> (try (exfalso; omega))) | refine XD_w [] [] [] (fun _ => none) mixed (by decide +kernel) (sub_none _) ?_ | (intro bk hbk; (try simp only [go_sem] at hbk))))
  exact Wk.lit1 keysB (fun x => S x) hbk rfl (by decide)
theorem takeWhile_le {α : Type} (p : α → Bool) (l : List α) : (l.takeWhile p).length ≤ l.length := (List.takeWhile_prefix (l := l) p).length_le
theorem drop_size {s : ByteArray} {a : Nat} {l : List UInt8} (h : s.data.toList.drop a = l) (ha : a ≤ s.size) : l.length = s.size - a := by
  rw [← h, List.length_drop, size_list]
theorem one_ok (s : ByteArray) (a : Nat) (c : UInt8) (r : List UInt8) (hd : s.data.toList.drop a = c :: r) (hs : s.size ≤ 140737488355328) : Pure Tryd.prog 46 [S s, I a] (tup2 (I (oneF c r).1) (I (oneF c r).2)) := by
  obtain ⟨hlt, hg, hd2⟩ := str_cons hd
  have hlen := drop_size hd2 (by omega)
  have t1 := takeWhile_le isInner r
  have t2 := takeWhile_le isNum r
  intro h; refine callK_body Tryd.func46 rfl (by rw [nt46]; simp) ?_; rw [nt46, rs46]
  cases hl : isLetter c
  · have hsp := fun (h : isNum c = true ∨ True) => span_ok _ (by simp [go_sem]) isNum num_ok s (a + 1) (by omega) hs
    have hsp := hsp (.inr trivial)
    rw [hd2] at hsp
    simp only [Int.natCast_add, Int.cast_ofNat_Int] at hsp
    obtain ⟨n, hnd⟩ : ∃ n, (r.takeWhile isNum).length = n := ⟨_, rfl⟩
    rw [hnd] at hsp t2
    have hdg : isDigit c = true → oneF c r = (3, 1 + n) := fun hd => by simp [oneF, hl, hd, hnd]
    have hdh : c.toNat = 45 → digitNext r = true → oneF c r = (3, 1 + n) := fun hd h2 => by simp [oneF, hl, hd, hnd, h2]
    have hsg : isDigit c = false → (¬ c.toNat = 45 ∨ digitNext r = false) → oneF c r = if isSign c = true then (4, 1) else (0, 0) := fun h1 h2 => by rcases h2 with h2 | h2 <;> simp [oneF, hl, h1, h2]
    cases hdc : isDigit c
    · rcases r with _ | ⟨d, r'⟩
      · have hlt2 := str_nil hd2
        (repeat' (first | simp [go_sem, X_region, *] | simp (disch := omega) only [om, *] | ((first | refine XC_split ?_ ?_ | refine XG_true ?_ ?_ | refine XG_false ?_ ?_ | refine XRg_true ?_ ?_ | refine XRg_false ?_ ?_) <;> intro hc <;> (try simp only [bl] at hc) <;> (try (exfalso; omega))) | refine XD_w [] [] [] (fun _ => none) mixed (by decide +kernel) (sub_none _) ?_ | refine Pure.call (letter_ok c) ?_ | refine ⟨_, Pure.at (letter_ok c), ?_⟩ | refine ⟨_, letter_ok c, ?_⟩ | refine Pure.call (digit_ok c) ?_ | refine ⟨_, Pure.at (digit_ok c), ?_⟩ | refine ⟨_, digit_ok c, ?_⟩ | (intro bk hbk; (try simp only [go_sem] at hbk))))
        all_goals (refine Wk.of_eq ?_; first | (rw [show isSign c = true by simp [isSign]; omega]; rfl) | (rw [show isSign c = false by simp [isSign]; omega]; rfl) | (simp [*]; done) | (rw [hdh (by omega) (by simpa [digitNext] using ‹isDigit _ = true›)]; simp; done) | (rw [hsg hdc (by first | exact .inr rfl | exact .inr (by simpa [digitNext] using ‹isDigit _ = false›)), show isSign c = false by simp [isSign]; omega]; rfl))
      · obtain ⟨hlt2, hg2, _⟩ := str_cons hd2
        cases hdd : isDigit d
        · (repeat' (first | simp [go_sem, X_region, *] | simp (disch := omega) only [om, *] | ((first | refine XC_split ?_ ?_ | refine XG_true ?_ ?_ | refine XG_false ?_ ?_ | refine XRg_true ?_ ?_ | refine XRg_false ?_ ?_) <;> intro hc <;> (try simp only [bl] at hc) <;> (try (exfalso; omega))) | refine XD_w [] [] [] (fun _ => none) mixed (by decide +kernel) (sub_none _) ?_ | refine Pure.call (letter_ok c) ?_ | refine ⟨_, Pure.at (letter_ok c), ?_⟩ | refine ⟨_, letter_ok c, ?_⟩ | refine Pure.call (digit_ok c) ?_ | refine ⟨_, Pure.at (digit_ok c), ?_⟩ | refine ⟨_, digit_ok c, ?_⟩ | refine Pure.call (digit_ok d) ?_ | refine ⟨_, Pure.at (digit_ok d), ?_⟩ | refine ⟨_, digit_ok d, ?_⟩ | (intro bk hbk; (try simp only [go_sem] at hbk))))
          all_goals (refine Wk.of_eq ?_; first | (rw [show isSign c = true by simp [isSign]; omega]; rfl) | (rw [show isSign c = false by simp [isSign]; omega]; rfl) | (simp [*]; done) | (rw [hdh (by omega) (by simpa [digitNext] using ‹isDigit _ = true›)]; simp; done) | (rw [hsg hdc (by first | exact .inr rfl | exact .inr (by simpa [digitNext] using ‹isDigit _ = false›)), show isSign c = false by simp [isSign]; omega]; rfl))
        · (repeat' (first | simp [go_sem, X_region, *] | simp (disch := omega) only [om, *] | ((first | refine XC_split ?_ ?_ | refine XG_true ?_ ?_ | refine XG_false ?_ ?_ | refine XRg_true ?_ ?_ | refine XRg_false ?_ ?_) <;> intro hc <;> (try simp only [bl] at hc) <;> (try (exfalso; omega))) | refine XD_w [] [] [] (fun _ => none) mixed (by decide +kernel) (sub_none _) ?_ | refine Pure.call (letter_ok c) ?_ | refine ⟨_, Pure.at (letter_ok c), ?_⟩ | refine ⟨_, letter_ok c, ?_⟩ | refine Pure.call (digit_ok c) ?_ | refine ⟨_, Pure.at (digit_ok c), ?_⟩ | refine ⟨_, digit_ok c, ?_⟩ | refine Pure.call (digit_ok d) ?_ | refine ⟨_, Pure.at (digit_ok d), ?_⟩ | refine ⟨_, digit_ok d, ?_⟩ | refine Pure.call (hsp) ?_ | refine ⟨_, Pure.at (hsp), ?_⟩ | refine ⟨_, hsp, ?_⟩ | (intro bk hbk; (try simp only [go_sem] at hbk))))
          all_goals (refine Wk.of_eq ?_; first | (rw [show isSign c = true by simp [isSign]; omega]; rfl) | (rw [show isSign c = false by simp [isSign]; omega]; rfl) | (simp [*]; done) | (rw [hdh (by omega) (by simpa [digitNext] using ‹isDigit _ = true›)]; simp; done) | (rw [hsg hdc (by first | exact .inr rfl | exact .inr (by simpa [digitNext] using ‹isDigit _ = false›)), show isSign c = false by simp [isSign]; omega]; rfl))
    · (repeat' (first | simp [go_sem, X_region, *] | simp (disch := omega) only [om, *] | ((first | refine XC_split ?_ ?_ | refine XG_true ?_ ?_ | refine XG_false ?_ ?_ | refine XRg_true ?_ ?_ | refine XRg_false ?_ ?_) <;> intro hc <;> (try simp only [bl] at hc) <;> (try (exfalso; omega))) | refine XD_w [] [] [] (fun _ => none) mixed (by decide +kernel) (sub_none _) ?_ | refine Pure.call (letter_ok c) ?_ | refine ⟨_, Pure.at (letter_ok c), ?_⟩ | refine ⟨_, letter_ok c, ?_⟩ | refine Pure.call (digit_ok c) ?_ | refine ⟨_, Pure.at (digit_ok c), ?_⟩ | refine ⟨_, digit_ok c, ?_⟩ | refine Pure.call (hsp) ?_ | refine ⟨_, Pure.at (hsp), ?_⟩ | refine ⟨_, hsp, ?_⟩ | (intro bk hbk; (try simp only [go_sem] at hbk))))
      all_goals (refine Wk.of_eq ?_; first | (rw [show isSign c = true by simp [isSign]; omega]; rfl) | (rw [show isSign c = false by simp [isSign]; omega]; rfl) | (simp [*]; done) | (rw [hdh (by omega) (by simpa [digitNext] using ‹isDigit _ = true›)]; simp; done) | (rw [hsg hdc (by first | exact .inr rfl | exact .inr (by simpa [digitNext] using ‹isDigit _ = false›)), show isSign c = false by simp [isSign]; omega]; rfl))
  · have hi : isInner c = true := by simp [isInner, hl]
    have hn : ((s.data.toList.drop a).takeWhile isInner).length = 1 + (r.takeWhile isInner).length := by rw [hd, List.takeWhile_cons, hi]; simp; omega
    obtain ⟨n, hnd⟩ : ∃ n, (r.takeWhile isInner).length = n := ⟨_, rfl⟩
    have hsp := span_ok _ (by simp [go_sem]) isInner inner_ok s a (by omega) hs
    have hb := bs_ok keysB (s.extract a (a + (1 + n))) (by decide)
    rw [foundB_mem _ _ keys_rising, show (keysB.any fun k => decide (s.extract a (a + (1 + n)) = k)) = isKey (s.extract a (a + (1 + n))) from rfl] at hb
    rw [hn, hnd] at hsp
    have hone : oneF c r = if isKey (s.extract a (a + (1 + n))) = true then (2, 1 + n) else if 20 < 1 + n then (0, 0) else (1, 1 + n) := by
      rw [extract_take, hd]; simp [oneF, hl, hnd]
    (repeat' (first | simp [go_sem, X_region, *] | simp (disch := omega) only [om, *] | ((first | refine XC_split ?_ ?_ | refine XG_true ?_ ?_ | refine XG_false ?_ ?_ | refine XRg_true ?_ ?_ | refine XRg_false ?_ ?_) <;> intro hc <;> (try simp only [bl] at hc) <;> (try (exfalso; omega))) | refine XD_w [] [] [] (fun _ => none) mixed (by decide +kernel) (sub_none _) ?_ | refine Pure.call (letter_ok c) ?_ | refine ⟨_, Pure.at (letter_ok c), ?_⟩ | refine ⟨_, letter_ok c, ?_⟩ | refine Pure.call (hsp) ?_ | refine ⟨_, Pure.at (hsp), ?_⟩ | refine ⟨_, hsp, ?_⟩ | refine Pure.call (keys_ok) ?_ | refine ⟨_, Pure.at (keys_ok), ?_⟩ | refine ⟨_, keys_ok, ?_⟩ | refine Pure.call (hb) ?_ | refine ⟨_, Pure.at (hb), ?_⟩ | refine ⟨_, hb, ?_⟩ | (intro bk hbk; (try simp only [go_sem] at hbk))))
    all_goals (refine Wk.of_eq ?_; first | (simp [hone, *]; done) | (simp [hone, show 20 < 1 + n by omega]; done) | (simp [hone, show ¬ 20 < 1 + n by omega]; done))
end Go.Proofs.YtmalhikcdideoaaDoor
