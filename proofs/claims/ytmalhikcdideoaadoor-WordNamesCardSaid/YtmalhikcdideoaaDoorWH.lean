/- The reference's keywords, and its closure that goes on as long as bytes are in a set. -/
import Derived.Test.YtmalhikcdideoaaDoorWG
set_option linter.unusedVariables false
set_option linter.unusedSimpArgs false
namespace Go.Proofs.YtmalhikcdideoaaDoor
open Go Sl
attribute [local irreducible] LpQ XR XRo XRg XRQ putQ XFv XL XW2 wQ putW X XO XOp XH XHo XW SeqQ BlkQ XOQ XHQ NrmQ XC XM XG XHM XHG XD CallK
def keyText : ByteArray := ⟨#[97, 99, 116, 32, 97, 110, 100, 32, 97, 114, 116, 105, 99, 108, 101, 32, 97, 116, 45, 109, 111, 115, 116, 32, 97, 116, 116, 114, 105, 98, 117, 116, 101, 32, 98, 97, 115, 101, 32, 98, 101, 108, 111, 119, 32, 98, 111, 111, 108, 32, 99, 111, 117, 110, 116, 32, 100, 97, 116, 101, 32, 100, 97, 121, 115, 32, 100, 111, 119, 110, 32, 101, 108, 115, 101, 32, 101, 110, 97, 99, 116, 101, 100, 32, 101, 113, 117, 97, 108, 115, 32, 102, 97, 108, 115, 101, 32, 102, 114, 111, 109, 32, 103, 105, 118, 101, 115, 32, 103, 114, 101, 97, 116, 101, 115, 116, 32, 104, 97, 108, 102, 32, 104, 97, 108, 102, 45, 111, 117, 116, 32, 104, 97, 108, 102, 45, 116, 119, 111, 32, 105, 102, 32, 105, 110, 112, 117, 116, 32, 105, 115, 32, 108, 101, 97, 115, 116, 32, 108, 101, 118, 101, 108, 32, 109, 105, 110, 117, 115, 32, 109, 111, 110, 101, 121, 32, 110, 111, 116, 32, 110, 117, 109, 98, 101, 114, 32, 111, 102, 32, 111, 114, 32, 111, 118, 101, 114, 32, 112, 108, 117, 115, 32, 114, 111, 117, 110, 100, 32, 115, 99, 97, 108, 101, 32, 115, 104, 97, 114, 101, 32, 115, 108, 105, 99, 101, 115, 32, 116, 97, 98, 108, 101, 32, 116, 104, 101, 110, 32, 116, 105, 109, 101, 115, 32, 116, 111, 32, 116, 111, 116, 97, 108, 32, 116, 114, 117, 101, 32, 117, 112, 32, 119, 101, 105, 103, 104, 116, 32, 119, 104, 101, 110, 32, 121, 101, 97, 114, 115]⟩
set_option maxRecDepth 100000 in
theorem keyText_fw : (fw true [] keyText.data.toList).map bOf = keysB := by decide +kernel
set_option maxRecDepth 100000 in
theorem keyText_asc : ∀ c ∈ keyText.data.toList, asc c := by unfold asc; decide +kernel
set_option maxRecDepth 100000 in
theorem reserved_ok : Pure Tryd.prog 50 [] (encL 1 cS keysB) := by
  have hf := fields_ok keyText (by decide +kernel) keyText_asc
  rw [keyText_fw] at hf
  unfold keyText at hf
  intro h; refine callK_body Tryd.func50 rfl (by rw [nt50]; simp) ?_; rw [nt50, rs50]
  (repeat' (first | simp [go_sem, X_region, *] | simp (disch := omega) only [om, *] | ((first | refine XC_split ?_ ?_ | refine XG_true ?_ ?_ | refine XG_false ?_ ?_ | refine XRg_true ?_ ?_ | refine XRg_false ?_ ?_) <;> intro hc <;> (try simp only [bl] at hc) <;> (try (exfalso; omega))) | refine XD_w [] [] [] (fun _ => none) mixed (by decide +kernel) (sub_none _) ?_ | refine Pure.call (hf) ?_ | refine ⟨_, Pure.at (hf), ?_⟩ | refine ⟨_, hf, ?_⟩ | (intro bk hbk; (try simp only [go_sem] at hbk))))
abbrev ptr (b : Nat) : AV := .v (.pointer (some ⟨b, 0, none⟩))
/-- A cell of its own. -/
structure Cell (ob : Ob) (v : AV) : Prop where
  s : ob.s = 1
  n : ob.n = 1
  f : ob.f 0 0 = v
theorem part_ok (set : ByteArray) (p : UInt8 → Bool) (hp : ∀ c, set.data.toList.contains c = p c) (h : Hp) (bn bs : Nat) (on os : Ob) (hn : h bn = some on) (hs : h bs = some os) (hne : ¬ bs = bn) (n0 : Nat) (s : ByteArray) (cn : Cell on (I n0)) (cs : Cell os (S s)) (hsz : s.size ≤ 30000) (hle : n0 ≤ s.size) :
    CallK Tryd.prog h 47 [S set, ptr bn, ptr bs] fun r h' => r = .tup 0 (fun _ => .any) ∧ ∃ o2, h' = upd h bn (some o2) ∧ o2.ty = on.ty ∧ Cell o2 (I ((n0 + ((s.data.toList.drop n0).takeWhile p).length : Nat) : Int)) := by
  obtain ⟨R, hR⟩ : ∃ R, n0 + ((s.data.toList.drop n0).takeWhile p).length = R := ⟨_, rfl⟩
  rw [hR]
  have hne2 : ¬ bn = bs := fun e => hne e.symm
  obtain ⟨s1, s2, s3⟩ := cs
  refine callK_body Tryd.func47 rfl (by rw [nt47]; simp) ?_; rw [nt47, rs47]
  (repeat' (first | simp [go_sem, X_region, *] | simp (disch := omega) only [om, *] | ((first | refine XC_split ?_ ?_ | refine XG_true ?_ ?_ | refine XG_false ?_ ?_ | refine XRg_true ?_ ?_ | refine XRg_false ?_ ?_) <;> intro hc <;> (try simp only [bl] at hc) <;> (try (exfalso; omega))) | refine XD_w [] [] [] (fun _ => none) mixed (by decide +kernel) (sub_none _) ?_ | (intro bk hbk; (try simp only [go_sem] at hbk))))
  refine X_lp (fun n T h2 => ∃ (i : Nat) (r : List UInt8) (o2 : Ob), n = r.length ∧ i ≤ s.size ∧ s.data.toList.drop i = r ∧ i + (r.takeWhile p).length = R ∧ o2.ty = on.ty ∧ Cell o2 (I i) ∧ T 0 = S set ∧ T 1 = ptr bn ∧ T 2 = ptr bs ∧ h2 = upd h bn (some o2)) _ ⟨n0, _, on, rfl, hle, rfl, hR, rfl, cn, by simp [go_sem], by simp [go_sem], by simp [go_sem], by funext c; by_cases hc : c = bn <;> simp [upd, hc, hn]⟩ ?_
  clear hR cn hle hn
  rintro J hJ n T h2 ⟨i, r, o2, rfl, hi, hd, hR, hty, ⟨c1, c2, c3⟩, h0, h1, h2, rfl⟩
  rcases r with _ | ⟨c, r⟩
  · have hlt := str_nil hd
    (repeat' (first | simp [go_sem, X_region, *] | simp (disch := omega) only [om, *] | ((first | refine XC_split ?_ ?_ | refine XG_true ?_ ?_ | refine XG_false ?_ ?_ | refine XRg_true ?_ ?_ | refine XRg_false ?_ ?_) <;> intro hc <;> (try simp only [bl] at hc) <;> (try (exfalso; omega))) | refine XD_w [] [] [] (fun _ => none) mixed (by decide +kernel) (sub_none _) ?_ | (intro bk hbk; (try simp only [go_sem] at hbk))))
    simp at hR
    subst hR
    exact ⟨_, _, Wk.refl _ _, rfl, o2, rfl, hty, c1, c2, c3⟩
  · obtain ⟨hlt, hg, hd2⟩ := str_cons hd
    have hidx := idx_ge set.data.toList c
    rw [hp c] at hidx
    cases hpc : p c
    · rw [hpc] at hidx
      (repeat' (first | simp [go_sem, X_region, *] | simp (disch := omega) only [om, *] | ((first | refine XC_split ?_ ?_ | refine XG_true ?_ ?_ | refine XG_false ?_ ?_ | refine XRg_true ?_ ?_ | refine XRg_false ?_ ?_) <;> intro hc <;> (try simp only [bl] at hc) <;> (try (exfalso; omega))) | refine XD_w [] [] [] (fun _ => none) mixed (by decide +kernel) (sub_none _) ?_ | refine Pure.call (idx2_ok set c) ?_ | refine ⟨_, Pure.at (idx2_ok set c), ?_⟩ | refine ⟨_, idx2_ok set c, ?_⟩ | (intro bk hbk; (try simp only [go_sem] at hbk))))
      simp [hpc] at hR
      subst hR
      exact ⟨_, _, Wk.refl _ _, rfl, o2, rfl, hty, c1, c2, c3⟩
    · rw [hpc] at hidx
      (repeat' (first | simp [go_sem, X_region, *] | simp (disch := omega) only [om, *] | ((first | refine XC_split ?_ ?_ | refine XG_true ?_ ?_ | refine XG_false ?_ ?_ | refine XRg_true ?_ ?_ | refine XRg_false ?_ ?_) <;> intro hc <;> (try simp only [bl] at hc) <;> (try (exfalso; omega))) | refine XD_w [] [] [] (fun _ => none) mixed (by decide +kernel) (sub_none _) ?_ | refine Pure.call (idx2_ok set c) ?_ | refine ⟨_, Pure.at (idx2_ok set c), ?_⟩ | refine ⟨_, idx2_ok set c, ?_⟩ | (intro bk hbk; (try simp only [go_sem] at hbk))))
      refine ⟨r.length, by omega, hJ.out _ _ _ ⟨i + 1, r, _, rfl, by omega, hd2, by rw [← hR]; simp [hpc]; omega, ?_, ?_, by simp [go_sem, *], by simp [go_sem, *], by simp [go_sem, *], rfl⟩⟩
      · rfl
      · exact ⟨rfl, rfl, by simp⟩
end Go.Proofs.YtmalhikcdideoaaDoor
