/- The reference's tokens. -/
import Derived.Test.YtmalhikcdideoaaDoorWH
set_option linter.unusedVariables false
set_option linter.unusedSimpArgs false
namespace Go.Proofs.YtmalhikcdideoaaDoor
open Go Sl
attribute [local irreducible] LpQ XR XRo XRg XRQ putQ XFv XL XW2 wQ putW X XO XOp XH XHo XW SeqQ BlkQ XOQ XHQ NrmQ XC XM XG XHM XHG XD CallK
theorem set_inner : ∀ c : UInt8, (⟨#[97, 98, 99, 100, 101, 102, 103, 104, 105, 106, 107, 108, 109, 110, 111, 112, 113, 114, 115, 116, 117, 118, 119, 120, 121, 122, 48, 49, 50, 51, 52, 53, 54, 55, 56, 57, 45]⟩ : ByteArray).data.toList.contains c = isInner c := by
  have h : ∀ n : Fin 256, (⟨#[97, 98, 99, 100, 101, 102, 103, 104, 105, 106, 107, 108, 109, 110, 111, 112, 113, 114, 115, 116, 117, 118, 119, 120, 121, 122, 48, 49, 50, 51, 52, 53, 54, 55, 56, 57, 45]⟩ : ByteArray).data.toList.contains (UInt8.ofNat n.val) = isInner (UInt8.ofNat n.val) := by decide +kernel
  intro c
  have := h ⟨c.toNat, UInt8.toNat_lt c⟩
  simpa using this
theorem set_num : ∀ c : UInt8, (⟨#[48, 49, 50, 51, 52, 53, 54, 55, 56, 57, 46, 45, 37]⟩ : ByteArray).data.toList.contains c = isNum c := by
  have h : ∀ n : Fin 256, (⟨#[48, 49, 50, 51, 52, 53, 54, 55, 56, 57, 46, 45, 37]⟩ : ByteArray).data.toList.contains (UInt8.ofNat n.val) = isNum (UInt8.ofNat n.val) := by decide +kernel
  intro c
  have := h ⟨c.toNat, UInt8.toNat_lt c⟩
  simpa using this
theorem set_sign : ∀ c : UInt8, (⟨#[58, 59, 44, 40, 41]⟩ : ByteArray).data.toList.contains c = isSign c := by
  have h : ∀ n : Fin 256, (⟨#[58, 59, 44, 40, 41]⟩ : ByteArray).data.toList.contains (UInt8.ofNat n.val) = isSign (UInt8.ofNat n.val) := by decide +kernel
  intro c
  have := h ⟨c.toNat, UInt8.toNat_lt c⟩
  simpa using this
theorem gb_head (c : UInt8) (r : List UInt8) : gb (bOf (c :: r)) 0 = c := rfl
theorem bOf_ne (c : UInt8) (r : List UInt8) : ¬ bOf (c :: r) = ⟨#[]⟩ := fun e => by
  have := congrArg ByteArray.size e
  rw [bOf_size] at this
  cases this
theorem bOf_extract (l : List UInt8) (a n : Nat) : (bOf l).extract a (a + n) = bOf ((l.drop a).take n) := extract_take _ _ _
theorem bOf_from (l : List UInt8) (a : Nat) (h : a ≤ l.length) : (bOf l).extract a l.length = bOf (l.drop a) := by
  have e : (bOf l).extract a l.length = (bOf l).extract a (a + (l.length - a)) := by congr 1; omega
  rw [e, bOf_extract, List.take_of_length_le (by simp)]
theorem oneF_letter (c : UInt8) (r : List UInt8) (h : isLetter c = true) : oneF c r = if isKey (bOf ((c :: r).take (1 + (r.takeWhile isInner).length))) = true then (2, 1 + (r.takeWhile isInner).length) else if 20 < 1 + (r.takeWhile isInner).length then (0, 0) else (1, 1 + (r.takeWhile isInner).length) := by
  simp [oneF, h]
theorem oneF_num (c : UInt8) (r : List UInt8) (h : isLetter c = false) (h2 : (isDigit c || (decide (c.toNat = 45) && digitNext r)) = true) : oneF c r = (3, 1 + (r.takeWhile isNum).length) := by
  simp only [oneF, h, h2]; simp
theorem oneF_rest (c : UInt8) (r : List UInt8) (h : isLetter c = false) (h2 : (isDigit c || (decide (c.toNat = 45) && digitNext r)) = false) : oneF c r = if isSign c = true then (4, 1) else (0, 0) := by
  simp only [oneF, h, h2]; simp
theorem keep_own {h0 h H : Hp} {a : AV} {e : TypeId} {s n b : Nat} {f : Nat → Nat → AV} {o1 : Ob} (o : Own h0 h a e s n f) (hb : h b = some o1) (hb0 : h0 b = Option.none) (hne : o1.s ≠ s ∨ o1.ty ≠ e) (hk : ∀ c oc, h c = some oc → c ≠ b → H c = some oc) : Own h0 H a e s n f := by
  have hnb : ∀ c oc, h0 c = some oc → c ≠ b := fun c oc hc e => by rw [e, hb0] at hc; cases hc
  have hna := o.ne hb hne
  obtain ⟨hs, ho⟩ := o
  refine ⟨fun c oc hc => hk c oc (hs c oc hc) (hnb c oc hc), ?_⟩
  rcases ho with ho | ⟨b1, o, h1, h2, h3, h4⟩
  · exact .inl ho
  · exact .inr ⟨b1, o, h1, h2, hk _ _ h3 fun e => hna (by rw [h1, e]), h4⟩
def only (B : List Nat) (H : Hp) : Hp := fun b => if b ∈ B then H b else none
theorem only_sub (B : List Nat) (H : Hp) : Sub (only B H) H := fun b o hb => by
  unfold only at hb
  split at hb
  · exact hb
  · cases hb
theorem only_in {B : List Nat} {H : Hp} {b : Nat} (hb : b ∈ B) : only B H b = H b := by unfold only; rw [if_pos hb]
theorem XD_abs {P : Program} {N id : Nat} {ops : Array Oper} {T : Nat → AV} {h : Hp} {K : (Nat → AV) → Hp → Prop} (p : Hp → Prop) (h0 : p h) (hk : ∀ h, p h → XD P N id ops T h K) : XD P N id ops T h K := hk _ h0
theorem own_free {h0 h : Hp} {a : AV} {e : TypeId} {s n b : Nat} {f : Nat → Nat → AV} (o : Own h0 h a e s n f) (hb : h b = none) : a ≠ .row b s 0 n := by
  rintro rfl
  obtain ⟨_, ⟨_, h1 | h1⟩ | ⟨b1, o, h1, _, h2, _⟩⟩ := o
  · cases h1
  · cases h1
  · cases h1
    rw [hb] at h2
    cases h2
theorem bOf_cut (c : UInt8) (r : List UInt8) (n : Nat) (hn1 : 1 ≤ n) (hn2 : n ≤ r.length + 1) : (bOf (c :: r)).extract n (r.length + 1) = bOf (r.drop (n - 1)) := by
  have := bOf_from (c :: r) n (by simpa using hn2)
  rw [show (c :: r).drop n = r.drop (n - 1) by obtain ⟨m, rfl⟩ : ∃ m, n = m + 1 := ⟨n - 1, by omega⟩; simp] at this
  simpa using this
theorem digitNext_gb (c : UInt8) (r : List UInt8) : digitNext r = decide (0 < r.length ∧ 48 ≤ (gb (bOf (c :: r)) 1).toNat ∧ (gb (bOf (c :: r)) 1).toNat ≤ 57) := by
  rcases r with _ | ⟨d, r⟩
  · rfl
  · simp [digitNext, isDigit, show gb (bOf (c :: d :: r)) 1 = d from rfl]
theorem sign_ok (c : UInt8) : ∃ i : Int, Pure Tryd.prog 48 [S ⟨#[58, 59, 44, 40, 41]⟩, U8 c] (I i) ∧ (0 ≤ i ↔ isSign c = true) := by
  have h1 := idx2_ok ⟨#[58, 59, 44, 40, 41]⟩ c
  have h2 := idx_ge (⟨#[58, 59, 44, 40, 41]⟩ : ByteArray).data.toList c
  rw [set_sign c] at h2
  exact ⟨_, h1, by rw [← h2, decide_eq_true_eq]⟩
def XHlit (P : Program) (T : Nat → AV) (len : Nat) (parts : List (Nat × Operand)) (K : AV → Prop) : Option TypeDesc → Prop
  | some (.slice e) => match zeroA P e with
    | some (s, _) => match partsA T s 0 parts with
      | some l => (l.length = len ∧ 0 < len ∧ len * s ≤ 16777216) ∧ K (.sl s len fun i j => (l.getD i (fun _ => .any)) j)
      | none => False
    | none => False
  | _ => False
@[go_sem] theorem XHo_lit {P : Program} {N : Nat} {T : Nat → AV} {h : Hp} {K : AV → Prop} {d : Option Tmp} {t : TypeId} {p : String} {af : Array Edge} {g : Option (Nat × Bool)} (t' : TypeId) (len : Nat) (parts : List (Nat × Operand)) : XHo P N ⟨d, .buildSlice t' len parts.toArray, t, p, af, g⟩ T h K = XHlit P T len parts K (P.underlying t') := by
  unfold XHo
  rw [show stp P T h (Oper.op ⟨d, .buildSlice t' len parts.toArray, t, p, af, g⟩) = none from rfl]
  rfl
attribute [go_sem] XHlit
set_option maxHeartbeats 4000000 in
theorem tokens_ok (s : ByteArray) (hs : s.size ≤ 140737488355328) : Pure Tryd.prog 12 [S s] (encLn (linesF s)) := by
  generalize hR : linesF s = R
  intro h; refine callK_body Tryd.func12 rfl (by rw [nt12]; simp) ?_; rw [nt12, rs12]
  (repeat' (first | simp [go_sem, X_region, *] | simp (disch := omega) only [om, *] | ((first | refine XC_split ?_ ?_ | refine XG_true ?_ ?_ | refine XG_false ?_ ?_ | refine XRg_true ?_ ?_ | refine XRg_false ?_ ?_) <;> intro hc <;> (try simp only [bl] at hc) <;> (try (exfalso; omega))) | refine XD_w [] [] [] (fun _ => none) mixed (by decide +kernel) (sub_none _) ?_ | fail))
  intro b1 hb1
  by_cases hsz : 30000 < s.size
  · rw [linesF, if_pos hsz] at hR
    subst hR
    (repeat' (first | simp [go_sem, X_region, *] | simp (disch := omega) only [om, *] | ((first | refine XC_split ?_ ?_ | refine XG_true ?_ ?_ | refine XG_false ?_ ?_ | refine XRg_true ?_ ?_ | refine XRg_false ?_ ?_) <;> intro hc <;> (try simp only [bl] at hc) <;> (try (exfalso; omega))) | refine XD_w [] [] [] (fun _ => none) mixed (by decide +kernel) (sub_none _) ?_ | (intro bk hbk; (try simp only [go_sem] at hbk))))
    exact Wk.tup3_1 (Wk.nil.trans (Wk.drop _ (Sub.upd hb1 (Sub.refl _)))) _ _
  · rw [linesF, if_neg hsz] at hR
    (repeat' (first | simp [go_sem, X_region, *] | simp (disch := omega) only [om, *] | ((first | refine XC_split ?_ ?_ | refine XG_true ?_ ?_ | refine XG_false ?_ ?_ | refine XRg_true ?_ ?_ | refine XRg_false ?_ ?_) <;> intro hc <;> (try simp only [bl] at hc) <;> (try (exfalso; omega))) | refine XD_w [] [] [] (fun _ => none) mixed (by decide +kernel) (sub_none _) ?_ | (intro bk hbk; (try simp only [go_sem] at hbk))))
    refine X_lp (fun n T h2 => ∃ (r : List UInt8) (out : List Tok) (line : Int) (o1 : Ob), n = r.length ∧ out.length + r.length ≤ s.size ∧ 0 ≤ line ∧ line + r.length ≤ s.size + 1 ∧ scanW r line out = R ∧ T 1 = ptr b1 ∧ T 6 = I line ∧ Own h h2 (T 5) 31 3 out.length (cellsL cT out) ∧ h2 b1 = some o1 ∧ o1.ty = 9 ∧ Cell o1 (S (bOf r))) _ ⟨s.data.toList, [], 1, _, rfl, by simp, by omega, by simp; omega, hR, by simp [go_sem], by simp [go_sem], by simpa [go_sem] using Own.none.alloc hb1, upd_same _ _ _, rfl, rfl, rfl, rfl⟩ ?_
    clear hR
    rintro J hJ n T h2 ⟨r, out, line, o1, rfl, hlen, hl0, hl1, hR, h1, h6, hown, ho1, ht1, ⟨c1, c2, c3⟩⟩
    rcases r with _ | ⟨c, r⟩
    · rw [scanW] at hR
      subst hR
      have hb0 : bOf [] = ⟨#[]⟩ := rfl
      (repeat' (first | simp [go_sem, X_region, *] | simp (disch := omega) only [om, *] | ((first | refine XC_split ?_ ?_ | refine XG_true ?_ ?_ | refine XG_false ?_ ?_ | refine XRg_true ?_ ?_ | refine XRg_false ?_ ?_) <;> intro hc <;> (try simp only [bl] at hc) <;> (try (exfalso; omega))) | refine XD_w [] [] [] (fun _ => none) mixed (by decide +kernel) (sub_none _) ?_ | (intro bk hbk; (try simp only [go_sem] at hbk))))
      exact Wk.tup3_1 (hown.frozen (by omega)) _ _
    · have hne := bOf_ne c r
      have hgb := gb_head c r
      have hsz1 := bOf_size (c :: r)
      have hx1 : (bOf (c :: r)).extract 1 (r.length + 1) = bOf r := bOf_from (c :: r) 1 (by simp)
      simp only [List.length_cons] at hsz1 hlen hl1
      have t1 := takeWhile_le isInner r
      have t2 := takeWhile_le isNum r
      (repeat' (first | simp [go_sem, X_region, *] | simp (disch := omega) only [om, *] | ((first | refine XC_split ?_ ?_ | refine XG_true ?_ ?_ | refine XG_false ?_ ?_ | refine XRg_true ?_ ?_ | refine XRg_false ?_ ?_) <;> intro hc <;> (try simp only [bl] at hc) <;> (try (exfalso; omega))) | refine XD_w [] [] [] (fun _ => none) mixed (by decide +kernel) (sub_none _) ?_ | fail))
      intro b2 hb2 b3 hb32 hb23 hb3
      have n12 := ne_free hb2 ho1
      have n13 := ne_free hb3 ho1
      rw [scanW] at hR
      by_cases hsp : c.toNat = 32 ∨ c.toNat = 10
      · rw [if_pos hsp] at hR
        by_cases h10 : c.toNat = 10
        · rw [if_pos h10] at hR
          (repeat' (first | simp [go_sem, X_region, *] | simp (disch := omega) only [om, *] | ((first | refine XC_split ?_ ?_ | refine XG_true ?_ ?_ | refine XG_false ?_ ?_ | refine XRg_true ?_ ?_ | refine XRg_false ?_ ?_) <;> intro hc <;> (try simp only [bl] at hc) <;> (try (exfalso; omega))) | refine XD_w [] [] [] (fun _ => none) mixed (by decide +kernel) (sub_none _) ?_ | (intro bk hbk; (try simp only [go_sem] at hbk))))
          exact ⟨r.length, by omega, hJ.out _ _ _ ⟨r, out, line + 1, _, rfl, by omega, by omega, by omega, hR, by simp [go_sem, *], by simp [go_sem, *], ((hown.alloc hb2).alloc (by rw [upd_ne _ _ hb32]; exact hb3)).set (by rw [upd_ne _ _ n13.2, upd_ne _ _ n12.2]; exact ho1) hb1 (.inl (by omega)), upd_same _ _ _, rfl, rfl, rfl, rfl⟩⟩
        · rw [if_neg h10] at hR
          (repeat' (first | simp [go_sem, X_region, *] | simp (disch := omega) only [om, *] | ((first | refine XC_split ?_ ?_ | refine XG_true ?_ ?_ | refine XG_false ?_ ?_ | refine XRg_true ?_ ?_ | refine XRg_false ?_ ?_) <;> intro hc <;> (try simp only [bl] at hc) <;> (try (exfalso; omega))) | refine XD_w [] [] [] (fun _ => none) mixed (by decide +kernel) (sub_none _) ?_ | (intro bk hbk; (try simp only [go_sem] at hbk))))
          exact ⟨r.length, by omega, hJ.out _ _ _ ⟨r, out, line, _, rfl, by omega, by omega, by omega, hR, by simp [go_sem, *], by simp [go_sem, *], ((hown.alloc hb2).alloc (by rw [upd_ne _ _ hb32]; exact hb3)).set (by rw [upd_ne _ _ n13.2, upd_ne _ _ n12.2]; exact ho1) hb1 (.inl (by omega)), upd_same _ _ _, rfl, rfl, rfl, rfl⟩⟩
      · rw [if_neg hsp] at hR
        simp only [not_or] at hsp
        cases hl : isLetter c
        · have hnx := digitNext_gb c r
          unfold isLetter at hl
          simp only [decide_eq_false_iff_not] at hl
          cases hdg : (isDigit c || (decide (c.toNat = 45) && digitNext r))
          · rw [oneF_rest c r (by simp [isLetter]; omega) hdg] at hR
            simp only [hnx, isDigit, Bool.or_eq_false_iff, Bool.and_eq_false_iff, decide_eq_false_iff_not] at hdg
            obtain ⟨i, hi, hi2⟩ := sign_ok c
            have hdr := bOf_cut c r 1 (by omega) (by omega)
            have hex : (bOf (c :: r)).extract 0 1 = bOf [c] := by simpa using bOf_extract (c :: r) 0 1
            by_cases hz : isSign c = true
            · have hi3 := hi2.2 hz
              rw [if_pos hz, if_neg (by decide)] at hR
              have hz2 := hz
              simp only [isSign, decide_eq_true_eq] at hz2
              clear hi2
              (repeat' (first | simp [go_sem, X_region, *] | simp (disch := omega) only [om, *] | ((first | refine XC_split ?_ ?_ | refine XG_true ?_ ?_ | refine XG_false ?_ ?_ | refine XRg_true ?_ ?_ | refine XRg_false ?_ ?_) <;> intro hc <;> (try simp only [bl] at hc) <;> (try (exfalso; omega))) | refine XD_w [] [] [] (fun _ => none) mixed (by decide +kernel) (sub_none _) ?_ | refine Pure.call (hi) ?_ | refine ⟨_, Pure.at (hi), ?_⟩ | refine ⟨_, hi, ?_⟩ | fail))
              all_goals
                refine XD_abs (fun H => H b1 = some o1 ∧ (∃ o2, H b2 = some o2 ∧ Cell o2 (I 1)) ∧ (∃ o3, H b3 = some o3 ∧ o3.ty = 31 ∧ o3.s = 3 ∧ o3.n = 1 ∧ o3.f 0 0 = I 4 ∧ o3.f 0 1 = S (bOf ((c :: r).take 1)) ∧ o3.f 0 2 = I line) ∧ Own h H (T 5) 31 3 out.length (cellsL cT out)) ?_ ?_
                · refine ⟨by simp [go_sem, *], ⟨_, by (repeat rw [upd_ne _ _ hb23]); rw [upd_same], by first | exact d1 | rfl, by first | exact d2 | rfl, by first | exact d3 | simp⟩, ⟨_, upd_same _ _ _, ?_⟩, ?_⟩
                  · exact ⟨rfl, rfl, rfl, by simp, by simp, by simp⟩
                  · exact keep_own hown ho1 hb1 (.inl (by omega)) fun c oc hc hcb => by have m2 := (ne_free hb2 hc).2; have m3 := (ne_free hb3 hc).2; simp [go_sem, *]
                rintro H ⟨q1, ⟨o2, q2, ⟨p1, p2, p3⟩⟩, ⟨o3, q3, q4, q5, q6, q7, q8, q9⟩, hown2⟩
                refine XD_w [] [1, 4, 5] [] (only [b1, b2, b3] H) mixed (by decide +kernel) (only_sub _ _) ?_
                have k1 : only [b1, b2, b3] H b1 = some o1 := by rw [only_in (by simp), q1]
                have k2 : only [b1, b2, b3] H b2 = some o2 := by rw [only_in (by simp), q2]
                have k3 : only [b1, b2, b3] H b3 = some o3 := by rw [only_in (by simp), q3]
                (repeat' (first | simp [go_sem, X_region, *] | simp (disch := omega) only [om, *] | ((first | refine XC_split ?_ ?_ | refine XG_true ?_ ?_ | refine XG_false ?_ ?_ | refine XRg_true ?_ ?_ | refine XRg_false ?_ ?_) <;> intro hc <;> (try simp only [bl] at hc) <;> (try (exfalso; omega))) | refine XD_w [] [] [] (fun _ => none) mixed (by decide +kernel) (sub_none _) ?_ | fail))
                refine Own.push2 (x := (⟨4, bOf ((c :: r).take 1), line⟩ : Tok)) (hown2) (by simp [go_sem, *]) und23 zr31 by31 (by simp [go_sem]) (by simp [go_sem, *]; rfl) (by simp [go_sem, *]) (by omega) (by omega) fun a1 h1 hown1 hkeep1 => ?_
                have hsb : Sub (only [b1, b2, b3] H) h1 := fun b o hb => by
                  have hb' := only_sub _ _ _ _ hb
                  refine hkeep1 b o hb' fun e => ?_
                  unfold only at hb
                  split at hb
                  · rename_i hm
                    simp only [List.mem_cons, List.not_mem_nil, or_false] at hm
                    rcases hm with rfl | rfl | rfl
                    · exact hown2.ne q1 (.inl (by omega)) e
                    · exact hown2.ne q2 (.inl (by omega)) e
                    · exact own_free hown hb3 e
                  · cases hb
                have q1' := hkeep1 b1 o1 q1 (hown2.ne q1 (.inl (by omega)))
                (repeat' (first | simp [go_sem, X_region, *] | simp (disch := omega) only [om, *] | ((first | refine XC_split ?_ ?_ | refine XG_true ?_ ?_ | refine XG_false ?_ ?_ | refine XRg_true ?_ ?_ | refine XRg_false ?_ ?_) <;> intro hc <;> (try simp only [bl] at hc) <;> (try (exfalso; omega))) | refine XD_w [] [] [] (fun _ => none) mixed (by decide +kernel) (sub_none _) ?_ | fail))
                exact ⟨(r.drop (1 - 1)).length, by simp <;> omega, hJ.out _ _ _ ⟨r.drop (1 - 1), out ++ [⟨4, bOf ((c :: r).take 1), line⟩], line, _, rfl, by simp <;> omega, hl0, by simp <;> omega, hR, by simp [go_sem, *], by simp [go_sem, *], hown1.set q1' hb1 (.inl (by omega)), upd_same _ _ _, by first | rfl | exact ht1, by first | rfl | exact c1, by first | rfl | exact c2, by simp⟩⟩
            · have hi3 : ¬ 0 ≤ i := fun e => hz (hi2.1 e)
              rw [if_neg hz, if_pos rfl] at hR
              obtain ⟨j, hj, hj2⟩ := sign_ok 45
              have hj3 : ¬ 0 ≤ j := fun e => absurd (hj2.1 e) (by decide)
              have hj' : Pure Tryd.prog 48 [S ⟨#[58, 59, 44, 40, 41]⟩, .v (.int .u8 45)] (I j) := hj
              clear hj2 hi2 hj
              (repeat' (first | simp [go_sem, X_region, *] | simp (disch := omega) only [om, *] | ((first | refine XC_split ?_ ?_ | refine XG_true ?_ ?_ | refine XG_false ?_ ?_ | refine XRg_true ?_ ?_ | refine XRg_false ?_ ?_) <;> intro hc <;> (try simp only [bl] at hc) <;> (try (exfalso; omega))) | refine XD_w [] [] [] (fun _ => none) mixed (by decide +kernel) (sub_none _) ?_ | refine Pure.call (hi) ?_ | refine ⟨_, Pure.at (hi), ?_⟩ | refine ⟨_, hi, ?_⟩ | refine Pure.call (hj') ?_ | refine ⟨_, Pure.at (hj'), ?_⟩ | refine ⟨_, hj', ?_⟩ | fail))
              all_goals
                subst hR
                exact Wk.tup3_1 (Wk.nil.trans (Wk.drop _ (keep_own hown ho1 hb1 (.inl (by omega)) fun c oc hc hcb => by have m2 := (ne_free hb2 hc).2; have m3 := (ne_free hb3 hc).2; simp [go_sem, *]).1)) _ _
          · rw [oneF_num c r (by simp [isLetter]; omega) hdg] at hR
            simp only [hnx, isDigit, Bool.or_eq_true, Bool.and_eq_true, decide_eq_true_eq] at hdg
            rw [if_neg (by simp)] at hR
            (repeat' (first | simp [go_sem, X_region, *] | simp (disch := omega) only [om, *] | ((first | refine XC_split ?_ ?_ | refine XG_true ?_ ?_ | refine XG_false ?_ ?_ | refine XRg_true ?_ ?_ | refine XRg_false ?_ ?_) <;> intro hc <;> (try simp only [bl] at hc) <;> (try (exfalso; omega))) | refine XD_w [] [] [] (fun _ => none) mixed (by decide +kernel) (sub_none _) ?_ | fail))
            all_goals
              refine CallK.mono (part_ok _ isNum set_num _ b2 b1 _ o1 (by rw [upd_ne _ _ hb23, upd_same]) (by rw [upd_ne _ _ n13.2, upd_ne _ _ n12.2]; exact ho1) n12.2 1 (bOf (c :: r)) ⟨rfl, rfl, by simp⟩ ⟨c1, c2, c3⟩ (by omega) (by omega)) ?_
              rintro r0 h5 ⟨rfl, on2, rfl, hty2, ⟨d1, d2, d3⟩⟩
              simp only [show (bOf (c :: r)).data.toList.drop 1 = r from rfl] at d3
              generalize hn : 1 + (r.takeWhile isNum).length = n at *
              have hex : (bOf (c :: r)).extract 0 n = bOf ((c :: r).take n) := by simpa using bOf_extract (c :: r) 0 n
              have hn1 : 1 ≤ n := by omega
              have hn2 : n ≤ r.length + 1 := by omega
              have hdr := bOf_cut c r n hn1 hn2
              (repeat' (first | simp [go_sem, X_region, *] | simp (disch := omega) only [om, *] | ((first | refine XC_split ?_ ?_ | refine XG_true ?_ ?_ | refine XG_false ?_ ?_ | refine XRg_true ?_ ?_ | refine XRg_false ?_ ?_) <;> intro hc <;> (try simp only [bl] at hc) <;> (try (exfalso; omega))) | refine XD_w [] [] [] (fun _ => none) mixed (by decide +kernel) (sub_none _) ?_ | fail))
              refine XD_abs (fun H => H b1 = some o1 ∧ (∃ o2, H b2 = some o2 ∧ Cell o2 (I n)) ∧ (∃ o3, H b3 = some o3 ∧ o3.ty = 31 ∧ o3.s = 3 ∧ o3.n = 1 ∧ o3.f 0 0 = I 3 ∧ o3.f 0 1 = S (bOf ((c :: r).take n)) ∧ o3.f 0 2 = I line) ∧ Own h H (T 5) 31 3 out.length (cellsL cT out)) ?_ ?_
              · refine ⟨by simp [go_sem, *], ⟨_, by (repeat rw [upd_ne _ _ hb23]); rw [upd_same], by first | exact d1 | rfl, by first | exact d2 | rfl, by first | exact d3 | simp⟩, ⟨_, upd_same _ _ _, ?_⟩, ?_⟩
                · exact ⟨rfl, rfl, rfl, by simp, by simp, by simp⟩
                · exact keep_own hown ho1 hb1 (.inl (by omega)) fun c oc hc hcb => by have m2 := (ne_free hb2 hc).2; have m3 := (ne_free hb3 hc).2; simp [go_sem, *]
              rintro H ⟨q1, ⟨o2, q2, ⟨p1, p2, p3⟩⟩, ⟨o3, q3, q4, q5, q6, q7, q8, q9⟩, hown2⟩
              refine XD_w [] [1, 4, 5] [] (only [b1, b2, b3] H) mixed (by decide +kernel) (only_sub _ _) ?_
              have k1 : only [b1, b2, b3] H b1 = some o1 := by rw [only_in (by simp), q1]
              have k2 : only [b1, b2, b3] H b2 = some o2 := by rw [only_in (by simp), q2]
              have k3 : only [b1, b2, b3] H b3 = some o3 := by rw [only_in (by simp), q3]
              (repeat' (first | simp [go_sem, X_region, *] | simp (disch := omega) only [om, *] | ((first | refine XC_split ?_ ?_ | refine XG_true ?_ ?_ | refine XG_false ?_ ?_ | refine XRg_true ?_ ?_ | refine XRg_false ?_ ?_) <;> intro hc <;> (try simp only [bl] at hc) <;> (try (exfalso; omega))) | refine XD_w [] [] [] (fun _ => none) mixed (by decide +kernel) (sub_none _) ?_ | fail))
              refine Own.push2 (x := (⟨3, bOf ((c :: r).take n), line⟩ : Tok)) (hown2) (by simp [go_sem, *]) und23 zr31 by31 (by simp [go_sem]) (by simp [go_sem, *]; rfl) (by simp [go_sem, *]) (by omega) (by omega) fun a1 h1 hown1 hkeep1 => ?_
              have hsb : Sub (only [b1, b2, b3] H) h1 := fun b o hb => by
                have hb' := only_sub _ _ _ _ hb
                refine hkeep1 b o hb' fun e => ?_
                unfold only at hb
                split at hb
                · rename_i hm
                  simp only [List.mem_cons, List.not_mem_nil, or_false] at hm
                  rcases hm with rfl | rfl | rfl
                  · exact hown2.ne q1 (.inl (by omega)) e
                  · exact hown2.ne q2 (.inl (by omega)) e
                  · exact own_free hown hb3 e
                · cases hb
              have q1' := hkeep1 b1 o1 q1 (hown2.ne q1 (.inl (by omega)))
              (repeat' (first | simp [go_sem, X_region, *] | simp (disch := omega) only [om, *] | ((first | refine XC_split ?_ ?_ | refine XG_true ?_ ?_ | refine XG_false ?_ ?_ | refine XRg_true ?_ ?_ | refine XRg_false ?_ ?_) <;> intro hc <;> (try simp only [bl] at hc) <;> (try (exfalso; omega))) | refine XD_w [] [] [] (fun _ => none) mixed (by decide +kernel) (sub_none _) ?_ | fail))
              exact ⟨(r.drop (n - 1)).length, by simp <;> omega, hJ.out _ _ _ ⟨r.drop (n - 1), out ++ [⟨3, bOf ((c :: r).take n), line⟩], line, _, rfl, by simp <;> omega, hl0, by simp <;> omega, hR, by simp [go_sem, *], by simp [go_sem, *], hown1.set q1' hb1 (.inl (by omega)), upd_same _ _ _, by first | rfl | exact ht1, by first | rfl | exact c1, by first | rfl | exact c2, by simp⟩⟩
        · rw [oneF_letter c r hl] at hR
          unfold isLetter at hl
          simp only [decide_eq_true_eq] at hl
          have hex : (bOf (c :: r)).extract 0 (1 + (r.takeWhile isInner).length) = bOf ((c :: r).take (1 + (r.takeWhile isInner).length)) := by simpa using bOf_extract (c :: r) 0 (1 + (r.takeWhile isInner).length)
          (repeat' (first | simp [go_sem, X_region, *] | simp (disch := omega) only [om, *] | ((first | refine XC_split ?_ ?_ | refine XG_true ?_ ?_ | refine XG_false ?_ ?_ | refine XRg_true ?_ ?_ | refine XRg_false ?_ ?_) <;> intro hc <;> (try simp only [bl] at hc) <;> (try (exfalso; omega))) | refine XD_w [] [] [] (fun _ => none) mixed (by decide +kernel) (sub_none _) ?_ | fail))
          refine CallK.mono (part_ok _ isInner set_inner _ b2 b1 _ o1 (by rw [upd_ne _ _ hb23, upd_same]) (by rw [upd_ne _ _ n13.2, upd_ne _ _ n12.2]; exact ho1) n12.2 1 (bOf (c :: r)) ⟨rfl, rfl, by simp⟩ ⟨c1, c2, c3⟩ (by omega) (by omega)) ?_
          rintro r0 h5 ⟨rfl, on2, rfl, hty2, ⟨d1, d2, d3⟩⟩
          simp only [show (bOf (c :: r)).data.toList.drop 1 = r from rfl] at d3
          generalize hn : 1 + (r.takeWhile isInner).length = n at *
          have hn1 : 1 ≤ n := by omega
          have hn2 : n ≤ r.length + 1 := by omega
          have hdr := bOf_cut c r n hn1 hn2
          have hky : (keysB.any fun k => decide (bOf ((c :: r).take n) = k)) = isKey (bOf ((c :: r).take n)) := rfl
          generalize hkey : isKey (bOf ((c :: r).take n)) = key at *
          (repeat' (first | simp [go_sem, X_region, *] | simp (disch := omega) only [om, *] | ((first | refine XC_split ?_ ?_ | refine XG_true ?_ ?_ | refine XG_false ?_ ?_ | refine XRg_true ?_ ?_ | refine XRg_false ?_ ?_) <;> intro hc <;> (try simp only [bl] at hc) <;> (try (exfalso; omega))) | refine XD_w [] [] [] (fun _ => none) mixed (by decide +kernel) (sub_none _) ?_ | refine Pure.call (reserved_ok) ?_ | refine ⟨_, Pure.at (reserved_ok), ?_⟩ | refine ⟨_, reserved_ok, ?_⟩ | refine Pure.call (contains_ok _ keysB) ?_ | refine ⟨_, Pure.at (contains_ok _ keysB), ?_⟩ | refine ⟨_, contains_ok _ keysB, ?_⟩ | fail))
          · simp only [show key = true from hc, if_true] at hR
            rw [if_neg (by decide)] at hR
            refine XD_abs (fun H => H b1 = some o1 ∧ (∃ o2, H b2 = some o2 ∧ Cell o2 (I n)) ∧ (∃ o3, H b3 = some o3 ∧ o3.ty = 31 ∧ o3.s = 3 ∧ o3.n = 1 ∧ o3.f 0 0 = I 2 ∧ o3.f 0 1 = S (bOf ((c :: r).take n)) ∧ o3.f 0 2 = I line) ∧ Own h H (T 5) 31 3 out.length (cellsL cT out)) ?_ ?_
            · refine ⟨by simp [go_sem, *], ⟨_, by (repeat rw [upd_ne _ _ hb23]); rw [upd_same], by first | exact d1 | rfl, by first | exact d2 | rfl, by first | exact d3 | simp⟩, ⟨_, upd_same _ _ _, ?_⟩, ?_⟩
              · exact ⟨rfl, rfl, rfl, by simp, by simp, by simp⟩
              · exact keep_own hown ho1 hb1 (.inl (by omega)) fun c oc hc hcb => by have m2 := (ne_free hb2 hc).2; have m3 := (ne_free hb3 hc).2; simp [go_sem, *]
            rintro H ⟨q1, ⟨o2, q2, ⟨p1, p2, p3⟩⟩, ⟨o3, q3, q4, q5, q6, q7, q8, q9⟩, hown2⟩
            refine XD_w [] [1, 4, 5] [] (only [b1, b2, b3] H) mixed (by decide +kernel) (only_sub _ _) ?_
            have k1 : only [b1, b2, b3] H b1 = some o1 := by rw [only_in (by simp), q1]
            have k2 : only [b1, b2, b3] H b2 = some o2 := by rw [only_in (by simp), q2]
            have k3 : only [b1, b2, b3] H b3 = some o3 := by rw [only_in (by simp), q3]
            (repeat' (first | simp [go_sem, X_region, *] | simp (disch := omega) only [om, *] | ((first | refine XC_split ?_ ?_ | refine XG_true ?_ ?_ | refine XG_false ?_ ?_ | refine XRg_true ?_ ?_ | refine XRg_false ?_ ?_) <;> intro hc <;> (try simp only [bl] at hc) <;> (try (exfalso; omega))) | refine XD_w [] [] [] (fun _ => none) mixed (by decide +kernel) (sub_none _) ?_ | fail))
            refine Own.push2 (x := (⟨2, bOf ((c :: r).take n), line⟩ : Tok)) (hown2) (by simp [go_sem, *]) und23 zr31 by31 (by simp [go_sem]) (by simp [go_sem, *]; rfl) (by simp [go_sem, *]) (by omega) (by omega) fun a1 h1 hown1 hkeep1 => ?_
            have hsb : Sub (only [b1, b2, b3] H) h1 := fun b o hb => by
              have hb' := only_sub _ _ _ _ hb
              refine hkeep1 b o hb' fun e => ?_
              unfold only at hb
              split at hb
              · rename_i hm
                simp only [List.mem_cons, List.not_mem_nil, or_false] at hm
                rcases hm with rfl | rfl | rfl
                · exact hown2.ne q1 (.inl (by omega)) e
                · exact hown2.ne q2 (.inl (by omega)) e
                · exact own_free hown hb3 e
              · cases hb
            have q1' := hkeep1 b1 o1 q1 (hown2.ne q1 (.inl (by omega)))
            (repeat' (first | simp [go_sem, X_region, *] | simp (disch := omega) only [om, *] | ((first | refine XC_split ?_ ?_ | refine XG_true ?_ ?_ | refine XG_false ?_ ?_ | refine XRg_true ?_ ?_ | refine XRg_false ?_ ?_) <;> intro hc <;> (try simp only [bl] at hc) <;> (try (exfalso; omega))) | refine XD_w [] [] [] (fun _ => none) mixed (by decide +kernel) (sub_none _) ?_ | fail))
            exact ⟨(r.drop (n - 1)).length, by simp <;> omega, hJ.out _ _ _ ⟨r.drop (n - 1), out ++ [⟨2, bOf ((c :: r).take n), line⟩], line, _, rfl, by simp <;> omega, hl0, by simp <;> omega, hR, by simp [go_sem, *], by simp [go_sem, *], hown1.set q1' hb1 (.inl (by omega)), upd_same _ _ _, by first | rfl | exact ht1, by first | rfl | exact c1, by first | rfl | exact c2, by simp⟩⟩
          · have hc' : 20 < n := by omega
            simp only [show key = false from ‹key = false›, Bool.false_eq_true, if_false, hc', if_true] at hR
            subst hR
            exact Wk.tup3_1 (Wk.nil.trans (Wk.drop _ (keep_own hown ho1 hb1 (.inl (by omega)) fun c oc hc hcb => by have m2 := (ne_free hb2 hc).2; have m3 := (ne_free hb3 hc).2; simp [go_sem, *]).1)) _ _
          · have hc' : ¬ 20 < n := by omega
            simp only [show key = false from ‹key = false›, Bool.false_eq_true, if_false, hc'] at hR
            rw [if_neg (by decide)] at hR
            refine XD_abs (fun H => H b1 = some o1 ∧ (∃ o2, H b2 = some o2 ∧ Cell o2 (I n)) ∧ (∃ o3, H b3 = some o3 ∧ o3.ty = 31 ∧ o3.s = 3 ∧ o3.n = 1 ∧ o3.f 0 0 = I 1 ∧ o3.f 0 1 = S (bOf ((c :: r).take n)) ∧ o3.f 0 2 = I line) ∧ Own h H (T 5) 31 3 out.length (cellsL cT out)) ?_ ?_
            · refine ⟨by simp [go_sem, *], ⟨_, by (repeat rw [upd_ne _ _ hb23]); rw [upd_same], by first | exact d1 | rfl, by first | exact d2 | rfl, by first | exact d3 | simp⟩, ⟨_, upd_same _ _ _, ?_⟩, ?_⟩
              · exact ⟨rfl, rfl, rfl, by simp, by simp, by simp⟩
              · exact keep_own hown ho1 hb1 (.inl (by omega)) fun c oc hc hcb => by have m2 := (ne_free hb2 hc).2; have m3 := (ne_free hb3 hc).2; simp [go_sem, *]
            rintro H ⟨q1, ⟨o2, q2, ⟨p1, p2, p3⟩⟩, ⟨o3, q3, q4, q5, q6, q7, q8, q9⟩, hown2⟩
            refine XD_w [] [1, 4, 5] [] (only [b1, b2, b3] H) mixed (by decide +kernel) (only_sub _ _) ?_
            have k1 : only [b1, b2, b3] H b1 = some o1 := by rw [only_in (by simp), q1]
            have k2 : only [b1, b2, b3] H b2 = some o2 := by rw [only_in (by simp), q2]
            have k3 : only [b1, b2, b3] H b3 = some o3 := by rw [only_in (by simp), q3]
            (repeat' (first | simp [go_sem, X_region, *] | simp (disch := omega) only [om, *] | ((first | refine XC_split ?_ ?_ | refine XG_true ?_ ?_ | refine XG_false ?_ ?_ | refine XRg_true ?_ ?_ | refine XRg_false ?_ ?_) <;> intro hc <;> (try simp only [bl] at hc) <;> (try (exfalso; omega))) | refine XD_w [] [] [] (fun _ => none) mixed (by decide +kernel) (sub_none _) ?_ | fail))
            refine Own.push2 (x := (⟨1, bOf ((c :: r).take n), line⟩ : Tok)) (hown2) (by simp [go_sem, *]) und23 zr31 by31 (by simp [go_sem]) (by simp [go_sem, *]; rfl) (by simp [go_sem, *]) (by omega) (by omega) fun a1 h1 hown1 hkeep1 => ?_
            have hsb : Sub (only [b1, b2, b3] H) h1 := fun b o hb => by
              have hb' := only_sub _ _ _ _ hb
              refine hkeep1 b o hb' fun e => ?_
              unfold only at hb
              split at hb
              · rename_i hm
                simp only [List.mem_cons, List.not_mem_nil, or_false] at hm
                rcases hm with rfl | rfl | rfl
                · exact hown2.ne q1 (.inl (by omega)) e
                · exact hown2.ne q2 (.inl (by omega)) e
                · exact own_free hown hb3 e
              · cases hb
            have q1' := hkeep1 b1 o1 q1 (hown2.ne q1 (.inl (by omega)))
            (repeat' (first | simp [go_sem, X_region, *] | simp (disch := omega) only [om, *] | ((first | refine XC_split ?_ ?_ | refine XG_true ?_ ?_ | refine XG_false ?_ ?_ | refine XRg_true ?_ ?_ | refine XRg_false ?_ ?_) <;> intro hc <;> (try simp only [bl] at hc) <;> (try (exfalso; omega))) | refine XD_w [] [] [] (fun _ => none) mixed (by decide +kernel) (sub_none _) ?_ | fail))
            exact ⟨(r.drop (n - 1)).length, by simp <;> omega, hJ.out _ _ _ ⟨r.drop (n - 1), out ++ [⟨1, bOf ((c :: r).take n), line⟩], line, _, rfl, by simp <;> omega, hl0, by simp <;> omega, hR, by simp [go_sem, *], by simp [go_sem, *], hown1.set q1' hb1 (.inl (by omega)), upd_same _ _ _, by first | rfl | exact ht1, by first | rfl | exact c1, by first | rfl | exact c2, by simp⟩⟩
end Go.Proofs.YtmalhikcdideoaaDoor
