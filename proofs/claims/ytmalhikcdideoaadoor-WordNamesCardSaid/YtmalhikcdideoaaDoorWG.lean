/- strings.Fields at texts of single bytes. -/
import Derived.Test.YtmalhikcdideoaaDoorWF
import Derived.Lib.Hide
set_option linter.unusedVariables false
set_option linter.unusedSimpArgs false
namespace Go.Proofs.YtmalhikcdideoaaDoor
open Go Sl
attribute [local irreducible] LpQ XR XRo XRg XRQ putQ XFv XL XW2 wQ putW X XO XOp XH XHo XW SeqQ BlkQ XOQ XHQ NrmQ XC XM XG XHM XHG XD CallK
def isSp (c : UInt8) : Bool := isSpaceN c.toNat
/-- Words: behind a space; within a word. -/
def fw : Bool → List UInt8 → List UInt8 → List (List UInt8)
  | true, _, [] => []
  | false, cur, [] => [cur]
  | true, _, c :: r => if isSp c then fw true [] r else fw false [c] r
  | false, cur, c :: r => if isSp c then cur :: fw true [] r else fw false (cur ++ [c]) r
/-- How many words begin. -/
def cnt : Bool → List UInt8 → Nat
  | _, [] => 0
  | w, c :: r => (if w && !isSp c then 1 else 0) + cnt (isSp c) r
theorem cnt_fw : ∀ (l : List UInt8), (fw true [] l).length = cnt true l ∧ ∀ cur, (fw false cur l).length = 1 + cnt false l := by
  intro l
  induction l with
  | nil => exact ⟨rfl, fun _ => rfl⟩
  | cons c l ih =>
    refine ⟨?_, fun cur => ?_⟩
    · unfold fw cnt
      by_cases h : isSp c = true
      · simp [h, ih.1]
      · simp [h, ih.2]
    · unfold fw cnt
      by_cases h : isSp c = true
      · simp [h, ih.1]; omega
      · simp [h, ih.2]
theorem cnt_le : ∀ (w : Bool) (l : List UInt8), cnt w l ≤ l.length := by
  intro w l
  induction l generalizing w with
  | nil => simp [cnt]
  | cons c l ih => unfold cnt; have := ih (isSp c); simp only [List.length_cons]; split <;> omega
theorem sp_at (c : UInt8) : spaceL[c.toNat]?.getD undef = .int .u8 (if isSp c = true then 1 else 0) := by
  rw [← List.getD_eq_getElem?_getD]; exact spaceL_at (UInt8.toNat_lt c)
set_option maxRecDepth 100000 in
theorem bor_small (a b : Int) (h0 : 0 ≤ a) (h1 : a < 128) (h2 : 0 ≤ b) (h3 : b < 128) : 0 ≤ bor .u8 a b ∧ bor .u8 a b < 128 := by
  have h : ∀ a b : Fin 128, 0 ≤ bor .u8 (a.val : Int) (b.val : Int) ∧ bor .u8 (a.val : Int) (b.val : Int) < 128 := by decide +kernel
  have := h ⟨a.toNat, by omega⟩ ⟨b.toNat, by omega⟩
  simp only [Int.toNat_of_nonneg h0, Int.toNat_of_nonneg h2] at this
  exact this
theorem bn0 : bnot .i64 0 = -1 := by decide +kernel
theorem bn1 : bnot .i64 1 = -2 := by decide +kernel
theorem ba00 : band .i64 0 (-1) = 0 := by decide +kernel
theorem ba01 : band .i64 0 (-2) = 0 := by decide +kernel
theorem ba10 : band .i64 1 (-1) = 1 := by decide +kernel
theorem ba11 : band .i64 1 (-2) = 0 := by decide +kernel
def asc (c : UInt8) : Prop := c.toNat < 128
/-- What an own row of texts holds so far. -/
def Holds (ob : Ob) (e : TypeId) (n : Nat) (l : List (List UInt8)) : Prop := ob.ty = e ∧ ob.s = 1 ∧ ob.n = n ∧ ∀ i x, l[i]? = some x → ob.f i 0 = S (bOf x)
theorem Holds.set {e : TypeId} {n : Nat} {l : List (List UInt8)} {g : Nat → Nat → AV} (h4 : ∀ (i : Nat) (x : List UInt8), l[i]? = some x → g i 0 = S (bOf x)) (x : List UInt8) : Holds { ty := e, s := 1, n := n, f := fun i' j' => if i' = l.length ∧ j' = 0 then S (bOf x) else g i' j' } e n (l ++ [x]) := by
  refine ⟨rfl, rfl, rfl, fun i y hy => ?_⟩
  by_cases hi : i = l.length
  · subst hi
    simp at hy
    subst hy
    simp
  · simp only [hi, false_and, if_false]
    refine h4 i y ?_
    have : i < l.length := by
      have := (List.getElem?_eq_some_iff.1 hy).1
      simp at this
      omega
    rwa [List.getElem?_append_left this] at hy
def Ex (r : List UInt8) : Prop := r = [] ∨ ∃ c r', r = c :: r' ∧ isSp c = false
theorem Ex.or (r : List UInt8) : (∃ c r', r = c :: r' ∧ isSp c = true) ∨ r = [] ∨ ∃ c r', r = c :: r' ∧ isSp c = false := by
  rcases r with _ | ⟨c, r⟩
  · exact .inr (.inl rfl)
  · cases h : isSp c
    · exact .inr (.inr ⟨c, r, rfl, h⟩)
    · exact .inl ⟨c, r, rfl, h⟩
def left (cur r : List UInt8) : List (List UInt8) := if cur = [] then fw true [] r else fw false cur r
theorem left_word (cur : List UInt8) (c : UInt8) (r : List UInt8) (h : isSp c = false) : left cur (c :: r) = left (cur ++ [c]) r := by
  unfold left
  by_cases hc : cur = []
  · subst hc; simp [fw, h]
  · rw [if_neg hc, if_neg (by simp)]; simp [fw, h]
theorem left_space (cur : List UInt8) (c : UInt8) (r : List UInt8) (h : isSp c = true) (hc : cur ≠ []) : left cur (c :: r) = cur :: fw true [] r := by
  unfold left
  rw [if_neg hc]; simp [fw, h]
theorem fw_space (c : UInt8) (r : List UInt8) (h : isSp c = true) : fw true [] (c :: r) = fw true [] r := by simp [fw, h]
theorem left_nil (r : List UInt8) : left [] r = fw true [] r := by simp [left]
theorem Holds.fin {h : Hp} {b : Nat} {ob : Ob} {e : TypeId} {n : Nat} {l : List (List UInt8)} (hh : Holds ob e n l) (hb : h b = none) (hl : l.length = n) (hn : n ≤ 1000000) : Wk (upd h b (some ob)) (.row b 1 0 n) h (encL 1 cS (l.map bOf)) := by
  obtain ⟨h1, h2, h3, h4⟩ := hh
  have : (l.map bOf).length = n := by simp [hl]
  rw [encL_eq, this]
  refine Wk.rowF (upd_same _ _ _) (Sub.upd hb (Sub.refl _)) hb h2 (by omega) (by omega) fun i hi j hj => ?_
  have hj0 : j = 0 := by omega
  subst hj0
  have hx : l[i]? = some l[i] := List.getElem?_eq_getElem (by omega)
  rw [h4 i _ hx, cellsL_at (x := bOf l[i]) (by simp [hx])]
  rfl
theorem take_more {s : ByteArray} {fs i : Nat} {cur r : List UInt8} {c : UInt8} (h1 : (s.data.toList.drop fs).take cur.length = cur) (h2 : fs + cur.length = i) (h3 : s.data.toList.drop i = c :: r) : (s.data.toList.drop fs).take (cur ++ [c]).length = cur ++ [c] := by
  have h4 : (s.data.toList.drop fs)[cur.length]? = some c := by
    rw [List.getElem?_drop, h2]
    have := congrArg List.head? h3
    simpa [List.head?_drop] using this
  rw [List.length_append, List.length_singleton, List.take_add_one, h1, h4]
  rfl
theorem fields_ok (s : ByteArray) (hs : s.size ≤ 1000000) (ha : ∀ c ∈ s.data.toList, asc c) : Pure Tryd.prog 14 [S s] (encL 1 cS ((fw true [] s.data.toList).map bOf)) := by
  obtain ⟨A, hA⟩ : ∃ A, fw true [] s.data.toList = A := ⟨_, rfl⟩
  have hcnt := (cnt_fw s.data.toList).1
  have hcle := cnt_le true s.data.toList
  rw [hA] at hcnt
  rw [size_list] at hcle
  rw [hA]
  obtain ⟨RR, hRR⟩ : ∃ RR, encL 1 cS (A.map bOf) = RR := ⟨_, rfl⟩
  rw [hRR]
  have HRR := Lib.hid hRR
  clear hRR
  obtain ⟨N, hN⟩ : ∃ N, A.length = N := ⟨_, rfl⟩
  rw [hN] at hcnt
  have hNs : N ≤ s.size := by omega
  have hc0 : 0 + cnt true s.data.toList = N := by omega
  have HA := Lib.hid hA
  have HN := Lib.hid hN
  clear hA hN hcnt hcle
  intro h; refine callK_body Tryd.func14 rfl (by rw [nt14]; simp) ?_; rw [nt14, rs14]
  (repeat' (first | simp [go_sem, X_region, *] | simp (disch := omega) only [om, *] | ((first | refine XC_split ?_ ?_ | refine XG_true ?_ ?_ | refine XG_false ?_ ?_ | refine XRg_true ?_ ?_ | refine XRg_false ?_ ?_) <;> intro hc <;> (try simp only [bl] at hc) <;> (try (exfalso; omega))) | refine XD_w [] [] [] (fun _ => none) mixed (by decide +kernel) (sub_none _) ?_ | (intro bk hbk; (try simp only [go_sem] at hbk))))
  refine X_lp (fun n T h' => ∃ (i : Nat) (r : List UInt8) (w : Bool) (k : Nat) (v : Int), n = r.length ∧ i ≤ s.size ∧ s.data.toList.drop i = r ∧ k + cnt w r = N ∧ 0 ≤ v ∧ v < 128 ∧ T 0 = S s ∧ T 3 = I k ∧ T 4 = I (if w = true then 1 else 0) ∧ T 5 = .v (.int .u8 v) ∧ T 6 = I i ∧ h' = h) _ ⟨0, _, true, 0, 0, rfl, by omega, rfl, by simpa using hc0, by omega, by omega, by simp [go_sem], by simp [go_sem], by simp [go_sem], by simp [go_sem], by simp [go_sem], rfl⟩ ?_
  clear hc0
  rintro J hJ n T h' ⟨i, r, w, k, v, rfl, hi, hd, hk, hv0, hv1, h0, h3, h4, h5, h6, rfl⟩
  rcases r with _ | ⟨c, r⟩
  · have hlt := str_nil hd
    simp only [cnt, Nat.add_zero] at hk
    subst hk
    clear hJ
    (repeat' (first | simp [go_sem, X_region, *] | simp (disch := omega) only [om, *] | ((first | refine XC_split ?_ ?_ | refine XG_true ?_ ?_ | refine XG_false ?_ ?_ | refine XRg_true ?_ ?_ | refine XRg_false ?_ ?_) <;> intro hc <;> (try simp only [bl] at hc) <;> (try (exfalso; omega))) | refine XD_w [] [] [] (fun _ => none) mixed (by decide +kernel) (sub_none _) ?_ | (intro bk hbk; (try simp only [go_sem] at hbk))))
    refine X_makeSlice k k und33 zr9 by9 (by simp [go_sem]) (by simp [go_sem]) (Nat.le_refl _) (by omega) (by omega) fun b hb => ?_
    obtain ⟨ob, hob, hh⟩ : ∃ ob : Ob, (⟨9, 1, k, fun _ j => .v ([Value.string ⟨#[]⟩].getD j undef)⟩ : Ob) = ob ∧ Holds ob 9 k [] := ⟨_, rfl, rfl, rfl, rfl, fun i x h => by simp at h⟩
    rw [hob]
    clear hob
    clear h3 h4 h5 h6 hi hd hlt hv0 hv1
    (repeat' (first | simp [go_sem, X_region, *] | simp (disch := omega) only [om, *] | ((first | refine XC_split ?_ ?_ | refine XG_true ?_ ?_ | refine XG_false ?_ ?_ | refine XRg_true ?_ ?_ | refine XRg_false ?_ ?_) <;> intro hc <;> (try simp only [bl] at hc) <;> (try (exfalso; omega))) | refine XD_w [] [] [] (fun _ => none) mixed (by decide +kernel) (sub_none _) ?_ | (intro bk hbk; (try simp only [go_sem] at hbk))))
    refine X_lp (fun n T h2 => ∃ (i : Nat) (r : List UInt8), n = r.length ∧ i ≤ s.size ∧ s.data.toList.drop i = r ∧ RowKit.Hid (fw true [] r = A) ∧ T 0 = S s ∧ T 9 = .row b 1 0 k ∧ T 10 = I 0 ∧ T 12 = I i ∧ h2 = upd h' b (some ob)) _ ⟨0, _, rfl, by omega, rfl, HA, by simp [go_sem, *], by simp [go_sem], by simp [go_sem], by simp [go_sem], rfl⟩ ?_
    clear HA
    rintro J hJ n T h2 ⟨i, r, rfl, hi, hd, HA, h0, h9, h10, h12, rfl⟩
    rcases Ex.or r with ⟨c, r, rfl, hc⟩ | hex
    · obtain ⟨hlt, hg, hd2⟩ := str_cons hd
      have hsp := sp_at c
      have hac := UInt8.toNat_lt c
      rw [if_pos hc] at hsp
      (repeat' (first | simp [go_sem, X_region, *] | simp (disch := omega) only [om, *] | ((first | refine XC_split ?_ ?_ | refine XG_true ?_ ?_ | refine XG_false ?_ ?_ | refine XRg_true ?_ ?_ | refine XRg_false ?_ ?_) <;> intro hc <;> (try simp only [bl] at hc) <;> (try (exfalso; omega))) | refine XD_w [] [] [] (fun _ => none) mixed (by decide +kernel) (sub_none _) ?_ | (intro bk hbk; (try simp only [go_sem] at hbk))))
      exact ⟨r.length, by simp, hJ.out _ _ _ ⟨i + 1, r, rfl, by omega, hd2, by have := HA.out; rw [fw_space c r hc] at this; exact Lib.hid this, by simp [go_sem, *], by simp [go_sem, *], by simp [go_sem, *], by simp [go_sem, *], rfl⟩⟩
    · have hex2 : Ex r := hex
      rcases hex with hr | ⟨c, r', hr, hc⟩
      case' inl =>
        rw [hr] at hd
        have hlt := str_nil hd
        rw [← hr] at hd
        (repeat' (first | simp [go_sem, X_region, *] | simp (disch := omega) only [om, *] | ((first | refine XC_split ?_ ?_ | refine XG_true ?_ ?_ | refine XG_false ?_ ?_ | refine XRg_true ?_ ?_ | refine XRg_false ?_ ?_) <;> intro hc <;> (try simp only [bl] at hc) <;> (try (exfalso; omega))) | refine XD_w [] [] [] (fun _ => none) mixed (by decide +kernel) (sub_none _) ?_ | (intro bk hbk; (try simp only [go_sem] at hbk))))
        clear hr
      case' inr =>
        rw [hr] at hd
        obtain ⟨hlt, hg, hd2⟩ := str_cons hd
        have hsp := sp_at c
        have hac := UInt8.toNat_lt c
        rw [if_neg (by simp [hc])] at hsp
        rw [← hr] at hd
        (repeat' (first | simp [go_sem, X_region, *] | simp (disch := omega) only [om, *] | ((first | refine XC_split ?_ ?_ | refine XG_true ?_ ?_ | refine XG_false ?_ ?_ | refine XRg_true ?_ ?_ | refine XRg_false ?_ ?_) <;> intro hc <;> (try simp only [bl] at hc) <;> (try (exfalso; omega))) | refine XD_w [] [] [] (fun _ => none) mixed (by decide +kernel) (sub_none _) ?_ | (intro bk hbk; (try simp only [go_sem] at hbk))))
      all_goals
        clear hJ J
        obtain ⟨i0, hi0⟩ : ∃ i0, i = i0 := ⟨_, rfl⟩
        refine X_lp (fun n T h2 => ∃ (i fs : Nat) (r cur : List UInt8) (W : List (List UInt8)) (o2 : Ob), n = r.length ∧ i ≤ s.size ∧ s.data.toList.drop i = r ∧ fs + cur.length = i ∧ (s.data.toList.drop fs).take cur.length = cur ∧ RowKit.Hid (cur = [] → Ex r) ∧ RowKit.Hid (W ++ left cur r = A) ∧ Holds o2 9 k W ∧ T 0 = S s ∧ T 9 = .row b 1 0 k ∧ T 10 = I W.length ∧ T 11 = I fs ∧ T 12 = I i ∧ h2 = upd h' b (some o2)) _ ⟨i, i, r, [], [], ob, rfl, hi, hd, rfl, rfl, Lib.hid fun _ => hex2, by have := HA.out; rw [← left_nil] at this; exact Lib.hid this, hh, by simp [go_sem, *], by simp [go_sem, *], by simp [go_sem, *], by simp [go_sem, *], by simp [go_sem, *], rfl⟩ ?_
        clear HA h0 h9 h10 h12 hi hd hex2 hh hi0 i0
        try clear hg hd2 hsp hac hr hc c r'
        clear hlt
        clear ob i r T
        rintro J hJ n T h2 ⟨i, fs, r, cur, W, ob, rfl, hi, hd, hfs, hcur, hex, HA, hh, h0, h9, h10, h11, h12, rfl⟩
        obtain ⟨q1, q2, q3, q4⟩ := hh
        have hx : s.extract fs i = bOf cur := by rw [← hfs, extract_take, hcur]
        have hlen : W.length + (left cur r).length = k := by have := HA.out; have h2 := HN.out; rw [← this, List.length_append] at h2; exact h2
        have hcn : cur ≠ [] → 1 ≤ (left cur r).length := fun h => by unfold left; rw [if_neg h, (cnt_fw r).2]; omega
        rcases r with _ | ⟨c, r⟩
        · have hlt := str_nil hd
          have hie : i = s.size := by omega
          clear hJ
          by_cases hce : cur = []
          · subst hce
            have hf2 : ¬ fs < s.size := by simp at hfs; omega
            have hWA : W = A := by have := HA.out; simpa [left, fw] using this
            clear hcn hlen HA hcur hex
            have hkk := HN.out
            subst hWA
            have hfin := Lib.hid (Holds.fin (h := h') (b := b) ⟨q1, q2, q3, q4⟩ hb hkk (by omega))
            (repeat' (first | simp [go_sem, X_region, *] | simp (disch := omega) only [om, *] | ((first | refine XC_split ?_ ?_ | refine XG_true ?_ ?_ | refine XG_false ?_ ?_ | refine XRg_true ?_ ?_ | refine XRg_false ?_ ?_) <;> intro hc <;> (try simp only [bl] at hc) <;> (try (exfalso; omega))) | refine XD_w [] [] [] (fun _ => none) mixed (by decide +kernel) (sub_none _) ?_ | (intro bk hbk; (try simp only [go_sem] at hbk))))
            rw [← HRR.out]; exact hfin.out
          · have hf2 : fs < s.size := by have : 0 < cur.length := List.length_pos_iff.2 hce
                                         omega
            have hWA : W ++ [cur] = A := by have := HA.out; simpa [left, hce, fw] using this
            have hWk : W.length < k := by have := hcn hce; omega
            have hx2 : s.extract fs s.size = bOf cur := by rw [← hie]; exact hx
            clear hcn hlen HA hcur hex hfs
            have hkk := HN.out
            have hfin := Lib.hid (Holds.fin (h := h') (b := b) (Holds.set (e := 9) (n := k) q4 cur) hb (by rw [hWA]; exact hkk) (by omega))
            rw [hWA] at hfin
            clear hkk hWA HN
            (repeat' (first | simp [go_sem, X_region, *] | simp (disch := omega) only [om, *] | ((first | refine XC_split ?_ ?_ | refine XG_true ?_ ?_ | refine XG_false ?_ ?_ | refine XRg_true ?_ ?_ | refine XRg_false ?_ ?_) <;> intro hc <;> (try simp only [bl] at hc) <;> (try (exfalso; omega))) | refine XD_w [] [] [] (fun _ => none) mixed (by decide +kernel) (sub_none _) ?_ | (intro bk hbk; (try simp only [go_sem] at hbk))))
            rw [← HRR.out]; exact hfin.out
        · obtain ⟨hlt, hg, hd2⟩ := str_cons hd
          have hsp := sp_at c
          have hac := UInt8.toNat_lt c
          cases hc : isSp c
          · rw [if_neg (by simp [hc])] at hsp
            have htm := take_more hcur hfs hd
            have HA2 : RowKit.Hid (W ++ left (cur ++ [c]) r = A) := by have := HA.out; rw [left_word _ _ _ hc] at this; exact Lib.hid this
            clear HA hcn hlen hex
            (repeat' (first | simp [go_sem, X_region, *] | simp (disch := omega) only [om, *] | ((first | refine XC_split ?_ ?_ | refine XG_true ?_ ?_ | refine XG_false ?_ ?_ | refine XRg_true ?_ ?_ | refine XRg_false ?_ ?_) <;> intro hc <;> (try simp only [bl] at hc) <;> (try (exfalso; omega))) | refine XD_w [] [] [] (fun _ => none) mixed (by decide +kernel) (sub_none _) ?_ | (intro bk hbk; (try simp only [go_sem] at hbk))))
            exact ⟨r.length, by omega, hJ.out _ _ _ ⟨i + 1, fs, r, cur ++ [c], W, ob, rfl, by omega, hd2, by simp; omega, htm, Lib.hid fun e => by simp at e, HA2, ⟨q1, q2, q3, q4⟩, by simp [go_sem, *], by simp [go_sem, *], by simp [go_sem, *], by simp [go_sem, *], by simp [go_sem, *], rfl⟩⟩
          · rw [if_pos hc] at hsp
            have hce : cur ≠ [] := fun e => by
              rcases hex.out e with h1 | ⟨c', r', h1, h2⟩
              · cases h1
              · cases h1; rw [hc] at h2; cases h2
            have hWk : W.length < k := by have := hcn hce; omega
            have HA2 : RowKit.Hid ((W ++ [cur]) ++ fw true [] r = A) := by have := HA.out; rw [left_space _ _ _ hc hce] at this; exact Lib.hid (by simpa using this)
            have hset := Lib.hid (Holds.set (e := 9) (n := k) q4 cur)
            clear HA hcn hlen hex
            (repeat' (first | simp [go_sem, X_region, *] | simp (disch := omega) only [om, *] | ((first | refine XC_split ?_ ?_ | refine XG_true ?_ ?_ | refine XG_false ?_ ?_ | refine XRg_true ?_ ?_ | refine XRg_false ?_ ?_) <;> intro hc <;> (try simp only [bl] at hc) <;> (try (exfalso; omega))) | refine XD_w [] [] [] (fun _ => none) mixed (by decide +kernel) (sub_none _) ?_ | (intro bk hbk; (try simp only [go_sem] at hbk))))
            refine X_lp (fun n T h2 => ∃ (i2 : Nat) (r2 : List UInt8) (o2 : Ob), n = r2.length ∧ i2 ≤ s.size ∧ s.data.toList.drop i2 = r2 ∧ r2.length ≤ r.length ∧ RowKit.Hid ((W ++ [cur]) ++ fw true [] r2 = A) ∧ Holds o2 9 k (W ++ [cur]) ∧ T 0 = S s ∧ T 9 = .row b 1 0 k ∧ T 10 = I (W.length + 1) ∧ T 12 = I i2 ∧ h2 = upd h' b (some o2)) _ ⟨i + 1, r, _, rfl, by omega, hd2, Nat.le_refl _, HA2, hset.out, by simp [go_sem, *], by simp [go_sem, *], by simp [go_sem, *], by simp [go_sem, *], rfl⟩ ?_
            clear HA2 hset h0 h9 h10 h11 h12 hi hfs hcur q1 q2 q3 q4 hx hd hlt hg hd2 hsp hac hc hce c i fs ob T
            rintro J3 hJ3 n T h2 ⟨i, r, ob, rfl, hi, hd, hrl, HA, hh, h0, h9, h10, h12, rfl⟩
            obtain ⟨q1, q2, q3, q4⟩ := hh
            rcases Ex.or r with ⟨c, r, rfl, hc⟩ | hex
            · obtain ⟨hlt, hg, hd2⟩ := str_cons hd
              have hsp := sp_at c
              have hac := UInt8.toNat_lt c
              rw [if_pos hc] at hsp
              (repeat' (first | simp [go_sem, X_region, *] | simp (disch := omega) only [om, *] | ((first | refine XC_split ?_ ?_ | refine XG_true ?_ ?_ | refine XG_false ?_ ?_ | refine XRg_true ?_ ?_ | refine XRg_false ?_ ?_) <;> intro hc <;> (try simp only [bl] at hc) <;> (try (exfalso; omega))) | refine XD_w [] [] [] (fun _ => none) mixed (by decide +kernel) (sub_none _) ?_ | (intro bk hbk; (try simp only [go_sem] at hbk))))
              exact ⟨r.length, by simp, hJ3.out _ _ _ ⟨i + 1, r, ob, rfl, by omega, hd2, by simp at hrl; omega, by have := HA.out; rw [fw_space c r hc] at this; exact Lib.hid this, ⟨q1, q2, q3, q4⟩, by simp [go_sem, *], by simp [go_sem, *], by simp [go_sem, *], by simp [go_sem, *], rfl⟩⟩
            · have hex2 : Ex r := hex
              clear hJ3
              rcases hex with hr | ⟨c, r', hr, hc⟩
              · rw [hr] at hd
                have hlt := str_nil hd
                rw [← hr] at hd
                (repeat' (first | simp [go_sem, X_region, *] | simp (disch := omega) only [om, *] | ((first | refine XC_split ?_ ?_ | refine XG_true ?_ ?_ | refine XG_false ?_ ?_ | refine XRg_true ?_ ?_ | refine XRg_false ?_ ?_) <;> intro hc <;> (try simp only [bl] at hc) <;> (try (exfalso; omega))) | refine XD_w [] [] [] (fun _ => none) mixed (by decide +kernel) (sub_none _) ?_ | (intro bk hbk; (try simp only [go_sem] at hbk))))
                exact ⟨r.length, by omega, hJ.out _ _ _ ⟨i, i, r, [], W ++ [cur], ob, rfl, hi, hd, rfl, rfl, Lib.hid fun _ => hex2, by have := HA.out; rw [← left_nil] at this; exact Lib.hid this, ⟨q1, q2, q3, q4⟩, by simp [go_sem, *], by simp [go_sem, *], by simp [go_sem, *], by simp [go_sem, *], by simp [go_sem, *], rfl⟩⟩
              · rw [hr] at hd
                obtain ⟨hlt, hg, hd2⟩ := str_cons hd
                have hsp := sp_at c
                have hac := UInt8.toNat_lt c
                rw [if_neg (by simp [hc])] at hsp
                rw [← hr] at hd
                clear hd2
                (repeat' (first | simp [go_sem, X_region, *] | simp (disch := omega) only [om, *] | ((first | refine XC_split ?_ ?_ | refine XG_true ?_ ?_ | refine XG_false ?_ ?_ | refine XRg_true ?_ ?_ | refine XRg_false ?_ ?_) <;> intro hc <;> (try simp only [bl] at hc) <;> (try (exfalso; omega))) | refine XD_w [] [] [] (fun _ => none) mixed (by decide +kernel) (sub_none _) ?_ | (intro bk hbk; (try simp only [go_sem] at hbk))))
                exact ⟨r.length, by omega, hJ.out _ _ _ ⟨i, i, r, [], W ++ [cur], ob, rfl, hi, hd, rfl, rfl, Lib.hid fun _ => hex2, by have := HA.out; rw [← left_nil] at this; exact Lib.hid this, ⟨q1, q2, q3, q4⟩, by simp [go_sem, *], by simp [go_sem, *], by simp [go_sem, *], by simp [go_sem, *], by simp [go_sem, *], rfl⟩⟩
  · obtain ⟨hlt, hg, hd2⟩ := str_cons hd
    have hac : asc c := ha c (List.mem_of_mem_drop (by rw [hd]; exact List.mem_cons_self ..))
    unfold asc at hac
    have hb := bor_small v c.toNat hv0 hv1 (by omega) (by omega)
    have hsp := sp_at c
    unfold cnt at hk
    cases hc : isSp c <;> cases w <;> (
      simp only [hc, Bool.false_eq_true, if_false, if_true, Bool.not_true, Bool.not_false, Bool.and_true, Bool.and_false] at hk hsp h4
      (repeat' (first | simp [go_sem, X_region, *] | simp (disch := omega) only [om, *] | ((first | refine XC_split ?_ ?_ | refine XG_true ?_ ?_ | refine XG_false ?_ ?_ | refine XRg_true ?_ ?_ | refine XRg_false ?_ ?_) <;> intro hc <;> (try simp only [bl] at hc) <;> (try (exfalso; omega))) | refine XD_w [] [] [] (fun _ => none) mixed (by decide +kernel) (sub_none _) ?_ | (intro bk hbk; (try simp only [go_sem] at hbk))))
      refine ⟨_, Nat.lt_succ_self _, hJ.out _ _ _ ⟨i + 1, r, _, _, _, rfl, by omega, hd2, (Nat.add_assoc ..).trans hk, hb.1, hb.2, ?_, ?_, ?_, ?_, ?_, rfl⟩⟩ <;> (simp [go_sem, *, bn0, bn1, ba00, ba01, ba10, ba11]; try (simp (disch := omega) only [om])))
end Go.Proofs.YtmalhikcdideoaaDoor
