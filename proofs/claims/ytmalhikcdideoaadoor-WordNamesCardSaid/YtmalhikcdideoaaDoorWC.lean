/- Binary search in the keywords. -/
import Derived.Test.YtmalhikcdideoaaDoorWB
set_option linter.unusedVariables false
set_option linter.unusedSimpArgs false
namespace Go.Proofs.YtmalhikcdideoaaDoor
open Go Sl
attribute [local irreducible] LpQ XR XRo XRg XRQ putQ XFv XL XW2 wQ putW X XO XOp XH XHo XW SeqQ BlkQ XOQ XHQ NrmQ XC XM XG XHM XHG XD CallK
theorem bl_irr : ∀ x : List UInt8, Op.bytesLess x x = false := by
  intro x
  induction x with
  | nil => rfl
  | cons a x ih =>
    unfold Op.bytesLess
    simp [ih]
theorem bl_asym : ∀ x y : List UInt8, Op.bytesLess x y = true → Op.bytesLess y x = false := by
  intro x
  induction x with
  | nil =>
    intro y h
    cases y with
    | nil => rfl
    | cons b y => rfl
  | cons a x ih =>
    intro y h
    cases y with
    | nil => simp [Op.bytesLess] at h
    | cons b y =>
      unfold Op.bytesLess at h ⊢
      simp only [Bool.or_eq_true, Bool.and_eq_true, decide_eq_true_eq, beq_iff_eq, Bool.or_eq_false_iff, decide_eq_false_iff_not, Bool.and_eq_false_iff, beq_eq_false_iff_ne] at h ⊢
      rcases h with h | ⟨rfl, h⟩
      · exact ⟨fun h2 => absurd (UInt8.lt_trans h h2) (UInt8.lt_irrefl _), .inl fun e => by subst e; exact UInt8.lt_irrefl _ h⟩
      · exact ⟨UInt8.lt_irrefl _, .inr (ih y h)⟩
/-- As the loop goes. -/
def bsF (l : List ByteArray) (s : ByteArray) (i j : Nat) : Nat :=
  if i < j then
    if Op.bytesLess (l.getD ((i + j) / 2) ⟨#[]⟩).data.toList s.data.toList = true then bsF l s ((i + j) / 2 + 1) j else bsF l s i ((i + j) / 2)
  else i
termination_by j - i
decreasing_by
  all_goals omega
def foundB (l : List ByteArray) (s : ByteArray) : Bool := decide (l[bsF l s 0 l.length]? = some s)
def Rising (l : List ByteArray) : Prop := ∀ i j, i < j → j < l.length → Op.bytesLess (l.getD i ⟨#[]⟩).data.toList (l.getD j ⟨#[]⟩).data.toList = true
theorem bsF_spec (l : List ByteArray) (s : ByteArray) (hl : Rising l) : ∀ (n i j : Nat), j - i = n → i ≤ j → j ≤ l.length → (∀ k, l[k]? = some s → i ≤ k ∧ k ≤ j) → bsF l s i j ≤ l.length ∧ ∀ k, l[k]? = some s → k = bsF l s i j := by
  intro n
  induction n using Nat.strongRecOn with
  | _ n ih =>
    intro i j hn hij hj hk
    rw [bsF]
    by_cases hlt : i < j
    · rw [if_pos hlt]
      have hm : (i + j) / 2 < l.length := by omega
      split
      · rename_i hb
        refine ih (j - ((i + j) / 2 + 1)) (by omega) _ _ rfl (by omega) hj fun k hs => ⟨?_, (hk k hs).2⟩
        refine Nat.lt_of_not_le fun hle => ?_
        have hkl : l.getD k ⟨#[]⟩ = s := by rw [List.getD_eq_getElem?_getD, hs]; rfl
        rcases Nat.lt_or_eq_of_le hle with h1 | h1
        · have := hl k _ h1 hm
          rw [hkl] at this
          rw [bl_asym _ _ this] at hb; cases hb
        · rw [← h1, hkl, bl_irr] at hb; cases hb
      · rename_i hb
        refine ih ((i + j) / 2 - i) (by omega) _ _ rfl (by omega) (by omega) fun k hs => ⟨(hk k hs).1, ?_⟩
        refine Nat.le_of_not_lt fun hgt => ?_
        have hkl : l.getD k ⟨#[]⟩ = s := by rw [List.getD_eq_getElem?_getD, hs]; rfl
        have hk2 : k < l.length := by
          have := (List.getElem?_eq_some_iff.1 hs).1
          exact this
        have := hl _ k hgt hk2
        rw [hkl] at this
        exact hb this
    · rw [if_neg hlt]
      exact ⟨by omega, fun k hs => by have := hk k hs; omega⟩
theorem foundB_mem (l : List ByteArray) (s : ByteArray) (hl : Rising l) : foundB l s = l.any fun k => decide (s = k) := by
  have hb := bsF_spec l s hl l.length 0 l.length (by omega) (by omega) (Nat.le_refl _) fun k hs => by
    have := (List.getElem?_eq_some_iff.1 hs).1
    omega
  rw [Bool.eq_iff_iff]
  unfold foundB
  simp only [decide_eq_true_eq, List.any_eq_true]
  constructor
  · intro h
    exact ⟨s, List.mem_of_getElem? h, rfl⟩
  · rintro ⟨x, hx, rfl⟩
    obtain ⟨k, hk⟩ := List.getElem?_of_mem hx
    rw [← hb.2 k hk]; exact hk
set_option maxRecDepth 100000 in
theorem keys_rising : Rising keysB := by
  have h : (List.range 49).all (fun j => (List.range j).all fun i => Op.bytesLess (keysB.getD i ⟨#[]⟩).data.toList (keysB.getD j ⟨#[]⟩).data.toList) = true := by decide +kernel
  intro i j hij hj
  have h1 := List.all_eq_true.1 h j (List.mem_range.2 hj)
  exact List.all_eq_true.1 h1 i (List.mem_range.2 hij)
theorem shr1 (x : Int) (h0 : 0 ≤ x) (h1 : x ≤ 9223372036854775807) : IntKind.i64.wrap ((IntKind.u64.wrap x).fdiv (2 ^ (min (Int.toNat 1) IntKind.u64.bits))) = x / 2 := by
  have e : (2 : Int) ^ (min (Int.toNat 1) IntKind.u64.bits) = 2 := rfl
  rw [e, Int.fdiv_eq_ediv_of_nonneg _ (by omega), wrap_u64 h0 (by omega), wrap_i64 (by omega) (by omega)]
theorem bs_ok (l : List ByteArray) (s : ByteArray) (hl : l.length ≤ 140737488355328) : Pure Tryd.prog 55 [encL 1 cS l, S s] (tup2 (I (bsF l s 0 l.length)) (B (foundB l s))) := by
  unfold foundB
  generalize hR : bsF l s 0 l.length = R
  intro h; refine callK_body Tryd.func55 rfl (by rw [nt55]; simp) ?_; rw [nt55, rs55]
  (repeat' (first | simp [go_sem, X_region, *] | simp (disch := omega) only [om, *] | ((first | refine XC_split ?_ ?_ | refine XG_true ?_ ?_ | refine XG_false ?_ ?_ | refine XRg_true ?_ ?_ | refine XRg_false ?_ ?_) <;> intro hc <;> (try simp only [bl] at hc) <;> (try (exfalso; omega))) | refine XD_w [] [] [] (fun _ => none) mixed (by decide +kernel) (sub_none _) ?_ | (intro bk hbk; (try simp only [go_sem] at hbk))))
  refine X_lp (fun n T h' => ∃ (i j : Nat), n = j - i ∧ i ≤ j ∧ j ≤ l.length ∧ bsF l s i j = R ∧ T 7 = I i ∧ T 8 = I j ∧ T 0 = encL 1 cS l ∧ T 1 = S s ∧ T 6 = I l.length ∧ h' = h) _ ⟨0, l.length, rfl, by omega, by omega, hR, by simp [go_sem], by simp [go_sem], by simp [go_sem], by simp [go_sem], by simp [go_sem], rfl⟩ ?_
  clear hR; rintro J hJ n T h' ⟨i, j, rfl, hij, hj, hR, h7, h8, h0, h1, h6, rfl⟩
  rw [bsF] at hR
  by_cases hlt : i < j
  · rw [if_pos hlt] at hR
    obtain ⟨m, hm, hmd⟩ : ∃ m : Nat, ((i : Int) + j) / 2 = m ∧ (i + j) / 2 = m := ⟨_, by omega, rfl⟩
    have hmm : i ≤ m ∧ m < j := by omega
    rw [hmd] at hR
    have hx : l[m]? = some l[m] := List.getElem?_eq_getElem (by omega)
    rw [List.getD_eq_getElem?_getD, hx, Option.getD_some] at hR
    cases hb : Op.bytesLess l[m].data.toList s.data.toList
    · rw [hb, if_neg (by simp)] at hR
      (repeat' (first | simp [go_sem, X_region, *] | simp (disch := omega) only [om, *] | ((first | refine XC_split ?_ ?_ | refine XG_true ?_ ?_ | refine XG_false ?_ ?_ | refine XRg_true ?_ ?_ | refine XRg_false ?_ ?_) <;> intro hc <;> (try simp only [bl] at hc) <;> (try (exfalso; omega))) | refine XD_w [] [] [] (fun _ => none) mixed (by decide +kernel) (sub_none _) ?_ | refine Pure.call (less_ok _ _) ?_ | refine ⟨_, Pure.at (less_ok _ _), ?_⟩ | refine ⟨_, less_ok _ _, ?_⟩ | (intro bk hbk; (try simp only [go_sem] at hbk))))
      exact ⟨_, by omega, hJ.out _ _ _ ⟨i, m, rfl, by omega, by omega, hR, by simp [go_sem, *], by simp [go_sem, *], by simp [go_sem, *], by simp [go_sem, *], by simp [go_sem, *], rfl⟩⟩
    · rw [hb, if_pos rfl] at hR
      (repeat' (first | simp [go_sem, X_region, *] | simp (disch := omega) only [om, *] | ((first | refine XC_split ?_ ?_ | refine XG_true ?_ ?_ | refine XG_false ?_ ?_ | refine XRg_true ?_ ?_ | refine XRg_false ?_ ?_) <;> intro hc <;> (try simp only [bl] at hc) <;> (try (exfalso; omega))) | refine XD_w [] [] [] (fun _ => none) mixed (by decide +kernel) (sub_none _) ?_ | refine Pure.call (less_ok _ _) ?_ | refine ⟨_, Pure.at (less_ok _ _), ?_⟩ | refine ⟨_, less_ok _ _, ?_⟩ | (intro bk hbk; (try simp only [go_sem] at hbk))))
      exact ⟨_, by omega, hJ.out _ _ _ ⟨m + 1, j, rfl, by omega, by omega, hR, by simp [go_sem, *], by simp [go_sem, *], by simp [go_sem, *], by simp [go_sem, *], by simp [go_sem, *], rfl⟩⟩
  · rw [if_neg hlt] at hR
    subst hR
    by_cases hi : i < l.length
    · have hx : l[i]? = some l[i] := List.getElem?_eq_getElem hi
      by_cases he : l[i] = s
      · (repeat' (first | simp [go_sem, X_region, *] | simp (disch := omega) only [om, *] | ((first | refine XC_split ?_ ?_ | refine XG_true ?_ ?_ | refine XG_false ?_ ?_ | refine XRg_true ?_ ?_ | refine XRg_false ?_ ?_) <;> intro hc <;> (try simp only [bl] at hc) <;> (try (exfalso; omega))) | refine XD_w [] [] [] (fun _ => none) mixed (by decide +kernel) (sub_none _) ?_ | refine Pure.call (nan2_ok _) ?_ | refine ⟨_, Pure.at (nan2_ok _), ?_⟩ | refine ⟨_, nan2_ok _, ?_⟩ | (intro bk hbk; (try simp only [go_sem] at hbk))))
      · (repeat' (first | simp [go_sem, X_region, *] | simp (disch := omega) only [om, *] | ((first | refine XC_split ?_ ?_ | refine XG_true ?_ ?_ | refine XG_false ?_ ?_ | refine XRg_true ?_ ?_ | refine XRg_false ?_ ?_) <;> intro hc <;> (try simp only [bl] at hc) <;> (try (exfalso; omega))) | refine XD_w [] [] [] (fun _ => none) mixed (by decide +kernel) (sub_none _) ?_ | refine Pure.call (nan2_ok _) ?_ | refine ⟨_, Pure.at (nan2_ok _), ?_⟩ | refine ⟨_, nan2_ok _, ?_⟩ | (intro bk hbk; (try simp only [go_sem] at hbk))))
    · (repeat' (first | simp [go_sem, X_region, *] | simp (disch := omega) only [om, *] | ((first | refine XC_split ?_ ?_ | refine XG_true ?_ ?_ | refine XG_false ?_ ?_ | refine XRg_true ?_ ?_ | refine XRg_false ?_ ?_) <;> intro hc <;> (try simp only [bl] at hc) <;> (try (exfalso; omega))) | refine XD_w [] [] [] (fun _ => none) mixed (by decide +kernel) (sub_none _) ?_ | refine Pure.call (nan2_ok _) ?_ | refine ⟨_, Pure.at (nan2_ok _), ?_⟩ | refine ⟨_, nan2_ok _, ?_⟩ | (intro bk hbk; (try simp only [go_sem] at hbk))))
end Go.Proofs.YtmalhikcdideoaaDoor
