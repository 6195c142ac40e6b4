/- The plain law of TypesKinds: the program's look at a tree and the reference's agree, and so do the kinds. Tokens: what is specified, in plain Lean. The package word: what its functions return. Binary search in the keywords. The package word: keywords, one token, all tokens. The package word: all tokens. Go's library, as far as the tokens of the reference need it. strings.Fields at texts of single  -/
import Derived.Test.YtmalhikcdideoaaGreatDoorR0
import Derived.Lib.Bytealg
import Derived.Laws.Externs
import Derived.Lib.Hide
import Derived.Test.YtmalhikcdideoaaGreatDoorFactsB
import Derived.Lib.SlicesCompact
import Derived.Shelf.Strconv.Itoa3
import Derived.Shelf.Strings.Builder1
import Derived.Shelf.Sort.Plain
import Derived.Shelf.LaysM
import Derived.Ground.NamesProg
import Derived.Test.YtmalhikcdideoaaGreatDoorProg
import Derived.Shelf.Slices.CompactS
set_option linter.unusedVariables false
set_option linter.unusedSimpArgs false
namespace Go.Proofs.YtmalhikcdideoaaGreatDoor
open Go Sl
attribute [local irreducible] XRange LpQ XR XRo XRg XRQ putQ XFv XL XW2 wQ putW X XO XOp XH XHo XW SeqQ BlkQ XOQ XHQ NrmQ XC XM XG XHM XHG XD CallK
open Go.RowKit
end Go.Proofs.YtmalhikcdideoaaGreatDoor

set_option linter.unusedVariables false
set_option linter.unusedSimpArgs false
namespace Go.Proofs.YtmalhikcdideoaaGreatDoor
open Go Sl
attribute [local irreducible] XRange LpQ XR XRo XRg XRQ putQ XFv XL XW2 wQ putW X XO XOp XH XHo XW SeqQ BlkQ XOQ XHQ NrmQ XC XM XG XHM XHG XD CallK


def isLetter (c : UInt8) : Bool := decide (97 ≤ c.toNat ∧ c.toNat ≤ 122)
def isDigit (c : UInt8) : Bool := decide (48 ≤ c.toNat ∧ c.toNat ≤ 57)
def isInner (c : UInt8) : Bool := isLetter c || isDigit c || decide (c.toNat = 45)
def keysB : List ByteArray := [⟨#[97, 99, 116]⟩, ⟨#[97, 110, 100]⟩, ⟨#[97, 114, 116, 105, 99, 108, 101]⟩, ⟨#[97, 116, 45, 109, 111, 115, 116]⟩, ⟨#[97, 116, 116, 114, 105, 98, 117, 116, 101]⟩, ⟨#[98, 97, 115, 101]⟩, ⟨#[98, 101, 108, 111, 119]⟩, ⟨#[98, 111, 111, 108]⟩, ⟨#[99, 111, 117, 110, 116]⟩, ⟨#[100, 97, 116, 101]⟩, ⟨#[100, 97, 121, 115]⟩, ⟨#[100, 111, 119, 110]⟩, ⟨#[101, 108, 115, 101]⟩, ⟨#[101, 110, 97, 99, 116, 101, 100]⟩, ⟨#[101, 113, 117, 97, 108, 115]⟩, ⟨#[102, 97, 108, 115, 101]⟩, ⟨#[102, 114, 111, 109]⟩, ⟨#[103, 105, 118, 101, 115]⟩, ⟨#[103, 114, 101, 97, 116, 101, 115, 116]⟩, ⟨#[104, 97, 108, 102]⟩, ⟨#[104, 97, 108, 102, 45, 111, 117, 116]⟩, ⟨#[104, 97, 108, 102, 45, 116, 119, 111]⟩, ⟨#[105, 102]⟩, ⟨#[105, 110, 112, 117, 116]⟩, ⟨#[105, 115]⟩, ⟨#[108, 101, 97, 115, 116]⟩, ⟨#[108, 101, 118, 101, 108]⟩, ⟨#[109, 105, 110, 117, 115]⟩, ⟨#[109, 111, 110, 101, 121]⟩, ⟨#[110, 111, 116]⟩, ⟨#[110, 117, 109, 98, 101, 114]⟩, ⟨#[111, 102]⟩, ⟨#[111, 114]⟩, ⟨#[111, 118, 101, 114]⟩, ⟨#[112, 108, 117, 115]⟩, ⟨#[114, 111, 117, 110, 100]⟩, ⟨#[115, 99, 97, 108, 101]⟩, ⟨#[115, 104, 97, 114, 101]⟩, ⟨#[115, 108, 105, 99, 101, 115]⟩, ⟨#[116, 97, 98, 108, 101]⟩, ⟨#[116, 104, 101, 110]⟩, ⟨#[116, 105, 109, 101, 115]⟩, ⟨#[116, 111]⟩, ⟨#[116, 111, 116, 97, 108]⟩, ⟨#[116, 114, 117, 101]⟩, ⟨#[117, 112]⟩, ⟨#[119, 101, 105, 103, 104, 116]⟩, ⟨#[119, 104, 101, 110]⟩, ⟨#[121, 101, 97, 114, 115]⟩]
def isKey (s : ByteArray) : Bool := keysB.any fun k => decide (s = k)
/-- A token: its kind, its text, its line. -/
structure Tok where
  kind : Int
  text : ByteArray
  line : Int
deriving DecidableEq
@[go_sem] def cT (t : Tok) : List AV := [I t.kind, S t.text, I t.line]
end Go.Proofs.YtmalhikcdideoaaGreatDoor

set_option linter.unusedVariables false
set_option linter.unusedSimpArgs false
namespace Go.Proofs.YtmalhikcdideoaaGreatDoor
open Go Sl
attribute [local irreducible] XRange LpQ XR XRo XRg XRQ putQ XFv XL XW2 wQ putW X XO XOp XH XHo XW SeqQ BlkQ XOQ XHQ NrmQ XC XM XG XHM XHG XD CallK
theorem letter_ok (c : UInt8) : Pure Tryz.prog 126 [U8 c] (B (isLetter c)) := by
  intro h; refine callK_body Tryz.func126 rfl (by rw [nt126]; simp) ?_; rw [nt126, rs126]
  ((repeat' (first | simp [go_sem, X_region, *] | simp (disch := omega) only [om, *] | ((first | refine XC_split ?_ ?_ | refine XG_true ?_ ?_ | refine XG_false ?_ ?_ | refine XRg_true ?_ ?_ | refine XRg_false ?_ ?_) <;> intro hc <;> (try simp only [bl] at hc) <;> (try (exfalso; omega))) | refine XD_w [] [] [] (fun _ => none) mixed (by decide +kernel) (sub_none _) ?_ | (intro bk hbk; (try simp only [go_sem] at hbk)))); all_goals (refine Wk.fin (by repeat (first | exact Sub.refl _ | refine Sub.upd (by simp [*]) ?_)) ?_; first | (simp [isLetter, *]; done) | (simp only [isLetter]; (repeat' (first | split | rfl | omega | (simp_all; done))); done) | (simp [isLetter, *]; (repeat' (first | split | omega | (rw [Bool.eq_iff_iff]; simp; omega))); done) | (simp [isLetter, *])))
theorem digit_ok (c : UInt8) : Pure Tryz.prog 196 [U8 c] (B (isDigit c)) := by
  intro h; refine callK_body Tryz.func196 rfl (by rw [nt196]; simp) ?_; rw [nt196, rs196]
  ((repeat' (first | simp [go_sem, X_region, *] | simp (disch := omega) only [om, *] | ((first | refine XC_split ?_ ?_ | refine XG_true ?_ ?_ | refine XG_false ?_ ?_ | refine XRg_true ?_ ?_ | refine XRg_false ?_ ?_) <;> intro hc <;> (try simp only [bl] at hc) <;> (try (exfalso; omega))) | refine XD_w [] [] [] (fun _ => none) mixed (by decide +kernel) (sub_none _) ?_ | (intro bk hbk; (try simp only [go_sem] at hbk)))); all_goals (refine Wk.fin (by repeat (first | exact Sub.refl _ | refine Sub.upd (by simp [*]) ?_)) ?_; first | (simp [isDigit, *]; done) | (simp only [isDigit]; (repeat' (first | split | rfl | omega | (simp_all; done))); done) | (simp [isDigit, *]; (repeat' (first | split | omega | (rw [Bool.eq_iff_iff]; simp; omega))); done) | (simp [isDigit, *])))
theorem inner_ok (c : UInt8) : Pure Tryz.prog 127 [U8 c] (B (isInner c)) := by
  intro h; refine callK_body Tryz.func127 rfl (by rw [nt127]; simp) ?_; rw [nt127, rs127]
  ((repeat' (first | simp [go_sem, X_region, *] | simp (disch := omega) only [om, *] | ((first | refine XC_split ?_ ?_ | refine XG_true ?_ ?_ | refine XG_false ?_ ?_ | refine XRg_true ?_ ?_ | refine XRg_false ?_ ?_) <;> intro hc <;> (try simp only [bl] at hc) <;> (try (exfalso; omega))) | refine XD_w [] [] [] (fun _ => none) mixed (by decide +kernel) (sub_none _) ?_ | refine Pure.call (letter_ok c) ?_ | refine ⟨_, Pure.at (letter_ok c), ?_⟩ | refine ⟨_, letter_ok c, ?_⟩ | refine PureAt.call (letter_ok c) ?_ | refine Pure.call (digit_ok c) ?_ | refine ⟨_, Pure.at (digit_ok c), ?_⟩ | refine ⟨_, digit_ok c, ?_⟩ | refine PureAt.call (digit_ok c) ?_ | (intro bk hbk; (try simp only [go_sem] at hbk)))); all_goals (refine Wk.fin (by repeat (first | exact Sub.refl _ | refine Sub.upd (by simp [*]) ?_)) ?_; first | (simp [isInner, *]; done) | (simp only [isInner]; (repeat' (first | split | rfl | omega | (simp_all; done))); done) | (simp [isInner, *]; (repeat' (first | split | omega | (rw [Bool.eq_iff_iff]; simp; omega))); done) | (simp [isInner, *])))
theorem nan1_ok (s : ByteArray) : Pure Tryz.prog 225 [S s] (B false) := by
  intro h; refine callK_body Tryz.func225 rfl (by rw [nt225]; simp) ?_; rw [nt225, rs225]
  ((repeat' (first | simp [go_sem, X_region, *] | simp (disch := omega) only [om, *] | ((first | refine XC_split ?_ ?_ | refine XG_true ?_ ?_ | refine XG_false ?_ ?_ | refine XRg_true ?_ ?_ | refine XRg_false ?_ ?_) <;> intro hc <;> (try simp only [bl] at hc) <;> (try (exfalso; omega))) | refine XD_w [] [] [] (fun _ => none) mixed (by decide +kernel) (sub_none _) ?_ | (intro bk hbk; (try simp only [go_sem] at hbk)))); all_goals (refine Wk.fin (by repeat (first | exact Sub.refl _ | refine Sub.upd (by simp [*]) ?_)) ?_; first | (simp [*]; done) | (simp only []; (repeat' (first | split | rfl | omega | (simp_all; done))); done) | (simp [*]; (repeat' (first | split | omega | (rw [Bool.eq_iff_iff]; simp; omega))); done) | (simp [*])))
theorem nan2_ok (s : ByteArray) : Pure Tryz.prog 197 [S s] (B false) := by
  intro h; refine callK_body Tryz.func197 rfl (by rw [nt197]; simp) ?_; rw [nt197, rs197]
  ((repeat' (first | simp [go_sem, X_region, *] | simp (disch := omega) only [om, *] | ((first | refine XC_split ?_ ?_ | refine XG_true ?_ ?_ | refine XG_false ?_ ?_ | refine XRg_true ?_ ?_ | refine XRg_false ?_ ?_) <;> intro hc <;> (try simp only [bl] at hc) <;> (try (exfalso; omega))) | refine XD_w [] [] [] (fun _ => none) mixed (by decide +kernel) (sub_none _) ?_ | (intro bk hbk; (try simp only [go_sem] at hbk)))); all_goals (refine Wk.fin (by repeat (first | exact Sub.refl _ | refine Sub.upd (by simp [*]) ?_)) ?_; first | (simp [*]; done) | (simp only []; (repeat' (first | split | rfl | omega | (simp_all; done))); done) | (simp [*]; (repeat' (first | split | omega | (rw [Bool.eq_iff_iff]; simp; omega))); done) | (simp [*])))
theorem less_ok (a b : ByteArray) : Pure Tryz.prog 160 [S a, S b] (B (Op.bytesLess a.data.toList b.data.toList)) := by
  intro h; refine callK_body Tryz.func160 rfl (by rw [nt160]; simp) ?_; rw [nt160, rs160]
  ((repeat' (first | simp [go_sem, X_region, *] | simp (disch := omega) only [om, *] | ((first | refine XC_split ?_ ?_ | refine XG_true ?_ ?_ | refine XG_false ?_ ?_ | refine XRg_true ?_ ?_ | refine XRg_false ?_ ?_) <;> intro hc <;> (try simp only [bl] at hc) <;> (try (exfalso; omega))) | refine XD_w [] [] [] (fun _ => none) mixed (by decide +kernel) (sub_none _) ?_ | refine Pure.call (nan1_ok _) ?_ | refine ⟨_, Pure.at (nan1_ok _), ?_⟩ | refine ⟨_, nan1_ok _, ?_⟩ | refine PureAt.call (nan1_ok _) ?_ | (intro bk hbk; (try simp only [go_sem] at hbk)))); all_goals (refine Wk.fin (by repeat (first | exact Sub.refl _ | refine Sub.upd (by simp [*]) ?_)) ?_; first | (simp [*]; done) | (simp only []; (repeat' (first | split | rfl | omega | (simp_all; done))); done) | (simp [*]; (repeat' (first | split | omega | (rw [Bool.eq_iff_iff]; simp; omega))); done) | (simp [*])))
theorem gb_at {s : ByteArray} {i : Nat} {c : UInt8} {r : List UInt8} (h : s.data.toList.drop i = c :: r) : gb s i = c := by
  obtain ⟨h1, h2, _⟩ := drop_cons h
  unfold gb
  rw [List.getD_eq_getElem?_getD, List.getElem?_eq_getElem h1, h2]; rfl
theorem size_list (s : ByteArray) : s.data.toList.length = s.size := by simp
theorem str_nil {s : ByteArray} {i : Nat} (h : s.data.toList.drop i = []) : ¬ i < s.size := by
  have := drop_nil h
  rwa [size_list] at this
theorem str_cons {s : ByteArray} {i : Nat} {c : UInt8} {r : List UInt8} (h : s.data.toList.drop i = c :: r) : i < s.size ∧ gb s i = c ∧ s.data.toList.drop (i + 1) = r := by
  obtain ⟨h1, h2, h3⟩ := drop_cons h
  exact ⟨by rwa [size_list] at h1, gb_at h, h3⟩
end Go.Proofs.YtmalhikcdideoaaGreatDoor

set_option linter.unusedVariables false
set_option linter.unusedSimpArgs false
namespace Go.Proofs.YtmalhikcdideoaaGreatDoor
open Go Sl
attribute [local irreducible] XRange LpQ XR XRo XRg XRQ putQ XFv XL XW2 wQ putW X XO XOp XH XHo XW SeqQ BlkQ XOQ XHQ NrmQ XC XM XG XHM XHG XD CallK
theorem bl_irr : ∀ x : List UInt8, Op.bytesLess x x = false := by
  intro x
  induction x with
  | nil => rfl
  | cons a x ih =>
    unfold Op.bytesLess
    simp [ih]
theorem bl_asym : ∀ x y : List UInt8, Op.bytesLess x y = true → Op.bytesLess y x = false := by
  intro x
  induction x with
  | nil =>
    intro y h
    cases y with
    | nil => rfl
    | cons b y => rfl
  | cons a x ih =>
    intro y h
    cases y with
    | nil => simp [Op.bytesLess] at h
    | cons b y =>
      unfold Op.bytesLess at h ⊢
      simp only [Bool.or_eq_true, Bool.and_eq_true, decide_eq_true_eq, beq_iff_eq, Bool.or_eq_false_iff, decide_eq_false_iff_not, Bool.and_eq_false_iff, beq_eq_false_iff_ne] at h ⊢
      rcases h with h | ⟨rfl, h⟩
      · exact ⟨fun h2 => absurd (UInt8.lt_trans h h2) (UInt8.lt_irrefl _), .inl fun e => by subst e; exact UInt8.lt_irrefl _ h⟩
      · exact ⟨UInt8.lt_irrefl _, .inr (ih y h)⟩
/-- As the loop goes. -/
def bsF (l : List ByteArray) (s : ByteArray) (i j : Nat) : Nat :=
  if i < j then
    if Op.bytesLess (l.getD ((i + j) / 2) ⟨#[]⟩).data.toList s.data.toList = true then bsF l s ((i + j) / 2 + 1) j else bsF l s i ((i + j) / 2)
  else i
termination_by j - i
decreasing_by
  all_goals omega
def foundB (l : List ByteArray) (s : ByteArray) : Bool := decide (l[bsF l s 0 l.length]? = some s)
def Rising (l : List ByteArray) : Prop := ∀ i j, i < j → j < l.length → Op.bytesLess (l.getD i ⟨#[]⟩).data.toList (l.getD j ⟨#[]⟩).data.toList = true
theorem bsF_spec (l : List ByteArray) (s : ByteArray) (hl : Rising l) : ∀ (n i j : Nat), j - i = n → i ≤ j → j ≤ l.length → (∀ k, l[k]? = some s → i ≤ k ∧ k ≤ j) → bsF l s i j ≤ l.length ∧ ∀ k, l[k]? = some s → k = bsF l s i j := by
  intro n
  induction n using Nat.strongRecOn with
  | _ n ih =>
    intro i j hn hij hj hk
    rw [bsF]
    by_cases hlt : i < j
    · rw [if_pos hlt]
      have hm : (i + j) / 2 < l.length := by omega
      split
      · rename_i hb
        refine ih (j - ((i + j) / 2 + 1)) (by omega) _ _ rfl (by omega) hj fun k hs => ⟨?_, (hk k hs).2⟩
        refine Nat.lt_of_not_le fun hle => ?_
        have hkl : l.getD k ⟨#[]⟩ = s := by rw [List.getD_eq_getElem?_getD, hs]; rfl
        rcases Nat.lt_or_eq_of_le hle with h1 | h1
        · have := hl k _ h1 hm
          rw [hkl] at this
          rw [bl_asym _ _ this] at hb; cases hb
        · rw [← h1, hkl, bl_irr] at hb; cases hb
      · rename_i hb
        refine ih ((i + j) / 2 - i) (by omega) _ _ rfl (by omega) (by omega) fun k hs => ⟨(hk k hs).1, ?_⟩
        refine Nat.le_of_not_lt fun hgt => ?_
        have hkl : l.getD k ⟨#[]⟩ = s := by rw [List.getD_eq_getElem?_getD, hs]; rfl
        have hk2 : k < l.length := by
          have := (List.getElem?_eq_some_iff.1 hs).1
          exact this
        have := hl _ k hgt hk2
        rw [hkl] at this
        exact hb this
    · rw [if_neg hlt]
      exact ⟨by omega, fun k hs => by have := hk k hs; omega⟩
theorem foundB_mem (l : List ByteArray) (s : ByteArray) (hl : Rising l) : foundB l s = l.any fun k => decide (s = k) := by
  have hb := bsF_spec l s hl l.length 0 l.length (by omega) (by omega) (Nat.le_refl _) fun k hs => by
    have := (List.getElem?_eq_some_iff.1 hs).1
    omega
  rw [Bool.eq_iff_iff]
  unfold foundB
  simp only [decide_eq_true_eq, List.any_eq_true]
  constructor
  · intro h
    exact ⟨s, List.mem_of_getElem? h, rfl⟩
  · rintro ⟨x, hx, rfl⟩
    obtain ⟨k, hk⟩ := List.getElem?_of_mem hx
    rw [← hb.2 k hk]; exact hk
set_option maxRecDepth 100000 in
theorem keys_rising : Rising keysB := by
  have h : (List.range 49).all (fun j => (List.range j).all fun i => Op.bytesLess (keysB.getD i ⟨#[]⟩).data.toList (keysB.getD j ⟨#[]⟩).data.toList) = true := by decide +kernel
  intro i j hij hj
  have h1 := List.all_eq_true.1 h j (List.mem_range.2 hj)
  exact List.all_eq_true.1 h1 i (List.mem_range.2 hij)
theorem bs_ok (l : List ByteArray) (s : ByteArray) (hl : l.length ≤ 140737488355328) : Pure Tryz.prog 128 [encL 1 cS l, S s] (tup2 (I (bsF l s 0 l.length)) (B (foundB l s))) := by
  unfold foundB
  generalize hR : bsF l s 0 l.length = R
  intro h; refine callK_body Tryz.func128 rfl (by rw [nt128]; simp) ?_; rw [nt128, rs128]
  (repeat' (first | simp [go_sem, X_region, *] | simp (disch := omega) only [om, *] | ((first | refine XC_split ?_ ?_ | refine XG_true ?_ ?_ | refine XG_false ?_ ?_ | refine XRg_true ?_ ?_ | refine XRg_false ?_ ?_) <;> intro hc <;> (try simp only [bl] at hc) <;> (try (exfalso; omega))) | refine XD_w [] [] [] (fun _ => none) mixed (by decide +kernel) (sub_none _) ?_ | (intro bk hbk; (try simp only [go_sem] at hbk))))
  refine X_lp (fun n T h' => ∃ (i j : Nat), n = j - i ∧ i ≤ j ∧ j ≤ l.length ∧ bsF l s i j = R ∧ T 7 = I i ∧ T 8 = I j ∧ T 0 = encL 1 cS l ∧ T 1 = S s ∧ T 6 = I l.length ∧ h' = h) _ ⟨0, l.length, rfl, by omega, by omega, hR, by simp [go_sem], by simp [go_sem], by simp [go_sem], by simp [go_sem], by simp [go_sem], rfl⟩ ?_
  clear hR; rintro J hJ n T h' ⟨i, j, rfl, hij, hj, hR, h7, h8, h0, h1, h6, rfl⟩
  rw [bsF] at hR
  by_cases hlt : i < j
  · rw [if_pos hlt] at hR
    obtain ⟨m, hm, hmd⟩ : ∃ m : Nat, ((i : Int) + j) / 2 = m ∧ (i + j) / 2 = m := ⟨_, by omega, rfl⟩
    have hmm : i ≤ m ∧ m < j := by omega
    rw [hmd] at hR
    have hx : l[m]? = some l[m] := List.getElem?_eq_getElem (by omega)
    rw [List.getD_eq_getElem?_getD, hx, Option.getD_some] at hR
    cases hb : Op.bytesLess l[m].data.toList s.data.toList
    · rw [hb, if_neg (by simp)] at hR
      (repeat' (first | simp [go_sem, X_region, *] | simp (disch := omega) only [om, *] | ((first | refine XC_split ?_ ?_ | refine XG_true ?_ ?_ | refine XG_false ?_ ?_ | refine XRg_true ?_ ?_ | refine XRg_false ?_ ?_) <;> intro hc <;> (try simp only [bl] at hc) <;> (try (exfalso; omega))) | refine XD_w [] [] [] (fun _ => none) mixed (by decide +kernel) (sub_none _) ?_ | refine Pure.call (less_ok _ _) ?_ | refine ⟨_, Pure.at (less_ok _ _), ?_⟩ | refine ⟨_, less_ok _ _, ?_⟩ | refine PureAt.call (less_ok _ _) ?_ | (intro bk hbk; (try simp only [go_sem] at hbk))))
      exact ⟨_, by omega, hJ.out _ _ _ ⟨i, m, rfl, by omega, by omega, hR, by simp [go_sem, *], by simp [go_sem, *], by simp [go_sem, *], by simp [go_sem, *], by simp [go_sem, *], rfl⟩⟩
    · rw [hb, if_pos rfl] at hR
      (repeat' (first | simp [go_sem, X_region, *] | simp (disch := omega) only [om, *] | ((first | refine XC_split ?_ ?_ | refine XG_true ?_ ?_ | refine XG_false ?_ ?_ | refine XRg_true ?_ ?_ | refine XRg_false ?_ ?_) <;> intro hc <;> (try simp only [bl] at hc) <;> (try (exfalso; omega))) | refine XD_w [] [] [] (fun _ => none) mixed (by decide +kernel) (sub_none _) ?_ | refine Pure.call (less_ok _ _) ?_ | refine ⟨_, Pure.at (less_ok _ _), ?_⟩ | refine ⟨_, less_ok _ _, ?_⟩ | refine PureAt.call (less_ok _ _) ?_ | (intro bk hbk; (try simp only [go_sem] at hbk))))
      exact ⟨_, by omega, hJ.out _ _ _ ⟨m + 1, j, rfl, by omega, by omega, hR, by simp [go_sem, *], by simp [go_sem, *], by simp [go_sem, *], by simp [go_sem, *], by simp [go_sem, *], rfl⟩⟩
  · rw [if_neg hlt] at hR
    subst hR
    by_cases hi : i < l.length
    · have hx : l[i]? = some l[i] := List.getElem?_eq_getElem hi
      by_cases he : l[i] = s
      · (repeat' (first | simp [go_sem, X_region, *] | simp (disch := omega) only [om, *] | ((first | refine XC_split ?_ ?_ | refine XG_true ?_ ?_ | refine XG_false ?_ ?_ | refine XRg_true ?_ ?_ | refine XRg_false ?_ ?_) <;> intro hc <;> (try simp only [bl] at hc) <;> (try (exfalso; omega))) | refine XD_w [] [] [] (fun _ => none) mixed (by decide +kernel) (sub_none _) ?_ | refine Pure.call (nan2_ok _) ?_ | refine ⟨_, Pure.at (nan2_ok _), ?_⟩ | refine ⟨_, nan2_ok _, ?_⟩ | refine PureAt.call (nan2_ok _) ?_ | (intro bk hbk; (try simp only [go_sem] at hbk))))
      · (repeat' (first | simp [go_sem, X_region, *] | simp (disch := omega) only [om, *] | ((first | refine XC_split ?_ ?_ | refine XG_true ?_ ?_ | refine XG_false ?_ ?_ | refine XRg_true ?_ ?_ | refine XRg_false ?_ ?_) <;> intro hc <;> (try simp only [bl] at hc) <;> (try (exfalso; omega))) | refine XD_w [] [] [] (fun _ => none) mixed (by decide +kernel) (sub_none _) ?_ | refine Pure.call (nan2_ok _) ?_ | refine ⟨_, Pure.at (nan2_ok _), ?_⟩ | refine ⟨_, nan2_ok _, ?_⟩ | refine PureAt.call (nan2_ok _) ?_ | (intro bk hbk; (try simp only [go_sem] at hbk))))
    · (repeat' (first | simp [go_sem, X_region, *] | simp (disch := omega) only [om, *] | ((first | refine XC_split ?_ ?_ | refine XG_true ?_ ?_ | refine XG_false ?_ ?_ | refine XRg_true ?_ ?_ | refine XRg_false ?_ ?_) <;> intro hc <;> (try simp only [bl] at hc) <;> (try (exfalso; omega))) | refine XD_w [] [] [] (fun _ => none) mixed (by decide +kernel) (sub_none _) ?_ | refine Pure.call (nan2_ok _) ?_ | refine ⟨_, Pure.at (nan2_ok _), ?_⟩ | refine ⟨_, nan2_ok _, ?_⟩ | refine PureAt.call (nan2_ok _) ?_ | (intro bk hbk; (try simp only [go_sem] at hbk))))
end Go.Proofs.YtmalhikcdideoaaGreatDoor

set_option linter.unusedVariables false
set_option linter.unusedSimpArgs false
namespace Go.Proofs.YtmalhikcdideoaaGreatDoor
open Go Sl
attribute [local irreducible] XRange LpQ XR XRo XRg XRQ putQ XFv XL XW2 wQ putW X XO XOp XH XHo XW SeqQ BlkQ XOQ XHQ NrmQ XC XM XG XHM XHG XD CallK
theorem keys_ok : Pure Tryz.prog 129 [] (encL 1 cS keysB) := by
  intro h; refine callK_body Tryz.func129 rfl (by rw [nt129]; simp) ?_; rw [nt129, rs129]
  (repeat' (first | simp [go_sem, X_region, *] | simp (disch := omega) only [om, *] | ((first | refine XC_split ?_ ?_ | refine XG_true ?_ ?_ | refine XG_false ?_ ?_ | refine XRg_true ?_ ?_ | refine XRg_false ?_ ?_) <;> intro hc <;> (try simp only [bl] at hc) <;> (try (exfalso; omega))) | refine XD_w [] [] [] (fun _ => none) mixed (by decide +kernel) (sub_none _) ?_ | (intro bk hbk; (try simp only [go_sem] at hbk))))
  exact Wk.lit1 keysB (fun x => S x) hbk rfl (by decide)
end Go.Proofs.YtmalhikcdideoaaGreatDoor

set_option linter.unusedVariables false
set_option linter.unusedSimpArgs false
namespace Go.Proofs.YtmalhikcdideoaaGreatDoor
open Go Sl
attribute [local irreducible] XRange LpQ XR XRo XRg XRQ putQ XFv XL XW2 wQ putW X XO XOp XH XHo XW SeqQ BlkQ XOQ XHQ NrmQ XC XM XG XHM XHG XD CallK
@[go_sem] def encLn (x : List Tok × Int × Int) : AV := tup3 (encL 3 cT x.1) (I x.2.1) (I x.2.2)
end Go.Proofs.YtmalhikcdideoaaGreatDoor

set_option linter.unusedVariables false
set_option linter.unusedSimpArgs false
namespace Go.Proofs.YtmalhikcdideoaaGreatDoor
open Go Sl
attribute [local irreducible] XRange LpQ XR XRo XRg XRQ putQ XFv XL XW2 wQ putW X XO XOp XH XHo XW SeqQ BlkQ XOQ XHQ NrmQ XC XM XG XHM XHG XD CallK
/-- Where a text is first. -/
def sIdx (v : ByteArray) : List ByteArray → Int → Int
  | [], _ => -1
  | x :: r, i => if v = x then i else sIdx v r (i + 1)
theorem sIdx_ge (v : ByteArray) (l : List ByteArray) (i : Int) (hi : 0 ≤ i) : decide (0 ≤ sIdx v l i) = l.any fun k => decide (v = k) := by
  induction l generalizing i with
  | nil => simp [sIdx]
  | cons x l ih =>
    unfold sIdx
    by_cases h : v = x
    · simp [h, hi]
    · simp [h]; simpa using ih (i + 1) (by omega)
theorem index_ok (v : ByteArray) (l : List ByteArray) : Pure Tryz.prog 83 [encL 1 cS l, S v] (I (sIdx v l 0)) := by
  generalize hR : I (sIdx v l 0) = R
  intro h; refine CallK.lens fun hlen => ?_; have hlen := (hlen _ (by simp only [List.mem_cons, true_or, or_true] : (encL 1 cS l) ∈ _)).encL; refine callK_body Tryz.func83 rfl (by rw [nt83]; simp) ?_; rw [nt83, rs83]
  (repeat' (first | simp [go_sem, X_region, *] | simp (disch := omega) only [om, *] | ((first | refine XC_split ?_ ?_ | refine XG_true ?_ ?_ | refine XG_false ?_ ?_ | refine XRg_true ?_ ?_ | refine XRg_false ?_ ?_) <;> intro hc <;> (try simp only [bl] at hc) <;> (try (exfalso; omega))) | refine XD_w [] [] [] (fun _ => none) mixed (by decide +kernel) (sub_none _) ?_ | (intro bk hbk; (try simp only [go_sem] at hbk))))
  refine X_lp (fun n T h' => ∃ (i : Nat) (r : List ByteArray), n = r.length ∧ i ≤ l.length ∧ l.drop i = r ∧ T 8 = I i ∧ I (sIdx v r i) = R ∧ T 0 = encL 1 cS l ∧ T 1 = S v ∧ T 7 = I l.length ∧ h' = h) l.length ⟨0, l, by simp [go_sem, hR]⟩ ?_
  clear hR; rintro J hJ n T h' ⟨i, r, rfl, hi, hd, h8, hR, h0, h1, h7, rfl⟩
  rcases r with _ | ⟨x, r⟩
  · have hlt := drop_nil hd
    (repeat' (first | simp [go_sem, X_region, *] | simp (disch := omega) only [om, *] | ((first | refine XC_split ?_ ?_ | refine XG_true ?_ ?_ | refine XG_false ?_ ?_ | refine XRg_true ?_ ?_ | refine XRg_false ?_ ?_) <;> intro hc <;> (try simp only [bl] at hc) <;> (try (exfalso; omega))) | refine XD_w [] [] [] (fun _ => none) mixed (by decide +kernel) (sub_none _) ?_ | (intro bk hbk; (try simp only [go_sem] at hbk))))
    all_goals (subst hR; exact Wk.of_eq (by simp [sIdx]))
  · obtain ⟨hlt, hx, hd2⟩ := drop_cons hd
    by_cases he : v = x
    · (repeat' (first | simp [go_sem, X_region, *] | simp (disch := omega) only [om, *] | ((first | refine XC_split ?_ ?_ | refine XG_true ?_ ?_ | refine XG_false ?_ ?_ | refine XRg_true ?_ ?_ | refine XRg_false ?_ ?_) <;> intro hc <;> (try simp only [bl] at hc) <;> (try (exfalso; omega))) | refine XD_w [] [] [] (fun _ => none) mixed (by decide +kernel) (sub_none _) ?_ | (intro bk hbk; (try simp only [go_sem] at hbk))))
      all_goals (subst hR; exact Wk.of_eq (by simp [sIdx, *]))
    · (repeat' (first | simp [go_sem, X_region, *] | simp (disch := omega) only [om, *] | ((first | refine XC_split ?_ ?_ | refine XG_true ?_ ?_ | refine XG_false ?_ ?_ | refine XRg_true ?_ ?_ | refine XRg_false ?_ ?_) <;> intro hc <;> (try simp only [bl] at hc) <;> (try (exfalso; omega))) | refine XD_w [] [] [] (fun _ => none) mixed (by decide +kernel) (sub_none _) ?_ | (intro bk hbk; (try simp only [go_sem] at hbk))))
      exact ⟨_, by omega, hJ.out _ _ _ ⟨i + 1, r, rfl, by omega, hd2, by simp [go_sem, *], by rw [← hR]; simp [sIdx, he], by simp [go_sem, *], by simp [go_sem, *], by simp [go_sem, *], rfl⟩⟩
theorem contains_ok (v : ByteArray) (l : List ByteArray) : Pure Tryz.prog 28 [encL 1 cS l, S v] (B (l.any fun k => decide (v = k))) := by
  intro h; refine callK_body Tryz.func28 rfl (by rw [nt28]; simp) ?_; rw [nt28, rs28]
  rw [← sIdx_ge v l 0 (by omega)]
  ((repeat' (first | simp [go_sem, X_region, *] | simp (disch := omega) only [om, *] | ((first | refine XC_split ?_ ?_ | refine XG_true ?_ ?_ | refine XG_false ?_ ?_ | refine XRg_true ?_ ?_ | refine XRg_false ?_ ?_) <;> intro hc <;> (try simp only [bl] at hc) <;> (try (exfalso; omega))) | refine XD_w [] [] [] (fun _ => none) mixed (by decide +kernel) (sub_none _) ?_ | refine Pure.call (index_ok v l) ?_ | refine ⟨_, Pure.at (index_ok v l), ?_⟩ | refine ⟨_, index_ok v l, ?_⟩ | refine PureAt.call (index_ok v l) ?_ | (intro bk hbk; (try simp only [go_sem] at hbk)))); all_goals (refine Wk.fin (by repeat (first | exact Sub.refl _ | refine Sub.upd (by simp [*]) ?_)) ?_; first | (simp [*]; done) | (simp only []; (repeat' (first | split | rfl | omega | (simp_all; done))); done) | (simp [*]; (repeat' (first | split | omega | (rw [Bool.eq_iff_iff]; simp; omega))); done) | (simp [*])))
end Go.Proofs.YtmalhikcdideoaaGreatDoor

set_option linter.unusedVariables false
set_option linter.unusedSimpArgs false
namespace Go.Proofs.YtmalhikcdideoaaGreatDoor
open Go Sl
attribute [local irreducible] XRange LpQ XR XRo XRg XRQ putQ XFv XL XW2 wQ putW X XO XOp XH XHo XW SeqQ BlkQ XOQ XHQ NrmQ XC XM XG XHM XHG XD CallK
def isSp (c : UInt8) : Bool := isSpaceN c.toNat
/-- Words: behind a space; within a word. -/
def fw : Bool → List UInt8 → List UInt8 → List (List UInt8)
  | true, _, [] => []
  | false, cur, [] => [cur]
  | true, _, c :: r => if isSp c then fw true [] r else fw false [c] r
  | false, cur, c :: r => if isSp c then cur :: fw true [] r else fw false (cur ++ [c]) r
/-- How many words begin. -/
def cnt : Bool → List UInt8 → Nat
  | _, [] => 0
  | w, c :: r => (if w && !isSp c then 1 else 0) + cnt (isSp c) r
theorem cnt_fw : ∀ (l : List UInt8), (fw true [] l).length = cnt true l ∧ ∀ cur, (fw false cur l).length = 1 + cnt false l := by
  intro l
  induction l with
  | nil => exact ⟨rfl, fun _ => rfl⟩
  | cons c l ih =>
    refine ⟨?_, fun cur => ?_⟩
    · unfold fw cnt
      by_cases h : isSp c = true
      · simp [h, ih.1]
      · simp [h, ih.2]
    · unfold fw cnt
      by_cases h : isSp c = true
      · simp [h, ih.1]; omega
      · simp [h, ih.2]
theorem cnt_le : ∀ (w : Bool) (l : List UInt8), cnt w l ≤ l.length := by
  intro w l
  induction l generalizing w with
  | nil => simp [cnt]
  | cons c l ih => unfold cnt; have := ih (isSp c); simp only [List.length_cons]; split <;> omega
theorem sp_at (c : UInt8) : spaceL[c.toNat]?.getD undef = .int .u8 (if isSp c = true then 1 else 0) := by
  rw [← List.getD_eq_getElem?_getD]; exact spaceL_at (UInt8.toNat_lt c)
set_option maxRecDepth 100000 in
theorem bor_small (a b : Int) (h0 : 0 ≤ a) (h1 : a < 128) (h2 : 0 ≤ b) (h3 : b < 128) : 0 ≤ bor .u8 a b ∧ bor .u8 a b < 128 := by
  have h : ∀ a b : Fin 128, 0 ≤ bor .u8 (a.val : Int) (b.val : Int) ∧ bor .u8 (a.val : Int) (b.val : Int) < 128 := by decide +kernel
  have := h ⟨a.toNat, by omega⟩ ⟨b.toNat, by omega⟩
  simp only [Int.toNat_of_nonneg h0, Int.toNat_of_nonneg h2] at this
  exact this
theorem bn0 : bnot .i64 0 = -1 := by decide +kernel
theorem bn1 : bnot .i64 1 = -2 := by decide +kernel
theorem ba00 : band .i64 0 (-1) = 0 := by decide +kernel
theorem ba01 : band .i64 0 (-2) = 0 := by decide +kernel
theorem ba10 : band .i64 1 (-1) = 1 := by decide +kernel
theorem ba11 : band .i64 1 (-2) = 0 := by decide +kernel
def asc (c : UInt8) : Prop := c.toNat < 128
/-- What an own row of texts holds so far. -/
def Holds (ob : Ob) (e : TypeId) (n : Nat) (l : List (List UInt8)) : Prop := ob.ty = e ∧ ob.s = 1 ∧ ob.n = n ∧ ∀ i x, l[i]? = some x → ob.f i 0 = S (bOf x)
theorem Holds.set {e : TypeId} {n : Nat} {l : List (List UInt8)} {g : Nat → Nat → AV} (h4 : ∀ (i : Nat) (x : List UInt8), l[i]? = some x → g i 0 = S (bOf x)) (x : List UInt8) : Holds { ty := e, s := 1, n := n, f := fun i' j' => if i' = l.length ∧ j' = 0 then S (bOf x) else g i' j' } e n (l ++ [x]) := by
  refine ⟨rfl, rfl, rfl, fun i y hy => ?_⟩
  by_cases hi : i = l.length
  · subst hi
    simp at hy
    subst hy
    simp
  · simp only [hi, false_and, if_false]
    refine h4 i y ?_
    have : i < l.length := by
      have := (List.getElem?_eq_some_iff.1 hy).1
      simp at this
      omega
    rwa [List.getElem?_append_left this] at hy
def Ex (r : List UInt8) : Prop := r = [] ∨ ∃ c r', r = c :: r' ∧ isSp c = false
theorem Ex.or (r : List UInt8) : (∃ c r', r = c :: r' ∧ isSp c = true) ∨ r = [] ∨ ∃ c r', r = c :: r' ∧ isSp c = false := by
  rcases r with _ | ⟨c, r⟩
  · exact .inr (.inl rfl)
  · cases h : isSp c
    · exact .inr (.inr ⟨c, r, rfl, h⟩)
    · exact .inl ⟨c, r, rfl, h⟩
def left (cur r : List UInt8) : List (List UInt8) := if cur = [] then fw true [] r else fw false cur r
theorem left_word (cur : List UInt8) (c : UInt8) (r : List UInt8) (h : isSp c = false) : left cur (c :: r) = left (cur ++ [c]) r := by
  unfold left
  by_cases hc : cur = []
  · subst hc; simp [fw, h]
  · rw [if_neg hc, if_neg (by simp)]; simp [fw, h]
theorem left_space (cur : List UInt8) (c : UInt8) (r : List UInt8) (h : isSp c = true) (hc : cur ≠ []) : left cur (c :: r) = cur :: fw true [] r := by
  unfold left
  rw [if_neg hc]; simp [fw, h]
theorem fw_space (c : UInt8) (r : List UInt8) (h : isSp c = true) : fw true [] (c :: r) = fw true [] r := by simp [fw, h]
theorem left_nil (r : List UInt8) : left [] r = fw true [] r := by simp [left]
theorem Holds.fin {h : Hp} {b : Nat} {ob : Ob} {e : TypeId} {n : Nat} {l : List (List UInt8)} (hh : Holds ob e n l) (hb : h b = none) (hl : l.length = n) (hn : n ≤ 1000000) : Wk (upd h b (some ob)) (.row b 1 0 n) h (encL 1 cS (l.map bOf)) := by
  obtain ⟨h1, h2, h3, h4⟩ := hh
  have : (l.map bOf).length = n := by simp [hl]
  rw [encL_eq, this]
  refine Wk.rowF (upd_same _ _ _) (Sub.upd hb (Sub.refl _)) hb h2 (by omega) (by omega) fun i hi j hj => ?_
  have hj0 : j = 0 := by omega
  subst hj0
  have hx : l[i]? = some l[i] := List.getElem?_eq_getElem (by omega)
  rw [h4 i _ hx, cellsL_at (x := bOf l[i]) (by simp [hx])]
  rfl
theorem take_more {s : ByteArray} {fs i : Nat} {cur r : List UInt8} {c : UInt8} (h1 : (s.data.toList.drop fs).take cur.length = cur) (h2 : fs + cur.length = i) (h3 : s.data.toList.drop i = c :: r) : (s.data.toList.drop fs).take (cur ++ [c]).length = cur ++ [c] := by
  have h4 : (s.data.toList.drop fs)[cur.length]? = some c := by
    rw [List.getElem?_drop, h2]
    have := congrArg List.head? h3
    simpa [List.head?_drop] using this
  rw [List.length_append, List.length_singleton, List.take_add_one, h1, h4]
  rfl
theorem fields_ok (s : ByteArray) (hs : s.size ≤ 1000000) (ha : ∀ c ∈ s.data.toList, asc c) : Pure Tryz.prog 206 [S s] (encL 1 cS ((fw true [] s.data.toList).map bOf)) := by
  obtain ⟨A, hA⟩ : ∃ A, fw true [] s.data.toList = A := ⟨_, rfl⟩
  have hcnt := (cnt_fw s.data.toList).1
  have hcle := cnt_le true s.data.toList
  rw [hA] at hcnt
  rw [size_list] at hcle
  rw [hA]
  obtain ⟨RR, hRR⟩ : ∃ RR, encL 1 cS (A.map bOf) = RR := ⟨_, rfl⟩
  rw [hRR]
  have HRR := Lib.hid hRR
  clear hRR
  obtain ⟨N, hN⟩ : ∃ N, A.length = N := ⟨_, rfl⟩
  rw [hN] at hcnt
  have hNs : N ≤ s.size := by omega
  have hc0 : 0 + cnt true s.data.toList = N := by omega
  have HA := Lib.hid hA
  have HN := Lib.hid hN
  clear hA hN hcnt hcle
  intro h; refine callK_body Tryz.func206 rfl (by rw [nt206]; simp) ?_; rw [nt206, rs206]
  (repeat' (first | simp [go_sem, X_region, *] | simp (disch := omega) only [om, *] | ((first | refine XC_split ?_ ?_ | refine XG_true ?_ ?_ | refine XG_false ?_ ?_ | refine XRg_true ?_ ?_ | refine XRg_false ?_ ?_) <;> intro hc <;> (try simp only [bl] at hc) <;> (try (exfalso; omega))) | refine XD_w [] [] [] (fun _ => none) mixed (by decide +kernel) (sub_none _) ?_ | (intro bk hbk; (try simp only [go_sem] at hbk))))
  refine X_lp (fun n T h' => ∃ (i : Nat) (r : List UInt8) (w : Bool) (k : Nat) (v : Int), n = r.length ∧ i ≤ s.size ∧ s.data.toList.drop i = r ∧ k + cnt w r = N ∧ 0 ≤ v ∧ v < 128 ∧ T 0 = S s ∧ T 3 = I k ∧ T 4 = I (if w = true then 1 else 0) ∧ T 5 = .v (.int .u8 v) ∧ T 6 = I i ∧ h' = h) _ ⟨0, _, true, 0, 0, rfl, by omega, rfl, by simpa using hc0, by omega, by omega, by simp [go_sem], by simp [go_sem], by simp [go_sem], by simp [go_sem], by simp [go_sem], rfl⟩ ?_
  clear hc0
  rintro J hJ n T h' ⟨i, r, w, k, v, rfl, hi, hd, hk, hv0, hv1, h0, h3, h4, h5, h6, rfl⟩
  rcases r with _ | ⟨c, r⟩
  · have hlt := str_nil hd
    simp only [cnt, Nat.add_zero] at hk
    subst hk
    clear hJ
    (repeat' (first | simp [go_sem, X_region, *] | simp (disch := omega) only [om, *] | ((first | refine XC_split ?_ ?_ | refine XG_true ?_ ?_ | refine XG_false ?_ ?_ | refine XRg_true ?_ ?_ | refine XRg_false ?_ ?_) <;> intro hc <;> (try simp only [bl] at hc) <;> (try (exfalso; omega))) | refine XD_w [] [] [] (fun _ => none) mixed (by decide +kernel) (sub_none _) ?_ | (intro bk hbk; (try simp only [go_sem] at hbk))))
    refine X_makeSlice k k und54 zr9 by9 (by simp [go_sem]) (by simp [go_sem]) (Nat.le_refl _) (by omega) (by omega) fun b hb => ?_
    obtain ⟨ob, hob, hh⟩ : ∃ ob : Ob, (⟨9, 1, k, fun _ j => .v ([Value.string ⟨#[]⟩].getD j undef)⟩ : Ob) = ob ∧ Holds ob 9 k [] := ⟨_, rfl, rfl, rfl, rfl, fun i x h => by simp at h⟩
    rw [hob]
    clear hob
    clear h3 h4 h5 h6 hi hd hlt hv0 hv1
    (repeat' (first | simp [go_sem, X_region, *] | simp (disch := omega) only [om, *] | ((first | refine XC_split ?_ ?_ | refine XG_true ?_ ?_ | refine XG_false ?_ ?_ | refine XRg_true ?_ ?_ | refine XRg_false ?_ ?_) <;> intro hc <;> (try simp only [bl] at hc) <;> (try (exfalso; omega))) | refine XD_w [] [] [] (fun _ => none) mixed (by decide +kernel) (sub_none _) ?_ | (intro bk hbk; (try simp only [go_sem] at hbk))))
    refine X_lp (fun n T h2 => ∃ (i : Nat) (r : List UInt8), n = r.length ∧ i ≤ s.size ∧ s.data.toList.drop i = r ∧ RowKit.Hid (fw true [] r = A) ∧ T 0 = S s ∧ T 9 = .row b 1 0 k ∧ T 10 = I 0 ∧ T 12 = I i ∧ h2 = upd h' b (some ob)) _ ⟨0, _, rfl, by omega, rfl, HA, by simp [go_sem, *], by simp [go_sem], by simp [go_sem], by simp [go_sem], rfl⟩ ?_
    clear HA
    rintro J hJ n T h2 ⟨i, r, rfl, hi, hd, HA, h0, h9, h10, h12, rfl⟩
    rcases Ex.or r with ⟨c, r, rfl, hc⟩ | hex
    · obtain ⟨hlt, hg, hd2⟩ := str_cons hd
      have hsp := sp_at c
      have hac := UInt8.toNat_lt c
      rw [if_pos hc] at hsp
      (repeat' (first | simp [go_sem, X_region, *] | simp (disch := omega) only [om, *] | ((first | refine XC_split ?_ ?_ | refine XG_true ?_ ?_ | refine XG_false ?_ ?_ | refine XRg_true ?_ ?_ | refine XRg_false ?_ ?_) <;> intro hc <;> (try simp only [bl] at hc) <;> (try (exfalso; omega))) | refine XD_w [] [] [] (fun _ => none) mixed (by decide +kernel) (sub_none _) ?_ | (intro bk hbk; (try simp only [go_sem] at hbk))))
      exact ⟨r.length, by simp, hJ.out _ _ _ ⟨i + 1, r, rfl, by omega, hd2, by have := HA.out; rw [fw_space c r hc] at this; exact Lib.hid this, by simp [go_sem, *], by simp [go_sem, *], by simp [go_sem, *], by simp [go_sem, *], rfl⟩⟩
    · have hex2 : Ex r := hex
      rcases hex with hr | ⟨c, r', hr, hc⟩
      case' inl =>
        rw [hr] at hd
        have hlt := str_nil hd
        rw [← hr] at hd
        (repeat' (first | simp [go_sem, X_region, *] | simp (disch := omega) only [om, *] | ((first | refine XC_split ?_ ?_ | refine XG_true ?_ ?_ | refine XG_false ?_ ?_ | refine XRg_true ?_ ?_ | refine XRg_false ?_ ?_) <;> intro hc <;> (try simp only [bl] at hc) <;> (try (exfalso; omega))) | refine XD_w [] [] [] (fun _ => none) mixed (by decide +kernel) (sub_none _) ?_ | (intro bk hbk; (try simp only [go_sem] at hbk))))
        clear hr
      case' inr =>
        rw [hr] at hd
        obtain ⟨hlt, hg, hd2⟩ := str_cons hd
        have hsp := sp_at c
        have hac := UInt8.toNat_lt c
        rw [if_neg (by simp [hc])] at hsp
        rw [← hr] at hd
        (repeat' (first | simp [go_sem, X_region, *] | simp (disch := omega) only [om, *] | ((first | refine XC_split ?_ ?_ | refine XG_true ?_ ?_ | refine XG_false ?_ ?_ | refine XRg_true ?_ ?_ | refine XRg_false ?_ ?_) <;> intro hc <;> (try simp only [bl] at hc) <;> (try (exfalso; omega))) | refine XD_w [] [] [] (fun _ => none) mixed (by decide +kernel) (sub_none _) ?_ | (intro bk hbk; (try simp only [go_sem] at hbk))))
      all_goals
        clear hJ J
        obtain ⟨i0, hi0⟩ : ∃ i0, i = i0 := ⟨_, rfl⟩
        refine X_lp (fun n T h2 => ∃ (i fs : Nat) (r cur : List UInt8) (W : List (List UInt8)) (o2 : Ob), n = r.length ∧ i ≤ s.size ∧ s.data.toList.drop i = r ∧ fs + cur.length = i ∧ (s.data.toList.drop fs).take cur.length = cur ∧ RowKit.Hid (cur = [] → Ex r) ∧ RowKit.Hid (W ++ left cur r = A) ∧ Holds o2 9 k W ∧ T 0 = S s ∧ T 9 = .row b 1 0 k ∧ T 10 = I W.length ∧ T 11 = I fs ∧ T 12 = I i ∧ h2 = upd h' b (some o2)) _ ⟨i, i, r, [], [], ob, rfl, hi, hd, rfl, rfl, Lib.hid fun _ => hex2, by have := HA.out; rw [← left_nil] at this; exact Lib.hid this, hh, by simp [go_sem, *], by simp [go_sem, *], by simp [go_sem, *], by simp [go_sem, *], by simp [go_sem, *], rfl⟩ ?_
        clear HA h0 h9 h10 h12 hi hd hex2 hh hi0 i0
        try clear hg hd2 hsp hac hr hc c r'
        clear hlt
        clear ob i r T
        rintro J hJ n T h2 ⟨i, fs, r, cur, W, ob, rfl, hi, hd, hfs, hcur, hex, HA, hh, h0, h9, h10, h11, h12, rfl⟩
        obtain ⟨q1, q2, q3, q4⟩ := hh
        have hx : s.extract fs i = bOf cur := by rw [← hfs, extract_take, hcur]
        have hlen : W.length + (left cur r).length = k := by have := HA.out; have h2 := HN.out; rw [← this, List.length_append] at h2; exact h2
        have hcn : cur ≠ [] → 1 ≤ (left cur r).length := fun h => by unfold left; rw [if_neg h, (cnt_fw r).2]; omega
        rcases r with _ | ⟨c, r⟩
        · have hlt := str_nil hd
          have hie : i = s.size := by omega
          clear hJ
          by_cases hce : cur = []
          · subst hce
            have hf2 : ¬ fs < s.size := by simp at hfs; omega
            have hWA : W = A := by have := HA.out; simpa [left, fw] using this
            clear hcn hlen HA hcur hex
            have hkk := HN.out
            subst hWA
            have hfin := Lib.hid (Holds.fin (h := h') (b := b) ⟨q1, q2, q3, q4⟩ hb hkk (by omega))
            (repeat' (first | simp [go_sem, X_region, *] | simp (disch := omega) only [om, *] | ((first | refine XC_split ?_ ?_ | refine XG_true ?_ ?_ | refine XG_false ?_ ?_ | refine XRg_true ?_ ?_ | refine XRg_false ?_ ?_) <;> intro hc <;> (try simp only [bl] at hc) <;> (try (exfalso; omega))) | refine XD_w [] [] [] (fun _ => none) mixed (by decide +kernel) (sub_none _) ?_ | (intro bk hbk; (try simp only [go_sem] at hbk))))
            rw [← HRR.out]; exact hfin.out
          · have hf2 : fs < s.size := by have : 0 < cur.length := List.length_pos_iff.2 hce
                                         omega
            have hWA : W ++ [cur] = A := by have := HA.out; simpa [left, hce, fw] using this
            have hWk : W.length < k := by have := hcn hce; omega
            have hx2 : s.extract fs s.size = bOf cur := by rw [← hie]; exact hx
            clear hcn hlen HA hcur hex hfs
            have hkk := HN.out
            have hfin := Lib.hid (Holds.fin (h := h') (b := b) (Holds.set (e := 9) (n := k) q4 cur) hb (by rw [hWA]; exact hkk) (by omega))
            rw [hWA] at hfin
            clear hkk hWA HN
            (repeat' (first | simp [go_sem, X_region, *] | simp (disch := omega) only [om, *] | ((first | refine XC_split ?_ ?_ | refine XG_true ?_ ?_ | refine XG_false ?_ ?_ | refine XRg_true ?_ ?_ | refine XRg_false ?_ ?_) <;> intro hc <;> (try simp only [bl] at hc) <;> (try (exfalso; omega))) | refine XD_w [] [] [] (fun _ => none) mixed (by decide +kernel) (sub_none _) ?_ | (intro bk hbk; (try simp only [go_sem] at hbk))))
            rw [← HRR.out]; exact hfin.out
        · obtain ⟨hlt, hg, hd2⟩ := str_cons hd
          have hsp := sp_at c
          have hac := UInt8.toNat_lt c
          cases hc : isSp c
          · rw [if_neg (by simp [hc])] at hsp
            have htm := take_more hcur hfs hd
            have HA2 : RowKit.Hid (W ++ left (cur ++ [c]) r = A) := by have := HA.out; rw [left_word _ _ _ hc] at this; exact Lib.hid this
            clear HA hcn hlen hex
            (repeat' (first | simp [go_sem, X_region, *] | simp (disch := omega) only [om, *] | ((first | refine XC_split ?_ ?_ | refine XG_true ?_ ?_ | refine XG_false ?_ ?_ | refine XRg_true ?_ ?_ | refine XRg_false ?_ ?_) <;> intro hc <;> (try simp only [bl] at hc) <;> (try (exfalso; omega))) | refine XD_w [] [] [] (fun _ => none) mixed (by decide +kernel) (sub_none _) ?_ | (intro bk hbk; (try simp only [go_sem] at hbk))))
            exact ⟨r.length, by omega, hJ.out _ _ _ ⟨i + 1, fs, r, cur ++ [c], W, ob, rfl, by omega, hd2, by simp; omega, htm, Lib.hid fun e => by simp at e, HA2, ⟨q1, q2, q3, q4⟩, by simp [go_sem, *], by simp [go_sem, *], by simp [go_sem, *], by simp [go_sem, *], by simp [go_sem, *], rfl⟩⟩
          · rw [if_pos hc] at hsp
            have hce : cur ≠ [] := fun e => by
              rcases hex.out e with h1 | ⟨c', r', h1, h2⟩
              · cases h1
              · cases h1; rw [hc] at h2; cases h2
            have hWk : W.length < k := by have := hcn hce; omega
            have HA2 : RowKit.Hid ((W ++ [cur]) ++ fw true [] r = A) := by have := HA.out; rw [left_space _ _ _ hc hce] at this; exact Lib.hid (by simpa using this)
            have hset := Lib.hid (Holds.set (e := 9) (n := k) q4 cur)
            clear HA hcn hlen hex
            (repeat' (first | simp [go_sem, X_region, *] | simp (disch := omega) only [om, *] | ((first | refine XC_split ?_ ?_ | refine XG_true ?_ ?_ | refine XG_false ?_ ?_ | refine XRg_true ?_ ?_ | refine XRg_false ?_ ?_) <;> intro hc <;> (try simp only [bl] at hc) <;> (try (exfalso; omega))) | refine XD_w [] [] [] (fun _ => none) mixed (by decide +kernel) (sub_none _) ?_ | (intro bk hbk; (try simp only [go_sem] at hbk))))
            refine X_lp (fun n T h2 => ∃ (i2 : Nat) (r2 : List UInt8) (o2 : Ob), n = r2.length ∧ i2 ≤ s.size ∧ s.data.toList.drop i2 = r2 ∧ r2.length ≤ r.length ∧ RowKit.Hid ((W ++ [cur]) ++ fw true [] r2 = A) ∧ Holds o2 9 k (W ++ [cur]) ∧ T 0 = S s ∧ T 9 = .row b 1 0 k ∧ T 10 = I (W.length + 1) ∧ T 12 = I i2 ∧ h2 = upd h' b (some o2)) _ ⟨i + 1, r, _, rfl, by omega, hd2, Nat.le_refl _, HA2, hset.out, by simp [go_sem, *], by simp [go_sem, *], by simp [go_sem, *], by simp [go_sem, *], rfl⟩ ?_
            clear HA2 hset h0 h9 h10 h11 h12 hi hfs hcur q1 q2 q3 q4 hx hd hlt hg hd2 hsp hac hc hce c i fs ob T
            rintro J3 hJ3 n T h2 ⟨i, r, ob, rfl, hi, hd, hrl, HA, hh, h0, h9, h10, h12, rfl⟩
            obtain ⟨q1, q2, q3, q4⟩ := hh
            rcases Ex.or r with ⟨c, r, rfl, hc⟩ | hex
            · obtain ⟨hlt, hg, hd2⟩ := str_cons hd
              have hsp := sp_at c
              have hac := UInt8.toNat_lt c
              rw [if_pos hc] at hsp
              (repeat' (first | simp [go_sem, X_region, *] | simp (disch := omega) only [om, *] | ((first | refine XC_split ?_ ?_ | refine XG_true ?_ ?_ | refine XG_false ?_ ?_ | refine XRg_true ?_ ?_ | refine XRg_false ?_ ?_) <;> intro hc <;> (try simp only [bl] at hc) <;> (try (exfalso; omega))) | refine XD_w [] [] [] (fun _ => none) mixed (by decide +kernel) (sub_none _) ?_ | (intro bk hbk; (try simp only [go_sem] at hbk))))
              exact ⟨r.length, by simp, hJ3.out _ _ _ ⟨i + 1, r, ob, rfl, by omega, hd2, by simp at hrl; omega, by have := HA.out; rw [fw_space c r hc] at this; exact Lib.hid this, ⟨q1, q2, q3, q4⟩, by simp [go_sem, *], by simp [go_sem, *], by simp [go_sem, *], by simp [go_sem, *], rfl⟩⟩
            · have hex2 : Ex r := hex
              clear hJ3
              rcases hex with hr | ⟨c, r', hr, hc⟩
              · rw [hr] at hd
                have hlt := str_nil hd
                rw [← hr] at hd
                (repeat' (first | simp [go_sem, X_region, *] | simp (disch := omega) only [om, *] | ((first | refine XC_split ?_ ?_ | refine XG_true ?_ ?_ | refine XG_false ?_ ?_ | refine XRg_true ?_ ?_ | refine XRg_false ?_ ?_) <;> intro hc <;> (try simp only [bl] at hc) <;> (try (exfalso; omega))) | refine XD_w [] [] [] (fun _ => none) mixed (by decide +kernel) (sub_none _) ?_ | (intro bk hbk; (try simp only [go_sem] at hbk))))
                exact ⟨r.length, by omega, hJ.out _ _ _ ⟨i, i, r, [], W ++ [cur], ob, rfl, hi, hd, rfl, rfl, Lib.hid fun _ => hex2, by have := HA.out; rw [← left_nil] at this; exact Lib.hid this, ⟨q1, q2, q3, q4⟩, by simp [go_sem, *], by simp [go_sem, *], by simp [go_sem, *], by simp [go_sem, *], by simp [go_sem, *], rfl⟩⟩
              · rw [hr] at hd
                obtain ⟨hlt, hg, hd2⟩ := str_cons hd
                have hsp := sp_at c
                have hac := UInt8.toNat_lt c
                rw [if_neg (by simp [hc])] at hsp
                rw [← hr] at hd
                clear hd2
                (repeat' (first | simp [go_sem, X_region, *] | simp (disch := omega) only [om, *] | ((first | refine XC_split ?_ ?_ | refine XG_true ?_ ?_ | refine XG_false ?_ ?_ | refine XRg_true ?_ ?_ | refine XRg_false ?_ ?_) <;> intro hc <;> (try simp only [bl] at hc) <;> (try (exfalso; omega))) | refine XD_w [] [] [] (fun _ => none) mixed (by decide +kernel) (sub_none _) ?_ | (intro bk hbk; (try simp only [go_sem] at hbk))))
                exact ⟨r.length, by omega, hJ.out _ _ _ ⟨i, i, r, [], W ++ [cur], ob, rfl, hi, hd, rfl, rfl, Lib.hid fun _ => hex2, by have := HA.out; rw [← left_nil] at this; exact Lib.hid this, ⟨q1, q2, q3, q4⟩, by simp [go_sem, *], by simp [go_sem, *], by simp [go_sem, *], by simp [go_sem, *], by simp [go_sem, *], rfl⟩⟩
  · obtain ⟨hlt, hg, hd2⟩ := str_cons hd
    have hac : asc c := ha c (List.mem_of_mem_drop (by rw [hd]; exact List.mem_cons_self ..))
    unfold asc at hac
    have hb := bor_small v c.toNat hv0 hv1 (by omega) (by omega)
    have hsp := sp_at c
    unfold cnt at hk
    cases hc : isSp c <;> cases w <;> (
      simp only [hc, Bool.false_eq_true, if_false, if_true, Bool.not_true, Bool.not_false, Bool.and_true, Bool.and_false] at hk hsp h4
      (repeat' (first | simp [go_sem, X_region, *] | simp (disch := omega) only [om, *] | ((first | refine XC_split ?_ ?_ | refine XG_true ?_ ?_ | refine XG_false ?_ ?_ | refine XRg_true ?_ ?_ | refine XRg_false ?_ ?_) <;> intro hc <;> (try simp only [bl] at hc) <;> (try (exfalso; omega))) | refine XD_w [] [] [] (fun _ => none) mixed (by decide +kernel) (sub_none _) ?_ | (intro bk hbk; (try simp only [go_sem] at hbk))))
      refine ⟨_, Nat.lt_succ_self _, hJ.out _ _ _ ⟨i + 1, r, _, _, _, rfl, by omega, hd2, (Nat.add_assoc ..).trans hk, hb.1, hb.2, ?_, ?_, ?_, ?_, ?_, rfl⟩⟩ <;> (simp [go_sem, *, bn0, bn1, ba00, ba01, ba10, ba11]; try (simp (disch := omega) only [om])))
end Go.Proofs.YtmalhikcdideoaaGreatDoor

set_option linter.unusedVariables false
set_option linter.unusedSimpArgs false
namespace Go.Proofs.YtmalhikcdideoaaGreatDoor
open Go Sl
attribute [local irreducible] XRange LpQ XR XRo XRg XRQ putQ XFv XL XW2 wQ putW X XO XOp XH XHo XW SeqQ BlkQ XOQ XHQ NrmQ XC XM XG XHM XHG XD CallK
def keyText : ByteArray := ⟨#[97, 99, 116, 32, 97, 110, 100, 32, 97, 114, 116, 105, 99, 108, 101, 32, 97, 116, 45, 109, 111, 115, 116, 32, 97, 116, 116, 114, 105, 98, 117, 116, 101, 32, 98, 97, 115, 101, 32, 98, 101, 108, 111, 119, 32, 98, 111, 111, 108, 32, 99, 111, 117, 110, 116, 32, 100, 97, 116, 101, 32, 100, 97, 121, 115, 32, 100, 111, 119, 110, 32, 101, 108, 115, 101, 32, 101, 110, 97, 99, 116, 101, 100, 32, 101, 113, 117, 97, 108, 115, 32, 102, 97, 108, 115, 101, 32, 102, 114, 111, 109, 32, 103, 105, 118, 101, 115, 32, 103, 114, 101, 97, 116, 101, 115, 116, 32, 104, 97, 108, 102, 32, 104, 97, 108, 102, 45, 111, 117, 116, 32, 104, 97, 108, 102, 45, 116, 119, 111, 32, 105, 102, 32, 105, 110, 112, 117, 116, 32, 105, 115, 32, 108, 101, 97, 115, 116, 32, 108, 101, 118, 101, 108, 32, 109, 105, 110, 117, 115, 32, 109, 111, 110, 101, 121, 32, 110, 111, 116, 32, 110, 117, 109, 98, 101, 114, 32, 111, 102, 32, 111, 114, 32, 111, 118, 101, 114, 32, 112, 108, 117, 115, 32, 114, 111, 117, 110, 100, 32, 115, 99, 97, 108, 101, 32, 115, 104, 97, 114, 101, 32, 115, 108, 105, 99, 101, 115, 32, 116, 97, 98, 108, 101, 32, 116, 104, 101, 110, 32, 116, 105, 109, 101, 115, 32, 116, 111, 32, 116, 111, 116, 97, 108, 32, 116, 114, 117, 101, 32, 117, 112, 32, 119, 101, 105, 103, 104, 116, 32, 119, 104, 101, 110, 32, 121, 101, 97, 114, 115]⟩
set_option maxRecDepth 100000 in
theorem keyText_fw : (fw true [] keyText.data.toList).map bOf = keysB := by decide +kernel
set_option maxRecDepth 100000 in
theorem keyText_asc : ∀ c ∈ keyText.data.toList, asc c := by unfold asc; decide +kernel
set_option maxRecDepth 100000 in
theorem reserved_ok : Pure Tryz.prog 134 [] (encL 1 cS keysB) := by
  have hf := fields_ok keyText (by decide +kernel) keyText_asc
  rw [keyText_fw] at hf
  unfold keyText at hf
  intro h; refine callK_body Tryz.func134 rfl (by rw [nt134]; simp) ?_; rw [nt134, rs134]
  (repeat' (first | simp [go_sem, X_region, *] | simp (disch := omega) only [om, *] | ((first | refine XC_split ?_ ?_ | refine XG_true ?_ ?_ | refine XG_false ?_ ?_ | refine XRg_true ?_ ?_ | refine XRg_false ?_ ?_) <;> intro hc <;> (try simp only [bl] at hc) <;> (try (exfalso; omega))) | refine XD_w [] [] [] (fun _ => none) mixed (by decide +kernel) (sub_none _) ?_ | refine Pure.call (hf) ?_ | refine ⟨_, Pure.at (hf), ?_⟩ | refine ⟨_, hf, ?_⟩ | refine PureAt.call (hf) ?_ | (intro bk hbk; (try simp only [go_sem] at hbk))))
abbrev ptr (b : Nat) : AV := .v (.pointer (some ⟨b, 0, none⟩))
end Go.Proofs.YtmalhikcdideoaaGreatDoor

set_option linter.unusedVariables false
set_option linter.unusedSimpArgs false
namespace Go.Proofs.YtmalhikcdideoaaGreatDoor
open Go Sl
attribute [local irreducible] XRange LpQ XR XRo XRg XRQ putQ XFv XL XW2 wQ putW X XO XOp XH XHo XW SeqQ BlkQ XOQ XHQ NrmQ XC XM XG XHM XHG XD CallK
theorem set_inner : ∀ c : UInt8, (⟨#[97, 98, 99, 100, 101, 102, 103, 104, 105, 106, 107, 108, 109, 110, 111, 112, 113, 114, 115, 116, 117, 118, 119, 120, 121, 122, 48, 49, 50, 51, 52, 53, 54, 55, 56, 57, 45]⟩ : ByteArray).data.toList.contains c = isInner c := by
  have h : ∀ n : Fin 256, (⟨#[97, 98, 99, 100, 101, 102, 103, 104, 105, 106, 107, 108, 109, 110, 111, 112, 113, 114, 115, 116, 117, 118, 119, 120, 121, 122, 48, 49, 50, 51, 52, 53, 54, 55, 56, 57, 45]⟩ : ByteArray).data.toList.contains (UInt8.ofNat n.val) = isInner (UInt8.ofNat n.val) := by decide +kernel
  intro c
  have := h ⟨c.toNat, UInt8.toNat_lt c⟩
  simpa using this
theorem gb_head (c : UInt8) (r : List UInt8) : gb (bOf (c :: r)) 0 = c := rfl
theorem bOf_ne (c : UInt8) (r : List UInt8) : ¬ bOf (c :: r) = ⟨#[]⟩ := fun e => by
  have := congrArg ByteArray.size e
  rw [bOf_size] at this
  cases this
theorem bOf_extract (l : List UInt8) (a n : Nat) : (bOf l).extract a (a + n) = bOf ((l.drop a).take n) := extract_take _ _ _
theorem bOf_from (l : List UInt8) (a : Nat) (h : a ≤ l.length) : (bOf l).extract a l.length = bOf (l.drop a) := by
  have e : (bOf l).extract a l.length = (bOf l).extract a (a + (l.length - a)) := by congr 1; omega
  rw [e, bOf_extract, List.take_of_length_le (by simp)]
end Go.Proofs.YtmalhikcdideoaaGreatDoor

set_option linter.unusedVariables false
set_option linter.unusedSimpArgs false
namespace Go.Proofs.YtmalhikcdideoaaGreatDoor
open Go Sl
attribute [local irreducible] XRange LpQ XR XRo XRg XRQ putQ XFv XL XW2 wQ putW X XO XOp XH XHo XW SeqQ BlkQ XOQ XHQ NrmQ XC XM XG XHM XHG XD CallK
attribute [local go_sem] beqB
end Go.Proofs.YtmalhikcdideoaaGreatDoor

set_option linter.unusedVariables false
set_option linter.unusedSimpArgs false
namespace Go.Proofs.YtmalhikcdideoaaGreatDoor
open Go Sl
attribute [local irreducible] XRange LpQ XR XRo XRg XRQ putQ XFv XL XW2 wQ putW X XO XOp XH XHo XW SeqQ BlkQ XOQ XHQ NrmQ XC XM XG XHM XHG XD CallK
def inSet (l : List UInt8) (k : Nat) : Bool := l.any fun c => decide (c.toNat = k)
def setF (l : List UInt8) (k : Nat) : AV := if k < 256 then B (inSet l k) else .any
def bigO : Option Ob → Nat → Nat → Option AV
  | some o, i, off => if i < o.n ∧ off + 256 ≤ o.s then some (aggL (rowL 256 fun k => o.f i (off + k))) else none
  | none, _, _ => none
def bigL (h : Hp) : AV → Option AV
  | .fp m f => if 256 ≤ m then some (aggL (rowL 256 f)) else none
  | .v (.pointer (some ⟨b, off, none⟩)) => bigO (h b) 0 off
  | .pt b s i j => match h b with
    | some o => if o.s = s then bigO (h b) i j else none
    | none => none
  | _ => none
theorem big_own (h : Hp) (b i j : Nat) : ownAt h b i j 256 true = bigO (h b) i j := by
  unfold ownAt
  cases h b <;> rfl
theorem load143 (h : Hp) (x : AV) : loadA Tryz.prog h 234 x = bigL h x := by
  unfold loadA
  rw [ld234]
  unfold bigL
  dsimp only
  split <;> simp only [big_own, rowL] <;> rfl
attribute [local go_sem] bigO bigL
theorem agg_row (f g : Nat → AV) (h : ∀ k, k < 256 → f k = g k) (hg : ∀ k, ¬ k < 256 → g k = .any) : aggL (rowL 256 f) = .agg 256 g := by
  unfold aggL
  rw [rowL_length]
  congr 1
  funext j
  rw [List.getD_eq_getElem?_getD, rowL_at]
  by_cases hj : j < 256
  · simp [hj, h j hj]
  · simp [hj, hg j hj]
theorem setF_at (l : List UInt8) (c : UInt8) : setF l c.toNat = B (l.contains c) := by
  have h := UInt8.toNat_lt c
  have e : inSet l c.toNat = l.contains c := by
    rw [Bool.eq_iff_iff]
    simp [inSet, UInt8.toNat_inj]
  simp [setF, h, e]
theorem set0 (k : Nat) (h : k < 256) : (AV.v ((rep 256 (Value.bool false))[k]?.getD undef)) = setF [] k := by
  rw [rep_at]
  simp [setF, inSet, h]
theorem setF_add (l : List UInt8) (c : UInt8) (k : Nat) : setF (l ++ [c]) k = if k = c.toNat then B true else setF l k := by
  have h := UInt8.toNat_lt c
  by_cases hk : k = c.toNat
  · subst hk
    simp [setF, inSet, h]
  · have : ¬ c.toNat = k := fun e => hk e.symm
    simp [setF, inSet, hk, this]
theorem makeset_ok (s : ByteArray) (hs : s.size ≤ 1000) (ha : ∀ c ∈ s.data.toList, c.toNat < 128) : Pure Tryz.prog 200 [S s] (tup2 (.agg 256 (setF s.data.toList)) (B true)) := by
  generalize hR : s.data.toList = R
  rw [hR] at ha
  intro h; refine callK_body Tryz.func200 rfl (by rw [nt200]; simp) ?_; rw [nt200, rs200]
  (repeat' (first | simp [go_sem, X_region, *] | simp (disch := omega) only [om, *] | ((first | refine XC_split ?_ ?_ | refine XG_true ?_ ?_ | refine XG_false ?_ ?_ | refine XRg_true ?_ ?_ | refine XRg_false ?_ ?_) <;> intro hc <;> (try simp only [bl] at hc) <;> (try (exfalso; omega))) | refine XD_w [] [] [] (fun _ => none) mixed (by decide +kernel) (sub_none _) ?_ | fail))
  intro b hb
  (repeat' (first | simp [go_sem, X_region, *] | simp (disch := omega) only [om, *] | ((first | refine XC_split ?_ ?_ | refine XG_true ?_ ?_ | refine XG_false ?_ ?_ | refine XRg_true ?_ ?_ | refine XRg_false ?_ ?_) <;> intro hc <;> (try simp only [bl] at hc) <;> (try (exfalso; omega))) | refine XD_w [] [] [] (fun _ => none) mixed (by decide +kernel) (sub_none _) ?_ | fail))
  refine X_lp (fun n T h2 => ∃ (i : Nat) (pre r : List UInt8) (o : Ob), n = r.length ∧ i ≤ s.size ∧ s.data.toList.drop i = r ∧ pre ++ r = R ∧ o.ty = 234 ∧ o.s = 256 ∧ o.n = 1 ∧ (∀ k, k < 256 → o.f 0 k = setF pre k) ∧ T 0 = S s ∧ T 2 = ptr b ∧ T 4 = I i ∧ h2 = upd h b (some o)) _ ⟨0, [], R, _, rfl, by omega, by simpa using hR, rfl, rfl, rfl, rfl, set0, by simp [go_sem], by simp [go_sem], by simp [go_sem], rfl⟩ ?_
  rintro J hJ n T h2 ⟨i, pre, r, o, rfl, hi, hd, hpre, o1, o2, o3, of, t0, t2, t4, rfl⟩
  rcases r with _ | ⟨c, r⟩
  · have hlt := str_nil hd
    rw [List.append_nil] at hpre
    subst hpre
    (repeat' (first | simp [go_sem, X_region, ↓load143, *] | simp (disch := omega) only [om, *] | ((first | refine XC_split ?_ ?_ | refine XG_true ?_ ?_ | refine XG_false ?_ ?_ | refine XRg_true ?_ ?_ | refine XRg_false ?_ ?_) <;> intro hc <;> (try simp only [bl] at hc) <;> (try (exfalso; omega))) | refine XD_w [] [] [] (fun _ => none) mixed (by decide +kernel) (sub_none _) ?_ | fail))
    rw [agg_row _ (setF pre) (fun k hk => by simp [hk, of]) fun k hk => by simp [setF, hk]]
    exact Wk.drop _ (Sub.upd hb (Sub.refl _))
  · obtain ⟨hlt, hg, hd2⟩ := str_cons hd
    have hc := ha c (by rw [← hpre]; simp)
    have h256 : c.toNat < 256 := by omega
    (repeat' (first | simp [go_sem, X_region, *] | simp (disch := omega) only [om, *] | ((first | refine XC_split ?_ ?_ | refine XG_true ?_ ?_ | refine XG_false ?_ ?_ | refine XRg_true ?_ ?_ | refine XRg_false ?_ ?_) <;> intro hc <;> (try simp only [bl] at hc) <;> (try (exfalso; omega))) | refine XD_w [] [] [] (fun _ => none) mixed (by decide +kernel) (sub_none _) ?_ | fail))
    exact ⟨by omega, r.length, by omega, hJ.out _ _ _ ⟨i + 1, pre ++ [c], r, ⟨234, 256, 1, _⟩, rfl, by omega, hd2, by simpa using hpre, rfl, rfl, rfl, fun k hk => by
      rw [setF_add]
      by_cases e : k = c.toNat
      · simp [e]
      · have e2 : ¬ (c.toNat ≤ k ∧ k < c.toNat + 1) := by omega
        simp [e, e2, of k hk], by simp [go_sem, *], by simp [go_sem, *], by simp [go_sem, *], rfl⟩⟩
theorem has_ok {h : Hp} {b : Nat} {o : Ob} {l : List UInt8} (hb : h b = some o) (h1 : o.s = 256) (h2 : o.n = 1) (hf : ∀ k, k < 256 → o.f 0 k = setF l k) (c : UInt8) : PureAt Tryz.prog h 257 [ptr b, U8 c] (B (l.contains c)) := by
  have hc := UInt8.toNat_lt c
  have hs := setF_at l c
  refine callK_body Tryz.func257 rfl (by rw [nt257]; simp) ?_; rw [nt257, rs257]
  ((repeat' (first | simp [go_sem, X_region, *] | simp (disch := omega) only [om, *] | ((first | refine XC_split ?_ ?_ | refine XG_true ?_ ?_ | refine XG_false ?_ ?_ | refine XRg_true ?_ ?_ | refine XRg_false ?_ ?_) <;> intro hc <;> (try simp only [bl] at hc) <;> (try (exfalso; omega))) | refine XD_w [] [] [] (fun _ => none) mixed (by decide +kernel) (sub_none _) ?_ | (intro bk hbk; (try simp only [go_sem] at hbk)))); all_goals (refine Wk.fin (by repeat (first | exact Sub.refl _ | refine Sub.upd (by simp [*]) ?_)) ?_; first | (simp [*]; done) | (simp only []; (repeat' (first | split | rfl | omega | (simp_all; done))); done) | (simp [*]; (repeat' (first | split | omega | (rw [Bool.eq_iff_iff]; simp; omega))); done) | (simp [*])))
theorem left_ok {h : Hp} {b : Nat} {o : Ob} {l : List UInt8} (hb : h b = some o) (h1 : o.s = 256) (h2 : o.n = 1) (hf : ∀ k, k < 256 → o.f 0 k = setF l k) (s : List UInt8) (hs : s.length ≤ 1000) : PureAt Tryz.prog h 201 [S (bOf s), ptr b] (S (bOf (s.dropWhile l.contains))) := by
  generalize hR : s.dropWhile l.contains = R
  refine callK_body Tryz.func201 rfl (by rw [nt201]; simp) ?_; rw [nt201, rs201]
  (repeat' (first | simp [go_sem, X_region, *] | simp (disch := omega) only [om, *] | ((first | refine XC_split ?_ ?_ | refine XG_true ?_ ?_ | refine XG_false ?_ ?_ | refine XRg_true ?_ ?_ | refine XRg_false ?_ ?_) <;> intro hc <;> (try simp only [bl] at hc) <;> (try (exfalso; omega))) | refine XD_w [] [] [] (fun _ => none) mixed (by decide +kernel) (sub_none _) ?_ | (intro bk hbk; (try simp only [go_sem] at hbk))))
  refine X_lp (fun n T h' => ∃ (r : List UInt8), n = r.length ∧ r.length ≤ 1000 ∧ r.dropWhile l.contains = R ∧ T 0 = S (bOf r) ∧ T 1 = ptr b ∧ h' = h) _ ⟨s, rfl, hs, hR, by simp [go_sem, *]⟩ ?_
  clear hR
  rintro J hJ n T h' ⟨r, rfl, hr, hR, t0, t1, rfl⟩
  have hsz := bOf_size r
  rcases r with _ | ⟨c, r⟩
  · simp only [List.length_nil] at hsz
    (repeat' (first | simp [go_sem, X_region, *] | simp (disch := omega) only [om, *] | ((first | refine XC_split ?_ ?_ | refine XG_true ?_ ?_ | refine XG_false ?_ ?_ | refine XRg_true ?_ ?_ | refine XRg_false ?_ ?_) <;> intro hc <;> (try simp only [bl] at hc) <;> (try (exfalso; omega))) | refine XD_w [] [] [] (fun _ => none) mixed (by decide +kernel) (sub_none _) ?_ | (intro bk hbk; (try simp only [go_sem] at hbk))))
    all_goals (subst hR; exact Wk.of_eq rfl)
  · simp only [List.length_cons] at hsz hr
    have hg := gb_head c r
    have hx1 : (bOf (c :: r)).extract 1 (r.length + 1) = bOf r := bOf_from (c :: r) 1 (by simp)
    have hh := has_ok hb h1 h2 hf c
    cases hc : l.contains c
    · rw [hc] at hh
      (repeat' (first | simp [go_sem, X_region, *] | simp (disch := omega) only [om, *] | ((first | refine XC_split ?_ ?_ | refine XG_true ?_ ?_ | refine XG_false ?_ ?_ | refine XRg_true ?_ ?_ | refine XRg_false ?_ ?_) <;> intro hc <;> (try simp only [bl] at hc) <;> (try (exfalso; omega))) | refine XD_w [] [] [] (fun _ => none) mixed (by decide +kernel) (sub_none _) ?_ | refine Pure.call (hh) ?_ | refine ⟨_, Pure.at (hh), ?_⟩ | refine ⟨_, hh, ?_⟩ | refine PureAt.call (hh) ?_ | (intro bk hbk; (try simp only [go_sem] at hbk))))
      all_goals (rw [List.dropWhile_cons, hc] at hR; subst hR; exact Wk.of_eq rfl)
    · rw [hc] at hh
      (repeat' (first | simp [go_sem, X_region, *] | simp (disch := omega) only [om, *] | ((first | refine XC_split ?_ ?_ | refine XG_true ?_ ?_ | refine XG_false ?_ ?_ | refine XRg_true ?_ ?_ | refine XRg_false ?_ ?_) <;> intro hc <;> (try simp only [bl] at hc) <;> (try (exfalso; omega))) | refine XD_w [] [] [] (fun _ => none) mixed (by decide +kernel) (sub_none _) ?_ | refine Pure.call (hh) ?_ | refine ⟨_, Pure.at (hh), ?_⟩ | refine ⟨_, hh, ?_⟩ | refine PureAt.call (hh) ?_ | (intro bk hbk; (try simp only [go_sem] at hbk))))
      exact ⟨r.length, by omega, hJ.out _ _ _ ⟨r, rfl, by omega, by rw [← hR, List.dropWhile_cons, hc]; rfl, by simp [go_sem, *], by simp [go_sem, *], rfl⟩⟩
def trimR (p : UInt8 → Bool) (l : List UInt8) : List UInt8 := (l.reverse.dropWhile p).reverse
theorem trimR_in (p : UInt8 → Bool) (l : List UInt8) (c : UInt8) (h : p c = true) : trimR p (l ++ [c]) = trimR p l := by simp [trimR, h]
theorem trimR_out (p : UInt8 → Bool) (l : List UInt8) (c : UInt8) (h : p c = false) : trimR p (l ++ [c]) = l ++ [c] := by simp [trimR, h]
theorem dw_all (p : UInt8 → Bool) : ∀ l : List UInt8, (l.dropWhile p).all p = l.all p
  | [] => rfl
  | x :: t => by
    rw [List.dropWhile_cons]
    cases hx : p x
    · rfl
    · simp [hx, dw_all p t]
theorem dw_nil (p : UInt8 → Bool) : ∀ l : List UInt8, l.dropWhile p = [] ↔ l.all p = true
  | [] => by simp
  | x :: t => by
    rw [List.dropWhile_cons]
    cases hx : p x
    · simp [hx]
    · simp [hx, dw_nil p t]
theorem trim_all (p : UInt8 → Bool) (l : List UInt8) : ((trimR p l).dropWhile p = []) ↔ l.all p = true := by
  rw [dw_nil]
  unfold trimR
  rw [List.all_reverse, dw_all, List.all_reverse]
theorem gb_last (r : List UInt8) (c : UInt8) : gb (bOf (r ++ [c])) r.length = c := by simp [gb, bOf]
theorem right_ok {h : Hp} {b : Nat} {o : Ob} {l : List UInt8} (hb : h b = some o) (h1 : o.s = 256) (h2 : o.n = 1) (hf : ∀ k, k < 256 → o.f 0 k = setF l k) (s : List UInt8) (hs : s.length ≤ 1000) : PureAt Tryz.prog h 202 [S (bOf s), ptr b] (S (bOf (trimR l.contains s))) := by
  generalize hR : trimR l.contains s = R
  refine callK_body Tryz.func202 rfl (by rw [nt202]; simp) ?_; rw [nt202, rs202]
  (repeat' (first | simp [go_sem, X_region, *] | simp (disch := omega) only [om, *] | ((first | refine XC_split ?_ ?_ | refine XG_true ?_ ?_ | refine XG_false ?_ ?_ | refine XRg_true ?_ ?_ | refine XRg_false ?_ ?_) <;> intro hc <;> (try simp only [bl] at hc) <;> (try (exfalso; omega))) | refine XD_w [] [] [] (fun _ => none) mixed (by decide +kernel) (sub_none _) ?_ | (intro bk hbk; (try simp only [go_sem] at hbk))))
  refine X_lp (fun n T h' => ∃ (r : List UInt8), n = r.length ∧ r.length ≤ 1000 ∧ trimR l.contains r = R ∧ T 0 = S (bOf r) ∧ T 1 = ptr b ∧ h' = h) _ ⟨s, rfl, hs, hR, by simp [go_sem, *]⟩ ?_
  clear hR
  rintro J hJ n T h' ⟨r, rfl, hr, hR, t0, t1, rfl⟩
  have hsz := bOf_size r
  rcases List.eq_nil_or_concat r with rfl | ⟨r, c, rfl⟩
  · simp only [List.length_nil] at hsz
    (repeat' (first | simp [go_sem, X_region, *] | simp (disch := omega) only [om, *] | ((first | refine XC_split ?_ ?_ | refine XG_true ?_ ?_ | refine XG_false ?_ ?_ | refine XRg_true ?_ ?_ | refine XRg_false ?_ ?_) <;> intro hc <;> (try simp only [bl] at hc) <;> (try (exfalso; omega))) | refine XD_w [] [] [] (fun _ => none) mixed (by decide +kernel) (sub_none _) ?_ | (intro bk hbk; (try simp only [go_sem] at hbk))))
    all_goals (subst hR; exact Wk.of_eq rfl)
  · simp only [List.concat_eq_append] at *
    simp only [List.length_append, List.length_cons, List.length_nil] at hsz hr ⊢
    have hg := gb_last r c
    have hx1 : (bOf (r ++ [c])).extract 0 r.length = bOf r := by simpa using bOf_extract (r ++ [c]) 0 r.length
    have hh := has_ok hb h1 h2 hf c
    cases hc : l.contains c
    · rw [hc] at hh
      (repeat' (first | simp [go_sem, X_region, *] | simp (disch := omega) only [om, *] | ((first | refine XC_split ?_ ?_ | refine XG_true ?_ ?_ | refine XG_false ?_ ?_ | refine XRg_true ?_ ?_ | refine XRg_false ?_ ?_) <;> intro hc <;> (try simp only [bl] at hc) <;> (try (exfalso; omega))) | refine XD_w [] [] [] (fun _ => none) mixed (by decide +kernel) (sub_none _) ?_ | refine Pure.call (hh) ?_ | refine ⟨_, Pure.at (hh), ?_⟩ | refine ⟨_, hh, ?_⟩ | refine PureAt.call (hh) ?_ | (intro bk hbk; (try simp only [go_sem] at hbk))))
      all_goals (rw [trimR_out _ _ _ hc] at hR; subst hR; exact Wk.of_eq rfl)
    · rw [hc] at hh
      (repeat' (first | simp [go_sem, X_region, *] | simp (disch := omega) only [om, *] | ((first | refine XC_split ?_ ?_ | refine XG_true ?_ ?_ | refine XG_false ?_ ?_ | refine XRg_true ?_ ?_ | refine XRg_false ?_ ?_) <;> intro hc <;> (try simp only [bl] at hc) <;> (try (exfalso; omega))) | refine XD_w [] [] [] (fun _ => none) mixed (by decide +kernel) (sub_none _) ?_ | refine Pure.call (hh) ?_ | refine ⟨_, Pure.at (hh), ?_⟩ | refine ⟨_, hh, ?_⟩ | refine PureAt.call (hh) ?_ | (intro bk hbk; (try simp only [go_sem] at hbk))))
      exact ⟨r.length, by omega, hJ.out _ _ _ ⟨r, rfl, by omega, by rw [← hR, trimR_in _ _ _ hc], by simp [go_sem, *], by simp [go_sem, *], rfl⟩⟩
def innerB : ByteArray := ⟨#[97, 98, 99, 100, 101, 102, 103, 104, 105, 106, 107, 108, 109, 110, 111, 112, 113, 114, 115, 116, 117, 118, 119, 120, 121, 122, 48, 49, 50, 51, 52, 53, 54, 55, 56, 57, 45]⟩
theorem innerB_asc : ∀ c ∈ innerB.data.toList, c.toNat < 128 := by decide +kernel
theorem trim_ok (s : List UInt8) (hs : s.length ≤ 1000) : Pure Tryz.prog 131 [S (bOf s), S ⟨#[97, 98, 99, 100, 101, 102, 103, 104, 105, 106, 107, 108, 109, 110, 111, 112, 113, 114, 115, 116, 117, 118, 119, 120, 121, 122, 48, 49, 50, 51, 52, 53, 54, 55, 56, 57, 45]⟩] (S (bOf ((trimR innerB.data.toList.contains s).dropWhile innerB.data.toList.contains))) := by
  have hm : Pure Tryz.prog 200 [S ⟨#[97, 98, 99, 100, 101, 102, 103, 104, 105, 106, 107, 108, 109, 110, 111, 112, 113, 114, 115, 116, 117, 118, 119, 120, 121, 122, 48, 49, 50, 51, 52, 53, 54, 55, 56, 57, 45]⟩] (tup2 (.agg 256 (setF innerB.data.toList)) (B true)) := makeset_ok innerB (by decide) innerB_asc
  have hle : (trimR innerB.data.toList.contains s).length ≤ 1000 := by
    have := (List.dropWhile_sublist (l := s.reverse) innerB.data.toList.contains).length_le
    simp only [trimR, List.length_reverse] at this ⊢
    omega
  generalize innerB.data.toList = L at *
  intro h; refine callK_body Tryz.func131 rfl (by rw [nt131]; simp) ?_; rw [nt131, rs131]
  rcases s with _ | ⟨c, r⟩
  · have hb0 : bOf [] = ⟨#[]⟩ := rfl
    (repeat' (first | simp [go_sem, X_region, *] | simp (disch := omega) only [om, *] | ((first | refine XC_split ?_ ?_ | refine XG_true ?_ ?_ | refine XG_false ?_ ?_ | refine XRg_true ?_ ?_ | refine XRg_false ?_ ?_) <;> intro hc <;> (try simp only [bl] at hc) <;> (try (exfalso; omega))) | refine XD_w [] [] [] (fun _ => none) mixed (by decide +kernel) (sub_none _) ?_ | (intro bk hbk; (try simp only [go_sem] at hbk))))
    all_goals exact Wk.of_eq (by simp [trimR, hb0])
  · have hne := bOf_ne c r
    have hset : ∀ k, k < 256 → (fun (i' j' : Nat) => if i' = 0 ∧ j' < 256 then setF L j' else AV.any) 0 k = setF L k := fun k hk => by simp [hk]
    (repeat' (first | simp [go_sem, X_region, *] | simp (disch := omega) only [om, *] | ((first | refine XC_split ?_ ?_ | refine XG_true ?_ ?_ | refine XG_false ?_ ?_ | refine XRg_true ?_ ?_ | refine XRg_false ?_ ?_) <;> intro hc <;> (try simp only [bl] at hc) <;> (try (exfalso; omega))) | refine XD_w [] [] [] (fun _ => none) mixed (by decide +kernel) (sub_none _) ?_ | refine Pure.call (hm) ?_ | refine ⟨_, Pure.at (hm), ?_⟩ | refine ⟨_, hm, ?_⟩ | refine PureAt.call (hm) ?_ | fail))
    intro b hb
    refine PureAt.call (right_ok (b := b) (l := L) (upd_same _ _ _) rfl rfl (fun k hk => by simp [hk]) (c :: r) hs) ?_
    refine PureAt.call (left_ok (b := b) (l := L) (upd_same _ _ _) rfl rfl (fun k hk => by simp [hk]) _ hle) ?_
    exact Wk.drop _ (Sub.upd hb (Sub.refl _))
end Go.Proofs.YtmalhikcdideoaaGreatDoor

set_option linter.unusedVariables false
set_option linter.unusedSimpArgs false
namespace Go.Proofs.YtmalhikcdideoaaGreatDoor
open Go Sl
attribute [local irreducible] XRange LpQ XR XRo XRg XRQ putQ XFv XL XW2 wQ putW X XO XOp XH XHo XW SeqQ BlkQ XOQ XHQ NrmQ XC XM XG XHM XHG XD CallK
def nameF (s : ByteArray) : Bool := decide (0 < s.size ∧ s.size ≤ 20) && isLetter (gb s 0) && s.data.toList.all isInner && !isKey s
theorem wname_ok (s : ByteArray) (hs : s.size ≤ 140737488355328) : Pure Tryz.prog 55 [S s] (B (nameF s)) := by
  generalize hR : nameF s = R
  intro h; refine callK_body Tryz.func55 rfl (by rw [nt55]; simp) ?_; rw [nt55, rs55]
  by_cases hz : s = ⟨#[]⟩
  · subst hz
    (repeat' (first | simp [go_sem, X_region, *] | simp (disch := omega) only [om, *] | ((first | refine XC_split ?_ ?_ | refine XG_true ?_ ?_ | refine XG_false ?_ ?_ | refine XRg_true ?_ ?_ | refine XRg_false ?_ ?_) <;> intro hc <;> (try simp only [bl] at hc) <;> (try (exfalso; omega))) | refine XD_w [] [] [] (fun _ => none) mixed (by decide +kernel) (sub_none _) ?_ | fail))
    all_goals (subst hR; exact Wk.of_eq rfl)
  · have hpos : 0 < s.size := by
      rcases s with ⟨⟨l⟩⟩
      rcases l with _ | ⟨c, r⟩
      · exact absurd rfl hz
      · simp [ByteArray.size]
    by_cases hbig : 20 < s.size
    · (repeat' (first | simp [go_sem, X_region, *] | simp (disch := omega) only [om, *] | ((first | refine XC_split ?_ ?_ | refine XG_true ?_ ?_ | refine XG_false ?_ ?_ | refine XRg_true ?_ ?_ | refine XRg_false ?_ ?_) <;> intro hc <;> (try simp only [bl] at hc) <;> (try (exfalso; omega))) | refine XD_w [] [] [] (fun _ => none) mixed (by decide +kernel) (sub_none _) ?_ | fail))
      all_goals (subst hR; exact Wk.of_eq (by simp [nameF, show ¬ s.size ≤ 20 by omega]))
    · have hlt := letter_ok (gb s 0)
      cases hl : isLetter (gb s 0)
      · rw [hl] at hlt
        (repeat' (first | simp [go_sem, X_region, *] | simp (disch := omega) only [om, *] | ((first | refine XC_split ?_ ?_ | refine XG_true ?_ ?_ | refine XG_false ?_ ?_ | refine XRg_true ?_ ?_ | refine XRg_false ?_ ?_) <;> intro hc <;> (try simp only [bl] at hc) <;> (try (exfalso; omega))) | refine XD_w [] [] [] (fun _ => none) mixed (by decide +kernel) (sub_none _) ?_ | refine Pure.call (hlt) ?_ | refine ⟨_, Pure.at (hlt), ?_⟩ | refine ⟨_, hlt, ?_⟩ | refine PureAt.call (hlt) ?_ | fail))
        all_goals (subst hR; exact Wk.of_eq (by simp [nameF, hl]))
      · rw [hl] at hlt
        have hb := bs_ok keysB s (by decide)
        rw [foundB_mem _ _ keys_rising, show (keysB.any fun k => decide (s = k)) = isKey s from rfl] at hb
        have hR2 : (s.data.toList.all isInner && !isKey s) = R := by rw [← hR]; simp [nameF, hl, hpos, show s.size ≤ 20 by omega]
        clear hR
        (repeat' (first | simp [go_sem, X_region, *] | simp (disch := omega) only [om, *] | ((first | refine XC_split ?_ ?_ | refine XG_true ?_ ?_ | refine XG_false ?_ ?_ | refine XRg_true ?_ ?_ | refine XRg_false ?_ ?_) <;> intro hc <;> (try simp only [bl] at hc) <;> (try (exfalso; omega))) | refine XD_w [] [] [] (fun _ => none) mixed (by decide +kernel) (sub_none _) ?_ | refine Pure.call (hlt) ?_ | refine ⟨_, Pure.at (hlt), ?_⟩ | refine ⟨_, hlt, ?_⟩ | refine PureAt.call (hlt) ?_ | fail))
        refine X_lp (fun n T h' => ∃ (i : Nat) (r : List UInt8), n = r.length ∧ i ≤ s.size ∧ s.data.toList.drop i = r ∧ (r.all isInner && !isKey s) = R ∧ T 0 = S s ∧ T 21 = I i ∧ T 20 = I s.size ∧ h' = h) _ ⟨0, _, rfl, by omega, rfl, hR2, by simp [go_sem], by simp [go_sem], by simp [go_sem], rfl⟩ ?_
        clear hR2
        rintro J hJ n T h' ⟨i, r, rfl, hi, hd, hR, t0, t1, t2, rfl⟩
        rcases r with _ | ⟨c, r⟩
        · have hnl := str_nil hd
          (repeat' (first | simp [go_sem, X_region, *] | simp (disch := omega) only [om, *] | ((first | refine XC_split ?_ ?_ | refine XG_true ?_ ?_ | refine XG_false ?_ ?_ | refine XRg_true ?_ ?_ | refine XRg_false ?_ ?_) <;> intro hc <;> (try simp only [bl] at hc) <;> (try (exfalso; omega))) | refine XD_w [] [] [] (fun _ => none) mixed (by decide +kernel) (sub_none _) ?_ | refine Pure.call (keys_ok) ?_ | refine ⟨_, Pure.at (keys_ok), ?_⟩ | refine ⟨_, keys_ok, ?_⟩ | refine PureAt.call (keys_ok) ?_ | refine Pure.call (hb) ?_ | refine ⟨_, Pure.at (hb), ?_⟩ | refine ⟨_, hb, ?_⟩ | refine PureAt.call (hb) ?_ | fail))
          all_goals (subst hR; exact Wk.of_eq (by simp))
        · obtain ⟨hlt2, hg, hd2⟩ := str_cons hd
          have hi2 := inner_ok c
          cases hc : isInner c
          · rw [hc] at hi2
            (repeat' (first | simp [go_sem, X_region, *] | simp (disch := omega) only [om, *] | ((first | refine XC_split ?_ ?_ | refine XG_true ?_ ?_ | refine XG_false ?_ ?_ | refine XRg_true ?_ ?_ | refine XRg_false ?_ ?_) <;> intro hc <;> (try simp only [bl] at hc) <;> (try (exfalso; omega))) | refine XD_w [] [] [] (fun _ => none) mixed (by decide +kernel) (sub_none _) ?_ | refine Pure.call (hi2) ?_ | refine ⟨_, Pure.at (hi2), ?_⟩ | refine ⟨_, hi2, ?_⟩ | refine PureAt.call (hi2) ?_ | fail))
            all_goals (subst hR; exact Wk.of_eq (by simp [hc]))
          · rw [hc] at hi2
            (repeat' (first | simp [go_sem, X_region, *] | simp (disch := omega) only [om, *] | ((first | refine XC_split ?_ ?_ | refine XG_true ?_ ?_ | refine XG_false ?_ ?_ | refine XRg_true ?_ ?_ | refine XRg_false ?_ ?_) <;> intro hc <;> (try simp only [bl] at hc) <;> (try (exfalso; omega))) | refine XD_w [] [] [] (fun _ => none) mixed (by decide +kernel) (sub_none _) ?_ | refine Pure.call (hi2) ?_ | refine ⟨_, Pure.at (hi2), ?_⟩ | refine ⟨_, hi2, ?_⟩ | refine PureAt.call (hi2) ?_ | fail))
            exact ⟨r.length, by omega, hJ.out _ _ _ ⟨i + 1, r, rfl, by omega, hd2, by rw [← hR]; simp [hc], by simp [go_sem, *], by simp [go_sem, *], by simp [go_sem, *], rfl⟩⟩
theorem rune_ok (c : UInt8) : Pure Tryz.prog 133 [.v (.int .i32 c.toNat)] (B (!isInner c)) := by
  intro h; refine callK_body Tryz.func133 rfl (by rw [nt133]; simp) ?_; rw [nt133, rs133]
  ((repeat' (first | simp [go_sem, X_region, *] | simp (disch := omega) only [om, *] | ((first | refine XC_split ?_ ?_ | refine XG_true ?_ ?_ | refine XG_false ?_ ?_ | refine XRg_true ?_ ?_ | refine XRg_false ?_ ?_) <;> intro hc <;> (try simp only [bl] at hc) <;> (try (exfalso; omega))) | refine XD_w [] [] [] (fun _ => none) mixed (by decide +kernel) (sub_none _) ?_ | (intro bk hbk; (try simp only [go_sem] at hbk)))); all_goals (refine Wk.fin (by repeat (first | exact Sub.refl _ | refine Sub.upd (by simp [*]) ?_)) ?_; first | (simp [isInner, isLetter, isDigit, *]; done) | (simp only [isInner, isLetter, isDigit]; (repeat' (first | split | rfl | omega | (simp_all; done))); done) | (simp [isInner, isLetter, isDigit, *]; (repeat' (first | split | omega | (rw [Bool.eq_iff_iff]; simp; omega))); done) | (simp [isInner, isLetter, isDigit, *])))
theorem decode_asc (s : ByteArray) (i : Nat) (c : UInt8) (h : gb s i = c) (hi : i < s.size) (hc : c.toNat < 128) : Utf8.decode s i = (c.toNat, 1) := by
  have e : s.get! i = c := by
    rw [← h]
    rcases s with ⟨⟨l⟩⟩
    simp only [ByteArray.size, List.size_toArray] at hi
    simp [ByteArray.get!, gb, hi]
  unfold Utf8.decode
  simp [e, hc]
theorem idxfn_ok (s : ByteArray) (hs : s.size ≤ 1000) (ha : ∀ c ∈ s.data.toList, isInner c = true) : Pure Tryz.prog 261 [S s, .v (.func (.func 133) #[] #[]), B true] (I (-1)) := by
  intro h; refine callK_body Tryz.func261 rfl (by rw [nt261]; simp) ?_; rw [nt261, rs261]
  (repeat' (first | simp [go_sem, X_region, *] | simp (disch := omega) only [om, *] | ((first | refine XC_split ?_ ?_ | refine XG_true ?_ ?_ | refine XG_false ?_ ?_ | refine XRg_true ?_ ?_ | refine XRg_false ?_ ?_) <;> intro hc <;> (try simp only [bl] at hc) <;> (try (exfalso; omega))) | refine XD_w [] [] [] (fun _ => none) mixed (by decide +kernel) (sub_none _) ?_ | fail))
  intro b hb
  refine X_lp (fun n T h2 => ∃ (i : Nat) (r : List UInt8), n = r.length ∧ i ≤ s.size ∧ s.data.toList.drop i = r ∧ T 1 = .v (.func (.func 133) #[] #[]) ∧ T 2 = B true ∧ T 10 = ptr b ∧ h2 = upd h b (some (sitOb s i))) _ ⟨0, _, rfl, by omega, rfl, by simp [go_sem], by simp [go_sem], by simp [go_sem], rfl⟩ ?_
  rintro J hJ n T h2 ⟨i, r, rfl, hi, hd, t1, t2, t10, rfl⟩
  rcases r with _ | ⟨c, r⟩
  · have hlt := str_nil hd
    (repeat' (first | simp [go_sem, X_region, *] | simp (disch := omega) only [om, *] | ((first | refine XC_split ?_ ?_ | refine XG_true ?_ ?_ | refine XG_false ?_ ?_ | refine XRg_true ?_ ?_ | refine XRg_false ?_ ?_) <;> intro hc <;> (try simp only [bl] at hc) <;> (try (exfalso; omega))) | refine XD_w [] [] [] (fun _ => none) mixed (by decide +kernel) (sub_none _) ?_ | fail))
    refine X_next (by simp [go_sem, *]) (upd_same _ _ _) (fun hp => absurd hp hlt) fun _ => ?_
    (repeat' (first | simp [go_sem, X_region, *] | simp (disch := omega) only [om, *] | ((first | refine XC_split ?_ ?_ | refine XG_true ?_ ?_ | refine XG_false ?_ ?_ | refine XRg_true ?_ ?_ | refine XRg_false ?_ ?_) <;> intro hc <;> (try simp only [bl] at hc) <;> (try (exfalso; omega))) | refine XD_w [] [] [] (fun _ => none) mixed (by decide +kernel) (sub_none _) ?_ | fail))
    all_goals exact Wk.drop _ (Sub.upd hb (Sub.refl _))
  · obtain ⟨hlt, hg, hd2⟩ := str_cons hd
    have hc := ha c (List.mem_of_mem_drop (by rw [hd]; simp))
    have hasc : c.toNat < 128 := by
      simp only [isInner, isLetter, isDigit, Bool.or_eq_true, decide_eq_true_eq] at hc
      omega
    have hdec := decode_asc s i c hg hlt hasc
    have hr := rune_ok c
    rw [hc] at hr
    (repeat' (first | simp [go_sem, X_region, *] | simp (disch := omega) only [om, *] | ((first | refine XC_split ?_ ?_ | refine XG_true ?_ ?_ | refine XG_false ?_ ?_ | refine XRg_true ?_ ?_ | refine XRg_false ?_ ?_) <;> intro hc <;> (try simp only [bl] at hc) <;> (try (exfalso; omega))) | refine XD_w [] [] [] (fun _ => none) mixed (by decide +kernel) (sub_none _) ?_ | fail))
    refine X_next (by simp [go_sem, *]) (upd_same _ _ _) (fun _ => ?_) fun hp => absurd hlt hp
    rw [hdec]
    (repeat' (first | simp [go_sem, X_region, *] | simp (disch := omega) only [om, *] | ((first | refine XC_split ?_ ?_ | refine XG_true ?_ ?_ | refine XG_false ?_ ?_ | refine XRg_true ?_ ?_ | refine XRg_false ?_ ?_) <;> intro hc <;> (try simp only [bl] at hc) <;> (try (exfalso; omega))) | refine XD_w [] [] [] (fun _ => none) mixed (by decide +kernel) (sub_none _) ?_ | refine Pure.call (hr) ?_ | refine ⟨_, Pure.at (hr), ?_⟩ | refine ⟨_, hr, ?_⟩ | refine PureAt.call (hr) ?_ | fail))
    exact ⟨r.length, by omega, hJ.out _ _ _ ⟨i + 1, r, rfl, by omega, hd2, by simp [go_sem, *], by simp [go_sem, *], by simp [go_sem, *], rfl⟩⟩
theorem cfn_ok (s : ByteArray) (hs : s.size ≤ 1000) (ha : ∀ c ∈ s.data.toList, isInner c = true) : Pure Tryz.prog 132 [S s, .v (.func (.func 133) #[] #[])] (B false) := by
  have h1 : Pure Tryz.prog 205 [S s, .v (.func (.func 133) #[] #[])] (I (-1)) := by
    have h0 := idxfn_ok s hs ha
    intro h; refine callK_body Tryz.func205 rfl (by rw [nt205]; simp) ?_; rw [nt205, rs205]
    ((repeat' (first | simp [go_sem, X_region, *] | simp (disch := omega) only [om, *] | ((first | refine XC_split ?_ ?_ | refine XG_true ?_ ?_ | refine XG_false ?_ ?_ | refine XRg_true ?_ ?_ | refine XRg_false ?_ ?_) <;> intro hc <;> (try simp only [bl] at hc) <;> (try (exfalso; omega))) | refine XD_w [] [] [] (fun _ => none) mixed (by decide +kernel) (sub_none _) ?_ | refine Pure.call (h0) ?_ | refine ⟨_, Pure.at (h0), ?_⟩ | refine ⟨_, h0, ?_⟩ | refine PureAt.call (h0) ?_ | (intro bk hbk; (try simp only [go_sem] at hbk)))); all_goals (refine Wk.fin (by repeat (first | exact Sub.refl _ | refine Sub.upd (by simp [*]) ?_)) ?_; first | (simp [*]; done) | (simp only []; (repeat' (first | split | rfl | omega | (simp_all; done))); done) | (simp [*]; (repeat' (first | split | omega | (rw [Bool.eq_iff_iff]; simp; omega))); done) | (simp [*])))
  intro h; refine callK_body Tryz.func132 rfl (by rw [nt132]; simp) ?_; rw [nt132, rs132]
  ((repeat' (first | simp [go_sem, X_region, *] | simp (disch := omega) only [om, *] | ((first | refine XC_split ?_ ?_ | refine XG_true ?_ ?_ | refine XG_false ?_ ?_ | refine XRg_true ?_ ?_ | refine XRg_false ?_ ?_) <;> intro hc <;> (try simp only [bl] at hc) <;> (try (exfalso; omega))) | refine XD_w [] [] [] (fun _ => none) mixed (by decide +kernel) (sub_none _) ?_ | refine Pure.call (h1) ?_ | refine ⟨_, Pure.at (h1), ?_⟩ | refine ⟨_, h1, ?_⟩ | refine PureAt.call (h1) ?_ | (intro bk hbk; (try simp only [go_sem] at hbk)))); all_goals (refine Wk.fin (by repeat (first | exact Sub.refl _ | refine Sub.upd (by simp [*]) ?_)) ?_; first | (simp [*]; done) | (simp only []; (repeat' (first | split | rfl | omega | (simp_all; done))); done) | (simp [*]; (repeat' (first | split | omega | (rw [Bool.eq_iff_iff]; simp; omega))); done) | (simp [*])))
theorem inner_in (c : UInt8) : innerB.data.toList.contains c = isInner c := set_inner c
theorem rname_ok (s : ByteArray) : Pure Tryz.prog 57 [S s] (B (nameF s)) := by
  generalize hR : nameF s = R
  intro h; refine callK_body Tryz.func57 rfl (by rw [nt57]; simp) ?_; rw [nt57, rs57]
  by_cases hz : s = ⟨#[]⟩
  · subst hz
    (repeat' (first | simp [go_sem, X_region, *] | simp (disch := omega) only [om, *] | ((first | refine XC_split ?_ ?_ | refine XG_true ?_ ?_ | refine XG_false ?_ ?_ | refine XRg_true ?_ ?_ | refine XRg_false ?_ ?_) <;> intro hc <;> (try simp only [bl] at hc) <;> (try (exfalso; omega))) | refine XD_w [] [] [] (fun _ => none) mixed (by decide +kernel) (sub_none _) ?_ | fail))
    all_goals (subst hR; exact Wk.of_eq rfl)
  · have hpos : 0 < s.size := by
      rcases s with ⟨⟨l⟩⟩
      rcases l with _ | ⟨c, r⟩
      · exact absurd rfl hz
      · simp [ByteArray.size]
    by_cases hbig : 20 < s.size
    · (repeat' (first | simp [go_sem, X_region, *] | simp (disch := omega) only [om, *] | ((first | refine XC_split ?_ ?_ | refine XG_true ?_ ?_ | refine XG_false ?_ ?_ | refine XRg_true ?_ ?_ | refine XRg_false ?_ ?_) <;> intro hc <;> (try simp only [bl] at hc) <;> (try (exfalso; omega))) | refine XD_w [] [] [] (fun _ => none) mixed (by decide +kernel) (sub_none _) ?_ | fail))
      all_goals (subst hR; exact Wk.of_eq (by simp [nameF, show ¬ s.size ≤ 20 by omega]))
    · cases hl : isLetter (gb s 0)
      · have hl2 := hl
        simp only [isLetter, decide_eq_false_iff_not] at hl2
        (repeat' (first | simp [go_sem, X_region, *] | simp (disch := omega) only [om, *] | ((first | refine XC_split ?_ ?_ | refine XG_true ?_ ?_ | refine XG_false ?_ ?_ | refine XRg_true ?_ ?_ | refine XRg_false ?_ ?_) <;> intro hc <;> (try simp only [bl] at hc) <;> (try (exfalso; omega))) | refine XD_w [] [] [] (fun _ => none) mixed (by decide +kernel) (sub_none _) ?_ | fail))
        all_goals (subst hR; exact Wk.of_eq (by simp [nameF, hl]))
      · have hl2 := hl
        simp only [isLetter, decide_eq_true_eq] at hl2
        have hR2 : (s.data.toList.all isInner && !isKey s) = R := by rw [← hR]; simp [nameF, hl, hpos, show s.size ≤ 20 by omega]
        have hky : (keysB.any fun k => decide (s = k)) = isKey s := rfl
        have ht : Pure Tryz.prog 131 [S s, S ⟨#[97, 98, 99, 100, 101, 102, 103, 104, 105, 106, 107, 108, 109, 110, 111, 112, 113, 114, 115, 116, 117, 118, 119, 120, 121, 122, 48, 49, 50, 51, 52, 53, 54, 55, 56, 57, 45]⟩] (S (bOf ((trimR innerB.data.toList.contains s.data.toList).dropWhile innerB.data.toList.contains))) := by
          have := trim_ok s.data.toList (by simp; omega)
          rwa [show bOf s.data.toList = s from rfl] at this
        have hta := trim_all innerB.data.toList.contains s.data.toList
        rw [show (innerB.data.toList.contains : UInt8 → Bool) = isInner from funext inner_in] at hta ht
        generalize (trimR isInner s.data.toList).dropWhile isInner = tr at hta ht
        cases hall : s.data.toList.all isInner
        · have hne : ¬ bOf tr = ⟨#[]⟩ := fun e => by
            have : tr = [] := by
              rcases tr with _ | ⟨c, r⟩
              · rfl
              · exact absurd e (bOf_ne c r)
            rw [hta.1 this] at hall
            cases hall
          rw [hall] at hR2
          (repeat' (first | simp [go_sem, X_region, *] | simp (disch := omega) only [om, *] | ((first | refine XC_split ?_ ?_ | refine XG_true ?_ ?_ | refine XG_false ?_ ?_ | refine XRg_true ?_ ?_ | refine XRg_false ?_ ?_) <;> intro hc <;> (try simp only [bl] at hc) <;> (try (exfalso; omega))) | refine XD_w [] [] [] (fun _ => none) mixed (by decide +kernel) (sub_none _) ?_ | refine Pure.call (ht) ?_ | refine ⟨_, Pure.at (ht), ?_⟩ | refine ⟨_, ht, ?_⟩ | refine PureAt.call (ht) ?_ | fail))
          all_goals (subst hR2; exact Wk.of_eq rfl)
        · have he : bOf tr = ⟨#[]⟩ := by rw [hta.2 hall]; rfl
          have hcf := cfn_ok s (by omega) (fun c hc => List.all_eq_true.1 hall c hc)
          rw [hall] at hR2
          rw [he] at ht
          (repeat' (first | simp [go_sem, X_region, *] | simp (disch := omega) only [om, *] | ((first | refine XC_split ?_ ?_ | refine XG_true ?_ ?_ | refine XG_false ?_ ?_ | refine XRg_true ?_ ?_ | refine XRg_false ?_ ?_) <;> intro hc <;> (try simp only [bl] at hc) <;> (try (exfalso; omega))) | refine XD_w [] [] [] (fun _ => none) mixed (by decide +kernel) (sub_none _) ?_ | refine Pure.call (ht) ?_ | refine ⟨_, Pure.at (ht), ?_⟩ | refine ⟨_, ht, ?_⟩ | refine PureAt.call (ht) ?_ | refine Pure.call (hcf) ?_ | refine ⟨_, Pure.at (hcf), ?_⟩ | refine ⟨_, hcf, ?_⟩ | refine PureAt.call (hcf) ?_ | refine Pure.call (reserved_ok) ?_ | refine ⟨_, Pure.at (reserved_ok), ?_⟩ | refine ⟨_, reserved_ok, ?_⟩ | refine PureAt.call (reserved_ok) ?_ | refine Pure.call (contains_ok s keysB) ?_ | refine ⟨_, Pure.at (contains_ok s keysB), ?_⟩ | refine ⟨_, contains_ok s keysB, ?_⟩ | refine PureAt.call (contains_ok s keysB) ?_ | fail))
          all_goals (subst hR2; exact Wk.of_eq (by simp))
end Go.Proofs.YtmalhikcdideoaaGreatDoor

set_option linter.unusedVariables false
set_option linter.unusedSimpArgs false
namespace Go.Proofs.YtmalhikcdideoaaGreatDoor
open Go Sl
attribute [local irreducible] XRange LpQ XR XRo XRg XRQ putQ XFv XL XW2 wQ putW X XO XOp XH XHo XW SeqQ BlkQ XOQ XHQ NrmQ XC XM XG XHM XHG XD CallK
open Go.RowKit
def lit1 : Nd := ⟨0, [], 5, 1, ⟨#[]⟩⟩
end Go.Proofs.YtmalhikcdideoaaGreatDoor

set_option linter.unusedVariables false
set_option linter.unusedSimpArgs false
namespace Go.Proofs.YtmalhikcdideoaaGreatDoor
open Go Sl
attribute [local irreducible] XRange LpQ XR XRo XRg XRQ putQ XFv XL XW2 wQ putW X XO XOp XH XHo XW SeqQ BlkQ XOQ XHQ NrmQ XC XM XG XHM XHG XD CallK
open Go.RowKit
inductive Tr where
  | mk (x : Nd) (kids : List Tr)
mutual
def cTr : Tr → List AV
  | .mk x ks => [I x.op, .v (.slice none 0 0), I x.kd, I x.n, S x.nm, .sl 6 ks.length (cTrL ks)]
def cTrL : List Tr → Nat → Nat → AV
  | [] => fun _ _ => .any
  | t :: r => fun i j => if i = 0 then (cTr t).getD j .any else cTrL r (i - 1) j
end
theorem cTrL_eq : ∀ ks : List Tr, cTrL ks = cellsL cTr ks
  | [] => by funext i j; simp [cTrL, cellsL]
  | t :: r => by
    funext i j
    rw [cTrL, cTrL_eq r]
    rcases i with _ | i
    · simp [cellsL]
    · simp [cellsL]
@[go_sem] theorem cTr_mk (x : Nd) (ks : List Tr) : cTr (.mk x ks) = [I x.op, .v (.slice none 0 0), I x.kd, I x.n, S x.nm, encL 6 cTr ks] := by
  rw [cTr, cTrL_eq]; rfl
@[go_sem] theorem cTr_len (t : Tr) : (cTr t).length = 6 := by
  obtain ⟨x, ks⟩ := t
  rw [cTr_mk]; rfl
mutual
def depthT : Tr → Int
  | .mk _ ks => depthL ks 0 + 1
def depthL : List Tr → Int → Int
  | [], m => m
  | t :: r, m => depthL r (max m (depthT t))
end
def nd0 : Nd := ⟨0, [], 0, 0, ⟨#[]⟩⟩
def bare (x : Nd) : Nd := { x with kids := [] }
def ndAt (e : List Nd) (p : Nat) : Nd := e.getD p nd0
/-- Kids stand ahead of their nodes. -/
structure Vd (e : List Nd) : Prop where
  out : ∀ (i : Nat) (x : Nd), e[i]? = some x → ∀ k ∈ x.kids, 0 ≤ k ∧ k < (i : Int)
theorem Vd.at {e : List Nd} (h : Vd e) (p : Nat) : ∀ k ∈ (ndAt e p).kids, 0 ≤ k ∧ k < (p : Int) := by
  unfold ndAt
  rw [List.getD_eq_getElem?_getD]
  cases hx : e[p]? with
  | none => intro k hk; cases hk
  | some x => exact h.out p x hx
end Go.Proofs.YtmalhikcdideoaaGreatDoor

set_option linter.unusedVariables false
set_option linter.unusedSimpArgs false
namespace Go.Proofs.YtmalhikcdideoaaGreatDoor
open Go Sl
attribute [local irreducible] XRange LpQ XR XRo XRg XRQ putQ XFv XL XW2 wQ putW X XO XOp XH XHo XW SeqQ BlkQ XOQ XHQ NrmQ XC XM XG XHM XHG XD CallK
open Go.RowKit
mutual
def sizeT : Tr → Int
  | .mk _ ks => sizeL ks + 1
def sizeL : List Tr → Int
  | [] => 0
  | t :: r => sizeT t + sizeL r
end
mutual
theorem sizeT_pos : ∀ t : Tr, 1 ≤ sizeT t
  | .mk _ ks => by rw [sizeT]; have := sizeL_pos ks; omega
theorem sizeL_pos : ∀ ts : List Tr, 0 ≤ sizeL ts
  | [] => by rw [sizeL]; omega
  | t :: r => by rw [sizeL]; have := sizeT_pos t; have := sizeL_pos r; omega
end
mutual
theorem depthT_le : ∀ t : Tr, 1 ≤ depthT t ∧ depthT t ≤ sizeT t
  | .mk _ ks => by
    rw [depthT, sizeT]
    have := depthL_le ks 0 (Int.le_refl _)
    have := sizeL_pos ks
    omega
theorem depthL_le : ∀ (ts : List Tr) (m : Int), 0 ≤ m → m ≤ depthL ts m ∧ depthL ts m ≤ max m (sizeL ts)
  | [], m, h => by rw [depthL, sizeL]; omega
  | t :: r, m, h => by
    rw [depthL, sizeL]
    have h1 := depthT_le t
    have h2 := depthL_le r (max m (depthT t)) (by omega)
    have h3 := sizeL_pos r
    omega
end
end Go.Proofs.YtmalhikcdideoaaGreatDoor

set_option linter.unusedVariables false
set_option linter.unusedSimpArgs false
namespace Go.Proofs.YtmalhikcdideoaaGreatDoor
open Go Sl
attribute [local irreducible] XRange LpQ XR XRo XRg XRQ putQ XFv XL XW2 wQ putW X XO XOp XH XHo XW SeqQ BlkQ XOQ XHQ NrmQ XC XM XG XHM XHG XD CallK
open Go.RowKit
def shN (d : Int) (x : Nd) : Nd := { x with kids := x.kids.map (· + d) }
mutual
def flatT : Tr → List Nd
  | .mk x ks => (flatL ks [] []).1 ++ [{ x with kids := (flatL ks [] []).2 }]
def flatL : List Tr → List Nd → List Int → List Nd × List Int
  | [], out, kids => (out, kids)
  | t :: r, out, kids => flatL r (out ++ (flatT t).map (shN out.length)) (kids ++ [((out ++ (flatT t).map (shN out.length)).length : Int) - 1])
end
mutual
theorem flatT_len : ∀ t : Tr, ((flatT t).length : Int) = sizeT t
  | .mk x ks => by
    rw [flatT, sizeT, List.length_append, List.length_singleton]
    have := flatL_len ks [] []
    simp only [List.length_nil] at this
    omega
theorem flatL_len : ∀ (ts : List Tr) (out : List Nd) (kids : List Int), ((flatL ts out kids).1.length : Int) = out.length + sizeL ts
  | [], out, kids => by rw [flatL, sizeL]; simp
  | t :: r, out, kids => by
    rw [flatL, sizeL, flatL_len r]
    have := flatT_len t
    rw [List.length_append, List.length_map]
    omega
end
end Go.Proofs.YtmalhikcdideoaaGreatDoor

set_option linter.unusedVariables false
set_option linter.unusedSimpArgs false
namespace Go.Proofs.YtmalhikcdideoaaGreatDoor
open Go Sl
attribute [local irreducible] XRange LpQ XR XRo XRg XRQ putQ XFv XL XW2 wQ putW X XO XOp XH XHo XW SeqQ BlkQ XOQ XHQ NrmQ XC XM XG XHM XHG XD CallK
open Go.RowKit
theorem own_other {h0 h : Hp} {a : AV} {e : TypeId} {s n b : Nat} {f : Nat → Nat → AV} {o1 o2 : Ob} (o : Own h0 h a e s n f) (hb : h0 b = some o1) : Own (upd h0 b (some o2)) (upd h b (some o2)) a e s n f := by
  refine o.other hb fun c hc hcb => ?_
  rcases o.2 with ⟨_, h1 | h1⟩ | ⟨gb, og, h1, h2, _⟩
  · rw [hc] at h1; cases h1
  · rw [hc] at h1; cases h1
  · rw [hc] at h1
    cases h1
    rw [hcb, hb] at h2
    cases h2
theorem upd_upd {α : Type} (T : Nat → α) (d : Nat) (x y : α) : upd (upd T d x) d y = upd T d y := by
  funext i
  by_cases h : i = d <;> simp [upd, h]
end Go.Proofs.YtmalhikcdideoaaGreatDoor

set_option linter.unusedVariables false
set_option linter.unusedSimpArgs false
namespace Go.Proofs.YtmalhikcdideoaaGreatDoor
open Go Sl
attribute [local irreducible] XRange LpQ XR XRo XRg XRQ putQ XFv XL XW2 wQ putW X XO XOp XH XHo XW SeqQ BlkQ XOQ XHQ NrmQ XC XM XG XHM XHG XD CallK
open Go.RowKit
end Go.Proofs.YtmalhikcdideoaaGreatDoor

namespace Go.Proofs
open Go.Shelf
def Tryz.laysM171_ren : Go.Shelf.Ren := ⟨fun | 171 => 73 | 243 => 143 | 246 => 210 | 283 => 264 | 284 => 265 | 285 => 266 | 286 => 267 | 129 => 164 | 317 => 284 | 318 => 285 | 319 => 286 | 320 => 287 | 337 => 296 | 338 => 297 | n => n, fun | 3 => 3 | 9 => 9 | 2 => 2 | 4 => 4 | 171 => 286 | 0 => 0 | 53 => 208 | 37 => 107 | 5 => 5 | 173 => 288 | 212 => 307 | 51 => 206 | 20 => 20 | 213 => 308 | 46 => 135 | 232 => 329 | 233 => 330 | n => n, fun | 17 => 5 | 18 => 8 | 19 => 9 | n => n⟩
theorem Tryz.laysM171 : Go.Proofs.LaysM.n171 Tryz.prog Tryz.laysM171_ren := {
  mixed := by kernel_rfl
  f129 := Tryz.func164.trans (congrArg some (by kernel_rfl))
  f171 := Tryz.func73.trans (congrArg some (by kernel_rfl))
  f243 := Tryz.func143.trans (congrArg some (by kernel_rfl))
  f246 := Tryz.func210.trans (congrArg some (by kernel_rfl))
  f283 := Tryz.func264.trans (congrArg some (by kernel_rfl))
  f284 := Tryz.func265.trans (congrArg some (by kernel_rfl))
  f285 := Tryz.func266.trans (congrArg some (by kernel_rfl))
  f286 := Tryz.func267.trans (congrArg some (by kernel_rfl))
  f317 := Tryz.func284.trans (congrArg some (by kernel_rfl))
  f318 := Tryz.func285.trans (congrArg some (by kernel_rfl))
  f319 := Tryz.func286.trans (congrArg some (by kernel_rfl))
  f320 := Tryz.func287.trans (congrArg some (by kernel_rfl))
  f337 := Tryz.func296.trans (congrArg some (by kernel_rfl))
  f338 := Tryz.func297.trans (congrArg some (by kernel_rfl))
  t0 := Tryz.underlying0
  a0 := Tryz.isAgg0
  z0 := Tryz.sizeOf0
  v0 := Tryz.zeroValue0
  t2 := Tryz.underlying2
  a2 := Tryz.isAgg2
  z2 := Tryz.sizeOf2
  v2 := Tryz.zeroValue2
  t3 := Tryz.underlying3
  a3 := Tryz.isAgg3
  z3 := Tryz.sizeOf3
  v3 := Tryz.zeroValue3
  t4 := Tryz.underlying4
  a4 := Tryz.isAgg4
  z4 := Tryz.sizeOf4
  v4 := Tryz.zeroValue4
  t5 := Tryz.underlying5
  a5 := Tryz.isAgg5
  z5 := Tryz.sizeOf5
  v5 := Tryz.zeroValue5
  t9 := Tryz.underlying9
  a9 := Tryz.isAgg9
  z9 := Tryz.sizeOf9
  v9 := Tryz.zeroValue9
  t20 := Tryz.underlying20
  a20 := Tryz.isAgg20
  z20 := Tryz.sizeOf20
  v20 := Tryz.zeroValue20
  t37 := Tryz.underlying107
  a37 := Tryz.isAgg107
  z37 := Tryz.sizeOf107
  v37 := Tryz.zeroValue107
  t46 := Tryz.underlying135
  a46 := Tryz.isAgg135
  z46 := Tryz.sizeOf135
  v46 := Tryz.zeroValue135
  t51 := Tryz.underlying206
  a51 := Tryz.isAgg206
  z51 := Tryz.sizeOf206
  v51 := Tryz.zeroValue206
  t53 := Tryz.underlying208
  a53 := Tryz.isAgg208
  z53 := Tryz.sizeOf208
  v53 := Tryz.zeroValue208
  t171 := Tryz.underlying286
  a171 := Tryz.isAgg286
  z171 := Tryz.sizeOf286
  v171 := Tryz.zeroValue286
  t173 := Tryz.underlying288
  a173 := Tryz.isAgg288
  z173 := Tryz.sizeOf288
  v173 := Tryz.zeroValue288
  t212 := Tryz.underlying307
  a212 := Tryz.isAgg307
  z212 := Tryz.sizeOf307
  v212 := Tryz.zeroValue307
  t213 := Tryz.underlying308
  a213 := Tryz.isAgg308
  z213 := Tryz.sizeOf308
  t232 := Tryz.underlying329
  a232 := Tryz.isAgg329
  z232 := Tryz.sizeOf329
  v232 := Tryz.zeroValue329
  t233 := Tryz.underlying330
  a233 := Tryz.isAgg330
  z233 := Tryz.sizeOf330
  v233 := Tryz.zeroValue330
  g17 := by kernel_rfl
  g18 := by kernel_rfl
  g19 := by kernel_rfl
  i0 := by kernel_rfl
  i2 := by kernel_rfl
  i3 := by kernel_rfl
  i4 := by kernel_rfl
  i5 := by kernel_rfl
  i9 := by kernel_rfl
  i20 := by kernel_rfl
  i37 := by kernel_rfl
  i46 := by kernel_rfl
  i51 := by kernel_rfl
  i53 := by kernel_rfl
  i171 := by kernel_rfl
  i173 := by kernel_rfl
  i212 := by kernel_rfl
  i232 := by kernel_rfl
  i233 := by kernel_rfl
  m17 := by kernel_rfl
  m18 := by kernel_rfl
  m19 := by kernel_rfl }
end Go.Proofs

namespace Go.Proofs
open Go.Shelf
end Go.Proofs

set_option linter.unusedVariables false
set_option linter.unusedSimpArgs false
namespace Go.Proofs.YtmalhikcdideoaaGreatDoor
open Go Sl
attribute [local irreducible] XRange LpQ XR XRo XRg XRQ putQ XFv XL XW2 wQ putW X XO XOp XH XHo XW SeqQ BlkQ XOQ XHQ NrmQ XC XM XG XHM XHG XD CallK
open Go.RowKit
theorem vals_a {w : World} {h : Hp} {a : AV} {vals : Array Value} (ha : RdL w h [a] vals) : ∃ u, vals = #[u] ∧ Rd w h a u := by
  obtain ⟨u, e, r⟩ := ha.2 0 _ rfl
  refine ⟨u, ?_, r⟩
  have h1 := ha.1
  apply Array.ext
  · simpa using h1
  · intro i h2 h3
    match i, h3 with
    | 0, _ => rw [Array.getElem?_eq_getElem h2] at e; simpa using e
end Go.Proofs.YtmalhikcdideoaaGreatDoor

set_option linter.unusedVariables false
set_option linter.unusedSimpArgs false
namespace Go.Proofs.YtmalhikcdideoaaGreatDoor
open Go Sl
attribute [local irreducible] XRange LpQ XR XRo XRg XRQ putQ XFv XL XW2 wQ putW X XO XOp XH XHo XW SeqQ BlkQ XOQ XHQ NrmQ XC XM XG XHM XHG XD CallK
open Go.RowKit
open Classical in
/-- The heap without a slice of the call's own. -/
theorem own_hole {h0 h : Hp} {a : AV} {e : TypeId} {s n : Nat} {f : Nat → Nat → AV} (oa : Own h0 h a e s n f) : ∃ H : Hp, Own H h a e s n f ∧ Sub h0 H ∧ ∀ d od, h d = some od → a ≠ .row d s 0 n → H d = some od := by
  have hH : ∀ c oc, h0 c = some oc → ¬ a = .row c s 0 n := fun c oc hc ha => by
    rcases oa.2 with ⟨_, h1 | h1⟩ | ⟨gb, og, h1, h2, _⟩
    · rw [ha] at h1; cases h1
    · rw [ha] at h1; cases h1
    · rw [ha] at h1; cases h1; rw [hc] at h2; cases h2
  refine ⟨fun c => if a = .row c s 0 n then Option.none else h c, ⟨fun c oc hc => ?_, ?_⟩, fun c oc hc => ?_, fun d od hd hne => ?_⟩
  · simp only at hc
    split at hc
    · cases hc
    · exact hc
  · rcases oa.2 with h1 | ⟨gb, og, h1, h2, h3⟩
    · exact .inl h1
    · exact .inr ⟨gb, og, h1, by simp only [h1, if_true], h3⟩
  · simp only [if_neg (hH c oc hc)]
    exact oa.1 c oc hc
  · simp only [if_neg hne]
    exact hd
theorem own_up {h0 H h1 : Hp} {a : AV} {e : TypeId} {s n : Nat} {f : Nat → Nat → AV} (hS : Sub h0 H) (o : Own H h1 a e s n f) : Own h0 h1 a e s n f := by
  refine ⟨hS.trans o.1, ?_⟩
  rcases o.2 with h1 | ⟨gb, og, h1, h2, h3⟩
  · exact .inl h1
  · refine .inr ⟨gb, og, h1, ?_, h3⟩
    cases hx : h0 gb with
    | none => rfl
    | some oc => have := hS gb oc hx; rw [h2] at this; cases this
/-- Another slice is left alone. -/
theorem own_keep {h0 H h h1 : Hp} {a t : AV} {e' : TypeId} {s n s' m : Nat} {q : Nat → Nat → AV} (hS : Sub h0 H) (hk : ∀ d od, h d = some od → a ≠ .row d s 0 n → H d = some od) (h01 : Sub H h1) (o : Own h0 h t e' s' m q) (hd : ∀ c, a = .row c s 0 n → t = .row c s' 0 m → False) : Own h0 h1 t e' s' m q := by
  refine ⟨hS.trans h01, ?_⟩
  rcases o.2 with h1 | ⟨gb, og, h1, h2, h3, h4⟩
  · exact .inl h1
  · exact .inr ⟨gb, og, h1, h2, h01 _ _ (hk gb og h3 fun ha => hd gb ha h1), h4⟩
theorem own_apart {h0 H h h1 : Hp} {a a1 t : AV} {e e' : TypeId} {s n n1 s' m : Nat} {f1 q : Nat → Nat → AV} (hk : ∀ d od, h d = some od → a ≠ .row d s 0 n → H d = some od) (o1 : Own H h1 a1 e s n1 f1) (o : Own h0 h t e' s' m q) (hd : ∀ c, a = .row c s 0 n → t = .row c s' 0 m → False) : ∀ c, a1 = .row c s 0 n1 → t = .row c s' 0 m → False := by
  intro c hc hc'
  rcases o.2 with ⟨_, h1 | h1⟩ | ⟨gb, og, h1, h2, h3, h4⟩
  · rw [hc'] at h1; cases h1
  · rw [hc'] at h1; cases h1
  · rw [hc'] at h1
    cases h1
    have h5 := hk c og h3 fun ha => hd c ha hc'
    rcases o1.2 with ⟨_, h6 | h6⟩ | ⟨gb, og', h6, h7, _⟩
    · rw [hc] at h6; cases h6
    · rw [hc] at h6; cases h6
    · rw [hc] at h6
      cases h6
      rw [h7] at h5
      cases h5
/-- Slices of other elements are apart. -/
theorem own_apartT {h0 h0' h : Hp} {a t : AV} {e e' : TypeId} {s n s' m : Nat} {f q : Nat → Nat → AV} (oa : Own h0 h a e s n f) (ot : Own h0' h t e' s' m q) (hne : s ≠ s') : ∀ c, a = .row c s 0 n → t = .row c s' 0 m → False := by
  intro c hc hc'
  rcases oa.2 with ⟨_, h1 | h1⟩ | ⟨gb, og, h1, h2, h3, h4, _⟩
  · rw [hc] at h1; cases h1
  · rw [hc] at h1; cases h1
  · rcases ot.2 with ⟨_, h6 | h6⟩ | ⟨gb', og', h6, h7, h8, h9, _⟩
    · rw [hc'] at h6; cases h6
    · rw [hc'] at h6; cases h6
    · rw [hc] at h1
      rw [hc'] at h6
      cases h1
      cases h6
      rw [h3] at h8
      cases h8
      exact hne (h4.symm.trans h9)
theorem own_row {h0 h : Hp} {a : AV} {e : TypeId} {s n : Nat} {f : Nat → Nat → AV} (o : Own h0 h a e s n f) (hn : 0 < n) : ∃ d, a = .row d s 0 n := by
  rcases o.2 with ⟨h1, _⟩ | ⟨d, od, h1, _⟩
  · omega
  · exact ⟨d, h1⟩
end Go.Proofs.YtmalhikcdideoaaGreatDoor
