/- The plain law of TypesKinds: the program's look at a tree and the reference's agree, and so do the kinds. Tokens: what is specified, in plain Lean. The package word: what its functions return. Binary search in the keywords. The package word: keywords, one token, all tokens. The package word: all tokens. Go's library, as far as the tokens of the reference need it. strings.Fields at texts of single  -/
import Derived.Test.YtmalhikcdideoaaGreatDoorF0
import Derived.Lib.Bytealg
import Derived.Laws.Externs
import Derived.Lib.Hide
import Derived.Test.YtmalhikcdideoaaGreatDoorFactsB
import Derived.Lib.SlicesCompact
import Derived.Shelf.Strconv.Itoa3
import Derived.Shelf.Strings.Builder1
import Derived.Shelf.Sort.Plain
import Derived.Shelf.LaysM
import Derived.Ground.NamesProg
import Derived.Test.YtmalhikcdideoaaGreatDoorProg
import Derived.Shelf.Slices.CompactS
set_option linter.unusedVariables false
set_option linter.unusedSimpArgs false
namespace Go.Proofs.YtmalhikcdideoaaGreatDoor
open Go Sl
attribute [local irreducible] XRange LpQ XR XRo XRg XRQ putQ XFv XL XW2 wQ putW X XO XOp XH XHo XW SeqQ BlkQ XOQ XHQ NrmQ XC XM XG XHM XHG XD CallK
open Go.RowKit
end Go.Proofs.YtmalhikcdideoaaGreatDoor

set_option linter.unusedVariables false
set_option linter.unusedSimpArgs false
namespace Go.Proofs.YtmalhikcdideoaaGreatDoor
open Go Sl
attribute [local irreducible] XRange LpQ XR XRo XRg XRQ putQ XFv XL XW2 wQ putW X XO XOp XH XHo XW SeqQ BlkQ XOQ XHQ NrmQ XC XM XG XHM XHG XD CallK


def isLetter (c : UInt8) : Bool := decide (97 ≤ c.toNat ∧ c.toNat ≤ 122)
def isDigit (c : UInt8) : Bool := decide (48 ≤ c.toNat ∧ c.toNat ≤ 57)
def isInner (c : UInt8) : Bool := isLetter c || isDigit c || decide (c.toNat = 45)
def keysB : List ByteArray := [⟨#[97, 99, 116]⟩, ⟨#[97, 110, 100]⟩, ⟨#[97, 114, 116, 105, 99, 108, 101]⟩, ⟨#[97, 116, 45, 109, 111, 115, 116]⟩, ⟨#[97, 116, 116, 114, 105, 98, 117, 116, 101]⟩, ⟨#[98, 97, 115, 101]⟩, ⟨#[98, 101, 108, 111, 119]⟩, ⟨#[98, 111, 111, 108]⟩, ⟨#[99, 111, 117, 110, 116]⟩, ⟨#[100, 97, 116, 101]⟩, ⟨#[100, 97, 121, 115]⟩, ⟨#[100, 111, 119, 110]⟩, ⟨#[101, 108, 115, 101]⟩, ⟨#[101, 110, 97, 99, 116, 101, 100]⟩, ⟨#[101, 113, 117, 97, 108, 115]⟩, ⟨#[102, 97, 108, 115, 101]⟩, ⟨#[102, 114, 111, 109]⟩, ⟨#[103, 105, 118, 101, 115]⟩, ⟨#[103, 114, 101, 97, 116, 101, 115, 116]⟩, ⟨#[104, 97, 108, 102]⟩, ⟨#[104, 97, 108, 102, 45, 111, 117, 116]⟩, ⟨#[104, 97, 108, 102, 45, 116, 119, 111]⟩, ⟨#[105, 102]⟩, ⟨#[105, 110, 112, 117, 116]⟩, ⟨#[105, 115]⟩, ⟨#[108, 101, 97, 115, 116]⟩, ⟨#[108, 101, 118, 101, 108]⟩, ⟨#[109, 105, 110, 117, 115]⟩, ⟨#[109, 111, 110, 101, 121]⟩, ⟨#[110, 111, 116]⟩, ⟨#[110, 117, 109, 98, 101, 114]⟩, ⟨#[111, 102]⟩, ⟨#[111, 114]⟩, ⟨#[111, 118, 101, 114]⟩, ⟨#[112, 108, 117, 115]⟩, ⟨#[114, 111, 117, 110, 100]⟩, ⟨#[115, 99, 97, 108, 101]⟩, ⟨#[115, 104, 97, 114, 101]⟩, ⟨#[115, 108, 105, 99, 101, 115]⟩, ⟨#[116, 97, 98, 108, 101]⟩, ⟨#[116, 104, 101, 110]⟩, ⟨#[116, 105, 109, 101, 115]⟩, ⟨#[116, 111]⟩, ⟨#[116, 111, 116, 97, 108]⟩, ⟨#[116, 114, 117, 101]⟩, ⟨#[117, 112]⟩, ⟨#[119, 101, 105, 103, 104, 116]⟩, ⟨#[119, 104, 101, 110]⟩, ⟨#[121, 101, 97, 114, 115]⟩]
def isKey (s : ByteArray) : Bool := keysB.any fun k => decide (s = k)
/-- A token: its kind, its text, its line. -/
structure Tok where
  kind : Int
  text : ByteArray
  line : Int
deriving DecidableEq
@[go_sem] def cT (t : Tok) : List AV := [I t.kind, S t.text, I t.line]
end Go.Proofs.YtmalhikcdideoaaGreatDoor

set_option linter.unusedVariables false
set_option linter.unusedSimpArgs false
namespace Go.Proofs.YtmalhikcdideoaaGreatDoor
open Go Sl
attribute [local irreducible] XRange LpQ XR XRo XRg XRQ putQ XFv XL XW2 wQ putW X XO XOp XH XHo XW SeqQ BlkQ XOQ XHQ NrmQ XC XM XG XHM XHG XD CallK
theorem letter_ok (c : UInt8) : Pure Tryz.prog 126 [U8 c] (B (isLetter c)) := by
  intro h; refine callK_body Tryz.func126 rfl (by rw [nt126]; simp) ?_; rw [nt126, rs126]
  ((repeat' (first | simp [go_sem, X_region, *] | simp (disch := omega) only [om, *] | ((first | refine XC_split ?_ ?_ | refine XG_true ?_ ?_ | refine XG_false ?_ ?_ | refine XRg_true ?_ ?_ | refine XRg_false ?_ ?_) <;> intro hc <;> (try simp only [bl] at hc) <;> (try (exfalso; omega))) | refine XD_w [] [] [] (fun _ => none) mixed (by decide +kernel) (sub_none _) ?_ | (intro bk hbk; (try simp only [go_sem] at hbk)))); all_goals (refine Wk.fin (by repeat (first | exact Sub.refl _ | refine Sub.upd (by simp [*]) ?_)) ?_; first | (simp [isLetter, *]; done) | (simp only [isLetter]; (repeat' (first | split | rfl | omega | (simp_all; done))); done) | (simp [isLetter, *]; (repeat' (first | split | omega | (rw [Bool.eq_iff_iff]; simp; omega))); done) | (simp [isLetter, *])))
theorem digit_ok (c : UInt8) : Pure Tryz.prog 196 [U8 c] (B (isDigit c)) := by
  intro h; refine callK_body Tryz.func196 rfl (by rw [nt196]; simp) ?_; rw [nt196, rs196]
  ((repeat' (first | simp [go_sem, X_region, *] | simp (disch := omega) only [om, *] | ((first | refine XC_split ?_ ?_ | refine XG_true ?_ ?_ | refine XG_false ?_ ?_ | refine XRg_true ?_ ?_ | refine XRg_false ?_ ?_) <;> intro hc <;> (try simp only [bl] at hc) <;> (try (exfalso; omega))) | refine XD_w [] [] [] (fun _ => none) mixed (by decide +kernel) (sub_none _) ?_ | (intro bk hbk; (try simp only [go_sem] at hbk)))); all_goals (refine Wk.fin (by repeat (first | exact Sub.refl _ | refine Sub.upd (by simp [*]) ?_)) ?_; first | (simp [isDigit, *]; done) | (simp only [isDigit]; (repeat' (first | split | rfl | omega | (simp_all; done))); done) | (simp [isDigit, *]; (repeat' (first | split | omega | (rw [Bool.eq_iff_iff]; simp; omega))); done) | (simp [isDigit, *])))
theorem inner_ok (c : UInt8) : Pure Tryz.prog 127 [U8 c] (B (isInner c)) := by
  intro h; refine callK_body Tryz.func127 rfl (by rw [nt127]; simp) ?_; rw [nt127, rs127]
  ((repeat' (first | simp [go_sem, X_region, *] | simp (disch := omega) only [om, *] | ((first | refine XC_split ?_ ?_ | refine XG_true ?_ ?_ | refine XG_false ?_ ?_ | refine XRg_true ?_ ?_ | refine XRg_false ?_ ?_) <;> intro hc <;> (try simp only [bl] at hc) <;> (try (exfalso; omega))) | refine XD_w [] [] [] (fun _ => none) mixed (by decide +kernel) (sub_none _) ?_ | refine Pure.call (letter_ok c) ?_ | refine ⟨_, Pure.at (letter_ok c), ?_⟩ | refine ⟨_, letter_ok c, ?_⟩ | refine PureAt.call (letter_ok c) ?_ | refine Pure.call (digit_ok c) ?_ | refine ⟨_, Pure.at (digit_ok c), ?_⟩ | refine ⟨_, digit_ok c, ?_⟩ | refine PureAt.call (digit_ok c) ?_ | (intro bk hbk; (try simp only [go_sem] at hbk)))); all_goals (refine Wk.fin (by repeat (first | exact Sub.refl _ | refine Sub.upd (by simp [*]) ?_)) ?_; first | (simp [isInner, *]; done) | (simp only [isInner]; (repeat' (first | split | rfl | omega | (simp_all; done))); done) | (simp [isInner, *]; (repeat' (first | split | omega | (rw [Bool.eq_iff_iff]; simp; omega))); done) | (simp [isInner, *])))
theorem nan1_ok (s : ByteArray) : Pure Tryz.prog 225 [S s] (B false) := by
  intro h; refine callK_body Tryz.func225 rfl (by rw [nt225]; simp) ?_; rw [nt225, rs225]
  ((repeat' (first | simp [go_sem, X_region, *] | simp (disch := omega) only [om, *] | ((first | refine XC_split ?_ ?_ | refine XG_true ?_ ?_ | refine XG_false ?_ ?_ | refine XRg_true ?_ ?_ | refine XRg_false ?_ ?_) <;> intro hc <;> (try simp only [bl] at hc) <;> (try (exfalso; omega))) | refine XD_w [] [] [] (fun _ => none) mixed (by decide +kernel) (sub_none _) ?_ | (intro bk hbk; (try simp only [go_sem] at hbk)))); all_goals (refine Wk.fin (by repeat (first | exact Sub.refl _ | refine Sub.upd (by simp [*]) ?_)) ?_; first | (simp [*]; done) | (simp only []; (repeat' (first | split | rfl | omega | (simp_all; done))); done) | (simp [*]; (repeat' (first | split | omega | (rw [Bool.eq_iff_iff]; simp; omega))); done) | (simp [*])))
theorem nan2_ok (s : ByteArray) : Pure Tryz.prog 197 [S s] (B false) := by
  intro h; refine callK_body Tryz.func197 rfl (by rw [nt197]; simp) ?_; rw [nt197, rs197]
  ((repeat' (first | simp [go_sem, X_region, *] | simp (disch := omega) only [om, *] | ((first | refine XC_split ?_ ?_ | refine XG_true ?_ ?_ | refine XG_false ?_ ?_ | refine XRg_true ?_ ?_ | refine XRg_false ?_ ?_) <;> intro hc <;> (try simp only [bl] at hc) <;> (try (exfalso; omega))) | refine XD_w [] [] [] (fun _ => none) mixed (by decide +kernel) (sub_none _) ?_ | (intro bk hbk; (try simp only [go_sem] at hbk)))); all_goals (refine Wk.fin (by repeat (first | exact Sub.refl _ | refine Sub.upd (by simp [*]) ?_)) ?_; first | (simp [*]; done) | (simp only []; (repeat' (first | split | rfl | omega | (simp_all; done))); done) | (simp [*]; (repeat' (first | split | omega | (rw [Bool.eq_iff_iff]; simp; omega))); done) | (simp [*])))
theorem less_ok (a b : ByteArray) : Pure Tryz.prog 160 [S a, S b] (B (Op.bytesLess a.data.toList b.data.toList)) := by
  intro h; refine callK_body Tryz.func160 rfl (by rw [nt160]; simp) ?_; rw [nt160, rs160]
  ((repeat' (first | simp [go_sem, X_region, *] | simp (disch := omega) only [om, *] | ((first | refine XC_split ?_ ?_ | refine XG_true ?_ ?_ | refine XG_false ?_ ?_ | refine XRg_true ?_ ?_ | refine XRg_false ?_ ?_) <;> intro hc <;> (try simp only [bl] at hc) <;> (try (exfalso; omega))) | refine XD_w [] [] [] (fun _ => none) mixed (by decide +kernel) (sub_none _) ?_ | refine Pure.call (nan1_ok _) ?_ | refine ⟨_, Pure.at (nan1_ok _), ?_⟩ | refine ⟨_, nan1_ok _, ?_⟩ | refine PureAt.call (nan1_ok _) ?_ | (intro bk hbk; (try simp only [go_sem] at hbk)))); all_goals (refine Wk.fin (by repeat (first | exact Sub.refl _ | refine Sub.upd (by simp [*]) ?_)) ?_; first | (simp [*]; done) | (simp only []; (repeat' (first | split | rfl | omega | (simp_all; done))); done) | (simp [*]; (repeat' (first | split | omega | (rw [Bool.eq_iff_iff]; simp; omega))); done) | (simp [*])))
theorem gb_at {s : ByteArray} {i : Nat} {c : UInt8} {r : List UInt8} (h : s.data.toList.drop i = c :: r) : gb s i = c := by
  obtain ⟨h1, h2, _⟩ := drop_cons h
  unfold gb
  rw [List.getD_eq_getElem?_getD, List.getElem?_eq_getElem h1, h2]; rfl
theorem size_list (s : ByteArray) : s.data.toList.length = s.size := by simp
theorem str_nil {s : ByteArray} {i : Nat} (h : s.data.toList.drop i = []) : ¬ i < s.size := by
  have := drop_nil h
  rwa [size_list] at this
theorem str_cons {s : ByteArray} {i : Nat} {c : UInt8} {r : List UInt8} (h : s.data.toList.drop i = c :: r) : i < s.size ∧ gb s i = c ∧ s.data.toList.drop (i + 1) = r := by
  obtain ⟨h1, h2, h3⟩ := drop_cons h
  exact ⟨by rwa [size_list] at h1, gb_at h, h3⟩
end Go.Proofs.YtmalhikcdideoaaGreatDoor

set_option linter.unusedVariables false
set_option linter.unusedSimpArgs false
namespace Go.Proofs.YtmalhikcdideoaaGreatDoor
open Go Sl
attribute [local irreducible] XRange LpQ XR XRo XRg XRQ putQ XFv XL XW2 wQ putW X XO XOp XH XHo XW SeqQ BlkQ XOQ XHQ NrmQ XC XM XG XHM XHG XD CallK
theorem bl_irr : ∀ x : List UInt8, Op.bytesLess x x = false := by
  intro x
  induction x with
  | nil => rfl
  | cons a x ih =>
    unfold Op.bytesLess
    simp [ih]
theorem bl_asym : ∀ x y : List UInt8, Op.bytesLess x y = true → Op.bytesLess y x = false := by
  intro x
  induction x with
  | nil =>
    intro y h
    cases y with
    | nil => rfl
    | cons b y => rfl
  | cons a x ih =>
    intro y h
    cases y with
    | nil => simp [Op.bytesLess] at h
    | cons b y =>
      unfold Op.bytesLess at h ⊢
      simp only [Bool.or_eq_true, Bool.and_eq_true, decide_eq_true_eq, beq_iff_eq, Bool.or_eq_false_iff, decide_eq_false_iff_not, Bool.and_eq_false_iff, beq_eq_false_iff_ne] at h ⊢
      rcases h with h | ⟨rfl, h⟩
      · exact ⟨fun h2 => absurd (UInt8.lt_trans h h2) (UInt8.lt_irrefl _), .inl fun e => by subst e; exact UInt8.lt_irrefl _ h⟩
      · exact ⟨UInt8.lt_irrefl _, .inr (ih y h)⟩
/-- As the loop goes. -/
def bsF (l : List ByteArray) (s : ByteArray) (i j : Nat) : Nat :=
  if i < j then
    if Op.bytesLess (l.getD ((i + j) / 2) ⟨#[]⟩).data.toList s.data.toList = true then bsF l s ((i + j) / 2 + 1) j else bsF l s i ((i + j) / 2)
  else i
termination_by j - i
decreasing_by
  all_goals omega
def foundB (l : List ByteArray) (s : ByteArray) : Bool := decide (l[bsF l s 0 l.length]? = some s)
def Rising (l : List ByteArray) : Prop := ∀ i j, i < j → j < l.length → Op.bytesLess (l.getD i ⟨#[]⟩).data.toList (l.getD j ⟨#[]⟩).data.toList = true
theorem bsF_spec (l : List ByteArray) (s : ByteArray) (hl : Rising l) : ∀ (n i j : Nat), j - i = n → i ≤ j → j ≤ l.length → (∀ k, l[k]? = some s → i ≤ k ∧ k ≤ j) → bsF l s i j ≤ l.length ∧ ∀ k, l[k]? = some s → k = bsF l s i j := by
  intro n
  induction n using Nat.strongRecOn with
  | _ n ih =>
    intro i j hn hij hj hk
    rw [bsF]
    by_cases hlt : i < j
    · rw [if_pos hlt]
      have hm : (i + j) / 2 < l.length := by omega
      split
      · rename_i hb
        refine ih (j - ((i + j) / 2 + 1)) (by omega) _ _ rfl (by omega) hj fun k hs => ⟨?_, (hk k hs).2⟩
        refine Nat.lt_of_not_le fun hle => ?_
        have hkl : l.getD k ⟨#[]⟩ = s := by rw [List.getD_eq_getElem?_getD, hs]; rfl
        rcases Nat.lt_or_eq_of_le hle with h1 | h1
        · have := hl k _ h1 hm
          rw [hkl] at this
          rw [bl_asym _ _ this] at hb; cases hb
        · rw [← h1, hkl, bl_irr] at hb; cases hb
      · rename_i hb
        refine ih ((i + j) / 2 - i) (by omega) _ _ rfl (by omega) (by omega) fun k hs => ⟨(hk k hs).1, ?_⟩
        refine Nat.le_of_not_lt fun hgt => ?_
        have hkl : l.getD k ⟨#[]⟩ = s := by rw [List.getD_eq_getElem?_getD, hs]; rfl
        have hk2 : k < l.length := by
          have := (List.getElem?_eq_some_iff.1 hs).1
          exact this
        have := hl _ k hgt hk2
        rw [hkl] at this
        exact hb this
    · rw [if_neg hlt]
      exact ⟨by omega, fun k hs => by have := hk k hs; omega⟩
theorem foundB_mem (l : List ByteArray) (s : ByteArray) (hl : Rising l) : foundB l s = l.any fun k => decide (s = k) := by
  have hb := bsF_spec l s hl l.length 0 l.length (by omega) (by omega) (Nat.le_refl _) fun k hs => by
    have := (List.getElem?_eq_some_iff.1 hs).1
    omega
  rw [Bool.eq_iff_iff]
  unfold foundB
  simp only [decide_eq_true_eq, List.any_eq_true]
  constructor
  · intro h
    exact ⟨s, List.mem_of_getElem? h, rfl⟩
  · rintro ⟨x, hx, rfl⟩
    obtain ⟨k, hk⟩ := List.getElem?_of_mem hx
    rw [← hb.2 k hk]; exact hk
set_option maxRecDepth 100000 in
theorem keys_rising : Rising keysB := by
  have h : (List.range 49).all (fun j => (List.range j).all fun i => Op.bytesLess (keysB.getD i ⟨#[]⟩).data.toList (keysB.getD j ⟨#[]⟩).data.toList) = true := by decide +kernel
  intro i j hij hj
  have h1 := List.all_eq_true.1 h j (List.mem_range.2 hj)
  exact List.all_eq_true.1 h1 i (List.mem_range.2 hij)
theorem bs_ok (l : List ByteArray) (s : ByteArray) (hl : l.length ≤ 140737488355328) : Pure Tryz.prog 128 [encL 1 cS l, S s] (tup2 (I (bsF l s 0 l.length)) (B (foundB l s))) := by
  unfold foundB
  generalize hR : bsF l s 0 l.length = R
  intro h; refine callK_body Tryz.func128 rfl (by rw [nt128]; simp) ?_; rw [nt128, rs128]
  (repeat' (first | simp [go_sem, X_region, *] | simp (disch := omega) only [om, *] | ((first | refine XC_split ?_ ?_ | refine XG_true ?_ ?_ | refine XG_false ?_ ?_ | refine XRg_true ?_ ?_ | refine XRg_false ?_ ?_) <;> intro hc <;> (try simp only [bl] at hc) <;> (try (exfalso; omega))) | refine XD_w [] [] [] (fun _ => none) mixed (by decide +kernel) (sub_none _) ?_ | (intro bk hbk; (try simp only [go_sem] at hbk))))
  refine X_lp (fun n T h' => ∃ (i j : Nat), n = j - i ∧ i ≤ j ∧ j ≤ l.length ∧ bsF l s i j = R ∧ T 7 = I i ∧ T 8 = I j ∧ T 0 = encL 1 cS l ∧ T 1 = S s ∧ T 6 = I l.length ∧ h' = h) _ ⟨0, l.length, rfl, by omega, by omega, hR, by simp [go_sem], by simp [go_sem], by simp [go_sem], by simp [go_sem], by simp [go_sem], rfl⟩ ?_
  clear hR; rintro J hJ n T h' ⟨i, j, rfl, hij, hj, hR, h7, h8, h0, h1, h6, rfl⟩
  rw [bsF] at hR
  by_cases hlt : i < j
  · rw [if_pos hlt] at hR
    obtain ⟨m, hm, hmd⟩ : ∃ m : Nat, ((i : Int) + j) / 2 = m ∧ (i + j) / 2 = m := ⟨_, by omega, rfl⟩
    have hmm : i ≤ m ∧ m < j := by omega
    rw [hmd] at hR
    have hx : l[m]? = some l[m] := List.getElem?_eq_getElem (by omega)
    rw [List.getD_eq_getElem?_getD, hx, Option.getD_some] at hR
    cases hb : Op.bytesLess l[m].data.toList s.data.toList
    · rw [hb, if_neg (by simp)] at hR
      (repeat' (first | simp [go_sem, X_region, *] | simp (disch := omega) only [om, *] | ((first | refine XC_split ?_ ?_ | refine XG_true ?_ ?_ | refine XG_false ?_ ?_ | refine XRg_true ?_ ?_ | refine XRg_false ?_ ?_) <;> intro hc <;> (try simp only [bl] at hc) <;> (try (exfalso; omega))) | refine XD_w [] [] [] (fun _ => none) mixed (by decide +kernel) (sub_none _) ?_ | refine Pure.call (less_ok _ _) ?_ | refine ⟨_, Pure.at (less_ok _ _), ?_⟩ | refine ⟨_, less_ok _ _, ?_⟩ | refine PureAt.call (less_ok _ _) ?_ | (intro bk hbk; (try simp only [go_sem] at hbk))))
      exact ⟨_, by omega, hJ.out _ _ _ ⟨i, m, rfl, by omega, by omega, hR, by simp [go_sem, *], by simp [go_sem, *], by simp [go_sem, *], by simp [go_sem, *], by simp [go_sem, *], rfl⟩⟩
    · rw [hb, if_pos rfl] at hR
      (repeat' (first | simp [go_sem, X_region, *] | simp (disch := omega) only [om, *] | ((first | refine XC_split ?_ ?_ | refine XG_true ?_ ?_ | refine XG_false ?_ ?_ | refine XRg_true ?_ ?_ | refine XRg_false ?_ ?_) <;> intro hc <;> (try simp only [bl] at hc) <;> (try (exfalso; omega))) | refine XD_w [] [] [] (fun _ => none) mixed (by decide +kernel) (sub_none _) ?_ | refine Pure.call (less_ok _ _) ?_ | refine ⟨_, Pure.at (less_ok _ _), ?_⟩ | refine ⟨_, less_ok _ _, ?_⟩ | refine PureAt.call (less_ok _ _) ?_ | (intro bk hbk; (try simp only [go_sem] at hbk))))
      exact ⟨_, by omega, hJ.out _ _ _ ⟨m + 1, j, rfl, by omega, by omega, hR, by simp [go_sem, *], by simp [go_sem, *], by simp [go_sem, *], by simp [go_sem, *], by simp [go_sem, *], rfl⟩⟩
  · rw [if_neg hlt] at hR
    subst hR
    by_cases hi : i < l.length
    · have hx : l[i]? = some l[i] := List.getElem?_eq_getElem hi
      by_cases he : l[i] = s
      · (repeat' (first | simp [go_sem, X_region, *] | simp (disch := omega) only [om, *] | ((first | refine XC_split ?_ ?_ | refine XG_true ?_ ?_ | refine XG_false ?_ ?_ | refine XRg_true ?_ ?_ | refine XRg_false ?_ ?_) <;> intro hc <;> (try simp only [bl] at hc) <;> (try (exfalso; omega))) | refine XD_w [] [] [] (fun _ => none) mixed (by decide +kernel) (sub_none _) ?_ | refine Pure.call (nan2_ok _) ?_ | refine ⟨_, Pure.at (nan2_ok _), ?_⟩ | refine ⟨_, nan2_ok _, ?_⟩ | refine PureAt.call (nan2_ok _) ?_ | (intro bk hbk; (try simp only [go_sem] at hbk))))
      · (repeat' (first | simp [go_sem, X_region, *] | simp (disch := omega) only [om, *] | ((first | refine XC_split ?_ ?_ | refine XG_true ?_ ?_ | refine XG_false ?_ ?_ | refine XRg_true ?_ ?_ | refine XRg_false ?_ ?_) <;> intro hc <;> (try simp only [bl] at hc) <;> (try (exfalso; omega))) | refine XD_w [] [] [] (fun _ => none) mixed (by decide +kernel) (sub_none _) ?_ | refine Pure.call (nan2_ok _) ?_ | refine ⟨_, Pure.at (nan2_ok _), ?_⟩ | refine ⟨_, nan2_ok _, ?_⟩ | refine PureAt.call (nan2_ok _) ?_ | (intro bk hbk; (try simp only [go_sem] at hbk))))
    · (repeat' (first | simp [go_sem, X_region, *] | simp (disch := omega) only [om, *] | ((first | refine XC_split ?_ ?_ | refine XG_true ?_ ?_ | refine XG_false ?_ ?_ | refine XRg_true ?_ ?_ | refine XRg_false ?_ ?_) <;> intro hc <;> (try simp only [bl] at hc) <;> (try (exfalso; omega))) | refine XD_w [] [] [] (fun _ => none) mixed (by decide +kernel) (sub_none _) ?_ | refine Pure.call (nan2_ok _) ?_ | refine ⟨_, Pure.at (nan2_ok _), ?_⟩ | refine ⟨_, nan2_ok _, ?_⟩ | refine PureAt.call (nan2_ok _) ?_ | (intro bk hbk; (try simp only [go_sem] at hbk))))
end Go.Proofs.YtmalhikcdideoaaGreatDoor

set_option linter.unusedVariables false
set_option linter.unusedSimpArgs false
namespace Go.Proofs.YtmalhikcdideoaaGreatDoor
open Go Sl
attribute [local irreducible] XRange LpQ XR XRo XRg XRQ putQ XFv XL XW2 wQ putW X XO XOp XH XHo XW SeqQ BlkQ XOQ XHQ NrmQ XC XM XG XHM XHG XD CallK
theorem keys_ok : Pure Tryz.prog 129 [] (encL 1 cS keysB) := by
  intro h; refine callK_body Tryz.func129 rfl (by rw [nt129]; simp) ?_; rw [nt129, rs129]
  (repeat' (first | simp [go_sem, X_region, *] | simp (disch := omega) only [om, *] | ((first | refine XC_split ?_ ?_ | refine XG_true ?_ ?_ | refine XG_false ?_ ?_ | refine XRg_true ?_ ?_ | refine XRg_false ?_ ?_) <;> intro hc <;> (try simp only [bl] at hc) <;> (try (exfalso; omega))) | refine XD_w [] [] [] (fun _ => none) mixed (by decide +kernel) (sub_none _) ?_ | (intro bk hbk; (try simp only [go_sem] at hbk))))
  exact Wk.lit1 keysB (fun x => S x) hbk rfl (by decide)
end Go.Proofs.YtmalhikcdideoaaGreatDoor

set_option linter.unusedVariables false
set_option linter.unusedSimpArgs false
namespace Go.Proofs.YtmalhikcdideoaaGreatDoor
open Go Sl
attribute [local irreducible] XRange LpQ XR XRo XRg XRQ putQ XFv XL XW2 wQ putW X XO XOp XH XHo XW SeqQ BlkQ XOQ XHQ NrmQ XC XM XG XHM XHG XD CallK
@[go_sem] def encLn (x : List Tok × Int × Int) : AV := tup3 (encL 3 cT x.1) (I x.2.1) (I x.2.2)
end Go.Proofs.YtmalhikcdideoaaGreatDoor

set_option linter.unusedVariables false
set_option linter.unusedSimpArgs false
namespace Go.Proofs.YtmalhikcdideoaaGreatDoor
open Go Sl
attribute [local irreducible] XRange LpQ XR XRo XRg XRQ putQ XFv XL XW2 wQ putW X XO XOp XH XHo XW SeqQ BlkQ XOQ XHQ NrmQ XC XM XG XHM XHG XD CallK
/-- Where a text is first. -/
def sIdx (v : ByteArray) : List ByteArray → Int → Int
  | [], _ => -1
  | x :: r, i => if v = x then i else sIdx v r (i + 1)
theorem sIdx_ge (v : ByteArray) (l : List ByteArray) (i : Int) (hi : 0 ≤ i) : decide (0 ≤ sIdx v l i) = l.any fun k => decide (v = k) := by
  induction l generalizing i with
  | nil => simp [sIdx]
  | cons x l ih =>
    unfold sIdx
    by_cases h : v = x
    · simp [h, hi]
    · simp [h]; simpa using ih (i + 1) (by omega)
theorem index_ok (v : ByteArray) (l : List ByteArray) : Pure Tryz.prog 83 [encL 1 cS l, S v] (I (sIdx v l 0)) := by
  generalize hR : I (sIdx v l 0) = R
  intro h; refine CallK.lens fun hlen => ?_; have hlen := (hlen _ (by simp only [List.mem_cons, true_or, or_true] : (encL 1 cS l) ∈ _)).encL; refine callK_body Tryz.func83 rfl (by rw [nt83]; simp) ?_; rw [nt83, rs83]
  (repeat' (first | simp [go_sem, X_region, *] | simp (disch := omega) only [om, *] | ((first | refine XC_split ?_ ?_ | refine XG_true ?_ ?_ | refine XG_false ?_ ?_ | refine XRg_true ?_ ?_ | refine XRg_false ?_ ?_) <;> intro hc <;> (try simp only [bl] at hc) <;> (try (exfalso; omega))) | refine XD_w [] [] [] (fun _ => none) mixed (by decide +kernel) (sub_none _) ?_ | (intro bk hbk; (try simp only [go_sem] at hbk))))
  refine X_lp (fun n T h' => ∃ (i : Nat) (r : List ByteArray), n = r.length ∧ i ≤ l.length ∧ l.drop i = r ∧ T 8 = I i ∧ I (sIdx v r i) = R ∧ T 0 = encL 1 cS l ∧ T 1 = S v ∧ T 7 = I l.length ∧ h' = h) l.length ⟨0, l, by simp [go_sem, hR]⟩ ?_
  clear hR; rintro J hJ n T h' ⟨i, r, rfl, hi, hd, h8, hR, h0, h1, h7, rfl⟩
  rcases r with _ | ⟨x, r⟩
  · have hlt := drop_nil hd
    (repeat' (first | simp [go_sem, X_region, *] | simp (disch := omega) only [om, *] | ((first | refine XC_split ?_ ?_ | refine XG_true ?_ ?_ | refine XG_false ?_ ?_ | refine XRg_true ?_ ?_ | refine XRg_false ?_ ?_) <;> intro hc <;> (try simp only [bl] at hc) <;> (try (exfalso; omega))) | refine XD_w [] [] [] (fun _ => none) mixed (by decide +kernel) (sub_none _) ?_ | (intro bk hbk; (try simp only [go_sem] at hbk))))
    all_goals (subst hR; exact Wk.of_eq (by simp [sIdx]))
  · obtain ⟨hlt, hx, hd2⟩ := drop_cons hd
    by_cases he : v = x
    · (repeat' (first | simp [go_sem, X_region, *] | simp (disch := omega) only [om, *] | ((first | refine XC_split ?_ ?_ | refine XG_true ?_ ?_ | refine XG_false ?_ ?_ | refine XRg_true ?_ ?_ | refine XRg_false ?_ ?_) <;> intro hc <;> (try simp only [bl] at hc) <;> (try (exfalso; omega))) | refine XD_w [] [] [] (fun _ => none) mixed (by decide +kernel) (sub_none _) ?_ | (intro bk hbk; (try simp only [go_sem] at hbk))))
      all_goals (subst hR; exact Wk.of_eq (by simp [sIdx, *]))
    · (repeat' (first | simp [go_sem, X_region, *] | simp (disch := omega) only [om, *] | ((first | refine XC_split ?_ ?_ | refine XG_true ?_ ?_ | refine XG_false ?_ ?_ | refine XRg_true ?_ ?_ | refine XRg_false ?_ ?_) <;> intro hc <;> (try simp only [bl] at hc) <;> (try (exfalso; omega))) | refine XD_w [] [] [] (fun _ => none) mixed (by decide +kernel) (sub_none _) ?_ | (intro bk hbk; (try simp only [go_sem] at hbk))))
      exact ⟨_, by omega, hJ.out _ _ _ ⟨i + 1, r, rfl, by omega, hd2, by simp [go_sem, *], by rw [← hR]; simp [sIdx, he], by simp [go_sem, *], by simp [go_sem, *], by simp [go_sem, *], rfl⟩⟩
theorem contains_ok (v : ByteArray) (l : List ByteArray) : Pure Tryz.prog 28 [encL 1 cS l, S v] (B (l.any fun k => decide (v = k))) := by
  intro h; refine callK_body Tryz.func28 rfl (by rw [nt28]; simp) ?_; rw [nt28, rs28]
  rw [← sIdx_ge v l 0 (by omega)]
  ((repeat' (first | simp [go_sem, X_region, *] | simp (disch := omega) only [om, *] | ((first | refine XC_split ?_ ?_ | refine XG_true ?_ ?_ | refine XG_false ?_ ?_ | refine XRg_true ?_ ?_ | refine XRg_false ?_ ?_) <;> intro hc <;> (try simp only [bl] at hc) <;> (try (exfalso; omega))) | refine XD_w [] [] [] (fun _ => none) mixed (by decide +kernel) (sub_none _) ?_ | refine Pure.call (index_ok v l) ?_ | refine ⟨_, Pure.at (index_ok v l), ?_⟩ | refine ⟨_, index_ok v l, ?_⟩ | refine PureAt.call (index_ok v l) ?_ | (intro bk hbk; (try simp only [go_sem] at hbk)))); all_goals (refine Wk.fin (by repeat (first | exact Sub.refl _ | refine Sub.upd (by simp [*]) ?_)) ?_; first | (simp [*]; done) | (simp only []; (repeat' (first | split | rfl | omega | (simp_all; done))); done) | (simp [*]; (repeat' (first | split | omega | (rw [Bool.eq_iff_iff]; simp; omega))); done) | (simp [*])))
end Go.Proofs.YtmalhikcdideoaaGreatDoor

set_option linter.unusedVariables false
set_option linter.unusedSimpArgs false
namespace Go.Proofs.YtmalhikcdideoaaGreatDoor
open Go Sl
attribute [local irreducible] XRange LpQ XR XRo XRg XRQ putQ XFv XL XW2 wQ putW X XO XOp XH XHo XW SeqQ BlkQ XOQ XHQ NrmQ XC XM XG XHM XHG XD CallK
def isSp (c : UInt8) : Bool := isSpaceN c.toNat
/-- Words: behind a space; within a word. -/
def fw : Bool → List UInt8 → List UInt8 → List (List UInt8)
  | true, _, [] => []
  | false, cur, [] => [cur]
  | true, _, c :: r => if isSp c then fw true [] r else fw false [c] r
  | false, cur, c :: r => if isSp c then cur :: fw true [] r else fw false (cur ++ [c]) r
/-- What an own row of texts holds so far. -/
def Holds (ob : Ob) (e : TypeId) (n : Nat) (l : List (List UInt8)) : Prop := ob.ty = e ∧ ob.s = 1 ∧ ob.n = n ∧ ∀ i x, l[i]? = some x → ob.f i 0 = S (bOf x)
theorem Holds.set {e : TypeId} {n : Nat} {l : List (List UInt8)} {g : Nat → Nat → AV} (h4 : ∀ (i : Nat) (x : List UInt8), l[i]? = some x → g i 0 = S (bOf x)) (x : List UInt8) : Holds { ty := e, s := 1, n := n, f := fun i' j' => if i' = l.length ∧ j' = 0 then S (bOf x) else g i' j' } e n (l ++ [x]) := by
  refine ⟨rfl, rfl, rfl, fun i y hy => ?_⟩
  by_cases hi : i = l.length
  · subst hi
    simp at hy
    subst hy
    simp
  · simp only [hi, false_and, if_false]
    refine h4 i y ?_
    have : i < l.length := by
      have := (List.getElem?_eq_some_iff.1 hy).1
      simp at this
      omega
    rwa [List.getElem?_append_left this] at hy
def Ex (r : List UInt8) : Prop := r = [] ∨ ∃ c r', r = c :: r' ∧ isSp c = false
theorem Ex.or (r : List UInt8) : (∃ c r', r = c :: r' ∧ isSp c = true) ∨ r = [] ∨ ∃ c r', r = c :: r' ∧ isSp c = false := by
  rcases r with _ | ⟨c, r⟩
  · exact .inr (.inl rfl)
  · cases h : isSp c
    · exact .inr (.inr ⟨c, r, rfl, h⟩)
    · exact .inl ⟨c, r, rfl, h⟩
def left (cur r : List UInt8) : List (List UInt8) := if cur = [] then fw true [] r else fw false cur r
theorem Holds.fin {h : Hp} {b : Nat} {ob : Ob} {e : TypeId} {n : Nat} {l : List (List UInt8)} (hh : Holds ob e n l) (hb : h b = none) (hl : l.length = n) (hn : n ≤ 1000000) : Wk (upd h b (some ob)) (.row b 1 0 n) h (encL 1 cS (l.map bOf)) := by
  obtain ⟨h1, h2, h3, h4⟩ := hh
  have : (l.map bOf).length = n := by simp [hl]
  rw [encL_eq, this]
  refine Wk.rowF (upd_same _ _ _) (Sub.upd hb (Sub.refl _)) hb h2 (by omega) (by omega) fun i hi j hj => ?_
  have hj0 : j = 0 := by omega
  subst hj0
  have hx : l[i]? = some l[i] := List.getElem?_eq_getElem (by omega)
  rw [h4 i _ hx, cellsL_at (x := bOf l[i]) (by simp [hx])]
  rfl
end Go.Proofs.YtmalhikcdideoaaGreatDoor

set_option linter.unusedVariables false
set_option linter.unusedSimpArgs false
namespace Go.Proofs.YtmalhikcdideoaaGreatDoor
open Go Sl
attribute [local irreducible] XRange LpQ XR XRo XRg XRQ putQ XFv XL XW2 wQ putW X XO XOp XH XHo XW SeqQ BlkQ XOQ XHQ NrmQ XC XM XG XHM XHG XD CallK
abbrev ptr (b : Nat) : AV := .v (.pointer (some ⟨b, 0, none⟩))
end Go.Proofs.YtmalhikcdideoaaGreatDoor

set_option linter.unusedVariables false
set_option linter.unusedSimpArgs false
namespace Go.Proofs.YtmalhikcdideoaaGreatDoor
open Go Sl
attribute [local irreducible] XRange LpQ XR XRo XRg XRQ putQ XFv XL XW2 wQ putW X XO XOp XH XHo XW SeqQ BlkQ XOQ XHQ NrmQ XC XM XG XHM XHG XD CallK
end Go.Proofs.YtmalhikcdideoaaGreatDoor

set_option linter.unusedVariables false
set_option linter.unusedSimpArgs false
namespace Go.Proofs.YtmalhikcdideoaaGreatDoor
open Go Sl
attribute [local irreducible] XRange LpQ XR XRo XRg XRQ putQ XFv XL XW2 wQ putW X XO XOp XH XHo XW SeqQ BlkQ XOQ XHQ NrmQ XC XM XG XHM XHG XD CallK
attribute [local go_sem] beqB
end Go.Proofs.YtmalhikcdideoaaGreatDoor

set_option linter.unusedVariables false
set_option linter.unusedSimpArgs false
namespace Go.Proofs.YtmalhikcdideoaaGreatDoor
open Go Sl
attribute [local irreducible] XRange LpQ XR XRo XRg XRQ putQ XFv XL XW2 wQ putW X XO XOp XH XHo XW SeqQ BlkQ XOQ XHQ NrmQ XC XM XG XHM XHG XD CallK
def bigO : Option Ob → Nat → Nat → Option AV
  | some o, i, off => if i < o.n ∧ off + 256 ≤ o.s then some (aggL (rowL 256 fun k => o.f i (off + k))) else none
  | none, _, _ => none
def bigL (h : Hp) : AV → Option AV
  | .fp m f => if 256 ≤ m then some (aggL (rowL 256 f)) else none
  | .v (.pointer (some ⟨b, off, none⟩)) => bigO (h b) 0 off
  | .pt b s i j => match h b with
    | some o => if o.s = s then bigO (h b) i j else none
    | none => none
  | _ => none
attribute [local go_sem] bigO bigL
end Go.Proofs.YtmalhikcdideoaaGreatDoor

set_option linter.unusedVariables false
set_option linter.unusedSimpArgs false
namespace Go.Proofs.YtmalhikcdideoaaGreatDoor
open Go Sl
attribute [local irreducible] XRange LpQ XR XRo XRg XRQ putQ XFv XL XW2 wQ putW X XO XOp XH XHo XW SeqQ BlkQ XOQ XHQ NrmQ XC XM XG XHM XHG XD CallK
def nameF (s : ByteArray) : Bool := decide (0 < s.size ∧ s.size ≤ 20) && isLetter (gb s 0) && s.data.toList.all isInner && !isKey s
theorem wname_ok (s : ByteArray) (hs : s.size ≤ 140737488355328) : Pure Tryz.prog 55 [S s] (B (nameF s)) := by
  generalize hR : nameF s = R
  intro h; refine callK_body Tryz.func55 rfl (by rw [nt55]; simp) ?_; rw [nt55, rs55]
  by_cases hz : s = ⟨#[]⟩
  · subst hz
    (repeat' (first | simp [go_sem, X_region, *] | simp (disch := omega) only [om, *] | ((first | refine XC_split ?_ ?_ | refine XG_true ?_ ?_ | refine XG_false ?_ ?_ | refine XRg_true ?_ ?_ | refine XRg_false ?_ ?_) <;> intro hc <;> (try simp only [bl] at hc) <;> (try (exfalso; omega))) | refine XD_w [] [] [] (fun _ => none) mixed (by decide +kernel) (sub_none _) ?_ | fail))
    all_goals (subst hR; exact Wk.of_eq rfl)
  · have hpos : 0 < s.size := by
      rcases s with ⟨⟨l⟩⟩
      rcases l with _ | ⟨c, r⟩
      · exact absurd rfl hz
      · simp [ByteArray.size]
    by_cases hbig : 20 < s.size
    · (repeat' (first | simp [go_sem, X_region, *] | simp (disch := omega) only [om, *] | ((first | refine XC_split ?_ ?_ | refine XG_true ?_ ?_ | refine XG_false ?_ ?_ | refine XRg_true ?_ ?_ | refine XRg_false ?_ ?_) <;> intro hc <;> (try simp only [bl] at hc) <;> (try (exfalso; omega))) | refine XD_w [] [] [] (fun _ => none) mixed (by decide +kernel) (sub_none _) ?_ | fail))
      all_goals (subst hR; exact Wk.of_eq (by simp [nameF, show ¬ s.size ≤ 20 by omega]))
    · have hlt := letter_ok (gb s 0)
      cases hl : isLetter (gb s 0)
      · rw [hl] at hlt
        (repeat' (first | simp [go_sem, X_region, *] | simp (disch := omega) only [om, *] | ((first | refine XC_split ?_ ?_ | refine XG_true ?_ ?_ | refine XG_false ?_ ?_ | refine XRg_true ?_ ?_ | refine XRg_false ?_ ?_) <;> intro hc <;> (try simp only [bl] at hc) <;> (try (exfalso; omega))) | refine XD_w [] [] [] (fun _ => none) mixed (by decide +kernel) (sub_none _) ?_ | refine Pure.call (hlt) ?_ | refine ⟨_, Pure.at (hlt), ?_⟩ | refine ⟨_, hlt, ?_⟩ | refine PureAt.call (hlt) ?_ | fail))
        all_goals (subst hR; exact Wk.of_eq (by simp [nameF, hl]))
      · rw [hl] at hlt
        have hb := bs_ok keysB s (by decide)
        rw [foundB_mem _ _ keys_rising, show (keysB.any fun k => decide (s = k)) = isKey s from rfl] at hb
        have hR2 : (s.data.toList.all isInner && !isKey s) = R := by rw [← hR]; simp [nameF, hl, hpos, show s.size ≤ 20 by omega]
        clear hR
        (repeat' (first | simp [go_sem, X_region, *] | simp (disch := omega) only [om, *] | ((first | refine XC_split ?_ ?_ | refine XG_true ?_ ?_ | refine XG_false ?_ ?_ | refine XRg_true ?_ ?_ | refine XRg_false ?_ ?_) <;> intro hc <;> (try simp only [bl] at hc) <;> (try (exfalso; omega))) | refine XD_w [] [] [] (fun _ => none) mixed (by decide +kernel) (sub_none _) ?_ | refine Pure.call (hlt) ?_ | refine ⟨_, Pure.at (hlt), ?_⟩ | refine ⟨_, hlt, ?_⟩ | refine PureAt.call (hlt) ?_ | fail))
        refine X_lp (fun n T h' => ∃ (i : Nat) (r : List UInt8), n = r.length ∧ i ≤ s.size ∧ s.data.toList.drop i = r ∧ (r.all isInner && !isKey s) = R ∧ T 0 = S s ∧ T 21 = I i ∧ T 20 = I s.size ∧ h' = h) _ ⟨0, _, rfl, by omega, rfl, hR2, by simp [go_sem], by simp [go_sem], by simp [go_sem], rfl⟩ ?_
        clear hR2
        rintro J hJ n T h' ⟨i, r, rfl, hi, hd, hR, t0, t1, t2, rfl⟩
        rcases r with _ | ⟨c, r⟩
        · have hnl := str_nil hd
          (repeat' (first | simp [go_sem, X_region, *] | simp (disch := omega) only [om, *] | ((first | refine XC_split ?_ ?_ | refine XG_true ?_ ?_ | refine XG_false ?_ ?_ | refine XRg_true ?_ ?_ | refine XRg_false ?_ ?_) <;> intro hc <;> (try simp only [bl] at hc) <;> (try (exfalso; omega))) | refine XD_w [] [] [] (fun _ => none) mixed (by decide +kernel) (sub_none _) ?_ | refine Pure.call (keys_ok) ?_ | refine ⟨_, Pure.at (keys_ok), ?_⟩ | refine ⟨_, keys_ok, ?_⟩ | refine PureAt.call (keys_ok) ?_ | refine Pure.call (hb) ?_ | refine ⟨_, Pure.at (hb), ?_⟩ | refine ⟨_, hb, ?_⟩ | refine PureAt.call (hb) ?_ | fail))
          all_goals (subst hR; exact Wk.of_eq (by simp))
        · obtain ⟨hlt2, hg, hd2⟩ := str_cons hd
          have hi2 := inner_ok c
          cases hc : isInner c
          · rw [hc] at hi2
            (repeat' (first | simp [go_sem, X_region, *] | simp (disch := omega) only [om, *] | ((first | refine XC_split ?_ ?_ | refine XG_true ?_ ?_ | refine XG_false ?_ ?_ | refine XRg_true ?_ ?_ | refine XRg_false ?_ ?_) <;> intro hc <;> (try simp only [bl] at hc) <;> (try (exfalso; omega))) | refine XD_w [] [] [] (fun _ => none) mixed (by decide +kernel) (sub_none _) ?_ | refine Pure.call (hi2) ?_ | refine ⟨_, Pure.at (hi2), ?_⟩ | refine ⟨_, hi2, ?_⟩ | refine PureAt.call (hi2) ?_ | fail))
            all_goals (subst hR; exact Wk.of_eq (by simp [hc]))
          · rw [hc] at hi2
            (repeat' (first | simp [go_sem, X_region, *] | simp (disch := omega) only [om, *] | ((first | refine XC_split ?_ ?_ | refine XG_true ?_ ?_ | refine XG_false ?_ ?_ | refine XRg_true ?_ ?_ | refine XRg_false ?_ ?_) <;> intro hc <;> (try simp only [bl] at hc) <;> (try (exfalso; omega))) | refine XD_w [] [] [] (fun _ => none) mixed (by decide +kernel) (sub_none _) ?_ | refine Pure.call (hi2) ?_ | refine ⟨_, Pure.at (hi2), ?_⟩ | refine ⟨_, hi2, ?_⟩ | refine PureAt.call (hi2) ?_ | fail))
            exact ⟨r.length, by omega, hJ.out _ _ _ ⟨i + 1, r, rfl, by omega, hd2, by rw [← hR]; simp [hc], by simp [go_sem, *], by simp [go_sem, *], by simp [go_sem, *], rfl⟩⟩
theorem eqs_ok (l m : List ByteArray) : Pure Tryz.prog 42 [encL 1 cS l, encL 1 cS m] (B (decide (l = m))) := by
  generalize hR : B (decide (l = m)) = R
  intro h; refine CallK.lens fun hlen => ?_; have hlen := (hlen _ (by simp only [List.mem_cons, true_or, or_true] : (encL 1 cS l) ∈ _)).encL; refine callK_body Tryz.func42 rfl (by rw [nt42]; simp) ?_; rw [nt42, rs42]
  by_cases hlm : l.length = m.length
  · (repeat' (first | simp [go_sem, X_region, *] | simp (disch := omega) only [om, *] | ((first | refine XC_split ?_ ?_ | refine XG_true ?_ ?_ | refine XG_false ?_ ?_ | refine XRg_true ?_ ?_ | refine XRg_false ?_ ?_) <;> intro hc <;> (try simp only [bl] at hc) <;> (try (exfalso; omega))) | refine XD_w [] [] [] (fun _ => none) mixed (by decide +kernel) (sub_none _) ?_ | (intro bk hbk; (try simp only [go_sem] at hbk))))
    refine X_lp (fun n T h' => ∃ (i : Nat) (r r2 : List ByteArray), n = r.length ∧ i ≤ l.length ∧ l.drop i = r ∧ m.drop i = r2 ∧ T 13 = I i ∧ B (decide (r = r2)) = R ∧ T 0 = encL 1 cS l ∧ T 1 = encL 1 cS m ∧ T 12 = I l.length ∧ h' = h) l.length ⟨0, l, m, by simp [go_sem, hR, hlm]⟩ ?_
    clear hR; rintro J hJ n T h' ⟨i, r, r2, rfl, hi, hd, hd', h8, hR, h0, h1, h7, rfl⟩
    rcases r with _ | ⟨x, r⟩
    · have hlt := drop_nil hd
      rcases r2 with _ | ⟨y, r2⟩
      · (repeat' (first | simp [go_sem, X_region, *] | simp (disch := omega) only [om, *] | ((first | refine XC_split ?_ ?_ | refine XG_true ?_ ?_ | refine XG_false ?_ ?_ | refine XRg_true ?_ ?_ | refine XRg_false ?_ ?_) <;> intro hc <;> (try simp only [bl] at hc) <;> (try (exfalso; omega))) | refine XD_w [] [] [] (fun _ => none) mixed (by decide +kernel) (sub_none _) ?_ | (intro bk hbk; (try simp only [go_sem] at hbk))))
        all_goals (subst hR; exact Wk.of_eq (by simp))
      · obtain ⟨hlt2, _⟩ := drop_cons hd'
        omega
    · obtain ⟨hlt, hx, hd2⟩ := drop_cons hd
      rcases r2 with _ | ⟨y, r2⟩
      · have hlt2 := drop_nil hd'
        omega
      · obtain ⟨hlt2, hx2, hd2'⟩ := drop_cons hd'
        by_cases he : x = y
        · (repeat' (first | simp [go_sem, X_region, *] | simp (disch := omega) only [om, *] | ((first | refine XC_split ?_ ?_ | refine XG_true ?_ ?_ | refine XG_false ?_ ?_ | refine XRg_true ?_ ?_ | refine XRg_false ?_ ?_) <;> intro hc <;> (try simp only [bl] at hc) <;> (try (exfalso; omega))) | refine XD_w [] [] [] (fun _ => none) mixed (by decide +kernel) (sub_none _) ?_ | (intro bk hbk; (try simp only [go_sem] at hbk))))
          exact ⟨_, by omega, hJ.out _ _ _ ⟨i + 1, r, r2, rfl, by omega, hd2, hd2', by simp [go_sem, *], by rw [← hR, he]; simp, by simp [go_sem, *], by simp [go_sem, *], by simp [go_sem, *], rfl⟩⟩
        · (repeat' (first | simp [go_sem, X_region, *] | simp (disch := omega) only [om, *] | ((first | refine XC_split ?_ ?_ | refine XG_true ?_ ?_ | refine XG_false ?_ ?_ | refine XRg_true ?_ ?_ | refine XRg_false ?_ ?_) <;> intro hc <;> (try simp only [bl] at hc) <;> (try (exfalso; omega))) | refine XD_w [] [] [] (fun _ => none) mixed (by decide +kernel) (sub_none _) ?_ | (intro bk hbk; (try simp only [go_sem] at hbk))))
          all_goals (subst hR; exact Wk.of_eq (by simp [he]))
  · have hne : ¬ l = m := fun e => hlm (by rw [e])
    (repeat' (first | simp [go_sem, X_region, *] | simp (disch := omega) only [om, *] | ((first | refine XC_split ?_ ?_ | refine XG_true ?_ ?_ | refine XG_false ?_ ?_ | refine XRg_true ?_ ?_ | refine XRg_false ?_ ?_) <;> intro hc <;> (try simp only [bl] at hc) <;> (try (exfalso; omega))) | refine XD_w [] [] [] (fun _ => none) mixed (by decide +kernel) (sub_none _) ?_ | (intro bk hbk; (try simp only [go_sem] at hbk))))
    subst hR
    exact Wk.of_eq (by simp [*])
end Go.Proofs.YtmalhikcdideoaaGreatDoor

set_option linter.unusedVariables false
set_option linter.unusedSimpArgs false
namespace Go.Proofs.YtmalhikcdideoaaGreatDoor
open Go Sl
attribute [local irreducible] XRange LpQ XR XRo XRg XRQ putQ XFv XL XW2 wQ putW X XO XOp XH XHo XW SeqQ BlkQ XOQ XHQ NrmQ XC XM XG XHM XHG XD CallK
open Go.RowKit
def lit1 : Nd := ⟨0, [], 5, 1, ⟨#[]⟩⟩
end Go.Proofs.YtmalhikcdideoaaGreatDoor

set_option linter.unusedVariables false
set_option linter.unusedSimpArgs false
namespace Go.Proofs.YtmalhikcdideoaaGreatDoor
open Go Sl
attribute [local irreducible] XRange LpQ XR XRo XRg XRQ putQ XFv XL XW2 wQ putW X XO XOp XH XHo XW SeqQ BlkQ XOQ XHQ NrmQ XC XM XG XHM XHG XD CallK
open Go.RowKit
inductive Tr where
  | mk (x : Nd) (kids : List Tr)
mutual
def cTr : Tr → List AV
  | .mk x ks => [I x.op, .v (.slice none 0 0), I x.kd, I x.n, S x.nm, .sl 6 ks.length (cTrL ks)]
def cTrL : List Tr → Nat → Nat → AV
  | [] => fun _ _ => .any
  | t :: r => fun i j => if i = 0 then (cTr t).getD j .any else cTrL r (i - 1) j
end
theorem cTrL_eq : ∀ ks : List Tr, cTrL ks = cellsL cTr ks
  | [] => by funext i j; simp [cTrL, cellsL]
  | t :: r => by
    funext i j
    rw [cTrL, cTrL_eq r]
    rcases i with _ | i
    · simp [cellsL]
    · simp [cellsL]
@[go_sem] theorem cTr_mk (x : Nd) (ks : List Tr) : cTr (.mk x ks) = [I x.op, .v (.slice none 0 0), I x.kd, I x.n, S x.nm, encL 6 cTr ks] := by
  rw [cTr, cTrL_eq]; rfl
@[go_sem] theorem cTr_len (t : Tr) : (cTr t).length = 6 := by
  obtain ⟨x, ks⟩ := t
  rw [cTr_mk]; rfl
mutual
def depthT : Tr → Int
  | .mk _ ks => depthL ks 0 + 1
def depthL : List Tr → Int → Int
  | [], m => m
  | t :: r, m => depthL r (max m (depthT t))
end
def nd0 : Nd := ⟨0, [], 0, 0, ⟨#[]⟩⟩
def bare (x : Nd) : Nd := { x with kids := [] }
def ndAt (e : List Nd) (p : Nat) : Nd := e.getD p nd0
/-- Kids stand ahead of their nodes. -/
structure Vd (e : List Nd) : Prop where
  out : ∀ (i : Nat) (x : Nd), e[i]? = some x → ∀ k ∈ x.kids, 0 ≤ k ∧ k < (i : Int)
theorem Vd.at {e : List Nd} (h : Vd e) (p : Nat) : ∀ k ∈ (ndAt e p).kids, 0 ≤ k ∧ k < (p : Int) := by
  unfold ndAt
  rw [List.getD_eq_getElem?_getD]
  cases hx : e[p]? with
  | none => intro k hk; cases hk
  | some x => exact h.out p x hx
end Go.Proofs.YtmalhikcdideoaaGreatDoor

set_option linter.unusedVariables false
set_option linter.unusedSimpArgs false
namespace Go.Proofs.YtmalhikcdideoaaGreatDoor
open Go Sl
attribute [local irreducible] XRange LpQ XR XRo XRg XRQ putQ XFv XL XW2 wQ putW X XO XOp XH XHo XW SeqQ BlkQ XOQ XHQ NrmQ XC XM XG XHM XHG XD CallK
open Go.RowKit
mutual
def sizeT : Tr → Int
  | .mk _ ks => sizeL ks + 1
def sizeL : List Tr → Int
  | [] => 0
  | t :: r => sizeT t + sizeL r
end
mutual
theorem sizeT_pos : ∀ t : Tr, 1 ≤ sizeT t
  | .mk _ ks => by rw [sizeT]; have := sizeL_pos ks; omega
theorem sizeL_pos : ∀ ts : List Tr, 0 ≤ sizeL ts
  | [] => by rw [sizeL]; omega
  | t :: r => by rw [sizeL]; have := sizeT_pos t; have := sizeL_pos r; omega
end
mutual
theorem depthT_le : ∀ t : Tr, 1 ≤ depthT t ∧ depthT t ≤ sizeT t
  | .mk _ ks => by
    rw [depthT, sizeT]
    have := depthL_le ks 0 (Int.le_refl _)
    have := sizeL_pos ks
    omega
theorem depthL_le : ∀ (ts : List Tr) (m : Int), 0 ≤ m → m ≤ depthL ts m ∧ depthL ts m ≤ max m (sizeL ts)
  | [], m, h => by rw [depthL, sizeL]; omega
  | t :: r, m, h => by
    rw [depthL, sizeL]
    have h1 := depthT_le t
    have h2 := depthL_le r (max m (depthT t)) (by omega)
    have h3 := sizeL_pos r
    omega
end
end Go.Proofs.YtmalhikcdideoaaGreatDoor

set_option linter.unusedVariables false
set_option linter.unusedSimpArgs false
namespace Go.Proofs.YtmalhikcdideoaaGreatDoor
open Go Sl
attribute [local irreducible] XRange LpQ XR XRo XRg XRQ putQ XFv XL XW2 wQ putW X XO XOp XH XHo XW SeqQ BlkQ XOQ XHQ NrmQ XC XM XG XHM XHG XD CallK
open Go.RowKit
def shN (d : Int) (x : Nd) : Nd := { x with kids := x.kids.map (· + d) }
mutual
def flatT : Tr → List Nd
  | .mk x ks => (flatL ks [] []).1 ++ [{ x with kids := (flatL ks [] []).2 }]
def flatL : List Tr → List Nd → List Int → List Nd × List Int
  | [], out, kids => (out, kids)
  | t :: r, out, kids => flatL r (out ++ (flatT t).map (shN out.length)) (kids ++ [((out ++ (flatT t).map (shN out.length)).length : Int) - 1])
end
mutual
theorem flatT_len : ∀ t : Tr, ((flatT t).length : Int) = sizeT t
  | .mk x ks => by
    rw [flatT, sizeT, List.length_append, List.length_singleton]
    have := flatL_len ks [] []
    simp only [List.length_nil] at this
    omega
theorem flatL_len : ∀ (ts : List Tr) (out : List Nd) (kids : List Int), ((flatL ts out kids).1.length : Int) = out.length + sizeL ts
  | [], out, kids => by rw [flatL, sizeL]; simp
  | t :: r, out, kids => by
    rw [flatL, sizeL, flatL_len r]
    have := flatT_len t
    rw [List.length_append, List.length_map]
    omega
end
end Go.Proofs.YtmalhikcdideoaaGreatDoor

set_option linter.unusedVariables false
set_option linter.unusedSimpArgs false
namespace Go.Proofs.YtmalhikcdideoaaGreatDoor
open Go Sl
attribute [local irreducible] XRange LpQ XR XRo XRg XRQ putQ XFv XL XW2 wQ putW X XO XOp XH XHo XW SeqQ BlkQ XOQ XHQ NrmQ XC XM XG XHM XHG XD CallK
open Go.RowKit
theorem own_other {h0 h : Hp} {a : AV} {e : TypeId} {s n b : Nat} {f : Nat → Nat → AV} {o1 o2 : Ob} (o : Own h0 h a e s n f) (hb : h0 b = some o1) : Own (upd h0 b (some o2)) (upd h b (some o2)) a e s n f := by
  refine o.other hb fun c hc hcb => ?_
  rcases o.2 with ⟨_, h1 | h1⟩ | ⟨gb, og, h1, h2, _⟩
  · rw [hc] at h1; cases h1
  · rw [hc] at h1; cases h1
  · rw [hc] at h1
    cases h1
    rw [hcb, hb] at h2
    cases h2
theorem upd_upd {α : Type} (T : Nat → α) (d : Nat) (x y : α) : upd (upd T d x) d y = upd T d y := by
  funext i
  by_cases h : i = d <;> simp [upd, h]
end Go.Proofs.YtmalhikcdideoaaGreatDoor

set_option linter.unusedVariables false
set_option linter.unusedSimpArgs false
namespace Go.Proofs.YtmalhikcdideoaaGreatDoor
open Go Sl
attribute [local irreducible] XRange LpQ XR XRo XRg XRQ putQ XFv XL XW2 wQ putW X XO XOp XH XHo XW SeqQ BlkQ XOQ XHQ NrmQ XC XM XG XHM XHG XD CallK
open Go.RowKit
theorem strict_unique {α : Type} (lt : α → α → Prop) (irr : ∀ a, ¬ lt a a) (tr : ∀ a b c, lt a b → lt b c → lt a c) : ∀ l m : List α, l.Pairwise lt → m.Pairwise lt → (∀ x, x ∈ l ↔ x ∈ m) → l = m
  | [], [], _, _, _ => rfl
  | [], y :: m, _, _, h => by have := (h y).2 (List.mem_cons_self ..); cases this
  | x :: l, [], _, _, h => by have := (h x).1 (List.mem_cons_self ..); cases this
  | x :: l, y :: m, hl, hm, h => by
    obtain ⟨l1, l2⟩ := List.pairwise_cons.1 hl
    obtain ⟨m1, m2⟩ := List.pairwise_cons.1 hm
    have hxy : x = y := by
      rcases List.mem_cons.1 ((h x).1 (List.mem_cons_self ..)) with e | e
      · exact e
      · rcases List.mem_cons.1 ((h y).2 (List.mem_cons_self ..)) with f | f
        · exact f.symm
        · exact absurd (tr _ _ _ (m1 x e) (l1 y f)) (irr _)
    subst hxy
    congr 1
    refine strict_unique lt irr tr l m l2 m2 fun z => ⟨fun hz => ?_, fun hz => ?_⟩
    · rcases List.mem_cons.1 ((h z).1 (List.mem_cons_of_mem _ hz)) with e | e
      · exact absurd (e ▸ l1 z hz) (irr _)
      · exact e
    · rcases List.mem_cons.1 ((h z).2 (List.mem_cons_of_mem _ hz)) with e | e
      · exact absurd (e ▸ m1 z hz) (irr _)
      · exact e
abbrev Bs := List UInt8
def leB (x y : Bs) : Bool := decide (x ≤ y)
def ltB (x y : Bs) : Prop := x ≤ y ∧ x ≠ y
theorem leB_trans (a b c : Bs) (h1 : leB a b = true) (h2 : leB b c = true) : leB a c = true := by
  simp only [leB, decide_eq_true_eq] at *
  exact List.le_trans h1 h2
theorem leB_total (a b : Bs) : (leB a b || leB b a) = true := by
  simp only [leB, Bool.or_eq_true, decide_eq_true_eq]
  exact List.le_total a b
theorem ltB_trans (a b c : Bs) (h1 : ltB a b) (h2 : ltB b c) : ltB a c := by
  refine ⟨List.le_trans h1.1 h2.1, fun e => ?_⟩
  subst e
  exact h1.2 (List.le_antisymm h1.1 h2.1)
theorem ltB_irr (a : Bs) : ¬ ltB a a := fun h => h.2 rfl
theorem sorted_of (zs : List Bs) : (zs.mergeSort fun x y => decide (x ≤ y)).Pairwise fun x y => x ≤ y := by
  have := List.pairwise_mergeSort (le := leB) leB_trans leB_total zs
  refine List.Pairwise.imp (fun {a b} h => ?_) this
  simpa [leB] using h
theorem sort_nodup {zs : List Bs} (h : zs.Nodup) : (zs.mergeSort fun x y => decide (x ≤ y)).Pairwise ltB := by
  have h1 := sorted_of zs
  have h2 : (zs.mergeSort fun x y => decide (x ≤ y)).Nodup := (List.mergeSort_perm zs _).symm.nodup h
  exact (List.Pairwise.and h1 h2)
theorem compact_mem (zs : List Bs) (s : Bs) : s ∈ Lib.compact zs ↔ s ∈ zs := by
  unfold Lib.compact Lib.compactUpTo
  rw [List.mem_map]
  constructor
  · rintro ⟨j, hj, rfl⟩
    rw [List.mem_filter, List.mem_range] at hj
    have h1 : j < zs.toArray.size := by simpa using hj.1
    rw [getElem!_pos zs.toArray j h1]
    simp
  · intro hs
    obtain ⟨j, hj, hjs⟩ := List.getElem_of_mem hs
    have key : ∀ n : Nat, ∀ hn : n < zs.length, zs[n] = s → ∃ a, a ∈ List.filter (Lib.keeps zs.toArray) (List.range zs.length) ∧ zs.toArray[a]! = s := by
      intro n
      induction n with
      | zero =>
        intro hn hns
        refine ⟨0, ?_, ?_⟩
        · rw [List.mem_filter, List.mem_range]; exact ⟨hn, by simp [Lib.keeps]⟩
        · rw [getElem!_pos zs.toArray 0 (by simpa using hn)]; simpa using hns
      | succ n ih =>
        intro hn hns
        by_cases hk : Lib.keeps zs.toArray (n + 1) = true
        · refine ⟨n + 1, ?_, ?_⟩
          · rw [List.mem_filter, List.mem_range]; exact ⟨hn, hk⟩
          · rw [getElem!_pos zs.toArray (n + 1) (by simpa using hn)]; simpa using hns
        · refine ih (by omega) ?_
          unfold Lib.keeps at hk
          rw [getElem!_pos zs.toArray (n + 1) (by simpa using hn), getElem!_pos zs.toArray (n + 1 - 1) (by simp; omega)] at hk
          simp at hk
          rw [← hk]; exact hns
    exact key j hj hjs
theorem compact_strict (zs : List Bs) (h : zs.Pairwise fun x y => x ≤ y) : (Lib.compact zs).Pairwise ltB := by
  unfold Lib.compact Lib.compactUpTo
  rw [List.pairwise_map]
  have h1 : (List.filter (Lib.keeps zs.toArray) (List.range zs.length)).Pairwise fun i j => i < j ∧ j < zs.length ∧ Lib.keeps zs.toArray j = true := by
    have h2 : (List.filter (Lib.keeps zs.toArray) (List.range zs.length)).Pairwise (· < ·) := List.Pairwise.filter _ List.pairwise_lt_range
    refine List.Pairwise.imp_of_mem (fun {a b} _ hb hab => ?_) h2
    rw [List.mem_filter, List.mem_range] at hb
    exact ⟨hab, hb.1, hb.2⟩
  refine List.Pairwise.imp (fun {i j} hij => ?_) h1
  obtain ⟨hij, hj, hk⟩ := hij
  have hle : ∀ a b, a ≤ b → ∀ hb : b < zs.length, ∀ ha : a < zs.length, zs[a] ≤ zs[b] := fun a b hab hb ha => by
    rcases Nat.lt_or_ge a b with hlt | hge
    · exact List.pairwise_iff_getElem.1 h a b ha hb hlt
    · obtain rfl : a = b := by omega
      exact List.le_refl _
  rw [getElem!_pos zs.toArray i (by simp; omega), getElem!_pos zs.toArray j (by simpa using hj)]
  unfold Lib.keeps at hk
  rw [getElem!_pos zs.toArray j (by simpa using hj), getElem!_pos zs.toArray (j - 1) (by simp; omega)] at hk
  simp only [List.getElem_toArray, decide_eq_true_eq] at hk ⊢
  have hk' : zs[j] ≠ zs[j - 1] := hk.resolve_left (by omega)
  refine ⟨hle i j (by omega) hj (by omega), fun e => hk' ?_⟩
  have a1 := hle i (j - 1) (by omega) (by omega) (by omega)
  have a2 := hle (j - 1) j (by omega) hj (by omega)
  rw [e] at a1
  exact List.le_antisymm a1 a2
/-- The names of a set, sorted, are those of a list, sorted, without repetitions. -/
theorem sort_compact (O L : List Bs) (hO : O.Nodup) (h : ∀ s, s ∈ O ↔ s ∈ L) : (O.mergeSort fun x y => decide (x ≤ y)) = Lib.compact (L.mergeSort fun x y => decide (x ≤ y)) := by
  refine strict_unique ltB ltB_irr ltB_trans _ _ (sort_nodup hO) (compact_strict _ (sorted_of L)) fun x => ?_
  rw [compact_mem, List.mem_mergeSort, List.mem_mergeSort]
  exact h x
def tB (b : ByteArray) : Bs := b.data.toList
theorem tB_inj {a b : ByteArray} (h : tB a = tB b) : a = b := by
  apply ByteArray.ext
  exact Array.toList_inj.1 h
def sortB (l : List ByteArray) : List ByteArray := ((l.map tB).mergeSort fun x y => decide (x ≤ y)).map bOf
def compB (l : List ByteArray) : List ByteArray := (Lib.compact (l.map tB)).map bOf
theorem tB_bOf (l : Bs) : tB (bOf l) = l := rfl
theorem names_same (O L : List ByteArray) (hO : O.Nodup) (h : ∀ s, s ∈ O ↔ s ∈ L) : sortB O = compB (sortB L) := by
  unfold sortB compB
  rw [List.map_map, show (tB ∘ bOf) = id from funext tB_bOf, List.map_id]
  congr 1
  refine sort_compact _ _ ?_ fun s => ?_
  · rw [List.nodup_iff_pairwise_ne, List.pairwise_map]
    exact List.Pairwise.imp (fun {a b} hab e => hab (tB_inj e)) (List.nodup_iff_pairwise_ne.1 hO)
  · simp only [List.mem_map]
    exact ⟨fun ⟨a, ha, e⟩ => ⟨a, (h a).1 ha, e⟩, fun ⟨a, ha, e⟩ => ⟨a, (h a).2 ha, e⟩⟩
/-- The names of nodes with operations. -/
def namesF (p : Int → Bool) (e : List Nd) : List ByteArray := (e.filter fun x => p x.op).map (·.nm)
end Go.Proofs.YtmalhikcdideoaaGreatDoor

namespace Go.Proofs
open Go.Shelf
def Tryz.laysM171_ren : Go.Shelf.Ren := ⟨fun | 171 => 73 | 243 => 143 | 246 => 210 | 283 => 264 | 284 => 265 | 285 => 266 | 286 => 267 | 129 => 164 | 317 => 284 | 318 => 285 | 319 => 286 | 320 => 287 | 337 => 296 | 338 => 297 | n => n, fun | 3 => 3 | 9 => 9 | 2 => 2 | 4 => 4 | 171 => 286 | 0 => 0 | 53 => 208 | 37 => 107 | 5 => 5 | 173 => 288 | 212 => 307 | 51 => 206 | 20 => 20 | 213 => 308 | 46 => 135 | 232 => 329 | 233 => 330 | n => n, fun | 17 => 5 | 18 => 8 | 19 => 9 | n => n⟩
theorem Tryz.laysM171 : Go.Proofs.LaysM.n171 Tryz.prog Tryz.laysM171_ren := {
  mixed := by kernel_rfl
  f129 := Tryz.func164.trans (congrArg some (by kernel_rfl))
  f171 := Tryz.func73.trans (congrArg some (by kernel_rfl))
  f243 := Tryz.func143.trans (congrArg some (by kernel_rfl))
  f246 := Tryz.func210.trans (congrArg some (by kernel_rfl))
  f283 := Tryz.func264.trans (congrArg some (by kernel_rfl))
  f284 := Tryz.func265.trans (congrArg some (by kernel_rfl))
  f285 := Tryz.func266.trans (congrArg some (by kernel_rfl))
  f286 := Tryz.func267.trans (congrArg some (by kernel_rfl))
  f317 := Tryz.func284.trans (congrArg some (by kernel_rfl))
  f318 := Tryz.func285.trans (congrArg some (by kernel_rfl))
  f319 := Tryz.func286.trans (congrArg some (by kernel_rfl))
  f320 := Tryz.func287.trans (congrArg some (by kernel_rfl))
  f337 := Tryz.func296.trans (congrArg some (by kernel_rfl))
  f338 := Tryz.func297.trans (congrArg some (by kernel_rfl))
  t0 := Tryz.underlying0
  a0 := Tryz.isAgg0
  z0 := Tryz.sizeOf0
  v0 := Tryz.zeroValue0
  t2 := Tryz.underlying2
  a2 := Tryz.isAgg2
  z2 := Tryz.sizeOf2
  v2 := Tryz.zeroValue2
  t3 := Tryz.underlying3
  a3 := Tryz.isAgg3
  z3 := Tryz.sizeOf3
  v3 := Tryz.zeroValue3
  t4 := Tryz.underlying4
  a4 := Tryz.isAgg4
  z4 := Tryz.sizeOf4
  v4 := Tryz.zeroValue4
  t5 := Tryz.underlying5
  a5 := Tryz.isAgg5
  z5 := Tryz.sizeOf5
  v5 := Tryz.zeroValue5
  t9 := Tryz.underlying9
  a9 := Tryz.isAgg9
  z9 := Tryz.sizeOf9
  v9 := Tryz.zeroValue9
  t20 := Tryz.underlying20
  a20 := Tryz.isAgg20
  z20 := Tryz.sizeOf20
  v20 := Tryz.zeroValue20
  t37 := Tryz.underlying107
  a37 := Tryz.isAgg107
  z37 := Tryz.sizeOf107
  v37 := Tryz.zeroValue107
  t46 := Tryz.underlying135
  a46 := Tryz.isAgg135
  z46 := Tryz.sizeOf135
  v46 := Tryz.zeroValue135
  t51 := Tryz.underlying206
  a51 := Tryz.isAgg206
  z51 := Tryz.sizeOf206
  v51 := Tryz.zeroValue206
  t53 := Tryz.underlying208
  a53 := Tryz.isAgg208
  z53 := Tryz.sizeOf208
  v53 := Tryz.zeroValue208
  t171 := Tryz.underlying286
  a171 := Tryz.isAgg286
  z171 := Tryz.sizeOf286
  v171 := Tryz.zeroValue286
  t173 := Tryz.underlying288
  a173 := Tryz.isAgg288
  z173 := Tryz.sizeOf288
  v173 := Tryz.zeroValue288
  t212 := Tryz.underlying307
  a212 := Tryz.isAgg307
  z212 := Tryz.sizeOf307
  v212 := Tryz.zeroValue307
  t213 := Tryz.underlying308
  a213 := Tryz.isAgg308
  z213 := Tryz.sizeOf308
  t232 := Tryz.underlying329
  a232 := Tryz.isAgg329
  z232 := Tryz.sizeOf329
  v232 := Tryz.zeroValue329
  t233 := Tryz.underlying330
  a233 := Tryz.isAgg330
  z233 := Tryz.sizeOf330
  v233 := Tryz.zeroValue330
  g17 := by kernel_rfl
  g18 := by kernel_rfl
  g19 := by kernel_rfl
  i0 := by kernel_rfl
  i2 := by kernel_rfl
  i3 := by kernel_rfl
  i4 := by kernel_rfl
  i5 := by kernel_rfl
  i9 := by kernel_rfl
  i20 := by kernel_rfl
  i37 := by kernel_rfl
  i46 := by kernel_rfl
  i51 := by kernel_rfl
  i53 := by kernel_rfl
  i171 := by kernel_rfl
  i173 := by kernel_rfl
  i212 := by kernel_rfl
  i232 := by kernel_rfl
  i233 := by kernel_rfl
  m17 := by kernel_rfl
  m18 := by kernel_rfl
  m19 := by kernel_rfl }
def Tryz.lays190_ren : Go.Shelf.Ren := ⟨fun | 190 => 29 | 125 => 85 | 258 => 84 | 128 => 163 | 129 => 164 | 302 => 154 | 303 => 155 | 304 => 156 | 305 => 157 | 306 => 158 | 307 => 159 | 308 => 160 | 309 => 161 | 310 => 162 | 333 => 220 | 329 => 221 | 330 => 222 | 334 => 223 | 335 => 224 | 336 => 225 | 344 => 270 | n => n, fun | 31 => 54 | 9 => 9 | 3 => 3 | 46 => 135 | 0 => 0 | 51 => 206 | 53 => 208 | 4 => 4 | 183 => 199 | 182 => 198 | 131 => 177 | 5 => 5 | 218 => 253 | 222 => 257 | 228 => 292 | 229 => 210 | n => n, fun | n => n⟩
theorem Tryz.lays190 : Go.Proofs.Lays.n190 Tryz.prog Tryz.lays190_ren := {
  mixed := by kernel_rfl
  f125 := Tryz.func85.trans (congrArg some (by kernel_rfl))
  f128 := Tryz.func163.trans (congrArg some (by kernel_rfl))
  f129 := Tryz.func164.trans (congrArg some (by kernel_rfl))
  f190 := Tryz.func29.trans (congrArg some (by kernel_rfl))
  f258 := Tryz.func84.trans (congrArg some (by kernel_rfl))
  f302 := Tryz.func154.trans (congrArg some (by kernel_rfl))
  f303 := Tryz.func155.trans (congrArg some (by kernel_rfl))
  f304 := Tryz.func156.trans (congrArg some (by kernel_rfl))
  f305 := Tryz.func157.trans (congrArg some (by kernel_rfl))
  f306 := Tryz.func158.trans (congrArg some (by kernel_rfl))
  f307 := Tryz.func159.trans (congrArg some (by kernel_rfl))
  f308 := Tryz.func160.trans (congrArg some (by kernel_rfl))
  f309 := Tryz.func161.trans (congrArg some (by kernel_rfl))
  f310 := Tryz.func162.trans (congrArg some (by kernel_rfl))
  f329 := Tryz.func221.trans (congrArg some (by kernel_rfl))
  f330 := Tryz.func222.trans (congrArg some (by kernel_rfl))
  f333 := Tryz.func220.trans (congrArg some (by kernel_rfl))
  f334 := Tryz.func223.trans (congrArg some (by kernel_rfl))
  f335 := Tryz.func224.trans (congrArg some (by kernel_rfl))
  f336 := Tryz.func225.trans (congrArg some (by kernel_rfl))
  f344 := Tryz.func270.trans (congrArg some (by kernel_rfl))
  t0 := Tryz.underlying0
  a0 := Tryz.isAgg0
  z0 := Tryz.sizeOf0
  v0 := Tryz.zeroValue0
  t3 := Tryz.underlying3
  a3 := Tryz.isAgg3
  z3 := Tryz.sizeOf3
  v3 := Tryz.zeroValue3
  t4 := Tryz.underlying4
  a4 := Tryz.isAgg4
  z4 := Tryz.sizeOf4
  v4 := Tryz.zeroValue4
  t5 := Tryz.underlying5
  a5 := Tryz.isAgg5
  z5 := Tryz.sizeOf5
  v5 := Tryz.zeroValue5
  t9 := Tryz.underlying9
  a9 := Tryz.isAgg9
  z9 := Tryz.sizeOf9
  v9 := Tryz.zeroValue9
  t31 := Tryz.underlying54
  a31 := Tryz.isAgg54
  z31 := Tryz.sizeOf54
  v31 := Tryz.zeroValue54
  t46 := Tryz.underlying135
  a46 := Tryz.isAgg135
  z46 := Tryz.sizeOf135
  v46 := Tryz.zeroValue135
  t51 := Tryz.underlying206
  a51 := Tryz.isAgg206
  z51 := Tryz.sizeOf206
  v51 := Tryz.zeroValue206
  t53 := Tryz.underlying208
  a53 := Tryz.isAgg208
  z53 := Tryz.sizeOf208
  v53 := Tryz.zeroValue208
  t131 := Tryz.underlying177
  a131 := Tryz.isAgg177
  z131 := Tryz.sizeOf177
  v131 := Tryz.zeroValue177
  t182 := Tryz.underlying198
  a182 := Tryz.isAgg198
  z182 := Tryz.sizeOf198
  v182 := Tryz.zeroValue198
  t183 := Tryz.underlying199
  a183 := Tryz.isAgg199
  z183 := Tryz.sizeOf199
  v183 := Tryz.zeroValue199
  t218 := Tryz.underlying253
  a218 := Tryz.isAgg253
  z218 := Tryz.sizeOf253
  v218 := Tryz.zeroValue253
  t222 := Tryz.underlying257
  a222 := Tryz.isAgg257
  z222 := Tryz.sizeOf257
  v222 := Tryz.zeroValue257
  t228 := Tryz.underlying292
  a228 := Tryz.isAgg292
  z228 := Tryz.sizeOf292
  v228 := Tryz.zeroValue292
  t229 := Tryz.underlying210
  a229 := Tryz.isAgg210
  z229 := Tryz.sizeOf210
  v229 := Tryz.zeroValue210 }
end Go.Proofs

namespace Go.Proofs
open Go.Shelf
def Tryz.lays194_ren : Go.Shelf.Ren := ⟨fun | 194 => 30 | n => n, fun | 31 => 54 | 9 => 9 | 3 => 3 | 4 => 4 | 0 => 0 | n => n, fun | n => n⟩
theorem Tryz.lays194 : Go.Proofs.Lays.n194 Tryz.prog Tryz.lays194_ren := {
  mixed := by kernel_rfl
  f194 := Tryz.func30.trans (congrArg some (by kernel_rfl))
  t0 := Tryz.underlying0
  a0 := Tryz.isAgg0
  z0 := Tryz.sizeOf0
  v0 := Tryz.zeroValue0
  t3 := Tryz.underlying3
  a3 := Tryz.isAgg3
  z3 := Tryz.sizeOf3
  v3 := Tryz.zeroValue3
  t4 := Tryz.underlying4
  a4 := Tryz.isAgg4
  z4 := Tryz.sizeOf4
  v4 := Tryz.zeroValue4
  t9 := Tryz.underlying9
  a9 := Tryz.isAgg9
  z9 := Tryz.sizeOf9
  v9 := Tryz.zeroValue9
  t31 := Tryz.underlying54
  a31 := Tryz.isAgg54
  z31 := Tryz.sizeOf54
  v31 := Tryz.zeroValue54 }
end Go.Proofs

set_option linter.unusedVariables false
set_option linter.unusedSimpArgs false
namespace Go.Proofs.YtmalhikcdideoaaGreatDoor
open Go Sl
attribute [local irreducible] XRange LpQ XR XRo XRg XRQ putQ XFv XL XW2 wQ putW X XO XOp XH XHo XW SeqQ BlkQ XOQ XHQ NrmQ XC XM XG XHM XHG XD CallK
open Go.RowKit
theorem vals_a {w : World} {h : Hp} {a : AV} {vals : Array Value} (ha : RdL w h [a] vals) : ∃ u, vals = #[u] ∧ Rd w h a u := by
  obtain ⟨u, e, r⟩ := ha.2 0 _ rfl
  refine ⟨u, ?_, r⟩
  have h1 := ha.1
  apply Array.ext
  · simpa using h1
  · intro i h2 h3
    match i, h3 with
    | 0, _ => rw [Array.getElem?_eq_getElem h2] at e; simpa using e
/-- An own row is written by a callee that is not of this layer. -/
theorem put_rel {w w' : World} {h : Hp} {b : Nat} {o : Ob} {c c' : Array Value} (hh : RelH w h) (hb : h b = some o) (hs : 0 < o.s) (hc : w.heap[b]? = some (.cells c o.ty (0, 0))) (hsz : w.heap.size ≤ w'.heap.size)
    (hoth : ∀ k, k < w.heap.size → k ≠ b → w'.heap[k]? = w.heap[k]?) (hb' : w'.heap[b]? = some (.cells c' o.ty (0, 0))) (hcs : c'.size = c.size) (hn : o.n * o.s ≤ c.size) (f' : Nat → Nat → AV)
    (hf : ∀ i, i < o.n → ∀ j, j < o.s → ∃ x, c'[i * o.s + j]? = some x ∧ x.oneCell' = true ∧ ∀ (w'' : World) (h'' : Hp), Rd w'' h'' (f' i j) x) :
    Stp w h w' (upd h b (some { o with f := f' })) ∧ RelH w' (upd h b (some { o with f := f' })) := by
  have st : Stp w h w' (upd h b (some { o with f := f' })) := by
    refine ⟨hsz, fun k hk hn => hoth k hk (fun e => by subst e; rw [hb] at hn; cases hn), fun k hk hn => ?_, fun k o' hk ho' => ?_⟩
    · rw [upd_ne _ _ (fun e => by subst e; rw [hb] at hn; cases hn)]; exact hn
    · by_cases hkb : k = b
      · subst hkb
        rw [upd_same] at ho'
        cases ho'
        exact ⟨o, hb, rfl, fun c2 fr h2 => by rw [hc] at h2; cases h2; exact ⟨c', (0, 0), hb', hcs⟩⟩
      · rw [upd_ne _ _ hkb] at ho'
        exact ⟨o', ho', rfl, fun c2 fr h2 => ⟨c2, fr, (hoth k hk hkb).trans h2, rfl⟩⟩
  refine ⟨st, fun k ok hk => ?_, hh.glob.step st⟩
  by_cases hkb : k = b
  · subst hkb
    rw [upd_same] at hk
    cases hk
    unfold HeldH
    rw [if_neg (by simp; omega)]
    exact ⟨c', hb', by rw [hcs]; exact hn, hs, fun i hi j hj => by obtain ⟨x, h1, h2, h3⟩ := hf i hi j hj; exact ⟨x, h1, h2, h3 _ _⟩⟩
  · rw [upd_ne _ _ hkb] at hk
    exact (hh.own k ok hk).step st (hoth k (hh.lt hk) hkb)
/-- The cells of a row of texts. -/
theorem row_holds {w : World} {h : Hp} {b : Nat} {o : Ob} {l : List ByteArray} (hh : RelH w h) (hb : h b = some o) (o1 : o.s = 1) (on : o.n = l.length) (hf : ∀ i, i < l.length → o.f i 0 = cellsL cS l i 0) :
    ∃ c, w.heap[b]? = some (.cells c o.ty (0, 0)) ∧ l.length ≤ c.size ∧ Go.Sort.Holds encStr w b 0 (l.map tB).toArray := by
  have hx := hh.own b o hb
  unfold HeldH at hx
  rw [if_neg (by omega)] at hx
  obtain ⟨c, hc, hn, _, hcell⟩ := hx
  rw [o1, on, Nat.mul_one] at hn
  refine ⟨c, hc, hn, fun j hj => ?_⟩
  have hj' : j < l.length := by simpa using hj
  have hlj : l[j]? = some l[j] := List.getElem?_eq_getElem hj'
  obtain ⟨x, h1, _, h3⟩ := hcell j (by omega) 0 (by omega)
  rw [hf j hj', cellsL_at hlj] at h3
  obtain rfl : x = .string l[j] := h3
  rw [o1, Nat.mul_one, Nat.add_zero] at h1
  refine ⟨?_, ?_⟩
  · rw [Nat.zero_add]
    unfold World.cell?
    simp only [hc]
    rw [h1, getElem!_pos _ j hj]
    simp [tB, encStr]
  · unfold World.frozen?
    simp only [hc]
    simp
theorem put_heap {w : World} {b q : Nat} {c : Array Value} {ty : TypeId} {d : Array Bs} (hc : w.heap[b]? = some (.cells c ty (0, 0))) (os : Array Obj) :
    (Go.Sort.grow (Go.Sort.putRow encStr (Go.Sort.ahead w q) b 0 d) os).heap[b]? = some (.cells (Go.Sort.putCells encStr 0 d c) ty (0, 0)) ∧
    w.heap.size ≤ (Go.Sort.grow (Go.Sort.putRow encStr (Go.Sort.ahead w q) b 0 d) os).heap.size ∧
    ∀ k, k < w.heap.size → k ≠ b → (Go.Sort.grow (Go.Sort.putRow encStr (Go.Sort.ahead w q) b 0 d) os).heap[k]? = w.heap[k]? := by
  have hblt : b < w.heap.size := (Array.getElem?_eq_some_iff.1 hc).1
  have hsz : (Go.Sort.putRow encStr (Go.Sort.ahead w q) b 0 d).heap.size = w.heap.size := by rw [Go.Sort.size_putRow]; rfl
  have hold : ∀ k, k < w.heap.size → (Go.Sort.grow (Go.Sort.putRow encStr (Go.Sort.ahead w q) b 0 d) os).heap[k]? = (Go.Sort.putRow encStr (Go.Sort.ahead w q) b 0 d).heap[k]? := fun k hk => by
    unfold Go.Sort.grow
    rw [Array.getElem?_append_left (by rw [hsz]; exact hk)]
  have hah : (Go.Sort.ahead w q).heap = w.heap := rfl
  refine ⟨?_, ?_, fun k hk hkb => ?_⟩
  · rw [hold b hblt]
    unfold Go.Sort.putRow Go.Sort.mapBlock
    simp only [hah, Array.getElem?_modify, if_true, hc, Option.map_some, Go.Sort.onCells]
  · unfold Go.Sort.grow
    simp only [Array.size_append]
    rw [hsz]; omega
  · rw [hold k hk]
    unfold Go.Sort.putRow Go.Sort.mapBlock
    simp only [hah, Array.getElem?_modify, if_neg (Ne.symm hkb)]
theorem putCells_at {c : Array Value} {d : Array Bs} {j : Nat} (h1 : j < d.size) (h2 : d.size ≤ c.size) : (Go.Sort.putCells encStr 0 d c)[j]? = some (encStr d[j]) := by
  unfold Go.Sort.putCells
  rw [Array.getElem?_mapIdx, Array.getElem?_eq_getElem (by omega), Option.map_some, if_pos (by omega), Nat.sub_zero, getElem!_pos d j h1]
set_option maxHeartbeats 2000000 in
/-- slices.Sort on an own row of texts. -/
theorem sort_row {h : Hp} {b : Nat} {o : Ob} (l : List ByteArray) (hl : l.length ≤ 1000000000000) (hb : h b = some o) (o1 : o.s = 1) (on : o.n = l.length) (hf : ∀ i, i < l.length → o.f i 0 = cellsL cS l i 0) :
    CallK Tryz.prog h 29 [.row b 1 0 l.length] fun r h' => r = un ∧ h' = upd h b (some { o with f := cellsL cS (sortB l) }) := by
  unfold CallK
  intro w vals hh ha
  obtain ⟨u, rfl, cap, rfl, hcap, hblt, hmx, hrow⟩ := vals_a ha
  obtain ⟨c, hc, hn, hH⟩ := row_holds hh hb o1 on hf
  have hlen : (l.map tB).length = l.length := by simp
  have hg := Any.slices_Sort_string Tryz.lays190 b 0 cap (l.map tB) w hH hblt (by rw [hlen]; omega)
  rw [hlen] at hg
  rw [Nat.zero_mul]
  refine hg.mono ?_
  rintro e w' ⟨rfl, q, os, rfl⟩
  obtain ⟨p1, p2, p3⟩ := put_heap (q := q) (d := ((l.map tB).mergeSort fun x y => decide (x ≤ y)).toArray) hc os
  have hds : ((l.map tB).mergeSort fun x y => decide (x ≤ y)).toArray.size = l.length := by simp
  obtain ⟨st, rh⟩ := put_rel hh hb (by omega) hc p2 p3 p1 (by simp [Go.Sort.putCells]) (by rw [o1, on]; omega) (cellsL cS (sortB l)) (fun i hi j hj => by
    obtain rfl : j = 0 := by omega
    rw [on] at hi
    have hsl : (sortB l).length = l.length := by simp [sortB]
    have hx : (sortB l)[i]? = some (sortB l)[i] := List.getElem?_eq_getElem (by omega)
    refine ⟨_, by rw [o1, Nat.mul_one, Nat.add_zero]; exact putCells_at (by omega) (by omega), rfl, fun w'' h'' => ?_⟩
    rw [cellsL_at hx]
    show _ = Value.string (sortB l)[i]
    simp [sortB, encStr, bOf])
  exact ⟨_, _, _, rfl, ⟨rfl, rfl⟩, rfl, rh, ⟨rfl, rfl, rfl⟩, st⟩
set_option maxHeartbeats 2000000 in
/-- slices.Compact on an own row of texts: the first part of the row. -/
theorem compact_row {h : Hp} {b : Nat} {o : Ob} (l : List ByteArray) (hl : l.length ≤ 1000000000000) (hb : h b = some o) (o1 : o.s = 1) (on : o.n = l.length) (hf : ∀ i, i < l.length → o.f i 0 = cellsL cS l i 0) :
    CallK Tryz.prog h 30 [.row b 1 0 l.length] fun r h' => r = .row b 1 0 (compB l).length ∧ ∃ f', h' = upd h b (some { o with f := f' }) ∧ (compB l).length ≤ o.n ∧ ∀ i, i < (compB l).length → f' i 0 = cellsL cS (compB l) i 0 := by
  unfold CallK
  intro w vals hh ha
  obtain ⟨u, rfl, cap, rfl, hcap, hblt, hmx, hrow⟩ := vals_a ha
  obtain ⟨c, hc, hn, hH⟩ := row_holds hh hb o1 on hf
  have hlen : (l.map tB).length = l.length := by simp
  have hg := Any.slices_Compact_string Tryz.lays194 b 0 cap (l.map tB) w hH (by rw [hlen]; omega) (by rw [hlen]; exact hcap)
  rw [hlen] at hg
  rw [Nat.zero_mul]
  refine hg.mono ?_
  rintro e w' ⟨rfl, q, rfl⟩
  have hcl : (Lib.compact (l.map tB)).length ≤ l.length := by
    unfold Lib.compact Lib.compactUpTo
    rw [List.length_map, hlen]
    exact Nat.le_trans (List.length_filter_le ..) (by simp)
  have hcb : (compB l).length = (Lib.compact (l.map tB)).length := by simp [compB]
  have hgr : ∀ W : World, W = Go.Sort.grow W #[] := fun W => (Go.Sort.grow_empty W).symm
  obtain ⟨p1, p2, p3⟩ := put_heap (q := q) (d := (Lib.compact (l.map tB) ++ List.replicate (l.length - (Lib.compact (l.map tB)).length) []).toArray) hc #[]
  rw [← hgr] at p1 p2 p3
  have hds : (Lib.compact (l.map tB) ++ List.replicate (l.length - (Lib.compact (l.map tB)).length) []).toArray.size = l.length := by simp; omega
  obtain ⟨st, rh⟩ := put_rel hh hb (by omega) hc p2 p3 p1 (by simp [Go.Sort.putCells]) (by rw [o1, on]; omega) (fun i _ => S (bOf ((Lib.compact (l.map tB) ++ List.replicate (l.length - (Lib.compact (l.map tB)).length) []).getD i []))) (fun i hi j hj => by
    obtain rfl : j = 0 := by omega
    rw [on] at hi
    refine ⟨_, by rw [o1, Nat.mul_one, Nat.add_zero]; exact putCells_at (by omega) (by omega), rfl, fun w'' h'' => ?_⟩
    show _ = Value.string (bOf _)
    rw [List.getD_eq_getElem?_getD, List.getElem?_eq_getElem (by rw [List.size_toArray] at hds; omega)]
    simp [encStr, bOf])
  refine ⟨_, _, _, rfl, ⟨rfl, _, rfl, by omega, fun i hi => ?_⟩, ?_, rh, ⟨rfl, rfl, rfl⟩, st⟩
  · have hx : (compB l)[i]? = some (compB l)[i] := List.getElem?_eq_getElem hi
    rw [cellsL_at hx]
    simp only [compB, List.length_map] at hi
    show S (bOf _) = S _
    rw [List.getD_eq_getElem?_getD, List.getElem?_append_left hi, List.getElem?_eq_getElem hi]
    simp [compB]
  · refine ⟨cap, by rw [hcb, Nat.zero_mul], by omega, Nat.lt_of_lt_of_le hblt p2, hmx, fun o' ho' => ?_⟩
    rw [upd_same] at ho'
    cases ho'
    obtain ⟨c2, fr2, e1, e2⟩ := hrow o hb
    rw [hc] at e1
    cases e1
    exact ⟨_, _, p1, by rw [← e2]; simp [Go.Sort.putCells]⟩
/-- slices.Compact on an empty slice. -/
theorem compact_none (h : Hp) : CallK Tryz.prog h 30 [.v (.slice none 0 0)] fun r h' => r = .v (.slice none 0 0) ∧ h' = h := by
  unfold CallK
  intro w vals hh ha
  obtain ⟨_, rfl, rfl⟩ := vals_a ha
  refine (Any.slices_Compact_string_empty Tryz.lays194 none 0 w).mono ?_
  rintro e w' ⟨rfl, rfl⟩
  exact ⟨_, _, h, rfl, ⟨rfl, rfl⟩, rfl, hh, ⟨rfl, rfl, rfl⟩, Stp.refl _ _⟩
theorem compact_e0 (h : Hp) : CallK Tryz.prog h 30 [.e0] fun r h' => r = .e0 ∧ h' = h := by
  unfold CallK
  intro w vals hh ha
  obtain ⟨u, rfl, A, rfl⟩ := vals_a ha
  refine (Any.slices_Compact_string_empty Tryz.lays194 A 0 w).mono ?_
  rintro e w' ⟨rfl, rfl⟩
  exact ⟨_, _, h, rfl, ⟨rfl, rfl⟩, ⟨A, rfl⟩, hh, ⟨rfl, rfl, rfl⟩, Stp.refl _ _⟩
end Go.Proofs.YtmalhikcdideoaaGreatDoor

set_option linter.unusedVariables false
set_option linter.unusedSimpArgs false
namespace Go.Proofs.YtmalhikcdideoaaGreatDoor
open Go Sl
attribute [local irreducible] XRange LpQ XR XRo XRg XRQ putQ XFv XL XW2 wQ putW X XO XOp XH XHo XW SeqQ BlkQ XOQ XHQ NrmQ XC XM XG XHM XHG XD CallK
open Go.RowKit
open Classical in
/-- The heap without a slice of the call's own. -/
theorem own_hole {h0 h : Hp} {a : AV} {e : TypeId} {s n : Nat} {f : Nat → Nat → AV} (oa : Own h0 h a e s n f) : ∃ H : Hp, Own H h a e s n f ∧ Sub h0 H ∧ ∀ d od, h d = some od → a ≠ .row d s 0 n → H d = some od := by
  have hH : ∀ c oc, h0 c = some oc → ¬ a = .row c s 0 n := fun c oc hc ha => by
    rcases oa.2 with ⟨_, h1 | h1⟩ | ⟨gb, og, h1, h2, _⟩
    · rw [ha] at h1; cases h1
    · rw [ha] at h1; cases h1
    · rw [ha] at h1; cases h1; rw [hc] at h2; cases h2
  refine ⟨fun c => if a = .row c s 0 n then Option.none else h c, ⟨fun c oc hc => ?_, ?_⟩, fun c oc hc => ?_, fun d od hd hne => ?_⟩
  · simp only at hc
    split at hc
    · cases hc
    · exact hc
  · rcases oa.2 with h1 | ⟨gb, og, h1, h2, h3⟩
    · exact .inl h1
    · exact .inr ⟨gb, og, h1, by simp only [h1, if_true], h3⟩
  · simp only [if_neg (hH c oc hc)]
    exact oa.1 c oc hc
  · simp only [if_neg hne]
    exact hd
theorem own_up {h0 H h1 : Hp} {a : AV} {e : TypeId} {s n : Nat} {f : Nat → Nat → AV} (hS : Sub h0 H) (o : Own H h1 a e s n f) : Own h0 h1 a e s n f := by
  refine ⟨hS.trans o.1, ?_⟩
  rcases o.2 with h1 | ⟨gb, og, h1, h2, h3⟩
  · exact .inl h1
  · refine .inr ⟨gb, og, h1, ?_, h3⟩
    cases hx : h0 gb with
    | none => rfl
    | some oc => have := hS gb oc hx; rw [h2] at this; cases this
/-- Another slice is left alone. -/
theorem own_keep {h0 H h h1 : Hp} {a t : AV} {e' : TypeId} {s n s' m : Nat} {q : Nat → Nat → AV} (hS : Sub h0 H) (hk : ∀ d od, h d = some od → a ≠ .row d s 0 n → H d = some od) (h01 : Sub H h1) (o : Own h0 h t e' s' m q) (hd : ∀ c, a = .row c s 0 n → t = .row c s' 0 m → False) : Own h0 h1 t e' s' m q := by
  refine ⟨hS.trans h01, ?_⟩
  rcases o.2 with h1 | ⟨gb, og, h1, h2, h3, h4⟩
  · exact .inl h1
  · exact .inr ⟨gb, og, h1, h2, h01 _ _ (hk gb og h3 fun ha => hd gb ha h1), h4⟩
theorem own_apart {h0 H h h1 : Hp} {a a1 t : AV} {e e' : TypeId} {s n n1 s' m : Nat} {f1 q : Nat → Nat → AV} (hk : ∀ d od, h d = some od → a ≠ .row d s 0 n → H d = some od) (o1 : Own H h1 a1 e s n1 f1) (o : Own h0 h t e' s' m q) (hd : ∀ c, a = .row c s 0 n → t = .row c s' 0 m → False) : ∀ c, a1 = .row c s 0 n1 → t = .row c s' 0 m → False := by
  intro c hc hc'
  rcases o.2 with ⟨_, h1 | h1⟩ | ⟨gb, og, h1, h2, h3, h4⟩
  · rw [hc'] at h1; cases h1
  · rw [hc'] at h1; cases h1
  · rw [hc'] at h1
    cases h1
    have h5 := hk c og h3 fun ha => hd c ha hc'
    rcases o1.2 with ⟨_, h6 | h6⟩ | ⟨gb, og', h6, h7, _⟩
    · rw [hc] at h6; cases h6
    · rw [hc] at h6; cases h6
    · rw [hc] at h6
      cases h6
      rw [h7] at h5
      cases h5
/-- Slices of other elements are apart. -/
theorem own_apartT {h0 h0' h : Hp} {a t : AV} {e e' : TypeId} {s n s' m : Nat} {f q : Nat → Nat → AV} (oa : Own h0 h a e s n f) (ot : Own h0' h t e' s' m q) (hne : s ≠ s') : ∀ c, a = .row c s 0 n → t = .row c s' 0 m → False := by
  intro c hc hc'
  rcases oa.2 with ⟨_, h1 | h1⟩ | ⟨gb, og, h1, h2, h3, h4, _⟩
  · rw [hc] at h1; cases h1
  · rw [hc] at h1; cases h1
  · rcases ot.2 with ⟨_, h6 | h6⟩ | ⟨gb', og', h6, h7, h8, h9, _⟩
    · rw [hc'] at h6; cases h6
    · rw [hc'] at h6; cases h6
    · rw [hc] at h1
      rw [hc'] at h6
      cases h1
      cases h6
      rw [h3] at h8
      cases h8
      exact hne (h4.symm.trans h9)
/-- A slice of the call's own, perhaps a part of its block. -/
def OwnC (h0 h : Hp) (r : AV) (e : TypeId) (s n : Nat) (f : Nat → Nat → AV) : Prop :=
  Sub h0 h ∧ ((n = 0 ∧ (r = .v (.slice none 0 0) ∨ r = .e0)) ∨ ∃ b o, r = .row b s 0 n ∧ h0 b = none ∧ h b = some o ∧ o.s = s ∧ o.ty = e ∧ n ≤ o.n ∧ ∀ i, i < n → ∀ j, j < s → o.f i j = f i j)
theorem ownC_up {h0 H h1 : Hp} {a : AV} {e : TypeId} {s n : Nat} {f : Nat → Nat → AV} (hS : Sub h0 H) (o : OwnC H h1 a e s n f) : OwnC h0 h1 a e s n f := by
  refine ⟨hS.trans o.1, ?_⟩
  rcases o.2 with h1 | ⟨gb, og, h1, h2, h3⟩
  · exact .inl h1
  · refine .inr ⟨gb, og, h1, ?_, h3⟩
    cases hx : h0 gb with
    | none => rfl
    | some oc => have := hS gb oc hx; rw [h2] at this; cases this
theorem ownC_frozen {h0 h : Hp} {a : AV} {e : TypeId} {s n : Nat} {f : Nat → Nat → AV} (o : OwnC h0 h a e s n f) (h3 : n ≤ 140737488355328) : Wk h a h0 (.sl s n f) := by
  rcases o with ⟨hs, ⟨rfl, h1 | h1⟩ | ⟨b, ob, rfl, h2, h4, h5, h6, h7, h8⟩⟩
  · subst h1
    exact Own.frozen (e := e) ⟨hs, .inl ⟨rfl, .inl rfl⟩⟩ h3
  · subst h1
    exact Own.frozen (e := e) ⟨hs, .inl ⟨rfl, .inr rfl⟩⟩ h3
  · exact Wk.rowF h4 hs h2 h5 h7 h3 h8
theorem ownC_keep {h0 H h h1 : Hp} {a t : AV} {e' : TypeId} {s n s' m : Nat} {q : Nat → Nat → AV} (hS : Sub h0 H) (hk : ∀ d od, h d = some od → a ≠ .row d s 0 n → H d = some od) (h01 : Sub H h1) (o : OwnC h0 h t e' s' m q) (hd : ∀ c, a = .row c s 0 n → t = .row c s' 0 m → False) : OwnC h0 h1 t e' s' m q := by
  refine ⟨hS.trans h01, ?_⟩
  rcases o.2 with h1 | ⟨gb, og, h1, h2, h3, h4⟩
  · exact .inl h1
  · exact .inr ⟨gb, og, h1, h2, h01 _ _ (hk gb og h3 fun ha => hd gb ha h1), h4⟩
theorem own_apartC {h0 H h h1 : Hp} {a a1 t : AV} {e e' : TypeId} {s n n1 s' m : Nat} {f1 q : Nat → Nat → AV} (hk : ∀ d od, h d = some od → a ≠ .row d s 0 n → H d = some od) (o1 : OwnC H h1 a1 e s n1 f1) (o : Own h0 h t e' s' m q) (hd : ∀ c, a = .row c s 0 n → t = .row c s' 0 m → False) : ∀ c, a1 = .row c s 0 n1 → t = .row c s' 0 m → False := by
  intro c hc hc'
  rcases o.2 with ⟨_, h1 | h1⟩ | ⟨gb, og, h1, h2, h3, h4⟩
  · rw [hc'] at h1; cases h1
  · rw [hc'] at h1; cases h1
  · rw [hc'] at h1
    cases h1
    have h5 := hk c og h3 fun ha => hd c ha hc'
    rcases o1.2 with ⟨_, h6 | h6⟩ | ⟨gb, og', h6, h7, _⟩
    · rw [hc] at h6; cases h6
    · rw [hc] at h6; cases h6
    · rw [hc] at h6
      cases h6
      rw [h7] at h5
      cases h5
theorem own_row {h0 h : Hp} {a : AV} {e : TypeId} {s n : Nat} {f : Nat → Nat → AV} (o : Own h0 h a e s n f) (hn : 0 < n) : ∃ d, a = .row d s 0 n := by
  rcases o.2 with ⟨h1, _⟩ | ⟨d, od, h1, _⟩
  · omega
  · exact ⟨d, h1⟩
end Go.Proofs.YtmalhikcdideoaaGreatDoor
