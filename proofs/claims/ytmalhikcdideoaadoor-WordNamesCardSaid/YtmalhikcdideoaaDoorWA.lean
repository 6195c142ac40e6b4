/- Tokens: what is specified, in plain Lean. -/
import Derived.Test.YtmalhikcdideoaaDoorFacts
set_option linter.unusedVariables false
set_option linter.unusedSimpArgs false
namespace Go.Proofs.YtmalhikcdideoaaDoor
open Go Sl
attribute [local irreducible] LpQ XR XRo XRg XRQ putQ XFv XL XW2 wQ putW X XO XOp XH XHo XW SeqQ BlkQ XOQ XHQ NrmQ XC XM XG XHM XHG XD CallK

abbrev I (n : Int) : AV := .v (.int .i64 n)
abbrev B (b : Bool) : AV := .v (.bool b)
abbrev S (s : ByteArray) : AV := .v (.string s)
abbrev U8 (c : UInt8) : AV := .v (.int .u8 c.toNat)
@[go_sem] def cS (s : ByteArray) : List AV := [S s]

def isLetter (c : UInt8) : Bool := decide (97 ≤ c.toNat ∧ c.toNat ≤ 122)
def isDigit (c : UInt8) : Bool := decide (48 ≤ c.toNat ∧ c.toNat ≤ 57)
def isInner (c : UInt8) : Bool := isLetter c || isDigit c || decide (c.toNat = 45)
def isNum (c : UInt8) : Bool := isDigit c || decide (c.toNat = 46) || decide (c.toNat = 45) || decide (c.toNat = 37)
def isSign (c : UInt8) : Bool := decide (c.toNat = 58 ∨ c.toNat = 59 ∨ c.toNat = 44 ∨ c.toNat = 40 ∨ c.toNat = 41)
def keysB : List ByteArray := [⟨#[97, 99, 116]⟩, ⟨#[97, 110, 100]⟩, ⟨#[97, 114, 116, 105, 99, 108, 101]⟩, ⟨#[97, 116, 45, 109, 111, 115, 116]⟩, ⟨#[97, 116, 116, 114, 105, 98, 117, 116, 101]⟩, ⟨#[98, 97, 115, 101]⟩, ⟨#[98, 101, 108, 111, 119]⟩, ⟨#[98, 111, 111, 108]⟩, ⟨#[99, 111, 117, 110, 116]⟩, ⟨#[100, 97, 116, 101]⟩, ⟨#[100, 97, 121, 115]⟩, ⟨#[100, 111, 119, 110]⟩, ⟨#[101, 108, 115, 101]⟩, ⟨#[101, 110, 97, 99, 116, 101, 100]⟩, ⟨#[101, 113, 117, 97, 108, 115]⟩, ⟨#[102, 97, 108, 115, 101]⟩, ⟨#[102, 114, 111, 109]⟩, ⟨#[103, 105, 118, 101, 115]⟩, ⟨#[103, 114, 101, 97, 116, 101, 115, 116]⟩, ⟨#[104, 97, 108, 102]⟩, ⟨#[104, 97, 108, 102, 45, 111, 117, 116]⟩, ⟨#[104, 97, 108, 102, 45, 116, 119, 111]⟩, ⟨#[105, 102]⟩, ⟨#[105, 110, 112, 117, 116]⟩, ⟨#[105, 115]⟩, ⟨#[108, 101, 97, 115, 116]⟩, ⟨#[108, 101, 118, 101, 108]⟩, ⟨#[109, 105, 110, 117, 115]⟩, ⟨#[109, 111, 110, 101, 121]⟩, ⟨#[110, 111, 116]⟩, ⟨#[110, 117, 109, 98, 101, 114]⟩, ⟨#[111, 102]⟩, ⟨#[111, 114]⟩, ⟨#[111, 118, 101, 114]⟩, ⟨#[112, 108, 117, 115]⟩, ⟨#[114, 111, 117, 110, 100]⟩, ⟨#[115, 99, 97, 108, 101]⟩, ⟨#[115, 104, 97, 114, 101]⟩, ⟨#[115, 108, 105, 99, 101, 115]⟩, ⟨#[116, 97, 98, 108, 101]⟩, ⟨#[116, 104, 101, 110]⟩, ⟨#[116, 105, 109, 101, 115]⟩, ⟨#[116, 111]⟩, ⟨#[116, 111, 116, 97, 108]⟩, ⟨#[116, 114, 117, 101]⟩, ⟨#[117, 112]⟩, ⟨#[119, 101, 105, 103, 104, 116]⟩, ⟨#[119, 104, 101, 110]⟩, ⟨#[121, 101, 97, 114, 115]⟩]
def isKey (s : ByteArray) : Bool := keysB.any fun k => decide (s = k)
/-- A token: its kind, its text, its line. -/
structure Tok where
  kind : Int
  text : ByteArray
  line : Int
deriving DecidableEq
@[go_sem] def cT (t : Tok) : List AV := [I t.kind, S t.text, I t.line]
def digitNext : List UInt8 → Bool
  | [] => false
  | d :: _ => isDigit d
/-- The kind and the length of the token at the head. -/
def oneF (c : UInt8) (r : List UInt8) : Int × Nat :=
  if isLetter c then
    let n := 1 + (r.takeWhile isInner).length
    if isKey (bOf ((c :: r).take n)) then (2, n) else if 20 < n then (0, 0) else (1, n)
  else if isDigit c || (decide (c.toNat = 45) && digitNext r) then (3, 1 + (r.takeWhile isNum).length)
  else if isSign c then (4, 1) else (0, 0)
def scanW : List UInt8 → Int → List Tok → List Tok × Int × Int
  | [], _, out => (out, 0, 0)
  | c :: r, line, out =>
    if c.toNat = 32 ∨ c.toNat = 10 then scanW r (if c.toNat = 10 then line + 1 else line) out
    else if (oneF c r).1 = 0 then ([], line, 14)
    else scanW (r.drop ((oneF c r).2 - 1)) line (out ++ [⟨(oneF c r).1, bOf ((c :: r).take (oneF c r).2), line⟩])
termination_by l => l.length
decreasing_by
  all_goals simp
  omega
theorem oneF_pos (c : UInt8) (r : List UInt8) (h : (oneF c r).1 ≠ 0) : 1 ≤ (oneF c r).2 ∧ (oneF c r).2 ≤ r.length + 1 := by
  have h1 := (List.takeWhile_prefix (l := r) isInner).length_le
  have h2 := (List.takeWhile_prefix (l := r) isNum).length_le
  have key : ∀ x : Int × Nat, (x = (2, 1 + (r.takeWhile isInner).length) ∨ x = (0, 0) ∨ x = (1, 1 + (r.takeWhile isInner).length) ∨ x = (3, 1 + (r.takeWhile isNum).length) ∨ x = (4, 1)) → x.1 ≠ 0 → 1 ≤ x.2 ∧ x.2 ≤ r.length + 1 := by
    rintro x (rfl | rfl | rfl | rfl | rfl) hx <;> first | (exact absurd rfl hx) | (dsimp only; omega)
  refine key _ ?_ h
  unfold oneF
  dsimp only
  repeat' split
  all_goals simp
/-- All of it, when it is not too large. -/
def linesF (s : ByteArray) : List Tok × Int × Int := if 30000 < s.size then ([], 0, 2) else scanW s.data.toList 1 []
end Go.Proofs.YtmalhikcdideoaaDoor
