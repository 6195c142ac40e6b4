/- The semantic layer, second part: the operations that only reckon or read, as a function on abstract values; that the machine's operation does the same. -/
import Derived.Test.YtmalhikcdideoaaGreatDoorSlA
import Derived.Laws.Entries
import Derived.Laws.Cells
import Derived.Deep.MidRow
import Derived.Laws.StructEq
set_option linter.unusedVariables false
set_option linter.unusedSimpArgs false
namespace Go.Proofs.YtmalhikcdideoaaGreatDoor.Sl
open Go Go.RowKit

def TypeDesc.aggB : TypeDesc → Bool
  | .struct _ | .array _ _ => true
  | _ => false
/-- A type's cells, and whether its values are rows. -/
def ldT (P : Program) (t : TypeId) : Option (Nat × Bool) :=
  match P.underlying t, P.info? t with
  | some d, some i => some (i.size, TypeDesc.aggB d)
  | _, _ => none
/-- A field's place, its cells, whether it is a row. -/
def fldT (P : Program) (s : TypeId) (f : Nat) : Option (Nat × Nat × Bool) :=
  match P.underlying s with
  | some (.struct fs) => match fs[f]? with
    | some fl => match ldT P fl.type with
      | some (n, b) => some (fl.offset, n, b)
      | none => none
    | none => none
  | _ => none
/-- A slice type's element: its cells, whether it is a row. -/
def eltT (P : Program) (t : TypeId) : Option (Nat × Bool) :=
  match P.underlying t with
  | some (.slice e) => ldT P e
  | _ => none

/-- An array type's length, its element's cells, whether these are a row. -/
def arrT (P : Program) (t : TypeId) : Option (Nat × Nat × Bool) :=
  match P.underlying t with
  | some (.array n e) => match ldT P e with
    | some (s, b) => some (n, s, b)
    | none => none
  | _ => none

section
variable {P : Program}
theorem run_isAgg_ld {t : TypeId} {n : Nat} {b : Bool} (h : ldT P t = some (n, b)) (w : World) : (isAgg t).run P w = .ok b w := by
  unfold ldT at h
  split at h
  · rename_i d i hd hi
    simp only [Option.some.injEq, Prod.mk.injEq] at h
    obtain ⟨_, rfl⟩ := h
    unfold isAgg
    rw [Sem.run_bind, run_underlying hd]
    cases d <;> simp [TypeDesc.aggB]
  · cases h
theorem run_sizeOf_ld {t : TypeId} {n : Nat} {b : Bool} (h : ldT P t = some (n, b)) (w : World) : (sizeOf t).run P w = .ok n w := by
  unfold ldT at h
  split at h
  · rename_i d i hd hi
    simp only [Option.some.injEq, Prod.mk.injEq] at h
    obtain ⟨rfl, _⟩ := h
    simp [sizeOf, typeInfo, hi]
  · cases h
end

/-- Between two whole numbers. -/
def binI (op : BinOp) (k : IntKind) (a b : Int) : Option Value :=
  match op with
  | .add => some (.int k (k.wrap (a + b)))
  | .sub => some (.int k (k.wrap (a - b)))
  | .mul => some (.int k (k.wrap (a * b)))
  | .quo => if b = 0 then none else some (.int k (k.wrap (a.tdiv b)))
  | .rem => if b = 0 then none else some (.int k (a.tmod b))
  | .and => some (.int k (k.wrap (BitVec.ofInt k.bits a &&& BitVec.ofInt k.bits b).toNat))
  | .or => some (.int k (k.wrap (BitVec.ofInt k.bits a ||| BitVec.ofInt k.bits b).toNat))
  | .xor => some (.int k (k.wrap (BitVec.ofInt k.bits a ^^^ BitVec.ofInt k.bits b).toNat))
  | .andNot => some (.int k (k.wrap (BitVec.ofInt k.bits a &&& ~~~ BitVec.ofInt k.bits b).toNat))
  | .eql => some (.bool (decide (a = b)))
  | .neq => some (.bool (!decide (a = b)))
  | .lss => some (.bool (decide (a < b)))
  | .leq => some (.bool (decide (a ≤ b)))
  | .gtr => some (.bool (decide (b < a)))
  | .geq => some (.bool (decide (b ≤ a)))
  | _ => none
/-- Between two texts. -/
def binS (op : BinOp) (a b : ByteArray) : Option Value :=
  match op with
  | .add => if a.size + b.size ≤ 9223372036854775807 then some (.string (a ++ b)) else none
  | .eql => some (.bool (a.toList == b.toList))
  | .neq => some (.bool (!(a.toList == b.toList)))
  | .lss => some (.bool (Op.bytesLess a.toList b.toList))
  | .leq => some (.bool (Op.bytesLess a.toList b.toList || a.toList == b.toList))
  | .gtr => some (.bool (!(Op.bytesLess a.toList b.toList || a.toList == b.toList)))
  | .geq => some (.bool (!Op.bytesLess a.toList b.toList))
  | _ => none
def isNilSl : AV → Option Bool
  | .v (.slice none _ _) => some true
  | .v (.slice (some _) _ _) => some false
  | .row _ _ _ _ => some false
  | .sl _ n _ => if 0 < n then some false else none
  | _ => none
def binA (P : Program) (op : BinOp) (t : TypeId) (x y : AV) : Option Value :=
  match op, x, y with
  | .shl, .v (.int k a), .v (.int yk b) => if b < 0 then none else some (.int k (k.wrap (a * 2 ^ (min b.toNat k.bits))))
  | .shr, .v (.int k a), .v (.int yk b) => if b < 0 then none else some (.int k (a.fdiv (2 ^ (min b.toNat k.bits))))
  | op, .v (.int k a), .v (.int k' b) => if k = k' then binI op k a b else none
  | op, .v (.string a), .v (.string b) => binS op a b
  | .eql, .v (.bool a), .v (.bool b) => match P.underlying t with
    | some .bool => some (.bool (a == b))
    | _ => none
  | .neq, .v (.bool a), .v (.bool b) => match P.underlying t with
    | some .bool => some (.bool (!(a == b)))
    | _ => none
  | _, _, _ => none

section
variable {P : Program}
theorem binI_run {op : BinOp} {k : IntKind} {a b : Int} {u : Value} (h : binI op k a b = some u) (hs : op ≠ .shl) (hr : op ≠ .shr) (t : TypeId) (w : World) : (binOp op t (.int k a) (.int k b)).run P w = .ok u w := by
  cases op <;> simp only [binI, Option.some.injEq, reduceCtorEq] at h <;> first
    | (subst h; simp [binOp, Op.intArith, Op.intBits, Op.intCmp]; done)
    | (subst h; simp [binOp, Op.intArith, Op.intBits, Op.intCmp, BEq.beq, bne]; done)
    | (split at h
       · cases h
       · rename_i hb; simp only [Option.some.injEq] at h; subst h; simp [binOp, Op.intDiv, hb])
    | (subst h; simp only [binOp, Op.intCmp, ne_eq, not_true_eq_false, if_false, Sem.run_pure, bne]; congr 2)
    | (exact absurd rfl hs)
    | (exact absurd rfl hr)
theorem binS_run {op : BinOp} {a b : ByteArray} {u : Value} (h : binS op a b = some u) (t : TypeId) (w : World) : (binOp op t (.string a) (.string b)).run P w = .ok u w := by
  cases op <;> simp only [binS, Option.some.injEq, reduceCtorEq] at h <;> first
    | (subst h; simp [binOp, Op.stringOp]; done)
    | (split at h
       · rename_i hb
         simp only [Option.some.injEq] at h
         subst h
         have : ¬ (((a.size + b.size : Nat) : Int) > IntKind.i64.max) := by
           have : IntKind.i64.max = 9223372036854775807 := by decide
           omega
         simp only [binOp, Op.stringOp]
         rw [if_neg this]
         rfl
       · cases h)
theorem eqGuard_of {op : BinOp} {t : TypeId} {x y : Operand} {a b : Value} (h1 : a ≠ .nilIface) (h2 : ∀ cs, a ≠ .agg cs) (w : World) : (eqGuard op t x y a b).run P w = .ok () w := by
  unfold eqGuard
  cases op <;> first
    | rfl
    | (cases a <;> first | exact absurd rfl h1 | exact absurd rfl (h2 _) | rfl)
end

/-- '==' and '!=' of a slice and nil. -/
def nilCmp (P : Program) (op : BinOp) (t : TypeId) (x y : AV) : Option Bool :=
  match P.underlying t with
  | some (.slice _) => match op, isNilSl x, isNilSl y with
    | .eql, some true, some b => some b
    | .eql, some false, some true => some false
    | .neq, some true, some b => some (!b)
    | .neq, some false, some true => some true
    | _, _, _ => none
  | _ => none

theorem isNilSl_rd {w : World} {h : Hp} {a : AV} {u : Value} {b : Bool} (hb : isNilSl a = some b) (hr : Rd w h a u) : ∃ A n c, u = .slice A n c ∧ A.isNone = b := by
  unfold isNilSl at hb
  split at hb
  · simp only [Option.some.injEq] at hb; subst hb; exact ⟨_, _, _, hr, rfl⟩
  · simp only [Option.some.injEq] at hb; subst hb; exact ⟨_, _, _, hr, rfl⟩
  · simp only [Option.some.injEq] at hb; subst hb
    obtain ⟨cap, rfl, _⟩ := hr
    exact ⟨_, _, _, rfl, rfl⟩
  · split at hb
    · rename_i hpos
      simp only [Option.some.injEq] at hb; subst hb
      obtain ⟨A, c, rfl, _, _, hr⟩ := hr
      obtain ⟨b, off, rfl, _⟩ := hr hpos
      exact ⟨_, _, _, rfl, rfl⟩
    · cases hb
  · cases hb

section
variable {P : Program}
theorem equal_slices {t e : TypeId} (ht : P.underlying t = some (.slice e)) {A B : Option Addr} {n c m d : Nat} (hh : A.isNone = true ∨ B.isNone = true) (w : World) :
    (Op.equal t (.slice A n c) (.slice B m d)).run P w = .ok (A.isNone && B.isNone) w := by
  unfold Op.equal Op.maxDepth Op.equalIn
  rw [Sem.run_bind, run_underlying ht]
  cases A <;> cases B <;> simp_all
theorem equal_bools {t : TypeId} (ht : P.underlying t = some .bool) {a b : Bool} (w : World) : (Op.equal t (.bool a) (.bool b)).run P w = .ok (a == b) w := by
  unfold Op.equal Op.maxDepth Op.equalIn
  rw [Sem.run_bind, run_underlying ht]
  rfl
theorem nilCmp_run {op : BinOp} {t : TypeId} {x y : AV} {b : Bool} (hn : nilCmp P op t x y = some b) {w : World} {h : Hp} {u u' : Value} (hx : Rd w h x u) (hy : Rd w h y u') (o1 o2 : Operand) :
    ((do eqGuard op t o1 o2 u u'; binOp op t u u') : Sem Value).run P w = .ok (.bool b) w := by
  unfold nilCmp at hn
  split at hn
  · rename_i e ht
    split at hn
    · rename_i hx1 hy1
      simp only [Option.some.injEq] at hn; subst hn
      obtain ⟨A, n, c, rfl, hA⟩ := isNilSl_rd hx1 hx
      obtain ⟨B, m, d, rfl, hB⟩ := isNilSl_rd hy1 hy
      rw [Sem.run_bind, eqGuard_of (by simp) (by simp)]
      simp only [Result.andThen_ok, binOp, Sem.run_bind, equal_slices ht (.inl hA), Sem.run_pure, hA, hB, Bool.true_and]
    · rename_i hx1 hy1
      simp only [Option.some.injEq] at hn; subst hn
      obtain ⟨A, n, c, rfl, hA⟩ := isNilSl_rd hx1 hx
      obtain ⟨B, m, d, rfl, hB⟩ := isNilSl_rd hy1 hy
      rw [Sem.run_bind, eqGuard_of (by simp) (by simp)]
      simp only [Result.andThen_ok, binOp, Sem.run_bind, equal_slices ht (.inr hB), Sem.run_pure, hA, hB, Bool.false_and]
    · rename_i b' hx1 hy1
      simp only [Option.some.injEq] at hn; subst hn
      obtain ⟨A, n, c, rfl, hA⟩ := isNilSl_rd hx1 hx
      obtain ⟨B, m, d, rfl, hB⟩ := isNilSl_rd hy1 hy
      rw [Sem.run_bind, eqGuard_of (by simp) (by simp)]
      simp only [Result.andThen_ok, binOp, Sem.run_bind, equal_slices ht (.inl hA), Sem.run_pure, hA, hB, Bool.true_and]
    · rename_i hx1 hy1
      simp only [Option.some.injEq] at hn; subst hn
      obtain ⟨A, n, c, rfl, hA⟩ := isNilSl_rd hx1 hx
      obtain ⟨B, m, d, rfl, hB⟩ := isNilSl_rd hy1 hy
      rw [Sem.run_bind, eqGuard_of (by simp) (by simp)]
      simp only [Result.andThen_ok, binOp, Sem.run_bind, equal_slices ht (.inr hB), Sem.run_pure, hA, hB, Bool.false_and, Bool.not_false]
    · cases hn
  · cases hn

theorem binA_run {op : BinOp} {t : TypeId} {x y : AV} {r : Value} (hn : binA P op t x y = some r) {w : World} {h : Hp} {u u' : Value} (hx : Rd w h x u) (hy : Rd w h y u') (o1 o2 : Operand) :
    ((do eqGuard op t o1 o2 u u'; binOp op t u u') : Sem Value).run P w = .ok r w := by
  unfold binA at hn
  split at hn
  · cases hx; cases hy
    split at hn
    · cases hn
    · rename_i hb
      simp only [Option.some.injEq] at hn; subst hn
      rw [Sem.run_bind, eqGuard_of (by simp) (by simp)]
      simp [binOp, Op.shift, hb]
  · cases hx; cases hy
    split at hn
    · cases hn
    · rename_i hb
      simp only [Option.some.injEq] at hn; subst hn
      rw [Sem.run_bind, eqGuard_of (by simp) (by simp)]
      simp [binOp, Op.shift, hb]
  · rename_i h1 h2
    cases hx; cases hy
    split at hn
    · rename_i hk; subst hk
      rw [Sem.run_bind, eqGuard_of (by simp) (by simp)]
      exact binI_run hn (fun e => h1 e) (fun e => h2 e) t w
    · cases hn
  · cases hx; cases hy
    rw [Sem.run_bind, eqGuard_of (by simp) (by simp)]
    exact binS_run hn t w
  · cases hx; cases hy
    split at hn
    · rename_i ht
      simp only [Option.some.injEq] at hn; subst hn
      rw [Sem.run_bind, eqGuard_of (by simp) (by simp)]
      simp only [Result.andThen_ok, binOp, Sem.run_bind, equal_bools ht, Sem.run_pure]
    · cases hn
  · cases hx; cases hy
    split at hn
    · rename_i ht
      simp only [Option.some.injEq] at hn; subst hn
      rw [Sem.run_bind, eqGuard_of (by simp) (by simp)]
      simp only [Result.andThen_ok, binOp, Sem.run_bind, equal_bools ht, Sem.run_pure]
    · cases hn
  · cases hn
end

/-! '==' and '!=' of structs whose fields are scalars. -/
def eqTs (P : Program) : List Field → Option (List (Nat × Nat))
  | [] => some []
  | f :: r => if f.name = "_" then none else match ldT P f.type, P.underlying f.type, eqTs P r with
    | some (1, false), some (.int _), some l => some ((f.offset, 0) :: l)
    | some (1, false), some .string, some l => some ((f.offset, 1) :: l)
    | some (1, false), some .bool, some l => some ((f.offset, 2) :: l)
    | _, _, _ => none
def shL (o : Nat) (l : List (Nat × Nat)) : List (Nat × Nat) := l.map fun x => (o + x.1, x.2)
/-- The same of structs in which such structs stand. -/
def eqTs2 (P : Program) : List Field → Option (List (Nat × Nat))
  | [] => some []
  | f :: r => if f.name = "_" then none else match ldT P f.type, P.underlying f.type, eqTs2 P r with
    | some (1, false), some (.int _), some l => some ((f.offset, 0) :: l)
    | some (1, false), some .string, some l => some ((f.offset, 1) :: l)
    | some (1, false), some .bool, some l => some ((f.offset, 2) :: l)
    | some (n, true), some (.struct fs), some l => if P.stoodInHeld f.type = false then match eqTs P fs.toList with
        | some l1 => if (l1.any fun x => x.1 + 1 == n) = true ∧ (l1.all fun x => decide (x.1 < n)) = true then some (shL f.offset l1 ++ l) else none
        | none => none
      else none
    | _, _, _ => none
def eqT (P : Program) (t : TypeId) : Option (List (Nat × Nat)) :=
  match P.underlying t with
  | some (.struct fs) => if P.stoodInHeld t = false ∧ P.eqGuardType P.depth t = false then eqTs P fs.toList else none
  | _ => none
def eqU (P : Program) (t : TypeId) : Option (List (Nat × Nat)) :=
  match P.underlying t with
  | some (.struct fs) => if P.stoodInHeld t = false ∧ P.eqGuardType P.depth t = false then eqTs2 P fs.toList else none
  | _ => none
def eq1 (k : Nat) (x y : AV) : Option Bool := match k, x, y with
  | 0, .v (.int k a), .v (.int k' b) => if k = k' then some (decide (a = b)) else none
  | 1, .v (.string a), .v (.string b) => some (a.toList == b.toList)
  | 2, .v (.bool a), .v (.bool b) => some (a == b)
  | _, _, _ => none
def eqL : List (Nat × Nat) → Nat → Nat → (Nat → AV) → (Nat → AV) → Option Bool
  | [], _, _, _, _ => some true
  | (off, k) :: r, m, m', f, g => if off < m ∧ off < m' then match eq1 k (f off) (g off), eqL r m m' f g with
    | some b, some c => some (b && c)
    | _, _ => none
    else none
def eqA (P : Program) (op : BinOp) (t : TypeId) (x y : AV) : Option Bool :=
  match x, y with
  | .agg m f, .agg m' g => match eqU P t with
    | some l => match op, eqL l m m' f g with
      | .eql, some b => some b
      | .neq, some b => some (!b)
      | _, _ => none
    | none => none
  | _, _ => none
section
variable {P : Program}
theorem run_part_one {t : TypeId} (ht : ldT P t = some (1, false)) {cs : Array Value} {off : Nat} {x : Value} (hx : cs[off]? = some x) (w : World) : (part t cs off).run P w = .ok x w := by
  unfold part
  rw [Sem.run_bind, run_isAgg_ld ht]
  simp [hx]
theorem eqL_run {w : World} {h : Hp} {m m' : Nat} {f g : Nat → AV} {xs ys : Array Value} (hx : Rd w h (.agg m f) (.agg xs)) (hy : Rd w h (.agg m' g) (.agg ys)) (d : Nat) :
    ∀ (fs : List Field) (l : List (Nat × Nat)) (b : Bool), eqTs P fs = some l → eqL l m m' f g = some b → (Op.eqFields (d + 1) xs ys fs).run P w = .ok b w := by
  obtain ⟨cs, hcs, hsz, hcell⟩ := hx
  obtain ⟨cs', hcs', hsz', hcell'⟩ := hy
  cases hcs; cases hcs'
  intro fs
  induction fs with
  | nil =>
    intro l b hl hb
    simp only [eqTs, Option.some.injEq] at hl
    subst hl
    simp only [eqL, Option.some.injEq] at hb
    subst hb
    rfl
  | cons fl fs ih =>
    intro l b hl hb
    unfold eqTs at hl
    split at hl
    · cases hl
    · rename_i hn
      have step : ∀ (off k : Nat) (l' : List (Nat × Nat)), eqTs P fs = some l' → ldT P fl.type = some (1, false) → off = fl.offset → eqL ((off, k) :: l') m m' f g = some b →
          (∀ (u v : Value) (r : Bool), Rd w h (f off) u → Rd w h (g off) v → eq1 k (f off) (g off) = some r → (Op.equalIn (d + 1) fl.type u v).run P w = .ok r w) →
          (Op.eqFields (d + 1) xs ys (fl :: fs)).run P w = .ok b w := by
        intro off k l' hl' hld hoff hb hk
        subst hoff
        unfold eqL at hb
        split at hb
        · rename_i hlt
          obtain ⟨u, hu, _, hur⟩ := hcell fl.offset hlt.1
          obtain ⟨v, hv, _, hvr⟩ := hcell' fl.offset hlt.2
          split at hb
          · rename_i r c he hc
            simp only [Option.some.injEq] at hb
            have hr := hk u v r hur hvr he
            unfold Op.eqFields
            rw [if_pos hn]
            simp only [Sem.run_bind, run_part_one hld hu, run_part_one hld hv, hr, Result.andThen_ok]
            cases r
            · simp [← hb]
            · simp only [Bool.not_true, Bool.false_eq_true, if_false]
              rw [ih l' c hl' hc, ← hb]; rfl
          · cases hb
        · cases hb
      split at hl
      · rename_i k l' hld hu hl'
        simp only [Option.some.injEq] at hl
        subst hl
        refine step _ _ l' hl' hld rfl hb fun u v r hur hvr he => ?_
        unfold eq1 at he
        split at he
        · rename_i e0 e1 e2
          rw [e1] at hur; rw [e2] at hvr; cases hur; cases hvr
          split at he
          · rename_i hkk; subst hkk
            simp only [Option.some.injEq] at he; subst he
            exact run_equalIn_int w d _ _ k _ _ hu
          · cases he
        · rename_i e0 _ _; cases e0
        · rename_i e0 _ _; cases e0
        · cases he
      · rename_i l' hld hu hl'
        simp only [Option.some.injEq] at hl
        subst hl
        refine step _ _ l' hl' hld rfl hb fun u v r hur hvr he => ?_
        unfold eq1 at he
        split at he
        · rename_i e0 _ _; cases e0
        · rename_i e0 e1 e2
          rw [e1] at hur; rw [e2] at hvr; cases hur; cases hvr
          simp only [Option.some.injEq] at he; subst he
          exact run_equalIn_string w d _ _ _ hu
        · rename_i e0 _ _; cases e0
        · cases he
      · rename_i l' hld hu hl'
        simp only [Option.some.injEq] at hl
        subst hl
        refine step _ _ l' hl' hld rfl hb fun u v r hur hvr he => ?_
        unfold eq1 at he
        split at he
        · rename_i e0 _ _; cases e0
        · rename_i e0 _ _; cases e0
        · rename_i e0 e1 e2
          rw [e1] at hur; rw [e2] at hvr; cases hur; cases hvr
          simp only [Option.some.injEq] at he; subst he
          exact run_equalIn_bool' w d _ _ _ hu
        · cases he
      · cases hl
theorem eqL_append {m m' : Nat} {f g : Nat → AV} : ∀ (l1 l : List (Nat × Nat)) (b : Bool), eqL (l1 ++ l) m m' f g = some b → ∃ b1 b2, eqL l1 m m' f g = some b1 ∧ eqL l m m' f g = some b2 ∧ b = (b1 && b2)
  | [], l, b, h => ⟨true, b, rfl, h, by simp⟩
  | (off, k) :: r, l, b, h => by
    rw [List.cons_append] at h
    unfold eqL at h
    split at h
    · rename_i hlt
      split at h
      · rename_i b0 c he hc
        simp only [Option.some.injEq] at h
        obtain ⟨b1, b2, h1, h2, rfl⟩ := eqL_append r l c hc
        refine ⟨b0 && b1, b2, ?_, h2, by rw [← h, Bool.and_assoc]⟩
        unfold eqL
        rw [if_pos hlt, he, h1]
      · cases h
    · cases h
theorem eqL_shift {m m' o n : Nat} {f g : Nat → AV} : ∀ (l : List (Nat × Nat)) (b : Bool), eqL (shL o l) m m' f g = some b → (∀ x ∈ l, x.1 < n) → eqL l n n (fun j => f (o + j)) (fun j => g (o + j)) = some b ∧ ∀ x ∈ l, o + x.1 < m ∧ o + x.1 < m'
  | [], b, h, _ => ⟨h, fun x hx => by cases hx⟩
  | (off, k) :: r, b, h, hn => by
    simp only [shL, List.map_cons] at h
    unfold eqL at h
    split at h
    · rename_i hlt
      split at h
      · rename_i b0 c he hc
        simp only [Option.some.injEq] at h
        obtain ⟨h1, h2⟩ := eqL_shift r c hc fun x hx => hn x (List.mem_cons_of_mem _ hx)
        refine ⟨?_, fun x hx => ?_⟩
        · have := hn (off, k) (List.mem_cons_self ..)
          unfold eqL
          rw [if_pos ⟨this, this⟩, he, h1, ← h]
        · rcases List.mem_cons.1 hx with rfl | hx
          · exact hlt
          · exact h2 x hx
      · cases h
    · cases h
theorem eqL2_run {w : World} {h : Hp} {m m' : Nat} {f g : Nat → AV} {xs ys : Array Value} (hx : Rd w h (.agg m f) (.agg xs)) (hy : Rd w h (.agg m' g) (.agg ys)) (d : Nat) :
    ∀ (fs : List Field) (l : List (Nat × Nat)) (b : Bool), eqTs2 P fs = some l → eqL l m m' f g = some b → (Op.eqFields (d + 2) xs ys fs).run P w = .ok b w := by
  have hx0 := hx
  have hy0 := hy
  obtain ⟨cs, hcs, hsz, hcell⟩ := hx
  obtain ⟨cs', hcs', hsz', hcell'⟩ := hy
  cases hcs; cases hcs'
  intro fs
  induction fs with
  | nil =>
    intro l b hl hb
    simp only [eqTs2, Option.some.injEq] at hl
    subst hl
    simp only [eqL, Option.some.injEq] at hb
    subst hb
    rfl
  | cons fl fs ih =>
    intro l b hl hb
    unfold eqTs2 at hl
    split at hl
    · cases hl
    · rename_i hn
      have step : ∀ (off k : Nat) (l' : List (Nat × Nat)), eqTs2 P fs = some l' → ldT P fl.type = some (1, false) → off = fl.offset → eqL ((off, k) :: l') m m' f g = some b →
          (∀ (u v : Value) (r : Bool), Rd w h (f off) u → Rd w h (g off) v → eq1 k (f off) (g off) = some r → (Op.equalIn (d + 2) fl.type u v).run P w = .ok r w) →
          (Op.eqFields (d + 2) xs ys (fl :: fs)).run P w = .ok b w := by
        intro off k l' hl' hld hoff hb hk
        subst hoff
        unfold eqL at hb
        split at hb
        · rename_i hlt
          obtain ⟨u, hu, _, hur⟩ := hcell fl.offset hlt.1
          obtain ⟨v, hv, _, hvr⟩ := hcell' fl.offset hlt.2
          split at hb
          · rename_i r c he hc
            simp only [Option.some.injEq] at hb
            have hr := hk u v r hur hvr he
            unfold Op.eqFields
            rw [if_pos hn]
            simp only [Sem.run_bind, run_part_one hld hu, run_part_one hld hv, hr, Result.andThen_ok]
            cases r
            · simp [← hb]
            · simp only [Bool.not_true, Bool.false_eq_true, if_false]
              rw [ih l' c hl' hc, ← hb]; rfl
          · cases hb
        · cases hb
      split at hl
      · rename_i k l' hld hu hl'
        simp only [Option.some.injEq] at hl
        subst hl
        refine step _ _ l' hl' hld rfl hb fun u v r hur hvr he => ?_
        unfold eq1 at he
        split at he
        · rename_i e0 e1 e2
          rw [e1] at hur; rw [e2] at hvr; cases hur; cases hvr
          split at he
          · rename_i hkk; subst hkk
            simp only [Option.some.injEq] at he; subst he
            exact run_equalIn_int w (d + 1) _ _ k _ _ hu
          · cases he
        · rename_i e0 _ _; cases e0
        · rename_i e0 _ _; cases e0
        · cases he
      · rename_i l' hld hu hl'
        simp only [Option.some.injEq] at hl
        subst hl
        refine step _ _ l' hl' hld rfl hb fun u v r hur hvr he => ?_
        unfold eq1 at he
        split at he
        · rename_i e0 _ _; cases e0
        · rename_i e0 e1 e2
          rw [e1] at hur; rw [e2] at hvr; cases hur; cases hvr
          simp only [Option.some.injEq] at he; subst he
          exact run_equalIn_string w (d + 1) _ _ _ hu
        · rename_i e0 _ _; cases e0
        · cases he
      · rename_i l' hld hu hl'
        simp only [Option.some.injEq] at hl
        subst hl
        refine step _ _ l' hl' hld rfl hb fun u v r hur hvr he => ?_
        unfold eq1 at he
        split at he
        · rename_i e0 _ _; cases e0
        · rename_i e0 _ _; cases e0
        · rename_i e0 e1 e2
          rw [e1] at hur; rw [e2] at hvr; cases hur; cases hvr
          simp only [Option.some.injEq] at he; subst he
          exact run_equalIn_bool' w (d + 1) _ _ _ hu
        · cases he
      · rename_i n fs2 l' hld hu hl'
        split at hl
        · rename_i hsi
          split at hl
          · rename_i l1 hl1
            split at hl
            · rename_i hall
              simp only [Option.some.injEq] at hl
              subst hl
              obtain ⟨b1, b2, h1, h2, rfl⟩ := eqL_append _ _ _ hb
              obtain ⟨h3, h4⟩ := eqL_shift _ _ h1 fun x hx => of_decide_eq_true (List.all_eq_true.1 hall.2 x hx)
              obtain ⟨x, hxm, hxn⟩ := List.any_eq_true.1 hall.1
              have hxn : x.1 + 1 = n := by simpa using hxn
              have hlt := h4 x hxm
              have hfs : P.fieldsOf fl.type = fs2 := by unfold Program.fieldsOf; rw [hu]
              have ex : Rd w h (.agg n fun j => f (fl.offset + j)) (.agg (xs.extract fl.offset (fl.offset + n))) := ⟨_, rfl, by simp [Array.size_extract]; omega, fun j hj => by
                obtain ⟨u, hu, h5, h6⟩ := hcell (fl.offset + j) (by omega)
                exact ⟨u, by rw [Array.getElem?_extract, if_pos (by omega)]; exact hu, h5, h6⟩⟩
              have ey : Rd w h (.agg n fun j => g (fl.offset + j)) (.agg (ys.extract fl.offset (fl.offset + n))) := ⟨_, rfl, by simp [Array.size_extract]; omega, fun j hj => by
                obtain ⟨u, hu, h5, h6⟩ := hcell' (fl.offset + j) (by omega)
                exact ⟨u, by rw [Array.getElem?_extract, if_pos (by omega)]; exact hu, h5, h6⟩⟩
              have hr : (Op.equalIn (d + 2) fl.type (.agg (xs.extract fl.offset (fl.offset + n))) (.agg (ys.extract fl.offset (fl.offset + n)))).run P w = .ok b1 w := by
                rw [run_equalIn_agg w (d + 1) fl.type _ _ (by rw [hfs]; exact hu) hsi, hfs]
                exact eqL_run ex ey d _ l1 b1 hl1 h3
              have px : ∀ zs : Array Value, (part fl.type zs fl.offset).run P w = .ok (.agg (zs.extract fl.offset (fl.offset + n))) w := fun zs => by
                simp [part, run_isAgg_ld hld, run_sizeOf_ld hld]
              unfold Op.eqFields
              rw [if_pos hn]
              simp only [Sem.run_bind, px, hr, Result.andThen_ok]
              cases b1
              · simp
              · simp only [Bool.not_true, Bool.false_eq_true, if_false]
                rw [ih l' b2 hl' h2]; rfl
            · cases hl
          · cases hl
        · cases hl
      · cases hl
theorem eqA_run {op : BinOp} {t : TypeId} {x y : AV} {b : Bool} (hn : eqA P op t x y = some b) {w : World} {h : Hp} {u u' : Value} (hx : Rd w h x u) (hy : Rd w h y u') (o1 o2 : Operand) :
    ((do eqGuard op t o1 o2 u u'; binOp op t u u') : Sem Value).run P w = .ok (.bool b) w := by
  unfold eqA at hn
  split at hn
  · rename_i m f m' g
    split at hn
    · rename_i l hl
      unfold eqU at hl
      split at hl
      · rename_i fs hu
        split at hl
        · rename_i hst
          obtain ⟨xs, rfl, hxs, hxc⟩ := hx
          obtain ⟨ys, rfl, hys, hyc⟩ := hy
          have hf : P.fieldsOf t = fs := by unfold Program.fieldsOf; rw [hu]
          have key : ∀ c, eqL l m m' f g = some c → (Op.equalIn 10000 t (.agg xs) (.agg ys)).run P w = .ok c w := fun c hc => by
            rw [run_equalIn_agg w 9999 t xs ys (by rw [hf]; exact hu) hst.1, hf]
            exact eqL2_run ⟨xs, rfl, hxs, hxc⟩ ⟨ys, rfl, hys, hyc⟩ 9997 _ l c hl hc
          rw [Sem.run_bind, run_eqGuard_agg w op t o1 o2 xs ys hst.2]
          simp only [Result.andThen_ok]
          split at hn
          · rename_i c hc
            simp only [Option.some.injEq] at hn; subst hn
            rw [run_eql_struct, key _ hc]; rfl
          · rename_i c hc
            simp only [Option.some.injEq] at hn; subst hn
            rw [run_neq_struct, key _ hc]; rfl
          · cases hn
        · cases hl
      · cases hl
    · cases hn
  · cases hn
end
end Go.Proofs.YtmalhikcdideoaaGreatDoor.Sl
