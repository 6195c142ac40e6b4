/- The semantic layer, ninth part: the equations by which code is told abstractly, one step at a time. -/
import Derived.Test.YtmalhikcdideoaaGreatDoorSlH
set_option linter.unusedVariables false
set_option linter.unusedSimpArgs false
namespace Go.Proofs.YtmalhikcdideoaaGreatDoor.Sl
open Go Go.RowKit

section
variable {P : Program} {N : Nat} {T : Nat → AV} {h : Hp} {Q : Exit → (Nat → AV) → Hp → Prop} {K : (Nat → AV) → Hp → Prop}

def SeqQ (P : Program) (N : Nat) (b : Code) (Q : Exit → (Nat → AV) → Hp → Prop) : Exit → (Nat → AV) → Hp → Prop := fun e T' h' => match e with
  | .normal => X P N b T' h' Q
  | e => Q e T' h'
def BlkQ (id : Nat) (Q : Exit → (Nat → AV) → Hp → Prop) : Exit → (Nat → AV) → Hp → Prop := fun e T' h' => match e with
  | .exit i => if i = id then Q .normal T' h' else Q (.exit i) T' h'
  | e => Q e T' h'
def XOQ (P : Program) (N : Nat) (ops rest : List Oper) (K : (Nat → AV) → Hp → Prop) : (Nat → AV) → Hp → Prop := fun T' h' => XO P N ops rest T' h' K
def NrmQ (Q : Exit → (Nat → AV) → Hp → Prop) : (Nat → AV) → Hp → Prop := Q .normal
def XC (P : Program) (N : Nat) (v : AV) (a b : Code) (T : Nat → AV) (h : Hp) (Q : Exit → (Nat → AV) → Hp → Prop) : Prop := match v with
  | .v (.bool t) => (t = true → X P N a T h Q) ∧ (t = false → X P N b T h Q)
  | _ => False
def XM (P : Program) (N : Nat) (s : Option AV) (o : Oper) (T : Nat → AV) (h : Hp) (K : (Nat → AV) → Hp → Prop) : Prop := match s with
  | some v => dOk N o.dst = true ∧ K (putD T o.dst v) h
  | none => XW P N o T h K
def XG (P : Program) (N : Nat) (g : Option Bool) (want : Bool) (o : Oper) (T : Nat → AV) (h : Hp) (K : (Nat → AV) → Hp → Prop) : Prop := match g with
  | some b => (b = want → XOp P N o T h K) ∧ (b ≠ want → dOk N o.dst = true ∧ K (putD T o.dst un) h)
  | none => False

@[go_sem] theorem X_seq (a b : Code) : X P N (.seq a b) T h Q = X P N a T h (SeqQ P N b Q) := Eq.trans rfl rfl
@[go_sem] theorem X_block (id : Nat) (c : Code) : X P N (.block id c) T h Q = X P N c T h (BlkQ id Q) := Eq.trans rfl rfl
@[go_sem] theorem X_cond (c : Operand) (a b : Code) : X P N (.cond c a b) T h Q = XC P N (ev T c) a b T h Q := Eq.trans rfl rfl
@[go_sem] theorem X_skip : X P N .skip T h Q = Q .normal T h := Eq.trans rfl rfl
@[go_sem] theorem X_ret : X P N .ret T h Q = Q .ret T h := Eq.trans rfl rfl
@[go_sem] theorem X_exit (id : Nat) : X P N (.exit id) T h Q = Q (.exit id) T h := Eq.trans rfl rfl
theorem X_region (id : Nat) (l : List Oper) : X P N (.region id l.toArray false) T h Q = XO P N l l T h (NrmQ Q) := by simp [X, NrmQ]
@[go_sem] theorem X_draw (id : Nat) (ops : Array Oper) : X P N (.region id ops true) T h Q = XD P N id ops T h (NrmQ Q) := by simp [X, NrmQ]
@[go_sem] theorem SeqQ_normal (b : Code) : SeqQ P N b Q .normal T h = X P N b T h Q := Eq.trans rfl rfl
@[go_sem] theorem SeqQ_ret (b : Code) : SeqQ P N b Q .ret T h = Q .ret T h := Eq.trans rfl rfl
@[go_sem] theorem SeqQ_exit (b : Code) (i : Nat) : SeqQ P N b Q (.exit i) T h = Q (.exit i) T h := Eq.trans rfl rfl
@[go_sem] theorem BlkQ_normal (id : Nat) : BlkQ id Q .normal T h = Q .normal T h := Eq.trans rfl rfl
@[go_sem] theorem BlkQ_ret (id : Nat) : BlkQ id Q .ret T h = Q .ret T h := Eq.trans rfl rfl
@[go_sem] theorem BlkQ_exit (id i : Nat) : BlkQ id Q (.exit i) T h = if i = id then Q .normal T h else Q (.exit i) T h := Eq.trans rfl rfl
@[go_sem] theorem NrmQ_eq : NrmQ Q T h = Q .normal T h := Eq.trans rfl rfl
@[go_sem] theorem XC_true (a b : Code) : XC P N (.v (.bool true)) a b T h Q = X P N a T h Q := by simp [XC]
@[go_sem] theorem XC_false (a b : Code) : XC P N (.v (.bool false)) a b T h Q = X P N b T h Q := by simp [XC]
theorem XC_split {t : Bool} {a b : Code} (h1 : t = true → X P N a T h Q) (h2 : t = false → X P N b T h Q) : XC P N (.v (.bool t)) a b T h Q := ⟨h1, h2⟩
@[go_sem] theorem XO_nil (ops : List Oper) : XO P N ops [] T h K = K T h := Eq.trans rfl rfl
@[go_sem] theorem XO_cons (ops rest : List Oper) (d : Option Tmp) (op : Op) (t : TypeId) (p : String) (af : Array Edge) : XO P N ops (⟨d, op, t, p, af, none⟩ :: rest) T h K = XM P N (stp P T h op) ⟨d, op, t, p, af, none⟩ T h (XOQ P N ops rest K) := Eq.trans rfl rfl
@[go_sem] theorem XO_guard (ops rest : List Oper) (d : Option Tmp) (op : Op) (t : TypeId) (p : String) (af : Array Edge) (j : Nat) (want : Bool) : XO P N ops (⟨d, op, t, p, af, some (j, want)⟩ :: rest) T h K = XG P N (gvA ops T j want) want ⟨d, op, t, p, af, some (j, want)⟩ T h (XOQ P N ops rest K) := Eq.trans rfl rfl
@[go_sem] theorem XOQ_eq (ops rest : List Oper) : XOQ P N ops rest K T h = XO P N ops rest T h K := Eq.trans rfl rfl
@[go_sem] theorem XM_some (v : AV) (d : Option Tmp) (op : Op) (t : TypeId) (p : String) (af : Array Edge) (g : Option (Nat × Bool)) : XM P N (some v) ⟨d, op, t, p, af, g⟩ T h K = (dOk N d = true ∧ K (putD T d v) h) := Eq.trans rfl rfl
@[go_sem] theorem XM_none (o : Oper) : XM P N none o T h K = XW P N o T h K := Eq.trans rfl rfl
@[go_sem] theorem XG_same (b : Bool) (d : Option Tmp) (op : Op) (t : TypeId) (p : String) (af : Array Edge) (g : Option (Nat × Bool)) : XG P N (some b) b ⟨d, op, t, p, af, g⟩ T h K = XM P N (stp P T h op) ⟨d, op, t, p, af, g⟩ T h K := by cases hs : stp P T h op <;> simp [XG, XOp, XM, hs]
@[go_sem] theorem XG_tf (d : Option Tmp) (op : Op) (t : TypeId) (p : String) (af : Array Edge) (g : Option (Nat × Bool)) : XG P N (some true) false ⟨d, op, t, p, af, g⟩ T h K = (dOk N d = true ∧ K (putD T d un) h) := by simp [XG]
@[go_sem] theorem XG_ft (d : Option Tmp) (op : Op) (t : TypeId) (p : String) (af : Array Edge) (g : Option (Nat × Bool)) : XG P N (some false) true ⟨d, op, t, p, af, g⟩ T h K = (dOk N d = true ∧ K (putD T d un) h) := by simp [XG]
@[go_sem] theorem dOk_some (d : Nat) : (dOk N (some d) = true) = (d < N) := by simp [dOk]
@[go_sem] theorem dOk_none : (dOk N none = true) = True := by simp [dOk]
@[go_sem] theorem putD_some (d : Nat) (v : AV) : putD T (some d) v = upd T d v := rfl
@[go_sem] theorem putD_none (v : AV) : putD T none v = T := rfl
@[go_sem] theorem ev_tmp (t : Tmp) : ev T (.tmp t) = T t := rfl
@[go_sem] theorem ev_const (v : Value) : ev T (.const v) = .v v := rfl
@[go_sem] theorem ev_global (g : Nat) : ev T (.global g) = glA g := rfl
@[go_sem] theorem ev_func (f : FuncId) : ev T (.func f) = .v (.func (.func f) #[] #[]) := rfl
@[go_sem] theorem T0_zero (a : AV) (l : List AV) : T0 (a :: l) 0 = a := rfl
@[go_sem] theorem T0_succ (a : AV) (l : List AV) (i : Nat) : T0 (a :: l) (i + 1) = T0 l i := rfl
@[go_sem] theorem T0_nil (i : Nat) : T0 [] i = .any := by simp [T0]

@[go_sem] theorem stp_move (x : Operand) : stp P T h (.move x) = some (ev T x) := rfl
@[go_sem] theorem stp_assign (x : Operand) : stp P T h (.assign x) = some (ev T x) := rfl
def binR (a : Option Value) (e b : Option Bool) : Option AV := match a with
  | some u => some (.v u)
  | none => match e with
    | some b => some (.v (.bool b))
    | none => match b with
      | some b => some (.v (.bool b))
      | none => none
@[go_sem] theorem stp_bin (op : BinOp) (t : TypeId) (x y : Operand) (t' : TypeId) : stp P T h (.binOp op t x y t') = binR (binA P op t (ev T x) (ev T y)) (eqA P op t (ev T x) (ev T y)) (nilCmp P op t (ev T x) (ev T y)) := rfl
@[go_sem] theorem binR_some (u : Value) (e b : Option Bool) : binR (some u) e b = some (.v u) := rfl
@[go_sem] theorem binR_eq (e : Bool) (b : Option Bool) : binR none (some e) b = some (.v (.bool e)) := rfl
@[go_sem] theorem binR_none (b : Bool) : binR none none (some b) = some (.v (.bool b)) := rfl
@[go_sem] theorem binA_eql (t : TypeId) (k : IntKind) (a b : Int) : binA P .eql t (.v (.int k a)) (.v (.int k b)) = some (.bool (decide (a = b))) := by simp [binA, binI]
@[go_sem] theorem binA_neq (t : TypeId) (k : IntKind) (a b : Int) : binA P .neq t (.v (.int k a)) (.v (.int k b)) = some (.bool (!decide (a = b))) := by simp [binA, binI]
@[go_sem] theorem binA_lss (t : TypeId) (k : IntKind) (a b : Int) : binA P .lss t (.v (.int k a)) (.v (.int k b)) = some (.bool (decide (a < b))) := by simp [binA, binI]
@[go_sem] theorem binA_leq (t : TypeId) (k : IntKind) (a b : Int) : binA P .leq t (.v (.int k a)) (.v (.int k b)) = some (.bool (decide (a ≤ b))) := by simp [binA, binI]
@[go_sem] theorem binA_gtr (t : TypeId) (k : IntKind) (a b : Int) : binA P .gtr t (.v (.int k a)) (.v (.int k b)) = some (.bool (decide (b < a))) := by simp [binA, binI]
@[go_sem] theorem binA_geq (t : TypeId) (k : IntKind) (a b : Int) : binA P .geq t (.v (.int k a)) (.v (.int k b)) = some (.bool (decide (b ≤ a))) := by simp [binA, binI]
@[go_sem] theorem binA_add (t : TypeId) (k : IntKind) (a b : Int) : binA P .add t (.v (.int k a)) (.v (.int k b)) = some (.int k (k.wrap (a + b))) := by simp [binA, binI]
@[go_sem] theorem binA_sub (t : TypeId) (k : IntKind) (a b : Int) : binA P .sub t (.v (.int k a)) (.v (.int k b)) = some (.int k (k.wrap (a - b))) := by simp [binA, binI]
@[go_sem] theorem binA_mul (t : TypeId) (k : IntKind) (a b : Int) : binA P .mul t (.v (.int k a)) (.v (.int k b)) = some (.int k (k.wrap (a * b))) := by simp [binA, binI]
theorem binA_str (op : BinOp) (t : TypeId) (a b : ByteArray) (h1 : op ≠ .shl) (h2 : op ≠ .shr) : binA P op t (.v (.string a)) (.v (.string b)) = binS op a b := by cases op <;> first | rfl | exact absurd rfl h1 | exact absurd rfl h2
def pickR (c a b : AV) : Option AV := match c with
  | .v (.bool t) => some (if t then a else b)
  | _ => none
@[go_sem] theorem stp_pick (c a b : Operand) : stp P T h (.pick c a b) = pickR (ev T c) (ev T a) (ev T b) := rfl
@[go_sem] theorem pickR_true (a b : AV) : pickR (.v (.bool true)) a b = some a := rfl
@[go_sem] theorem pickR_false (a b : AV) : pickR (.v (.bool false)) a b = some b := rfl
@[go_sem] theorem pickR_bools (c x y : Bool) : pickR (.v (.bool c)) (.v (.bool x)) (.v (.bool y)) = some (.v (.bool (if c then x else y))) := by cases c <;> rfl
def mapV (a : Option Value) : Option AV := match a with
  | some u => some (.v u)
  | none => none
@[go_sem] theorem mapV_some (u : Value) : mapV (some u) = some (.v u) := rfl
@[go_sem] theorem stp_un (op : UnOp) (t : TypeId) (x : Operand) : stp P T h (.unOp op t x) = mapV (unA op (ev T x)) := rfl
@[go_sem] theorem unA_not (b : Bool) : unA .not (.v (.bool b)) = some (.bool !b) := rfl
def bnot (k : IntKind) (n : Int) : Int := k.wrap (BitVec.ofInt k.bits (if k.signed then -1 else k.max) ^^^ BitVec.ofInt k.bits n).toNat
@[go_sem] theorem unA_xor (k : IntKind) (n : Int) : unA .xor (.v (.int k n)) = some (.int k (bnot k n)) := rfl
@[go_sem] theorem unA_neg (k : IntKind) (n : Int) : unA .neg (.v (.int k n)) = some (.int k (k.wrap (0 - n))) := rfl
@[go_sem] theorem stp_conv (s d : TypeId) (x : Operand) : stp P T h (.convert s d x) = mapV (convA P s d (ev T x)) := rfl
def extR (x : AV) (i : Nat) : Option AV := match x with
  | .tup m f => if i < m then some (f i) else none
  | _ => none
@[go_sem] theorem stp_extract (x : Operand) (i : Nat) : stp P T h (.extract x i) = extR (ev T x) i := rfl
@[go_sem] theorem extR_tup (m : Nat) (f : Nat → AV) (i : Nat) : extR (.tup m f) i = if i < m then some (f i) else none := rfl
@[go_sem] theorem stp_index (t : TypeId) (x i : Operand) : stp P T h (.index t x i) = indexA P t (ev T x) (ev T i) := rfl
@[go_sem] theorem stp_slice (t : TypeId) (x : Operand) (lo hi : Option Operand) : stp P T h (.slice t x lo hi none) = sliceA P t (ev T x) (bnd T 0 lo) (bnd T (slenA (ev T x)) hi) := rfl
@[go_sem] theorem stp_fieldAddr (s : TypeId) (x : Operand) (f : Nat) : stp P T h (.fieldAddr s x f) = fieldAddrA P s (ev T x) f := rfl
@[go_sem] theorem stp_field (s : TypeId) (x : Operand) (f : Nat) : stp P T h (.field s x f) = fieldA P s (ev T x) f := rfl
@[go_sem] theorem stp_indexAddr (t : TypeId) (x i : Operand) : stp P T h (.indexAddr t x i) = indexAddrA P t (ev T x) (ev T i) := rfl
@[go_sem] theorem stp_load (t : TypeId) (x : Operand) : stp P T h (.load t x) = loadA P h t (ev T x) := rfl
def funR (fn : Fn) (l : Option (List Value)) : Option AV := match l with
  | some l => some (.v (.func fn #[] l.toArray))
  | none => none
@[go_sem] theorem stp_makeFunc (fn : Fn) (l : List Operand) : stp P T h (.makeFunc fn #[] l.toArray) = funR fn (concAll T l) := by cases hc : concAll T l <;> simp [stp, funR, hc]
def chkR (x : AV) : Option AV := match x with
  | .v (.pointer (some a)) => some (.v (.pointer (some a)))
  | .fp m f => some (.fp m f)
  | .pt b s i j => some (.pt b s i j)
  | _ => none
@[go_sem] theorem stp_nilCheck (x : Operand) : stp P T h (.nilCheck x) = chkR (ev T x) := rfl
def lenR (n : Option Int) : Option AV := match n with
  | some n => some (.v (.int .i64 n))
  | none => none
@[go_sem] theorem lenR_some (n : Int) : lenR (some n) = some (.v (.int .i64 n)) := rfl
@[go_sem] theorem stp_len (x : Operand) (t : TypeId) : stp P T h (.call ⟨.builtin .len, #[x], #[t]⟩) = lenR (lenA P t (ev T x)) := rfl
@[go_sem] theorem stp_min (args : List Operand) (tys : Array TypeId) : stp P T h (.call ⟨.builtin .min, args.toArray, tys⟩) = lenR (minmaxA false (args.map (ev T))) := by cases hc : minmaxA false (args.map (ev T)) <;> simp [stp, lenR, hc]
@[go_sem] theorem stp_max (args : List Operand) (tys : Array TypeId) : stp P T h (.call ⟨.builtin .max, args.toArray, tys⟩) = lenR (minmaxA true (args.map (ev T))) := by cases hc : minmaxA true (args.map (ev T)) <;> simp [stp, lenR, hc]
@[go_sem] theorem stp_callf (f : FuncId) (args : Array Operand) (tys : Array TypeId) : stp P T h (.call ⟨.value (.func f), args, tys⟩) = none := rfl
@[go_sem] theorem stp_callv (f : Tmp) (args : Array Operand) (tys : Array TypeId) : stp P T h (.call ⟨.value (.tmp f), args, tys⟩) = none := rfl
@[go_sem] theorem stp_append (args : Array Operand) (tys : Array TypeId) : stp P T h (.call ⟨.builtin .append, args, tys⟩) = none := rfl
@[go_sem] theorem stp_alloc' (e : TypeId) : stp P T h (.alloc e) = none := rfl
@[go_sem] theorem stp_box (e : TypeId) (x : Operand) : stp P T h (.box e x) = none := rfl
@[go_sem] theorem stp_store (e : TypeId) (x y : Operand) : stp P T h (.store e x y) = none := rfl
@[go_sem] theorem stp_build (e : TypeId) (p : Array (Nat × Operand)) : stp P T h (.build e p) = none := rfl
@[go_sem] theorem stp_buildSlice (e : TypeId) (n : Nat) (p : Array (Nat × Operand)) : stp P T h (.buildSlice e n p) = none := rfl
@[go_sem] theorem XW_call (d : Option Tmp) (f : FuncId) (args : List Operand) (tys : Array TypeId) (t : TypeId) (p : String) (af : Array Edge) (g : Option (Nat × Bool)) : XW P N ⟨d, .call ⟨.value (.func f), args.toArray, tys⟩, t, p, af, g⟩ T h K = (dOk N d = true ∧ CallX P h f (args.map (ev T)) fun r h' => K (putD T d r) h') := by simp [XW]
end
attribute [go_sem] upd_eq
end Go.Proofs.YtmalhikcdideoaaGreatDoor.Sl
