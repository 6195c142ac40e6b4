/- The semantic layer, twelfth part: equations for regions that draw, for results, and for what is left of a heap. -/
import Derived.Test.YtmalhikcdideoaaGreatDoorSlK
set_option linter.unusedVariables false
set_option linter.unusedSimpArgs false
namespace Go.Proofs.YtmalhikcdideoaaGreatDoor.Sl
open Go Go.RowKit

section
variable {P : Program} {N : Nat} {T : Nat → AV} {h : Hp} {K : (Nat → AV) → Hp → Prop}
def XHQ (P : Program) (N : Nat) (ops rest : List Oper) (d : Option Tmp) (T : Nat → AV) (h : Hp) (K : (Nat → AV) → Hp → Prop) : AV → Prop := fun v => XH P N ops rest (putD T d v) h K
def XHM (P : Program) (N : Nat) (s : Option AV) (o : Oper) (T : Nat → AV) (h : Hp) (K : AV → Prop) : Prop := match s with
  | some v => K v
  | none => XHo P N o T h K
def XHG (P : Program) (N : Nat) (g : Option Bool) (want : Bool) (o : Oper) (T : Nat → AV) (h : Hp) (K : AV → Prop) : Prop := match g with
  | some b => (b = want → XHo P N o T h K) ∧ (b ≠ want → K un)
  | none => False
theorem XHo_eq (o : Oper) {K : AV → Prop} : XHo P N o T h K = XHM P N (stp P T h o.op) o T h K := by
  unfold XHM
  cases hs : stp P T h o.op with
  | none => rfl
  | some v => unfold XHo; rw [hs]
@[go_sem] theorem XH_nil (ops : List Oper) : XH P N ops [] T h K = K T h := Eq.trans rfl rfl
@[go_sem] theorem XH_cons (ops rest : List Oper) (d : Option Tmp) (op : Op) (t : TypeId) (p : String) (af : Array Edge) : XH P N ops (⟨d, op, t, p, af, none⟩ :: rest) T h K = (dOk N d = true ∧ XHM P N (stp P T h op) ⟨d, op, t, p, af, none⟩ T h (XHQ P N ops rest d T h K)) := by
  rw [← XHo_eq (P := P) (N := N) (T := T) (h := h) ⟨d, op, t, p, af, none⟩]; rfl
@[go_sem] theorem XH_guard (ops rest : List Oper) (d : Option Tmp) (op : Op) (t : TypeId) (p : String) (af : Array Edge) (j : Nat) (want : Bool) :
    XH P N ops (⟨d, op, t, p, af, some (j, want)⟩ :: rest) T h K = (dOk N d = true ∧ XHG P N (gvA ops T j want) want ⟨d, op, t, p, af, some (j, want)⟩ T h (XHQ P N ops rest d T h K)) := by
  cases hg : gvA ops T j want with
  | none => simp only [XH, XHG, hg]
  | some b => simp only [XH, XHG, hg]; rfl
@[go_sem] theorem XHQ_eq (ops rest : List Oper) (d : Option Tmp) (v : AV) : XHQ P N ops rest d T h K v = XH P N ops rest (putD T d v) h K := Eq.trans rfl rfl
@[go_sem] theorem XHM_some (v : AV) (o : Oper) (K : AV → Prop) : XHM P N (some v) o T h K = K v := Eq.trans rfl rfl
@[go_sem] theorem XHM_call (d : Option Tmp) (f : FuncId) (args : List Operand) (tys : Array TypeId) (t : TypeId) (p : String) (af : Array Edge) (g : Option (Nat × Bool)) (K : AV → Prop) :
    XHM P N none ⟨d, .call ⟨.value (.func f), args.toArray, tys⟩, t, p, af, g⟩ T h K = (∃ r, PureX P h f (args.map (ev T)) r ∧ K r) := by simp [XHM, XHo, stp]
/-- A call of a closure in such a region. -/
def XHfn (P : Program) (h : Hp) (args : List AV) (K : AV → Prop) : AV → Prop
  | .v (.func (.func f) first caps) => first = #[] ∧ callable P f = true ∧ ∃ r, PureAt P h f (args ++ caps.toList.map .v) r ∧ K r
  | _ => False
@[go_sem] theorem XHM_callv (d : Option Tmp) (x : Tmp) (args : List Operand) (tys : Array TypeId) (t : TypeId) (p : String) (af : Array Edge) (g : Option (Nat × Bool)) (K : AV → Prop) :
    XHM P N none ⟨d, .call ⟨.value (.tmp x), args.toArray, tys⟩, t, p, af, g⟩ T h K = XHfn P h (args.map (ev T)) K (T x) := by
  unfold XHM XHo XHfn
  simp only [stp]
  generalize T x = y
  split
  · rfl
  · rename_i hne
    split
    · rename_i f first caps
      exact absurd rfl (hne f first caps)
    · rfl
@[go_sem] theorem XHfn_func (f : FuncId) (args : List AV) (caps : List Value) (K : AV → Prop) : XHfn P h args K (.v (.func (.func f) #[] caps.toArray)) = (callable P f = true ∧ ∃ r, PureAt P h f (args ++ caps.map .v) r ∧ K r) := by simp [XHfn]
@[go_sem] theorem XHM_slice (d : Option Tmp) (ty : TypeId) (len : Nat) (parts : List (Nat × Operand)) (t : TypeId) (p : String) (af : Array Edge) (g : Option (Nat × Bool)) (K : AV → Prop) :
    XHM P N none ⟨d, .buildSlice ty len parts.toArray, t, p, af, g⟩ T h K = XHo P N ⟨d, .buildSlice ty len parts.toArray, t, p, af, g⟩ T h K := rfl
@[go_sem] theorem XHG_same (b : Bool) (d : Option Tmp) (op : Op) (t : TypeId) (p : String) (af : Array Edge) (g : Option (Nat × Bool)) (K : AV → Prop) : XHG P N (some b) b ⟨d, op, t, p, af, g⟩ T h K = XHM P N (stp P T h op) ⟨d, op, t, p, af, g⟩ T h K := by
  rw [← XHo_eq (P := P) (N := N) (T := T) (h := h) ⟨d, op, t, p, af, g⟩]; simp [XHG]
@[go_sem] theorem XHG_tf (o : Oper) (K : AV → Prop) : XHG P N (some true) false o T h K = K un := by simp [XHG]
@[go_sem] theorem XHG_ft (o : Oper) (K : AV → Prop) : XHG P N (some false) true o T h K = K un := by simp [XHG]

@[go_sem] theorem resA_one (t : Tmp) : resA P h T [.tmp t] = some (T t) := rfl
@[go_sem] theorem resA_two (t u : Tmp) : resA P h T [.tmp t, .tmp u] = some (tup2 (T t) (T u)) := rfl
@[go_sem] theorem resA_three (t u v : Tmp) : resA P h T [.tmp t, .tmp u, .tmp v] = some (tup3 (T t) (T u) (T v)) := rfl
def resC (P : Program) (h : Hp) (ty : TypeId) : AV → Option AV
  | .v (.pointer (some p)) => loadA P h ty (.v (.pointer (some p)))
  | _ => none
@[go_sem] theorem resA_cell (t : Tmp) (ty : TypeId) : resA P h T [.cell t ty] = resC P h ty (T t) := rfl
def resD (x : Option AV) (y : AV) : Option AV := match x with
  | some x => some (tup2 x y)
  | none => none
@[go_sem] theorem resA_cell_tmp (t u : Tmp) (ty : TypeId) : resA P h T [.cell t ty, .tmp u] = resD (resC P h ty (T t)) (T u) := by
  simp only [resA, resD, resC]
  split
  · rename_i p hp; rw [hp]; dsimp only; cases loadA P h ty (AV.v (Value.pointer (some p))) <;> rfl
  · rename_i hp
    split
    · rename_i x hx
      split at hx
      · rename_i p hp'; exact absurd hp' (hp p)
      · cases hx
    · rfl
@[go_sem] theorem resD_some (x y : AV) : resD (some x) y = some (tup2 x y) := rfl
@[go_sem] theorem resC_ptr (p : Addr) (ty : TypeId) : resC P h ty (.v (.pointer (some p))) = loadA P h ty (.v (.pointer (some p))) := rfl
@[go_sem] theorem resA_nil : resA P h T [] = some (.tup 0 fun _ => .any) := rfl
@[go_sem] theorem Wk_same (h : Hp) (r : AV) : Wk h r h r = True := eq_true (Wk.refl h r)
end

@[go_sem] theorem extR_two0 (a b : AV) : extR (tup2 a b) 0 = some a := rfl
@[go_sem] theorem extR_two1 (a b : AV) : extR (tup2 a b) 1 = some b := rfl
@[go_sem] theorem extR_three0 (a b c : AV) : extR (tup3 a b c) 0 = some a := rfl
@[go_sem] theorem extR_three1 (a b c : AV) : extR (tup3 a b c) 1 = some b := rfl
@[go_sem] theorem extR_three2 (a b c : AV) : extR (tup3 a b c) 2 = some c := rfl
@[go_sem] theorem rg1 (f : Nat → AV) : (List.range 1).map f = [f 0] := rfl
@[go_sem] theorem rg2 (f : Nat → AV) : (List.range 2).map f = [f 0, f 1] := rfl
@[go_sem] theorem rg3 (f : Nat → AV) : (List.range 3).map f = [f 0, f 1, f 2] := rfl
@[go_sem] theorem rg4 (f : Nat → AV) : (List.range 4).map f = [f 0, f 1, f 2, f 3] := rfl
@[go_sem] theorem rg5 (f : Nat → AV) : (List.range 5).map f = [f 0, f 1, f 2, f 3, f 4] := rfl
@[go_sem] theorem rg6 (f : Nat → AV) : (List.range 6).map f = [f 0, f 1, f 2, f 3, f 4, f 5] := rfl
@[go_sem] theorem rg7 (f : Nat → AV) : (List.range 7).map f = [f 0, f 1, f 2, f 3, f 4, f 5, f 6] := rfl
@[go_sem] theorem rg8 (f : Nat → AV) : (List.range 8).map f = [f 0, f 1, f 2, f 3, f 4, f 5, f 6, f 7] := rfl
@[go_sem] theorem rg9 (f : Nat → AV) : (List.range 9).map f = [f 0, f 1, f 2, f 3, f 4, f 5, f 6, f 7, f 8] := rfl
@[go_sem] theorem rg10 (f : Nat → AV) : (List.range 10).map f = [f 0, f 1, f 2, f 3, f 4, f 5, f 6, f 7, f 8, f 9] := rfl
@[go_sem] theorem rg11 (f : Nat → AV) : (List.range 11).map f = [f 0, f 1, f 2, f 3, f 4, f 5, f 6, f 7, f 8, f 9, f 10] := rfl
@[go_sem] theorem rg12 (f : Nat → AV) : (List.range 12).map f = [f 0, f 1, f 2, f 3, f 4, f 5, f 6, f 7, f 8, f 9, f 10, f 11] := rfl
@[go_sem] theorem rg13 (f : Nat → AV) : (List.range 13).map f = [f 0, f 1, f 2, f 3, f 4, f 5, f 6, f 7, f 8, f 9, f 10, f 11, f 12] := rfl
@[go_sem] theorem cellsA_agg (l : List AV) : cellsA (aggL l) = some (l.length, fun j => l.getD j .any) := rfl
@[go_sem] theorem cellsA_int (k : IntKind) (n : Int) : cellsA (.v (.int k n)) = some (1, fun _ => .v (.int k n)) := rfl
@[go_sem] theorem cellsA_bool (b : Bool) : cellsA (.v (.bool b)) = some (1, fun _ => .v (.bool b)) := rfl
@[go_sem] theorem cellsA_str (b : ByteArray) : cellsA (.v (.string b)) = some (1, fun _ => .v (.string b)) := rfl
@[go_sem] theorem cellsA_ptr (b : Option Addr) : cellsA (.v (.pointer b)) = some (1, fun _ => .v (.pointer b)) := rfl
@[go_sem] theorem cellsA_nils (b : Option Addr) (n c : Nat) : cellsA (.v (.slice b n c)) = some (1, fun _ => .v (.slice b n c)) := rfl
@[go_sem] theorem cellsA_sl (s n : Nat) (f : Nat → Nat → AV) : cellsA (.sl s n f) = some (1, fun _ => .sl s n f) := rfl
@[go_sem] theorem cellsA_row (b s o n : Nat) : cellsA (.row b s o n) = some (1, fun _ => .row b s o n) := rfl
@[go_sem] theorem cellsA_map (m : Option Nat) : cellsA (.v (.map m)) = some (1, fun _ => .v (.map m)) := rfl
@[go_sem] theorem cellsA_func (f : Fn) (a b : Array Value) : cellsA (.v (.func f a b)) = some (1, fun _ => .v (.func f a b)) := rfl
def eqB (op : BinOp) (l : Option (List (Nat × Nat))) (m m' : Nat) (f g : Nat → AV) : Option Bool := match l with
  | some l => match op, eqL l m m' f g with
    | .eql, some b => some b
    | .neq, some b => some (!b)
    | _, _ => none
  | none => none
@[go_sem] theorem eqA_agg (P : Program) (op : BinOp) (t : TypeId) (x y : List AV) : eqA P op t (aggL x) (aggL y) = eqB op (eqU P t) x.length y.length (fun j => x.getD j .any) (fun j => y.getD j .any) := by
  unfold eqA eqB aggL
  simp only
  cases eqU P t <;> rfl
def band (k : IntKind) (a b : Int) : Int := k.wrap (BitVec.ofInt k.bits a &&& BitVec.ofInt k.bits b).toNat
def bor (k : IntKind) (a b : Int) : Int := k.wrap (BitVec.ofInt k.bits a ||| BitVec.ofInt k.bits b).toNat
def bxor (k : IntKind) (a b : Int) : Int := k.wrap (BitVec.ofInt k.bits a ^^^ BitVec.ofInt k.bits b).toNat
@[go_sem] theorem binA_quo (P : Program) (t : TypeId) (k : IntKind) (a b : Int) : binA P .quo t (.v (.int k a)) (.v (.int k b)) = if b = 0 then none else some (.int k (k.wrap (a.tdiv b))) := by simp [binA, binI]
@[go_sem] theorem binA_rem (P : Program) (t : TypeId) (k : IntKind) (a b : Int) : binA P .rem t (.v (.int k a)) (.v (.int k b)) = if b = 0 then none else some (.int k (a.tmod b)) := by simp [binA, binI]
@[go_sem] theorem binA_and (P : Program) (t : TypeId) (k : IntKind) (a b : Int) : binA P .and t (.v (.int k a)) (.v (.int k b)) = some (.int k (band k a b)) := by simp [binA, binI, band]
@[go_sem] theorem binA_or (P : Program) (t : TypeId) (k : IntKind) (a b : Int) : binA P .or t (.v (.int k a)) (.v (.int k b)) = some (.int k (bor k a b)) := by simp [binA, binI, bor]
@[go_sem] theorem binA_xor (P : Program) (t : TypeId) (k : IntKind) (a b : Int) : binA P .xor t (.v (.int k a)) (.v (.int k b)) = some (.int k (bxor k a b)) := by simp [binA, binI, bxor]
@[go_sem] theorem binA_shl (P : Program) (t : TypeId) (k k' : IntKind) (a b : Int) : binA P .shl t (.v (.int k a)) (.v (.int k' b)) = if b < 0 then none else some (.int k (k.wrap (a * 2 ^ (min b.toNat k.bits)))) := by simp [binA]
@[go_sem] theorem binA_shr (P : Program) (t : TypeId) (k k' : IntKind) (a b : Int) : binA P .shr t (.v (.int k a)) (.v (.int k' b)) = if b < 0 then none else some (.int k (a.fdiv (2 ^ (min b.toNat k.bits)))) := by simp [binA]
@[go_sem] theorem binA_agg (P : Program) (op : BinOp) (t : TypeId) (x : List AV) (y : AV) : binA P op t (aggL x) y = none := by cases op <;> rfl
@[go_sem] theorem eqA_v (P : Program) (op : BinOp) (t : TypeId) (x : Value) (y : AV) : eqA P op t (.v x) y = none := rfl
@[go_sem] theorem eqA_sl (P : Program) (op : BinOp) (t : TypeId) (s n : Nat) (f : Nat → Nat → AV) (y : AV) : eqA P op t (.sl s n f) y = none := rfl
@[go_sem] theorem eqA_row (P : Program) (op : BinOp) (t : TypeId) (s n o m : Nat) (y : AV) : eqA P op t (.row s n o m) y = none := rfl
def gvR (want : Bool) (d : Option Tmp) (T : Nat → AV) : Option Bool := match d with
  | some d => gvS want (T d)
  | none => none
@[go_sem] theorem gvA_gvR (ops : List Oper) (T : Nat → AV) (j : Nat) (want : Bool) : gvA ops T j want = gvR want ((ops[j]?).bind (·.dst)) T := rfl
@[go_sem] theorem gvR_some (want : Bool) (d : Tmp) (T : Nat → AV) : gvR want (some d) T = gvS want (T d) := rfl
@[go_sem] theorem gvS_bool (want b : Bool) : gvS want (.v (.bool b)) = some b := rfl
@[go_sem] theorem gvS_un (want : Bool) : gvS want un = some (!want) := rfl
section
variable {P : Program} {N : Nat} {T : Nat → AV} {h : Hp} {K : (Nat → AV) → Hp → Prop}
theorem XG_true {b : Bool} {d : Option Tmp} {op : Op} {t : TypeId} {p : String} {af : Array Edge} {g : Option (Nat × Bool)} (h1 : b = true → XM P N (stp P T h op) ⟨d, op, t, p, af, g⟩ T h K) (h2 : b = false → dOk N d = true ∧ K (putD T d un) h) : XG P N (some b) true ⟨d, op, t, p, af, g⟩ T h K := by
  cases b
  · rw [XG_ft]; exact h2 rfl
  · rw [XG_same]; exact h1 rfl
theorem XG_false {b : Bool} {d : Option Tmp} {op : Op} {t : TypeId} {p : String} {af : Array Edge} {g : Option (Nat × Bool)} (h1 : b = false → XM P N (stp P T h op) ⟨d, op, t, p, af, g⟩ T h K) (h2 : b = true → dOk N d = true ∧ K (putD T d un) h) : XG P N (some b) false ⟨d, op, t, p, af, g⟩ T h K := by
  cases b
  · rw [XG_same]; exact h1 rfl
  · rw [XG_tf]; exact h2 rfl
theorem XHG_true {b : Bool} {d : Option Tmp} {op : Op} {t : TypeId} {p : String} {af : Array Edge} {g : Option (Nat × Bool)} {K : AV → Prop} (h1 : b = true → XHM P N (stp P T h op) ⟨d, op, t, p, af, g⟩ T h K) (h2 : b = false → K un) : XHG P N (some b) true ⟨d, op, t, p, af, g⟩ T h K := by
  cases b
  · rw [XHG_ft]; exact h2 rfl
  · rw [XHG_same]; exact h1 rfl
theorem XHG_false {b : Bool} {d : Option Tmp} {op : Op} {t : TypeId} {p : String} {af : Array Edge} {g : Option (Nat × Bool)} {K : AV → Prop} (h1 : b = false → XHM P N (stp P T h op) ⟨d, op, t, p, af, g⟩ T h K) (h2 : b = true → K un) : XHG P N (some b) false ⟨d, op, t, p, af, g⟩ T h K := by
  cases b
  · rw [XHG_same]; exact h1 rfl
  · rw [XHG_tf]; exact h2 rfl
end
section
variable {P : Program} {N : Nat} {T : Nat → AV} {h : Hp} {K : (Nat → AV) → Hp → Prop} {d : Option Tmp} {t : TypeId} {p : String} {af : Array Edge} {g : Option (Nat × Bool)}
def XWalloc (h : Hp) (e : TypeId) (K : AV → Hp → Prop) : Option (Nat × List Value) → Prop
  | some (n, z) => ∀ b, h b = none → K (.v (.pointer (some ⟨b, 0, none⟩))) (upd h b (some ⟨e, n, 1, fun _ j => .v (z.getD j undef)⟩))
  | none => False
def XWbox (h : Hp) (e : TypeId) (K : AV → Hp → Prop) : Option (Nat × (Nat → AV)) → Prop
  | some (n, f) => 0 < n ∧ ∀ b, h b = none → K (.v (.pointer (some ⟨b, 0, none⟩))) (upd h b (some ⟨e, n, 1, fun _ j => f j⟩))
  | none => False
def putW (T : Nat → AV) (d : Option Tmp) (K : (Nat → AV) → Hp → Prop) : AV → Hp → Prop := fun v h => K (putD T d v) h
@[go_sem] theorem putW_eq (v : AV) : putW T d K v h = K (putD T d v) h := Eq.trans rfl rfl
@[go_sem] theorem XW_alloc (e : TypeId) : XW P N ⟨d, .alloc e, t, p, af, g⟩ T h K = (dOk N d = true ∧ XWalloc h e (putW T d K) (zeroA P e)) := by
  simp only [XW]; cases zeroA P e <;> rfl
@[go_sem] theorem XWalloc_some (e : TypeId) (n : Nat) (z : List Value) (K : AV → Hp → Prop) : XWalloc h e K (some (n, z)) = ∀ b, h b = none → K (.v (.pointer (some ⟨b, 0, none⟩))) (upd h b (some ⟨e, n, 1, fun _ j => .v (z.getD j undef)⟩)) := Eq.trans rfl rfl
@[go_sem] theorem XW_box (e : TypeId) (x : Operand) : XW P N ⟨d, .box e x, t, p, af, g⟩ T h K = (dOk N d = true ∧ XWbox h e (putW T d K) (cellsA (ev T x))) := by
  simp only [XW]; cases cellsA (ev T x) <;> rfl
@[go_sem] theorem XWbox_some (e : TypeId) (n : Nat) (f : Nat → AV) (K : AV → Hp → Prop) : XWbox h e K (some (n, f)) = (0 < n ∧ ∀ b, h b = none → K (.v (.pointer (some ⟨b, 0, none⟩))) (upd h b (some ⟨e, n, 1, fun _ j => f j⟩))) := Eq.trans rfl rfl
def XWstore (h : Hp) (K : AV → Hp → Prop) : Option (Nat × Bool) → Option (Nat × (Nat → AV)) → AV → Prop
  | some (n, _), some (m, f), .v (.pointer (some ⟨b, off, none⟩)) => match h b with
    | some ob => m = n ∧ 0 < ob.n ∧ off + n ≤ ob.s ∧ K .any (upd h b (some (setA ob 0 off n f)))
    | none => False
  | some (n, _), some (m, f), .pt b s i j => match h b with
    | some ob => m = n ∧ ob.s = s ∧ i < ob.n ∧ j + n ≤ ob.s ∧ K .any (upd h b (some (setA ob i j n f)))
    | none => False
  | _, _, _ => False
@[go_sem] theorem XW_store (t' : TypeId) (a x : Operand) : XW P N ⟨d, .store t' a x, t, p, af, g⟩ T h K = (dOk N d = true ∧ XWstore h (putW T d K) (ldT P t') (cellsA (ev T x)) (ev T a)) := Eq.trans rfl rfl
attribute [go_sem] XWstore
def XWbuild (h : Hp) (P : Program) (T : Nat → AV) (parts : List (Nat × Operand)) (K : AV → Hp → Prop) : Option (List (Nat × Nat)) → Option (Nat × List Value) → Prop
  | some pl, some (m, z) => match buildA pl T m (fun j => .v (z.getD j undef)) parts with
    | some F => K (aggL ((List.range m).map F)) h
    | none => False
  | _, _ => False
@[go_sem] theorem XW_build (t' : TypeId) (parts : List (Nat × Operand)) : XW P N ⟨d, .build t' parts.toArray, t, p, af, g⟩ T h K = (dOk N d = true ∧ XWbuild h P T parts (putW T d K) (placesT P t') (zeroA P t')) := Eq.trans rfl rfl
attribute [go_sem] XWbuild
def XWslice (h : Hp) (P : Program) (T : Nat → AV) (len : Nat) (parts : List (Nat × Operand)) (K : AV → Hp → Prop) : Option TypeDesc → Prop
  | some (.slice e) => match zeroA P e with
    | some (s, _) => match partsA T s 0 parts with
      | some l => l.length = len ∧ (len = 0 → K .e0 h) ∧ (0 < len → len * s ≤ 16777216 ∧ ∀ b, h b = none → K (.row b s 0 len) (upd h b (some ⟨e, s, len, fun i j => (l.getD i (fun _ => .any)) j⟩)))
      | none => False
    | none => False
  | _ => False
@[go_sem] theorem XW_slice (t' : TypeId) (len : Nat) (parts : List (Nat × Operand)) : XW P N ⟨d, .buildSlice t' len parts.toArray, t, p, af, g⟩ T h K = (dOk N d = true ∧ XWslice h P T len parts (putW T d K) (P.underlying t')) := Eq.trans rfl rfl
attribute [go_sem] XWslice
def XWfn (P : Program) (h : Hp) (args : List AV) (K : AV → Hp → Prop) : AV → Prop
  | .v (.func (.func f) first caps) => first.size = 0 ∧ callable P f = true ∧ CallK P h f (args ++ caps.toList.map .v) K
  | _ => False
@[go_sem] theorem XW_callv (x : Tmp) (args : List Operand) (tys : Array TypeId) : XW P N ⟨d, .call ⟨.value (.tmp x), args.toArray, tys⟩, t, p, af, g⟩ T h K = (dOk N d = true ∧ XWfn P h (args.map (ev T)) (putW T d K) (T x)) := by
  simp only [XW]; cases T x <;> rfl
@[go_sem] theorem XWfn_func (f : FuncId) (args : List AV) (caps : List Value) (K : AV → Hp → Prop) : XWfn P h args K (.v (.func (.func f) #[] caps.toArray)) = (callable P f = true ∧ CallK P h f (args ++ caps.map .v) K) := by simp [XWfn]
end
theorem Wk.of_eq {h : Hp} {r r' : AV} (e : r = r') : Wk h r h r' := e ▸ Wk.refl h r

theorem upd_none {h : Hp} {b c : Nat} {o : Ob} : (upd h b (some o) c = none) = (c ≠ b ∧ h c = none) := by
  unfold upd
  by_cases hc : c = b <;> simp [hc]
theorem ite_none {c : Prop} [Decidable c] {o : Ob} {y : Option Ob} : ((if c then some o else y) = none) = (¬ c ∧ y = none) := by
  by_cases hc : c <;> simp [hc]
/-- Less is owned. -/
def Sub (h' h : Hp) : Prop := ∀ b o, h' b = some o → h b = some o
theorem Sub.refl (h : Hp) : Sub h h := fun _ _ x => x
theorem Sub.upd {h' h : Hp} {b : Nat} {o : Option Ob} (hb : h' b = none) (hs : Sub h' h) : Sub h' (upd h b o) := fun c ob hc => by
  rw [upd_ne _ _ (fun e => by subst e; rw [hb] at hc; cases hc)]
  exact hs c ob hc
theorem Wk.drop {h h' : Hp} (r : AV) (hs : Sub h' h) : Wk h r h' r := Wk.sub r hs
theorem Wk.fin {h h' : Hp} {r r' : AV} (hs : Sub h h') (e : r = r') : Wk h' r h r' := e ▸ Wk.drop r hs
/-- An own row that nobody will write any more. -/
theorem Wk.row {h h' : Hp} {b s n : Nat} {o : Ob} (hb : h b = some o) (hs : Sub h' h) (hb' : h' b = none) (h1 : o.s = s) (h2 : n ≤ o.n) (h3 : n ≤ 140737488355328) : Wk h (.row b s 0 n) h' (.sl s n o.f) := by
  constructor
  intro w u hh hr
  refine ⟨stp_forget hs, relH_forget hh hs, ?_⟩
  obtain ⟨cap, hu, hle, hlt, _⟩ := hr
  subst h1
  refine ⟨some ⟨b, 0 * o.s, none⟩, cap, hu, hle, h3, fun _ => ⟨b, 0 * o.s, rfl, hb', hlt, fun i hi j hj => ?_⟩⟩
  obtain ⟨c, hc, hn, hp, hcell⟩ := hh.cells hb (.inl (by omega))
  obtain ⟨y, hy, hy1, hyr⟩ := hcell i (by omega) j hj
  exact ⟨y, by simp only [World.cell?, hc]; simpa using hy, hy1, hyr.step (stp_forget hs)⟩
section
variable {P : Program} {h : Hp} {f : FuncId} {args : List AV}
def CallXb (b : Bool) (P : Program) (h : Hp) (f : FuncId) (args : List AV) (K : AV → Hp → Prop) : Prop := if b = true then CallK P h f args K else ∃ r, Ext P f args r ∧ K r h
def PureXb (b : Bool) (P : Program) (h : Hp) (f : FuncId) (args : List AV) (r : AV) : Prop := if b = true then PureAt P h f args r else Ext P f args r
@[go_sem] theorem CallX_b (K : AV → Hp → Prop) : CallX P h f args K = CallXb (callable P f) P h f args K := Eq.trans rfl rfl
@[go_sem] theorem PureX_b (r : AV) : PureX P h f args r = PureXb (callable P f) P h f args r := Eq.trans rfl rfl
@[go_sem] theorem CallXb_t (K : AV → Hp → Prop) : CallXb true P h f args K = CallK P h f args K := by simp [CallXb]
@[go_sem] theorem CallXb_f (K : AV → Hp → Prop) : CallXb false P h f args K = ∃ r, Ext P f args r ∧ K r h := by simp [CallXb]
@[go_sem] theorem PureXb_t (r : AV) : PureXb true P h f args r = PureAt P h f args r := by simp [PureXb]
@[go_sem] theorem PureXb_f (r : AV) : PureXb false P h f args r = Ext P f args r := by simp [PureXb]
end
attribute [go_sem] eqB eqL eq1 upd_upd loadA ownAt fieldAddrA fieldA indexAddrA indexA lenA sliceA bnd slenA convA binS nilCmp isNilSl concAll conc minmaxA chkR setA rngA buildA partsA srcA
end Go.Proofs.YtmalhikcdideoaaGreatDoor.Sl
