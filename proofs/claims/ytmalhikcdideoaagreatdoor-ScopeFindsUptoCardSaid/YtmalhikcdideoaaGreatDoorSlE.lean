/- The semantic layer, fifth part: the operations that make or write memory, calls, regions, code; that what is told abstractly is what the machine does. -/
import Derived.Test.YtmalhikcdideoaaGreatDoorSlD
set_option linter.unusedVariables false
set_option linter.unusedSimpArgs false
namespace Go.Proofs.YtmalhikcdideoaaGreatDoor.Sl
open Go Go.RowKit

def dOk (N : Nat) : Option Tmp → Bool
  | none => true
  | some d => decide (d < N)
def putD (T : Nat → AV) : Option Tmp → AV → Nat → AV
  | none, _ => T
  | some d, v => upd T d v

def RdL (w : World) (h : Hp) (args : List AV) (vals : Array Value) : Prop := vals.size = args.length ∧ ∀ (i : Nat) (a : AV), args[i]? = some a → ∃ u, vals[i]? = some u ∧ Rd w h a u

/-- A call, told abstractly: wherever it begins, it returns a value and a heap as K asks; nothing else has turned. -/
def CallK (P : Program) (h : Hp) (f : FuncId) (args : List AV) (K : AV → Hp → Prop) : Prop :=
  ∀ (w : World) (vals : Array Value), RelH w h → RdL w h args vals → Calls P f vals w fun e w' => ∃ u r h', e = .returned u ∧ K r h' ∧ Rd w' h' r u ∧ RelH w' h' ∧ Io w w' ∧ Stp w h w' h'
/-- A function of its arguments alone: on whatever heap. -/
def Pure (P : Program) (f : FuncId) (args : List AV) (r : AV) : Prop := ∀ h, CallK P h f args fun r' h' => r' = r ∧ h' = h

/-- On this heap: this result, and the heap as it was. -/
def PureAt (P : Program) (h : Hp) (f : FuncId) (args : List AV) (r : AV) : Prop := CallK P h f args fun r' h' => r' = r ∧ h' = h
theorem Pure.at {P : Program} {h : Hp} {f : FuncId} {args : List AV} {r : AV} (c : Pure P f args r) : PureAt P h f args r := c h

theorem CallK.mono {P : Program} {h : Hp} {f : FuncId} {args : List AV} {K K' : AV → Hp → Prop} (c : CallK P h f args K) (hk : ∀ r h', K r h' → K' r h') : CallK P h f args K' :=
  fun w vals hh ha => (c w vals hh ha).mono fun e w' ⟨u, r, h', h1, h2, h3⟩ => ⟨u, r, h', h1, hk r h' h2, h3⟩
theorem Pure.call {P : Program} {h : Hp} {f : FuncId} {args : List AV} {r : AV} {K : AV → Hp → Prop} (c : Pure P f args r) (hk : K r h) : CallK P h f args K :=
  (c h).mono fun r' h' ⟨e1, e2⟩ => by subst e1; subst e2; exact hk
theorem PureAt.call {P : Program} {h : Hp} {f : FuncId} {args : List AV} {r : AV} {K : AV → Hp → Prop} (c : PureAt P h f args r) (hk : K r h) : CallK P h f args K :=
  CallK.mono c fun r' h' ⟨e1, e2⟩ => by subst e1; subst e2; exact hk

/-- May the function be called: it has a body. -/
def callable (P : Program) (f : FuncId) : Bool := match P.funcs[f]? with
  | some fn => fn.name != "runtime.NumGoroutine" && fn.body.isSome
  | none => false

/-- A call that the model itself answers, at once. -/
def Ext (P : Program) (f : FuncId) (args : List AV) (r : AV) : Prop := ∀ (w : World) (h : Hp) (vals : Array Value), RelH w h → RdL w h args vals → ∃ u, (callFunc f vals).run P w = .ok (.value u) w ∧ Rd w h r u
/-- A call, of either kind. -/
def CallX (P : Program) (h : Hp) (f : FuncId) (args : List AV) (K : AV → Hp → Prop) : Prop := if callable P f = true then CallK P h f args K else ∃ r, Ext P f args r ∧ K r h
def PureX (P : Program) (h : Hp) (f : FuncId) (args : List AV) (r : AV) : Prop := if callable P f = true then PureAt P h f args r else Ext P f args r
theorem PureX.callX {P : Program} {h : Hp} {f : FuncId} {args : List AV} {r : AV} {K : AV → Hp → Prop} (c : PureX P h f args r) (hk : K r h) : CallX P h f args K := by
  unfold PureX at c; unfold CallX
  split
  · rename_i hc; rw [if_pos hc] at c; exact c.call hk
  · rename_i hc; rw [if_neg hc] at c; exact ⟨r, c, hk⟩
theorem CallX.mono {P : Program} {h : Hp} {f : FuncId} {args : List AV} {K K' : AV → Hp → Prop} (c : CallX P h f args K) (hk : ∀ r h', K r h' → K' r h') : CallX P h f args K' := by
  unfold CallX at c ⊢
  split
  · rename_i hc; rw [if_pos hc] at c; exact CallK.mono c hk
  · rename_i hc; rw [if_neg hc] at c; exact ⟨c.choose, c.choose_spec.1, hk _ _ c.choose_spec.2⟩

def zeroA (P : Program) (e : TypeId) : Option (Nat × List Value) :=
  match P.info? e with
  | some i => match i.zero with
    | some z => if z.cells.size = i.size ∧ 0 < i.size ∧ z.cells.toList.all (·.oneCell') = true then some (i.size, z.cells.toList) else none
    | none => none
  | none => none
theorem zeroA_pos {P : Program} {e : TypeId} {n : Nat} {z : List Value} (hz : zeroA P e = some (n, z)) : 0 < n := by
  unfold zeroA at hz
  split at hz
  · split at hz
    · split at hz
      · rename_i hc
        simp only [Option.some.injEq, Prod.mk.injEq] at hz
        obtain ⟨rfl, _⟩ := hz
        exact hc.2.1
      · cases hz
    · cases hz
  · cases hz
/-- A type's zero value. -/
def zeroV (P : Program) (e : TypeId) : Option AV :=
  match P.info? e with
  | some i => match i.zero with
    | some (.agg cs) => if cs.toList.all (·.oneCell') = true then some (aggL (cs.toList.map .v)) else none
    | some z => some (.v z)
    | none => none
  | none => none
/-- Kinds of keys that are compared at once. -/
def keyT (P : Program) (t : TypeId) : Nat := match P.underlying t with
  | some (.int _) => 1
  | some .string => 2
  | some .bool => 3
  | some (.struct _) => if eqT P t = some [(0, 1), (1, 1)] then 4 else 0
  | _ => 0
/-- Two pairs of texts. -/
def key2 (a b : AV) : Option Bool := match a, b with
  | .agg m f, .agg m' g => if m = 2 ∧ m' = 2 then (match f 0, f 1, g 0, g 1 with
    | .v (.string a), .v (.string b), .v (.string c), .v (.string d) => some (decide (a = c) && decide (b = d))
    | _, _, _, _ => none) else none
  | _, _ => none
/-- Are two keys of one kind the same. -/
def keyEq (k : Nat) (a b : AV) : Option Bool := if k = 4 then key2 a b else match k, a, b with
  | 1, .v (.int j x), .v (.int j' y) => if j = j' then some (decide (x = y)) else none
  | 2, .v (.string x), .v (.string y) => some (decide (x = y))
  | 3, .v (.bool x), .v (.bool y) => some (decide (x = y))
  | _, _, _ => none
/-- Where a key is first. -/
def FindK0 (k n : Nat) (g : Nat → Nat → AV) (x : AV) : Option Nat → Prop
  | some i => i < n ∧ keyEq k x (g i 0) = some true ∧ ∀ j, j < i → keyEq k x (g j 0) = some false
  | none => ∀ j, j < n → keyEq k x (g j 0) = some false
def FindK (k n : Nat) (g : Nat → Nat → AV) (x : AV) (q : Option Nat) : Prop := FindK0 k n g x q ∧ (k = 4 → key2 x x = some true)
def mapOb (n clock : Nat) (g : Nat → Nat → AV) : Ob := ⟨0, 0, 0, fun _ j => if j = 0 then .mp n g else .v (.int .i64 clock)⟩
def sitOb (s : ByteArray) (pos : Nat) : Ob := ⟨0, 0, 0, fun _ j => if j = 0 then .v (.string s) else .v (.int .i64 pos)⟩
/-- An iterator over a map, and when an entry was laid. -/
def mitOb (m c : Nat) (seen : List Nat) : Ob := ⟨0, 0, 0, fun _ j => if j = 0 then .v (.map (some m)) else if j = 3 then .v (.tuple (seen.toArray.map fun k : Nat => Value.int .i64 k)) else .v (.int .i64 c)⟩
def bornA (g : Nat → Nat → AV) (i : Nat) : Nat := match g i 2 with
  | .v (.int _ k) => k.toNat
  | _ => 0
/-- An entry is another. -/
def setE (g : Nat → Nat → AV) (i : Nat) (k v : AV) : Nat → Nat → AV := fun j c => if j = i then (if c = 0 then k else if c = 1 then v else g j c) else g j c
def addE (g : Nat → Nat → AV) (n clock : Nat) (k v : AV) : Nat → Nat → AV := fun j c => if j = n then (if c = 0 then k else if c = 1 then v else .v (.int .i64 clock)) else g j c
def delE (g : Nat → Nat → AV) (i : Nat) : Nat → Nat → AV := fun j c => if j < i then g j c else g (j + 1) c
/-- By where a key is. -/
def qE {α : Type} (q : Option Nat) (f : Nat → α) (d : α) : α := match q with
  | some i => f i
  | none => d
def lookR (ck : Bool) (v : AV) (b : Bool) : AV := if ck then tup2 v (.v (.bool b)) else v
/-- A range of cells is others. -/
def rngA (F : Nat → AV) (off n : Nat) (f : Nat → AV) : Nat → AV := fun j => if off ≤ j ∧ j < off + n then f (j - off) else F j
def buildA (pl : List (Nat × Nat)) (T : Nat → AV) (m : Nat) : (Nat → AV) → List (Nat × Operand) → Option (Nat → AV)
  | F, [] => some F
  | F, (i, x) :: r => match pl[i]?, cellsA (ev T x) with
    | some (off, n), some (n', f) => if n' = n ∧ off + n ≤ m then buildA pl T m (rngA F off n f) r else none
    | _, _ => none
/-- The elements of a slice literal, each told. -/
def partsA (T : Nat → AV) (s : Nat) : Nat → List (Nat × Operand) → Option (List (Nat → AV))
  | _, [] => some []
  | k, (i, x) :: r => match cellsA (ev T x), partsA T s (k + 1) r with
    | some (n, f), some l => if n = s ∧ i = k then some (f :: l) else none
    | _, _ => none
/-- What is appended: how many elements, and their cells. -/
def srcA (h : Hp) (s : Nat) : AV → Option (Nat × (Nat → Nat → AV))
  | .sl s' n f => if s' = s then some (n, f) else none
  | .row b s' off n => match h b with
    | some o => if o.s = s ∧ s' = s ∧ off + n ≤ o.n then some (n, fun i j => o.f (off + i) j) else none
    | none => none
  | .v (.slice none 0 0) => some (0, fun _ _ => .any)
  | .e0 => some (0, fun _ _ => .any)
  | _ => none
def bytesT (P : Program) (e : TypeId) : Option Nat := (P.info? e).map (·.bytes)

def placesT (P : Program) (t : TypeId) : Option (List (Nat × Nat)) :=
  match P.underlying t with
  | some (.struct fs) => fs.toList.mapM fun f => (P.info? f.type).map fun i => (f.offset, i.size)
  | _ => none
/-- What a slot holds whose operation was left out. -/
def un : AV := .v (.tuple #[])
/-- A loop over a map or a text begins. -/
def XRange (P : Program) (t : TypeId) (x : AV) (h : Hp) (K : AV → Hp → Prop) : Prop := match P.underlying t with
  | some (.map _ _) => ∃ m n c g, x = .v (.map (some m)) ∧ h m = some (mapOb n c g) ∧ ∀ b, h b = none → K (.v (.pointer (some ⟨b, 0, none⟩))) (upd h b (some (mitOb m c [])))
  | some .string => ∃ s, x = .v (.string s) ∧ ∀ b, h b = none → K (.v (.pointer (some ⟨b, 0, none⟩))) (upd h b (some (sitOb s 0)))
  | _ => False
/-- Maps, iterators, new slices. -/
def XW2 (P : Program) (N : Nat) (o : Oper) (T : Nat → AV) (h : Hp) (K : (Nat → AV) → Hp → Prop) : Prop :=
  match o.op with
  | .makeMap t none => (match P.underlying t with | some (.map _ _) => True | _ => False) ∧ ∀ b, h b = none → K (putD T o.dst (.v (.map (some b)))) (upd h b (some (mapOb 0 0 fun _ _ => .any)))
  | .makeMap t (some x) => (match P.underlying t, ev T x with | some (.map _ _), .v (.int _ _) => True | _, _ => False) ∧ ∀ b, h b = none → K (putD T o.dst (.v (.map (some b)))) (upd h b (some (mapOb 0 0 fun _ _ => .any)))
  | .lookup t x i ck => match P.underlying t with
    | some (.map kt et) => ∃ n c g q z b, ev T x = .v (.map (some b)) ∧ h b = some (mapOb n c g) ∧ FindK (keyT P kt) n g (ev T i) q ∧ keyT P kt ≠ 0 ∧ zeroV P et = some z ∧
        K (putD T o.dst (lookR ck (qE q (fun i => g i 1) z) q.isSome)) h
    | _ => False
  | .mapUpdate t m k x => match P.underlying t with
    | some (.map kt _) => ∃ n c g q b, ev T m = .v (.map (some b)) ∧ h b = some (mapOb n c g) ∧ FindK (keyT P kt) n g (ev T k) q ∧ keyT P kt ≠ 0 ∧
        K (putD T o.dst .any) (upd h b (some (qE q (fun i => mapOb n c (setE g i (ev T k) (ev T x))) (mapOb (n + 1) (c + 1) (addE g n c (ev T k) (ev T x))))))
    | _ => False
  | .insert t m k x => match P.underlying t with
    | some (.map kt _) => ∃ n c g q b, ev T m = .v (.map (some b)) ∧ h b = some (mapOb n c g) ∧ FindK (keyT P kt) n g (ev T k) q ∧ keyT P kt ≠ 0 ∧
        K (putD T o.dst .any) (upd h b (some (qE q (fun i => mapOb n c (setE g i (ev T k) (ev T x))) (mapOb (n + 1) (c + 1) (addE g n c (ev T k) (ev T x))))))
    | _ => False
  | .call ⟨.builtin .len, args, tys⟩ => match args.toList, tys.toList with
    | [x], [t] => match P.underlying t with
      | some (.map _ _) => ∃ n c g b, ev T x = .v (.map (some b)) ∧ h b = some (mapOb n c g) ∧ K (putD T o.dst (.v (.int .i64 n))) h
      | _ => False
    | _, _ => False
  | .call ⟨.builtin .delete, args, tys⟩ => match args.toList, tys.toList with
    | [x, k], [t, _] => match P.underlying t with
      | some (.map kt _) => ∃ n c g q b, ev T x = .v (.map (some b)) ∧ h b = some (mapOb n c g) ∧ FindK (keyT P kt) n g (ev T k) q ∧ keyT P kt ≠ 0 ∧
          K (putD T o.dst un) (upd h b (some (qE q (fun i => mapOb (n - 1) c (delE g i)) (mapOb n c g))))
      | _ => False
    | _, _ => False
  | .call ⟨.builtin .clear, args, tys⟩ => match args.toList, tys.toList with
    | [x], [t] => ∃ e z b off n ob, P.underlying t = some (.slice e) ∧ zeroA P e = some (1, z) ∧ ev T x = .row b 1 off n ∧ h b = some ob ∧ ob.s = 1 ∧ off + n = ob.n ∧ K (putD T o.dst un) (upd h b (some { ob with n := off }))
    | _, _ => False
  | .makeSlice t l c => match P.underlying t with
    | some (.slice e) => match zeroA P e, bytesT P e with
      | some (s, z), some by_ => ∃ n c' : Nat, ev T l = .v (.int .i64 n) ∧ ev T c = .v (.int .i64 c') ∧ n ≤ c' ∧ c' * by_ ≤ 140737488355328 ∧ c' ≤ 140737488355328 ∧
          ∀ b, h b = none → K (putD T o.dst (.row b s 0 n)) (upd h b (some ⟨e, s, n, fun _ j => .v (z.getD j undef)⟩))
      | _, _ => False
    | _ => False
  | .range t x => XRange P t (ev T x) h fun v h' => K (putD T o.dst v) h'
  | .next it false => ∃ b m n c g is, ev T it = .v (.pointer (some ⟨b, 0, none⟩)) ∧ h b = some (mitOb m c (is.map (bornA g))) ∧ h m = some (mapOb n c g) ∧ (∀ i ∈ is, i < n) ∧
      (∀ i, i < n → i ∉ is → K (putD T o.dst (tup3 (.v (.bool true)) (g i 0) (g i 1))) (upd h b (some (mitOb m c ((is ++ [i]).map (bornA g)))))) ∧
      ((∀ i, i < n → i ∈ is) → K (putD T o.dst (.tup 1 fun _ => .v (.bool false))) h)
  | .entry it => ∃ b m n c g is i, ev T it = .v (.pointer (some ⟨b, 0, none⟩)) ∧ h b = some (mitOb m c ((is ++ [i]).map (bornA g))) ∧ h m = some (mapOb n c g) ∧ i < n ∧
      K (putD T o.dst (tup2 (g i 0) (g i 1))) h
  | .next it true => ∃ b s pos, ev T it = .v (.pointer (some ⟨b, 0, none⟩)) ∧ h b = some (sitOb s pos) ∧
      (pos < s.size → K (putD T o.dst (tup3 (.v (.bool true)) (.v (.int .i64 pos)) (.v (.int .i32 (Utf8.decode s pos).1)))) (upd h b (some (sitOb s (pos + (Utf8.decode s pos).2))))) ∧
      (¬ pos < s.size → K (putD T o.dst (.tup 1 fun _ => .v (.bool false))) h)
  | .convert src dst x => P.underlying src = some .string ∧ ∃ e s, P.underlying dst = some (.slice e) ∧ P.underlying e = some (.int .u8) ∧ ev T x = .v (.string s) ∧ s.size ≤ 140737488355328 ∧
      K (putD T o.dst (.sl 1 s.size fun i _ => .v (.int .u8 (s.data.toList.getD i 0).toNat))) h
  | .binOp op t x y _ => op = .eql ∧ ∃ e s f, P.underlying t = some (.slice e) ∧ ev T x = .sl s 0 f ∧ ev T y = .v (.slice none 0 0) ∧ ∀ b, K (putD T o.dst (.v (.bool b))) h
  | _ => False
/-- 'append(bytes, text...)'. -/
def XWstr (P : Program) (h : Hp) (s x : AV) (t t' : TypeId) (K : AV → Hp → Prop) : Prop :=
  ∃ (e : TypeId) (z : List Value) (by_ : Nat) (b : ByteArray), P.underlying t = some (.slice e) ∧ P.underlying t' = some .string ∧ zeroA P e = some (1, z) ∧ bytesT P e = some by_ ∧ x = .v (.string b) ∧
    ((s = .v (.slice none 0 0) ∧ b.size * by_ ≤ 140737488355328 ∧ b.size ≤ 140737488355328 ∧ (b.size = 0 → K (.v (.slice none 0 0)) h) ∧ (0 < b.size → ∀ k, h k = none → K (.row k 1 0 b.size) (upd h k (some ⟨e, 1, b.size, fun i _ => .v (.int .u8 (b.data.toList.getD i 0).toNat)⟩)))) ∨
    (∃ k n ob, s = .row k 1 0 n ∧ h k = some ob ∧ ob.s = 1 ∧ ob.ty = e ∧ ob.n = n ∧ (n + b.size) * by_ ≤ 140737488355328 ∧ n + b.size ≤ 140737488355328 ∧
      ∀ k', (k' = k ∨ h k' = none) → K (.row k' 1 0 (n + b.size)) (upd (upd h k none) k' (some ⟨e, 1, n + b.size, fun i j => if i < n then ob.f i j else .v (.int .u8 (b.data.toList.getD (i - n) 0).toNat)⟩))))
/-- The operations that make or write memory, and calls. -/
def XW (P : Program) (N : Nat) (o : Oper) (T : Nat → AV) (h : Hp) (K : (Nat → AV) → Hp → Prop) : Prop :=
  dOk N o.dst = true ∧
  match o.op with
  | .alloc e => match zeroA P e with
    | some (n, z) => ∀ b, h b = none → K (putD T o.dst (.v (.pointer (some ⟨b, 0, none⟩)))) (upd h b (some ⟨e, n, 1, fun _ j => .v (z.getD j undef)⟩))
    | none => False
  | .box e x => match cellsA (ev T x) with
    | some (n, f) => 0 < n ∧ ∀ b, h b = none → K (putD T o.dst (.v (.pointer (some ⟨b, 0, none⟩)))) (upd h b (some ⟨e, n, 1, fun _ j => f j⟩))
    | none => False
  | .store t a x => match ldT P t, cellsA (ev T x), ev T a with
    | some (n, _), some (m, f), .v (.pointer (some ⟨b, off, none⟩)) => match h b with
      | some ob => m = n ∧ 0 < ob.n ∧ off + n ≤ ob.s ∧ K (putD T o.dst .any) (upd h b (some (setA ob 0 off n f)))
      | none => False
    | some (n, _), some (m, f), .pt b s i j => match h b with
      | some ob => m = n ∧ ob.s = s ∧ i < ob.n ∧ j + n ≤ ob.s ∧ K (putD T o.dst .any) (upd h b (some (setA ob i j n f)))
      | none => False
    | _, _, _ => False
  | .build t parts => match placesT P t, zeroA P t with
    | some pl, some (m, z) => match buildA pl T m (fun j => .v (z.getD j undef)) parts.toList with
      | some F => K (putD T o.dst (aggL ((List.range m).map F))) h
      | none => False
    | _, _ => False
  | .buildSlice t len parts => match P.underlying t with
    | some (.slice e) => match zeroA P e with
      | some (s, _) => match partsA T s 0 parts.toList with
        | some l => l.length = len ∧ (len = 0 → K (putD T o.dst .e0) h) ∧ (0 < len → len * s ≤ 16777216 ∧ ∀ b, h b = none → K (putD T o.dst (.row b s 0 len)) (upd h b (some ⟨e, s, len, fun i j => (l.getD i (fun _ => .any)) j⟩)))
        | none => False
      | none => False
    | _ => False
  | .call ⟨.value (.func f), args, _⟩ => CallX P h f (args.toList.map (ev T)) fun r h' => K (putD T o.dst r) h'
  | .call ⟨.value (.tmp x), args, _⟩ => match T x with
    | .v (.func (.func f) first caps) => first.size = 0 ∧ callable P f = true ∧ CallK P h f (args.toList.map (ev T) ++ caps.toList.map .v) fun r h' => K (putD T o.dst r) h'
    | _ => False
  | .call ⟨.builtin .append, args, tys⟩ => match args.toList, tys.toList with
    | [s, x], [t, t'] => (t = t' ∧ match P.underlying t with
      | some (.slice e) => match zeroA P e, bytesT P e with
        | some (sz, _), some by_ => match srcA h sz (ev T x) with
          | some (m, g) => match ev T s with
            | .v (.slice none 0 0) => m * by_ ≤ 140737488355328 ∧ m ≤ 140737488355328 ∧ (m = 0 → K (putD T o.dst (.v (.slice none 0 0))) h) ∧ (0 < m → ∀ b, h b = none → K (putD T o.dst (.row b sz 0 m)) (upd h b (some ⟨e, sz, m, g⟩)))
            | .row b s' 0 n => match h b with
              | some ob => ob.s = sz ∧ s' = sz ∧ ob.ty = e ∧ ob.n = n ∧ (n + m) * by_ ≤ 140737488355328 ∧ n + m ≤ 140737488355328 ∧
                  ∀ b', (b' = b ∨ h b' = none) → K (putD T o.dst (.row b' sz 0 (n + m))) (upd (upd h b none) b' (some ⟨e, sz, n + m, fun i j => if i < n then ob.f i j else g (i - n) j⟩))
              | none => False
            | .e0 => m * by_ ≤ 140737488355328 ∧ m ≤ 140737488355328 ∧ (m = 0 → K (putD T o.dst .e0) h) ∧ (0 < m → ∀ b, h b = none → K (putD T o.dst (.row b sz 0 m)) (upd h b (some ⟨e, sz, m, g⟩)))
            | _ => False
          | none => False
        | _, _ => False
      | _ => False) ∨ XWstr P h (ev T s) (ev T x) t t' fun v h' => K (putD T o.dst v) h'
    | _, _ => False
  | _ => XW2 P N o T h K

def XOp (P : Program) (N : Nat) (o : Oper) (T : Nat → AV) (h : Hp) (K : (Nat → AV) → Hp → Prop) : Prop :=
  match stp P T h o.op with
  | some v => dOk N o.dst = true ∧ K (putD T o.dst v) h
  | none => XW P N o T h K
/-- What a guard's slot says: a truth value; left out, the other one than is wanted. -/
def gvS (want : Bool) : AV → Option Bool
  | .v (.bool b) => some b
  | .v (.tuple _) => some (!want)
  | _ => none
def gvA (ops : List Oper) (T : Nat → AV) (j : Nat) (want : Bool) : Option Bool :=
  match (ops[j]?).bind (·.dst) with
  | some d => gvS want (T d)
  | none => none
/-- A region's operations, in order. -/
def XO (P : Program) (N : Nat) (ops : List Oper) : List Oper → (Nat → AV) → Hp → ((Nat → AV) → Hp → Prop) → Prop
  | [], T, h, K => K T h
  | o :: rest, T, h, K => match o.guard with
    | none => XOp P N o T h fun T' h' => XO P N ops rest T' h' K
    | some (j, want) => match gvA ops T j want with
      | some b => (b = want → XOp P N o T h fun T' h' => XO P N ops rest T' h' K) ∧ (b ≠ want → dOk N o.dst = true ∧ XO P N ops rest (putD T o.dst un) h K)
      | none => False
/-- A region that draws its order. -/
def XD (P : Program) (N : Nat) (id : Nat) (ops : Array Oper) (T : Nat → AV) (h : Hp) (K : (Nat → AV) → Hp → Prop) : Prop :=
  ∀ w0 h0 a w, Rel w0 h0 N T h a w → (Code.region id ops true).wp P (fun e a' w' => e = .normal ∧ ∃ T' h', K T' h' ∧ Rel w0 h0 N T' h' a' w') a w
/-- What is told by the first state is told by the second one. -/
def WkS (N : Nat) (T : Nat → AV) (h : Hp) (T2 : Nat → AV) (h2 : Hp) : Prop := ∀ w0 h0 a w, Rel w0 h0 N T h a w → Rel w0 h0 N T2 h2 a w
theorem WkS.refl (N : Nat) (T : Nat → AV) (h : Hp) : WkS N T h T h := fun _ _ _ _ r => r
/-- Code. -/
def X (P : Program) (N : Nat) : Code → (Nat → AV) → Hp → (Exit → (Nat → AV) → Hp → Prop) → Prop
  | .skip, T, h, Q => Q .normal T h
  | .region id ops draw, T, h, Q => if draw = true then XD P N id ops T h (Q .normal) else XO P N ops.toList ops.toList T h (Q .normal)
  | .seq a b, T, h, Q => X P N a T h fun e T' h' => match e with
    | .normal => X P N b T' h' Q
    | e => Q e T' h'
  | .cond c a b, T, h, Q => match ev T c with
    | .v (.bool t) => (t = true → X P N a T h Q) ∧ (t = false → X P N b T h Q)
    | _ => False
  | .block id c, T, h, Q => X P N c T h fun e T' h' => match e with
    | .exit i => if i = id then Q .normal T' h' else Q (.exit i) T' h'
    | e => Q e T' h'
  | .loop c, T, h, Q => ∃ (J : Nat → (Nat → AV) → Hp → Prop) (n : Nat), J n T h ∧ ∀ n T h, J n T h → X P N c T h fun e T' h' => match e with
    | .normal => ∃ n', n' < n ∧ ∃ T2 h2, WkS N T' h' T2 h2 ∧ J n' T2 h2
    | e => Q e T' h'
  | .exit id, T, h, Q => Q (.exit id) T h
  | .ret, T, h, Q => Q .ret T h
  | _, _, _, _ => False

section
variable {P : Program} {N : Nat} {w0 : World} {h0 : Hp} {T : Nat → AV} {h : Hp} {a : Act} {w : World}
theorem Rel.putD (r : Rel w0 h0 N T h a w) {h' : Hp} {w' : World} {d : Option Tmp} (hd : dOk N d = true) {x : AV} {u : Value} (hx : Rd w' h' x u) (st : Stp w h w' h') (hh : RelH w' h') (io : Io w w') :
    Rel w0 h0 N (putD T d x) h' (a.put d u) w' := by
  cases d with
  | none => exact r.put0 st hh io
  | some d => exact r.put (by simpa [dOk] using hd) hx st hh io
theorem Rel.put_same (r : Rel w0 h0 N T h a w) {d : Option Tmp} (hd : dOk N d = true) {x : AV} {u : Value} (hx : Rd w h x u) : Rel w0 h0 N (Sl.putD T d x) h (a.put d u) w :=
  r.putD hd hx (Stp.refl w h) r.heap (Io.refl w)
theorem Rel.args (r : Rel w0 h0 N T h a w) (xs : Array Operand) : RdL w h (xs.toList.map (Sl.ev T)) (xs.map a.eval) := by
  refine ⟨by simp, fun i x hx => ?_⟩
  simp only [List.getElem?_map] at hx
  cases hi : xs.toList[i]? with
  | none => simp [hi] at hx
  | some y =>
    simp only [hi, Option.map_some, Option.some.injEq] at hx
    subst hx
    refine ⟨a.eval y, ?_, r.ev y⟩
    have : xs[i]? = some y := by simpa using hi
    simp [this]
theorem callFunc_run {f : FuncId} (hc : callable P f = true) (args : Array Value) (w : World) : (callFunc f args).run P w = .ok (.enter f args) w := by
  unfold callable at hc
  split at hc
  · rename_i fn hf
    simp only [Bool.and_eq_true, bne_iff_ne, ne_eq] at hc
    have hb : fn.body ≠ none := by cases hb : fn.body <;> simp_all
    simp [callFunc, hf, hc.1, hb]
  · cases hc
theorem calls_next {f : FuncId} {args : List AV} {vals : Array Value} {K : AV → Hp → Prop} (c : CallK P h f args K) (r : Rel w0 h0 N T h a w) (ha : RdL w h args vals) {d : Option Tmp} (hd : dOk N d = true)
    {next : Act → World → Prop} {Q : Exit → Act → World → Prop} (hn : ∀ x h' a' w', K x h' → Rel w0 h0 N (Sl.putD T d x) h' a' w' → next a' w') :
    Calls P f vals w (fun
      | .returned v, w'' => next (a.put d v) w''
      | .panicked chain, w'' => Q (.panic chain) a w''
      | .outgrown, _ => LetsOut Q) := by
  refine (c w vals r.heap ha).mono ?_
  rintro e w' ⟨u, x, h', rfl, hk, hr, hh, io, st⟩
  exact hn x h' _ w' hk (r.putD hd hr st hh io)
theorem zeroA_run {e : TypeId} {n : Nat} {z : List Value} (hz : zeroA P e = some (n, z)) : ∃ v : Value, (∀ w, (zeroValue e).run P w = .ok v w) ∧ v.cells.toList = z ∧ z.length = n ∧ 0 < n ∧ ∀ y ∈ z, y.oneCell' = true := by
  unfold zeroA at hz
  split at hz
  · rename_i i hi
    split at hz
    · rename_i v hv
      split at hz
      · rename_i hc
        simp only [Option.some.injEq, Prod.mk.injEq] at hz
        obtain ⟨rfl, rfl⟩ := hz
        refine ⟨v, fun w => by simp [zeroValue, typeInfo, hi, hv], rfl, by simpa using hc.1, hc.2.1, fun y hy => ?_⟩
        exact List.all_eq_true.1 hc.2.2 y hy
      · cases hz
    · cases hz
  · cases hz
theorem getD_cell {z : List Value} (hz : ∀ y ∈ z, y.oneCell' = true) {j : Nat} (hj : j < z.length) : z[j]? = some (z.getD j undef) ∧ (z.getD j undef).oneCell' = true := by
  rw [List.getD_eq_getElem?_getD, List.getElem?_eq_getElem hj]
  exact ⟨rfl, hz _ (List.getElem_mem hj)⟩

variable {K : (Nat → AV) → Hp → Prop} {next : Act → World → Prop} {Q : Exit → Act → World → Prop}
/-- A new row of cells: its pointer. -/
theorem new_block (r : Rel w0 h0 N T h a w) {d : Option Tmp} (hd : dOk N d = true) {cs : Array Value} {o : Ob} {v : AV} {u : Value} (hn : o.n * o.s ≤ cs.size) (hp : 0 < o.s)
    (hc : ∀ i, i < o.n → ∀ j, j < o.s → ∃ x, cs[i * o.s + j]? = some x ∧ x.oneCell' = true ∧ Rd w h (o.f i j) x)
    (hv : Rd (w.alloc (.cells cs o.ty)) (upd h w.heap.size (some o)) v u) : Rel w0 h0 N (putD T d v) (upd h w.heap.size (some o)) (a.put d u) (w.alloc (.cells cs o.ty)) :=
  r.putD hd hv (stp_alloc r.heap _ o) (relH_alloc r.heap hn hp hc) ⟨rfl, rfl, rfl⟩

theorem alloc_sound {o : Oper} {e : TypeId} (ho : o.op = .alloc e) (hd : dOk N o.dst = true) {n : Nat} {z : List Value} (hz : zeroA P e = some (n, z))
    (hk : ∀ b, h b = none → K (putD T o.dst (.v (.pointer (some ⟨b, 0, none⟩)))) (upd h b (some ⟨e, n, 1, fun _ j => .v (z.getD j undef)⟩)))
    (r : Rel w0 h0 N T h a w) (hn : ∀ T' h' a' w', K T' h' → Rel w0 h0 N T' h' a' w' → next a' w') : o.wp P a w next Q := by
  obtain ⟨v, hv, hc, hl, hp, h1⟩ := zeroA_run hz
  have hrun : (execOp a.eval o).run P w = .ok (.value (.pointer (some ⟨w.heap.size, 0, none⟩))) (w.alloc (.cells v.cells e)) := by
    unfold execOp
    simp [ho, Instr.alloc, hv, newVar, newRow]
  unfold Oper.wp
  rw [hrun]
  refine hn _ _ _ _ (hk w.heap.size (hp_fresh r.heap)) (new_block r hd (o := ⟨e, n, 1, fun _ j => .v (z.getD j undef)⟩) ?_ hp ?_ rfl)
  · rw [← hl, ← hc]; simp
  · intro i hi j hj
    simp only at hi hj ⊢
    have hi0 : i = 0 := by omega
    subst hi0
    obtain ⟨g1, g2⟩ := getD_cell h1 (j := j) (by omega)
    refine ⟨z.getD j undef, ?_, g2, rfl⟩
    have : v.cells = z.toArray := by rw [← hc]
    rw [this]
    simpa using g1
theorem box_sound {o : Oper} {e : TypeId} {x : Operand} (ho : o.op = .box e x) (hd : dOk N o.dst = true) {n : Nat} {f : Nat → AV} (hz : cellsA (ev T x) = some (n, f)) (hp : 0 < n)
    (hk : ∀ b, h b = none → K (putD T o.dst (.v (.pointer (some ⟨b, 0, none⟩)))) (upd h b (some ⟨e, n, 1, fun _ j => f j⟩)))
    (r : Rel w0 h0 N T h a w) (hn : ∀ T' h' a' w', K T' h' → Rel w0 h0 N T' h' a' w' → next a' w') : o.wp P a w next Q := by
  obtain ⟨hs, hc⟩ := cellsA_rd hz (r.ev x)
  have hrun : (execOp a.eval o).run P w = .ok (.value (.pointer (some ⟨w.heap.size, 0, none⟩))) (w.alloc (.cells (a.eval x).cells e)) := by
    unfold execOp
    simp [ho, Instr.box, newVar, newRow]
  unfold Oper.wp
  rw [hrun]
  refine hn _ _ _ _ (hk w.heap.size (hp_fresh r.heap)) (new_block r hd (o := ⟨e, n, 1, fun _ j => f j⟩) ?_ hp ?_ rfl)
  · simp [hs]
  · intro i hi j hj
    simp only at hi hj ⊢
    have hi0 : i = 0 := by omega
    subst hi0
    simpa using hc j hj
theorem store_sound {o : Oper} {t : TypeId} {ad x : Operand} (ho : o.op = .store t ad x) (hd : dOk N o.dst = true) {n : Nat} {row : Bool} {f : Nat → AV} (ht : ldT P t = some (n, row)) (hz : cellsA (ev T x) = some (n, f))
    {b i j : Nat} {ob : Ob} (hb : h b = some ob) (had : a.eval ad = .pointer (some ⟨b, i * ob.s + j, none⟩)) (hi : i < ob.n) (hj : j + n ≤ ob.s)
    (hk : K (putD T o.dst .any) (upd h b (some (setA ob i j n f))))
    (r : Rel w0 h0 N T h a w) (hn : ∀ T' h' a' w', K T' h' → Rel w0 h0 N T' h' a' w' → next a' w') : o.wp P a w next Q := by
  obtain ⟨w', hw, st, hh, io⟩ := store_own (P := P) r.heap hb hi hj ht hz (r.ev x)
  have hrun : (execOp a.eval o).run P w = .ok .skip w' := by
    unfold execOp
    simp [ho, had, hw]
  unfold Oper.wp
  rw [hrun]
  exact hn _ _ _ _ hk (r.putD hd trivial st hh io)
theorem call_sound {o : Oper} {f : FuncId} {args : Array Operand} {tys : Array TypeId} (ho : o.op = .call ⟨.value (.func f), args, tys⟩) (hd : dOk N o.dst = true) (hc : callable P f = true)
    (c : CallK P h f (args.toList.map (ev T)) fun x h' => K (putD T o.dst x) h')
    (r : Rel w0 h0 N T h a w) (hn : ∀ T' h' a' w', K T' h' → Rel w0 h0 N T' h' a' w' → next a' w') : o.wp P a w next Q := by
  have hrun : (execOp a.eval o).run P w = .ok (.enter f (args.map a.eval)) w := by
    unfold execOp
    simp [ho, resolve, Act.eval, Deferred.ofValue, invoke, callFunc_run hc]
  unfold Oper.wp
  rw [hrun]
  exact calls_next c r (r.args args) hd fun x h' a' w' hk hr => hn _ _ _ _ hk hr
theorem callX_sound {o : Oper} {f : FuncId} {args : Array Operand} {tys : Array TypeId} (ho : o.op = .call ⟨.value (.func f), args, tys⟩) (hd : dOk N o.dst = true)
    (c : CallX P h f (args.toList.map (ev T)) fun x h' => K (putD T o.dst x) h')
    (r : Rel w0 h0 N T h a w) (hn : ∀ T' h' a' w', K T' h' → Rel w0 h0 N T' h' a' w' → next a' w') : o.wp P a w next Q := by
  unfold CallX at c
  split at c
  · rename_i hc; exact call_sound ho hd hc c r hn
  · obtain ⟨x, hx, hk⟩ := c
    obtain ⟨u, hu, hr⟩ := hx w h _ r.heap (r.args args)
    have hrun : (execOp a.eval o).run P w = .ok (.value u) w := by
      unfold execOp
      simp [ho, resolve, Act.eval, Deferred.ofValue, invoke, hu]
    unfold Oper.wp
    rw [hrun]
    exact hn _ _ _ _ hk (r.put_same hd hr)
theorem callv_sound {o : Oper} {x : Tmp} {f : FuncId} {first caps : Array Value} {args : Array Operand} {tys : Array TypeId} (ho : o.op = .call ⟨.value (.tmp x), args, tys⟩) (hd : dOk N o.dst = true)
    (hx : T x = .v (.func (.func f) first caps)) (hf : first.size = 0) (hc : callable P f = true)
    (c : CallK P h f (args.toList.map (ev T) ++ caps.toList.map .v) fun x h' => K (putD T o.dst x) h')
    (r : Rel w0 h0 N T h a w) (hn : ∀ T' h' a' w', K T' h' → Rel w0 h0 N T' h' a' w' → next a' w') : o.wp P a w next Q := by
  have hx' : a.eval (.tmp x) = .func (.func f) first caps := by
    have := r.slots x
    rw [hx] at this
    exact this
  have hf' : first = #[] := Array.eq_empty_of_size_eq_zero hf
  have hrun : (execOp a.eval o).run P w = .ok (.enter f (args.map a.eval ++ caps)) w := by
    unfold execOp
    simp [ho, resolve, hx', hf', Deferred.ofValue, invoke, callFunc_run hc]
  unfold Oper.wp
  rw [hrun]
  refine calls_next c r ?_ hd fun x h' a' w' hk hr => hn _ _ _ _ hk hr
  obtain ⟨h1, h2⟩ := r.args args
  refine ⟨by simp at h1 ⊢, fun i y hy => ?_⟩
  by_cases hi : i < args.size
  · rw [List.getElem?_append_left (by simpa using hi)] at hy
    obtain ⟨u, hu, hr⟩ := h2 i y hy
    exact ⟨u, by rw [Array.getElem?_append_left (by simpa using hi)]; exact hu, hr⟩
  · rw [List.getElem?_append_right (by simp; omega)] at hy
    simp only [List.length_map, Array.length_toList, List.getElem?_map] at hy
    rw [Array.getElem?_append_right (by simp; omega)]
    cases hcc : caps.toList[i - args.size]? with
    | none => simp [hcc] at hy
    | some u =>
      simp only [hcc, Option.map_some, Option.some.injEq] at hy
      subst hy
      exact ⟨u, by simpa using hcc, rfl⟩
/-- Cells put into cells. -/
theorem put_cells (off : Nat) : ∀ (l : List Value) (k : Nat) (cs : Array Value), off + k + l.length ≤ cs.size →
    ((l.zipIdx k).foldl (fun cs (x : Value × Nat) => cs.setIfInBounds (off + x.2) x.1) cs).size = cs.size ∧
    ∀ p, ((l.zipIdx k).foldl (fun cs (x : Value × Nat) => cs.setIfInBounds (off + x.2) x.1) cs)[p]? = if off + k ≤ p ∧ p < off + k + l.length then l[p - (off + k)]? else cs[p]? := by
  intro l
  induction l with
  | nil => intro k cs _; simp; intros; omega
  | cons x l ih =>
    intro k cs hle
    simp only [List.length_cons] at hle
    simp only [List.zipIdx_cons, List.foldl_cons]
    obtain ⟨h1, h2⟩ := ih (k + 1) (cs.setIfInBounds (off + k) x) (by simp; omega)
    refine ⟨by rw [h1]; simp, fun p => ?_⟩
    rw [h2 p]
    simp only [List.length_cons]
    by_cases hp : p = off + k
    · subst hp
      rw [if_neg (by omega), if_pos (by omega)]
      simp only [Nat.sub_self, List.getElem?_cons_zero]
      rw [Array.getElem?_setIfInBounds_self_of_lt (by omega)]
    · by_cases hq : off + k < p ∧ p < off + k + (l.length + 1)
      · rw [if_pos (by omega), if_pos (by omega)]
        have : p - (off + k) = (p - (off + (k + 1))) + 1 := by omega
        rw [this, List.getElem?_cons_succ]
      · rw [if_neg (by omega), if_neg (by omega), Array.getElem?_setIfInBounds_ne (by omega)]
theorem put_cells0 (off : Nat) (v cs : Array Value) (hle : off + v.size ≤ cs.size) :
    (v.zipIdx.foldl (fun cs (x : Value × Nat) => cs.setIfInBounds (off + x.2) x.1) cs).size = cs.size ∧
    ∀ p, (v.zipIdx.foldl (fun cs (x : Value × Nat) => cs.setIfInBounds (off + x.2) x.1) cs)[p]? = if off ≤ p ∧ p < off + v.size then v[p - off]? else cs[p]? := by
  have := put_cells off v.toList 0 cs (by simpa using hle)
  rw [← Array.foldl_toList]
  simpa using this
theorem fill_build (r : Rel w0 h0 N T h a w) (pl : List (Nat × Nat)) (m : Nat) : ∀ (parts : List (Nat × Operand)) (F F' : Nat → AV) (cs : Array Value), buildA pl T m F parts = some F' → cs.size = m →
    (∀ j, j < m → ∃ x, cs[j]? = some x ∧ x.oneCell' = true ∧ Rd w h (F j) x) →
    ∃ cs', Instr.fill (pl.toArray[·]?) cs (parts.map fun p => (p.1, a.eval p.2)) = some cs' ∧ cs'.size = m ∧ ∀ j, j < m → ∃ x, cs'[j]? = some x ∧ x.oneCell' = true ∧ Rd w h (F' j) x := by
  intro parts
  induction parts with
  | nil => intro F F' cs hb hs hc; simp only [buildA, Option.some.injEq] at hb; subst hb; exact ⟨cs, rfl, hs, hc⟩
  | cons p parts ih =>
    obtain ⟨i, x⟩ := p
    intro F F' cs hb hs hc
    unfold buildA at hb
    split at hb
    · rename_i off n n' f hpl hcx
      split at hb
      · rename_i hcond
        obtain ⟨rfl, hle⟩ := hcond
        obtain ⟨hz, hcells⟩ := cellsA_rd hcx (r.ev x)
        obtain ⟨g1, g2⟩ := put_cells0 off (a.eval x).cells cs (by omega)
        obtain ⟨cs', k1, k2, k3⟩ := ih (rngA F off n' f) F' _ hb (g1.trans hs) (fun j hj => by
          rw [g2 j]
          unfold rngA
          rw [hz]
          by_cases hin : off ≤ j ∧ j < off + n'
          · simp only [hin, and_self, if_true]
            exact hcells (j - off) (by omega)
          · simp only [hin, if_false]
            exact hc j hj)
        refine ⟨cs', ?_, k2, k3⟩
        simp only [List.map_cons, Instr.fill]
        have hpl' : pl.toArray[i]? = some (off, n') := by simpa using hpl
        simp only [hpl', hz]
        have hno : ((n' != n') || decide (off + n' > cs.size)) = false := by simp; omega
        simp only [ne_eq, not_true_eq_false, decide_false, Bool.false_or, decide_eq_true_eq, gt_iff_lt]
        rw [if_neg (by omega)]
        exact k1
      · cases hb
    · cases hb
theorem build_sound {o : Oper} {t : TypeId} {parts : Array (Nat × Operand)} (ho : o.op = .build t parts) (hd : dOk N o.dst = true) {pl : List (Nat × Nat)} (hp : placesT P t = some pl) {m : Nat} {z : List Value} (hz : zeroA P t = some (m, z)) {F : Nat → AV}
    (hb : buildA pl T m (fun j => .v (z.getD j undef)) parts.toList = some F) (hk : K (putD T o.dst (aggL ((List.range m).map F))) h)
    (r : Rel w0 h0 N T h a w) (hn : ∀ T' h' a' w', K T' h' → Rel w0 h0 N T' h' a' w' → next a' w') : o.wp P a w next Q := by
  obtain ⟨v, hv, hc, hl, hpos, h1⟩ := zeroA_run hz
  have hvc : v.cells = z.toArray := by rw [← hc]
  obtain ⟨cs', k1, k2, k3⟩ := fill_build r pl m parts.toList _ F v.cells hb (by rw [hvc]; simpa using hl) (fun j hj => by
    obtain ⟨g1, g2⟩ := getD_cell h1 (j := j) (by omega)
    exact ⟨z.getD j undef, by rw [hvc]; simpa using g1, g2, rfl⟩)
  have hbt : P.built t (parts.map fun (i, x) => (i, a.eval x)).toList = some cs' := by
    unfold placesT at hp
    unfold Program.built
    unfold zeroA at hz
    cases hi : P.info? t with
    | none => simp [hi] at hz
    | some it =>
      cases hzz : it.zero with
      | none => simp [hi, hzz] at hz
      | some zv =>
        cases hu : P.underlying t with
        | none => simp [hu] at hp
        | some d =>
          cases d <;> simp only [hu] at hp <;> try (cases hp; done)
          simp only [hzz, hp]
          have hzv : zv.cells = v.cells := by
            have h2 := hv w
            simp [zeroValue, typeInfo, hi, hzz] at h2
            rw [h2]
          rw [hzv, Array.toList_map]
          exact k1
  have hrun : (execOp a.eval o).run P w = .ok (.value (.agg cs')) w := by
    unfold execOp
    simp [ho, run_build w t _ cs' hbt]
  unfold Oper.wp
  rw [hrun]
  exact hn _ _ _ _ hk (r.put_same hd (Rd_aggL ⟨cs', rfl, k2, k3⟩))
end
end Go.Proofs.YtmalhikcdideoaaGreatDoor.Sl
