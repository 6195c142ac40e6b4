/- The semantic layer, third part: the step function of the operations that reckon or read, and that it is sound. -/
import Derived.Test.YtmalhikcdideoaaGreatDoorSlB
set_option linter.unusedVariables false
set_option linter.unusedSimpArgs false
namespace Go.Proofs.YtmalhikcdideoaaGreatDoor.Sl
open Go Go.RowKit

/-- A byte of a text. -/
def gb (s : ByteArray) (i : Nat) : UInt8 := s.data.toList.getD i 0

def conc : AV → Option Value
  | .v x => some x
  | .pt b s i j => some (.pointer (some ⟨b, i * s + j, none⟩))
  | _ => none
def concAll (T : Nat → AV) : List Operand → Option (List Value)
  | [] => some []
  | x :: r => match conc (ev T x), concAll T r with
    | some u, some l => some (u :: l)
    | _, _ => none

/-- Cells of an own block from a place on. -/
def ownAt (h : Hp) (b i j n : Nat) (row : Bool) : Option AV :=
  match h b with
  | some o => if i < o.n ∧ j + n ≤ o.s then (if row then some (aggL ((List.range n).map fun k => o.f i (j + k))) else if 0 < n then some (o.f i j) else none) else none
  | none => none
def loadA (P : Program) (h : Hp) (t : TypeId) (x : AV) : Option AV :=
  match ldT P t with
  | some (n, row) => match x with
    | .fp m f => if n ≤ m then (if row then some (aggL ((List.range n).map f)) else if 0 < n then some (f 0) else none) else none
    | .v (.pointer (some ⟨b, off, none⟩)) => ownAt h b 0 off n row
    | .pt b s i j => match h b with
      | some o => if o.s = s then ownAt h b i j n row else none
      | none => none
    | _ => none
  | none => none
def fieldAddrA (P : Program) (s : TypeId) (x : AV) (f : Nat) : Option AV :=
  match fldT P s f with
  | some (o, n, _) => if n = 0 then none else match x with
    | .fp m g => some (.fp (m - o) fun j => g (o + j))
    | .v (.pointer (some ⟨b, off, none⟩)) => some (.v (.pointer (some ⟨b, off + o, none⟩)))
    | .pt b s i j => some (.pt b s i (j + o))
    | _ => none
  | none => none
def fieldA (P : Program) (s : TypeId) (x : AV) (f : Nat) : Option AV :=
  match fldT P s f with
  | some (o, n, row) => match x with
    | .agg m g => if o + n ≤ m then (if row then some (aggL ((List.range n).map fun j => g (o + j))) else if 0 < n then some (g o) else none) else none
    | _ => none
  | none => none
def indexAddrA (P : Program) (t : TypeId) (x i : AV) : Option AV :=
  match eltT P t with
  | some (s', _) => match x, i with
    | .sl s n f, .v (.int _ i) => if s = s' ∧ 0 ≤ i ∧ i < n then some (.fp s fun j => f i.toNat j) else none
    | .row b s off len, .v (.int _ i) => if s = s' ∧ 0 ≤ i ∧ i < len then some (.pt b s (off + i.toNat) 0) else none
    | _, _ => none
  | none => match arrT P t with
    | some (n, s, _) => match x, i with
      | .fp m f, .v (.int _ i) => if 0 ≤ i ∧ i < n then some (.fp (m - i.toNat * s) fun j => f (i.toNat * s + j)) else none
      | .v (.pointer (some ⟨b, off, none⟩)), .v (.int _ i) => if 0 ≤ i ∧ i < n then some (.v (.pointer (some ⟨b, off + i.toNat * s, none⟩))) else none
      | .pt b s' k j, .v (.int _ i) => if 0 ≤ i ∧ i < n then some (.pt b s' k (j + i.toNat * s)) else none
      | _, _ => none
    | none => none
def indexA (P : Program) (t : TypeId) (x i : AV) : Option AV :=
  match P.underlying t with
  | some .string => match x, i with
    | .v (.string s), .v (.int _ i) => if 0 ≤ i ∧ i < s.size then some (.v (.int .u8 (gb s i.toNat).toNat)) else none
    | _, _ => none
  | _ => match arrT P t with
    | some (n, s, row) => match x, i with
      | .agg m f, .v (.int _ i) => if 0 ≤ i ∧ i < n ∧ i.toNat * s + s ≤ m then (if row then some (aggL ((List.range s).map fun j => f (i.toNat * s + j))) else if s = 1 then some (f (i.toNat * s)) else none) else none
      | _, _ => none
    | none => none
def lenA (P : Program) (t : TypeId) (x : AV) : Option Int :=
  match P.underlying t, x with
  | some .string, .v (.string s) => some s.size
  | some (.slice _), .v (.slice _ n _) => some n
  | some (.slice _), .e0 => some 0
  | some (.slice _), .sl _ n _ => some n
  | some (.slice _), .row _ _ _ n => some n
  | _, _ => none
/-- The bounds of a slice expression: absent, or whole numbers. -/
def bnd (T : Nat → AV) (d : Int) : Option Operand → Option Int
  | none => some d
  | some x => match ev T x with
    | .v (.int _ i) => some i
    | _ => none
def sliceA (P : Program) (t : TypeId) (x : AV) (lo hi : Option Int) : Option AV :=
  match P.underlying t, x with
  | some .string, .v (.string s) => match lo, hi with
    | some l, some h => if 0 ≤ l ∧ l ≤ h ∧ h ≤ s.size then some (.v (.string (s.extract l.toNat h.toNat))) else none
    | _, _ => none
  | some (.slice e), .sl s n f => match lo, hi, ldT P e with
    | some l, some h, some (s', _) => if s = s' ∧ 0 ≤ l ∧ l ≤ h ∧ h ≤ n then some (.sl s (h - l).toNat fun i => f (l.toNat + i)) else none
    | _, _, _ => none
  | some (.slice e), .row b s off n => match lo, hi, ldT P e with
    | some l, some h, some (s', _) => if s = s' ∧ 0 ≤ l ∧ l ≤ h ∧ h ≤ n ∧ (l = 0 ∨ l < h) then some (.row b s (off + l.toNat) (h - l).toNat) else none
    | _, _, _ => none
  | some (.slice e), .v (.slice none 0 0) => match lo, hi, ldT P e with
    | some l, some h, some _ => if l = 0 ∧ h = 0 then some (.v (.slice none 0 0)) else none
    | _, _, _ => none
  | some (.slice e), .e0 => match lo, hi, ldT P e with
    | some l, some h, some _ => if l = 0 ∧ h = 0 then some .e0 else none
    | _, _, _ => none
  | _, _ => none
def slenA : AV → Int
  | .v (.string s) => s.size
  | .sl _ n _ => n
  | .row _ _ _ n => n
  | .v (.slice none 0 0) => 0
  | .e0 => 0
  | _ => -1
def unA (op : UnOp) (x : AV) : Option Value :=
  match op, x with
  | .not, .v (.bool b) => some (.bool !b)
  | .neg, .v (.int k n) => some (.int k (k.wrap (0 - n)))
  | .xor, .v (.int k n) => some (.int k (k.wrap (BitVec.ofInt k.bits (if k.signed then -1 else k.max) ^^^ BitVec.ofInt k.bits n).toNat))
  | _, _ => none
def convA (P : Program) (src dst : TypeId) (x : AV) : Option Value :=
  match P.underlying src, P.underlying dst, x with
  | some _, some (.int k), .v (.int _ n) => some (.int k (k.wrap n))
  | some _, some .string, .v (.string s) => some (.string s)
  | _, _, _ => none
def minmaxA (mx : Bool) : List AV → Option Int
  | [.v (.int .i64 a), .v (.int .i64 b)] => some (if mx then max a b else min a b)
  | _ => none

def stp (P : Program) (T : Nat → AV) (h : Hp) (op : Op) : Option AV :=
  match op with
  | .move x => some (ev T x)
  | .assign x => some (ev T x)
  | .pick c a b => match ev T c with
    | .v (.bool t) => some (if t then ev T a else ev T b)
    | _ => none
  | .binOp op t x y _ => match binA P op t (ev T x) (ev T y) with
    | some u => some (.v u)
    | none => match eqA P op t (ev T x) (ev T y) with
      | some b => some (.v (.bool b))
      | none => match nilCmp P op t (ev T x) (ev T y) with
        | some b => some (.v (.bool b))
        | none => none
  | .unOp op _ x => match unA op (ev T x) with
    | some u => some (.v u)
    | none => none
  | .convert s d x => match convA P s d (ev T x) with
    | some u => some (.v u)
    | none => none
  | .extract x i => match ev T x with
    | .tup m f => if i < m then some (f i) else none
    | _ => none
  | .index t x i => indexA P t (ev T x) (ev T i)
  | .slice t x lo hi none => sliceA P t (ev T x) (bnd T 0 lo) (bnd T (slenA (ev T x)) hi)
  | .fieldAddr s x f => fieldAddrA P s (ev T x) f
  | .field s x f => fieldA P s (ev T x) f
  | .indexAddr t x i => indexAddrA P t (ev T x) (ev T i)
  | .load t x => loadA P h t (ev T x)
  | .makeFunc fn first captured => if first.size = 0 then (match concAll T captured.toList with
    | some l => some (.v (.func fn #[] l.toArray))
    | none => none) else none
  | .nilCheck x => match ev T x with
    | .v (.pointer (some a)) => some (.v (.pointer (some a)))
    | .fp m f => some (.fp m f)
    | .pt b s i j => some (.pt b s i j)
    | _ => none
  | .call ⟨.builtin .len, args, tys⟩ => match args.toList, tys.toList with
    | [x], [t] => match lenA P t (ev T x) with
      | some n => some (.v (.int .i64 n))
      | none => none
    | _, _ => none
  | .call ⟨.builtin .min, args, _⟩ => match minmaxA false (args.toList.map (ev T)) with
    | some n => some (.v (.int .i64 n))
    | none => none
  | .call ⟨.builtin .max, args, _⟩ => match minmaxA true (args.toList.map (ev T)) with
    | some n => some (.v (.int .i64 n))
    | none => none
  | _ => none

section
variable {P : Program} {w : World} {h : Hp}
theorem gb_get {s : ByteArray} {i : Int} (h0 : 0 ≤ i) (h1 : i < s.size) : s[i.toNat]? = some (gb s i.toNat) := by
  have hlt : i.toNat < s.size := by omega
  have : s[i.toNat]? = some s[i.toNat] := getElem?_pos s i.toNat hlt
  rw [this]
  congr 1
  unfold gb
  simp [List.getD_eq_getElem?_getD, hlt]
  rfl
theorem index_sound {t : TypeId} {x i r : AV} (hr : indexA P t x i = some r) {u v : Value} (hx : Rd w h x u) (hi : Rd w h i v) : ∃ y, (Instr.index t u v).run P w = .ok y w ∧ Rd w h r y := by
  unfold indexA at hr
  split at hr
  · rename_i ht
    split at hr
    · rename_i s k i
      cases hx; cases hi
      split at hr
      · rename_i hb
        simp only [Option.some.injEq] at hr; subst hr
        refine ⟨_, ?_, rfl⟩
        have := gb_get hb.1 hb.2
        simp only [Instr.index, asIntOf, Sem.run_bind, Sem.run_pure, Result.andThen_ok, run_underlying ht, hb.1, if_true, this]
      · cases hr
    · cases hr
  · split at hr
    · rename_i n s row ha
      unfold arrT at ha
      split at ha
      · rename_i n' e he
        split at ha
        · rename_i s' b' hl
          simp only [Option.some.injEq, Prod.mk.injEq] at ha
          obtain ⟨rfl, rfl, rfl⟩ := ha
          split at hr
          · rename_i m f k i
            cases hi
            split at hr
            · rename_i hb
              obtain ⟨cs, rfl, hm, hcs⟩ := hx
              cases b' with
              | true =>
                simp only [if_true, Option.some.injEq] at hr; subst hr
                refine ⟨.agg (cs.extract (i.toNat * s') (i.toNat * s' + s')), by simp [Instr.index, asIntOf, run_underlying he, hb.1, hb.2.1, part, run_isAgg_ld hl, run_sizeOf_ld hl], Rd_aggL ⟨_, rfl, by simp [Array.size_extract]; omega, fun j hj => ?_⟩⟩
                obtain ⟨x, hx, hr⟩ := hcs (i.toNat * s' + j) (by omega)
                exact ⟨x, by rw [Array.getElem?_extract, if_pos (by omega)]; exact hx, hr⟩
              | false =>
                simp only [Bool.false_eq_true, if_false] at hr
                split at hr
                · rename_i hs1
                  subst hs1
                  simp only [Option.some.injEq] at hr; subst hr
                  obtain ⟨x, hx, _, hr⟩ := hcs (i.toNat * 1) (by omega)
                  simp only [Nat.mul_one] at hx hr ⊢
                  exact ⟨x, by simp [Instr.index, asIntOf, run_underlying he, hb.1, hb.2.1, part, run_isAgg_ld hl, run_sizeOf_ld hl, hx], hr⟩
                · cases hr
            · cases hr
          · cases hr
        · cases ha
      · cases ha
    · cases hr
theorem len_sound {t : TypeId} {x : AV} {n : Int} (hr : lenA P t x = some n) {u : Value} (hx : Rd w h x u) (ty : TypeId) : (Builtin.len_ #[t] ty #[u]).run P w = .ok (.int .i64 n) w := by
  unfold lenA at hr
  split at hr
  · rename_i ht; cases hx; simp only [Option.some.injEq] at hr; subst hr
    simp [Builtin.len_, run_underlying ht, goInt]
  · rename_i ht; cases hx; simp only [Option.some.injEq] at hr; subst hr
    simp [Builtin.len_, run_underlying ht, goInt]
  · rename_i ht; simp only [Option.some.injEq] at hr; subst hr
    obtain ⟨A, rfl⟩ := hx
    simp [Builtin.len_, run_underlying ht, goInt]
  · rename_i ht; simp only [Option.some.injEq] at hr; subst hr
    obtain ⟨A, c, rfl, _⟩ := hx
    simp [Builtin.len_, run_underlying ht, goInt]
  · rename_i ht; simp only [Option.some.injEq] at hr; subst hr
    obtain ⟨c, rfl, _⟩ := hx
    simp [Builtin.len_, run_underlying ht, goInt]
  · cases hr
theorem fieldAddr_sound {s : TypeId} {x r : AV} {f : Nat} (hr : fieldAddrA P s x f = some r) {u : Value} (hx : Rd w h x u) : ∃ y, (Instr.fieldAt s u f).run P w = .ok y w ∧ Rd w h r y := by
  unfold fieldAddrA fldT at hr
  split at hr
  · rename_i o n b hf
    split at hf
    · rename_i fs hs
      split at hf
      · rename_i fl hfl
        split at hf
        · rename_i n' b' hl
          simp only [Option.some.injEq, Prod.mk.injEq] at hf
          obtain ⟨rfl, rfl, rfl⟩ := hf
          split at hr
          · cases hr
          · rename_i hn
            have hrun : ∀ a : Addr, (Instr.fieldAt s (.pointer (some a)) f).run P w = .ok (.pointer (some (a.add fl.offset))) w := by
              intro a
              simp [Instr.fieldAt, Instr.sureAddr, run_underlying hs, hfl, fieldPlace, run_sizeOf_ld hl, hn]
            split at hr
            · simp only [Option.some.injEq] at hr; subst hr
              obtain ⟨b, off, rfl, hb, hlt, hc⟩ := hx
              refine ⟨_, hrun _, b, off + fl.offset, by rw [Addr.add_mid], hb, hlt, fun j hj => ?_⟩
              rw [show off + fl.offset + j = off + (fl.offset + j) by omega]
              exact hc _ (by omega)
            · cases hx; simp only [Option.some.injEq] at hr; subst hr
              exact ⟨_, hrun _, by rw [Addr.add_mid]; rfl⟩
            · simp only [Option.some.injEq] at hr; subst hr
              cases hx
              exact ⟨_, hrun _, by rw [Addr.add_mid]; simp only [Rd, Nat.add_assoc]⟩
            · cases hr
        · cases hf
      · cases hf
    · cases hf
  · cases hr
theorem indexAddr_sound {t : TypeId} {x i r : AV} (hr : indexAddrA P t x i = some r) {u v : Value} (hx : Rd w h x u) (hi : Rd w h i v) : ∃ y, (Instr.indexAt t u v).run P w = .ok y w ∧ Rd w h r y := by
  unfold indexAddrA eltT at hr
  split at hr
  · rename_i s' b' he
    split at he
    · rename_i e ht
      split at hr
      · rename_i s n f k i
        cases hi
        split at hr
        · rename_i hb
          obtain ⟨rfl, h0, h1⟩ := hb
          simp only [Option.some.injEq] at hr; subst hr
          obtain ⟨A, c, rfl, hc, hm, hh⟩ := hx
          obtain ⟨b, off, rfl, hb, hlt, hcell⟩ := hh (by omega)
          refine ⟨_, by simp [Instr.indexAt, asIntOf, run_underlying ht, h0, h1, run_sizeOf_ld he]; rfl, b, off + i.toNat * s, by rw [Addr.add_mid], hb, hlt, fun j hj => ?_⟩
          rw [Nat.add_assoc]
          exact hcell _ (by omega) j hj
        · cases hr
      · rename_i b s off len k i
        cases hi
        split at hr
        · rename_i hb
          obtain ⟨rfl, h0, h1⟩ := hb
          simp only [Option.some.injEq] at hr; subst hr
          obtain ⟨c, rfl, hc, hlt, _⟩ := hx
          refine ⟨_, by simp [Instr.indexAt, asIntOf, run_underlying ht, h0, h1, run_sizeOf_ld he]; rfl, ?_⟩
          rw [Addr.add_mid]
          simp only [Rd, Nat.add_mul, Nat.add_zero]
        · cases hr
      · cases hr
    · cases he
  · split at hr
    · rename_i n s row ha
      unfold arrT at ha
      split at ha
      · rename_i n' e he
        split at ha
        · rename_i s' b' hl
          simp only [Option.some.injEq, Prod.mk.injEq] at ha
          obtain ⟨rfl, rfl, rfl⟩ := ha
          split at hr
          · rename_i m f k i
            cases hi
            split at hr
            · rename_i hb
              simp only [Option.some.injEq] at hr; subst hr
              obtain ⟨b, off, rfl, hb1, hlt, hcell⟩ := hx
              refine ⟨_, by simp [Instr.indexAt, asIntOf, run_underlying he, Instr.sureAddr, hb.1, hb.2, run_sizeOf_ld hl]; rfl, b, off + i.toNat * s', by rw [Addr.add_mid], hb1, hlt, fun j hj => ?_⟩
              rw [Nat.add_assoc]
              exact hcell _ (by omega)
            · cases hr
          · rename_i b off k i
            cases hi; cases hx
            split at hr
            · rename_i hb
              simp only [Option.some.injEq] at hr; subst hr
              exact ⟨_, by simp [Instr.indexAt, asIntOf, run_underlying he, Instr.sureAddr, hb.1, hb.2, run_sizeOf_ld hl]; rfl, by rw [Addr.add_mid]; rfl⟩
            · cases hr
          · rename_i b s2 k2 j2 k i
            cases hi; cases hx
            split at hr
            · rename_i hb
              simp only [Option.some.injEq] at hr; subst hr
              exact ⟨_, by simp [Instr.indexAt, asIntOf, run_underlying he, Instr.sureAddr, hb.1, hb.2, run_sizeOf_ld hl]; rfl, by rw [Addr.add_mid]; simp only [Rd, Nat.add_assoc]⟩
            · cases hr
          · cases hr
        · cases ha
      · cases ha
    · cases hr
theorem cells_list {b off n : Nat} {f : Nat → AV} (hc : ∀ j, j < n → ∃ x, w.cell? ⟨b, off + j, none⟩ = some x ∧ x.oneCell' = true ∧ Rd w h (f j) x) :
    ∃ cs : Array Value, cs.size = n ∧ w.rangeAt b off cs.toList ∧ ∀ j, j < n → ∃ x, cs[j]? = some x ∧ x.oneCell' = true ∧ Rd w h (f j) x := by
  have hsome : ∀ j : Nat, ∃ x, j < n → w.cell? ⟨b, off + j, none⟩ = some x ∧ x.oneCell' = true ∧ Rd w h (f j) x := fun j => by
    by_cases hj : j < n
    · obtain ⟨x, hx⟩ := hc j hj
      exact ⟨x, fun _ => hx⟩
    · exact ⟨undef, fun h => absurd h hj⟩
  refine ⟨((List.range n).map fun j => Classical.choose (hsome j)).toArray, by simp, fun j v hv => ?_, fun j hj => ?_⟩
  · simp only [List.getElem?_map] at hv
    cases hr : (List.range n)[j]? with
    | none => simp [hr] at hv
    | some k =>
      have hj : j < n := by
        have := (List.getElem?_eq_some_iff.1 hr).1
        simpa using this
      have hk : k = j := by
        rw [List.getElem?_range hj] at hr
        exact (Option.some.inj hr).symm
      subst hk
      simp only [hr, Option.map_some, Option.some.injEq] at hv
      subst hv
      exact (Classical.choose_spec (hsome k) hj).1
  · refine ⟨Classical.choose (hsome j), ?_, (Classical.choose_spec (hsome j) hj).2⟩
    simp [List.getElem?_range hj]
theorem load_at {t : TypeId} {n : Nat} {row : Bool} (ht : ldT P t = some (n, row)) {b off : Nat} {f : Nat → AV} (hc : ∀ j, j < n → ∃ x, w.cell? ⟨b, off + j, none⟩ = some x ∧ x.oneCell' = true ∧ Rd w h (f j) x)
    (hn : row = true ∨ 0 < n) : ∃ y, (Instr.loadAt t (.pointer (some ⟨b, off, none⟩))).run P w = .ok y w ∧ Rd w h (if row then aggL ((List.range n).map f) else f 0) y := by
  cases row with
  | true =>
    obtain ⟨cs, hsz, hra, hcs⟩ := cells_list hc
    refine ⟨.agg cs, ?_, Rd_aggL ⟨cs, rfl, hsz, hcs⟩⟩
    have hl : (loadCells ⟨b, off, none⟩ n).run P w = .ok cs w := by
      have := run_loadCells_list (P := P) w ⟨b, off, none⟩ cs.toList (fun j v hv => by rw [Addr.add_mid]; exact hra j v hv)
      simpa [hsz] using this
    simp [Instr.loadAt, Instr.sureAddr, loadVar, run_isAgg_ld ht, run_sizeOf_ld ht, hl]
  | false =>
    obtain ⟨x, hx, _, hr⟩ := hc 0 (by simpa using hn)
    exact ⟨x, by simp only [Nat.add_zero] at hx; simp [Instr.loadAt, Instr.sureAddr, loadVar, run_isAgg_ld ht, hx], hr⟩
theorem own_cells (hh : RelH w h) {b : Nat} {o : Ob} (ho : h b = some o) {i j n : Nat} (hi : i < o.n) (hj : j + n ≤ o.s) :
    ∀ k, k < n → ∃ x, w.cell? ⟨b, i * o.s + j + k, none⟩ = some x ∧ x.oneCell' = true ∧ Rd w h (o.f i (j + k)) x := by
  intro k hk
  obtain ⟨c, hc, hn, _, hcell⟩ := hh.cells ho (.inl (by omega))
  obtain ⟨x, hx, h1, hr⟩ := hcell i hi (j + k) (by omega)
  exact ⟨x, by simp only [World.cell?, hc]; rw [show i * o.s + j + k = i * o.s + (j + k) by omega]; simpa using hx, h1, hr⟩
theorem ownAt_sound (hh : RelH w h) {t : TypeId} {n : Nat} {row : Bool} (ht : ldT P t = some (n, row)) {b i j : Nat} {r : AV} (hr : ownAt h b i j n row = some r) {o : Ob} (ho : h b = some o) :
    ∃ y, (Instr.loadAt t (.pointer (some ⟨b, i * o.s + j, none⟩))).run P w = .ok y w ∧ Rd w h r y := by
  unfold ownAt at hr
  rw [ho] at hr
  simp only at hr
  split at hr
  · rename_i hb
    have hc := own_cells hh ho hb.1 hb.2
    cases row with
    | true =>
      simp only [if_true, Option.some.injEq] at hr; subst hr
      have := load_at ht (f := fun k => o.f i (j + k)) hc (.inl rfl)
      simpa using this
    | false =>
      simp only [Bool.false_eq_true, if_false] at hr
      split at hr
      · rename_i hn
        simp only [Option.some.injEq] at hr; subst hr
        have := load_at ht (f := fun k => o.f i (j + k)) hc (.inr hn)
        simpa using this
      · cases hr
  · cases hr
theorem load_sound (hh : RelH w h) {t : TypeId} {x r : AV} (hr : loadA P h t x = some r) {u : Value} (hx : Rd w h x u) : ∃ y, (Instr.loadAt t u).run P w = .ok y w ∧ Rd w h r y := by
  unfold loadA at hr
  split at hr
  · rename_i n row ht
    split at hr
    · rename_i m f
      split at hr
      · rename_i hnm
        obtain ⟨b, off, rfl, hb, hlt, hc⟩ := hx
        cases row with
        | true =>
          simp only [if_true, Option.some.injEq] at hr; subst hr
          have := load_at ht (f := f) (fun j hj => hc j (by omega)) (.inl rfl)
          simpa using this
        | false =>
          simp only [Bool.false_eq_true, if_false] at hr
          split at hr
          · rename_i hn
            simp only [Option.some.injEq] at hr; subst hr
            have := load_at ht (f := f) (fun j hj => hc j (by omega)) (.inr hn)
            simpa using this
          · cases hr
      · cases hr
    · rename_i b off
      cases hx
      cases ho : h b with
      | none => simp [ownAt, ho] at hr
      | some o =>
        have := ownAt_sound hh ht hr ho
        simpa using this
    · rename_i b s i j
      split at hr
      · rename_i o ho
        split at hr
        · rename_i hs
          subst hs
          cases hx
          exact ownAt_sound hh ht hr ho
        · cases hr
      · cases hr
    · cases hr
  · cases hr
theorem field_sound {s : TypeId} {x r : AV} {f : Nat} (hr : fieldA P s x f = some r) {u : Value} (hx : Rd w h x u) : ∃ y, (Instr.field s u f).run P w = .ok y w ∧ Rd w h r y := by
  unfold fieldA fldT at hr
  split at hr
  · rename_i o n row hf
    split at hf
    · rename_i fs hs
      split at hf
      · rename_i fl hfl
        split at hf
        · rename_i n' row' hl
          simp only [Option.some.injEq, Prod.mk.injEq] at hf
          obtain ⟨rfl, rfl, rfl⟩ := hf
          split at hr
          · rename_i m g
            split at hr
            · rename_i hb
              obtain ⟨cs, rfl, hm, hcs⟩ := hx
              cases row' with
              | true =>
                simp only [if_true, Option.some.injEq] at hr; subst hr
                refine ⟨.agg (cs.extract fl.offset (fl.offset + n')), by simp [Instr.field, run_underlying hs, hfl, asAgg, part, run_isAgg_ld hl, run_sizeOf_ld hl], Rd_aggL ⟨_, rfl, by simp [Array.size_extract]; omega, fun j hj => ?_⟩⟩
                obtain ⟨x, hx, hr⟩ := hcs (fl.offset + j) (by omega)
                exact ⟨x, by rw [Array.getElem?_extract, if_pos (by omega)]; exact hx, hr⟩
              | false =>
                simp only [Bool.false_eq_true, if_false] at hr
                split at hr
                · rename_i hn
                  simp only [Option.some.injEq] at hr; subst hr
                  obtain ⟨x, hx, _, hr⟩ := hcs fl.offset (by omega)
                  exact ⟨x, by simp [Instr.field, run_underlying hs, hfl, asAgg, part, run_isAgg_ld hl, hx], hr⟩
                · cases hr
            · cases hr
          · cases hr
        · cases hf
      · cases hf
    · cases hf
  · cases hr
theorem conc_rd {x : AV} {u v : Value} (hc : conc x = some u) (hr : Rd w h x v) : v = u := by
  unfold conc at hc
  split at hc
  · simp only [Option.some.injEq] at hc; subst hc; exact hr
  · simp only [Option.some.injEq] at hc; subst hc; exact hr
  · cases hc
theorem un_sound {op : UnOp} {x : AV} {r : Value} (hr : unA op x = some r) {u : Value} (hx : Rd w h x u) : (Op.unary op u).run P w = .ok r w := by
  unfold unA at hr
  split at hr
  · cases hx; simp only [Option.some.injEq] at hr; subst hr; rfl
  · cases hx; simp only [Option.some.injEq] at hr; subst hr; rfl
  · cases hx; simp only [Option.some.injEq] at hr; subst hr; rfl
  · cases hr
theorem conv_sound {s d : TypeId} {x : AV} {r : Value} (hr : convA P s d x = some r) {u : Value} (hx : Rd w h x u) : (convert s d u).run P w = .ok r w := by
  unfold convA at hr
  split at hr
  · rename_i hs hd
    cases hx; simp only [Option.some.injEq] at hr; subst hr
    simp [convert, run_underlying hs, run_underlying hd, Conv.intToInt]
  · rename_i ds hs hd
    cases hx; simp only [Option.some.injEq] at hr; subst hr
    unfold convert
    simp only [Sem.run_bind, run_underlying hs, run_underlying hd, Result.andThen_ok]
    cases ds <;> rfl
  · cases hr
theorem bnd_rd {N : Nat} {w0 : World} {h0 : Hp} {T : Nat → AV} {a : Act} (r : Rel w0 h0 N T h a w) {d i : Int} {x : Option Operand} (hb : bnd T d x = some i) :
    (x = none ∧ i = d) ∨ ∃ y k, x = some y ∧ a.eval y = .int k i := by
  unfold bnd at hb
  split at hb
  · simp only [Option.some.injEq] at hb; exact .inl ⟨rfl, hb.symm⟩
  · rename_i y
    split at hb
    · rename_i k i' he
      simp only [Option.some.injEq] at hb; subst hb
      have := r.ev y
      rw [he] at this
      exact .inr ⟨y, k, rfl, this⟩
    · cases hb
theorem bounds_run {isS : Bool} {len cap : Nat} {lo hi : Option Value} {l h' : Int} (hl : (lo = none ∧ l = 0) ∨ ∃ k, lo = some (.int k l)) (hh : (hi = none ∧ h' = len) ∨ ∃ k, hi = some (.int k h'))
    (h0 : 0 ≤ l) (h1 : l ≤ h') (h2 : h' ≤ cap) (w : World) : (Instr.sliceBounds isS len cap lo hi none).run P w = .ok (l.toNat, h'.toNat, cap) w := by
  have e1 : l ≤ (h'.toNat : Int) := by omega
  have e2 : 0 ≤ h' := by omega
  rcases hl with ⟨rfl, rfl⟩ | ⟨k, rfl⟩ <;> rcases hh with ⟨rfl, rfl⟩ | ⟨k', rfl⟩ <;>
    simp [Instr.sliceBounds, Instr.sliceBound, asIntOf, h0, h1, h2, e1, e2] <;> omega
theorem slice_sound {N : Nat} {w0 : World} {h0 : Hp} {T : Nat → AV} {a : Act} (r : Rel w0 h0 N T h a w) {t : TypeId} {x : Operand} {lo hi : Option Operand} {y : AV}
    (hr : sliceA P t (ev T x) (bnd T 0 lo) (bnd T (slenA (ev T x)) hi) = some y) : ∃ u, (Instr.sliceAt t (a.eval x) (lo.map a.eval) (hi.map a.eval) none).run P w = .ok u w ∧ Rd w h y u := by
  have hx := r.ev x
  have low : ∀ l, bnd T 0 lo = some l → (lo.map a.eval = none ∧ l = 0) ∨ ∃ k, lo.map a.eval = some (.int k l) := fun l hl => by
    rcases bnd_rd r hl with ⟨rfl, rfl⟩ | ⟨y, k, rfl, he⟩
    · exact .inl ⟨rfl, rfl⟩
    · exact .inr ⟨k, by simp [he]⟩
  have high : ∀ d l, bnd T d hi = some l → (hi.map a.eval = none ∧ l = d) ∨ ∃ k, hi.map a.eval = some (.int k l) := fun d l hl => by
    rcases bnd_rd r hl with ⟨rfl, rfl⟩ | ⟨y, k, rfl, he⟩
    · exact .inl ⟨rfl, rfl⟩
    · exact .inr ⟨k, by simp [he]⟩
  unfold sliceA at hr
  split at hr
  · rename_i s ht he
    rw [he] at hx hr
    simp only [slenA] at hr
    split at hr
    · rename_i l h' hl hh
      split at hr
      · rename_i hb
        simp only [Option.some.injEq] at hr; subst hr
        have hx' : a.eval x = .string s := hx
        refine ⟨_, ?_, rfl⟩
        simp [hx', Instr.sliceAt, Instr.slice, run_underlying ht, bounds_run (low l hl) (high _ h' hh) hb.1 hb.2.1 hb.2.2]
      · cases hr
    · cases hr
  · rename_i e s n f ht he
    rw [he] at hx hr
    simp only [slenA] at hr
    split at hr
    · rename_i l h' s' b' hl hh hld
      split at hr
      · rename_i hb
        obtain ⟨rfl, h0', h1, h2⟩ := hb
        simp only [Option.some.injEq] at hr; subst hr
        obtain ⟨A, c, hu, hc, hm, hcell⟩ := hx
        rw [hu]
        refine ⟨_, by simp [Instr.sliceAt, Instr.slice, run_underlying ht, bounds_run (low l hl) (high _ h' hh) h0' h1 (show h' ≤ c by omega), run_sizeOf_ld hld]; rfl, ?_⟩
        refine ⟨(if c = l.toNat then A else Option.map (fun x => x.add (l.toNat * s)) A), c - l.toNat, ?_, ?_, ?_, fun hpos => ?_⟩
        · rw [show (h' - l).toNat = h'.toNat - l.toNat by omega]
        · omega
        · omega
        · have hn0 : 0 < n := by omega
          have hcl : ¬ c = l.toNat := by omega
          have hin : ∀ i, i < (h' - l).toNat → l.toNat + i < n := fun i hi => by omega
          obtain ⟨b, off, rfl, hb, hlt, hcell⟩ := hcell hn0
          refine ⟨b, off + l.toNat * s, ?_, hb, hlt, fun i hi j hj => ?_⟩
          · simp [hcl, Addr.add_mid]
          · have hi' := hin i hi
            have e : off + l.toNat * s + (i * s + j) = off + ((l.toNat + i) * s + j) := by rw [Nat.add_mul]; omega
            rw [e]
            exact hcell _ hi' j hj
      · cases hr
    · cases hr
  · rename_i e b s off n ht he
    rw [he] at hx hr
    simp only [slenA] at hr
    split at hr
    · rename_i l h' s' b' hl hh hld
      split at hr
      · rename_i hb
        obtain ⟨rfl, h0', h1, h2, h3⟩ := hb
        simp only [Option.some.injEq] at hr; subst hr
        obtain ⟨c, hu, hc, hlt, hm, hcell⟩ := hx
        rw [hu]
        refine ⟨_, by simp [Instr.sliceAt, Instr.slice, run_underlying ht, bounds_run (low l hl) (high _ h' hh) h0' h1 (show h' ≤ c by omega), run_sizeOf_ld hld]; rfl, ?_⟩
        refine ⟨c - l.toNat, ?_, by omega, hlt, by omega, fun o ho => ?_⟩
        · rw [show (h' - l).toNat = h'.toNat - l.toNat by omega]
          rcases h3 with h3 | h3
          · subst h3
            by_cases hc0 : c = 0
            · simp [hc0]
            · simp [hc0, Addr.add]
          · rw [if_neg (by omega)]
            simp [Addr.add_mid, Nat.add_mul]
        · obtain ⟨cs, fr, h4, h5⟩ := hcell o ho
          exact ⟨cs, fr, h4, by rw [h5]; congr 1; omega⟩
      · cases hr
    · cases hr
  · rename_i e ht he
    rw [he] at hx hr
    simp only [slenA] at hr
    split at hr
    · rename_i l h' s' b' hl hh hld
      split at hr
      · rename_i hb
        obtain ⟨rfl, rfl⟩ := hb
        simp only [Option.some.injEq] at hr; subst hr
        have hu : a.eval x = .slice none 0 0 := hx
        rw [hu]
        refine ⟨_, by simp [Instr.sliceAt, Instr.slice, run_underlying ht, bounds_run (low 0 hl) (high _ 0 hh) (Int.le_refl 0) (Int.le_refl 0) (show (0 : Int) ≤ (0 : Nat) by omega), run_sizeOf_ld hld], rfl⟩
      · cases hr
    · cases hr
  · rename_i e ht he
    rw [he] at hx hr
    simp only [slenA] at hr
    split at hr
    · rename_i l h' s' b' hl hh hld
      split at hr
      · rename_i hb
        obtain ⟨rfl, rfl⟩ := hb
        simp only [Option.some.injEq] at hr; subst hr
        obtain ⟨A, hu⟩ := hx
        rw [hu]
        refine ⟨_, by simp [Instr.sliceAt, Instr.slice, run_underlying ht, bounds_run (low 0 hl) (high _ 0 hh) (Int.le_refl 0) (Int.le_refl 0) (show (0 : Int) ≤ (0 : Nat) by omega), run_sizeOf_ld hld], A, rfl⟩
      · cases hr
    · cases hr
  · cases hr
theorem concAll_sound {N : Nat} {w0 : World} {h0 : Hp} {T : Nat → AV} {a : Act} (r : Rel w0 h0 N T h a w) : ∀ {xs : List Operand} {l : List Value}, concAll T xs = some l → xs.map a.eval = l := by
  intro xs
  induction xs with
  | nil => intro l hl; simp [concAll] at hl; simp [hl]
  | cons x xs ih =>
    intro l hl
    unfold concAll at hl
    split at hl
    · rename_i u l' hu hl'
      simp only [Option.some.injEq] at hl; subst hl
      simp [ih hl', conc_rd hu (r.ev x)]
    · cases hl
theorem minmax_sound {N : Nat} {w0 : World} {h0 : Hp} {T : Nat → AV} {a : Act} (r : Rel w0 h0 N T h a w) {args : Array Operand} {mx : Bool} {n : Int} (hm : minmaxA mx (args.toList.map (ev T)) = some n) (t : TypeId) (tys : Array TypeId) :
    (if mx then Builtin.max_ tys t (args.map a.eval) else Builtin.min_ tys t (args.map a.eval)).run P w = .ok (.int .i64 n) w := by
  unfold minmaxA at hm
  split at hm
  · rename_i x y he
    simp only [Option.some.injEq] at hm; subst hm
    cases hl : args.toList with
    | nil => simp [hl] at he
    | cons o1 r1 =>
      cases r1 with
      | nil => simp [hl] at he
      | cons o2 r2 =>
        cases r2 with
        | cons o3 r3 => simp [hl] at he
        | nil =>
          simp only [hl, List.map_cons, List.map_nil, List.cons.injEq, and_true] at he
          have h1 : a.eval o1 = .int .i64 x := by have := r.ev o1; rw [he.1] at this; exact this
          have h2 : a.eval o2 = .int .i64 y := by have := r.ev o2; rw [he.2] at this; exact this
          have : args = #[o1, o2] := by rw [← Array.toList_inj]; simpa using hl
          subst this
          cases mx <;> simp [Builtin.max_, Builtin.min_, h1, h2, Builtin.max2, Builtin.min2] <;> split <;> omega
  · cases hm

/-- THE STEP: an operation that reckons or reads does on values what it does on abstract values; the world stands. -/
theorem stp_sound {N : Nat} {w0 : World} {h0 : Hp} {T : Nat → AV} {a : Act} (r : Rel w0 h0 N T h a w) {o : Oper} {v : AV} (hs : stp P T h o.op = some v) :
    ∃ u, (execOp a.eval o).run P w = .ok (.value u) w ∧ Rd w h v u := by
  obtain ⟨dst, op, type, pos, after, guard⟩ := o
  simp only at hs
  unfold stp at hs
  split at hs
  · rename_i x; simp only [Option.some.injEq] at hs; subst hs; exact ⟨_, rfl, r.ev x⟩
  · rename_i x; simp only [Option.some.injEq] at hs; subst hs; exact ⟨_, rfl, r.ev x⟩
  · rename_i c x y
    split at hs
    · rename_i t hc
      simp only [Option.some.injEq] at hs; subst hs
      have := r.ev c
      rw [hc] at this
      have hc' : a.eval c = .bool t := this
      refine ⟨if t then a.eval x else a.eval y, ?_, ?_⟩
      · simp [execOp, hc', asBool]
      · cases t
        · exact r.ev y
        · exact r.ev x
    · cases hs
  · rename_i op t x y ty
    split at hs
    · rename_i u hu
      simp only [Option.some.injEq] at hs; subst hs
      have := binA_run (P := P) hu (r.ev x) (r.ev y) x y
      refine ⟨u, ?_, rfl⟩
      show ((do let z ← (do eqGuard op t x y (a.eval x) (a.eval y); binOp op t (a.eval x) (a.eval y)); pure (Next.value z)) : Sem Next).run P w = _
      rw [Sem.run_bind, this]; rfl
    · split at hs
      · rename_i b hb
        simp only [Option.some.injEq] at hs; subst hs
        have := eqA_run (P := P) hb (r.ev x) (r.ev y) x y
        refine ⟨_, ?_, rfl⟩
        show ((do let z ← (do eqGuard op t x y (a.eval x) (a.eval y); binOp op t (a.eval x) (a.eval y)); pure (Next.value z)) : Sem Next).run P w = _
        rw [Sem.run_bind, this]; rfl
      · split at hs
        · rename_i b hb
          simp only [Option.some.injEq] at hs; subst hs
          have := nilCmp_run (P := P) hb (r.ev x) (r.ev y) x y
          refine ⟨_, ?_, rfl⟩
          show ((do let z ← (do eqGuard op t x y (a.eval x) (a.eval y); binOp op t (a.eval x) (a.eval y)); pure (Next.value z)) : Sem Next).run P w = _
          rw [Sem.run_bind, this]; rfl
        · cases hs
  · rename_i op t x
    split at hs
    · rename_i u hu
      simp only [Option.some.injEq] at hs; subst hs
      exact ⟨u, by simp [execOp, un_sound hu (r.ev x)], rfl⟩
    · cases hs
  · rename_i s d x
    split at hs
    · rename_i u hu
      simp only [Option.some.injEq] at hs; subst hs
      exact ⟨u, by simp [execOp, conv_sound hu (r.ev x)], rfl⟩
    · cases hs
  · rename_i x i
    split at hs
    · rename_i m f he
      split at hs
      · rename_i hi
        simp only [Option.some.injEq] at hs; subst hs
        have := r.ev x
        rw [he] at this
        obtain ⟨cs, hu, hm, hcs⟩ := this
        obtain ⟨y, hy, hr⟩ := hcs i hi
        exact ⟨y, by simp [execOp, hu, Instr.extract, hy], hr⟩
      · cases hs
    · cases hs
  · rename_i t x i
    obtain ⟨y, hy, hr⟩ := index_sound (P := P) hs (r.ev x) (r.ev i)
    exact ⟨y, by simp [execOp, hy], hr⟩
  · rename_i t x lo hi
    obtain ⟨y, hy, hr⟩ := slice_sound r hs
    exact ⟨y, by simp [execOp, hy], hr⟩
  · rename_i s x f
    obtain ⟨y, hy, hr⟩ := fieldAddr_sound (P := P) hs (r.ev x)
    exact ⟨y, by simp [execOp, hy], hr⟩
  · rename_i s x f
    obtain ⟨y, hy, hr⟩ := field_sound (P := P) hs (r.ev x)
    exact ⟨y, by simp [execOp, hy], hr⟩
  · rename_i t x i
    obtain ⟨y, hy, hr⟩ := indexAddr_sound (P := P) hs (r.ev x) (r.ev i)
    exact ⟨y, by simp [execOp, hy], hr⟩
  · rename_i t x
    obtain ⟨y, hy, hr⟩ := load_sound (P := P) r.heap hs (r.ev x)
    exact ⟨y, by simp [execOp, hy], hr⟩
  · rename_i fn first captured
    split at hs
    · rename_i hf
      split at hs
      · rename_i l hl
        simp only [Option.some.injEq] at hs; subst hs
        have hc := concAll_sound r hl
        have hf' : first = #[] := Array.eq_empty_of_size_eq_zero hf
        refine ⟨_, by simp [execOp, Instr.makeFunc, hf']; rfl, ?_⟩
        show _ = Value.func fn #[] l.toArray
        rw [← hc]
        simp only [Value.func.injEq, true_and]
        apply Array.ext'
        simp
      · cases hs
    · cases hs
  · rename_i x
    have hx := r.ev x
    split at hs
    · rename_i ad he
      simp only [Option.some.injEq] at hs; subst hs
      rw [he] at hx
      have hx' : a.eval x = .pointer (some ad) := hx
      exact ⟨_, by simp [execOp, hx'], rfl⟩
    · rename_i m f he
      simp only [Option.some.injEq] at hs; subst hs
      rw [he] at hx
      obtain ⟨b, off, hu, hx⟩ := hx
      exact ⟨_, by simp [execOp, hu], b, off, rfl, hx⟩
    · rename_i b s i j he
      simp only [Option.some.injEq] at hs; subst hs
      rw [he] at hx
      have hx' : a.eval x = _ := hx
      exact ⟨_, by simp [execOp, hx'], rfl⟩
    · cases hs
  · rename_i args tys
    split at hs
    · rename_i x t ha hty
      split at hs
      · rename_i n hn
        simp only [Option.some.injEq] at hs; subst hs
        have ha' : args = #[x] := by rw [← Array.toList_inj]; simpa using ha
        have ht' : tys = #[t] := by rw [← Array.toList_inj]; simpa using hty
        subst ha'; subst ht'
        have := len_sound (P := P) hn (r.ev x) type
        exact ⟨_, by simp [execOp, resolve, invoke, builtin, this], rfl⟩
      · cases hs
    · cases hs
  · rename_i args tys
    split at hs
    · rename_i n hn
      simp only [Option.some.injEq] at hs; subst hs
      have := minmax_sound (P := P) r hn type tys
      exact ⟨_, by simp at this; simp [execOp, resolve, invoke, builtin, this], rfl⟩
    · cases hs
  · rename_i args tys
    split at hs
    · rename_i n hn
      simp only [Option.some.injEq] at hs; subst hs
      have := minmax_sound (P := P) r hn type tys
      exact ⟨_, by simp at this; simp [execOp, resolve, invoke, builtin, this], rfl⟩
    · cases hs
  · cases hs
end
end Go.Proofs.YtmalhikcdideoaaGreatDoor.Sl
