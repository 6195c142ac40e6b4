/- The semantic layer, last part: maps as lists of keys and values; equations for new slices, texts that are ranged over. -/
import Derived.Test.YtmalhikcdideoaaGreatDoorSlR
set_option linter.unusedVariables false
set_option linter.unusedSimpArgs false
namespace Go.Proofs.YtmalhikcdideoaaGreatDoor.Sl
open Go Go.RowKit

section
variable {P : Program} {N : Nat} {T : Nat → AV} {h : Hp} {K : (Nat → AV) → Hp → Prop} {d : Option Tmp} {t : TypeId} {p : String} {af : Array Edge} {g : Option (Nat × Bool)}
@[go_sem] theorem stp_makeMap (t : TypeId) (x : Option Operand) : stp P T h (.makeMap t x) = none := rfl
@[go_sem] theorem stp_lookup (t : TypeId) (x i : Operand) (ck : Bool) : stp P T h (.lookup t x i ck) = none := rfl
@[go_sem] theorem stp_mapUpdate (t : TypeId) (m k x : Operand) : stp P T h (.mapUpdate t m k x) = none := rfl
@[go_sem] theorem stp_insert (t : TypeId) (m k x : Operand) : stp P T h (.insert t m k x) = none := rfl
@[go_sem] theorem stp_delete (args : Array Operand) (tys : Array TypeId) : stp P T h (.call ⟨.builtin .delete, args, tys⟩) = none := rfl
@[go_sem] theorem stp_clear (args : Array Operand) (tys : Array TypeId) : stp P T h (.call ⟨.builtin .clear, args, tys⟩) = none := rfl
@[go_sem] theorem stp_makeSlice (t : TypeId) (l c : Operand) : stp P T h (.makeSlice t l c) = none := rfl
@[go_sem] theorem stp_range (t : TypeId) (x : Operand) : stp P T h (.range t x) = none := rfl
@[go_sem] theorem stp_next (x : Operand) (b : Bool) : stp P T h (.next x b) = none := rfl
@[go_sem] theorem stp_entry (x : Operand) : stp P T h (.entry x) = none := rfl
@[go_sem] theorem lenR_none : lenR none = none := rfl
@[go_sem] theorem XW_makeMap0 (t' : TypeId) : XW P N ⟨d, .makeMap t' none, t, p, af, g⟩ T h K = (dOk N d = true ∧ (match P.underlying t' with | some (.map _ _) => True | _ => False) ∧ ∀ b, h b = none → K (putD T d (.v (.map (some b)))) (upd h b (some (mapOb 0 0 fun _ _ => .any)))) := Eq.trans rfl rfl
@[go_sem] theorem XW_makeMap1 (t' : TypeId) (x : Operand) : XW P N ⟨d, .makeMap t' (some x), t, p, af, g⟩ T h K = (dOk N d = true ∧ (match P.underlying t', ev T x with | some (.map _ _), .v (.int _ _) => True | _, _ => False) ∧ ∀ b, h b = none → K (putD T d (.v (.map (some b)))) (upd h b (some (mapOb 0 0 fun _ _ => .any)))) := Eq.trans rfl rfl
@[go_sem] theorem XW_lookup (t' : TypeId) (x i : Operand) (ck : Bool) : XW P N ⟨d, .lookup t' x i ck, t, p, af, g⟩ T h K = (dOk N d = true ∧ XW2 P N ⟨d, .lookup t' x i ck, t, p, af, g⟩ T h K) := Eq.trans rfl rfl
@[go_sem] theorem XW_mapUpdate (t' : TypeId) (m k x : Operand) : XW P N ⟨d, .mapUpdate t' m k x, t, p, af, g⟩ T h K = (dOk N d = true ∧ XW2 P N ⟨d, .mapUpdate t' m k x, t, p, af, g⟩ T h K) := Eq.trans rfl rfl
@[go_sem] theorem XW_insert (t' : TypeId) (m k x : Operand) : XW P N ⟨d, .insert t' m k x, t, p, af, g⟩ T h K = (dOk N d = true ∧ XW2 P N ⟨d, .insert t' m k x, t, p, af, g⟩ T h K) := Eq.trans rfl rfl
@[go_sem] theorem XW_len (args : Array Operand) (tys : Array TypeId) : XW P N ⟨d, .call ⟨.builtin .len, args, tys⟩, t, p, af, g⟩ T h K = (dOk N d = true ∧ XW2 P N ⟨d, .call ⟨.builtin .len, args, tys⟩, t, p, af, g⟩ T h K) := Eq.trans rfl rfl
@[go_sem] theorem XW_delete (args : Array Operand) (tys : Array TypeId) : XW P N ⟨d, .call ⟨.builtin .delete, args, tys⟩, t, p, af, g⟩ T h K = (dOk N d = true ∧ XW2 P N ⟨d, .call ⟨.builtin .delete, args, tys⟩, t, p, af, g⟩ T h K) := Eq.trans rfl rfl
@[go_sem] theorem XW_clear (args : Array Operand) (tys : Array TypeId) : XW P N ⟨d, .call ⟨.builtin .clear, args, tys⟩, t, p, af, g⟩ T h K = (dOk N d = true ∧ XW2 P N ⟨d, .call ⟨.builtin .clear, args, tys⟩, t, p, af, g⟩ T h K) := Eq.trans rfl rfl
@[go_sem] theorem XW_makeSlice (t' : TypeId) (l c : Operand) : XW P N ⟨d, .makeSlice t' l c, t, p, af, g⟩ T h K = (dOk N d = true ∧ XW2 P N ⟨d, .makeSlice t' l c, t, p, af, g⟩ T h K) := Eq.trans rfl rfl
@[go_sem] theorem XW_range (t' : TypeId) (x : Operand) : XW P N ⟨d, .range t' x, t, p, af, g⟩ T h K = (dOk N d = true ∧ XRange P t' (ev T x) h fun v h' => K (putD T d v) h') := Eq.trans rfl rfl
@[go_sem] theorem XRange_str {t' : TypeId} (hu : P.underlying t' = some .string) (s : ByteArray) (K : AV → Hp → Prop) : XRange P t' (.v (.string s)) h K = ∀ b, h b = none → K (.v (.pointer (some ⟨b, 0, none⟩))) (upd h b (some (sitOb s 0))) := by
  unfold XRange
  rw [hu]
  exact propext ⟨fun ⟨s', e, hk⟩ => by cases e; exact hk, fun hk => ⟨s, rfl, hk⟩⟩
@[go_sem] theorem XW_nextM (it : Operand) : XW P N ⟨d, .next it false, t, p, af, g⟩ T h K = (dOk N d = true ∧ XW2 P N ⟨d, .next it false, t, p, af, g⟩ T h K) := Eq.trans rfl rfl
@[go_sem] theorem XW_entry (it : Operand) : XW P N ⟨d, .entry it, t, p, af, g⟩ T h K = (dOk N d = true ∧ XW2 P N ⟨d, .entry it, t, p, af, g⟩ T h K) := Eq.trans rfl rfl
@[go_sem] theorem XW_next (it : Operand) : XW P N ⟨d, .next it true, t, p, af, g⟩ T h K = (dOk N d = true ∧ XW2 P N ⟨d, .next it true, t, p, af, g⟩ T h K) := Eq.trans rfl rfl
@[go_sem] theorem mapV_none : mapV none = none := rfl
@[go_sem] theorem XW_convert (src dst : TypeId) (x : Operand) : XW P N ⟨d, .convert src dst x, t, p, af, g⟩ T h K = (dOk N d = true ∧ XW2 P N ⟨d, .convert src dst x, t, p, af, g⟩ T h K) := Eq.trans rfl rfl
@[go_sem] theorem XW_binOp (op : BinOp) (t1 t2 : TypeId) (x y : Operand) : XW P N ⟨d, .binOp op t1 x y t2, t, p, af, g⟩ T h K = (dOk N d = true ∧ XW2 P N ⟨d, .binOp op t1 x y t2, t, p, af, g⟩ T h K) := Eq.trans rfl rfl
/-- 'clear' of the end of a block of the call's own: what is there is forgotten. -/
theorem X_clear {t' e : TypeId} {x : Operand} {z : List Value} {b off n : Nat} {ob : Ob} (hu : P.underlying t' = some (.slice e)) (hz : zeroA P e = some (1, z)) (hx : ev T x = .row b 1 off n) (hb : h b = some ob) (h1 : ob.s = 1) (hn : off + n = ob.n)
    (hk : K (putD T d un) (upd h b (some { ob with n := off }))) : XW2 P N ⟨d, .call ⟨.builtin .clear, #[x], #[t']⟩, t, p, af, g⟩ T h K := ⟨e, z, b, off, n, ob, hu, hz, hx, hb, h1, hn, hk⟩
/-- Is an empty slice of which nothing is known nil? It may be so or not. -/
theorem X_isNil {t1 t2 e : TypeId} {x y : Operand} {s : Nat} {f : Nat → Nat → AV} (hu : P.underlying t1 = some (.slice e)) (hx : ev T x = .sl s 0 f) (hy : ev T y = .v (.slice none 0 0)) (hk : ∀ b, K (putD T d (.v (.bool b))) h) : XW2 P N ⟨d, .binOp .eql t1 x y t2, t, p, af, g⟩ T h K := ⟨rfl, e, s, f, hu, hx, hy, hk⟩
theorem X_bytes {src dst e : TypeId} {x : Operand} {s : ByteArray} (h1 : P.underlying src = some .string) (h2 : P.underlying dst = some (.slice e)) (h3 : P.underlying e = some (.int .u8)) (hx : ev T x = .v (.string s)) (hs : s.size ≤ 140737488355328)
    (hk : K (putD T d (.sl 1 s.size fun i _ => .v (.int .u8 (s.data.toList.getD i 0).toNat))) h) : XW2 P N ⟨d, .convert src dst x, t, p, af, g⟩ T h K := ⟨h1, e, s, h2, h3, hx, hs, hk⟩
theorem X_next {b pos : Nat} {s : ByteArray} {it : Operand} (h1 : ev T it = .v (.pointer (some ⟨b, 0, none⟩))) (h2 : h b = some (sitOb s pos))
    (h3 : pos < s.size → K (putD T d (tup3 (.v (.bool true)) (.v (.int .i64 pos)) (.v (.int .i32 (Utf8.decode s pos).1)))) (upd h b (some (sitOb s (pos + (Utf8.decode s pos).2)))))
    (h4 : ¬ pos < s.size → K (putD T d (.tup 1 fun _ => .v (.bool false))) h) : XW2 P N ⟨d, .next it true, t, p, af, g⟩ T h K := ⟨b, s, pos, h1, h2, h3, h4⟩
theorem X_makeSlice {t' e : TypeId} {l c : Operand} {s by_ : Nat} {z : List Value} (n c' : Nat) (hu : P.underlying t' = some (.slice e)) (hz : zeroA P e = some (s, z)) (hb : bytesT P e = some by_) (h1 : ev T l = .v (.int .i64 n)) (h2 : ev T c = .v (.int .i64 c')) (h3 : n ≤ c') (h4 : c' * by_ ≤ 140737488355328) (h5 : c' ≤ 140737488355328)
    (h6 : ∀ b, h b = none → K (putD T d (.row b s 0 n)) (upd h b (some ⟨e, s, n, fun _ j => .v (z.getD j undef)⟩))) : XW2 P N ⟨d, .makeSlice t' l c, t, p, af, g⟩ T h K := by
  simp only [XW2, hu, hz, hb]
  exact ⟨n, c', h1, h2, h3, h4, h5, h6⟩

theorem beqB (a b : ByteArray) : (a.toList == b.toList) = decide (a = b) := by
  rw [← beq_toListBytes, Bool.eq_iff_iff, MapKept.bytes_beq]; simp
@[go_sem] theorem binA_seq (t : TypeId) (a b : ByteArray) : binA P .eql t (.v (.string a)) (.v (.string b)) = some (.bool (decide (a = b))) := by
  rw [binA_str _ _ _ _ (by simp) (by simp)]; simp only [binS, beqB]
@[go_sem] theorem binA_sne (t : TypeId) (a b : ByteArray) : binA P .neq t (.v (.string a)) (.v (.string b)) = some (.bool (!decide (a = b))) := by
  rw [binA_str _ _ _ _ (by simp) (by simp)]; simp only [binS, beqB]
@[go_sem] theorem binA_slt (t : TypeId) (a b : ByteArray) : binA P .lss t (.v (.string a)) (.v (.string b)) = some (.bool (Op.bytesLess a.data.toList b.data.toList)) := by
  rw [binA_str _ _ _ _ (by simp) (by simp)]; simp only [binS, ByteArray.toList_eq]
@[go_sem] theorem binA_sadd (t : TypeId) (a b : ByteArray) : binA P .add t (.v (.string a)) (.v (.string b)) = if a.size + b.size ≤ 9223372036854775807 then some (.string (a ++ b)) else none := by
  rw [binA_str _ _ _ _ (by simp) (by simp)]; simp only [binS]
/-- An own row that nobody will write any more, told by another function. -/
theorem Wk.rowF {h h' : Hp} {b s n : Nat} {o : Ob} {f : Nat → Nat → AV} (hb : h b = some o) (hs : Sub h' h) (hb' : h' b = none) (h1 : o.s = s) (h2 : n ≤ o.n) (h3 : n ≤ 140737488355328) (hf : ∀ i, i < n → ∀ j, j < s → o.f i j = f i j) : Wk h (.row b s 0 n) h' (.sl s n f) := by
  constructor
  intro w u hh hr
  obtain ⟨h4, h5, A, c, hu, hc, hm, hr⟩ := (Wk.row hb hs hb' h1 h2 h3).out w u hh hr
  refine ⟨h4, h5, A, c, hu, hc, hm, fun hn => ?_⟩
  obtain ⟨b', off, e1, e2, e3, e4⟩ := hr hn
  refine ⟨b', off, e1, e2, e3, fun i hi j hj => ?_⟩
  obtain ⟨x, x1, x2, x3⟩ := e4 i hi j hj
  exact ⟨x, x1, x2, by rw [← hf i hi j hj]; exact x3⟩
/-- A literal of single cells. -/
theorem Wk.lit1 {α : Type} {h : Hp} {b : Nat} {e : TypeId} {l : List (Nat → AV)} (xs : List α) (g : α → AV) (hb : h b = none) (hl : l = xs.map fun x _ => g x) (hn : xs.length ≤ 140737488355328) :
    Wk (upd h b (some ⟨e, 1, xs.length, fun i j => (l.getD i (fun _ => .any)) j⟩)) (.row b 1 0 xs.length) h (encL 1 (fun x => [g x]) xs) := by
  refine Wk.rowF (upd_same _ _ _) (Sub.upd hb (Sub.refl _)) hb rfl (Nat.le_refl _) hn fun i hi j hj => ?_
  subst hl
  have hj0 : j = 0 := by omega
  subst hj0
  have hx : xs[i]? = some xs[i] := List.getElem?_eq_getElem hi
  simp [hx]
/-- A new block beside a slice of the call's own. -/
theorem Own.alloc {h0 h : Hp} {a : AV} {e : TypeId} {s n b : Nat} {f : Nat → Nat → AV} {ob : Ob} (o : Own h0 h a e s n f) (hb : h b = Option.none) : Own h0 (upd h b (some ob)) a e s n f := by
  obtain ⟨hs, ho⟩ := o
  refine ⟨Sub.upd ?_ hs, ?_⟩
  · cases hx : h0 b with
    | none => rfl
    | some o => rw [hs b o hx] at hb; cases hb
  · rcases ho with ho | ⟨b1, o, h1, h2, h3, h4⟩
    · exact .inl ho
    · refine .inr ⟨b1, o, h1, h2, ?_, h4⟩
      rw [upd_ne _ _ (fun e => by subst e; rw [hb] at h3; cases h3)]; exact h3
/-- An own block is another; the slice is none of it. -/
theorem Own.other {h0 h : Hp} {a : AV} {e : TypeId} {s n b : Nat} {f : Nat → Nat → AV} {o1 o2 : Ob} (o : Own h0 h a e s n f) (hb : h0 b = some o1) (hh : ∀ c, a = .row c s 0 n → c ≠ b) : Own (upd h0 b (some o2)) (upd h b (some o2)) a e s n f := by
  obtain ⟨hs, ho⟩ := o
  refine ⟨fun c oc hc => ?_, ?_⟩
  · by_cases hcb : c = b
    · subst hcb; rw [upd_same] at hc ⊢; exact hc
    · rw [upd_ne _ _ hcb] at hc ⊢; exact hs c oc hc
  · rcases ho with ho | ⟨b1, o, h1, h2, h3, h4⟩
    · exact .inl ho
    · have hne := hh b1 h1
      exact .inr ⟨b1, o, h1, by rw [upd_ne _ _ hne]; exact h2, by rw [upd_ne _ _ hne]; exact h3, h4⟩
theorem ne_free {h : Hp} {b c : Nat} {o : Ob} (hb : h b = none) (hc : h c = some o) : ¬ b = c ∧ ¬ c = b := ⟨(fun e => by rw [e, hc] at hb; cases hb), (fun e => by rw [← e, hc] at hb; cases hb)⟩
/-- 'append(l, x)': one element more. -/
theorem Own.push {α : Type} {enc : α → List AV} {l : List α} {x : α} {d : Option Tmp} {X Y : Operand} {t e : TypeId} {t' : TypeId} {p : String} {af : Array Edge} {g : Option (Nat × Bool)} {s by_ b : Nat} {z : List Value} {ob : Ob} {h0 h : Hp} {K : (Nat → AV) → Hp → Prop}
    {a0 : AV} (o : Own h0 h a0 e s l.length (cellsL enc l)) (ha : ev T X = a0) (hu : P.underlying t = some (.slice e)) (hz : zeroA P e = some (s, z)) (hb : bytesT P e = some by_) (hd : dOk N d = true) (hbk : h b = Option.none) (hy : ev T Y = .row b s 0 1) (h1 : ob.s = s) (h2 : 1 ≤ ob.n)
    (hq : (List.range s).map (ob.f 0) = enc x) (hm : (l.length + 1) * by_ ≤ 140737488355328) (hm' : l.length + 1 ≤ 140737488355328)
    (hk : ∀ a h', Own h0 h' a e s (l ++ [x]).length (cellsL enc (l ++ [x])) → (∀ c oc, h c = some oc → a0 ≠ .row c s 0 l.length → h' c = some oc) → K (putD T d a) h') : XW P N ⟨d, .call ⟨.builtin .append, #[X, Y], #[t, t]⟩, t', p, af, g⟩ T (upd h b (some ob)) K := by
  subst ha
  refine Own.append (o.alloc hbk) hu hz hb hd (m := 1) (q := ob.f) ?_ hm hm' fun a h' ho hkp => hk a h' (Own.snoc rfl ho fun j hj => ?_) fun c oc hc hne => hkp c oc (by rw [upd_ne _ _ (ne_free hbk hc).2]; exact hc) hne
  · subst h1
    rw [hy]
    simp only [srcA, upd_same]
    rw [if_pos ⟨trivial, trivial, by omega⟩]
    simp
  · rw [← hq]
    simp [List.getD_eq_getElem?_getD, hj]
theorem Wk.tup3_1 {h h' : Hp} {a a' : AV} (wa : Wk h a h' a') (x y : Value) : Wk h (tup3 a (.v x) (.v y)) h' (tup3 a' (.v x) (.v y)) := by
  constructor
  rintro w u hh ⟨cs, rfl, hs, hr⟩
  obtain ⟨v0, e0, r0⟩ := hr 0 (by omega)
  obtain ⟨h1, h2, h3⟩ := wa.out w v0 hh r0
  refine ⟨h1, h2, cs, rfl, hs, fun j hj => ?_⟩
  match j, hj with
  | 0, _ => exact ⟨v0, e0, h3⟩
  | 1, _ => exact hr 1 (by omega)
  | 2, _ => exact hr 2 (by omega)
theorem Wk.tup2_1 {h h' : Hp} {a a' : AV} (wa : Wk h a h' a') (x : Value) : Wk h (tup2 a (.v x)) h' (tup2 a' (.v x)) := by
  constructor
  rintro w u hh ⟨cs, rfl, hs, hr⟩
  obtain ⟨v0, e0, r0⟩ := hr 0 (by omega)
  obtain ⟨h1, h2, h3⟩ := wa.out w v0 hh r0
  refine ⟨h1, h2, cs, rfl, hs, fun j hj => ?_⟩
  match j, hj with
  | 0, _ => exact ⟨v0, e0, h3⟩
  | 1, _ => exact hr 1 (by omega)
theorem Wk.nil {h : Hp} {s : Nat} {f : Nat → Nat → AV} : Wk h (.v (.slice none 0 0)) h (.sl s 0 f) :=
  ⟨fun w u hh hr => ⟨Stp.refl w h, hh, Option.none, 0, hr, Nat.le_refl _, by omega, fun hn => absurd hn (by omega)⟩⟩
theorem Wk.trans {h h' h'' : Hp} {a a' a'' : AV} (x : Wk h a h' a') (y : Wk h' a' h'' a'') : Wk h a h'' a'' := by
  constructor
  intro w u hh hr
  obtain ⟨h1, h2, h3⟩ := x.out w u hh hr
  obtain ⟨h4, h5, h6⟩ := y.out w u h2 h3
  exact ⟨h1.trans h4, h5, h6⟩
/-- 'append(l, x)' where the literal is told as a slice that nobody writes. -/
theorem Own.push2 {α : Type} {enc : α → List AV} {l : List α} {x : α} {d : Option Tmp} {X Y : Operand} {t e : TypeId} {t' : TypeId} {p : String} {af : Array Edge} {g : Option (Nat × Bool)} {s by_ : Nat} {z : List Value} {q : Nat → Nat → AV} {h0 h : Hp} {K : (Nat → AV) → Hp → Prop}
    {a0 : AV} (o : Own h0 h a0 e s l.length (cellsL enc l)) (ha : ev T X = a0) (hu : P.underlying t = some (.slice e)) (hz : zeroA P e = some (s, z)) (hb : bytesT P e = some by_) (hd : dOk N d = true) (hy : ev T Y = .sl s 1 q)
    (hq : (List.range s).map (q 0) = enc x) (hm : (l.length + 1) * by_ ≤ 140737488355328) (hm' : l.length + 1 ≤ 140737488355328)
    (hk : ∀ a h', Own h0 h' a e s (l ++ [x]).length (cellsL enc (l ++ [x])) → (∀ c oc, h c = some oc → a0 ≠ .row c s 0 l.length → h' c = some oc) → K (putD T d a) h') : XW P N ⟨d, .call ⟨.builtin .append, #[X, Y], #[t, t]⟩, t', p, af, g⟩ T h K := by
  subst ha
  refine Own.append o hu hz hb hd (m := 1) (q := q) (by rw [hy]; simp [srcA]) hm hm' fun a h' ho hkp => hk a h' (Own.snoc rfl ho fun j hj => ?_) hkp
  rw [← hq]
  simp [List.getD_eq_getElem?_getD, hj]
/-- An own block is another, that is none of the slice. -/
theorem Own.set {h0 h : Hp} {a : AV} {e : TypeId} {s n b : Nat} {f : Nat → Nat → AV} {o1 : Ob} {o2 : Option Ob} (o : Own h0 h a e s n f) (hb : h b = some o1) (hb0 : h0 b = Option.none) (hne : o1.s ≠ s ∨ o1.ty ≠ e) : Own h0 (upd h b o2) a e s n f := by
  obtain ⟨hs, ho⟩ := o
  refine ⟨Sub.upd hb0 hs, ?_⟩
  rcases ho with ho | ⟨b1, o, h1, h2, h3, h4, h5, h6⟩
  · exact .inl ho
  · have hbb : b1 ≠ b := fun e => by
      subst e
      rw [hb] at h3
      cases h3
      rcases hne with h | h
      · exact h h4
      · exact h h5
    exact .inr ⟨b1, o, h1, h2, by rw [upd_ne _ _ hbb]; exact h3, h4, h5, h6⟩
@[go_sem] theorem funR_some (fn : Fn) (l : List Value) : funR fn (some l) = some (.v (.func fn #[] l.toArray)) := rfl
/-- One invariant gives another, that is not looked into. -/
structure Imp (J J' : Nat → (Nat → AV) → Hp → Prop) : Prop where
  out : ∀ n T h, J n T h → J' n T h
/-- A loop: what holds at its head, with a number that falls; at the end of a round less may be told. -/
theorem X_lpW {Q : Exit → (Nat → AV) → Hp → Prop} {c : Code} (J : Nat → (Nat → AV) → Hp → Prop) (n : Nat) (hi : J n T h) (hs : ∀ J', Imp J J' → (∀ n T h T2 h2, WkS N T h T2 h2 → J n T2 h2 → J' n T h) → ∀ n T h, J n T h → X P N c T h (LpQ J' n Q)) : X P N (.loop c) T h Q :=
  ⟨J, n, hi, hs (fun n T h => ∃ T2 h2, WkS N T h T2 h2 ∧ J n T2 h2) ⟨fun _ T h x => ⟨T, h, WkS.refl N T h, x⟩⟩ fun _ _ _ T2 h2 hw x => ⟨T2, h2, hw, x⟩⟩
/-- A loop: what holds at its head, with a number that falls. -/
theorem X_lp {Q : Exit → (Nat → AV) → Hp → Prop} {c : Code} (J : Nat → (Nat → AV) → Hp → Prop) (n : Nat) (hi : J n T h) (hs : ∀ J', Imp J J' → ∀ n T h, J n T h → X P N c T h (LpQ J' n Q)) : X P N (.loop c) T h Q :=
  X_lpW J n hi fun J' hJ _ => hs J' hJ
/-! What a discharger by omega decides. -/
theorem ite_some {c : Prop} [Decidable c] {x : AV} (h : c) : (if c then some x else none) = some x := if_pos h
theorem ite_someV {c : Prop} [Decidable c] {x : Value} (h : c) : (if c then some x else none) = some x := if_pos h
theorem ite_noneV {c : Prop} [Decidable c] {x : Value} (h : ¬ c) : (if c then none else some x) = some x := if_neg h
theorem wrap_i64 {x : Int} (h1 : -9223372036854775808 ≤ x) (h2 : x ≤ 9223372036854775807) : IntKind.i64.wrap x = x := w64 h1 h2
theorem wrap_u8 {x : Int} (h1 : 0 ≤ x) (h2 : x ≤ 255) : IntKind.u8.wrap x = x := by rw [IntKind.wrap_u8]; omega
theorem wrap_u64 {x : Int} (h1 : 0 ≤ x) (h2 : x ≤ 18446744073709551615) : IntKind.u64.wrap x = x := by rw [IntKind.wrap_u64]; omega
theorem wrap_i32 {x : Int} (h1 : -2147483648 ≤ x) (h2 : x ≤ 2147483647) : IntKind.i32.wrap x = x := by rw [IntKind.wrap_i32]; omega
theorem fdiv_nn {a b : Int} (h : 0 ≤ b) : a.fdiv b = a / b := Int.fdiv_eq_ediv_of_nonneg _ h
theorem tdiv_nn {a b : Int} (h : 0 ≤ a) : a.tdiv b = a / b := Int.tdiv_eq_ediv_of_nonneg h
theorem tmod_nn {a b : Int} (h : 0 ≤ a) : a.tmod b = a % b := Int.tmod_eq_emod_of_nonneg h
theorem toNat_add (a b : Nat) : ((a : Int) + (b : Int)).toNat = a + b := by omega
theorem toNat_add1 (a : Nat) : ((a : Int) + 1).toNat = a + 1 := by omega
theorem toNat_add2 (a b : Nat) : ((a : Int) + (b : Int) + 1).toNat = a + b + 1 := by omega
/-- What a discharger by omega decides, in one. -/
theorem om : (∀ (c : Prop) [Decidable c] (x : AV), c → (if c then some x else none) = some x) ∧ (∀ (c : Prop) [Decidable c] (x : Value), c → (if c then some x else none) = some x) ∧ (∀ (c : Prop) [Decidable c] (x : Value), ¬ c → (if c then none else some x) = some x) ∧
    (∀ x : Int, -9223372036854775808 ≤ x → x ≤ 9223372036854775807 → IntKind.i64.wrap x = x) ∧ (∀ x : Int, 0 ≤ x → x ≤ 255 → IntKind.u8.wrap x = x) ∧ (∀ x : Int, 0 ≤ x → x ≤ 18446744073709551615 → IntKind.u64.wrap x = x) ∧ (∀ x : Int, -2147483648 ≤ x → x ≤ 2147483647 → IntKind.i32.wrap x = x) ∧
    (∀ a b : Int, 0 ≤ b → a.fdiv b = a / b) ∧ (∀ a b : Int, 0 ≤ a → a.tdiv b = a / b) ∧ (∀ a b : Int, 0 ≤ a → a.tmod b = a % b) ∧ (∀ a b : Nat, ((a : Int) + (b : Int)).toNat = a + b) ∧ (∀ a : Nat, ((a : Int) + 1).toNat = a + 1) ∧ (∀ a b : Nat, ((a : Int) + (b : Int) + 1).toNat = a + b + 1) ∧ (∀ a : Nat, (a : Int).toNat = a) :=
  ⟨fun _ _ _ h => if_pos h, fun _ _ _ h => if_pos h, fun _ _ _ h => if_neg h, fun _ h1 h2 => wrap_i64 h1 h2, fun _ h1 h2 => wrap_u8 h1 h2, fun _ h1 h2 => wrap_u64 h1 h2, fun _ h1 h2 => wrap_i32 h1 h2, fun _ _ h => fdiv_nn h, fun _ _ h => tdiv_nn h, fun _ _ h => tmod_nn h, fun _ _ => by omega, fun _ => by omega, fun _ _ => by omega, fun _ => by omega⟩
/-- Tests, in one. -/
theorem bl : (∀ (p : Prop) [Decidable p], (decide p = true) = p) ∧ (∀ (p : Prop) [Decidable p], (decide p = false) = ¬ p) ∧ (∀ b : Bool, (!b) = true ↔ b = false) ∧ (∀ b : Bool, (!b) = false ↔ b = true) ∧ (∀ b : Bool, (¬ b = true) ↔ b = false) ∧ (∀ b : Bool, (¬ b = false) ↔ b = true) ∧
    (∀ a b : Bool, (a || b) = true ↔ a = true ∨ b = true) ∧ (∀ a b : Bool, (a && b) = true ↔ a = true ∧ b = true) ∧ (∀ a b : Bool, (a || b) = false ↔ a = false ∧ b = false) ∧ (∀ a b : Bool, (a && b) = false ↔ a = false ∨ b = false) := by simp
@[go_sem] theorem ite_eq_none {i d : Nat} {o : Ob} {y : Option Ob} : ((if i = d then some o else y) = none) = (¬ i = d ∧ ¬ d = i ∧ y = none) := by
  by_cases h : i = d
  · simp [h]
  · have : ¬ d = i := fun e => h e.symm
    simp [h, this]
/-! Texts. -/
def bOf (l : List UInt8) : ByteArray := ⟨l.toArray⟩
theorem bOf_data (s : ByteArray) : bOf s.data.toList = s := rfl
theorem extract_take (s : ByteArray) (a n : Nat) : s.extract a (a + n) = bOf ((s.data.toList.drop a).take n) := by
  apply ByteArray.ext
  apply Array.ext'
  simp [bOf, List.drop_take]
theorem bOf_size (l : List UInt8) : (bOf l).size = l.length := rfl
theorem bOf_list (l : List UInt8) : (bOf l).data.toList = l := rfl
/-! Maps as lists of keys and values. -/
def mget {κ ν : Type} [DecidableEq κ] (l : List (κ × ν)) (k : κ) : Option ν := match l with
  | [] => none
  | x :: r => if k = x.1 then some x.2 else mget r k
def mset {κ ν : Type} [DecidableEq κ] (l : List (κ × ν)) (k : κ) (v : ν) : List (κ × ν) := match l with
  | [] => [(k, v)]
  | x :: r => if k = x.1 then (k, v) :: r else x :: mset r k v
def mdel {κ ν : Type} [DecidableEq κ] (l : List (κ × ν)) (k : κ) : List (κ × ν) := match l with
  | [] => []
  | x :: r => if k = x.1 then r else x :: mdel r k
structure IsMap {κ ν : Type} (ek : κ → AV) (en : ν → AV) (l : List (κ × ν)) (ob : Ob) : Prop where
  out : ∃ c g, ob = mapOb l.length c g ∧ ∀ i x, l[i]? = some x → g i 0 = ek x.1 ∧ g i 1 = en x.2
theorem IsMap.nil {κ ν : Type} (ek : κ → AV) (en : ν → AV) : IsMap ek en ([] : List (κ × ν)) (mapOb 0 0 fun _ _ => .any) := ⟨⟨0, _, rfl, fun i x h => by simp at h⟩⟩

def mix {κ ν : Type} [DecidableEq κ] (l : List (κ × ν)) (k : κ) : Option Nat := match l with
  | [] => none
  | x :: r => if k = x.1 then some 0 else (mix r k).map (· + 1)
theorem mix_find0 {κ ν : Type} [DecidableEq κ] {ek : κ → AV} {n : Nat} {k : κ} (hq : ∀ k', keyEq n (ek k) (ek k') = some (decide (k = k'))) : ∀ (l : List (κ × ν)) (g : Nat → Nat → AV), (∀ i x, l[i]? = some x → g i 0 = ek x.1) →
    FindK0 n l.length g (ek k) (mix l k) := by
  intro l
  induction l with
  | nil => intro g _ j hj; exact absurd hj (by simp)
  | cons x l ih =>
    intro g hg
    have h0 := hg 0 x (by simp)
    unfold mix
    by_cases hk : k = x.1
    · rw [if_pos hk]
      exact ⟨by simp, by rw [h0, hq]; simpa using hk, fun j hj => absurd hj (by omega)⟩
    · rw [if_neg hk]
      have h1 : keyEq n (ek k) (g 0 0) = some false := by rw [h0, hq]; simpa using hk
      have := ih (fun i c => g (i + 1) c) (fun i y hy => hg (i + 1) y (by simpa using hy))
      cases hm : mix l k with
      | none =>
        rw [hm] at this
        intro j hj
        cases j with
        | zero => exact h1
        | succ j => exact this j (by simpa using hj)
      | some i =>
        rw [hm] at this
        refine ⟨by simpa using this.1, this.2.1, fun j hj => ?_⟩
        cases j with
        | zero => exact h1
        | succ j => exact this.2.2 j (by simpa using hj)
theorem mix_find {κ ν : Type} [DecidableEq κ] {ek : κ → AV} {n : Nat} {k : κ} (hq : ∀ k', keyEq n (ek k) (ek k') = some (decide (k = k'))) (l : List (κ × ν)) (g : Nat → Nat → AV) (hg : ∀ i x, l[i]? = some x → g i 0 = ek x.1) :
    FindK n l.length g (ek k) (mix l k) := ⟨mix_find0 hq l g hg, fun e => by have := hq k; subst e; simpa [keyEq] using this⟩
theorem mix_get {κ ν : Type} [DecidableEq κ] (l : List (κ × ν)) (k : κ) : qE (mix l k) (fun i => (l[i]?).map (·.2)) none = mget l k ∧ (mix l k).isSome = (mget l k).isSome := by
  induction l with
  | nil => exact ⟨rfl, rfl⟩
  | cons x l ih =>
    unfold mix mget
    by_cases hk : k = x.1
    · simp [hk, qE]
    · rw [if_neg hk, if_neg hk]
      cases hm : mix l k with
      | none => rw [hm] at ih; simpa [qE] using ih
      | some i => rw [hm] at ih; simpa [qE] using ih
theorem mix_set {κ ν : Type} [DecidableEq κ] (l : List (κ × ν)) (k : κ) (v : ν) : (∀ i, mix l k = some i → i < l.length ∧ mset l k v = l.set i (k, v)) ∧ (mix l k = none → mset l k v = l ++ [(k, v)]) := by
  induction l with
  | nil => exact ⟨(fun i h => by cases h), fun _ => rfl⟩
  | cons x l ih =>
    unfold mix mset
    by_cases hk : k = x.1
    · simp only [hk, if_true]
      exact ⟨fun i h => by simp at h; subst h; simp, fun h => by cases h⟩
    · simp only [hk, if_false]
      refine ⟨fun i h => ?_, fun h => ?_⟩
      · cases hm : mix l k with
        | none => rw [hm] at h; cases h
        | some j =>
          rw [hm] at h
          simp at h
          subst h
          obtain ⟨h1, h2⟩ := ih.1 j hm
          exact ⟨by simpa using h1, by rw [h2]; rfl⟩
      · cases hm : mix l k with
        | none => rw [ih.2 hm]; rfl
        | some j => rw [hm] at h; cases h
theorem mix_del {κ ν : Type} [DecidableEq κ] (l : List (κ × ν)) (k : κ) : (∀ i, mix l k = some i → i < l.length ∧ mdel l k = l.eraseIdx i) ∧ (mix l k = none → mdel l k = l) := by
  induction l with
  | nil => exact ⟨(fun i h => by cases h), fun _ => rfl⟩
  | cons x l ih =>
    unfold mix mdel
    by_cases hk : k = x.1
    · simp only [hk, if_true]
      exact ⟨fun i h => by simp at h; subst h; simp, fun h => by cases h⟩
    · simp only [hk, if_false]
      refine ⟨fun i h => ?_, fun h => ?_⟩
      · cases hm : mix l k with
        | none => rw [hm] at h; cases h
        | some j =>
          rw [hm] at h
          simp at h
          subst h
          obtain ⟨h1, h2⟩ := ih.1 j hm
          exact ⟨by simpa using h1, by rw [h2]; rfl⟩
      · cases hm : mix l k with
        | none => rw [ih.2 hm]
        | some j => rw [hm] at h; cases h
section
variable {κ ν : Type} [DecidableEq κ] {ek : κ → AV} {en : ν → AV} {l : List (κ × ν)} {k : κ} {b : Nat} {ob : Ob} {t' kt et : TypeId}
theorem X_lookup {x i : Operand} {ck : Bool} {z : ν} (hm : IsMap ek en l ob) (hb : h b = some ob) (hx : ev T x = .v (.map (some b))) (hi : ev T i = ek k) (hu : P.underlying t' = some (.map kt et)) (hq : ∀ k', keyEq (keyT P kt) (ek k) (ek k') = some (decide (k = k')))
    (hkt : keyT P kt ≠ 0) (hz : zeroV P et = some (en z)) (hk : K (putD T d (lookR ck (en ((mget l k).getD z)) (mget l k).isSome)) h) : XW2 P N ⟨d, .lookup t' x i ck, t, p, af, g⟩ T h K := by
  obtain ⟨c, g', rfl, hg⟩ := hm.out
  simp only [XW2, hu]
  refine ⟨l.length, c, g', mix l k, en z, b, hx, hb, by rw [hi]; exact mix_find hq l g' (fun i x hx => (hg i x hx).1), hkt, hz, ?_⟩
  have := mix_get l k
  rw [this.2]
  suffices qE (mix l k) (fun i => g' i 1) (en z) = en ((mget l k).getD z) by rw [this]; exact hk
  rw [← this.1]
  have hs := (mix_set l k z).1
  cases hmx : mix l k with
  | none => rfl
  | some j =>
    have hj := (hs j hmx).1
    have : l[j]? = some l[j] := List.getElem?_eq_getElem hj
    simp only [qE, this, Option.map_some, Option.getD_some]
    exact (hg j _ this).2
theorem set_map {v : ν} {c : Nat} {g' : Nat → Nat → AV} (hg : ∀ i x, l[i]? = some x → g' i 0 = ek x.1 ∧ g' i 1 = en x.2) {a1 a2 : AV} (h1 : a1 = ek k) (h2 : a2 = en v) :
    IsMap ek en (mset l k v) (qE (mix l k) (fun i => mapOb l.length c (setE g' i a1 a2)) (mapOb (l.length + 1) (c + 1) (addE g' l.length c a1 a2))) := by
  subst h1; subst h2
  cases hmx : mix l k with
  | none =>
    have := (mix_set l k v).2 hmx
    rw [this]
    refine ⟨c + 1, _, by simp; rfl, fun i x hx => ?_⟩
    by_cases hi : i < l.length
    · rw [List.getElem?_append_left hi] at hx
      have := hg i x hx
      simp only [addE, Nat.ne_of_lt hi, if_false]; exact this
    · rw [List.getElem?_append_right (by omega)] at hx
      have hi0 : i - l.length = 0 := by
        cases h0 : i - l.length with
        | zero => rfl
        | succ n => rw [h0] at hx; simp at hx
      rw [hi0] at hx
      simp at hx
      subst hx
      have : i = l.length := by omega
      subst this
      simp [addE]
  | some j =>
    obtain ⟨h1, h2⟩ := (mix_set l k v).1 j hmx
    rw [h2]
    refine ⟨c, _, by simp; rfl, fun i x hx => ?_⟩
    by_cases hij : j = i
    · subst hij
      rw [List.getElem?_set_self (by simpa using h1)] at hx
      simp at hx
      subst hx
      simp [setE]
    · rw [List.getElem?_set_ne hij] at hx
      have := hg i x hx
      simp only [setE, Ne.symm hij, if_false]; exact this
theorem X_mapUpdate {m i x : Operand} {v : ν} (hm : IsMap ek en l ob) (hb : h b = some ob) (hx : ev T m = .v (.map (some b))) (hi : ev T i = ek k) (hv : ev T x = en v) (hu : P.underlying t' = some (.map kt et)) (hq : ∀ k', keyEq (keyT P kt) (ek k) (ek k') = some (decide (k = k')))
    (hkt : keyT P kt ≠ 0) (hk : ∀ ob', IsMap ek en (mset l k v) ob' → K (putD T d .any) (upd h b (some ob'))) : XW2 P N ⟨d, .mapUpdate t' m i x, t, p, af, g⟩ T h K := by
  obtain ⟨c, g', rfl, hg⟩ := hm.out
  simp only [XW2, hu]
  exact ⟨l.length, c, g', mix l k, b, hx, hb, by rw [hi]; exact mix_find hq l g' (fun i x hx => (hg i x hx).1), hkt, hk _ (set_map hg hi hv)⟩
theorem X_insert {m i x : Operand} {v : ν} (hm : IsMap ek en l ob) (hb : h b = some ob) (hx : ev T m = .v (.map (some b))) (hi : ev T i = ek k) (hv : ev T x = en v) (hu : P.underlying t' = some (.map kt et)) (hq : ∀ k', keyEq (keyT P kt) (ek k) (ek k') = some (decide (k = k')))
    (hkt : keyT P kt ≠ 0) (hk : ∀ ob', IsMap ek en (mset l k v) ob' → K (putD T d .any) (upd h b (some ob'))) : XW2 P N ⟨d, .insert t' m i x, t, p, af, g⟩ T h K := by
  obtain ⟨c, g', rfl, hg⟩ := hm.out
  simp only [XW2, hu]
  exact ⟨l.length, c, g', mix l k, b, hx, hb, by rw [hi]; exact mix_find hq l g' (fun i x hx => (hg i x hx).1), hkt, hk _ (set_map hg hi hv)⟩
omit [DecidableEq κ] in
theorem X_mapLen {x : Operand} (hm : IsMap ek en l ob) (hb : h b = some ob) (hx : ev T x = .v (.map (some b))) (hu : P.underlying t' = some (.map kt et)) (hk : K (putD T d (.v (.int .i64 l.length))) h) : XW2 P N ⟨d, .call ⟨.builtin .len, #[x], #[t']⟩, t, p, af, g⟩ T h K := by
  obtain ⟨c, g', rfl, hg⟩ := hm.out
  simp only [XW2, hu]
  exact ⟨l.length, c, g', b, hx, hb, hk⟩
theorem X_delete {x i : Operand} {t2 : TypeId} (hm : IsMap ek en l ob) (hb : h b = some ob) (hx : ev T x = .v (.map (some b))) (hi : ev T i = ek k) (hu : P.underlying t' = some (.map kt et)) (hq : ∀ k', keyEq (keyT P kt) (ek k) (ek k') = some (decide (k = k')))
    (hkt : keyT P kt ≠ 0) (hk : ∀ ob', IsMap ek en (mdel l k) ob' → K (putD T d un) (upd h b (some ob'))) : XW2 P N ⟨d, .call ⟨.builtin .delete, #[x, i], #[t', t2]⟩, t, p, af, g⟩ T h K := by
  obtain ⟨c, g', rfl, hg⟩ := hm.out
  simp only [XW2, hu]
  refine ⟨l.length, c, g', mix l k, b, hx, hb, by rw [hi]; exact mix_find hq l g' (fun i x hx => (hg i x hx).1), hkt, hk _ ?_⟩
  cases hmx : mix l k with
  | none => rw [(mix_del l k).2 hmx]; exact ⟨c, g', rfl, hg⟩
  | some j =>
    obtain ⟨h1, h2⟩ := (mix_del l k).1 j hmx
    rw [h2]
    refine ⟨c, _, by rw [List.length_eraseIdx_of_lt h1]; rfl, fun q y hy => ?_⟩
    rw [List.getElem?_eraseIdx] at hy
    split at hy
    · rename_i hlt
      have := hg q y hy
      simp only [delE, hlt, if_true]; exact this
    · rename_i hlt
      have := hg (q + 1) y hy
      simp only [delE, hlt, if_false]; exact this
end
/-- An iterator over the map m, which has handed out the entries of these numbers. -/
structure IterA {κ ν : Type} (h : Hp) (b m : Nat) (ek : κ → AV) (en : ν → AV) (l : List (κ × ν)) (is : List Nat) : Prop where
  out : ∃ c g, h m = some (mapOb l.length c g) ∧ (∀ i x, l[i]? = some x → g i 0 = ek x.1 ∧ g i 1 = en x.2) ∧ h b = some (mitOb m c (is.map (bornA g))) ∧ ∀ i ∈ is, i < l.length
theorem X_nextM {κ ν : Type} {ek : κ → AV} {en : ν → AV} {l : List (κ × ν)} {is : List Nat} {b m : Nat} {it : Operand} (hi : IterA h b m ek en l is) (hbm : b ≠ m) (h1 : ev T it = .v (.pointer (some ⟨b, 0, none⟩)))
    (h2 : ∀ i x, l[i]? = some x → i ∉ is → ∀ ob, IterA (upd h b (some ob)) b m ek en l (is ++ [i]) → K (putD T d (tup3 (.v (.bool true)) (ek x.1) (en x.2))) (upd h b (some ob)))
    (h3 : (∀ i, i < l.length → i ∈ is) → K (putD T d (.tup 1 fun _ => .v (.bool false))) h) : XW2 P N ⟨d, .next it false, t, p, af, g⟩ T h K := by
  obtain ⟨c, g, e1, e2, e3, e4⟩ := hi
  refine ⟨b, m, l.length, c, g, is, h1, e3, e1, e4, fun i hlt hni => ?_, h3⟩
  obtain ⟨x, hx⟩ : ∃ x, l[i]? = some x := ⟨_, List.getElem?_eq_getElem hlt⟩
  obtain ⟨f1, f2⟩ := e2 i x hx
  rw [f1, f2]
  refine h2 i x hx hni _ ⟨c, g, by rw [upd_ne _ _ (Ne.symm hbm)]; exact e1, e2, upd_same _ _ _, fun j hj => ?_⟩
  rcases List.mem_append.1 hj with hj | hj
  · exact e4 j hj
  · rw [List.mem_singleton.1 hj]; exact hlt
theorem X_entry {κ ν : Type} {ek : κ → AV} {en : ν → AV} {l : List (κ × ν)} {is : List Nat} {i b m : Nat} {x : κ × ν} {it : Operand} (hi : IterA h b m ek en l (is ++ [i])) (hx : l[i]? = some x) (h1 : ev T it = .v (.pointer (some ⟨b, 0, none⟩)))
    (h2 : K (putD T d (tup2 (ek x.1) (en x.2))) h) : XW2 P N ⟨d, .entry it, t, p, af, g⟩ T h K := by
  obtain ⟨c, g, e1, e2, e3, e4⟩ := hi
  obtain ⟨f1, f2⟩ := e2 i x hx
  refine ⟨b, m, l.length, c, g, is, i, h1, e3, e1, e4 i (by simp), ?_⟩
  rw [f1, f2]
  exact h2
theorem X_rangeM {κ ν : Type} {ek : κ → AV} {en : ν → AV} {l : List (κ × ν)} {m : Nat} {ob : Ob} {t' k e : TypeId} {x : AV} {K : AV → Hp → Prop} (hm : IsMap ek en l ob) (hb : h m = some ob) (hx : x = .v (.map (some m))) (hu : P.underlying t' = some (.map k e))
    (hk : ∀ b, h b = none → b ≠ m → ∀ ob', IterA (upd h b (some ob')) b m ek en l [] → K (.v (.pointer (some ⟨b, 0, none⟩))) (upd h b (some ob'))) : XRange P t' x h K := by
  obtain ⟨c, g, rfl, e2⟩ := hm
  unfold XRange
  rw [hu]
  refine ⟨m, l.length, c, g, hx, hb, fun b hn => ?_⟩
  have hbm : b ≠ m := fun e => by rw [e, hb] at hn; cases hn
  exact hk b hn hbm _ ⟨c, g, by rw [upd_ne _ _ (Ne.symm hbm)]; exact hb, e2, upd_same _ _ _, fun i hi => by cases hi⟩
end
end Go.Proofs.YtmalhikcdideoaaGreatDoor.Sl
