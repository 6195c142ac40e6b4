/- Nodes whose kids are slices of the call's own too; tree.copied and Norm answer such. tree.Join, whatever it is given. tree.put, Put. tree.Put; mootref2.placed, Placed. tree.Equal: lists of nodes are equal. strings.Builder: copyCheck, by the machine's own steps. strings.Builder: contracts. strings.Builder: WriteString. strconv.Itoa by the shelf's contract; FormatBool. mootref2.num. mootref2.TableWh -/
import Derived.Test.YtmalhikcdideoaaDoorJ2
import Derived.Test.YtmalhikcdideoaaDoorJ0
import Derived.Lib.Builder
import Derived.Lib.UnsafeStr
import Derived.Laws.Externs
import Derived.Shelf.RegionOpenPlain
import Derived.WalkKit
import Derived.Lib.LaidTab
import Derived.Lib.ItoaLen
set_option linter.unusedVariables false
set_option linter.unusedSimpArgs false
namespace Go.Proofs.YtmalhikcdideoaaDoor
open Go Sl
attribute [local irreducible] XRange LpQ XR XRo XRg XRQ putQ XFv XL XW2 wQ putW X XO XOp XH XHo XW SeqQ BlkQ XOQ XHQ NrmQ XC XM XG XHM XHG XD CallK
open Go.RowKit
def dc (Ks : Nat → AV) (l : List Nd) (i j : Nat) : AV := if j = 1 then Ks i else cellsL cNd l i j
def ApA (x y : AV) : Prop := ∀ c n m, x = .row c 1 0 n → y = .row c 1 0 m → False
theorem ApA.symm {x y : AV} (h : ApA x y) : ApA y x := fun c n m h1 h2 => h c m n h2 h1
theorem ApA.nil (y : AV) : ApA (.v (.slice none 0 0)) y := fun c n m h1 => by cases h1
/-- A slice of nodes, and the slices of their kids, all of the call's own, each apart. -/
structure Deep (B h : Hp) (a : AV) (l : List Nd) (Ks : Nat → AV) : Prop where
  nds : Own B h a 39 5 l.length (dc Ks l)
  rows : ∀ i, i < l.length → Own B h (Ks i) 3 1 (ndAt l i).kids.length (cellsL cI (ndAt l i).kids)
  apart : ∀ i j, i < l.length → j < l.length → i ≠ j → ApA (Ks i) (Ks j)
theorem Deep.none {h : Hp} {Ks : Nat → AV} : Deep h h (.v (.slice none 0 0)) [] Ks := ⟨Own.none, fun i hi => absurd hi (Nat.not_lt_zero _), fun i j hi => absurd hi (Nat.not_lt_zero _)⟩
theorem Deep.up {B0 B h : Hp} {a : AV} {l : List Nd} {Ks : Nat → AV} (o : Deep B h a l Ks) (hS : Sub B0 B) : Deep B0 h a l Ks := ⟨own_up hS o.nds, fun i hi => own_up hS (o.rows i hi), o.apart⟩
theorem Deep.grow {B h h1 : Hp} {a : AV} {l : List Nd} {Ks : Nat → AV} (o : Deep B h a l Ks) (hS : Sub h h1) : Deep B h1 a l Ks := ⟨own_grow o.nds hS, fun i hi => own_grow (o.rows i hi) hS, o.apart⟩
theorem Deep.with {B h : Hp} {a : AV} {l : List Nd} {Ks : Nat → AV} {c : Nat} {oc : Ob} (o : Deep B h a l Ks) (hc : h c = Option.none) : Deep (upd B c (some oc)) (upd h c (some oc)) a l Ks := ⟨own_with o.nds hc, fun i hi => own_with (o.rows i hi) hc, o.apart⟩
theorem Deep.other {B h : Hp} {a : AV} {l : List Nd} {Ks : Nat → AV} {b : Nat} {o1 o2 : Ob} (o : Deep B h a l Ks) (hb : B b = some o1) : Deep (upd B b (some o2)) (upd h b (some o2)) a l Ks := ⟨own_other o.nds hb, fun i hi => own_other (o.rows i hi) hb, o.apart⟩
/-- A row of the call's own is none of the base. -/
theorem own_none {B h : Hp} {a : AV} {e : TypeId} {s n c m s' : Nat} {f : Nat → Nat → AV} (o : Own B h a e s n f) (ha : a = .row c s' 0 m) : B c = Option.none := by
  rcases o.2 with ⟨_, h1 | h1⟩ | ⟨b, ob, h1, h2, _⟩
  · rw [ha] at h1; cases h1
  · rw [ha] at h1; cases h1
  · rw [ha] at h1; cases h1; exact h2
theorem own_some {B h : Hp} {a : AV} {e : TypeId} {s n c m s' : Nat} {f : Nat → Nat → AV} (o : Own B h a e s n f) (ha : a = .row c s' 0 m) : m = n ∧ s' = s ∧ ∃ ob, h c = some ob ∧ ob.s = s := by
  rcases o.2 with ⟨_, h1 | h1⟩ | ⟨b, ob, h1, h2, h3, h4, _⟩
  · rw [ha] at h1; cases h1
  · rw [ha] at h1; cases h1
  · rw [ha] at h1; cases h1; exact ⟨rfl, rfl, ob, h3, h4⟩
theorem own_ap {B h h1 : Hp} {k y : AV} {e e' : TypeId} {s n s' n' : Nat} {f f' : Nat → Nat → AV} (ok : Own B h k e s n f) {H : Hp} (oy : Own H h1 y e' s' n' f') (hk : ∀ c ob, h c = some ob → ob.s = s → k = .row c s 0 n → H c = some ob) : ApA k y := fun c p q h2 h3 => by
  obtain ⟨rfl, h5, ob, h6, h7⟩ := own_some ok h2
  subst h5
  have := own_none oy h3
  rw [hk c ob h6 h7 h2] at this
  cases this
open Classical in
theorem Deep.hole {B h : Hp} {a : AV} {l : List Nd} {Ks : Nat → AV} (o : Deep B h a l Ks) : ∃ H : Hp, Deep H h a l Ks ∧ Sub B H ∧ ∀ d od, h d = some od → a ≠ .row d 5 0 l.length → (∀ i, i < l.length → ∀ n, Ks i ≠ .row d 1 0 n) → H d = some od := by
  have key : ∀ (e : TypeId) (s n : Nat) (x : AV) (f : Nat → Nat → AV), Own B h x e s n f → (∀ c, x = .row c s 0 n → (a = .row c 5 0 l.length ∨ ∃ i, i < l.length ∧ ∃ n, Ks i = .row c 1 0 n)) →
      Own (fun c => if (a = .row c 5 0 l.length ∨ ∃ i, i < l.length ∧ ∃ n, Ks i = .row c 1 0 n) then Option.none else h c) h x e s n f := fun e s n x f ox hx => by
    refine ⟨fun c oc hc => ?_, ?_⟩
    · simp only at hc
      split at hc
      · cases hc
      · exact hc
    · rcases ox.2 with h1 | ⟨gb, og, h1, h2, h3⟩
      · exact .inl h1
      · exact .inr ⟨gb, og, h1, by simp only [if_pos (hx gb h1)], h3⟩
  refine ⟨_, ⟨key _ _ _ _ _ o.nds fun c hc => .inl hc, fun i hi => key _ _ _ _ _ (o.rows i hi) fun c hc => .inr ⟨i, hi, _, hc⟩, o.apart⟩, fun c oc hc => ?_, fun d od hd h1 h2 => ?_⟩
  · have hn : ¬ (a = .row c 5 0 l.length ∨ ∃ i, i < l.length ∧ ∃ n, Ks i = .row c 1 0 n) := by
      rintro (h1 | ⟨i, hi, n, h1⟩)
      · have := own_none o.nds h1; rw [hc] at this; cases this
      · have := own_none (o.rows i hi) h1; rw [hc] at this; cases this
    simp only [if_neg hn]
    exact o.nds.1 c oc hc
  · have hn : ¬ (a = .row d 5 0 l.length ∨ ∃ i, i < l.length ∧ ∃ n, Ks i = .row d 1 0 n) := by
      rintro (h3 | ⟨i, hi, n, h3⟩)
      · exact h1 h3
      · exact h2 i hi n h3
    simp only [if_neg hn]
    exact hd
/-- Another slice of numbers is in the rest. -/
theorem Deep.restK {B h H : Hp} {a k : AV} {l : List Nd} {Ks : Nat → AV} {n : Nat} {f : Nat → Nat → AV} (o : Deep B h a l Ks) (ok : Own B h k 3 1 n f) (hS : Sub B H) (hk : ∀ d od, h d = some od → a ≠ .row d 5 0 l.length → (∀ i, i < l.length → ∀ n, Ks i ≠ .row d 1 0 n) → H d = some od) (ha : ∀ i, i < l.length → ApA k (Ks i)) :
    Own B H k 3 1 n f := by
  refine ⟨hS, ?_⟩
  rcases ok.2 with h1 | ⟨gb, og, h1, h2, h3, h4⟩
  · exact .inl h1
  · exact .inr ⟨gb, og, h1, h2, hk gb og h3 (fun e => own_apartT ok o.nds (by decide) gb h1 e) fun i hi m e => ha i hi gb n m h1 e, h4⟩
/-- Another slice is written: what is told of nodes is kept. -/
theorem Deep.keep {B h H h1 : Hp} {a k : AV} {l : List Nd} {Ks : Nat → AV} {n : Nat} {f : Nat → Nat → AV} (o : Deep B h a l Ks) (ok : Own H h k 3 1 n f) (hS : Sub B H) (hk : ∀ d od, h d = some od → k ≠ .row d 1 0 n → H d = some od) (h01 : Sub H h1) (ha : ∀ i, i < l.length → ApA k (Ks i)) : Deep B h1 a l Ks :=
  ⟨own_keep hS hk h01 o.nds (own_apartT ok o.nds (by decide)), fun i hi => own_keep hS hk h01 (o.rows i hi) fun c h2 h3 => ha i hi c _ _ h2 h3, o.apart⟩
theorem Deep.apK {B h H h1 : Hp} {a k k1 : AV} {l : List Nd} {Ks : Nat → AV} {n n1 : Nat} {f1 : Nat → Nat → AV} (o : Deep B h a l Ks) (hk : ∀ d od, h d = some od → k ≠ .row d 1 0 n → H d = some od) (ok1 : Own H h1 k1 3 1 n1 f1) (ha : ∀ i, i < l.length → ApA k (Ks i)) : ∀ i, i < l.length → ApA k1 (Ks i) := fun i hi =>
  (own_ap (o.rows i hi) ok1 fun c ob h2 _ h3 => hk c ob h2 fun e => ha i hi c _ _ e h3).symm
section
variable {P : Program} {N : Nat} {T : Nat → AV} {K : (Nat → AV) → Hp → Prop} {d : Option Tmp} {X Y : Operand} {t e : TypeId} {t' : TypeId} {p : String} {af : Array Edge} {gd : Option (Nat × Bool)} {by_ : Nat} {z : List Value} {B g : Hp} {a0 k : AV} {acc : List Nd} {x : Nd} {Ks : Nat → AV}
/-- A node is appended whose kids are a slice of the call's own. -/
theorem Deep.push {b : Nat} {ob : Ob} (o : Deep B g a0 acc Ks) (oK : Own B g k 3 1 x.kids.length (cellsL cI x.kids)) (hap : ∀ i, i < acc.length → ApA k (Ks i)) (ha : ev T X = a0) (hu : P.underlying t = some (.slice 39)) (hz : zeroA P 39 = some (5, z)) (hb : bytesT P 39 = some by_) (hd : dOk N d = true)
    (hbk : g b = Option.none) (hy : ev T Y = .row b 5 0 1) (h1 : ob.s = 5) (h2 : 1 ≤ ob.n) (f0 : ob.f 0 0 = I x.op) (f1 : ob.f 0 1 = k) (f2 : ob.f 0 2 = I x.kd) (f3 : ob.f 0 3 = I x.n) (f4 : ob.f 0 4 = S x.nm) (hm : (acc.length + 1) * by_ ≤ 140737488355328) (hm' : acc.length + 1 ≤ 140737488355328)
    (hK : ∀ a h1, Deep B h1 a (acc ++ [x]) (fun i => if i < acc.length then Ks i else k) → (∀ d od, g d = some od → a0 ≠ .row d 5 0 acc.length → h1 d = some od) → K (putD T d a) h1) : XW P N ⟨d, .call ⟨.builtin .append, #[X, Y], #[t, t]⟩, t', p, af, gd⟩ T (upd g b (some ob)) K := by
  obtain ⟨H, oH, sH, kH⟩ := own_hole o.nds
  refine pushN oH ha hu hz hb hd hbk hy h1 h2 hm hm' fun a h1 ho hkp => hK a h1 ⟨?_, fun i hi => ?_, fun i j hi hj hij => ?_⟩ hkp
  · rw [List.length_append, List.length_singleton]
    have o1 := own_up sH ho
    refine ⟨o1.1, ?_⟩
    rcases o1.2 with q | ⟨gb, og, q1, q2, q3, q4, q5, q6, q7, q8⟩
    · exact .inl q
    · refine .inr ⟨gb, og, q1, q2, q3, q4, q5, q6, q7, fun i hi j hj => ?_⟩
      rw [q8 i hi j hj]
      by_cases hil : i < acc.length
      · simp only [hil, if_true, dc]
        by_cases hj1 : j = 1
        · simp [hj1]
        · simp [hj1, cellsL, List.getElem?_append_left hil]
      · obtain rfl : i = acc.length := by omega
        simp only [Nat.lt_irrefl, if_false, Nat.sub_self, dc]
        rcases (show j = 0 ∨ j = 1 ∨ j = 2 ∨ j = 3 ∨ j = 4 by omega) with rfl | rfl | rfl | rfl | rfl
        · simp [f0, cellsL, cNd]
        · simp [f1]
        · simp [f2, cellsL, cNd]
        · simp [f3, cellsL, cNd]
        · simp [f4, cellsL, cNd]
  · rw [List.length_append, List.length_singleton] at hi
    by_cases hil : i < acc.length
    · have e1 : ndAt (acc ++ [x]) i = ndAt acc i := by simp [ndAt, List.getElem?_append_left hil]
      simp only [hil, if_true, e1]
      exact own_keep sH kH ho.1 (o.rows i hil) (own_apartT o.nds (o.rows i hil) (by decide))
    · obtain rfl : i = acc.length := by omega
      have e1 : ndAt (acc ++ [x]) acc.length = x := by simp [ndAt]
      simp only [Nat.lt_irrefl, if_false, e1]
      exact own_keep sH kH ho.1 oK (own_apartT o.nds oK (by decide))
  · rw [List.length_append, List.length_singleton] at hi hj
    by_cases hil : i < acc.length
    · by_cases hjl : j < acc.length
      · simp only [hil, hjl, if_true]; exact o.apart i j hil hjl hij
      · simp only [hil, hjl, if_true, if_false]; exact (hap i hil).symm
    · by_cases hjl : j < acc.length
      · simp only [hil, hjl, if_true, if_false]; exact hap j hjl
      · omega
end
theorem Deep.frozen {B h : Hp} {a : AV} {l : List Nd} {Ks : Nat → AV} (o : Deep B h a l Ks) (h1 : l.length ≤ 140737488355328) (h2 : ∀ i, i < l.length → (ndAt l i).kids.length ≤ 140737488355328) : Wk h a B (encL 5 cNd l) := by
  obtain ⟨H, oH, sH, kH⟩ := own_hole o.nds
  refine (oH.frozen h1).trans (Wk.slMap sH fun i hi j hj => ?_)
  have hc : ∀ j, cellsL cNd l i j = (cNd (ndAt l i)).getD j .any := fun j => by simp [cellsL, ndAt, List.getElem?_eq_getElem hi]
  change Wk H (dc Ks l i j) B (cellsL cNd l i j)
  by_cases hj1 : j = 1
  · subst hj1
    rw [hc]
    simp only [dc, if_true]
    exact (own_keep sH kH (Sub.refl _) (o.rows i hi) (own_apartT o.nds (o.rows i hi) (by decide))).frozen (h2 i hi)
  · simp only [dc, hj1, if_false]
    rw [hc]
    rcases (show j = 0 ∨ j = 2 ∨ j = 3 ∨ j = 4 by omega) with rfl | rfl | rfl | rfl
    all_goals exact Wk.drop _ sH
set_option maxHeartbeats 4000000 in
theorem copiedD_ok (e : List Nd) (hv : Vd e) (hk3 : ∀ (i : Nat) (x : Nd), e[i]? = some x → x.kids.length ≤ 3) (p : Nat) (hp : p < e.length) :
    ∀ (h0 h : Hp) (a : AV) (acc : List Nd) (Ks : Nat → AV), Deep h0 h a acc Ks → acc.length + sizeT (treeAt e p) ≤ 1000000 →
      CallK Tryd.prog h 70 [a, encL 5 cNd e, I p] fun r h' => ∃ Ks', Deep h0 h' r (copA e acc p) Ks' := by
  induction p using Nat.strongRecOn with
  | ind p ih =>
    intro h0 h a acc Ks own hb
    obtain ⟨x, hxe⟩ : ∃ x, e[p] = x := ⟨_, rfl⟩
    have hx : e[p]? = some x := by rw [List.getElem?_eq_getElem hp, hxe]
    have hnd : ndAt e p = x := by unfold ndAt; rw [List.getD_eq_getElem?_getD, hx]; rfl
    have hkx := hv.out p x hx
    have hk3' := hk3 p x hx
    have hsz : sizeT (treeAt e p) = sizeL (x.kids.map fun k => treeAt e k.toNat) + 1 := by rw [treeAt_eq hv, sizeT, hnd]
    have hfin := copA_eq hv acc p
    rw [hnd] at hfin
    obtain ⟨R, hR⟩ : ∃ R, copL (copA e) x.kids acc [] = R := ⟨_, rfl⟩
    rw [hR] at hfin
    have hRl := copL_len e x.kids acc []
    rw [hR] at hRl
    rw [hfin]
    have ihk : ∀ k ∈ x.kids, ∀ (h0 h : Hp) (a : AV) (acc : List Nd) (Ks : Nat → AV), Deep h0 h a acc Ks → acc.length + sizeT (treeAt e k.toNat) ≤ 1000000 →
        CallK Tryd.prog h 70 [a, encL 5 cNd e, I k] fun r h' => ∃ Ks', Deep h0 h' r (copA e acc k.toNat) Ks' := fun k hk => by
      have h1 := hkx k hk
      obtain ⟨m, rfl⟩ : ∃ m : Nat, k = m := ⟨k.toNat, by omega⟩
      rw [Int.toNat_natCast]
      exact ih m (by omega) (by omega)
    clear ih
    refine callK_body Tryd.func70 rfl (by rw [nt70]; simp) ?_; rw [nt70, rs70]
    (repeat' (first | simp [go_sem, X_region, *] | simp (disch := omega) only [om, *] | ((first | refine XC_split ?_ ?_ | refine XG_true ?_ ?_ | refine XG_false ?_ ?_ | refine XRg_true ?_ ?_ | refine XRg_false ?_ ?_) <;> intro hc <;> (try simp only [bl] at hc) <;> (try (exfalso; omega))) | refine XD_w [] [] [] (fun _ => none) mixed (by decide +kernel) (sub_none _) ?_ | fail))
    intro b7 hb7
    have hb70 : h0 b7 = none := sub_none_of own.nds.1 hb7
    (repeat' (first | simp [go_sem, X_region, *] | simp (disch := omega) only [om, *] | ((first | refine XC_split ?_ ?_ | refine XG_true ?_ ?_ | refine XG_false ?_ ?_ | refine XRg_true ?_ ?_ | refine XRg_false ?_ ?_) <;> intro hc <;> (try simp only [bl] at hc) <;> (try (exfalso; omega))) | refine XD_w [] [] [] (fun _ => none) mixed (by decide +kernel) (sub_none _) ?_ | fail))
    have hi5 := fun ob => own.with (oc := ob) hb7
    refine X_lpF (fun i => i = 0 ∨ i = 8 ∨ i = 10 ∨ (18 ≤ i ∧ i ≤ 32)) (fun n T g => ∃ (j : Nat) (rk : List Int) (out : List Nd) (ks : List Int) (ob : Ob) (Ka : Nat → AV), n = rk.length ∧ j ≤ x.kids.length ∧ x.kids.drop j = rk ∧ copL (copA e) rk out ks = R ∧ T 18 = I j ∧ ks.length = j ∧ (out.length : Int) + sizeL (rk.map fun k => treeAt e k.toNat) + 1 ≤ 1000000 ∧
        Deep (upd h0 b7 (some ob)) g (T 0) out Ka ∧ Own (upd h0 b7 (some ob)) g (T 8) 3 1 ks.length (cellsL cI ks) ∧ (∀ i, i < out.length → ApA (T 8) (Ka i)) ∧ ob.ty = 39 ∧ ob.s = 5 ∧ ob.n = 1 ∧ ob.f 0 0 = I x.op ∧ ob.f 0 2 = I x.kd ∧ ob.f 0 3 = I x.n ∧ ob.f 0 4 = S x.nm) x.kids.length
      ⟨0, x.kids, acc, [], _, Ks, rfl, by omega, rfl, hR, by simp [go_sem], rfl, by omega, by simpa [go_sem] using hi5 _, by simp only [go_sem]; exact ⟨(hi5 _).nds.1, .inl ⟨rfl, .inl (by simp [go_sem])⟩⟩, fun i hi => by simpa [go_sem] using ApA.nil (Ks i), rfl, rfl, rfl, by simp, by simp, by simp, by simp⟩ ?_
    clear hi5
    rintro J hJ n T g hfr ⟨j, rk, out, ks, ob, Ka, rfl, hj, hdk, hRk, t18, hks, hbd, own5, ownK, hap, p1, p2, p3, f0, f2, f3, f4⟩
    have e7 : g b7 = some ob := own5.nds.1 b7 _ (upd_same _ _ _)
    rcases rk with _ | ⟨y, rk⟩
    · have hlt := drop_nil hdk
      rw [copL] at hRk
      subst hRk
      have hcK := own_cells ownK
      dsimp only at *
      (repeat' (first | simp [go_sem, X_region, *] | simp (disch := omega) only [om, *] | ((first | refine XC_split ?_ ?_ | refine XG_true ?_ ?_ | refine XG_false ?_ ?_ | refine XRg_true ?_ ?_ | refine XRg_false ?_ ?_) <;> intro hc <;> (try simp only [bl] at hc) <;> (try (exfalso; omega))) | refine XD_w [] [] [] (fun _ => none) mixed (by decide +kernel) (sub_none _) ?_ | fail))
      intro b hn1 hn2 hb
      have w5 := own5.other (o2 := ⟨39, 5, 1, fun i' j' => if i' = 0 ∧ 1 ≤ j' ∧ j' < 2 then T 8 else ob.f i' j'⟩) (upd_same _ _ _)
      have wK := own_other (o2 := ⟨39, 5, 1, fun i' j' => if i' = 0 ∧ 1 ≤ j' ∧ j' < 2 then T 8 else ob.f i' j'⟩) ownK (upd_same _ _ _)
      rw [upd_upd] at w5 wK
      refine Deep.push (x := { x with kids := ks }) w5 wK hap (by simp [go_sem]) und42 zr39 by39 (by simp [go_sem]) (by rw [upd_ne _ _ hn1]; exact hb) (by simp [go_sem]) rfl (Nat.le_refl _) (by simp [f0]) (by simp) (by simp [f2]) (by simp [f3]) (by simp [f4]) (by omega) (by omega) fun a1 h1 w3 _ => ?_
      (repeat' (first | simp [go_sem, X_region, *] | simp (disch := omega) only [om, *] | ((first | refine XC_split ?_ ?_ | refine XG_true ?_ ?_ | refine XG_false ?_ ?_ | refine XRg_true ?_ ?_ | refine XRg_false ?_ ?_) <;> intro hc <;> (try simp only [bl] at hc) <;> (try (exfalso; omega))) | refine XD_w [] [] [] (fun _ => none) mixed (by decide +kernel) (sub_none _) ?_ | fail))
      exact ⟨_, _, Wk.refl _ _, _, w3.up (Sub.upd hb70 (Sub.refl _))⟩
    · obtain ⟨hlt, hxk, hdk2⟩ := drop_cons hdk
      have hcall := ihk y (by rw [← hxk]; exact List.getElem_mem hlt)
      rw [List.map_cons, sizeL] at hbd
      have hrp := sizeL_pos (rk.map fun k => treeAt e k.toNat)
      have hcl := (copA_len e out y.toNat).symm
      have htp := sizeT_pos (treeAt e y.toNat)
      rw [copL] at hRk
      (repeat' (first | simp [go_sem, X_region, *] | simp (disch := omega) only [om, *] | ((first | refine XC_split ?_ ?_ | refine XG_true ?_ ?_ | refine XG_false ?_ ?_ | refine XRg_true ?_ ?_ | refine XRg_false ?_ ?_) <;> intro hc <;> (try simp only [bl] at hc) <;> (try (exfalso; omega))) | refine XD_w [] [] [] (fun _ => none) mixed (by decide +kernel) (sub_none _) ?_ | fail))
      obtain ⟨H, oH, sH, kH⟩ := own5.hole
      refine (hcall _ _ _ out Ka oH (by omega)).mono fun r g1 hq => ?_
      obtain ⟨Kb, o1⟩ := hq
      have own51 := o1.up sH
      have oKH := own5.restK ownK sH kH hap
      have ownK1 := own_grow oKH o1.nds.1
      have hap1 : ∀ i, i < (copA e out y.toNat).length → ApA (T 8) (Kb i) := fun i hi => own_ap oKH (o1.rows i hi) fun c ob h2 _ _ => h2
      clear hcall o1 kH sH oH oKH H
      generalize copA e out y.toNat = out2 at *
      obtain ⟨d5, rfl⟩ := own_row own51.nds (by omega)
      (repeat' (first | simp [go_sem, X_region, *] | simp (disch := omega) only [om, *] | ((first | refine XC_split ?_ ?_ | refine XG_true ?_ ?_ | refine XG_false ?_ ?_ | refine XRg_true ?_ ?_ | refine XRg_false ?_ ?_) <;> intro hc <;> (try simp only [bl] at hc) <;> (try (exfalso; omega))) | refine XD_w [] [] [] (fun _ => none) mixed (by decide +kernel) (sub_none _) ?_ | fail))
      intro bl hbl
      obtain ⟨HK, oHK, sHK, kHK⟩ := own_hole ownK1
      refine Own.push (x := (out2.length : Int) - 1) (enc := cI) oHK (by simp [go_sem]) und37 zr3 by3 (by simp [go_sem]) hbl (by simp [go_sem]) rfl (Nat.le_refl _) (by simp [go_sem]) (by omega) (by omega) fun a1 h1 hown1 hk1 => ?_
      have own52 := own51.keep oHK sHK kHK hown1.1 hap1
      have hap2 := own51.apK kHK hown1 hap1
      have ownK2 := own_up sHK hown1
      (repeat' (first | simp [go_sem, X_region, *] | simp (disch := omega) only [om, *] | ((first | refine XC_split ?_ ?_ | refine XG_true ?_ ?_ | refine XG_false ?_ ?_ | refine XRg_true ?_ ?_ | refine XRg_false ?_ ?_) <;> intro hc <;> (try simp only [bl] at hc) <;> (try (exfalso; omega))) | refine XD_w [] [] [] (fun _ => none) mixed (by decide +kernel) (sub_none _) ?_ | fail))
      exact ⟨_, Nat.lt_succ_self _, hJ.out _ _ _ ⟨(by (repeat (refine fr_upd (by decide) ?_)); exact hfr), j + 1, rk, out2, ks ++ [(out2.length : Int) - 1], ob, Kb, rfl, by omega, hdk2, hRk, by simp [go_sem], by simp [hks], by omega, by simpa [go_sem] using own52, by simpa [go_sem] using ownK2, by simpa [go_sem] using hap2, p1, p2, p3, f0, f2, f3, f4⟩⟩
theorem cutD_ok (e : List Nd) (p : Nat) (q : chkE (oneE nameF) e = 0) (hp : p < e.length) (hn : ∀ x ∈ e, x.nm.size ≤ 140737488355328) (h : Hp) : CallK Tryd.prog h 33 [encL 5 cNd e, I p] fun r h' => ∃ Ks, Deep h h' r (flatT (treeAt e p)) Ks := by
  have hc := tcheck_ok e hn
  obtain ⟨a1, a2, hv, hk3, hsz⟩ := chk_facts q
  rw [q] at hc
  have hm := hsz p hp
  have hcp := fun h : Hp => copiedD_ok e hv hk3 p hp h h _ [] (fun _ => .any) Deep.none (by simp; omega)
  rw [copA_nil] at hcp
  generalize flatT (treeAt e p) = R at *
  refine callK_body Tryd.func33 rfl (by rw [nt33]; simp) ?_; rw [nt33, rs33]
  (repeat' (first | simp [go_sem, X_region, *] | simp (disch := omega) only [om, *] | ((first | refine XC_split ?_ ?_ | refine XG_true ?_ ?_ | refine XG_false ?_ ?_ | refine XRg_true ?_ ?_ | refine XRg_false ?_ ?_) <;> intro hc <;> (try simp only [bl] at hc) <;> (try (exfalso; omega))) | refine XD_w [] [] [] (fun _ => none) mixed (by decide +kernel) (sub_none _) ?_ | refine Pure.call (hc) ?_ | refine ⟨_, Pure.at (hc), ?_⟩ | refine ⟨_, hc, ?_⟩ | refine PureAt.call (hc) ?_ | fail))
  refine (hcp h).mono fun r g o => ?_
  (repeat' (first | simp [go_sem, X_region, *] | simp (disch := omega) only [om, *] | ((first | refine XC_split ?_ ?_ | refine XG_true ?_ ?_ | refine XG_false ?_ ?_ | refine XRg_true ?_ ?_ | refine XRg_false ?_ ?_) <;> intro hc <;> (try simp only [bl] at hc) <;> (try (exfalso; omega))) | refine XD_w [] [] [] (fun _ => none) mixed (by decide +kernel) (sub_none _) ?_ | fail))
  exact ⟨_, _, Wk.refl _ _, o⟩
theorem normD_ok (e : List Nd) (q : chkE (oneE nameF) e = 0) (hn : ∀ x ∈ e, x.nm.size ≤ 140737488355328) (h : Hp) : CallK Tryd.prog h 27 [encL 5 cNd e] fun r h' => ∃ Ks, Deep h h' r (flatT (treeAt e (e.length - 1))) Ks := by
  obtain ⟨a1, a2, _⟩ := chk_facts q
  have hcp := cutD_ok e (e.length - 1) q (by omega) hn h
  have e1 : ((e.length - 1 : Nat) : Int) = (e.length : Int) - 1 := by omega
  rw [e1] at hcp
  generalize flatT (treeAt e (e.length - 1)) = R at *
  refine callK_body Tryd.func27 rfl (by rw [nt27]; simp) ?_; rw [nt27, rs27]
  (repeat' (first | simp [go_sem, X_region, *] | simp (disch := omega) only [om, *] | ((first | refine XC_split ?_ ?_ | refine XG_true ?_ ?_ | refine XG_false ?_ ?_ | refine XRg_true ?_ ?_ | refine XRg_false ?_ ?_) <;> intro hc <;> (try simp only [bl] at hc) <;> (try (exfalso; omega))) | refine XD_w [] [] [] (fun _ => none) mixed (by decide +kernel) (sub_none _) ?_ | fail))
  refine hcp.mono fun r g o => ?_
  (repeat' (first | simp [go_sem, X_region, *] | simp (disch := omega) only [om, *] | ((first | refine XC_split ?_ ?_ | refine XG_true ?_ ?_ | refine XG_false ?_ ?_ | refine XRg_true ?_ ?_ | refine XRg_false ?_ ?_) <;> intro hc <;> (try simp only [bl] at hc) <;> (try (exfalso; omega))) | refine XD_w [] [] [] (fun _ => none) mixed (by decide +kernel) (sub_none _) ?_ | fail))
  exact ⟨_, _, Wk.refl _ _, o⟩
end Go.Proofs.YtmalhikcdideoaaDoor

set_option linter.unusedVariables false
set_option linter.unusedSimpArgs false
namespace Go.Proofs.YtmalhikcdideoaaDoor
open Go Sl
attribute [local irreducible] XRange LpQ XR XRo XRg XRQ putQ XFv XL XW2 wQ putW X XO XOp XH XHo XW SeqQ BlkQ XOQ XHQ NrmQ XC XM XG XHM XHG XD CallK
open Go.RowKit
/-- Kids' numbers in a slice of the call's own, or none. -/
def Kd0 (B g : Hp) (k : AV) (ks : List Int) : Prop := Own B g k 3 1 ks.length (cellsL cI ks) ∨ (ks = [] ∧ k = encL 1 cI [])
theorem Kd0.kds {B g : Hp} {k : AV} {ks : List Int} (o : Kd0 B g k ks) : Kds B g k ks := by
  rcases o with o | ⟨rfl, rfl⟩
  · exact .inl o
  · exact .inr rfl
theorem Kd0.cells {B g : Hp} {k : AV} {ks : List Int} (o : Kd0 B g k ks) : cellsA k = some (1, fun _ => k) := o.kds.cells
theorem Kd0.up {B0 B g : Hp} {k : AV} {ks : List Int} (o : Kd0 B g k ks) (hS : Sub B0 B) : Kd0 B0 g k ks := by
  rcases o with o | o
  · exact .inl (own_up hS o)
  · exact .inr o
theorem Kd0.other {B g : Hp} {k : AV} {ks : List Int} {b : Nat} {o1 o2 : Ob} (o : Kd0 B g k ks) (hb : B b = some o1) : Kd0 (upd B b (some o2)) (upd g b (some o2)) k ks := by
  rcases o with o | o
  · exact .inl (own_other o hb)
  · exact .inr o
theorem Kd0.len {B g : Hp} {k : AV} {ks : List Int} (o : Kd0 B g k ks) : lenA Tryd.prog 37 k = some (ks.length : Int) := by
  rcases o with o | ⟨rfl, rfl⟩
  · rcases o.2 with ⟨h0, h1 | h1⟩ | ⟨b, ob, h1, _⟩
    · rw [h0, h1]; simp [go_sem]
    · rw [h0, h1]; simp [go_sem]
    · rw [h1]; simp [go_sem]
  · simp [go_sem]
theorem Kd0.row {B g : Hp} {k : AV} {ks : List Int} (o : Kd0 B g k ks) (hn : 0 < ks.length) : ∃ c oc, k = .row c 1 0 ks.length ∧ B c = none ∧ g c = some oc ∧ oc.s = 1 ∧ oc.ty = 3 ∧ oc.n = ks.length ∧ ∀ i, i < ks.length → oc.f i 0 = cellsL cI ks i 0 := by
  rcases o with o | ⟨rfl, _⟩
  · rcases o.2 with ⟨h0, _⟩ | ⟨c, oc, h1, h2, h3, h4, h5, h6, h7, h8⟩
    · omega
    · exact ⟨c, oc, h1, h2, h3, h4, h5, h6, fun i hi => h8 i hi 0 (by decide)⟩
  · exact absurd hn (Nat.lt_irrefl 0)
theorem Kd0.ne {B g : Hp} {k : AV} {ks : List Int} (o : Kd0 B g k ks) {b n : Nat} {ob : Ob} (hb : g b = some ob) (hs : ob.s = 5) : k ≠ .row b 1 0 n := fun e => by
  rcases o with o | ⟨_, h⟩
  · obtain ⟨_, _, ob', h1, h2⟩ := own_some o e
    rw [hb] at h1; cases h1; omega
  · rw [h] at e; cases e
/-- One number is written. -/
theorem kd0_set {B g : Hp} {c : Nat} {oc oc' : Ob} {pre r : List Int} {v w : Int} (hB : Sub B g) (hc0 : B c = none) (h1 : oc'.s = 1) (h2 : oc'.ty = 3) (h3 : oc'.n = (pre ++ v :: r).length) (hf : ∀ i, i < (pre ++ v :: r).length → oc.f i 0 = cellsL cI (pre ++ v :: r) i 0)
    (hg : ∀ i, oc'.f i 0 = if i = pre.length then I w else oc.f i 0) : Kd0 B (upd g c (some oc')) (.row c 1 0 (pre ++ v :: r).length) (pre ++ [w] ++ r) := by
  have hl : (pre ++ [w] ++ r).length = (pre ++ v :: r).length := by simp
  refine .inl ⟨Sub.upd hc0 hB, .inr ⟨c, oc', by rw [hl], hc0, upd_same _ _ _, h1, h2, by rw [hl]; exact h3, by simp; omega, fun i hi j hj => ?_⟩⟩
  obtain rfl : j = 0 := by omega
  rw [hl] at hi
  rw [hg]
  by_cases hp : i = pre.length
  · subst hp
    simp [cellsL, cI]
  · rw [if_neg hp, hf i hi]
    rcases Nat.lt_or_ge i pre.length with h | h
    · simp [cellsL, List.getElem?_append_left h]
    · have : ∃ q, i = pre.length + 1 + q := ⟨i - pre.length - 1, by omega⟩
      obtain ⟨q, rfl⟩ := this
      have e1 : (pre ++ v :: r)[pre.length + 1 + q]? = r[q]? := by
        rw [List.getElem?_append_right (by omega), show pre.length + 1 + q - pre.length = q + 1 by omega]; rfl
      have e2 : (pre ++ [w] ++ r)[pre.length + 1 + q]? = r[q]? := by
        rw [List.append_assoc, List.getElem?_append_right (by omega), show pre.length + 1 + q - pre.length = q + 1 by omega]; rfl
      simp only [cellsL, e1, e2]
/-- A node's kids are cloned; the node lies in a block of its own. -/
theorem clone_call0 {g : Hp} {b : Nat} {ob : Ob} {x : Nd} {K : AV → Hp → Prop} (hl : x.kids.length ≤ 1048576) (p1 : ob.ty = 39) (p2 : ob.s = 5) (p3 : ob.n = 1) (f0 : ob.f 0 0 = I x.op) (f2 : ob.f 0 2 = I x.kd) (f3 : ob.f 0 3 = I x.n) (f4 : ob.f 0 4 = S x.nm)
    (hk : ∀ (ob : Ob) (r : AV) (g1 : Hp), ob.ty = 39 → ob.s = 5 → ob.n = 1 → ob.f 0 0 = I x.op → ob.f 0 2 = I x.kd → ob.f 0 3 = I x.n → ob.f 0 4 = S x.nm → Sub (upd g b (some ob)) g1 → Kd0 (upd g b (some ob)) g1 r x.kids → K r g1) : CallK Tryd.prog (upd g b (some ob)) 61 [encL 1 cI x.kids] K := by
  refine (clone_any x.kids hl _).mono fun r g1 hr => hk ob r g1 p1 p2 p3 f0 f2 f3 f4 ?_ ?_
  · rcases hr with ⟨_, o⟩ | ⟨_, _, rfl⟩
    · exact o.1
    · exact Sub.refl _
  · rcases hr with ⟨_, o⟩ | ⟨h1, h2, _⟩
    · exact .inl o
    · exact .inr ⟨h1, h2⟩
/-- The whole of an expression, as a tree. -/
def rootT (e : List Nd) : Tr := treeAt e (e.length - 1)
def okE (e : List Nd) : Bool := decide (chkE (oneE nameF) e = 0)
/-- What tree.Join answers. -/
def joinF (x : Nd) (l : List (List Nd)) : List Nd := if l.all okE = true ∧ chkE (oneE nameF) (flatT (.mk x (l.map rootT))) = 0 then flatT (.mk x (l.map rootT)) else []
/-- What is known of the nodes of an expression that is written down. -/
theorem root_facts {e : List Nd} (q : chkE (oneE nameF) e = 0) (hn : ∀ x ∈ e, x.nm.size ≤ 1048576) : cutF e (e.length - 1) = flatT (rootT e) ∧ (flatT (rootT e)).length ≤ 100 ∧ 1 ≤ (flatT (rootT e)).length ∧ ∀ y ∈ flatT (rootT e), y.kids.length ≤ 3 ∧ y.nm.size ≤ 1048576 ∧ ∀ i ∈ y.kids, -1 ≤ i ∧ i ≤ 100 := by
  obtain ⟨a1, a2, hv, hk3, hsz⟩ := chk_facts q
  have h1 := hsz (e.length - 1) (by omega)
  have h0 := sizeT_pos (treeAt e (e.length - 1))
  have h2 := flatT_len (treeAt e (e.length - 1))
  have e1 : ((e.length : Int) - 1).toNat = e.length - 1 := by omega
  have h3 := treeAt_all hv (fun x n => n ≤ 3 ∧ x.nm.size ≤ 1048576) (fun i x hx => ⟨hk3 i x hx, hn x (List.mem_of_getElem? hx)⟩) (e.length - 1) (by omega)
  refine ⟨?_, by unfold rootT; omega, by unfold rootT; omega, fun y hy => ?_⟩
  · unfold cutF rootT
    rw [if_pos ⟨q, by omega, by omega⟩, e1]
  · have h4 := flatT_ok _ h3 (fun x n => Iff.rfl) y hy
    exact ⟨h4.own.1, h4.own.2, fun i hi => by have := h4.kids i hi; omega⟩
/-- While kids' numbers are written in place: nothing else turns. -/
structure InnerI (H0 hE g : Hp) (r1 : AV) (cur : List Int) : Prop where
  sub : Sub H0 g
  own : Kd0 H0 g r1 cur
  fr : ∀ d od, hE d = some od → (∀ n, r1 ≠ .row d 1 0 n) → g d = some od
theorem InnerI.set {H0 hE g : Hp} {r1 : AV} {pre r : List Int} {v : Int} (i : InnerI H0 hE g r1 (pre ++ v :: r)) : ∃ c oc, r1 = .row c 1 0 (pre ++ v :: r).length ∧ g c = some oc ∧ oc.s = 1 ∧ oc.ty = 3 ∧ oc.n = (pre ++ v :: r).length ∧ oc.f pre.length 0 = I v ∧
    ∀ (w : Int) (oc' : Ob), oc'.s = 1 → oc'.ty = 3 → oc'.n = oc.n → (∀ i, oc'.f i 0 = if i = pre.length then I w else oc.f i 0) → InnerI H0 hE (upd g c (some oc')) r1 (pre ++ [w] ++ r) := by
  obtain ⟨c, oc, h1, h2, h3, h4, h5, h6, h7⟩ := i.own.row (by simp; omega)
  refine ⟨c, oc, h1, h3, h4, h5, h6, ?_, fun w oc' k1 k2 k3 k4 => ⟨Sub.upd h2 i.sub, ?_, fun d od hd hn => ?_⟩⟩
  · rw [h7 pre.length (by simp)]
    simp [cellsL, cI]
  · rw [h1]
    exact kd0_set i.sub h2 k1 k2 (k3.trans h6) h7 k4
  · rw [upd_ne _ _ (fun e => hn _ (by rw [e]; exact h1))]
    exact i.fr d od hd hn
theorem InnerI.fin {H0 hE g : Hp} {r1 t : AV} {cur ks : List Int} {b n : Nat} {ob : Ob} {q : Nat → Nat → AV} (i : InnerI H0 hE g r1 cur) (hk : Kd0 (upd H0 b (some ob)) hE r1 ks) (hs : ob.s = 5) (o : Own (upd H0 b (some ob)) hE t 39 5 n q) :
    Own (upd H0 b (some ob)) g t 39 5 n q ∧ Kd0 (upd H0 b (some ob)) g r1 cur := by
  have hb : hE b = some ob := o.1 b _ (upd_same _ _ _)
  have hnB : ∀ d od, upd H0 b (some ob) d = some od → ∀ n, r1 ≠ .row d 1 0 n := fun d od hd n e => by
    rcases hk with hk | ⟨_, h⟩
    · have := own_none hk e; rw [hd] at this; cases this
    · rw [h] at e; cases e
  have hS : Sub (upd H0 b (some ob)) g := fun d od hd => i.fr d od (o.1 d od hd) (hnB d od hd)
  refine ⟨⟨hS, ?_⟩, ?_⟩
  · rcases o.2 with h1 | ⟨gb, og, h1, h2, h3, h4⟩
    · exact .inl h1
    · refine .inr ⟨gb, og, h1, h2, i.fr gb og h3 fun m e => ?_, h4⟩
      rcases hk with hk | ⟨_, h⟩
      · obtain ⟨rfl, _⟩ := own_some hk e
        exact own_apartT hk o (by decide) gb e h1
      · rw [h] at e; cases e
  · rcases i.own with h | h
    · refine .inl ⟨hS, ?_⟩
      rcases h.2 with h1 | ⟨gb, og, h1, h2, h3⟩
      · exact .inl h1
      · refine .inr ⟨gb, og, h1, ?_, h3⟩
        rw [upd_ne _ _ (fun e => hnB b ob (upd_same _ _ _) _ (by rw [← e]; exact h1))]
        exact h2
    · exact .inr h
set_option maxHeartbeats 8000000 in
theorem trjoin_ok (x : Nd) (l : List (List Nd)) (hl : l.length ≤ 1048576) (hn : x.nm.size ≤ 1048576) (hln : ∀ k ∈ l, k.length ≤ 1048576 ∧ ∀ y ∈ k, y.nm.size ≤ 1048576) : Pure Tryd.prog 22 [aggL (cNd x), encL 1 cE l] (encL 5 cNd (joinF x l)) := by
  obtain ⟨R, hR⟩ : ∃ R, flatL (l.map rootT) [] [] = R := ⟨_, rfl⟩
  have hF : flatT (.mk x (l.map rootT)) = R.1 ++ [{ x with kids := R.2 }] := by rw [flatT, hR]
  unfold joinF
  rw [hF]
  generalize hZ : (if l.all okE = true ∧ chkE (oneE nameF) (R.1 ++ [{ x with kids := R.2 }]) = 0 then R.1 ++ [{ x with kids := R.2 }] else []) = Z
  intro h; refine callK_body Tryd.func22 rfl (by rw [nt22]; simp) ?_; rw [nt22, rs22]
  (repeat' (first | simp [go_sem, X_region, *] | simp (disch := omega) only [om, *] | ((first | refine XC_split ?_ ?_ | refine XG_true ?_ ?_ | refine XG_false ?_ ?_ | refine XRg_true ?_ ?_ | refine XRg_false ?_ ?_) <;> intro hc <;> (try simp only [bl] at hc) <;> (try (exfalso; omega))) | refine XD_w [] [] [] (fun _ => none) mixed (by decide +kernel) (sub_none _) ?_ | fail))
  intro b2 hb2
  refine X_lpF (fun i => (4 ≤ i ∧ i ≤ 5) ∨ (7 ≤ i ∧ i ≤ 8) ∨ (10 ≤ i ∧ i ≤ 11) ∨ (15 ≤ i ∧ i ≤ 63)) (fun n T g => ∃ (i : Nat) (r : List (List Nd)) (out : List Nd) (kids : List Int) (ob : Ob) (ka : AV), n = r.length ∧ i ≤ l.length ∧ l.drop i = r ∧ l.all okE = r.all okE ∧ flatL (r.map rootT) out kids = R ∧ T 15 = I i ∧ kids.length = i ∧ out.length ≤ 100 * i ∧ (∀ y ∈ out, y.nm.size ≤ 1048576) ∧
      Own (upd h b2 (some ob)) g (T 5) 39 5 out.length (cellsL cNd out) ∧ Own (upd h b2 (some ob)) g ka 3 1 kids.length (cellsL cI kids) ∧ ob.ty = 39 ∧ ob.s = 5 ∧ ob.n = 1 ∧ ob.f 0 0 = I x.op ∧ ob.f 0 1 = ka ∧ ob.f 0 2 = I x.kd ∧ ob.f 0 3 = I x.n ∧ ob.f 0 4 = S x.nm) l.length
    ⟨0, l, [], [], _, .v (.slice none 0 0), rfl, by omega, rfl, rfl, hR, by simp [go_sem], rfl, by simp, (fun y hy => by cases hy), by simpa [go_sem] using Own.none, Own.none, rfl, rfl, rfl, by simp [go_sem], by simp, by simp [go_sem], by simp [go_sem], by simp [go_sem]⟩ ?_
  clear hR hF
  rintro J hJ n T g hfr ⟨i, r, out, kids, ob, ka, rfl, hi, hd, hall, hR, t15, hkk, hbd, hon, own5, ownK, p1, p2, p3, f0, f1, f2, f3, f4⟩
  have e2 : g b2 = some ob := own5.1 b2 _ (upd_same _ _ _)
  rw [hall] at hZ
  rcases r with _ | ⟨y, r⟩
  · have hlt := drop_nil hd
    rw [List.map_nil, flatL] at hR
    subst hR
    dsimp only at *
    simp only [List.all_nil, true_and] at hZ
    have hck := tcheck_ok (out ++ [{ x with kids := kids }]) fun y hy => by
      rcases List.mem_append.1 hy with hy | hy
      · have := hon y hy; omega
      · rw [List.mem_singleton.1 hy]; show x.nm.size ≤ _; omega
    (repeat' (first | simp [go_sem, X_region, *] | simp (disch := omega) only [om, *] | ((first | refine XC_split ?_ ?_ | refine XG_true ?_ ?_ | refine XG_false ?_ ?_ | refine XRg_true ?_ ?_ | refine XRg_false ?_ ?_) <;> intro hc <;> (try simp only [bl] at hc) <;> (try (exfalso; omega))) | refine XD_w [] [] [] (fun _ => none) mixed (by decide +kernel) (sub_none _) ?_ | fail))
    intro bl hbl
    refine X_pushK (x := { x with kids := kids }) own5 (.inl ownK) (by simp [go_sem]) und42 zr39 by39 (by simp [go_sem]) hbl (by simp [go_sem]) rfl (Nat.le_refl _) (by simp) (by simp) (by simp) (by simp) (by simp) (by omega) (by omega) (show kids.length ≤ 140737488355328 by omega) fun a1 h1 h2 w1 w2 w3 => ?_
    have hfz := (w2 _).trans (w3.frozen (by simp; omega))
    have hnil : Wk h1 (.v (.slice none 0 0)) h (encL 5 cNd []) := (w2 _).trans ((Wk.nil).trans (Wk.drop _ (Sub.trans (Sub.upd hb2 (Sub.refl _)) w3.1)))
    have hck1 : PureAt Tryd.prog h1 41 [a1] (I _) := Pure.lend hck (.cons (lend_wk hfz) .nil) (Flat.v _)
    have hfz2 := hfz.trans (Wk.drop _ (Sub.upd hb2 (Sub.refl _)))
    clear hck hfz w1 w2 w3
    generalize out ++ [{ x with kids := kids }] = F at *
    generalize chkE (oneE nameF) F = c at *
    by_cases hc : c = 0
    · subst hc
      rw [if_pos rfl] at hZ
      subst hZ
      (repeat' (first | simp [go_sem, X_region, *] | simp (disch := omega) only [om, *] | ((first | refine XC_split ?_ ?_ | refine XG_true ?_ ?_ | refine XG_false ?_ ?_ | refine XRg_true ?_ ?_ | refine XRg_false ?_ ?_) <;> intro hc <;> (try simp only [bl] at hc) <;> (try (exfalso; omega))) | refine XD_w [] [] [] (fun _ => none) mixed (by decide +kernel) (sub_none _) ?_ | refine Pure.call (hck1) ?_ | refine ⟨_, Pure.at (hck1), ?_⟩ | refine ⟨_, hck1, ?_⟩ | refine PureAt.call (hck1) ?_ | fail))
      all_goals exact hfz2
    · rw [if_neg hc] at hZ
      subst hZ
      (repeat' (first | simp [go_sem, X_region, *] | simp (disch := omega) only [om, *] | ((first | refine XC_split ?_ ?_ | refine XG_true ?_ ?_ | refine XG_false ?_ ?_ | refine XRg_true ?_ ?_ | refine XRg_false ?_ ?_) <;> intro hc <;> (try simp only [bl] at hc) <;> (try (exfalso; omega))) | refine XD_w [] [] [] (fun _ => none) mixed (by decide +kernel) (sub_none _) ?_ | refine Pure.call (hck1) ?_ | refine ⟨_, Pure.at (hck1), ?_⟩ | refine ⟨_, hck1, ?_⟩ | refine PureAt.call (hck1) ?_ | fail))
      all_goals exact hnil
  · obtain ⟨hlt, hx, hd2⟩ := drop_cons hd
    obtain ⟨hln1, hln2⟩ := hln y (by rw [← hx]; exact List.getElem_mem hlt)
    have hcy := tcheck_ok y fun z hz => by have := hln2 z hz; omega
    have hny := norm_ok y (fun z hz => by have := hln2 z hz; omega) (by omega)
    have hE : cE y = [encL 5 cNd y] := rfl
    by_cases hq : chkE (oneE nameF) y = 0
    case neg =>
      rw [if_neg (fun h => by rw [List.all_cons, Bool.and_eq_true] at h; exact hq (of_decide_eq_true h.1.1))] at hZ
      subst hZ
      generalize chkE (oneE nameF) y = c at *
      (repeat' (first | simp [go_sem, X_region, *] | simp (disch := omega) only [om, *] | ((first | refine XC_split ?_ ?_ | refine XG_true ?_ ?_ | refine XG_false ?_ ?_ | refine XRg_true ?_ ?_ | refine XRg_false ?_ ?_) <;> intro hc <;> (try simp only [bl] at hc) <;> (try (exfalso; omega))) | refine XD_w [] [] [] (fun _ => none) mixed (by decide +kernel) (sub_none _) ?_ | refine Pure.call (hcy) ?_ | refine ⟨_, Pure.at (hcy), ?_⟩ | refine ⟨_, hcy, ?_⟩ | refine PureAt.call (hcy) ?_ | fail))
      all_goals exact (Wk.nil).trans (Wk.drop _ (Sub.trans (Sub.upd hb2 (Sub.refl _)) own5.1))
    obtain ⟨rf1, rf2, rf3, rf4⟩ := root_facts hq hln2
    have hokE : okE y = true := decide_eq_true hq
    rw [List.all_cons, hokE, Bool.true_and] at hall
    rw [List.all_cons, hokE, Bool.true_and] at hZ
    rw [hq] at hcy
    rw [rf1] at hny
    rw [List.map_cons, flatL] at hR
    generalize flatT (rootT y) = Y at *
    have hlen := len_own own5
    simp only [go_sem] at hlen
    (repeat' (first | simp [go_sem, X_region, *] | simp (disch := omega) only [om, *] | ((first | refine XC_split ?_ ?_ | refine XG_true ?_ ?_ | refine XG_false ?_ ?_ | refine XRg_true ?_ ?_ | refine XRg_false ?_ ?_) <;> intro hc <;> (try simp only [bl] at hc) <;> (try (exfalso; omega))) | refine XD_w [] [] [] (fun _ => none) mixed (by decide +kernel) (sub_none _) ?_ | refine Pure.call (hcy) ?_ | refine ⟨_, Pure.at (hcy), ?_⟩ | refine ⟨_, hcy, ?_⟩ | refine PureAt.call (hcy) ?_ | refine Pure.call (hny) ?_ | refine ⟨_, Pure.at (hny), ?_⟩ | refine ⟨_, hny, ?_⟩ | refine PureAt.call (hny) ?_ | fail))
    obtain ⟨OUT, hOUT⟩ : ∃ OUT, out ++ Y.map (shN out.length) = OUT := ⟨_, rfl⟩
    rw [hOUT] at hR
    have hOl : OUT.length = out.length + Y.length := by rw [← hOUT]; simp
    have hon2 : ∀ y ∈ OUT, y.nm.size ≤ 1048576 := fun y hy => by
      rw [← hOUT] at hy
      rcases List.mem_append.1 hy with hy | hy
      · exact hon y hy
      · obtain ⟨y', hy', rfl⟩ := List.mem_map.1 hy
        exact (rf4 y' hy').2.1
    refine X_lpFW (fun i => i = 5 ∨ (10 ≤ i ∧ i ≤ 11) ∨ (27 ≤ i ∧ i ≤ 54)) (fun n T g => ∃ (j : Nat) (r2 acc : List Nd), n = r2.length ∧ j ≤ Y.length ∧ Y.drop j = r2 ∧ acc ++ r2.map (shN out.length) = OUT ∧ T 27 = I j ∧ acc.length = out.length + j ∧
      Own (upd h b2 (some ob)) g (T 5) 39 5 acc.length (cellsL cNd acc) ∧ Own (upd h b2 (some ob)) g ka 3 1 kids.length (cellsL cI kids)) Y.length
      ⟨0, Y, out, rfl, by omega, rfl, hOUT, by simp [go_sem], rfl, by simpa [go_sem] using own5, ownK⟩ ?_
    clear hOUT own5 ownK e2 hlen hcy hny rf1
    rintro J2 hJ2 n2 T2 g2 hfr2 ⟨j, r2, acc, rfl, hj, hdj, hacc, t27, hal, own5, ownK⟩
    have e2 : g2 b2 = some ob := own5.1 b2 _ (upd_same _ _ _)
    rcases r2 with _ | ⟨z, r2⟩
    · have hltj := drop_nil hdj
      obtain rfl : acc = OUT := by simpa using hacc
      clear hacc
      have hlen := len_own own5
      simp only [go_sem] at hlen
      have hol3 : out.length + Y.length = acc.length := by omega
      clear hOl hal
      (repeat' (first | simp [go_sem, X_region, *] | simp (disch := omega) only [om, *] | ((first | refine XC_split ?_ ?_ | refine XG_true ?_ ?_ | refine XG_false ?_ ?_ | refine XRg_true ?_ ?_ | refine XRg_false ?_ ?_) <;> intro hc <;> (try simp only [bl] at hc) <;> (try (exfalso; omega))) | refine XD_w [] [] [] (fun _ => none) mixed (by decide +kernel) (sub_none _) ?_ | fail))
      intro bl hbl
      obtain ⟨HK, oHK, sHK, kHK⟩ := own_hole ownK
      refine Own.push (x := (acc.length : Int) - 1) (enc := cI) oHK (by simp [go_sem]) und37 zr3 by3 (by simp [go_sem]) hbl (by simp [go_sem]) rfl (Nat.le_refl _) (by simp [go_sem]) (by omega) (by omega) fun a1 h1 hown1 hk1 => ?_
      have own52 := own_keep sHK kHK hown1.1 own5 (own_apartT ownK own5 (by decide))
      have ownK2 := own_up sHK hown1
      rw [List.length_append, List.length_singleton, hkk] at ownK2
      obtain ⟨dk, rfl⟩ := own_row ownK2 (by omega)
      have e42 : h1 b2 = some ob := own52.1 b2 _ (upd_same _ _ _)
      (repeat' (first | simp [go_sem, X_region, *] | simp (disch := omega) only [om, *] | ((first | refine XC_split ?_ ?_ | refine XG_true ?_ ?_ | refine XG_false ?_ ?_ | refine XRg_true ?_ ?_ | refine XRg_false ?_ ?_) <;> intro hc <;> (try simp only [bl] at hc) <;> (try (exfalso; omega))) | refine XD_w [] [] [] (fun _ => none) mixed (by decide +kernel) (sub_none _) ?_ | fail))
      have w5 := own_other (o2 := ⟨39, 5, 1, fun i' j' => if i' = 0 ∧ 1 ≤ j' ∧ j' < 2 then .row dk 1 0 (i + 1) else ob.f i' j'⟩) own52 (upd_same _ _ _)
      have wK := own_other (o2 := ⟨39, 5, 1, fun i' j' => if i' = 0 ∧ 1 ≤ j' ∧ j' < 2 then .row dk 1 0 (i + 1) else ob.f i' j'⟩) ownK2 (upd_same _ _ _)
      rw [upd_upd] at w5 wK
      exact ⟨_, Nat.lt_succ_self _, hJ.out _ _ _ ⟨(by (repeat (refine fr_upd (by decide) ?_)); exact fr_in (by intro i; omega) hfr2 (by (repeat (refine fr_upd (by decide) ?_)); exact hfr)), i + 1, r, acc, kids ++ [(acc.length : Int) - 1], _, .row dk 1 0 (i + 1), rfl, by omega, hd2, hall, hR, by simp [go_sem], by simp [hkk], by omega, hon2, by simpa [go_sem] using w5, by rw [List.length_append, List.length_singleton, hkk]; exact wK, rfl, rfl, rfl, by simp [f0], by simp, by simp [f2], by simp [f3], by simp [f4]⟩⟩
    · obtain ⟨hltj, hxj, hdj2⟩ := drop_cons hdj
      obtain ⟨hz1, hzn, hz2⟩ := rf4 z (by rw [← hxj]; exact List.getElem_mem hltj)
      obtain ⟨H0, oH, sH, kH⟩ := own_hole own5
      (repeat' (first | simp [go_sem, X_region, *] | simp (disch := omega) only [om, *] | ((first | refine XC_split ?_ ?_ | refine XG_true ?_ ?_ | refine XG_false ?_ ?_ | refine XRg_true ?_ ?_ | refine XRg_false ?_ ?_) <;> intro hc <;> (try simp only [bl] at hc) <;> (try (exfalso; omega))) | refine XD_w [] [] [] (fun _ => none) mixed (by decide +kernel) (sub_none _) ?_ | fail))
      intro b10 hb10
      have n210 := ne_free hb10 e2
      (repeat' (first | simp [go_sem, X_region, *] | simp (disch := omega) only [om, *] | ((first | refine XC_split ?_ ?_ | refine XG_true ?_ ?_ | refine XG_false ?_ ?_ | refine XRg_true ?_ ?_ | refine XRg_false ?_ ?_) <;> intro hc <;> (try simp only [bl] at hc) <;> (try (exfalso; omega))) | refine XD_w [] [] [] (fun _ => none) mixed (by decide +kernel) (sub_none _) ?_ | fail))
      refine clone_call0 (x := z) (by omega) rfl rfl rfl (by simp) (by simp) (by simp) (by simp) fun ob1 r1 g1 v1 v2 v3 z0 z2 z3 z4 hs hr => ?_
      have e11 : g1 b10 = some ob1 := hs b10 _ (upd_same _ _ _)
      have h010 : H0 b10 = none := sub_none_of oH.1 hb10
      have o5 := own_grow (own_with (oc := ob1) oH hb10) hs
      have oM := hr.up (own_with (oc := ob1) oH hb10).1
      have hne10 : ∀ n, r1 ≠ .row b10 1 0 n := fun n => hr.ne e11 v2
      have hcM := hr.cells
      have hlenM := hr.len
      simp only [go_sem] at hlenM
      (repeat' (first | simp [go_sem, X_region, *] | simp (disch := omega) only [om, *] | ((first | refine XC_split ?_ ?_ | refine XG_true ?_ ?_ | refine XG_false ?_ ?_ | refine XRg_true ?_ ?_ | refine XRg_false ?_ ?_) <;> intro hc <;> (try simp only [bl] at hc) <;> (try (exfalso; omega))) | refine XD_w [] [] [] (fun _ => none) mixed (by decide +kernel) (sub_none _) ?_ | fail))
      refine X_lpH (fun i => i = 11 ∨ (38 ≤ i ∧ i ≤ 49)) (fun hE n T g => ∃ (k : Nat) (r3 pre : List Int), n = r3.length ∧ k ≤ z.kids.length ∧ z.kids.drop k = r3 ∧ pre ++ r3.map (· + (out.length : Int)) = z.kids.map (· + (out.length : Int)) ∧ T 38 = I k ∧ pre.length = k ∧ InnerI H0 hE g r1 (pre ++ r3)) z.kids.length
        ⟨0, z.kids, [], rfl, by omega, rfl, by simp, by simp [go_sem], rfl, (by have := oM.other (o2 := ⟨39, 5, 1, fun i' j' => if i' = 0 ∧ 1 ≤ j' ∧ j' < 2 then r1 else ob1.f i' j'⟩) (upd_same _ _ _); rw [upd_upd] at this; exact ⟨fun d od hd => by rw [upd_ne _ _ (fun e => by rw [e, h010] at hd; cases hd)]; exact hs d od (by rw [upd_ne _ _ (fun e => by rw [e, h010] at hd; cases hd)]; exact oH.1 d od hd), this.up (Sub.upd h010 (Sub.refl _)), fun d od hd _ => hd⟩)⟩ ?_
      rintro hE hEq J3 hJ3 n3 T3 g3 hfr3 ⟨k, r3, pre, rfl, hk3, hdk3, hpre, t38, hpl, inn⟩
      obtain ⟨ob10, hob, q1, q2, q3, u0, u1, u2, u3, u4⟩ : ∃ ob10 : Ob, hE = upd g1 b10 (some ob10) ∧ ob10.ty = 39 ∧ ob10.s = 5 ∧ ob10.n = 1 ∧ ob10.f 0 0 = I z.op ∧ ob10.f 0 1 = r1 ∧ ob10.f 0 2 = I z.kd ∧ ob10.f 0 3 = I z.n ∧ ob10.f 0 4 = S z.nm := ⟨_, hEq.symm, rfl, rfl, rfl, by simp [*], by simp [*], by simp [*], by simp [*], by simp [*]⟩
      clear hEq
      subst hob
      have e10 : g3 b10 = some ob10 := inn.fr b10 ob10 (upd_same _ _ _) hne10
      rcases r3 with _ | ⟨v, r3⟩
      case cons =>
        obtain ⟨hltk, hxk, hdk4⟩ := drop_cons hdk3
        have hv := hz2 v (by rw [← hxk]; exact List.getElem_mem hltk)
        obtain ⟨c, oc, hrow, hc, c1, c2, c3, c4, hset⟩ := inn.set
        rw [hpl] at c4
        have hlen3 : (pre ++ v :: r3).length = z.kids.length := by
          have := congrArg List.length hdk3
          simp at this
          simp; omega
        rw [hlen3] at hrow c3
        rw [hrow] at u1
        (repeat' (first | simp [go_sem, X_region, *] | simp (disch := omega) only [om, *] | ((first | refine XC_split ?_ ?_ | refine XG_true ?_ ?_ | refine XG_false ?_ ?_ | refine XRg_true ?_ ?_ | refine XRg_false ?_ ?_) <;> intro hc <;> (try simp only [bl] at hc) <;> (try (exfalso; omega))) | refine XD_w [] [] [] (fun _ => none) mixed (by decide +kernel) (sub_none _) ?_ | fail))
        refine ⟨_, Nat.lt_succ_self _, hJ3.out _ _ _ ⟨?_, k + 1, r3, pre ++ [v + (out.length : Int)], rfl, by omega, hdk4, by rw [← hpre]; simp, by simp [go_sem], by simp [hpl], hset _ _ rfl rfl c3.symm fun i => by simp [hpl]⟩⟩
        repeat (refine fr_upd (by decide) ?_)
        exact hfr3
      have hltk := drop_nil hdk3
      have hpre2 : pre = z.kids.map (· + (out.length : Int)) := by simpa using hpre
      rw [List.append_nil] at inn
      have w5 := own_other (o2 := ob10) o5 (upd_same _ _ _)
      have wM := oM.other (o2 := ob10) (upd_same _ _ _)
      rw [upd_upd] at w5 wM
      obtain ⟨x5, xM⟩ := inn.fin wM q2 w5
      rw [hpre2] at xM
      (repeat' (first | simp [go_sem, X_region, *] | simp (disch := omega) only [om, *] | ((first | refine XC_split ?_ ?_ | refine XG_true ?_ ?_ | refine XG_false ?_ ?_ | refine XRg_true ?_ ?_ | refine XRg_false ?_ ?_) <;> intro hc <;> (try simp only [bl] at hc) <;> (try (exfalso; omega))) | refine XD_w [] [] [] (fun _ => none) mixed (by decide +kernel) (sub_none _) ?_ | fail))
      intro bl hbl
      refine X_pushK (x := shN out.length z) x5 xM.kds (by simp [go_sem]) und42 zr39 by39 (by simp [go_sem]) hbl (by simp [go_sem]) rfl (Nat.le_refl _) (by simp [shN]) (by simp) (by simp [shN]) (by simp [shN]) (by simp [shN]) (by omega) (by omega) (by simp [shN]; omega) fun a1 h1 h2 w1 w2 w3 => ?_
      have s9 : Sub H0 (upd H0 b10 (some ob10)) := Sub.upd h010 (Sub.refl _)
      have y5 := own_up (sH.trans s9) w3
      have yK := own_keep sH kH (s9.trans w3.1) ownK (own_apartT own5 ownK (by decide))
      (repeat' (first | simp [go_sem, X_region, *] | simp (disch := omega) only [om, *] | ((first | refine XC_split ?_ ?_ | refine XG_true ?_ ?_ | refine XG_false ?_ ?_ | refine XRg_true ?_ ?_ | refine XRg_false ?_ ?_) <;> intro hc <;> (try simp only [bl] at hc) <;> (try (exfalso; omega))) | refine XD_w [] [] [] (fun _ => none) mixed (by decide +kernel) (sub_none _) ?_ | fail))
      refine ⟨_, Nat.lt_succ_self _, hJ2 _ _ _ h2 (w1 _ _) ?_ ⟨j + 1, r2, acc ++ [shN out.length z], rfl, by omega, hdj2, by rw [← hacc]; simp, by simp [go_sem], by simp; omega, by simpa [go_sem] using y5, yK⟩⟩
      repeat (refine fr_upd (by decide) ?_)
      refine fr_in (by intro i; omega) hfr3 ?_
      repeat (refine fr_upd (by decide) ?_)
      exact hfr2
end Go.Proofs.YtmalhikcdideoaaDoor

set_option linter.unusedVariables false
set_option linter.unusedSimpArgs false
namespace Go.Proofs.YtmalhikcdideoaaDoor
open Go Sl
attribute [local irreducible] XRange LpQ XR XRo XRg XRQ putQ XFv XL XW2 wQ putW X XO XOp XH XHo XW SeqQ BlkQ XOQ XHQ NrmQ XC XM XG XHM XHG XD CallK
open Go.RowKit
/-- The tree below a node, another one in the place of node q. -/
def placeF (e : List Nd) (q : Int) (t : Tr) : Nat → Nat → Tr
  | 0, p => if (p : Int) = q then t else .mk (bare (ndAt e p)) []
  | f + 1, p => if (p : Int) = q then t else .mk (bare (ndAt e p)) ((ndAt e p).kids.map fun k => placeF e q t f k.toNat)
theorem placeF_fuel {e : List Nd} (h : Vd e) (q : Int) (t : Tr) : ∀ (f f' p : Nat), p < f → p < f' → placeF e q t f p = placeF e q t f' p
  | 0, _, _, h1, _ => absurd h1 (Nat.not_lt_zero _)
  | _, 0, _, _, h2 => absurd h2 (Nat.not_lt_zero _)
  | f + 1, f' + 1, p, h1, h2 => by
    unfold placeF
    congr 2
    refine List.map_congr_left fun k hk => ?_
    have := h.at p k hk
    exact placeF_fuel h q t f f' k.toNat (by omega) (by omega)
def placeAt (e : List Nd) (q : Int) (t : Tr) (p : Nat) : Tr := placeF e q t (p + 1) p
theorem placeAt_eq {e : List Nd} (h : Vd e) (q : Int) (t : Tr) (p : Nat) : placeAt e q t p = if (p : Int) = q then t else .mk (bare (ndAt e p)) ((ndAt e p).kids.map fun k => placeAt e q t k.toNat) := by
  unfold placeAt
  rw [placeF]
  congr 2
  refine List.map_congr_left fun k hk => ?_
  have := h.at p k hk
  exact placeF_fuel h q t _ _ _ (by omega) (by omega)
theorem placeAt_size {e : List Nd} (hv : Vd e) (q : Int) (t : Tr) (p : Nat) (hp : p < e.length) : sizeT (placeAt e q t p) ≤ sizeT (treeAt e p) * sizeT t := by
  have ht := sizeT_pos t
  induction p using Nat.strongRecOn with
  | ind p ih =>
    have h0 := sizeT_pos (treeAt e p)
    rw [placeAt_eq hv]
    split
    · have h1 := Int.mul_le_mul_of_nonneg_right h0 (show 0 ≤ sizeT t by omega)
      rw [Int.one_mul] at h1
      exact h1
    · rw [treeAt_eq hv, sizeT, sizeT]
      have hk := hv.at p
      generalize (ndAt e p).kids = ks at *
      have : ∀ ks : List Int, (∀ k ∈ ks, 0 ≤ k ∧ k < (p : Int)) → sizeL (ks.map fun k => placeAt e q t k.toNat) ≤ sizeL (ks.map fun k => treeAt e k.toNat) * sizeT t := by
        intro ks
        induction ks with
        | nil => intro _; simp [sizeL]
        | cons k r ihr =>
          intro hk
          rw [List.map_cons, List.map_cons, sizeL, sizeL, Int.add_mul]
          have h1 := hk k (List.mem_cons_self ..)
          have h2 := ih k.toNat (by omega) (by omega)
          have h3 := ihr fun j hj => hk j (List.mem_cons_of_mem _ hj)
          omega
      have h4 := this ks hk
      rw [Int.add_mul]
      omega
theorem placeAt_all {e : List Nd} (hv : Vd e) (q : Int) (t : Tr) (Q : Nd → Nat → Prop) (hQ : ∀ (i : Nat) (x : Nd), e[i]? = some x → Q (bare x) x.kids.length) (ht : AllT Q t) (p : Nat) (hp : p < e.length) : AllT Q (placeAt e q t p) := by
  induction p using Nat.strongRecOn with
  | ind p ih =>
    obtain ⟨x, hxe⟩ : ∃ x, e[p] = x := ⟨_, rfl⟩
    have hx : e[p]? = some x := by rw [List.getElem?_eq_getElem hp, hxe]
    have hnd : ndAt e p = x := by unfold ndAt; rw [List.getD_eq_getElem?_getD, hx]; rfl
    rw [placeAt_eq hv]
    split
    · exact ht
    · rw [AllT, hnd, List.length_map]
      refine ⟨hQ p x hx, AllL_of _ fun u hu => ?_⟩
      obtain ⟨k, hk, rfl⟩ := List.mem_map.1 hu
      have := hv.out p x hx k hk
      exact ih k.toNat (by omega) (by omega)
/-- What is not yet taken over: the nodes' block, the kids so far, the slices of the later nodes' kids. -/
structure Rest (W B' : Hp) (d : Nat) (od : Ob) (k0 : AV) (ks : List Int) (Y : List Nd) (Kr : Nat → AV) (j : Nat) : Prop where
  sub : Sub W B'
  blk : B' d = some od
  kds : Own W B' k0 3 1 ks.length (cellsL cI ks)
  rows : ∀ i, j ≤ i → i < Y.length → Own W B' (Kr i) 3 1 (ndAt Y i).kids.length (cellsL cI (ndAt Y i).kids)
theorem Rest.step {W B' : Hp} {d : Nat} {od : Ob} {k0 : AV} {ks : List Int} {Y : List Nd} {Kr : Nat → AV} {j : Nat} (R : Rest W B' d od k0 ks Y Kr j) (hj : j < Y.length) (hod : od.s = 5) (hap : ∀ i i', i < Y.length → i' < Y.length → i ≠ i' → ApA (Kr i) (Kr i')) (hk0 : ∀ i, i < Y.length → ApA k0 (Kr i)) :
    ∃ H, Own H B' (Kr j) 3 1 (ndAt Y j).kids.length (cellsL cI (ndAt Y j).kids) ∧ Rest W H d od k0 ks Y Kr (j + 1) := by
  obtain ⟨H, oH, sH, kH⟩ := own_hole (R.rows j (Nat.le_refl _) hj)
  refine ⟨H, oH, sH, kH d od R.blk fun e => ?_, own_keep sH kH (Sub.refl _) R.kds fun c h1 h2 => hk0 j hj c _ _ h2 h1, fun i hi hil => own_keep sH kH (Sub.refl _) (R.rows i (by omega) hil) fun c h1 h2 => hap j i hj hil (by omega) c _ _ h1 h2⟩
  obtain ⟨_, _, ob', h1, h2⟩ := own_some oH e
  rw [R.blk] at h1
  cases h1
  omega
theorem InnerI.finD {H0 hE g : Hp} {r1 t : AV} {cur ks : List Int} {b : Nat} {ob : Ob} {l : List Nd} {Ka : Nat → AV} (i : InnerI H0 hE g r1 cur) (hk : Own (upd H0 b (some ob)) hE r1 3 1 ks.length (cellsL cI ks)) (hs : ob.s = 5) (o : Deep (upd H0 b (some ob)) hE t l Ka) (hap : ∀ i, i < l.length → ApA r1 (Ka i)) :
    Deep (upd H0 b (some ob)) g t l Ka ∧ Own (upd H0 b (some ob)) g r1 3 1 cur.length (cellsL cI cur) := by
  obtain ⟨h1, h2⟩ := i.fin (.inl hk) hs o.nds
  refine ⟨⟨h1, fun j hj => ⟨h1.1, ?_⟩, o.apart⟩, ?_⟩
  · rcases (o.rows j hj).2 with h3 | ⟨gb, og, h3, h4, h5, h6⟩
    · exact .inl h3
    · exact .inr ⟨gb, og, h3, h4, i.fr gb og h5 fun m e => hap j hj gb _ _ e h3, h6⟩
  · rcases h2 with h2 | ⟨_, h2⟩
    · exact h2
    · rcases hk.2 with ⟨_, h3 | h3⟩ | ⟨_, _, h3, _⟩
      · rw [h2] at h3; cases h3
      · rw [h2] at h3; cases h3
      · rw [h2] at h3; cases h3
set_option maxHeartbeats 8000000 in
theorem put_ok (e : List Nd) (hv : Vd e) (w : List Nd) (q : Int) (t : Tr) (hk3 : ∀ (i : Nat) (x : Nd), e[i]? = some x → x.kids.length ≤ 3) (hnorm : ∀ h, CallK Tryd.prog h 27 [encL 5 cNd w] fun r h' => ∃ Ks, Deep h h' r (flatT t) Ks)
    (hbs : ∀ p, p < e.length → sizeT (placeAt e q t p) ≤ 1000000) (hbk : ∀ p, p < e.length → ∀ y ∈ flatT (placeAt e q t p), y.kids.length ≤ 1000 ∧ ∀ i ∈ y.kids, -1 ≤ i ∧ i ≤ 1000000) (p : Nat) (hp : p < e.length) :
    ∀ h : Hp, CallK Tryd.prog h 65 [encL 5 cNd e, I p, I q, encL 5 cNd w] fun r h' => ∃ Ks, Deep h h' r (flatT (placeAt e q t p)) Ks := by
  induction p using Nat.strongRecOn with
  | ind p ih =>
    intro h
    obtain ⟨x, hxe⟩ : ∃ x, e[p] = x := ⟨_, rfl⟩
    have hx : e[p]? = some x := by rw [List.getElem?_eq_getElem hp, hxe]
    have hnd : ndAt e p = x := by unfold ndAt; rw [List.getD_eq_getElem?_getD, hx]; rfl
    have hkx := hv.out p x hx
    have hk3' := hk3 p x hx
    have hsz := hbs p hp
    by_cases hpq : (p : Int) = q
    · have he : placeAt e q t p = t := by rw [placeAt_eq hv, if_pos hpq]
      rw [he]
      have hn := hnorm h
      clear ih hbs hbk hsz he
      generalize flatT t = F at *
      refine callK_body Tryd.func65 rfl (by rw [nt65]; simp) ?_; rw [nt65, rs65]
      (repeat' (first | simp [go_sem, X_region, *] | simp (disch := omega) only [om, *] | ((first | refine XC_split ?_ ?_ | refine XG_true ?_ ?_ | refine XG_false ?_ ?_ | refine XRg_true ?_ ?_ | refine XRg_false ?_ ?_) <;> intro hc <;> (try simp only [bl] at hc) <;> (try (exfalso; omega))) | refine XD_w [] [] [] (fun _ => none) mixed (by decide +kernel) (sub_none _) ?_ | fail))
      refine hn.mono fun r g o => ?_
      (repeat' (first | simp [go_sem, X_region, *] | simp (disch := omega) only [om, *] | ((first | refine XC_split ?_ ?_ | refine XG_true ?_ ?_ | refine XG_false ?_ ?_ | refine XRg_true ?_ ?_ | refine XRg_false ?_ ?_) <;> intro hc <;> (try simp only [bl] at hc) <;> (try (exfalso; omega))) | refine XD_w [] [] [] (fun _ => none) mixed (by decide +kernel) (sub_none _) ?_ | fail))
      exact ⟨_, _, Wk.refl _ _, o⟩
    have ihk : ∀ k ∈ x.kids, ∀ h : Hp, CallK Tryd.prog h 65 [encL 5 cNd e, I k, I q, encL 5 cNd w] fun r h' => ∃ Ks, Deep h h' r (flatT (placeAt e q t k.toNat)) Ks := fun k hk => by
      have h1 := hkx k hk
      obtain ⟨m, rfl⟩ : ∃ m : Nat, k = m := ⟨k.toNat, by omega⟩
      rw [Int.toNat_natCast]
      exact ih m (by omega) (by omega)
    have hky : ∀ k ∈ x.kids, ∀ y ∈ flatT (placeAt e q t k.toNat), y.kids.length ≤ 1000 ∧ ∀ i ∈ y.kids, -1 ≤ i ∧ i ≤ 1000000 := fun k hk => by
      have h1 := hkx k hk
      exact hbk k.toNat (by omega)
    clear ih hbs hbk
    rw [placeAt_eq hv, if_neg hpq, hnd] at hsz ⊢
    rw [sizeT] at hsz
    rw [flatT]
    obtain ⟨R, hR⟩ : ∃ R, flatL (x.kids.map fun k => placeAt e q t k.toNat) [] [] = R := ⟨_, rfl⟩
    rw [hR]
    refine callK_body Tryd.func65 rfl (by rw [nt65]; simp) ?_; rw [nt65, rs65]
    (repeat' (first | simp [go_sem, X_region, *] | simp (disch := omega) only [om, *] | ((first | refine XC_split ?_ ?_ | refine XG_true ?_ ?_ | refine XG_false ?_ ?_ | refine XRg_true ?_ ?_ | refine XRg_false ?_ ?_) <;> intro hc <;> (try simp only [bl] at hc) <;> (try (exfalso; omega))) | refine XD_w [] [] [] (fun _ => none) mixed (by decide +kernel) (sub_none _) ?_ | fail))
    intro b9 hb9
    (repeat' (first | simp [go_sem, X_region, *] | simp (disch := omega) only [om, *] | ((first | refine XC_split ?_ ?_ | refine XG_true ?_ ?_ | refine XG_false ?_ ?_ | refine XRg_true ?_ ?_ | refine XRg_false ?_ ?_) <;> intro hc <;> (try simp only [bl] at hc) <;> (try (exfalso; omega))) | refine XD_w [] [] [] (fun _ => none) mixed (by decide +kernel) (sub_none _) ?_ | fail))
    refine X_lpF (fun i => (10 ≤ i ∧ i ≤ 11) ∨ (13 ≤ i ∧ i ≤ 14) ∨ (16 ≤ i ∧ i ≤ 17) ∨ (30 ≤ i ∧ i ≤ 72)) (fun n T g => ∃ (i : Nat) (rk : List Int) (out : List Nd) (ks : List Int) (ob : Ob) (Ka : Nat → AV), n = rk.length ∧ i ≤ x.kids.length ∧ x.kids.drop i = rk ∧ flatL (rk.map fun k => placeAt e q t k.toNat) out ks = R ∧ T 30 = I i ∧ ks.length = i ∧ (out.length : Int) + sizeL (rk.map fun k => placeAt e q t k.toNat) + 1 ≤ 1000000 ∧
        Deep (upd h b9 (some ob)) g (T 10) out Ka ∧ Own (upd h b9 (some ob)) g (T 11) 3 1 ks.length (cellsL cI ks) ∧ (∀ i, i < out.length → ApA (T 11) (Ka i)) ∧ ob.ty = 39 ∧ ob.s = 5 ∧ ob.n = 1 ∧ ob.f 0 0 = I x.op ∧ ob.f 0 2 = I x.kd ∧ ob.f 0 3 = I x.n ∧ ob.f 0 4 = S x.nm) x.kids.length
      ⟨0, x.kids, [], [], _, fun _ => .any, rfl, by omega, rfl, hR, by simp [go_sem], rfl, by simp; omega, by simpa [go_sem] using Deep.none, by simpa [go_sem] using Own.none, fun i hi => absurd hi (Nat.not_lt_zero _), rfl, rfl, rfl, by simp, by simp, by simp, by simp⟩ ?_
    clear hR
    rintro J hJ n T g hfr ⟨i, rk, out, ks, ob, Ka, rfl, hi, hdk, hR, t30, hkk, hbd, own5, ownK, hap, p1, p2, p3, f0, f2, f3, f4⟩
    have e9 : g b9 = some ob := own5.nds.1 b9 _ (upd_same _ _ _)
    rcases rk with _ | ⟨y, rk⟩
    · have hlt := drop_nil hdk
      rw [List.map_nil, flatL] at hR
      rw [List.map_nil, sizeL] at hbd
      subst hR
      have hcK := own_cells ownK
      dsimp only at *
      (repeat' (first | simp [go_sem, X_region, *] | simp (disch := omega) only [om, *] | ((first | refine XC_split ?_ ?_ | refine XG_true ?_ ?_ | refine XG_false ?_ ?_ | refine XRg_true ?_ ?_ | refine XRg_false ?_ ?_) <;> intro hc <;> (try simp only [bl] at hc) <;> (try (exfalso; omega))) | refine XD_w [] [] [] (fun _ => none) mixed (by decide +kernel) (sub_none _) ?_ | fail))
      intro b hn1 hn2 hb
      have w5 := own5.other (o2 := ⟨39, 5, 1, fun i' j' => if i' = 0 ∧ 1 ≤ j' ∧ j' < 2 then T 11 else ob.f i' j'⟩) (upd_same _ _ _)
      have wK := own_other (o2 := ⟨39, 5, 1, fun i' j' => if i' = 0 ∧ 1 ≤ j' ∧ j' < 2 then T 11 else ob.f i' j'⟩) ownK (upd_same _ _ _)
      rw [upd_upd] at w5 wK
      refine Deep.push (x := { bare x with kids := ks }) w5 wK hap (by simp [go_sem]) und42 zr39 by39 (by simp [go_sem]) (by rw [upd_ne _ _ hn1]; exact hb) (by simp [go_sem]) rfl (Nat.le_refl _) (by simp [f0, bare]) (by simp) (by simp [f2, bare]) (by simp [f3, bare]) (by simp [f4, bare]) (by omega) (by omega) fun a1 h1 w3 _ => ?_
      (repeat' (first | simp [go_sem, X_region, *] | simp (disch := omega) only [om, *] | ((first | refine XC_split ?_ ?_ | refine XG_true ?_ ?_ | refine XG_false ?_ ?_ | refine XRg_true ?_ ?_ | refine XRg_false ?_ ?_) <;> intro hc <;> (try simp only [bl] at hc) <;> (try (exfalso; omega))) | refine XD_w [] [] [] (fun _ => none) mixed (by decide +kernel) (sub_none _) ?_ | fail))
      exact ⟨_, _, Wk.refl _ _, _, w3.up (Sub.upd hb9 (Sub.refl _))⟩
    · obtain ⟨hlt, hxk, hdk2⟩ := drop_cons hdk
      have hmem : y ∈ x.kids := by rw [← hxk]; exact List.getElem_mem hlt
      have hcall := ihk y hmem
      have hkz := hky y hmem
      rw [List.map_cons, sizeL] at hbd
      rw [List.map_cons, flatL] at hR
      have hrp := sizeL_pos (rk.map fun k => placeAt e q t k.toNat)
      have htp := sizeT_pos (placeAt e q t y.toNat)
      have hYl := flatT_len (placeAt e q t y.toNat)
      generalize flatT (placeAt e q t y.toNat) = Y at *
      generalize sizeT (placeAt e q t y.toNat) = sz at *
      have hlen := len_own own5.nds
      simp only [go_sem] at hlen
      (repeat' (first | simp [go_sem, X_region, *] | simp (disch := omega) only [om, *] | ((first | refine XC_split ?_ ?_ | refine XG_true ?_ ?_ | refine XG_false ?_ ?_ | refine XRg_true ?_ ?_ | refine XRg_false ?_ ?_) <;> intro hc <;> (try simp only [bl] at hc) <;> (try (exfalso; omega))) | refine XD_w [] [] [] (fun _ => none) mixed (by decide +kernel) (sub_none _) ?_ | fail))
      refine (hcall g).mono fun r g1 hq => ?_
      obtain ⟨Kr, oR⟩ := hq
      clear hcall hlen
      have hYp : 0 < Y.length := by omega
      obtain ⟨d, rfl⟩ := own_row oR.nds hYp
      obtain ⟨od, hd0, hd1, hd2, hd3, hd4⟩ : ∃ od, g d = none ∧ g1 d = some od ∧ od.s = 5 ∧ od.n = Y.length ∧ Hid (∀ i, i < Y.length → ∀ j, j < 5 → od.f i j = dc Kr Y i j) := by
        rcases oR.nds.2 with ⟨h0, _⟩ | ⟨c, oc, h1, h2, h3, h4, h5, h6, h7, h8⟩
        · omega
        · cases h1; exact ⟨oc, h2, h3, h4, h6, ⟨h8⟩⟩
      obtain ⟨k0, hk0⟩ : ∃ k0, T 11 = k0 := ⟨_, rfl⟩
      rw [hk0] at ownK hap
      obtain ⟨B0, oB, sB, kB⟩ := (own5.grow oR.nds.1).hole
      have hka : ∀ i, i < Y.length → ApA k0 (Kr i) := fun i hi => own_ap ownK (oR.rows i hi) fun c ob h2 _ _ => h2
      have hrest : Rest (upd h b9 (some ob)) B0 d od k0 ks Y Kr 0 := by
        refine ⟨sB, kB d od hd1 (fun e => ?_) fun i hi n e => ?_, (own5.grow oR.nds.1).restK (own_grow ownK oR.nds.1) sB kB hap, fun i _ hi => (own5.grow oR.nds.1).restK (own_up own5.nds.1 (oR.rows i hi)) sB kB fun i' hi' => (own_ap (own5.rows i' hi') (oR.rows i hi) fun c ob h2 _ _ => h2).symm⟩
        · obtain ⟨_, _, ob', h1, _⟩ := own_some own5.nds e
          rw [hd0] at h1; cases h1
        · obtain ⟨_, _, ob', h1, _⟩ := own_some (own5.rows i hi) e
          rw [hd0] at h1; cases h1
      have hrap := oR.apart
      obtain ⟨OUT, hOUT⟩ : ∃ OUT, out ++ Y.map (shN out.length) = OUT := ⟨_, rfl⟩
      rw [hOUT] at hR
      have hOl : OUT.length = out.length + Y.length := by rw [← hOUT]; simp
      clear own5 ownK hap e9 oR sB kB
      (repeat' (first | simp [go_sem, X_region, *] | simp (disch := omega) only [om, *] | ((first | refine XC_split ?_ ?_ | refine XG_true ?_ ?_ | refine XG_false ?_ ?_ | refine XRg_true ?_ ?_ | refine XRg_false ?_ ?_) <;> intro hc <;> (try simp only [bl] at hc) <;> (try (exfalso; omega))) | refine XD_w [] [] [] (fun _ => none) mixed (by decide +kernel) (sub_none _) ?_ | fail))
      refine X_lpF (fun i => i = 10 ∨ (16 ≤ i ∧ i ≤ 17) ∨ (42 ≤ i ∧ i ≤ 65)) (fun n T g => ∃ (j : Nat) (r2 acc : List Nd) (Ka : Nat → AV) (B0 : Hp), n = r2.length ∧ j ≤ Y.length ∧ Y.drop j = r2 ∧ acc ++ r2.map (shN out.length) = OUT ∧ T 42 = I j ∧ acc.length = out.length + j ∧
        Rest (upd h b9 (some ob)) B0 d od k0 ks Y Kr j ∧ Deep B0 g (T 10) acc Ka) Y.length
        ⟨0, Y, out, Ka, B0, rfl, by omega, rfl, hOUT, by simp [go_sem], rfl, hrest, by simpa [go_sem] using oB⟩ ?_
      clear hOUT hrest oB
      rintro J2 hJ2 n2 T2 g2 hfr2 ⟨j, r2, acc, Ka, B0, rfl, hj, hdj, hacc, t42, hal, rest, own5⟩
      rcases r2 with _ | ⟨z, r2⟩
      · have hltj := drop_nil hdj
        obtain rfl : acc = OUT := by simpa using hacc
        clear hacc
        have ownK := own_grow rest.kds own5.nds.1
        have hap : ∀ i, i < acc.length → ApA k0 (Ka i) := fun i hi => own_ap rest.kds (own5.rows i hi) fun c ob h2 _ _ => h2
        have own51 := own5.up rest.sub
        have hlen := len_own own5.nds
        simp only [go_sem] at hlen
        have hol3 : out.length + Y.length = acc.length := by omega
        clear hOl hal
        (repeat' (first | simp [go_sem, X_region, *] | simp (disch := omega) only [om, *] | ((first | refine XC_split ?_ ?_ | refine XG_true ?_ ?_ | refine XG_false ?_ ?_ | refine XRg_true ?_ ?_ | refine XRg_false ?_ ?_) <;> intro hc <;> (try simp only [bl] at hc) <;> (try (exfalso; omega))) | refine XD_w [] [] [] (fun _ => none) mixed (by decide +kernel) (sub_none _) ?_ | fail))
        intro bl hbl
        obtain ⟨HK, oHK, sHK, kHK⟩ := own_hole ownK
        refine Own.push (x := (acc.length : Int) - 1) (enc := cI) oHK (by simp [go_sem]) und37 zr3 by3 (by simp [go_sem]) hbl (by simp [go_sem]) rfl (Nat.le_refl _) (by simp [go_sem]) (by omega) (by omega) fun a1 h1 hown1 hk1 => ?_
        have own52 := own51.keep oHK sHK kHK hown1.1 hap
        have hap2 := own51.apK kHK hown1 hap
        have ownK2 := own_up sHK hown1
        (repeat' (first | simp [go_sem, X_region, *] | simp (disch := omega) only [om, *] | ((first | refine XC_split ?_ ?_ | refine XG_true ?_ ?_ | refine XG_false ?_ ?_ | refine XRg_true ?_ ?_ | refine XRg_false ?_ ?_) <;> intro hc <;> (try simp only [bl] at hc) <;> (try (exfalso; omega))) | refine XD_w [] [] [] (fun _ => none) mixed (by decide +kernel) (sub_none _) ?_ | fail))
        exact ⟨_, Nat.lt_succ_self _, hJ.out _ _ _ ⟨(by (repeat (refine fr_upd (by decide) ?_)); exact fr_in (by intro i; omega) hfr2 (by (repeat (refine fr_upd (by decide) ?_)); exact hfr)), i + 1, rk, acc, ks ++ [(acc.length : Int) - 1], ob, Ka, rfl, by omega, hdk2, hR, by simp [go_sem], by simp [hkk], by omega, by simpa [go_sem] using own52, by simpa [go_sem] using ownK2, by simpa [go_sem] using hap2, p1, p2, p3, f0, f2, f3, f4⟩⟩
      · obtain ⟨hltj, hxj, hdj2⟩ := drop_cons hdj
        obtain ⟨hz1, hz2⟩ := hkz z (by rw [← hxj]; exact List.getElem_mem hltj)
        have hnz : ndAt Y j = z := by unfold ndAt; rw [List.getD_eq_getElem?_getD, List.getElem?_eq_getElem hltj, hxj]; rfl
        obtain ⟨H0, oK, rest2⟩ := rest.step hltj hd2 hrap hka
        rw [hnz] at oK
        have hcell : ∀ c, c < 5 → od.f j c = dc Kr Y j c := hd4.out j hltj
        have hcy : ∀ c, cellsL cNd Y j c = (cNd z).getD c .any := fun c => by simp [cellsL, List.getElem?_eq_getElem hltj, hxj]
        have z0 : od.f j 0 = I z.op := by rw [hcell 0 (by decide)]; simp [dc, hcy, cNd]
        have z1 : od.f j 1 = Kr j := by rw [hcell 1 (by decide)]; simp [dc]
        have z2 : od.f j 2 = I z.kd := by rw [hcell 2 (by decide)]; simp [dc, hcy, cNd]
        have z3 : od.f j 3 = I z.n := by rw [hcell 3 (by decide)]; simp [dc, hcy, cNd]
        have z4 : od.f j 4 = S z.nm := by rw [hcell 4 (by decide)]; simp [dc, hcy, cNd]
        have hk1 : ∀ i, i < acc.length → ApA (Kr j) (Ka i) := fun i hi => own_ap oK (own5.rows i hi) fun c ob h2 _ _ => h2
        clear hcell hcy
        generalize Kr j = r1 at *
        have ed : g2 d = some od := own5.nds.1 d od rest.blk
        have hcM := own_cells oK
        have hlenM := Kd0.len (B := H0) (g := B0) (ks := z.kids) (.inl oK)
        simp only [go_sem] at hlenM
        (repeat' (first | simp [go_sem, X_region, *] | simp (disch := omega) only [om, *] | ((first | refine XC_split ?_ ?_ | refine XG_true ?_ ?_ | refine XG_false ?_ ?_ | refine XRg_true ?_ ?_ | refine XRg_false ?_ ?_) <;> intro hc <;> (try simp only [bl] at hc) <;> (try (exfalso; omega))) | refine XD_w [] [] [] (fun _ => none) mixed (by decide +kernel) (sub_none _) ?_ | fail))
        intro b10 hb10
        have n1d := ne_free hb10 ed
        (repeat' (first | simp [go_sem, X_region, *] | simp (disch := omega) only [om, *] | ((first | refine XC_split ?_ ?_ | refine XG_true ?_ ?_ | refine XG_false ?_ ?_ | refine XRg_true ?_ ?_ | refine XRg_false ?_ ?_) <;> intro hc <;> (try simp only [bl] at hc) <;> (try (exfalso; omega))) | refine XD_w [] [] [] (fun _ => none) mixed (by decide +kernel) (sub_none _) ?_ | fail))
        have h010 : H0 b10 = none := sub_none_of (oK.1.trans own5.nds.1) hb10
        have hne10 : ∀ n, r1 ≠ .row b10 1 0 n := fun n e => by
          obtain ⟨_, _, ob', h1, _⟩ := own_some oK e
          have h2 := own5.nds.1 b10 ob' h1
          rw [hb10] at h2; cases h2
        refine X_lpH (fun i => i = 17 ∨ (49 ≤ i ∧ i ≤ 60)) (fun hE n T g => ∃ (k : Nat) (r3 pre : List Int), n = r3.length ∧ k ≤ z.kids.length ∧ z.kids.drop k = r3 ∧ pre ++ r3.map (· + (out.length : Int)) = z.kids.map (· + (out.length : Int)) ∧ T 49 = I k ∧ pre.length = k ∧ InnerI H0 hE g r1 (pre ++ r3)) z.kids.length
          ⟨0, z.kids, [], rfl, by omega, rfl, by simp, by simp [go_sem], rfl, ⟨Sub.upd h010 (oK.1.trans own5.nds.1), .inl ((own_grow oK own5.nds.1).alloc hb10), fun d od hd _ => hd⟩⟩ ?_
        rintro hE hEq J3 hJ3 n3 T3 g3 hfr3 ⟨k, r3, pre, rfl, hk3, hdk3, hpre, t38, hpl, inn⟩
        obtain ⟨ob10, hob, q1, q2, q3, u0, u1, u2, u3, u4⟩ : ∃ ob10 : Ob, hE = upd g2 b10 (some ob10) ∧ ob10.ty = 39 ∧ ob10.s = 5 ∧ ob10.n = 1 ∧ ob10.f 0 0 = I z.op ∧ ob10.f 0 1 = r1 ∧ ob10.f 0 2 = I z.kd ∧ ob10.f 0 3 = I z.n ∧ ob10.f 0 4 = S z.nm := ⟨_, hEq.symm, rfl, rfl, rfl, by simp [*], by simp [*], by simp [*], by simp [*], by simp [*]⟩
        clear hEq
        subst hob
        have e10 : g3 b10 = some ob10 := inn.fr b10 ob10 (upd_same _ _ _) hne10
        rcases r3 with _ | ⟨v, r3⟩
        case cons =>
          obtain ⟨hltk, hxk, hdk4⟩ := drop_cons hdk3
          have hv := hz2 v (by rw [← hxk]; exact List.getElem_mem hltk)
          obtain ⟨c, oc, hrow, hc, c1, c2, c3, c4, hset⟩ := inn.set
          rw [hpl] at c4
          have hlen3 : (pre ++ v :: r3).length = z.kids.length := by
            have := congrArg List.length hdk3
            simp at this
            simp; omega
          rw [hlen3] at hrow c3
          rw [hrow] at u1
          (repeat' (first | simp [go_sem, X_region, *] | simp (disch := omega) only [om, *] | ((first | refine XC_split ?_ ?_ | refine XG_true ?_ ?_ | refine XG_false ?_ ?_ | refine XRg_true ?_ ?_ | refine XRg_false ?_ ?_) <;> intro hc <;> (try simp only [bl] at hc) <;> (try (exfalso; omega))) | refine XD_w [] [] [] (fun _ => none) mixed (by decide +kernel) (sub_none _) ?_ | fail))
          refine ⟨_, Nat.lt_succ_self _, hJ3.out _ _ _ ⟨?_, k + 1, r3, pre ++ [v + (out.length : Int)], rfl, by omega, hdk4, by rw [← hpre]; simp, by simp [go_sem], by simp [hpl], hset _ _ rfl rfl c3.symm fun i => by simp [hpl]⟩⟩
          repeat (refine fr_upd (by decide) ?_)
          exact hfr3
        have hltk := drop_nil hdk3
        have hpre2 : pre = z.kids.map (· + (out.length : Int)) := by simpa using hpre
        rw [List.append_nil] at inn
        have w5 := (own5.up oK.1).with (oc := ob10) hb10
        have wM := own_with (oc := ob10) (own_grow oK own5.nds.1) hb10
        obtain ⟨x5, xM⟩ := inn.finD wM q2 w5 hk1
        rw [hpre2] at xM
        (repeat' (first | simp [go_sem, X_region, *] | simp (disch := omega) only [om, *] | ((first | refine XC_split ?_ ?_ | refine XG_true ?_ ?_ | refine XG_false ?_ ?_ | refine XRg_true ?_ ?_ | refine XRg_false ?_ ?_) <;> intro hc <;> (try simp only [bl] at hc) <;> (try (exfalso; omega))) | refine XD_w [] [] [] (fun _ => none) mixed (by decide +kernel) (sub_none _) ?_ | fail))
        intro bl hbl
        refine Deep.push (x := shN out.length z) x5 xM hk1 (by simp [go_sem]) und42 zr39 by39 (by simp [go_sem]) hbl (by simp [go_sem]) rfl (Nat.le_refl _) (by simp [shN]) (by simp) (by simp [shN]) (by simp [shN]) (by simp [shN]) (by omega) (by omega) fun a1 h1 w3 _ => ?_
        have y5 := w3.up (Sub.upd h010 (Sub.refl _))
        (repeat' (first | simp [go_sem, X_region, *] | simp (disch := omega) only [om, *] | ((first | refine XC_split ?_ ?_ | refine XG_true ?_ ?_ | refine XG_false ?_ ?_ | refine XRg_true ?_ ?_ | refine XRg_false ?_ ?_) <;> intro hc <;> (try simp only [bl] at hc) <;> (try (exfalso; omega))) | refine XD_w [] [] [] (fun _ => none) mixed (by decide +kernel) (sub_none _) ?_ | fail))
        refine ⟨_, Nat.lt_succ_self _, hJ2.out _ _ _ ⟨?_, j + 1, r2, acc ++ [shN out.length z], _, H0, rfl, by omega, hdj2, by rw [← hacc]; simp, by simp [go_sem], by simp; omega, rest2, by simpa [go_sem] using y5⟩⟩
        repeat (refine fr_upd (by decide) ?_)
        refine fr_in (by intro i; omega) hfr3 ?_
        repeat (refine fr_upd (by decide) ?_)
        exact hfr2
end Go.Proofs.YtmalhikcdideoaaDoor

set_option linter.unusedVariables false
set_option linter.unusedSimpArgs false
namespace Go.Proofs.YtmalhikcdideoaaDoor
open Go Sl
attribute [local irreducible] XRange LpQ XR XRo XRg XRQ putQ XFv XL XW2 wQ putW X XO XOp XH XHo XW SeqQ BlkQ XOQ XHQ NrmQ XC XM XG XHM XHG XD CallK
open Go.RowKit
/-- What tree.Put answers. -/
def putF (e : List Nd) (q : Int) (w : List Nd) : List Nd × Int :=
  if chkE (oneE nameF) e ≠ 0 then ([], chkE (oneE nameF) e)
  else if chkE (oneE nameF) w ≠ 0 then ([], chkE (oneE nameF) w)
  else if ¬ (0 ≤ q ∧ q < e.length) then ([], 1)
  else if 100 < (flatT (placeAt e q (rootT w) (e.length - 1))).length then ([], 2)
  else (flatT (placeAt e q (rootT w) (e.length - 1)), 0)
theorem place_facts {e w : List Nd} (q : Int) (he : chkE (oneE nameF) e = 0) (hw : chkE (oneE nameF) w = 0) : (∀ p, p < e.length → sizeT (placeAt e q (rootT w) p) ≤ 10000) ∧ ∀ p, p < e.length → AllT (fun x n => n ≤ 3) (placeAt e q (rootT w) p) := by
  obtain ⟨a1, a2, hv, hk3, hsz⟩ := chk_facts he
  obtain ⟨b1, b2, hvw, hk3w, hszw⟩ := chk_facts hw
  have h1 := hszw (w.length - 1) (by omega)
  have h2 := sizeT_pos (rootT w)
  refine ⟨fun p hp => ?_, fun p hp => ?_⟩
  · have h3 := placeAt_size hv q (rootT w) p hp
    have h4 := hsz p hp
    have h5 := sizeT_pos (treeAt e p)
    have h6 : sizeT (treeAt e p) * sizeT (rootT w) ≤ 100 * sizeT (rootT w) := Int.mul_le_mul_of_nonneg_right (by omega) (by omega)
    have h7 : sizeT (rootT w) ≤ 100 := by unfold rootT; omega
    omega
  · exact placeAt_all hv q (rootT w) _ (fun i x hx => hk3 i x hx) (treeAt_all hvw _ (fun i x hx => hk3w i x hx) (w.length - 1) (by omega)) p hp
set_option maxHeartbeats 4000000 in
theorem put2_ok (e w : List Nd) (q : Int) (hne : ∀ x ∈ e, x.nm.size ≤ 1048576) (hnw : ∀ x ∈ w, x.nm.size ≤ 1048576) (hel : e.length ≤ 1048576) : Pure Tryd.prog 25 [encL 5 cNd e, I q, encL 5 cNd w] (tup2 (encL 5 cNd (putF e q w).1) (I (putF e q w).2)) := by
  have hce := tcheck_ok e fun x hx => by have := hne x hx; omega
  have hcw := tcheck_ok w fun x hx => by have := hnw x hx; omega
  obtain ⟨Z, hZ⟩ : ∃ Z, putF e q w = Z := ⟨_, rfl⟩
  rw [hZ]
  unfold putF at hZ
  intro h; refine callK_body Tryd.func25 rfl (by rw [nt25]; simp) ?_; rw [nt25, rs25]
  (repeat' (first | simp [go_sem, X_region, *] | simp (disch := omega) only [om, *] | ((first | refine XC_split ?_ ?_ | refine XG_true ?_ ?_ | refine XG_false ?_ ?_ | refine XRg_true ?_ ?_ | refine XRg_false ?_ ?_) <;> intro hc <;> (try simp only [bl] at hc) <;> (try (exfalso; omega))) | refine XD_w [] [] [] (fun _ => none) mixed (by decide +kernel) (sub_none _) ?_ | fail))
  intro b14 hb14
  (repeat' (first | simp [go_sem, X_region, *] | simp (disch := omega) only [om, *] | ((first | refine XC_split ?_ ?_ | refine XG_true ?_ ?_ | refine XG_false ?_ ?_ | refine XRg_true ?_ ?_ | refine XRg_false ?_ ?_) <;> intro hc <;> (try simp only [bl] at hc) <;> (try (exfalso; omega))) | refine XD_w [] [] [] (fun _ => none) mixed (by decide +kernel) (sub_none _) ?_ | fail))
  refine X_lpH (fun i => (6 ≤ i ∧ i ≤ 7) ∨ (9 ≤ i ∧ i ≤ 10) ∨ (16 ≤ i ∧ i ≤ 25)) (fun hE n T g => ∃ i : Nat, n = 2 - i ∧ i ≤ 2 ∧ T 16 = I i ∧ g = hE ∧ (1 ≤ i → chkE (oneE nameF) e = 0) ∧ (2 ≤ i → chkE (oneE nameF) w = 0)) 2
    ⟨0, rfl, by omega, by simp [go_sem], rfl, fun h => by omega, fun h => by omega⟩ ?_
  rintro hE hEq J hJ n T g hfr ⟨i, rfl, hi, t16, rfl, c1, c2⟩
  obtain ⟨ob, hob, q1, q2, q3, u0, u1⟩ : ∃ ob : Ob, g = upd h b14 (some ob) ∧ ob.ty = 42 ∧ ob.s = 1 ∧ ob.n = 2 ∧ ob.f 0 0 = encL 5 cNd e ∧ ob.f 1 0 = encL 5 cNd w := ⟨_, hEq.symm, rfl, rfl, rfl, by simp [go_sem], by simp [go_sem]⟩
  clear hEq
  subst hob
  have hsub : Sub h (upd h b14 (some ob)) := Sub.upd hb14 (Sub.refl _)
  have hnil : ∀ c : Int, Wk (upd h b14 (some ob)) (tup2 (.v (.slice none 0 0)) (I c)) h (tup2 (encL 5 cNd []) (I c)) := fun c => Wk.tup2M hsub (Wk.nil.trans (Wk.drop _ hsub)) (Wk.drop _ hsub)
  rcases (show i = 0 ∨ i = 1 ∨ i = 2 by omega) with rfl | rfl | rfl
  · by_cases qe : chkE (oneE nameF) e = 0
    · rw [qe] at hce
      (repeat' (first | simp [go_sem, X_region, *] | simp (disch := omega) only [om, *] | ((first | refine XC_split ?_ ?_ | refine XG_true ?_ ?_ | refine XG_false ?_ ?_ | refine XRg_true ?_ ?_ | refine XRg_false ?_ ?_) <;> intro hc <;> (try simp only [bl] at hc) <;> (try (exfalso; omega))) | refine XD_w [] [] [] (fun _ => none) mixed (by decide +kernel) (sub_none _) ?_ | refine Pure.call (hce) ?_ | refine ⟨_, Pure.at (hce), ?_⟩ | refine ⟨_, hce, ?_⟩ | refine PureAt.call (hce) ?_ | fail))
      exact ⟨_, by decide, hJ.out _ _ _ ⟨(by (repeat (refine fr_upd (by decide) ?_)); exact hfr), 1, rfl, by omega, by simp [go_sem], rfl, fun _ => qe, fun h => by omega⟩⟩
    · rw [if_pos qe] at hZ
      generalize chkE (oneE nameF) e = c at *
      subst hZ
      (repeat' (first | simp [go_sem, X_region, *] | simp (disch := omega) only [om, *] | ((first | refine XC_split ?_ ?_ | refine XG_true ?_ ?_ | refine XG_false ?_ ?_ | refine XRg_true ?_ ?_ | refine XRg_false ?_ ?_) <;> intro hc <;> (try simp only [bl] at hc) <;> (try (exfalso; omega))) | refine XD_w [] [] [] (fun _ => none) mixed (by decide +kernel) (sub_none _) ?_ | refine Pure.call (hce) ?_ | refine ⟨_, Pure.at (hce), ?_⟩ | refine ⟨_, hce, ?_⟩ | refine PureAt.call (hce) ?_ | fail))
      all_goals exact hnil c
  · have qe := c1 (by omega)
    by_cases qw : chkE (oneE nameF) w = 0
    · rw [qw] at hcw
      (repeat' (first | simp [go_sem, X_region, *] | simp (disch := omega) only [om, *] | ((first | refine XC_split ?_ ?_ | refine XG_true ?_ ?_ | refine XG_false ?_ ?_ | refine XRg_true ?_ ?_ | refine XRg_false ?_ ?_) <;> intro hc <;> (try simp only [bl] at hc) <;> (try (exfalso; omega))) | refine XD_w [] [] [] (fun _ => none) mixed (by decide +kernel) (sub_none _) ?_ | refine Pure.call (hcw) ?_ | refine ⟨_, Pure.at (hcw), ?_⟩ | refine ⟨_, hcw, ?_⟩ | refine PureAt.call (hcw) ?_ | fail))
      first
        | exact ⟨_, by decide, hJ.out _ _ _ ⟨(by (repeat (refine fr_upd (by decide) ?_)); exact hfr), 2, rfl, by omega, by simp [go_sem], rfl, fun _ => qe, fun _ => qw⟩⟩
        | exact hJ.out _ _ _ ⟨(by (repeat (refine fr_upd (by decide) ?_)); exact hfr), 2, rfl, by omega, by simp [go_sem], rfl, fun _ => qe, fun _ => qw⟩
    · rw [if_neg (fun h => h qe), if_pos qw] at hZ
      generalize chkE (oneE nameF) w = c at *
      subst hZ
      (repeat' (first | simp [go_sem, X_region, *] | simp (disch := omega) only [om, *] | ((first | refine XC_split ?_ ?_ | refine XG_true ?_ ?_ | refine XG_false ?_ ?_ | refine XRg_true ?_ ?_ | refine XRg_false ?_ ?_) <;> intro hc <;> (try simp only [bl] at hc) <;> (try (exfalso; omega))) | refine XD_w [] [] [] (fun _ => none) mixed (by decide +kernel) (sub_none _) ?_ | refine Pure.call (hcw) ?_ | refine ⟨_, Pure.at (hcw), ?_⟩ | refine ⟨_, hcw, ?_⟩ | refine PureAt.call (hcw) ?_ | fail))
      all_goals exact hnil c
  · have qe := c1 (by omega)
    have qw := c2 (by omega)
    rw [if_neg (fun h => h qe), if_neg (fun h => h qw)] at hZ
    clear c1 c2 hce hcw
    by_cases qq : 0 ≤ q ∧ q < e.length
    case neg =>
      rw [if_pos qq] at hZ
      subst hZ
      (repeat' (first | simp [go_sem, X_region, *] | simp (disch := omega) only [om, *] | ((first | refine XC_split ?_ ?_ | refine XG_true ?_ ?_ | refine XG_false ?_ ?_ | refine XRg_true ?_ ?_ | refine XRg_false ?_ ?_) <;> intro hc <;> (try simp only [bl] at hc) <;> (try (exfalso; omega))) | refine XD_w [] [] [] (fun _ => none) mixed (by decide +kernel) (sub_none _) ?_ | fail))
      all_goals first | exact hnil 1 | (exfalso; omega)
    rw [if_neg (fun h => h qq)] at hZ
    obtain ⟨g1, g2⟩ := place_facts q qe qw
    obtain ⟨a1, a2, hv, hk3, hsz⟩ := chk_facts qe
    have hp := put_ok e hv w q (rootT w) hk3 (fun h => normD_ok w qw (fun x hx => by have := hnw x hx; omega) h) (fun p hp => by have := g1 p hp; omega) (fun p hp y hy => by
      have h1 := flatT_ok _ (g2 p hp) (fun x n => Iff.rfl) y hy
      have h3 := g1 p hp
      exact ⟨by have := h1.own; omega, fun i hi => by have := h1.kids i hi; omega⟩) (e.length - 1) (by omega)
    have hFl := flatT_len (placeAt e q (rootT w) (e.length - 1))
    have hFs := g1 (e.length - 1) (by omega)
    have hFk : ∀ i, i < (flatT (placeAt e q (rootT w) (e.length - 1))).length → (ndAt (flatT (placeAt e q (rootT w) (e.length - 1))) i).kids.length ≤ 140737488355328 := fun i hi => by
      have h0 : ndAt (flatT (placeAt e q (rootT w) (e.length - 1))) i ∈ flatT (placeAt e q (rootT w) (e.length - 1)) := by
        unfold ndAt
        rw [List.getD_eq_getElem?_getD, List.getElem?_eq_getElem hi]
        exact List.getElem_mem hi
      have h1 := (flatT_ok _ (g2 (e.length - 1) (by omega)) (fun x n => Iff.rfl) _ h0).own
      omega
    have e1 : ((e.length - 1 : Nat) : Int) = (e.length : Int) - 1 := by omega
    rw [e1] at hp
    generalize flatT (placeAt e q (rootT w) (e.length - 1)) = F at *
    have hFl2 : F.length ≤ 10000 := by omega
    clear hFl hFs g1 g2 hsz
    (repeat' (first | simp [go_sem, X_region, *] | simp (disch := omega) only [om, *] | ((first | refine XC_split ?_ ?_ | refine XG_true ?_ ?_ | refine XG_false ?_ ?_ | refine XRg_true ?_ ?_ | refine XRg_false ?_ ?_) <;> intro hc <;> (try simp only [bl] at hc) <;> (try (exfalso; omega))) | refine XD_w [] [] [] (fun _ => none) mixed (by decide +kernel) (sub_none _) ?_ | fail))
    refine (hp _).mono fun r g1 hq => ?_
    obtain ⟨Ks, oD⟩ := hq
    have hfz := (oD.frozen (by omega) hFk).trans (Wk.drop _ hsub)
    have hlen := len_own oD.nds
    simp only [go_sem] at hlen
    have hs1 := hsub.trans oD.nds.1
    by_cases ql : 100 < F.length
    · rw [if_pos ql] at hZ
      subst hZ
      (repeat' (first | simp [go_sem, X_region, *] | simp (disch := omega) only [om, *] | ((first | refine XC_split ?_ ?_ | refine XG_true ?_ ?_ | refine XG_false ?_ ?_ | refine XRg_true ?_ ?_ | refine XRg_false ?_ ?_) <;> intro hc <;> (try simp only [bl] at hc) <;> (try (exfalso; omega))) | refine XD_w [] [] [] (fun _ => none) mixed (by decide +kernel) (sub_none _) ?_ | fail))
      all_goals exact Wk.tup2M hs1 (Wk.nil.trans (Wk.drop _ hs1)) (Wk.drop _ hs1)
    · rw [if_neg ql] at hZ
      subst hZ
      (repeat' (first | simp [go_sem, X_region, *] | simp (disch := omega) only [om, *] | ((first | refine XC_split ?_ ?_ | refine XG_true ?_ ?_ | refine XG_false ?_ ?_ | refine XRg_true ?_ ?_ | refine XRg_false ?_ ?_) <;> intro hc <;> (try simp only [bl] at hc) <;> (try (exfalso; omega))) | refine XD_w [] [] [] (fun _ => none) mixed (by decide +kernel) (sub_none _) ?_ | fail))
      all_goals exact Wk.tup2M hs1 hfz (Wk.drop _ hs1)
theorem placed_ok (e : List Nd) (hv : Vd e) (hk3 : ∀ (i : Nat) (x : Nd), e[i]? = some x → x.kids.length ≤ 3) (q : Int) (t : Tr) (p : Nat) (hp : p < e.length) : Pure Tryd.prog 66 [encL 5 cNd e, I p, I q, aggL (cTr t)] (aggL (cTr (placeAt e q t p))) := by
  induction p using Nat.strongRecOn with
  | ind p ih =>
    obtain ⟨x, hxe⟩ : ∃ x, e[p] = x := ⟨_, rfl⟩
    have hx : e[p]? = some x := by rw [List.getElem?_eq_getElem hp, hxe]
    have hnd : ndAt e p = x := by unfold ndAt; rw [List.getD_eq_getElem?_getD, hx]; rfl
    have hkx := hv.out p x hx
    have hk3 := hk3 p x hx
    by_cases hpq : (p : Int) = q
    · rw [placeAt_eq hv, if_pos hpq]
      clear ih
      obtain ⟨tx, tk⟩ := t
      rw [cTr_mk]
      intro h; refine callK_body Tryd.func66 rfl (by rw [nt66]; simp) ?_; rw [nt66, rs66]
      (repeat' (first | simp [go_sem, X_region, *] | simp (disch := omega) only [om, *] | ((first | refine XC_split ?_ ?_ | refine XG_true ?_ ?_ | refine XG_false ?_ ?_ | refine XRg_true ?_ ?_ | refine XRg_false ?_ ?_) <;> intro hc <;> (try simp only [bl] at hc) <;> (try (exfalso; omega))) | refine XD_w [] [] [] (fun _ => none) mixed (by decide +kernel) (sub_none _) ?_ | fail))
      intro b7 hb7 b8 m1 m2 hb8
      (repeat' (first | simp [go_sem, X_region, *] | simp (disch := omega) only [om, *] | ((first | refine XC_split ?_ ?_ | refine XG_true ?_ ?_ | refine XG_false ?_ ?_ | refine XRg_true ?_ ?_ | refine XRg_false ?_ ?_) <;> intro hc <;> (try simp only [bl] at hc) <;> (try (exfalso; omega))) | refine XD_w [] [] [] (fun _ => none) mixed (by decide +kernel) (sub_none _) ?_ | fail))
      all_goals exact Wk.drop _ (by repeat (first | exact Sub.refl _ | refine Sub.upd (by assumption) ?_))
    have ihk : ∀ k ∈ x.kids, Pure Tryd.prog 66 [encL 5 cNd e, I k, I q, aggL (cTr t)] (aggL (cTr (placeAt e q t k.toNat))) := fun k hk => by
      have h1 := hkx k hk
      obtain ⟨m, rfl⟩ : ∃ m : Nat, k = m := ⟨k.toNat, by omega⟩
      rw [Int.toNat_natCast]
      exact ih m (by omega) (by omega)
    clear ih
    rw [placeAt_eq hv, if_neg hpq, hnd, cTr_mk]
    generalize hR : x.kids.map (fun k => placeAt e q t k.toNat) = R
    obtain ⟨tx, tk⟩ := t
    rw [cTr_mk] at ihk
    rw [cTr_mk]
    intro h; refine callK_body Tryd.func66 rfl (by rw [nt66]; simp) ?_; rw [nt66, rs66]
    (repeat' (first | simp [go_sem, X_region, *] | simp (disch := omega) only [om, *] | ((first | refine XC_split ?_ ?_ | refine XG_true ?_ ?_ | refine XG_false ?_ ?_ | refine XRg_true ?_ ?_ | refine XRg_false ?_ ?_) <;> intro hc <;> (try simp only [bl] at hc) <;> (try (exfalso; omega))) | refine XD_w [] [] [] (fun _ => none) mixed (by decide +kernel) (sub_none _) ?_ | fail))
    intro b7 hb7 b8 m1 m2 hb8 b9 m3 m4 m5 m6 hb9
    refine X_lpF (fun i => i = 11 ∨ (29 ≤ i ∧ i ≤ 43)) (fun n T g => ∃ (i : Nat) (rk : List Int) (acc : List Tr) (ob7 ob8 ob : Ob) (a : AV), n = rk.length ∧ i ≤ x.kids.length ∧ x.kids.drop i = rk ∧ acc ++ rk.map (fun k => placeAt e q (.mk tx tk) k.toNat) = R ∧ T 29 = I i ∧ acc.length = i ∧
        Own (upd (upd (upd h b7 (some ob7)) b8 (some ob8)) b9 (some ob)) g a 45 6 acc.length (cellsL cTr acc) ∧ (ob7.s = 6 ∧ ob7.n = 1 ∧ ob7.ty = 45 ∧ ob7.f 0 0 = I tx.op ∧ ob7.f 0 1 = .v (.slice none 0 0) ∧ ob7.f 0 2 = I tx.kd ∧ ob7.f 0 3 = I tx.n ∧ ob7.f 0 4 = S tx.nm ∧ ob7.f 0 5 = encL 6 cTr tk) ∧ (ob8.s = 6 ∧ ob8.n = 1 ∧ ob8.ty = 45) ∧ ob.s = 6 ∧ ob.n = 1 ∧ ob.ty = 45 ∧ ob.f 0 0 = I x.op ∧ ob.f 0 1 = .v (.slice none 0 0) ∧ ob.f 0 2 = I x.kd ∧ ob.f 0 3 = I x.n ∧ ob.f 0 4 = S x.nm ∧ ob.f 0 5 = a) x.kids.length
      ⟨0, x.kids, [], _, _, _, .v (.slice none 0 0), rfl, by omega, rfl, hR, by simp [go_sem], rfl, by simpa [go_sem] using Own.none, ⟨rfl, rfl, rfl, by simp [go_sem], by simp [go_sem], by simp [go_sem], by simp [go_sem], by simp [go_sem], by simp [go_sem]⟩, ⟨rfl, rfl, rfl⟩, rfl, rfl, rfl, by simp [go_sem], by simp [go_sem], by simp [go_sem], by simp [go_sem], by simp [go_sem], by simp [go_sem]⟩ ?_
    clear hR
    rintro J hJ n T g hfr ⟨i, rk, acc, ob7, ob8, ob, a, rfl, hi, hd, hR, t29, hacc, hown, ⟨o1, o2, o3, v0, v1, v2, v3, v4, v5⟩, ⟨p1, p2, p3⟩, q1, q2, q3, f0, f1, f2, f3, f4, f5⟩
    have e9 : g b9 = some ob := hown.1 b9 _ (upd_same _ _ _)
    have e8 : g b8 = some ob8 := hown.1 b8 _ (by rw [upd_ne _ _ m4]; exact upd_same _ _ _)
    have e7 : g b7 = some ob7 := hown.1 b7 _ (by rw [upd_ne _ _ m6, upd_ne _ _ m2]; exact upd_same _ _ _)
    rcases rk with _ | ⟨y, rk⟩
    · have hlt := drop_nil hd
      rw [List.map_nil, List.append_nil] at hR
      subst hR
      have hca := own_cells hown
      (repeat' (first | simp [go_sem, X_region, *] | simp (disch := omega) only [om, *] | ((first | refine XC_split ?_ ?_ | refine XG_true ?_ ?_ | refine XG_false ?_ ?_ | refine XRg_true ?_ ?_ | refine XRg_false ?_ ?_) <;> intro hc <;> (try simp only [bl] at hc) <;> (try (exfalso; omega))) | refine XD_w [] [] [] (fun _ => none) mixed (by decide +kernel) (sub_none _) ?_ | fail))
      have w4 := own_other (o2 := ⟨45, 6, 1, fun i' j' => if i' = 0 ∧ j' < 6 then [I x.op, AV.v (Value.slice none 0 0), I x.kd, I x.n, S x.nm, a][j']?.getD AV.any else ob8.f i' j'⟩) hown (b := b8) (by rw [upd_ne _ _ m4]; exact upd_same _ _ _)
      have hsb : Sub h (upd (upd (upd (upd h b7 (some ob7)) b8 (some ob8)) b9 (some ob)) b8 (some ⟨45, 6, 1, fun i' j' => if i' = 0 ∧ j' < 6 then [I x.op, AV.v (Value.slice none 0 0), I x.kd, I x.n, S x.nm, a][j']?.getD AV.any else ob8.f i' j'⟩)) := Sub.upd hb8 (Sub.upd hb9 (Sub.upd hb8 (Sub.upd hb7 (Sub.refl _))))
      refine Wk.aggLM (hsb.trans w4.1) rfl fun j hj => ?_
      have hj : j < 6 := hj
      rcases (show j = 0 ∨ j = 1 ∨ j = 2 ∨ j = 3 ∨ j = 4 ∨ j = 5 by omega) with rfl | rfl | rfl | rfl | rfl | rfl
      · exact Wk.drop _ (hsb.trans w4.1)
      · exact Wk.drop _ (hsb.trans w4.1)
      · exact Wk.drop _ (hsb.trans w4.1)
      · exact Wk.drop _ (hsb.trans w4.1)
      · exact Wk.drop _ (hsb.trans w4.1)
      · rw [hacc] at w4
        exact (w4.frozen (by omega)).trans (Wk.drop _ hsb)
    · obtain ⟨hlt, hxk, hd2⟩ := drop_cons hd
      have hk := ihk y (by rw [← hxk]; exact List.getElem_mem hlt)
      rw [List.map_cons] at hR
      generalize placeAt e q (.mk tx tk) y.toNat = tr at *
      (repeat' (first | simp [go_sem, X_region, *] | simp (disch := omega) only [om, *] | ((first | refine XC_split ?_ ?_ | refine XG_true ?_ ?_ | refine XG_false ?_ ?_ | refine XRg_true ?_ ?_ | refine XRg_false ?_ ?_) <;> intro hc <;> (try simp only [bl] at hc) <;> (try (exfalso; omega))) | refine XD_w [] [] [] (fun _ => none) mixed (by decide +kernel) (sub_none _) ?_ | refine Pure.call (hk) ?_ | refine ⟨_, Pure.at (hk), ?_⟩ | refine ⟨_, hk, ?_⟩ | refine PureAt.call (hk) ?_ | fail))
      refine Own.push2 (x := tr) (enc := cTr) hown (by simp [go_sem]) und43 zr45 by45 (by simp [go_sem]) (by simp [go_sem]; rfl) ?_ (by omega) (by omega) fun a1 h1 hown1 hkeep1 => ?_
      · obtain ⟨yy, kk⟩ := tr
        rw [cTr_mk]
        rfl
      have k9 := hown1.1 b9 _ (upd_same _ _ _)
      have hl1 : (acc ++ [tr]).length = i + 1 := by simp [hacc]
      rw [hl1] at hown1
      obtain ⟨gb, rfl⟩ : ∃ gb, a1 = .row gb 6 0 (i + 1) := by
        rcases hown1.2 with ⟨h0, _⟩ | ⟨gb, og, h0, _⟩
        · omega
        · exact ⟨gb, h0⟩
      (repeat' (first | simp [go_sem, X_region, *] | simp (disch := omega) only [om, *] | ((first | refine XC_split ?_ ?_ | refine XG_true ?_ ?_ | refine XG_false ?_ ?_ | refine XRg_true ?_ ?_ | refine XRg_false ?_ ?_) <;> intro hc <;> (try simp only [bl] at hc) <;> (try (exfalso; omega))) | refine XD_w [] [] [] (fun _ => none) mixed (by decide +kernel) (sub_none _) ?_ | fail))
      have w5 := own_other (o2 := ⟨45, 6, 1, fun i' j' => if i' = 0 ∧ 5 ≤ j' ∧ j' < 6 then .row gb 6 0 (i + 1) else ob.f i' j'⟩) hown1 (upd_same _ _ _)
      rw [upd_upd] at w5
      exact ⟨_, Nat.lt_succ_self _, hJ.out _ _ _ ⟨(by (repeat (refine fr_upd (by decide) ?_)); exact hfr), i + 1, rk, acc ++ [tr], ob7, ob8, _, .row gb 6 0 (i + 1), rfl, by omega, hd2, by rw [← hR]; simp, by simp [go_sem, *], hl1, by rw [hl1]; exact w5, ⟨o1, o2, o3, v0, v1, v2, v3, v4, v5⟩, ⟨p1, p2, p3⟩, rfl, rfl, rfl, by simp [f0], by simp [f1], by simp [f2], by simp [f3], by simp [f4], by simp⟩⟩
end Go.Proofs.YtmalhikcdideoaaDoor

set_option linter.unusedVariables false
set_option linter.unusedSimpArgs false
namespace Go.Proofs.YtmalhikcdideoaaDoor
open Go Sl
attribute [local irreducible] XRange LpQ XR XRo XRg XRQ putQ XFv XL XW2 wQ putW X XO XOp XH XHo XW SeqQ BlkQ XOQ XHQ NrmQ XC XM XG XHM XHG XD CallK
open Go.RowKit
theorem eqi_ok (l m : List Int) : Pure Tryd.prog 69 [encL 1 cI l, encL 1 cI m] (B (decide (l = m))) := by
  generalize hR : B (decide (l = m)) = R
  intro h; refine CallK.lens fun hlen => ?_; have hlen := (hlen _ (by simp only [List.mem_cons, true_or, or_true] : (encL 1 cI l) ∈ _)).encL; refine callK_body Tryd.func69 rfl (by rw [nt69]; simp) ?_; rw [nt69, rs69]
  by_cases hlm : l.length = m.length
  · (repeat' (first | simp [go_sem, X_region, *] | simp (disch := omega) only [om, *] | ((first | refine XC_split ?_ ?_ | refine XG_true ?_ ?_ | refine XG_false ?_ ?_ | refine XRg_true ?_ ?_ | refine XRg_false ?_ ?_) <;> intro hc <;> (try simp only [bl] at hc) <;> (try (exfalso; omega))) | refine XD_w [] [] [] (fun _ => none) mixed (by decide +kernel) (sub_none _) ?_ | (intro bk hbk; (try simp only [go_sem] at hbk))))
    refine X_lp (fun n T h' => ∃ (i : Nat) (r r2 : List Int), n = r.length ∧ i ≤ l.length ∧ l.drop i = r ∧ m.drop i = r2 ∧ T 13 = I i ∧ B (decide (r = r2)) = R ∧ T 0 = encL 1 cI l ∧ T 1 = encL 1 cI m ∧ T 12 = I l.length ∧ h' = h) l.length ⟨0, l, m, by simp [go_sem, hR, hlm]⟩ ?_
    clear hR; rintro J hJ n T h' ⟨i, r, r2, rfl, hi, hd, hd', h8, hR, h0, h1, h7, rfl⟩
    rcases r with _ | ⟨x, r⟩
    · have hlt := drop_nil hd
      rcases r2 with _ | ⟨y, r2⟩
      · (repeat' (first | simp [go_sem, X_region, *] | simp (disch := omega) only [om, *] | ((first | refine XC_split ?_ ?_ | refine XG_true ?_ ?_ | refine XG_false ?_ ?_ | refine XRg_true ?_ ?_ | refine XRg_false ?_ ?_) <;> intro hc <;> (try simp only [bl] at hc) <;> (try (exfalso; omega))) | refine XD_w [] [] [] (fun _ => none) mixed (by decide +kernel) (sub_none _) ?_ | (intro bk hbk; (try simp only [go_sem] at hbk))))
        all_goals (subst hR; exact Wk.of_eq (by simp))
      · obtain ⟨hlt2, _⟩ := drop_cons hd'
        omega
    · obtain ⟨hlt, hx, hd2⟩ := drop_cons hd
      rcases r2 with _ | ⟨y, r2⟩
      · have hlt2 := drop_nil hd'
        omega
      · obtain ⟨hlt2, hx2, hd2'⟩ := drop_cons hd'
        by_cases he : x = y
        · (repeat' (first | simp [go_sem, X_region, *] | simp (disch := omega) only [om, *] | ((first | refine XC_split ?_ ?_ | refine XG_true ?_ ?_ | refine XG_false ?_ ?_ | refine XRg_true ?_ ?_ | refine XRg_false ?_ ?_) <;> intro hc <;> (try simp only [bl] at hc) <;> (try (exfalso; omega))) | refine XD_w [] [] [] (fun _ => none) mixed (by decide +kernel) (sub_none _) ?_ | (intro bk hbk; (try simp only [go_sem] at hbk))))
          exact ⟨_, by omega, hJ.out _ _ _ ⟨i + 1, r, r2, rfl, by omega, hd2, hd2', by simp [go_sem, *], by rw [← hR, he]; simp, by simp [go_sem, *], by simp [go_sem, *], by simp [go_sem, *], rfl⟩⟩
        · (repeat' (first | simp [go_sem, X_region, *] | simp (disch := omega) only [om, *] | ((first | refine XC_split ?_ ?_ | refine XG_true ?_ ?_ | refine XG_false ?_ ?_ | refine XRg_true ?_ ?_ | refine XRg_false ?_ ?_) <;> intro hc <;> (try simp only [bl] at hc) <;> (try (exfalso; omega))) | refine XD_w [] [] [] (fun _ => none) mixed (by decide +kernel) (sub_none _) ?_ | (intro bk hbk; (try simp only [go_sem] at hbk))))
          all_goals (subst hR; exact Wk.of_eq (by simp [he]))
  · have hne : ¬ l = m := fun e => hlm (by rw [e])
    (repeat' (first | simp [go_sem, X_region, *] | simp (disch := omega) only [om, *] | ((first | refine XC_split ?_ ?_ | refine XG_true ?_ ?_ | refine XG_false ?_ ?_ | refine XRg_true ?_ ?_ | refine XRg_false ?_ ?_) <;> intro hc <;> (try simp only [bl] at hc) <;> (try (exfalso; omega))) | refine XD_w [] [] [] (fun _ => none) mixed (by decide +kernel) (sub_none _) ?_ | (intro bk hbk; (try simp only [go_sem] at hbk))))
    subst hR
    exact Wk.of_eq (by simp [*])
def eqNd (x y : Nd) : Bool := decide (x.op = y.op ∧ x.kd = y.kd ∧ x.n = y.n ∧ x.nm = y.nm ∧ x.kids = y.kids)
theorem eqNd_iff (x y : Nd) : eqNd x y = true ↔ x = y := by
  unfold eqNd
  rw [decide_eq_true_eq]
  constructor
  · rintro ⟨h1, h2, h3, h4, h5⟩
    cases x
    cases y
    simp only at h1 h2 h3 h4 h5
    rw [h1, h2, h3, h4, h5]
  · rintro rfl
    exact ⟨rfl, rfl, rfl, rfl, rfl⟩
theorem own_two {h h' : Hp} {b1 b2 : Nat} {o1 o2 : Ob} (h1 : h b1 = none) (h2 : h b2 = none) : Sub h (upd (upd h b1 (some o1)) b2 (some o2)) := Sub.upd h2 (Sub.upd h1 (Sub.refl _))
set_option maxHeartbeats 4000000 in
theorem eqn_ok (x y : Nd) : Pure Tryd.prog 68 [aggL (cNd x), aggL (cNd y)] (B (eqNd x y)) := by
  have hk := eqi_ok x.kids y.kids
  generalize hR : eqNd x y = R
  unfold eqNd at hR
  obtain ⟨op, kids, kd, n, nm⟩ := x
  obtain ⟨op', kids', kd', n', nm'⟩ := y
  dsimp only at hR hk
  simp only [cNd]
  intro h; refine callK_body Tryd.func68 rfl (by rw [nt68]; simp) ?_; rw [nt68, rs68]
  by_cases q1 : op = op'
  case neg =>
    have hRf : R = false := by rw [← hR]; simp [q1]
    clear hR
    subst hRf
    (repeat' (first | simp [go_sem, X_region, *] | simp (disch := omega) only [om, *] | ((first | refine XC_split ?_ ?_ | refine XG_true ?_ ?_ | refine XG_false ?_ ?_ | refine XRg_true ?_ ?_ | refine XRg_false ?_ ?_) <;> intro hc <;> (try simp only [bl] at hc) <;> (try (exfalso; omega))) | refine XD_w [] [] [] (fun _ => none) mixed (by decide +kernel) (sub_none _) ?_ | refine Pure.call (hk) ?_ | refine ⟨_, Pure.at (hk), ?_⟩ | refine ⟨_, hk, ?_⟩ | refine PureAt.call (hk) ?_ | fail))
    intro b1 hb1 b2 n1 n2 hb2
    (repeat' (first | simp [go_sem, X_region, *] | simp (disch := omega) only [om, *] | ((first | refine XC_split ?_ ?_ | refine XG_true ?_ ?_ | refine XG_false ?_ ?_ | refine XRg_true ?_ ?_ | refine XRg_false ?_ ?_) <;> intro hc <;> (try simp only [bl] at hc) <;> (try (exfalso; omega))) | refine XD_w [] [] [] (fun _ => none) mixed (by decide +kernel) (sub_none _) ?_ | refine Pure.call (hk) ?_ | refine ⟨_, Pure.at (hk), ?_⟩ | refine ⟨_, hk, ?_⟩ | refine PureAt.call (hk) ?_ | fail))
    refine Wk.fin (Sub.upd hb2 (Sub.upd hb1 (Sub.refl _))) (by simp [*])
  by_cases q2 : kd = kd'
  case neg =>
    have hRf : R = false := by rw [← hR]; simp [q2]
    clear hR
    subst hRf
    (repeat' (first | simp [go_sem, X_region, *] | simp (disch := omega) only [om, *] | ((first | refine XC_split ?_ ?_ | refine XG_true ?_ ?_ | refine XG_false ?_ ?_ | refine XRg_true ?_ ?_ | refine XRg_false ?_ ?_) <;> intro hc <;> (try simp only [bl] at hc) <;> (try (exfalso; omega))) | refine XD_w [] [] [] (fun _ => none) mixed (by decide +kernel) (sub_none _) ?_ | refine Pure.call (hk) ?_ | refine ⟨_, Pure.at (hk), ?_⟩ | refine ⟨_, hk, ?_⟩ | refine PureAt.call (hk) ?_ | fail))
    intro b1 hb1 b2 n1 n2 hb2
    (repeat' (first | simp [go_sem, X_region, *] | simp (disch := omega) only [om, *] | ((first | refine XC_split ?_ ?_ | refine XG_true ?_ ?_ | refine XG_false ?_ ?_ | refine XRg_true ?_ ?_ | refine XRg_false ?_ ?_) <;> intro hc <;> (try simp only [bl] at hc) <;> (try (exfalso; omega))) | refine XD_w [] [] [] (fun _ => none) mixed (by decide +kernel) (sub_none _) ?_ | refine Pure.call (hk) ?_ | refine ⟨_, Pure.at (hk), ?_⟩ | refine ⟨_, hk, ?_⟩ | refine PureAt.call (hk) ?_ | fail))
    refine Wk.fin (Sub.upd hb2 (Sub.upd hb1 (Sub.refl _))) (by simp [*])
  by_cases q3 : n = n'
  case neg =>
    have hRf : R = false := by rw [← hR]; simp [q3]
    clear hR
    subst hRf
    (repeat' (first | simp [go_sem, X_region, *] | simp (disch := omega) only [om, *] | ((first | refine XC_split ?_ ?_ | refine XG_true ?_ ?_ | refine XG_false ?_ ?_ | refine XRg_true ?_ ?_ | refine XRg_false ?_ ?_) <;> intro hc <;> (try simp only [bl] at hc) <;> (try (exfalso; omega))) | refine XD_w [] [] [] (fun _ => none) mixed (by decide +kernel) (sub_none _) ?_ | refine Pure.call (hk) ?_ | refine ⟨_, Pure.at (hk), ?_⟩ | refine ⟨_, hk, ?_⟩ | refine PureAt.call (hk) ?_ | fail))
    intro b1 hb1 b2 n1 n2 hb2
    (repeat' (first | simp [go_sem, X_region, *] | simp (disch := omega) only [om, *] | ((first | refine XC_split ?_ ?_ | refine XG_true ?_ ?_ | refine XG_false ?_ ?_ | refine XRg_true ?_ ?_ | refine XRg_false ?_ ?_) <;> intro hc <;> (try simp only [bl] at hc) <;> (try (exfalso; omega))) | refine XD_w [] [] [] (fun _ => none) mixed (by decide +kernel) (sub_none _) ?_ | refine Pure.call (hk) ?_ | refine ⟨_, Pure.at (hk), ?_⟩ | refine ⟨_, hk, ?_⟩ | refine PureAt.call (hk) ?_ | fail))
    refine Wk.fin (Sub.upd hb2 (Sub.upd hb1 (Sub.refl _))) (by simp [*])
  by_cases q4 : nm = nm'
  case neg =>
    have hRf : R = false := by rw [← hR]; simp [q4]
    clear hR
    subst hRf
    (repeat' (first | simp [go_sem, X_region, *] | simp (disch := omega) only [om, *] | ((first | refine XC_split ?_ ?_ | refine XG_true ?_ ?_ | refine XG_false ?_ ?_ | refine XRg_true ?_ ?_ | refine XRg_false ?_ ?_) <;> intro hc <;> (try simp only [bl] at hc) <;> (try (exfalso; omega))) | refine XD_w [] [] [] (fun _ => none) mixed (by decide +kernel) (sub_none _) ?_ | refine Pure.call (hk) ?_ | refine ⟨_, Pure.at (hk), ?_⟩ | refine ⟨_, hk, ?_⟩ | refine PureAt.call (hk) ?_ | fail))
    intro b1 hb1 b2 n1 n2 hb2
    (repeat' (first | simp [go_sem, X_region, *] | simp (disch := omega) only [om, *] | ((first | refine XC_split ?_ ?_ | refine XG_true ?_ ?_ | refine XG_false ?_ ?_ | refine XRg_true ?_ ?_ | refine XRg_false ?_ ?_) <;> intro hc <;> (try simp only [bl] at hc) <;> (try (exfalso; omega))) | refine XD_w [] [] [] (fun _ => none) mixed (by decide +kernel) (sub_none _) ?_ | refine Pure.call (hk) ?_ | refine ⟨_, Pure.at (hk), ?_⟩ | refine ⟨_, hk, ?_⟩ | refine PureAt.call (hk) ?_ | fail))
    refine Wk.fin (Sub.upd hb2 (Sub.upd hb1 (Sub.refl _))) (by simp [*])
  have hRf : R = decide (kids = kids') := by rw [← hR]; simp [q1, q2, q3, q4]
  rw [← hRf] at hk
  clear hR hRf
  subst q1 q2 q3 q4
  (repeat' (first | simp [go_sem, X_region, *] | simp (disch := omega) only [om, *] | ((first | refine XC_split ?_ ?_ | refine XG_true ?_ ?_ | refine XG_false ?_ ?_ | refine XRg_true ?_ ?_ | refine XRg_false ?_ ?_) <;> intro hc <;> (try simp only [bl] at hc) <;> (try (exfalso; omega))) | refine XD_w [] [] [] (fun _ => none) mixed (by decide +kernel) (sub_none _) ?_ | refine Pure.call (hk) ?_ | refine ⟨_, Pure.at (hk), ?_⟩ | refine ⟨_, hk, ?_⟩ | refine PureAt.call (hk) ?_ | fail))
  intro b1 hb1 b2 n1 n2 hb2
  (repeat' (first | simp [go_sem, X_region, *] | simp (disch := omega) only [om, *] | ((first | refine XC_split ?_ ?_ | refine XG_true ?_ ?_ | refine XG_false ?_ ?_ | refine XRg_true ?_ ?_ | refine XRg_false ?_ ?_) <;> intro hc <;> (try simp only [bl] at hc) <;> (try (exfalso; omega))) | refine XD_w [] [] [] (fun _ => none) mixed (by decide +kernel) (sub_none _) ?_ | refine Pure.call (hk) ?_ | refine ⟨_, Pure.at (hk), ?_⟩ | refine ⟨_, hk, ?_⟩ | refine PureAt.call (hk) ?_ | fail))
  refine Wk.fin (Sub.upd hb2 (Sub.upd hb1 (Sub.refl _))) (by simp [*])
def eqE : List Nd → List Nd → Bool
  | [], [] => true
  | x :: a, y :: b => eqNd x y && eqE a b
  | _, _ => false
theorem eqE_iff : ∀ a b : List Nd, eqE a b = true ↔ a = b
  | [], [] => by simp [eqE]
  | [], y :: b => by simp [eqE]
  | x :: a, [] => by simp [eqE]
  | x :: a, y :: b => by
    unfold eqE
    rw [Bool.and_eq_true, eqNd_iff, eqE_iff a b, List.cons.injEq]
set_option maxHeartbeats 4000000 in
theorem eqfn_ok (a b : List Nd) : Pure Tryd.prog 67 [encL 5 cNd a, encL 5 cNd b, .v (.func (.func 68) #[] #[])] (B (eqE a b)) := by
  have hcl : callable Tryd.prog 68 = true := by decide +kernel
  generalize hR : eqE a b = R
  intro h; refine CallK.lens fun hlen => ?_; have hlen := (hlen _ (by simp only [List.mem_cons, true_or, or_true] : (encL 5 cNd a) ∈ _)).encL; refine callK_body Tryd.func67 rfl (by rw [nt67]; simp) ?_; rw [nt67, rs67]
  by_cases hlm : a.length = b.length
  · (repeat' (first | simp [go_sem, X_region, *] | simp (disch := omega) only [om, *] | ((first | refine XC_split ?_ ?_ | refine XG_true ?_ ?_ | refine XG_false ?_ ?_ | refine XRg_true ?_ ?_ | refine XRg_false ?_ ?_) <;> intro hc <;> (try simp only [bl] at hc) <;> (try (exfalso; omega))) | refine XD_w [] [] [] (fun _ => none) mixed (by decide +kernel) (sub_none _) ?_ | fail))
    refine X_lpF (fun i => (6 ≤ i ∧ i ≤ 9) ∨ (17 ≤ i ∧ i ≤ 31)) (fun n T g => ∃ (i : Nat) (r r2 : List Nd), n = r.length ∧ i ≤ a.length ∧ a.drop i = r ∧ b.drop i = r2 ∧ T 17 = I i ∧ eqE r r2 = R ∧ Sub h g) a.length ⟨0, a, b, rfl, by omega, rfl, rfl, by simp [go_sem], hR, Sub.refl _⟩ ?_
    clear hR; rintro J hJ n T g hfr ⟨i, r, r2, rfl, hi, hd, hd', t17, hR, hsub⟩
    rcases r with _ | ⟨x, r⟩
    · have hlt := drop_nil hd
      rcases r2 with _ | ⟨y, r2⟩
      · rw [eqE] at hR
        subst hR
        (repeat' (first | simp [go_sem, X_region, *] | simp (disch := omega) only [om, *] | ((first | refine XC_split ?_ ?_ | refine XG_true ?_ ?_ | refine XG_false ?_ ?_ | refine XRg_true ?_ ?_ | refine XRg_false ?_ ?_) <;> intro hc <;> (try simp only [bl] at hc) <;> (try (exfalso; omega))) | refine XD_w [] [] [] (fun _ => none) mixed (by decide +kernel) (sub_none _) ?_ | fail))
        exact Wk.drop _ hsub
      · obtain ⟨hlt2, _⟩ := drop_cons hd'
        omega
    · obtain ⟨hlt, hx, hd2⟩ := drop_cons hd
      rcases r2 with _ | ⟨y, r2⟩
      · have hlt2 := drop_nil hd'
        omega
      · obtain ⟨hlt2, hx2, hd2'⟩ := drop_cons hd'
        have he := eqn_ok x y
        rw [eqE] at hR
        cases hq : eqNd x y with
        | true =>
          rw [hq, Bool.true_and] at hR
          rw [hq] at he
          (repeat' (first | simp [go_sem, X_region, *] | simp (disch := omega) only [om, *] | ((first | refine XC_split ?_ ?_ | refine XG_true ?_ ?_ | refine XG_false ?_ ?_ | refine XRg_true ?_ ?_ | refine XRg_false ?_ ?_) <;> intro hc <;> (try simp only [bl] at hc) <;> (try (exfalso; omega))) | refine XD_w [] [] [] (fun _ => none) mixed (by decide +kernel) (sub_none _) ?_ | refine Pure.call (he) ?_ | refine ⟨_, Pure.at (he), ?_⟩ | refine ⟨_, he, ?_⟩ | refine PureAt.call (he) ?_ | fail))
          intro b8 hb8 b9 n1 n2 hb9
          (repeat' (first | simp [go_sem, X_region, *] | simp (disch := omega) only [om, *] | ((first | refine XC_split ?_ ?_ | refine XG_true ?_ ?_ | refine XG_false ?_ ?_ | refine XRg_true ?_ ?_ | refine XRg_false ?_ ?_) <;> intro hc <;> (try simp only [bl] at hc) <;> (try (exfalso; omega))) | refine XD_w [] [] [] (fun _ => none) mixed (by decide +kernel) (sub_none _) ?_ | refine Pure.call (he) ?_ | refine ⟨_, Pure.at (he), ?_⟩ | refine ⟨_, he, ?_⟩ | refine PureAt.call (he) ?_ | fail))
          exact ⟨_, Nat.lt_succ_self _, hJ.out _ _ _ ⟨(by (repeat (refine fr_upd (by decide) ?_)); exact hfr), i + 1, r, r2, rfl, by omega, hd2, hd2', by simp [go_sem, *], hR, Sub.upd (sub_free hsub hb9) (Sub.upd (sub_free hsub hb8) hsub)⟩⟩
        | false =>
          rw [hq, Bool.false_and] at hR
          rw [hq] at he
          subst hR
          (repeat' (first | simp [go_sem, X_region, *] | simp (disch := omega) only [om, *] | ((first | refine XC_split ?_ ?_ | refine XG_true ?_ ?_ | refine XG_false ?_ ?_ | refine XRg_true ?_ ?_ | refine XRg_false ?_ ?_) <;> intro hc <;> (try simp only [bl] at hc) <;> (try (exfalso; omega))) | refine XD_w [] [] [] (fun _ => none) mixed (by decide +kernel) (sub_none _) ?_ | refine Pure.call (he) ?_ | refine ⟨_, Pure.at (he), ?_⟩ | refine ⟨_, he, ?_⟩ | refine PureAt.call (he) ?_ | fail))
          intro b8 hb8 b9 n1 n2 hb9
          (repeat' (first | simp [go_sem, X_region, *] | simp (disch := omega) only [om, *] | ((first | refine XC_split ?_ ?_ | refine XG_true ?_ ?_ | refine XG_false ?_ ?_ | refine XRg_true ?_ ?_ | refine XRg_false ?_ ?_) <;> intro hc <;> (try simp only [bl] at hc) <;> (try (exfalso; omega))) | refine XD_w [] [] [] (fun _ => none) mixed (by decide +kernel) (sub_none _) ?_ | refine Pure.call (he) ?_ | refine ⟨_, Pure.at (he), ?_⟩ | refine ⟨_, he, ?_⟩ | refine PureAt.call (he) ?_ | fail))
          exact Wk.drop _ (Sub.upd (sub_free hsub hb9) (Sub.upd (sub_free hsub hb8) hsub))
  · have hRf : R = false := by
      rw [← hR, Bool.eq_false_iff]
      intro he
      rw [eqE_iff] at he
      exact hlm (by rw [he])
    subst hRf
    (repeat' (first | simp [go_sem, X_region, *] | simp (disch := omega) only [om, *] | ((first | refine XC_split ?_ ?_ | refine XG_true ?_ ?_ | refine XG_false ?_ ?_ | refine XRg_true ?_ ?_ | refine XRg_false ?_ ?_) <;> intro hc <;> (try simp only [bl] at hc) <;> (try (exfalso; omega))) | refine XD_w [] [] [] (fun _ => none) mixed (by decide +kernel) (sub_none _) ?_ | fail))
theorem trequal_ok (a b : List Nd) : Pure Tryd.prog 30 [encL 5 cNd a, encL 5 cNd b] (B (eqE a b)) := by
  have he := eqfn_ok a b
  generalize eqE a b = R at *
  intro h; refine callK_body Tryd.func30 rfl (by rw [nt30]; simp) ?_; rw [nt30, rs30]
  (repeat' (first | simp [go_sem, X_region, *] | simp (disch := omega) only [om, *] | ((first | refine XC_split ?_ ?_ | refine XG_true ?_ ?_ | refine XG_false ?_ ?_ | refine XRg_true ?_ ?_ | refine XRg_false ?_ ?_) <;> intro hc <;> (try simp only [bl] at hc) <;> (try (exfalso; omega))) | refine XD_w [] [] [] (fun _ => none) mixed (by decide +kernel) (sub_none _) ?_ | refine Pure.call (he) ?_ | refine ⟨_, Pure.at (he), ?_⟩ | refine ⟨_, he, ?_⟩ | refine PureAt.call (he) ?_ | fail))
end Go.Proofs.YtmalhikcdideoaaDoor

set_option linter.unusedVariables false
set_option linter.unusedSimpArgs false
namespace Go.Proofs.YtmalhikcdideoaaDoor
open Go Sl
attribute [local irreducible] XRange LpQ XR XRo XRg XRQ putQ XFv XL XW2 wQ putW X XO XOp XH XHo XW SeqQ BlkQ XOQ XHQ NrmQ XC XM XG XHM XHG XD CallK
open Go.RowKit
theorem d_ptr : Tryd.prog.underlying 96 = some (.pointer 99) := by kernel_rfl
theorem d_uns : Tryd.prog.underlying 176 = some .unsafePointer := by kernel_rfl
theorem lies_self {P : Program} {e : TypeId} {s d count : Nat} (hc : P.cellsOf e = s) (hs : 0 < s) (hf : sameLayout P P.depth e e = true) (hd : P.depth = d + 1) (hn : 1 ≤ count) : liesAt P P.depth e count 0 e 1 = true := by
  have h1 : rowAt P (sameLayout P P.depth · e) P.depth e count 0 1 = true := by
    rw [show rowAt P (sameLayout P P.depth · e) P.depth = rowAt P (sameLayout P P.depth · e) (d + 1) by rw [hd]]
    unfold rowAt
    have hs0 : s ≠ 0 := by omega
    simp [hc, hs0, hf, hn]
  have h2 : liesAt P P.depth e count 0 e 1 = liesAt P (d + 1) e count 0 e 1 := by rw [hd]
  rw [h2]
  unfold liesAt
  rw [h1]
  rfl
set_option maxHeartbeats 1000000 in
set_option maxRecDepth 100000 in
theorem check_fresh (b n : Nat) (w : World) (h0 : w.cell? ⟨b, 0, none⟩ = some (.pointer none)) (hsh : w.shape? b = some (99, n)) (hn : 2 ≤ n) (hfz : w.frozen? ⟨b, 0, none⟩ = false) :
    Calls Tryd.prog 99 #[.pointer (some ⟨b, 0, none⟩)] w fun e w' => e = .returned (.tuple #[]) ∧ w' = w.setCell ⟨b, 0, none⟩ (.pointer (some ⟨b, 0, none⟩)) := by
  go_enter Tryd.func99, Tryd.ntmps99
  obtain ⟨j, hj, hjs⟩ : ∃ j, Tryd.prog.info? 99 = some j ∧ j.size = 2 := Option.map_eq_some_iff.1 (by kernel_rfl : (Tryd.prog.info? 99).map (·.size) = some 2)
  go_wp2
  rw [Lib.run_to_unsafe w ⟨b, 0, none⟩ d_ptr d_uns hj (by rw [hjs]; decide) hsh (show 0 < n by omega)]
  simp only [Result.andThen]
  rw [Oper.upon_value]
  go_wp2
  rw [run_callFunc_extern Tryd.func125 (by kernel_rfl) (by kernel_rfl) (by kernel_rfl) (e := Extern.AbiNoEscape.same) (by kernel_rfl)]
  rw [Lib.run_noEscape]
  simp only [Result.andThen]
  rw [Oper.upon_value]
  go_wp2
  rw [Lib.run_from_unsafe w ⟨b, 0, none⟩ d_uns d_ptr hj hsh (lies_self (s := 2) (by kernel_rfl) (by decide) (by kernel_rfl) (d := Tryd.prog.depth - 1) (by kernel_rfl) (show 1 ≤ n / Tryd.prog.cellsOf 99 by rw [(by kernel_rfl : Tryd.prog.cellsOf 99 = 2)]; omega))]
  simp only [Result.andThen]
  rw [Oper.upon_value]
  go_wp2
  go_end0
  exact ⟨rfl, rfl⟩
set_option maxHeartbeats 1000000 in
set_option maxRecDepth 100000 in
theorem check_used (b : Nat) (w : World) (h0 : w.cell? ⟨b, 0, none⟩ = some (.pointer (some ⟨b, 0, none⟩))) :
    Calls Tryd.prog 99 #[.pointer (some ⟨b, 0, none⟩)] w fun e w' => e = .returned (.tuple #[]) ∧ w' = w := by
  go_enter Tryd.func99, Tryd.ntmps99
  obtain ⟨j, hj, hjs⟩ : ∃ j, Tryd.prog.info? 99 = some j ∧ j.size = 2 := Option.map_eq_some_iff.1 (by kernel_rfl : (Tryd.prog.info? 99).map (·.size) = some 2)
  go_wp2
  rw [Lib.run_neq_ptr_same w _ d_ptr hj]
  go_wp2
  go_end0
  exact ⟨rfl, rfl⟩
set_option maxHeartbeats 2000000 in
set_option maxRecDepth 100000 in
theorem string_run (b g cap : Nat) (l : List UInt8) (cells : Nat) (w : World) (hl0 : l ≠ []) (hcap : l.length ≤ cap) (h63 : l.length ≤ 9223372036854775807) (c0 : w.cell? ⟨b, 1, none⟩ = some (.slice (some ⟨g, 0, none⟩) l.length cap))
    (hsh : w.shape? g = some (5, cells)) (hn : l.length ≤ cells) (hcell : ∀ j x, l[j]? = some x → w.cell? ((⟨g, 0, none⟩ : Addr).add j) = some (.int .u8 x.toNat)) :
    Calls Tryd.prog 64 #[.pointer (some ⟨b, 0, none⟩)] w fun e w' => e = .returned (.string ⟨l.toArray⟩) ∧ w' = w.drew.freeze ⟨g, 0, none⟩ l.length := by
  have hl : l.length ≠ 0 := by simpa using hl0
  have c1 : w.drew.cell? ⟨b, 1, none⟩ = some (.slice (some ⟨g, 0, none⟩) l.length cap) := c0
  have hSD : (Builtin.unsafeSliceData_ #[97] 151 #[.slice (some ⟨g, 0, none⟩) l.length cap]).run Tryd.prog w.drew = .ok (.pointer (some ⟨g, 0, none⟩)) w.drew :=
    Lib.run_unsafeSliceData_row _ _ _ _ _ _ (by omega)
  have hUS : (Builtin.unsafeString_ #[151, 3] 9 #[.pointer (some ⟨g, 0, none⟩), .int .i64 l.length]).run Tryd.prog w.drew = .ok (.string ⟨l.toArray⟩) (w.drew.freeze ⟨g, 0, none⟩ l.length) :=
    Lib.run_unsafeString_row w.drew 151 3 9 5 (by kernel_rfl) (by kernel_rfl) g cells hsh l hl0 hn h63 hcell
  have mixed := mixed
  go_enter Tryd.func64, Tryd.ntmps64
  go_wp2
  go_region_o
  all_goals (go_wp2; go_ret; exact ⟨rfl, rfl⟩)
set_option maxHeartbeats 2000000 in
set_option maxRecDepth 100000 in
theorem string_nil (b : Nat) (w : World) (c0 : w.cell? ⟨b, 1, none⟩ = some (.slice none 0 0)) :
    Calls Tryd.prog 64 #[.pointer (some ⟨b, 0, none⟩)] w fun e w' => e = .returned (.string ⟨#[]⟩) ∧ w' = w.drew := by
  have c1 : w.drew.cell? ⟨b, 1, none⟩ = some (.slice none 0 0) := c0
  have hSD : (Builtin.unsafeSliceData_ #[97] 151 #[.slice none 0 0]).run Tryd.prog w.drew = .ok (.pointer none) w.drew := rfl
  have hUS : (Builtin.unsafeString_ #[151, 3] 9 #[.pointer none, .int .i64 0]).run Tryd.prog w.drew = .ok (.string ⟨#[]⟩) w.drew := Lib.run_unsafeString_none w.drew _ _ _ none
  have mixed := mixed
  go_enter Tryd.func64, Tryd.ntmps64
  go_wp2
  go_region_o
  all_goals (go_wp2; go_ret; exact ⟨rfl, rfl⟩)
end Go.Proofs.YtmalhikcdideoaaDoor

set_option linter.unusedVariables false
set_option linter.unusedSimpArgs false
namespace Go.Proofs.YtmalhikcdideoaaDoor
open Go Sl
attribute [local irreducible] XRange LpQ XR XRo XRg XRQ putQ XFv XL XW2 wQ putW X XO XOp XH XHo XW SeqQ BlkQ XOQ XHQ NrmQ XC XM XG XHM XHG XD CallK
open Go.RowKit
abbrev ptrV (b : Nat) : AV := .v (.pointer (some ⟨b, 0, none⟩))
@[go_sem] def cB (c : UInt8) : List AV := [U8 c]
/-- A builder of the call's own, above the heap h0: what was written. -/
structure BldO (b : Nat) (o : Ob) : Prop where
  ty : o.ty = 99
  s : o.s = 2
  n : o.n = 1
  f : o.f 0 0 = .v (.pointer none) ∨ o.f 0 0 = ptrV b
def Bld (h0 h : Hp) (b : Nat) (l : List UInt8) : Prop := h0 b = none ∧ ∃ o, BldO b o ∧ (l = [] → o.f 0 1 = .v (.slice none 0 0)) ∧ Own (upd h0 b (some o)) h (o.f 0 1) 5 1 l.length (cellsL cB l)
theorem Bld.fresh {h : Hp} {b : Nat} (hb : h b = none) : Bld h (upd h b (some ⟨99, 2, 1, fun _ j => .v (([.pointer none, .slice none 0 0] : List Value).getD j undef)⟩)) b [] :=
  ⟨hb, _, ⟨rfl, rfl, rfl, .inl rfl⟩, fun _ => rfl, Own.none⟩
theorem Bld.sub {h0 h : Hp} {b : Nat} {l : List UInt8} (x : Bld h0 h b l) : Sub h0 h := by
  obtain ⟨hb, o, _, _, hown⟩ := x
  exact fun c oc hc => hown.1 c oc (by rw [upd_ne _ _ (ne_free hb hc).2]; exact hc)
theorem upd_id {h : Hp} {b : Nat} {o : Ob} (hb : h b = some o) : upd h b (some o) = h := by
  funext c
  by_cases hc : c = b
  · subst hc; rw [upd_same, hb]
  · rw [upd_ne _ _ hc]
def setP (b : Nat) (o : Ob) : Ob := ⟨o.ty, 2, 1, fun i j => if i = 0 ∧ j = 0 then ptrV b else o.f i j⟩
theorem check_ok {h : Hp} {b : Nat} {o : Ob} (hb : h b = some o) (ho : BldO b o) : CallK Tryd.prog h 99 [ptrV b] fun r h' => ∃ o', h' = upd h b (some o') ∧ BldO b o' ∧ o'.f 0 1 = o.f 0 1 := by
  unfold CallK
  intro w vals hh ha
  obtain rfl : vals = #[.pointer (some ⟨b, 0, none⟩)] := by
    obtain ⟨u, e, r⟩ := ha.2 0 _ rfl
    cases r
    have h1 := ha.1
    apply Array.ext
    · simpa using h1
    · intro i h2 h3
      match i, h3 with
      | 0, _ => rw [Array.getElem?_eq_getElem h2] at e; simpa using e
  obtain ⟨c, hc, hsz, _, hcell⟩ := hh.cells hb (.inl (by rw [ho.n]; omega))
  rw [ho.n, ho.s] at hsz
  obtain ⟨x0, hx0, _, hr0⟩ := hcell 0 (by rw [ho.n]; omega) 0 (by rw [ho.s]; omega)
  have hx0' : c[0]? = some x0 := by simpa using hx0
  rw [ho.ty] at hc
  have hcl : w.cell? ⟨b, 0, none⟩ = some x0 := by simp only [World.cell?, hc]; exact hx0'
  rcases ho.f with hf | hf
  · rw [hf] at hr0
    cases hr0
    refine (check_fresh b c.size w hcl (by simp [World.shape?, hc]) (by omega) (by simp [World.frozen?, hc])).mono ?_
    rintro e w' ⟨rfl, rfl⟩
    have hs : (w.setCell ⟨b, 0, none⟩ (.pointer (some ⟨b, 0, none⟩))).heap[b]? = some (.cells (c.setIfInBounds 0 (.pointer (some ⟨b, 0, none⟩))) o.ty (0, 0)) := by
      rw [ho.ty]
      simp [World.setCell, Array.getElem?_modify, hc]
    have hoth : ∀ k, k ≠ b → k < w.heap.size → (w.setCell ⟨b, 0, none⟩ (.pointer (some ⟨b, 0, none⟩))).heap[k]? = w.heap[k]? := fun k hk _ => by
      simp [World.setCell, Array.getElem?_modify, Ne.symm hk]
    have hsize : w.heap.size ≤ (w.setCell ⟨b, 0, none⟩ (.pointer (some ⟨b, 0, none⟩))).heap.size := by simp [World.setCell]
    have hc2 : w.heap[b]? = some (.cells c o.ty (0, 0)) := by rw [ho.ty]; exact hc
    have hrel := relH_set (o' := setP b o) hh hb hc2 hs (by simp) hoth hsize rfl (by simpa [setP] using hsz) (by show 0 < 2; decide) fun i hi j hj => by
      have hi : i < 1 := hi
      obtain rfl : i = 0 := by omega
      have hj : j < 2 := hj
      rcases (show j = 0 ∨ j = 1 by omega) with rfl | rfl
      · exact ⟨.pointer (some ⟨b, 0, none⟩), by simp [setP, show 0 < c.size by omega], rfl, rfl⟩
      · obtain ⟨x1, hx1, h1, hr1⟩ := hcell 0 (by rw [ho.n]; omega) 1 (by rw [ho.s]; omega)
        exact ⟨x1, by simpa [setP] using hx1, h1, by simpa [setP] using hr1⟩
    have hst := stp_set (o' := setP b o) hb hc2 hs (by simp) hoth hsize rfl
    exact ⟨_, .tup 0 fun _ => .any, upd h b (some (setP b o)), rfl, ⟨setP b o, rfl, ⟨ho.ty, rfl, rfl, .inr rfl⟩, rfl⟩, ⟨#[], rfl, rfl, fun j hj => absurd hj (by omega)⟩, hrel, ⟨rfl, rfl, rfl⟩, hst⟩
  · rw [hf] at hr0
    cases hr0
    refine (check_used b w hcl).mono ?_
    rintro e w' ⟨rfl, rfl⟩
    exact ⟨_, .tup 0 fun _ => .any, h, rfl, ⟨o, (upd_id hb).symm, ho, rfl⟩, ⟨#[], rfl, rfl, fun j hj => absurd hj (by omega)⟩, hh, Io.refl _, Stp.refl _ _⟩
/-- What is read of a builder; nothing of what was made since h0 is the call's own any more. -/
theorem string_ok {h0 h : Hp} {b : Nat} {l : List UInt8} (x : Bld h0 h b l) (hl : l.length ≤ 140737488355328) : CallK Tryd.prog h 64 [ptrV b] fun r h' => r = S (bOf l) ∧ h' = h0 := by
  have hsub := x.sub
  obtain ⟨hb0, o, ho, hnil, hown⟩ := x
  have hb := hown.1 b o (upd_same _ _ _)
  unfold CallK
  intro w vals hh ha
  obtain rfl : vals = #[.pointer (some ⟨b, 0, none⟩)] := by
    obtain ⟨u, e, r⟩ := ha.2 0 _ rfl
    cases r
    have h1 := ha.1
    apply Array.ext
    · simpa using h1
    · intro i h2 h3
      match i, h3 with
      | 0, _ => rw [Array.getElem?_eq_getElem h2] at e; simpa using e
  obtain ⟨c, hc, hsz, _, hcell⟩ := hh.cells hb (.inl (by rw [ho.n]; omega))
  rw [ho.n, ho.s] at hsz
  obtain ⟨x1, hx1, _, hr1⟩ := hcell 0 (by rw [ho.n]; omega) 1 (by rw [ho.s]; omega)
  have hx1' : c[1]? = some x1 := by simpa [ho.s] using hx1
  have hcl : w.cell? ⟨b, 1, none⟩ = some x1 := by simp only [World.cell?, hc]; exact hx1'
  rcases l with _ | ⟨c0, l⟩
  · rw [hnil rfl] at hr1
    cases hr1
    refine (string_nil b w hcl).mono ?_
    rintro e w' ⟨rfl, rfl⟩
    exact ⟨_, _, h0, rfl, ⟨rfl, rfl⟩, rfl, (relH_forget hh hsub).grow (Nat.le_refl _) (fun _ _ => rfl), ⟨rfl, rfl, rfl⟩, (stp_forget hsub).trans (Stp.grow (relH_forget hh hsub) (Nat.le_refl _) fun _ _ => rfl)⟩
  · rcases hown with ⟨_, ⟨hz, _⟩ | ⟨g, og, hrow, hg0, hg, s1, s2, s3, hpos, hf⟩⟩
    · cases hz
    rw [hrow] at hr1
    obtain ⟨cap, rfl, hcap, hlt, _, hsize⟩ := hr1
    obtain ⟨cg, hcg, hgsz, _, hgc⟩ := hh.cells hg (.inl (by omega))
    rw [s1, s3, Nat.mul_one] at hgsz
    rw [s2] at hcg
    have hw0 : ((0 : Nat) * 1) = 0 := rfl
    rw [hw0] at hcl
    refine (string_run b g cap (c0 :: l) cg.size w (by simp) hcap (by omega) hcl (by simp [World.shape?, hcg]) hgsz (fun j y hy => ?_)).mono ?_
    · have hj : j < (c0 :: l).length := (List.getElem?_eq_some_iff.1 hy).1
      obtain ⟨z, hz, _, hrz⟩ := hgc j (by omega) 0 (by omega)
      rw [hf j hj 0 (by omega), cellsL_at hy] at hrz
      cases hrz
      rw [s1] at hz
      have : ((⟨g, 0, none⟩ : Addr).add j) = ⟨g, j, none⟩ := by
        unfold Addr.add
        by_cases hj0 : j = 0 <;> simp [hj0]
      rw [this]
      simp only [World.cell?, hcg]
      simpa using hz
    · rintro e w' ⟨rfl, rfl⟩
      have hoth : ∀ k, k ≠ g → (w.drew.freeze ⟨g, 0, none⟩ (c0 :: l).length).heap[k]? = w.heap[k]? := fun k hk => by
        unfold World.freeze
        split
        · rfl
        · have e : w.drew.heap = w.heap := rfl
          simp [Array.getElem?_modify, Ne.symm hk, e]
      have hsz2 : w.heap.size ≤ (w.drew.freeze ⟨g, 0, none⟩ (c0 :: l).length).heap.size := by
        unfold World.freeze
        split
        · exact Nat.le_refl _
        · have e : w.drew.heap = w.heap := rfl
          simp [e]
      have h0g : h0 g = none := by
        rw [← hg0, upd_ne _ _ (fun e => by rw [e, upd_same] at hg0; cases hg0)]
      have st : Stp w h (w.drew.freeze ⟨g, 0, none⟩ (c0 :: l).length) h0 := by
        refine ⟨hsz2, fun k _ hk => hoth k (fun e => by rw [e, hg] at hk; cases hk), fun k _ hk => sub_none_of hsub hk, fun k o' _ hk => ?_⟩
        have hkg : k ≠ g := fun e => by rw [e, h0g] at hk; cases hk
        exact ⟨o', hsub k o' hk, rfl, fun c fr hcc => ⟨c, fr, (hoth k hkg).trans hcc, rfl⟩⟩
      have hrel : RelH (w.drew.freeze ⟨g, 0, none⟩ (c0 :: l).length) h0 := by
        refine ⟨fun k o' hk => ?_, hh.glob.step st⟩
        have hkg : k ≠ g := fun e => by rw [e, h0g] at hk; cases hk
        exact (hh.own k o' (hsub k o' hk)).step st (hoth k hkg)
      refine ⟨_, _, h0, rfl, ⟨rfl, rfl⟩, rfl, hrel, ?_, st⟩
      unfold World.freeze
      split
      · exact ⟨rfl, rfl, rfl⟩
      · exact ⟨rfl, rfl, rfl⟩
end Go.Proofs.YtmalhikcdideoaaDoor

set_option linter.unusedVariables false
set_option linter.unusedSimpArgs false
namespace Go.Proofs.YtmalhikcdideoaaDoor
open Go Sl
attribute [local irreducible] XRange LpQ XR XRo XRg XRQ putQ XFv XL XW2 wQ putW X XO XOp XH XHo XW SeqQ BlkQ XOQ XHQ NrmQ XC XM XG XHM XHG XD CallK
theorem Own.congr {h0 h : Hp} {a : AV} {e : TypeId} {s n : Nat} {f g : Nat → Nat → AV} (o : Own h0 h a e s n f) (hfg : ∀ i, i < n → ∀ j, j < s → f i j = g i j) : Own h0 h a e s n g := by
  obtain ⟨hs, ho⟩ := o
  refine ⟨hs, ho.imp id ?_⟩
  rintro ⟨b, o, h1, h2, h3, h4, h5, h6, h7, h8⟩
  exact ⟨b, o, h1, h2, h3, h4, h5, h6, h7, fun i hi j hj => (h8 i hi j hj).trans (hfg i hi j hj)⟩
/-- An append of a text, whatever block it gives. -/
theorem Own.appendStr {P : Program} {N : Nat} {T : Nat → AV} {h0 h : Hp} {K : (Nat → AV) → Hp → Prop} {d : Option Tmp} {x y : Operand} {t u e : TypeId} {t' : TypeId} {p : String} {af : Array Edge} {g : Option (Nat × Bool)} {n by_ : Nat} {z : List Value} {f : Nat → Nat → AV} {s : ByteArray} {a : AV}
    (o : Own h0 h a e 1 n f) (ha : ev T x = a) (hne : a ≠ .e0) (hu : P.underlying t = some (.slice e)) (hu' : P.underlying u = some .string) (hz : zeroA P e = some (1, z)) (hb : bytesT P e = some by_) (hd : dOk N d = true) (hs : ev T y = .v (.string s)) (hm : (n + s.size) * by_ ≤ 140737488355328) (hm' : n + s.size ≤ 140737488355328)
    (hk : ∀ a' h', Own h0 h' a' e 1 (n + s.size) (fun i j => if i < n then f i j else bytesF s (i - n) j) → (∀ c oc, h c = some oc → a ≠ .row c 1 0 n → h' c = some oc) → K (putD T d a') h') : XW P N ⟨d, .call ⟨.builtin .append, #[x, y], #[t, u]⟩, t', p, af, g⟩ T h K := by
  have hsub := o.1
  unfold XW
  refine ⟨hd, .inr ⟨e, z, by_, s, hu, hu', hz, hb, hs, ?_⟩⟩
  rcases o with ⟨_, ⟨hn, ha' | ha'⟩ | ⟨b, ob, ha', hb0, h1, h2, h4, h5, hpos, h6⟩⟩
  · subst hn
    refine .inl ⟨ha.trans ha', by simpa using hm, by omega, fun h => hk _ _ ⟨hsub, .inl ⟨by omega, .inl rfl⟩⟩ (fun c oc hc _ => hc), fun hpos b hbn => hk _ _ ⟨Sub.upd ?_ hsub, .inr ⟨b, _, by simp, ?_, upd_same _ _ _, rfl, rfl, by simp, by omega, fun i hi j hj => by simp [bytesF]⟩⟩ (fun c oc hc _ => by rw [upd_ne _ _ (fun e => by subst e; rw [hc] at hbn; cases hbn)]; exact hc)⟩
    · exact sub_none_of hsub hbn
    · exact sub_none_of hsub hbn
  · exact absurd ha' hne
  · refine .inr ⟨b, n, ob, ha.trans ha', h1, h2, h4, h5, hm, hm', fun b' hb' => hk _ _ ⟨?_, .inr ⟨b', _, rfl, ?_, upd_same _ _ _, rfl, rfl, rfl, by omega, fun i hi j hj => ?_⟩⟩ (fun c oc hc hne => ?_)⟩
    · have hb'0 : h0 b' = Option.none := by
        rcases hb' with rfl | hb'
        · exact hb0
        · exact sub_none_of hsub hb'
      exact Sub.upd hb'0 (Sub.upd hb0 hsub)
    · rcases hb' with rfl | hb'
      · exact hb0
      · exact sub_none_of hsub hb'
    · show (if i < n then ob.f i j else bytesF s (i - n) j) = (if i < n then f i j else bytesF s (i - n) j)
      split
      · rw [h6 i (by omega) j hj]
      · rfl
    · have hcb : c ≠ b := fun e => hne (by rw [ha', e])
      have hcb' : c ≠ b' := by
        rcases hb' with rfl | hb'
        · exact hcb
        · intro e; subst e; rw [hc] at hb'; cases hb'
      rw [upd_ne _ _ hcb', upd_ne _ _ hcb]; exact hc
theorem write_ok {h0 h : Hp} {b : Nat} {l : List UInt8} (x : Bld h0 h b l) (s : ByteArray) (hne : l ≠ [] ∨ s.data.toList ≠ []) (hlen : l.length + s.size ≤ 140737488355328) :
    CallK Tryd.prog h 63 [ptrV b, S s] fun r h' => Bld h0 h' b (l ++ s.data.toList) := by
  obtain ⟨hb0, o, ho, hnil, hown⟩ := x
  have hb := hown.1 b o (upd_same _ _ _)
  refine callK_body Tryd.func63 rfl (by rw [nt63]; simp) ?_; rw [nt63, rs63]
  (repeat' (first | simp [go_sem, X_region, *] | simp (disch := omega) only [om, *] | ((first | refine XC_split ?_ ?_ | refine XG_true ?_ ?_ | refine XG_false ?_ ?_ | refine XRg_true ?_ ?_ | refine XRg_false ?_ ?_) <;> intro hc <;> (try simp only [bl] at hc) <;> (try (exfalso; omega))) | refine XD_w [] [] [] (fun _ => none) mixed (by decide +kernel) (sub_none _) ?_ | fail))
  refine CallK.mono (check_ok hb ho) ?_
  rintro r1 h1 ⟨o1, rfl, ho1, hf1⟩
  have own1 : Own (upd h0 b (some o1)) (upd h b (some o1)) (o1.f 0 1) 5 1 l.length (cellsL cB l) := by
    rw [hf1]
    have := hown.other (o2 := o1) (upd_same _ _ _) fun c hc e => by
      rcases hown with ⟨_, ⟨_, h2 | h2⟩ | ⟨g, og, h2, h3, _⟩⟩
      · rw [hc] at h2; cases h2
      · rw [hc] at h2; cases h2
      · rw [hc] at h2
        cases h2
        subst e
        rw [upd_same] at h3
        cases h3
    rwa [upd_upd] at this
  have hne0 : o1.f 0 1 ≠ .e0 := by
    rw [hf1]
    intro e
    by_cases hl : l = []
    · rw [hnil hl] at e; cases e
    · rcases hown with ⟨_, ⟨h1, _⟩ | ⟨g, og, h2, _⟩⟩
      · exact hl (List.length_eq_zero_iff.1 h1)
      · rw [h2] at e; cases e
  clear hown hf1
  generalize hh1 : upd h b (some o1) = h1 at *
  have hb1 : h1 b = some o1 := by rw [← hh1, upd_same]
  clear hh1
  have e1 := ho1.s
  have e2 := ho1.n
  obtain ⟨a, ha⟩ : ∃ a, o1.f 0 1 = a := ⟨_, rfl⟩
  rw [ha] at own1 hne0
  (repeat' (first | simp [go_sem, X_region, *] | simp (disch := omega) only [om, *] | ((first | refine XC_split ?_ ?_ | refine XG_true ?_ ?_ | refine XG_false ?_ ?_ | refine XRg_true ?_ ?_ | refine XRg_false ?_ ?_) <;> intro hc <;> (try simp only [bl] at hc) <;> (try (exfalso; omega))) | refine XD_w [] [] [] (fun _ => none) mixed (by decide +kernel) (sub_none _) ?_ | fail))
  refine Own.appendStr own1 (by simp [go_sem]) hne0 und97 und9 zr5 by5 (by simp [go_sem]) (s := s) (by simp [go_sem]) (by omega) (by omega) ?_
  rintro a' h2 own2 hk2
  have hb2 : h2 b = some o1 := own2.1 b o1 (upd_same _ _ _)
  have hpos : 0 < l.length + s.size := by
    rcases hne with h | h
    · have := List.length_pos_iff.2 h
      omega
    · have : 0 < s.data.toList.length := List.length_pos_iff.2 h
      have : s.size = s.data.toList.length := rfl
      omega
  have hgb : ∀ c, a' = .row c 1 0 (l.length + s.size) → c ≠ b := by
    rintro c hc rfl
    rcases own2 with ⟨_, ⟨h1, _⟩ | ⟨g, og, h1, h3, _⟩⟩
    · omega
    · rw [h1] at hc
      cases hc
      rw [upd_same] at h3
      cases h3
  obtain ⟨g, hg⟩ : ∃ g, a' = .row g 1 0 (l.length + s.size) := by
    rcases own2 with ⟨_, ⟨h1, _⟩ | ⟨g, og, h1, _⟩⟩
    · omega
    · exact ⟨g, h1⟩
  have hf0 := ho1.f
  subst hg
  (repeat' (first | simp [go_sem, X_region, *] | simp (disch := omega) only [om, *] | ((first | refine XC_split ?_ ?_ | refine XG_true ?_ ?_ | refine XG_false ?_ ?_ | refine XRg_true ?_ ?_ | refine XRg_false ?_ ?_) <;> intro hc <;> (try simp only [bl] at hc) <;> (try (exfalso; omega))) | refine XD_w [] [] [] (fun _ => none) mixed (by decide +kernel) (sub_none _) ?_ | fail))
  refine ⟨_, _, Wk.refl _ _, hb0, ⟨o1.ty, 2, 1, fun i' j' => if i' = 0 ∧ 1 ≤ j' ∧ j' < 2 then AV.row g 1 0 (l.length + s.size) else o1.f i' j'⟩, ⟨ho1.ty, rfl, rfl, ?_⟩, fun h => ?_, ?_⟩
  · simpa using hf0
  · rw [List.append_eq_nil_iff] at h
    rcases hne with h' | h'
    · exact absurd h.1 h'
    · exact absurd h.2 h'
  · have e1 := own2.other (o2 := ⟨o1.ty, 2, 1, fun i' j' => if i' = 0 ∧ 1 ≤ j' ∧ j' < 2 then AV.row g 1 0 (l.length + s.size) else o1.f i' j'⟩) (upd_same _ _ _) fun c hc => hgb c hc
    rw [upd_upd] at e1
    have e2 : (l ++ s.data.toList).length = l.length + s.size := by rw [List.length_append]; rfl
    rw [e2]
    refine Own.congr e1 fun i hi j hj => ?_
    obtain rfl : j = 0 := by omega
    by_cases hil : i < l.length
    · rw [if_pos hil, cellsL_at (x := l[i]) (by simp [hil]), cellsL_at (x := l[i]) (by rw [List.getElem?_append_left hil]; simp)]
    · have h3 : i - l.length < s.data.toList.length := by have : s.size = s.data.toList.length := rfl; omega
      rw [if_neg hil, cellsL_at (x := s.data.toList[i - l.length]) (by rw [List.getElem?_append_right (by omega)]; simp)]
      unfold bytesF
      rw [List.getD_eq_getElem?_getD, List.getElem?_eq_getElem h3]
      rfl
end Go.Proofs.YtmalhikcdideoaaDoor

set_option linter.unusedVariables false
set_option linter.unusedSimpArgs false
namespace Go.Proofs.YtmalhikcdideoaaDoor
open Go Sl
attribute [local irreducible] XRange LpQ XR XRo XRg XRQ putQ XFv XL XW2 wQ putW X XO XOp XH XHo XW SeqQ BlkQ XOQ XHQ NrmQ XC XM XG XHM XHG XD CallK
theorem vals_one {w : World} {h : Hp} {x : Value} {vals : Array Value} (ha : RdL w h [.v x] vals) : vals = #[x] := by
  obtain ⟨u, e, r⟩ := ha.2 0 _ rfl
  cases r
  have h1 := ha.1
  apply Array.ext
  · simpa using h1
  · intro i h2 h3
    match i, h3 with
    | 0, _ => rw [Array.getElem?_eq_getElem h2] at e; simpa using e
theorem tab_of {w : World} {h : Hp} (hh : RelH w h) : Lib.TabIs Tryd.prog w "internal/strconv.uint64pow10" .u64 Lib.pow10Tab := by
  obtain ⟨_, ⟨ty, fr, hc⟩, _⟩ := hh.glob (5, powL) (by simp [gl])
  have hg : Tryd.prog.globalNamed "internal/strconv.uint64pow10" = some 5 := by kernel_rfl
  have hc' : w.heap[5]? = some (Obj.cells powL.toArray ty fr) := hc
  unfold Lib.TabIs World.var?
  rw [hg, Option.bind_some, hc']
  rfl
theorem itoa_ok (n : Int) (h0 : -9223372036854775808 ≤ n) (h1 : n ≤ 9223372036854775807) : Pure Tryd.prog 98 [I n] (S ⟨(Lib.itoa n).toArray⟩) := by
  intro h
  unfold CallK
  intro w vals hh ha
  obtain rfl : vals = #[.int .i64 n] := vals_one ha
  refine (Any.strconv_Itoa Tryd.laysM171 n h0 h1 w (tab_of hh)).mono ?_
  rintro e w' ⟨rfl, k, os, rfl⟩
  have hb : ∀ b, b < w.heap.size → (Go.Sort.grow (w.drewN k) os).heap[b]? = w.heap[b]? := fun b hb => by
    have : (w.drewN k).heap = w.heap := rfl
    simp [Go.Sort.grow, this, Array.getElem?_append_left hb]
  have hs : w.heap.size ≤ (Go.Sort.grow (w.drewN k) os).heap.size := by
    have : (w.drewN k).heap = w.heap := rfl
    simp [Go.Sort.grow, this]
  exact ⟨_, _, h, rfl, ⟨rfl, rfl⟩, rfl, hh.grow hs hb, ⟨rfl, rfl, rfl⟩, Stp.grow hh hs hb⟩
def boolB (b : Bool) : ByteArray := if b then ⟨#[116, 114, 117, 101]⟩ else ⟨#[102, 97, 108, 115, 101]⟩
theorem fbool1_ok (b : Bool) : Pure Tryd.prog 100 [B b] (S (boolB b)) := by
  cases b
  · intro h; refine callK_body Tryd.func100 rfl (by rw [nt100]; simp) ?_; rw [nt100, rs100]
    ((repeat' (first | simp [go_sem, X_region, *] | simp (disch := omega) only [om, *] | ((first | refine XC_split ?_ ?_ | refine XG_true ?_ ?_ | refine XG_false ?_ ?_ | refine XRg_true ?_ ?_ | refine XRg_false ?_ ?_) <;> intro hc <;> (try simp only [bl] at hc) <;> (try (exfalso; omega))) | refine XD_w [] [] [] (fun _ => none) mixed (by decide +kernel) (sub_none _) ?_ | (intro bk hbk; (try simp only [go_sem] at hbk)))); all_goals (refine Wk.fin (by repeat (first | exact Sub.refl _ | refine Sub.upd (by simp [*]) ?_)) ?_; first | (simp [boolB, *]; done) | (simp only [boolB]; (repeat' (first | split | rfl | omega | (simp_all; done))); done) | (simp [boolB, *]; (repeat' (first | split | omega | (rw [Bool.eq_iff_iff]; simp; omega))); done) | (simp [boolB, *])))
  · intro h; refine callK_body Tryd.func100 rfl (by rw [nt100]; simp) ?_; rw [nt100, rs100]
    ((repeat' (first | simp [go_sem, X_region, *] | simp (disch := omega) only [om, *] | ((first | refine XC_split ?_ ?_ | refine XG_true ?_ ?_ | refine XG_false ?_ ?_ | refine XRg_true ?_ ?_ | refine XRg_false ?_ ?_) <;> intro hc <;> (try simp only [bl] at hc) <;> (try (exfalso; omega))) | refine XD_w [] [] [] (fun _ => none) mixed (by decide +kernel) (sub_none _) ?_ | (intro bk hbk; (try simp only [go_sem] at hbk)))); all_goals (refine Wk.fin (by repeat (first | exact Sub.refl _ | refine Sub.upd (by simp [*]) ?_)) ?_; first | (simp [boolB, *]; done) | (simp only [boolB]; (repeat' (first | split | rfl | omega | (simp_all; done))); done) | (simp [boolB, *]; (repeat' (first | split | omega | (rw [Bool.eq_iff_iff]; simp; omega))); done) | (simp [boolB, *])))
theorem fbool_ok (b : Bool) : Pure Tryd.prog 71 [B b] (S (boolB b)) := by
  intro h; refine callK_body Tryd.func71 rfl (by rw [nt71]; simp) ?_; rw [nt71, rs71]
  ((repeat' (first | simp [go_sem, X_region, *] | simp (disch := omega) only [om, *] | ((first | refine XC_split ?_ ?_ | refine XG_true ?_ ?_ | refine XG_false ?_ ?_ | refine XRg_true ?_ ?_ | refine XRg_false ?_ ?_) <;> intro hc <;> (try simp only [bl] at hc) <;> (try (exfalso; omega))) | refine XD_w [] [] [] (fun _ => none) mixed (by decide +kernel) (sub_none _) ?_ | refine Pure.call (fbool1_ok _) ?_ | refine ⟨_, Pure.at (fbool1_ok _), ?_⟩ | refine ⟨_, fbool1_ok _, ?_⟩ | refine PureAt.call (fbool1_ok _) ?_ | (intro bk hbk; (try simp only [go_sem] at hbk)))); all_goals (refine Wk.fin (by repeat (first | exact Sub.refl _ | refine Sub.upd (by simp [*]) ?_)) ?_; first | (simp [*]; done) | (simp only []; (repeat' (first | split | rfl | omega | (simp_all; done))); done) | (simp [*]; (repeat' (first | split | omega | (rw [Bool.eq_iff_iff]; simp; omega))); done) | (simp [*])))
end Go.Proofs.YtmalhikcdideoaaDoor

set_option linter.unusedVariables false
set_option linter.unusedSimpArgs false
namespace Go.Proofs.YtmalhikcdideoaaDoor
open Go Sl
attribute [local irreducible] XRange LpQ XR XRo XRg XRQ putQ XFv XL XW2 wQ putW X XO XOp XH XHo XW SeqQ BlkQ XOQ XHQ NrmQ XC XM XG XHM XHG XD CallK
open Go.RowKit
theorem rd_row_to {w : World} {h hF : Hp} {b s n : Nat} {o : Ob} {f : Nat → Nat → AV} {u : Value} (hs : Sub hF h) (hF0 : hF b = none) (hb : h b = some o) (h1 : o.s = s) (h2 : n ≤ o.n) (h3 : n ≤ 140737488355328) (hf : ∀ i, i < n → ∀ j, j < s → o.f i j = f i j) (hh : RelH w h) (hr : Rd w h (.row b s 0 n) u) : Rd w hF (.sl s n f) u := by
  obtain ⟨cap, hu, hle, hlt, _⟩ := hr
  subst h1
  refine ⟨some ⟨b, 0 * o.s, none⟩, cap, hu, hle, h3, fun _ => ⟨b, 0 * o.s, rfl, hF0, hlt, fun i hi j hj => ?_⟩⟩
  obtain ⟨c, hc, hn, hp, hcell⟩ := hh.cells hb (.inl (by omega))
  obtain ⟨y, hy, hy1, hyr⟩ := hcell i (by omega) j hj
  exact ⟨y, by simp only [World.cell?, hc]; simpa using hy, hy1, by rw [← hf i hi j hj]; exact hyr.step (stp_forget hs)⟩
/-- A call that is handed a literal's row, and forgets it. -/
theorem CallK.row2 {h : Hp} {f : FuncId} {k s n : Nat} {ob : Ob} {g : Nat → Nat → AV} {x : Value} {K : AV → Hp → Prop} (hk : h k = none) (h1 : ob.s = s) (h2 : ob.n = n) (h3 : n ≤ 140737488355328) (hf : ∀ i, i < n → ∀ j, j < s → ob.f i j = g i j)
    (c : CallK Tryd.prog h f [.v x, .sl s n g] K) : CallK Tryd.prog (upd h k (some ob)) f [.v x, .row k s 0 n] K := by
  have hs : Sub h (upd h k (some ob)) := fun c oc hc => by rw [upd_ne _ _ (fun e => by rw [e, hk] at hc; cases hc)]; exact hc
  unfold CallK at c ⊢
  intro w vals hh ha
  refine (c w vals (relH_forget hh hs) ⟨ha.1, fun i a hi => ?_⟩).mono ?_
  · match i, hi with
    | 0, hi =>
      obtain ⟨u, e, r⟩ := ha.2 0 _ rfl
      cases hi
      exact ⟨u, e, r⟩
    | 1, hi =>
      obtain ⟨u, e, r⟩ := ha.2 1 _ rfl
      cases hi
      exact ⟨u, e, rd_row_to hs hk (upd_same _ _ _) h1 (by omega) h3 hf hh r⟩
  · rintro e w' ⟨u, r, h', k1, k2, k3, k4, k5, k6⟩
    exact ⟨u, r, h', k1, k2, k3, k4, k5, (stp_forget hs).trans k6⟩
theorem Bld.alloc {h0 h : Hp} {b k : Nat} {l : List UInt8} {ob : Ob} (x : Bld h0 h b l) (hk : h k = none) : Bld h0 (upd h k (some ob)) b l := by
  obtain ⟨hb, o, h1, h2, h3⟩ := x
  exact ⟨hb, o, h1, h2, h3.alloc hk⟩
theorem Bld.weaken {h0 h1 h : Hp} {b : Nat} {l : List UInt8} (x : Bld h1 h b l) (hs : Sub h0 h1) : Bld h0 h b l := by
  obtain ⟨hb, o, e1, e2, e3⟩ := x
  have hs2 : Sub (upd h0 b (some o)) (upd h1 b (some o)) := fun c oc hc => by
    by_cases hcb : c = b
    · subst hcb; rw [upd_same] at hc ⊢; exact hc
    · rw [upd_ne _ _ hcb] at hc ⊢; exact hs c oc hc
  refine ⟨sub_none_of hs hb, o, e1, e2, fun c oc hc => e3.1 c oc (hs2 c oc hc), ?_⟩
  rcases e3.2 with h | ⟨g, og, k1, k2, k3⟩
  · exact .inl h
  · exact .inr ⟨g, og, k1, sub_none_of hs2 k2, k3⟩
def numsL : List Int → List UInt8
  | [] => []
  | n :: l => Lib.itoa n ++ [32] ++ numsL l
theorem rnum_ok {h0 h : Hp} {b : Nat} {s : List UInt8} (x : Bld h0 h b s) (l : List Int) (hlen : s.length + 22 * l.length ≤ 140737488355328) (hi : ∀ n ∈ l, -9223372036854775808 ≤ n ∧ n ≤ 9223372036854775807) :
    CallK Tryd.prog h 62 [ptrV b, encL 1 cI l] fun r h' => Bld h0 h' b (s ++ numsL l) := by
  refine callK_body Tryd.func62 rfl (by rw [nt62]; simp) ?_; rw [nt62, rs62]
  (repeat' (first | simp [go_sem, X_region, *] | simp (disch := omega) only [om, *] | ((first | refine XC_split ?_ ?_ | refine XG_true ?_ ?_ | refine XG_false ?_ ?_ | refine XRg_true ?_ ?_ | refine XRg_false ?_ ?_) <;> intro hc <;> (try simp only [bl] at hc) <;> (try (exfalso; omega))) | refine XD_w [] [] [] (fun _ => none) mixed (by decide +kernel) (sub_none _) ?_ | fail))
  obtain ⟨R, hR⟩ : ∃ R : List UInt8, s ++ numsL l = R := ⟨_, rfl⟩
  refine X_lpF (fun i => i = 5 ∨ (8 ≤ i ∧ i ≤ 17)) (fun n T h' => ∃ (i : Nat) (r : List Int) (acc : List UInt8), n = r.length ∧ i ≤ l.length ∧ l.drop i = r ∧ T 8 = I i ∧ Bld h0 h' b acc ∧ acc ++ numsL r = R ∧ acc.length + 22 * r.length ≤ 140737488355328) l.length
    ⟨0, l, s, rfl, by omega, rfl, by simp [go_sem], x, hR, hlen⟩ ?_
  clear x
  rintro J hJ n T h' hfr ⟨i, r, acc, rfl, hle, hd, h8, x, hacc, hal⟩
  rcases r with _ | ⟨y, r⟩
  · have hlt := drop_nil hd
    obtain rfl : i = l.length := by omega
    simp only [numsL, List.append_nil] at hacc
    subst hacc
    (repeat' (first | simp [go_sem, X_region, *] | simp (disch := omega) only [om, *] | ((first | refine XC_split ?_ ?_ | refine XG_true ?_ ?_ | refine XG_false ?_ ?_ | refine XRg_true ?_ ?_ | refine XRg_false ?_ ?_) <;> intro hc <;> (try simp only [bl] at hc) <;> (try (exfalso; omega))) | refine XD_w [] [] [] (fun _ => none) mixed (by decide +kernel) (sub_none _) ?_ | fail))
    exact ⟨_, _, Wk.refl _ _, x⟩
  · obtain ⟨hlt, hx, hd2⟩ := drop_cons hd
    have hy := hi y (by rw [← hx]; exact List.getElem_mem hlt)
    have hit := itoa_ok y hy.1 hy.2
    have hil := Lib.itoa_length_le y hy.1 hy.2
    (repeat' (first | simp [go_sem, X_region, *] | simp (disch := omega) only [om, *] | ((first | refine XC_split ?_ ?_ | refine XG_true ?_ ?_ | refine XG_false ?_ ?_ | refine XRg_true ?_ ?_ | refine XRg_false ?_ ?_) <;> intro hc <;> (try simp only [bl] at hc) <;> (try (exfalso; omega))) | refine XD_w [] [] [] (fun _ => none) mixed (by decide +kernel) (sub_none _) ?_ | refine Pure.call (hit) ?_ | refine ⟨_, Pure.at (hit), ?_⟩ | refine ⟨_, hit, ?_⟩ | refine PureAt.call (hit) ?_ | fail))
    have hsz : (({ data := (Lib.itoa y).toArray } : ByteArray) ++ ({ data := #[32] } : ByteArray)).data.toList = Lib.itoa y ++ [32] := by simp
    have hsz2 : (({ data := (Lib.itoa y).toArray } : ByteArray) ++ ({ data := #[32] } : ByteArray)).size = (Lib.itoa y).length + 1 := by
      refine (Array.length_toList.symm.trans (congrArg List.length hsz)).trans ?_
      simp
    simp only [List.length_cons] at hal
    refine (write_ok x _ (.inr (by rw [hsz]; simp)) (by rw [hsz2]; omega)).mono ?_
    rintro r1 h1 x1
    rw [hsz] at x1
    refine ⟨_, Nat.lt_succ_self _, hJ.out _ _ _ ⟨(by (repeat (refine fr_upd (by decide) ?_)); exact hfr), i + 1, r, _, rfl, by omega, hd2, by simp [go_sem], x1, ?_, ?_⟩⟩
    · rw [← hacc]; simp [numsL]
    · simp only [List.length_append, List.length_cons, List.length_nil]; omega
theorem num_lit {h0 h : Hp} {b k : Nat} {s : List UInt8} {ob : Ob} (x : Bld h0 h b s) (l : List Int) (hlen : s.length + 22 * l.length ≤ 140737488355328) (hi : ∀ n ∈ l, -9223372036854775808 ≤ n ∧ n ≤ 9223372036854775807) (hk : h k = none) (h1 : ob.s = 1) (h2 : ob.n = l.length) (hf : ob.f = fun i j => ((l.map fun x (_ : Nat) => I x)[i]?.getD fun _ => .any) j) :
    CallK Tryd.prog (upd h k (some ob)) 62 [ptrV b, .row k 1 0 l.length] fun r h' => Bld h0 h' b (s ++ numsL l) := by
  refine CallK.row2 hk h1 h2 (by omega) (fun i hi j hj => ?_) (rnum_ok x l hlen hi)
  obtain rfl : j = 0 := by omega
  rw [hf]
  simp [hi, cI, cellsL]
end Go.Proofs.YtmalhikcdideoaaDoor

set_option linter.unusedVariables false
set_option linter.unusedSimpArgs false
namespace Go.Proofs.YtmalhikcdideoaaDoor
open Go Sl
attribute [local irreducible] XRange LpQ XR XRo XRg XRQ putQ XFv XL XW2 wQ putW X XO XOp XH XHo XW SeqQ BlkQ XOQ XHQ NrmQ XC XM XG XHM XHG XD CallK
open Go.RowKit
def stepsL : List (Int × Int) → List UInt8
  | [] => []
  | x :: l => numsL [x.1, x.2] ++ stepsL l
def wholeL (t : Tb) : List UInt8 := numsL [t.name.size, t.fr, t.to] ++ (t.name ++ boolB t.sl).data.toList ++ stepsL t.steps
theorem numsL_len : ∀ (l : List Int), (∀ n ∈ l, -9223372036854775808 ≤ n ∧ n ≤ 9223372036854775807) → (numsL l).length ≤ 22 * l.length
  | [], _ => by simp [numsL]
  | n :: l, h => by
    have h1 := Lib.itoa_length_le n (h n (by simp)).1 (h n (by simp)).2
    have h2 := numsL_len l fun x hx => h x (by simp [hx])
    simp only [numsL, List.length_append, List.length_cons, List.length_nil]
    omega
theorem whole_ok (t : Tb) (hn : t.name.size ≤ 1000000000000) (hs : t.steps.length ≤ 1000000000000) (h1 : i64B t.fr) (h2 : i64B t.to) (h3 : ∀ x ∈ t.steps, i64B x.1 ∧ i64B x.2) : Pure Tryd.prog 36 [encTbA t] (S (bOf (wholeL t))) := by
  obtain ⟨nm, fr, to, sl, steps⟩ := t
  dsimp only at hn hs h1 h2 h3
  have hb := fbool_ok sl
  have hbs : (boolB sl).data.toList.length ≤ 5 := by cases sl <;> decide
  have hbs' : (boolB sl).size ≤ 5 := hbs
  intro h; refine callK_body Tryd.func36 rfl (by rw [nt36]; simp) ?_; rw [nt36, rs36]
  (repeat' (first | simp [go_sem, X_region, *] | simp (disch := omega) only [om, *] | ((first | refine XC_split ?_ ?_ | refine XG_true ?_ ?_ | refine XG_false ?_ ?_ | refine XRg_true ?_ ?_ | refine XRg_false ?_ ?_) <;> intro hc <;> (try simp only [bl] at hc) <;> (try (exfalso; omega))) | refine XD_w [] [] [] (fun _ => none) mixed (by decide +kernel) (sub_none _) ?_ | fail))
  intro b1 hb1 b2 n1 n2 hb2
  (repeat' (first | simp [go_sem, X_region, *] | simp (disch := omega) only [om, *] | ((first | refine XC_split ?_ ?_ | refine XG_true ?_ ?_ | refine XG_false ?_ ?_ | refine XRg_true ?_ ?_ | refine XRg_false ?_ ?_) <;> intro hc <;> (try simp only [bl] at hc) <;> (try (exfalso; omega))) | refine XD_w [] [] [] (fun _ => none) mixed (by decide +kernel) (sub_none _) ?_ | fail))
  have hb2' : upd h b1 (some ⟨68, 5, 1, fun x j => [S nm, I fr, I to, B sl, AV.sl 2 steps.length (cellsL cSt steps)][j]?.getD AV.any⟩) b2 = none := by rw [upd_ne _ _ n1]; exact hb2
  have kb1 : upd h b1 (some ⟨68, 5, 1, fun x j => [S nm, I fr, I to, B sl, AV.sl 2 steps.length (cellsL cSt steps)][j]?.getD AV.any⟩) b1 = some ⟨68, 5, 1, fun x j => [S nm, I fr, I to, B sl, AV.sl 2 steps.length (cellsL cSt steps)][j]?.getD AV.any⟩ := upd_same _ _ _
  have hsub0 : Sub h (upd h b1 (some ⟨68, 5, 1, fun x j => [S nm, I fr, I to, B sl, AV.sl 2 steps.length (cellsL cSt steps)][j]?.getD AV.any⟩)) := fun c oc hc => by rw [upd_ne _ _ (ne_free hb1 hc).2]; exact hc
  intro b3 m1 m2 m3 m4 hb3
  have hb3' : upd (upd h b1 (some ⟨68, 5, 1, fun x j => [S nm, I fr, I to, B sl, AV.sl 2 steps.length (cellsL cSt steps)][j]?.getD AV.any⟩)) b2 (some ⟨99, 2, 1, fun x j => AV.v ([Value.pointer none, Value.slice none 0 0][j]?.getD undef)⟩) b3 = none := by rw [upd_ne _ _ m1, upd_ne _ _ m3]; exact hb3
  generalize upd h b1 (some ⟨68, 5, 1, fun x j => [S nm, I fr, I to, B sl, AV.sl 2 steps.length (cellsL cSt steps)][j]?.getD AV.any⟩) = H1 at *
  have x0 : Bld H1 (upd H1 b2 (some ⟨99, 2, 1, fun x j => AV.v ([Value.pointer none, Value.slice none 0 0][j]?.getD undef)⟩)) b2 [] := ⟨hb2', _, ⟨rfl, rfl, rfl, .inl rfl⟩, fun _ => rfl, Own.none⟩
  have hin : ∀ n ∈ [(nm.size : Int), fr, to], -9223372036854775808 ≤ n ∧ n ≤ 9223372036854775807 := by
    simp only [List.mem_cons, List.not_mem_nil, or_false]
    rintro n (rfl | rfl | rfl)
    · exact ⟨by omega, by omega⟩
    · exact h1
    · exact h2
  have hnl := numsL_len _ hin
  simp only [List.length_cons, List.length_nil] at hnl
  refine CallK.mono (num_lit x0 [(nm.size : Int), fr, to] (by simp) hin hb3' rfl rfl rfl) ?_
  rintro r1 g1 x1
  have kg1 := x1.sub _ _ kb1
  rw [List.nil_append] at x1
  refine XD_w [] [1, 3] [6] H1 mixed (by decide +kernel) x1.sub ?_
  (repeat' (first | simp [go_sem, X_region, *] | simp (disch := omega) only [om, *] | ((first | refine XC_split ?_ ?_ | refine XG_true ?_ ?_ | refine XG_false ?_ ?_ | refine XRg_true ?_ ?_ | refine XRg_false ?_ ?_) <;> intro hc <;> (try simp only [bl] at hc) <;> (try (exfalso; omega))) | refine XD_w [] [] [] (fun _ => none) mixed (by decide +kernel) (sub_none _) ?_ | refine Pure.call (hb) ?_ | refine ⟨_, Pure.at (hb), ?_⟩ | refine ⟨_, hb, ?_⟩ | refine PureAt.call (hb) ?_ | fail))
  have hnb' : (nm ++ boolB sl).size = nm.size + (boolB sl).size := ByteArray.size_append
  have hnb : (nm ++ boolB sl).data.toList.length = nm.size + (boolB sl).size := hnb'
  have hbp : 0 < (boolB sl).size := by cases sl <;> decide
  refine (write_ok x1 (nm ++ boolB sl) (.inr (fun e => by rw [e] at hnb; simp at hnb; omega)) (by omega)).mono ?_
  rintro r2 g2 x2
  have kg2 := x2.sub _ _ kb1
  refine ⟨fun _ => x2.sub, ?_⟩
  (repeat' (first | simp [go_sem, X_region, *] | simp (disch := omega) only [om, *] | ((first | refine XC_split ?_ ?_ | refine XG_true ?_ ?_ | refine XG_false ?_ ?_ | refine XRg_true ?_ ?_ | refine XRg_false ?_ ?_) <;> intro hc <;> (try simp only [bl] at hc) <;> (try (exfalso; omega))) | refine XD_w [] [] [] (fun _ => none) mixed (by decide +kernel) (sub_none _) ?_ | fail))
  obtain ⟨R, hR⟩ : ∃ R : List UInt8, numsL [(nm.size : Int), fr, to] ++ (nm ++ boolB sl).data.toList ++ stepsL steps = R := ⟨_, rfl⟩
  have hR2 : wholeL ⟨nm, fr, to, sl, steps⟩ = R := hR
  rw [hR2]
  clear hR2
  have hl2 : (numsL [(nm.size : Int), fr, to] ++ (nm ++ boolB sl).data.toList).length + 44 * steps.length ≤ 140737488355328 := by rw [List.length_append, hnb]; omega
  generalize numsL [(nm.size : Int), fr, to] ++ (nm ++ boolB sl).data.toList = acc0 at *
  clear x1 x0 kg1
  refine X_lpF (fun i => i = 5 ∨ (25 ≤ i ∧ i ≤ 35)) (fun n T h' => ∃ (i : Nat) (r : List (Int × Int)) (acc : List UInt8), n = r.length ∧ i ≤ steps.length ∧ steps.drop i = r ∧ T 25 = I i ∧ Bld H1 h' b2 acc ∧ acc ++ stepsL r = R ∧ acc.length + 44 * r.length ≤ 140737488355328) steps.length
    ⟨0, steps, acc0, rfl, by omega, rfl, by simp [go_sem], x2, hR, hl2⟩ ?_
  clear x2 kg2 hl2 hR
  rintro J hJ n T g hfr ⟨i, r, acc, rfl, hle, hd, h25, x, hacc, hal⟩
  rcases r with _ | ⟨y, r⟩
  · have hlt := drop_nil hd
    obtain rfl : i = steps.length := by omega
    simp only [stepsL, List.append_nil] at hacc
    subst hacc
    (repeat' (first | simp [go_sem, X_region, *] | simp (disch := omega) only [om, *] | ((first | refine XC_split ?_ ?_ | refine XG_true ?_ ?_ | refine XG_false ?_ ?_ | refine XRg_true ?_ ?_ | refine XRg_false ?_ ?_) <;> intro hc <;> (try simp only [bl] at hc) <;> (try (exfalso; omega))) | refine XD_w [] [] [] (fun _ => none) mixed (by decide +kernel) (sub_none _) ?_ | fail))
    refine (string_ok x (by omega)).mono ?_
    rintro r1 h1 ⟨rfl, rfl⟩
    exact Wk.drop _ hsub0
  · obtain ⟨hlt, hx, hd2⟩ := drop_cons hd
    have hy := h3 y (by rw [← hx]; exact List.getElem_mem hlt)
    (repeat' (first | simp [go_sem, X_region, *] | simp (disch := omega) only [om, *] | ((first | refine XC_split ?_ ?_ | refine XG_true ?_ ?_ | refine XG_false ?_ ?_ | refine XRg_true ?_ ?_ | refine XRg_false ?_ ?_) <;> intro hc <;> (try simp only [bl] at hc) <;> (try (exfalso; omega))) | refine XD_w [] [] [] (fun _ => none) mixed (by decide +kernel) (sub_none _) ?_ | fail))
    intro b4 hb4 b5 k1 k2 hb5
    have x4 := x.alloc (ob := ⟨114, 2, 1, fun i' j' => if i' = 0 ∧ j' < 2 then [I y.fst, I y.snd][j']?.getD AV.any else AV.v ([Value.int IntKind.i64 0, Value.int IntKind.i64 0][j']?.getD undef)⟩) hb4
    have hin2 : ∀ n ∈ [y.1, y.2], -9223372036854775808 ≤ n ∧ n ≤ 9223372036854775807 := by
      simp only [List.mem_cons, List.not_mem_nil, or_false]
      rintro n (rfl | rfl)
      · exact hy.1
      · exact hy.2
    have hnl2 := numsL_len _ hin2
    simp only [List.length_cons, List.length_nil] at hnl2 hal
    refine CallK.mono (num_lit x4 [y.1, y.2] (by simp only [List.length_cons, List.length_nil]; omega) hin2 (by rw [upd_ne _ _ k1]; exact hb5) rfl rfl rfl) ?_
    rintro r5 g5 x5
    refine ⟨_, Nat.lt_succ_self _, hJ.out _ _ _ ⟨(by (repeat (refine fr_upd (by decide) ?_)); exact hfr), i + 1, r, _, rfl, by omega, hd2, by simp [go_sem], x5, ?_, ?_⟩⟩
    · rw [← hacc]; simp [stepsL]
    · simp only [List.length_append]; omega
end Go.Proofs.YtmalhikcdideoaaDoor

set_option linter.unusedVariables false
set_option linter.unusedSimpArgs false
namespace Go.Proofs.YtmalhikcdideoaaDoor
open Go Sl
attribute [local irreducible] XRange LpQ XR XRo XRg XRQ putQ XFv XL XW2 wQ putW X XO XOp XH XHo XW SeqQ BlkQ XOQ XHQ NrmQ XC XM XG XHM XHG XD CallK
open Go.RowKit
def digB (c : UInt8) : Prop := 48 ≤ c.toNat ∧ c.toNat ≤ 57
theorem decDigits_dig : ∀ u : Nat, ∀ c ∈ Lib.decDigits u, digB c := by
  intro u
  induction u using Nat.strongRecOn with
  | ind u ih =>
    intro c hc
    rw [Lib.decDigits] at hc
    split at hc
    · rename_i h
      rw [List.mem_singleton.1 hc]
      unfold digB
      rw [UInt8.toNat_ofNat']
      omega
    · rename_i h
      rcases List.mem_append.1 hc with hc | hc
      · exact ih (u / 10) (by omega) c hc
      · rw [List.mem_singleton.1 hc]
        unfold digB
        rw [UInt8.toNat_ofNat']
        omega
def valD (l : List UInt8) : Nat := l.foldl (fun a c => a * 10 + (c.toNat - 48)) 0
theorem valD_dec : ∀ u : Nat, valD (Lib.decDigits u) = u := by
  intro u
  induction u using Nat.strongRecOn with
  | ind u ih =>
    rw [Lib.decDigits]
    split
    · rename_i h
      unfold valD
      simp only [List.foldl_cons, List.foldl_nil, UInt8.toNat_ofNat']
      omega
    · rename_i h
      have h1 := ih (u / 10) (by omega)
      unfold valD at h1 ⊢
      rw [List.foldl_append, h1]
      simp only [List.foldl_cons, List.foldl_nil, UInt8.toNat_ofNat']
      omega
theorem decDigits_inj {u v : Nat} (h : Lib.decDigits u = Lib.decDigits v) : u = v := by rw [← valD_dec u, ← valD_dec v, h]
theorem decDigits_ne {u : Nat} {l : List UInt8} (h : Lib.decDigits u = 45 :: l) : False := by
  have := decDigits_dig u 45 (by rw [h]; exact List.mem_cons_self ..)
  unfold digB at this
  have e : (45 : UInt8).toNat = 45 := rfl
  omega
theorem itoa_inj {a b : Int} (h : Lib.itoa a = Lib.itoa b) : a = b := by
  unfold Lib.itoa at h
  split at h <;> split at h
  · simp only [List.cons.injEq, true_and] at h
    have := decDigits_inj h
    omega
  · exact (decDigits_ne h.symm).elim
  · exact (decDigits_ne h).elim
  · have := decDigits_inj h
    omega
theorem itoa_no32 (a : Int) : (32 : UInt8) ∉ Lib.itoa a := by
  have hd : ∀ u : Nat, (32 : UInt8) ∉ Lib.decDigits u := fun u hc => by
    have := decDigits_dig u 32 hc
    unfold digB at this
    have e : (32 : UInt8).toNat = 32 := rfl
    omega
  unfold Lib.itoa
  split
  · intro hc
    rcases List.mem_cons.1 hc with e | e
    · cases e
    · exact hd _ e
  · exact hd _
theorem split32 : ∀ (p q x y : List UInt8), (32 : UInt8) ∉ p → (32 : UInt8) ∉ q → p ++ 32 :: x = q ++ 32 :: y → p = q ∧ x = y
  | [], [], x, y, _, _, h => by simpa using h
  | [], b :: q, x, y, _, hq, h => by
    simp only [List.nil_append, List.cons_append, List.cons.injEq] at h
    exact absurd (by rw [h.1]; exact List.mem_cons_self ..) hq
  | a :: p, [], x, y, hp, _, h => by
    simp only [List.nil_append, List.cons_append, List.cons.injEq] at h
    exact absurd (by rw [← h.1]; exact List.mem_cons_self ..) hp
  | a :: p, b :: q, x, y, hp, hq, h => by
    simp only [List.cons_append, List.cons.injEq] at h
    obtain ⟨h1, h2⟩ := split32 p q x y (fun hc => hp (List.mem_cons_of_mem _ hc)) (fun hc => hq (List.mem_cons_of_mem _ hc)) h.2
    exact ⟨by rw [h.1, h1], h2⟩
theorem numsL_inj : ∀ (l m : List Int) (x y : List UInt8), l.length = m.length → numsL l ++ x = numsL m ++ y → l = m ∧ x = y
  | [], [], x, y, _, h => ⟨rfl, h⟩
  | [], _ :: _, _, _, hl, _ => by cases hl
  | _ :: _, [], _, _, hl, _ => by cases hl
  | a :: l, b :: m, x, y, hl, h => by
    simp only [numsL, List.append_assoc, List.cons_append, List.nil_append] at h
    obtain ⟨h1, h2⟩ := split32 _ _ _ _ (itoa_no32 a) (itoa_no32 b) h
    obtain ⟨h3, h4⟩ := numsL_inj l m x y (by simpa using hl) h2
    exact ⟨by rw [itoa_inj h1, h3], h4⟩
/-- A node as text; an expression. -/
def showN (x : Nd) : List UInt8 := numsL [x.op, x.kd, x.n, x.nm.size, x.kids.length] ++ x.nm.data.toList ++ numsL x.kids ++ [59]
def showE : List Nd → List UInt8
  | [] => []
  | x :: r => showN x ++ showE r
theorem showN_inj {x y : Nd} {s t : List UInt8} (h : showN x ++ s = showN y ++ t) : x = y ∧ s = t := by
  unfold showN at h
  simp only [List.append_assoc] at h
  obtain ⟨h1, h2⟩ := numsL_inj [x.op, x.kd, x.n, x.nm.size, x.kids.length] [y.op, y.kd, y.n, y.nm.size, y.kids.length] _ _ rfl h
  simp only [List.cons.injEq, and_true] at h1
  obtain ⟨e1, e2, e3, e4, e5⟩ := h1
  have hs : x.nm.data.toList.length = y.nm.data.toList.length := by
    have a1 : x.nm.data.toList.length = x.nm.size := Array.length_toList
    have a2 : y.nm.data.toList.length = y.nm.size := Array.length_toList
    omega
  obtain ⟨h3, h4⟩ := List.append_inj h2 hs
  obtain ⟨h5, h6⟩ := numsL_inj x.kids y.kids _ _ (by omega) h4
  have e6 : x.nm = y.nm := by
    apply ByteArray.ext
    exact Array.toList_inj.1 h3
  simp only [List.cons_append, List.nil_append, List.cons.injEq, true_and] at h6
  refine ⟨?_, h6⟩
  cases x
  cases y
  simp only at e1 e2 e3 e6 h5
  rw [e1, e2, e3, e6, h5]
theorem showN_ne (x : Nd) : showN x ≠ [] := by
  unfold showN
  simp
theorem showE_inj : ∀ a b : List Nd, showE a = showE b → a = b
  | [], [], _ => rfl
  | [], y :: b, h => by
    rw [showE, showE] at h
    exact absurd (List.append_eq_nil_iff.1 h.symm).1 (showN_ne y)
  | x :: a, [], h => by
    rw [showE, showE] at h
    exact absurd (List.append_eq_nil_iff.1 h).1 (showN_ne x)
  | x :: a, y :: b, h => by
    rw [showE, showE] at h
    obtain ⟨h1, h2⟩ := showN_inj h
    rw [h1, showE_inj a b h2]
theorem bOf_inj {a b : List UInt8} (h : bOf a = bOf b) : a = b := by
  have := congrArg (fun x : ByteArray => x.data.toList) h
  exact this
end Go.Proofs.YtmalhikcdideoaaDoor

set_option linter.unusedVariables false
set_option linter.unusedSimpArgs false
namespace Go.Proofs.YtmalhikcdideoaaDoor
open Go Sl
attribute [local irreducible] XRange LpQ XR XRo XRg XRQ putQ XFv XL XW2 wQ putW X XO XOp XH XHo XW SeqQ BlkQ XOQ XHQ NrmQ XC XM XG XHM XHG XD CallK
open Go.RowKit
theorem bld_with {h0 h : Hp} {b k : Nat} {l : List UInt8} {ob : Ob} (x : Bld h0 h b l) (hk : h k = none) : Bld (upd h0 k (some ob)) (upd h k (some ob)) b l := by
  have hsub := x.sub
  obtain ⟨hb, o, h1, h2, h3⟩ := x
  have hob := h3.1 b o (upd_same _ _ _)
  have hbk : b ≠ k := fun e => by rw [e, hk] at hob; cases hob
  refine ⟨by rw [upd_ne _ _ hbk]; exact hb, o, h1, h2, ?_⟩
  have h4 := own_with (oc := ob) h3 hk
  have h5 : upd (upd h0 b (some o)) k (some ob) = upd (upd h0 k (some ob)) b (some o) := by
    funext c
    by_cases hc : c = k
    · subst hc; simp [upd, Ne.symm hbk]
    · by_cases hc2 : c = b
      · subst hc2; simp [upd, hbk]
      · simp [upd, hc, hc2]
  rw [h5] at h4
  exact h4
theorem i64_nat {n : Nat} (h : n ≤ 1048576) : i64B (n : Int) := ⟨by omega, by omega⟩
set_option maxHeartbeats 4000000 in
theorem shown_ok (e : List Nd) (he : e.length ≤ 1048576) (hn : ∀ x ∈ e, x.nm.size ≤ 1048576 ∧ x.kids.length ≤ 1048576 ∧ i64B x.op ∧ i64B x.kd ∧ i64B x.n ∧ ∀ k ∈ x.kids, i64B k) : Pure Tryd.prog 24 [encL 5 cNd e] (S (bOf (showE e))) := by
  obtain ⟨R, hR⟩ : ∃ R, showE e = R := ⟨_, rfl⟩
  rw [hR]
  intro h; refine CallK.lens fun hlen => ?_; have hlen := (hlen _ (by simp only [List.mem_cons, true_or, or_true] : (encL 5 cNd e) ∈ _)).encL; refine callK_body Tryd.func24 rfl (by rw [nt24]; simp) ?_; rw [nt24, rs24]
  (repeat' (first | simp [go_sem, X_region, *] | simp (disch := omega) only [om, *] | ((first | refine XC_split ?_ ?_ | refine XG_true ?_ ?_ | refine XG_false ?_ ?_ | refine XRg_true ?_ ?_ | refine XRg_false ?_ ?_) <;> intro hc <;> (try simp only [bl] at hc) <;> (try (exfalso; omega))) | refine XD_w [] [] [] (fun _ => none) mixed (by decide +kernel) (sub_none _) ?_ | fail))
  intro b3 hb3
  refine X_lpF (fun i => i = 5 ∨ (8 ≤ i ∧ i ≤ 33)) (fun n T g => ∃ (i : Nat) (r : List Nd) (acc : List UInt8), n = r.length ∧ i ≤ e.length ∧ e.drop i = r ∧ acc ++ showE r = R ∧ T 8 = I i ∧ Bld h g b3 acc ∧ acc.length + 25000000 * r.length ≤ 140737488355328) e.length
    ⟨0, e, [], rfl, by omega, rfl, hR, by simp [go_sem], Bld.fresh hb3, by simp; omega⟩ ?_
  clear hR
  rintro J hJ n T g hfr ⟨i, r, acc, rfl, hi, hd, hR, t8, x, hal⟩
  rcases r with _ | ⟨y, r⟩
  · have hlt := drop_nil hd
    simp only [showE, List.append_nil] at hR
    subst hR
    (repeat' (first | simp [go_sem, X_region, *] | simp (disch := omega) only [om, *] | ((first | refine XC_split ?_ ?_ | refine XG_true ?_ ?_ | refine XG_false ?_ ?_ | refine XRg_true ?_ ?_ | refine XRg_false ?_ ?_) <;> intro hc <;> (try simp only [bl] at hc) <;> (try (exfalso; omega))) | refine XD_w [] [] [] (fun _ => none) mixed (by decide +kernel) (sub_none _) ?_ | fail))
    refine (string_ok x (by omega)).mono ?_
    rintro r1 h1 ⟨rfl, rfl⟩
    exact Wk.refl _ _
  · obtain ⟨hlt, hx, hd2⟩ := drop_cons hd
    obtain ⟨e1, e2, e3, e4, e5, e6⟩ := hn y (by rw [← hx]; exact List.getElem_mem hlt)
    simp only [List.length_cons] at hal
    (repeat' (first | simp [go_sem, X_region, *] | simp (disch := omega) only [om, *] | ((first | refine XC_split ?_ ?_ | refine XG_true ?_ ?_ | refine XG_false ?_ ?_ | refine XRg_true ?_ ?_ | refine XRg_false ?_ ?_) <;> intro hc <;> (try simp only [bl] at hc) <;> (try (exfalso; omega))) | refine XD_w [] [] [] (fun _ => none) mixed (by decide +kernel) (sub_none _) ?_ | fail))
    intro b5 hb5
    have xw := bld_with (ob := ⟨39, 5, 1, fun i' j' => if i' = 0 ∧ j' < 5 then [I y.op, AV.sl 1 y.kids.length (cellsL cI y.kids), I y.kd, I y.n, S y.nm][j']?.getD AV.any else AV.v ([Value.int IntKind.i64 0, Value.slice none 0 0, Value.int IntKind.i64 0, Value.int IntKind.i64 0, Value.string ⟨#[]⟩][j']?.getD undef)⟩) x hb5
    have k5 : ∀ {g' : Hp} {l : List UInt8}, Bld (upd h b5 (some ⟨39, 5, 1, fun i' j' => if i' = 0 ∧ j' < 5 then [I y.op, AV.sl 1 y.kids.length (cellsL cI y.kids), I y.kd, I y.n, S y.nm][j']?.getD AV.any else AV.v ([Value.int IntKind.i64 0, Value.slice none 0 0, Value.int IntKind.i64 0, Value.int IntKind.i64 0, Value.string ⟨#[]⟩][j']?.getD undef)⟩)) g' b3 l → g' b5 = some ⟨39, 5, 1, fun i' j' => if i' = 0 ∧ j' < 5 then [I y.op, AV.sl 1 y.kids.length (cellsL cI y.kids), I y.kd, I y.n, S y.nm][j']?.getD AV.any else AV.v ([Value.int IntKind.i64 0, Value.slice none 0 0, Value.int IntKind.i64 0, Value.int IntKind.i64 0, Value.string ⟨#[]⟩][j']?.getD undef)⟩ := fun w => w.sub b5 _ (upd_same _ _ _)
    (repeat' (first | simp [go_sem, X_region, *] | simp (disch := omega) only [om, *] | ((first | refine XC_split ?_ ?_ | refine XG_true ?_ ?_ | refine XG_false ?_ ?_ | refine XRg_true ?_ ?_ | refine XRg_false ?_ ?_) <;> intro hc <;> (try simp only [bl] at hc) <;> (try (exfalso; omega))) | refine XD_w [] [] [] (fun _ => none) mixed (by decide +kernel) (sub_none _) ?_ | fail))
    intro bl hl1 hl2 hbl
    have hin5 : ∀ n ∈ [y.op, y.kd, y.n, (y.nm.size : Int), (y.kids.length : Int)], -9223372036854775808 ≤ n ∧ n ≤ 9223372036854775807 := by
      simp only [List.mem_cons, List.not_mem_nil, or_false]
      rintro n (rfl | rfl | rfl | rfl | rfl)
      · exact e3
      · exact e4
      · exact e5
      · exact ⟨by omega, by omega⟩
      · exact ⟨by omega, by omega⟩
    have hnl := numsL_len _ hin5
    have hnk := numsL_len y.kids e6
    simp only [List.length_cons, List.length_nil] at hnl
    have hnm : y.nm.data.toList.length = y.nm.size := Array.length_toList
    refine CallK.mono (num_lit xw [y.op, y.kd, y.n, (y.nm.size : Int), (y.kids.length : Int)] (by simp only [List.length_cons, List.length_nil]; omega) hin5 (by rw [upd_ne _ _ hl1]; exact hbl) rfl rfl rfl) ?_
    have hne : acc ++ numsL [y.op, y.kd, y.n, (y.nm.size : Int), (y.kids.length : Int)] ≠ [] := by simp [numsL]
    have hN : showN y = numsL [y.op, y.kd, y.n, (y.nm.size : Int), (y.kids.length : Int)] ++ y.nm.data.toList ++ numsL y.kids ++ [59] := rfl
    generalize numsL [y.op, y.kd, y.n, (y.nm.size : Int), (y.kids.length : Int)] = N5 at *
    rintro r1 g1 x1
    have q1 := k5 x1
    clear xw hin5
    (repeat' (first | simp [go_sem, X_region, *] | simp (disch := omega) only [om, *] | ((first | refine XC_split ?_ ?_ | refine XG_true ?_ ?_ | refine XG_false ?_ ?_ | refine XRg_true ?_ ?_ | refine XRg_false ?_ ?_) <;> intro hc <;> (try simp only [bl] at hc) <;> (try (exfalso; omega))) | refine XD_w [] [] [] (fun _ => none) mixed (by decide +kernel) (sub_none _) ?_ | fail))
    refine (write_ok x1 y.nm (.inl hne) (by rw [List.length_append]; omega)).mono ?_
    rintro r2 g2 x2
    have q2 := k5 x2
    clear q1 x1
    (repeat' (first | simp [go_sem, X_region, *] | simp (disch := omega) only [om, *] | ((first | refine XC_split ?_ ?_ | refine XG_true ?_ ?_ | refine XG_false ?_ ?_ | refine XRg_true ?_ ?_ | refine XRg_false ?_ ?_) <;> intro hc <;> (try simp only [bl] at hc) <;> (try (exfalso; omega))) | refine XD_w [] [] [] (fun _ => none) mixed (by decide +kernel) (sub_none _) ?_ | fail))
    refine (rnum_ok x2 y.kids (by simp only [List.length_append]; omega) e6).mono ?_
    rintro r3 g3 x3
    clear q2 x2
    (repeat' (first | simp [go_sem, X_region, *] | simp (disch := omega) only [om, *] | ((first | refine XC_split ?_ ?_ | refine XG_true ?_ ?_ | refine XG_false ?_ ?_ | refine XRg_true ?_ ?_ | refine XRg_false ?_ ?_) <;> intro hc <;> (try simp only [bl] at hc) <;> (try (exfalso; omega))) | refine XD_w [] [] [] (fun _ => none) mixed (by decide +kernel) (sub_none _) ?_ | fail))
    refine (write_ok x3 ⟨#[59]⟩ (.inr (by simp)) (by simp only [List.length_append]; show _ + 1 ≤ _; omega)).mono ?_
    rintro r4 g4 x4
    clear x3
    have h5 : h b5 = none := sub_none_of x.sub hb5
    (repeat' (first | simp [go_sem, X_region, *] | simp (disch := omega) only [om, *] | ((first | refine XC_split ?_ ?_ | refine XG_true ?_ ?_ | refine XG_false ?_ ?_ | refine XRg_true ?_ ?_ | refine XRg_false ?_ ?_) <;> intro hc <;> (try simp only [bl] at hc) <;> (try (exfalso; omega))) | refine XD_w [] [] [] (fun _ => none) mixed (by decide +kernel) (sub_none _) ?_ | fail))
    exact ⟨_, Nat.lt_succ_self _, hJ.out _ _ _ ⟨(by (repeat (refine fr_upd (by decide) ?_)); exact hfr), i + 1, r, _, rfl, by omega, hd2, by rw [← hR, showE, hN]; simp, by simp [go_sem], x4.weaken (Sub.upd h5 (Sub.refl _)), by simp only [List.length_append]; show _ + 1 + _ ≤ _; omega⟩⟩
end Go.Proofs.YtmalhikcdideoaaDoor

set_option linter.unusedVariables false
set_option linter.unusedSimpArgs false
namespace Go.Proofs.YtmalhikcdideoaaDoor
open Go Sl
attribute [local irreducible] XRange LpQ XR XRo XRg XRQ putQ XFv XL XW2 wQ putW X XO XOp XH XHo XW SeqQ BlkQ XOQ XHQ NrmQ XC XM XG XHM XHG XD CallK
open Go.RowKit
/-- What a text of an expression wants. -/
def okS (e : List Nd) : Prop := e.length ≤ 1048576 ∧ ∀ x ∈ e, x.nm.size ≤ 1048576 ∧ x.kids.length ≤ 1048576 ∧ i64B x.op ∧ i64B x.kd ∧ i64B x.n ∧ ∀ k ∈ x.kids, i64B k
theorem okS.nm {e : List Nd} (h : okS e) : ∀ x ∈ e, x.nm.size ≤ 140737488355328 := fun x hx => by have := (h.2 x hx).1; omega
theorem cutF_ok {e : List Nd} (h : okS e) (p : Int) : okS (cutF e p) := by
  unfold cutF
  split
  · rename_i q
    obtain ⟨a1, a2, hv, hk3, hsz⟩ := chk_facts q.1
    have h1 := hsz p.toNat (by omega)
    have h2 := flatT_len (treeAt e p.toNat)
    have h3 := treeAt_all hv (fun x n => x.nm.size ≤ 1048576 ∧ n ≤ 1048576 ∧ i64B x.op ∧ i64B x.kd ∧ i64B x.n) (fun i x hx => by
      obtain ⟨b1, b2, b3, b4, b5, _⟩ := h.2 x (List.mem_of_getElem? hx)
      exact ⟨b1, b2, b3, b4, b5⟩) p.toNat (by omega)
    refine ⟨by omega, fun x hx => ?_⟩
    have h4 := flatT_ok _ h3 (fun x n => Iff.rfl) x hx
    obtain ⟨b1, b2, b3, b4, b5⟩ := h4.own
    exact ⟨b1, b2, b3, b4, b5, fun k hk => by have := h4.kids k hk; exact ⟨by omega, by omega⟩⟩
  · exact ⟨Nat.zero_le _, fun x hx => by cases hx⟩
theorem eqE_show (a b : List Nd) : eqE a b = decide (bOf (showE a) = bOf (showE b)) := by
  rw [Bool.eq_iff_iff, eqE_iff, decide_eq_true_eq]
  exact ⟨fun h => by rw [h], fun h => showE_inj _ _ (bOf_inj h)⟩
/-- Do two expressions say the same. -/
def sameF (a b : List Nd) : Bool := if chkE (oneE nameF) a = 0 ∧ chkE (oneE nameF) b = 0 then eqE (cutF a (a.length - 1)) (cutF b (b.length - 1)) else eqE a b
theorem same_ok (a b : List Nd) (ha : okS a) (hb : okS b) : Pure Tryd.prog 31 [encL 5 cNd a, encL 5 cNd b] (B (sameF a b)) := by
  have h1 := tcheck_ok a ha.nm
  have h2 := tcheck_ok b hb.nm
  have h3 := norm_ok a ha.nm (by have := ha.1; omega)
  have h4 := norm_ok b hb.nm (by have := hb.1; omega)
  have h5 := trequal_ok (cutF a (a.length - 1)) (cutF b (b.length - 1))
  have h6 := trequal_ok a b
  generalize hR : sameF a b = R
  unfold sameF at hR
  generalize cutF a (a.length - 1) = A at *
  generalize cutF b (b.length - 1) = A' at *
  by_cases qa : chkE (oneE nameF) a = 0
  · rw [qa] at h1 hR
    by_cases qb : chkE (oneE nameF) b = 0
    · rw [qb] at h2 hR
      rw [if_pos ⟨rfl, rfl⟩] at hR
      rw [hR] at h5
      clear hR
      intro h; refine callK_body Tryd.func31 rfl (by rw [nt31]; simp) ?_; rw [nt31, rs31]
      (repeat' (first | simp [go_sem, X_region, *] | simp (disch := omega) only [om, *] | ((first | refine XC_split ?_ ?_ | refine XG_true ?_ ?_ | refine XG_false ?_ ?_ | refine XRg_true ?_ ?_ | refine XRg_false ?_ ?_) <;> intro hc <;> (try simp only [bl] at hc) <;> (try (exfalso; omega))) | refine XD_w [] [] [] (fun _ => none) mixed (by decide +kernel) (sub_none _) ?_ | refine Pure.call (h1) ?_ | refine ⟨_, Pure.at (h1), ?_⟩ | refine ⟨_, h1, ?_⟩ | refine PureAt.call (h1) ?_ | refine Pure.call (h2) ?_ | refine ⟨_, Pure.at (h2), ?_⟩ | refine ⟨_, h2, ?_⟩ | refine PureAt.call (h2) ?_ | refine Pure.call (h3) ?_ | refine ⟨_, Pure.at (h3), ?_⟩ | refine ⟨_, h3, ?_⟩ | refine PureAt.call (h3) ?_ | refine Pure.call (h4) ?_ | refine ⟨_, Pure.at (h4), ?_⟩ | refine ⟨_, h4, ?_⟩ | refine PureAt.call (h4) ?_ | refine Pure.call (h5) ?_ | refine ⟨_, Pure.at (h5), ?_⟩ | refine ⟨_, h5, ?_⟩ | refine PureAt.call (h5) ?_ | fail))
    · rw [if_neg (fun h => qb h.2)] at hR
      rw [hR] at h6
      clear hR
      generalize chkE (oneE nameF) b = cb at *
      intro h; refine callK_body Tryd.func31 rfl (by rw [nt31]; simp) ?_; rw [nt31, rs31]
      (repeat' (first | simp [go_sem, X_region, *] | simp (disch := omega) only [om, *] | ((first | refine XC_split ?_ ?_ | refine XG_true ?_ ?_ | refine XG_false ?_ ?_ | refine XRg_true ?_ ?_ | refine XRg_false ?_ ?_) <;> intro hc <;> (try simp only [bl] at hc) <;> (try (exfalso; omega))) | refine XD_w [] [] [] (fun _ => none) mixed (by decide +kernel) (sub_none _) ?_ | refine Pure.call (h1) ?_ | refine ⟨_, Pure.at (h1), ?_⟩ | refine ⟨_, h1, ?_⟩ | refine PureAt.call (h1) ?_ | refine Pure.call (h2) ?_ | refine ⟨_, Pure.at (h2), ?_⟩ | refine ⟨_, h2, ?_⟩ | refine PureAt.call (h2) ?_ | refine Pure.call (h6) ?_ | refine ⟨_, Pure.at (h6), ?_⟩ | refine ⟨_, h6, ?_⟩ | refine PureAt.call (h6) ?_ | fail))
  · rw [if_neg (fun h => qa h.1)] at hR
    rw [hR] at h6
    clear hR
    generalize chkE (oneE nameF) a = ca at *
    intro h; refine callK_body Tryd.func31 rfl (by rw [nt31]; simp) ?_; rw [nt31, rs31]
    (repeat' (first | simp [go_sem, X_region, *] | simp (disch := omega) only [om, *] | ((first | refine XC_split ?_ ?_ | refine XG_true ?_ ?_ | refine XG_false ?_ ?_ | refine XRg_true ?_ ?_ | refine XRg_false ?_ ?_) <;> intro hc <;> (try simp only [bl] at hc) <;> (try (exfalso; omega))) | refine XD_w [] [] [] (fun _ => none) mixed (by decide +kernel) (sub_none _) ?_ | refine Pure.call (h1) ?_ | refine ⟨_, Pure.at (h1), ?_⟩ | refine ⟨_, h1, ?_⟩ | refine PureAt.call (h1) ?_ | refine Pure.call (h6) ?_ | refine ⟨_, Pure.at (h6), ?_⟩ | refine ⟨_, h6, ?_⟩ | refine PureAt.call (h6) ?_ | fail))
theorem sametree_ok (a b : List Nd) (ha : okS a) (hb : okS b) : Pure Tryd.prog 32 [encL 5 cNd a, encL 5 cNd b] (B (sameF a b)) := by
  have h1 := rerr_ok a
  have h2 := rerr_ok b
  rw [tree_chk] at h1 h2
  have h3 := post_ok a
  have h4 := post_ok b
  have h5 := shown_ok _ (cutF_ok ha (a.length - 1)).1 (cutF_ok ha (a.length - 1)).2
  have h6 := shown_ok _ (cutF_ok hb (b.length - 1)).1 (cutF_ok hb (b.length - 1)).2
  have h7 := shown_ok a ha.1 ha.2
  have h8 := shown_ok b hb.1 hb.2
  generalize hR : sameF a b = R
  unfold sameF at hR
  rw [eqE_show, eqE_show] at hR
  generalize cutF a (a.length - 1) = A at *
  generalize cutF b (b.length - 1) = A' at *
  generalize bOf (showE A) = s1 at *
  generalize bOf (showE A') = s2 at *
  generalize bOf (showE a) = s3 at *
  generalize bOf (showE b) = s4 at *
  by_cases qa : chkE (oneE nameF) a = 0
  · rw [qa] at h1 hR
    by_cases qb : chkE (oneE nameF) b = 0
    · rw [qb] at h2 hR
      rw [if_pos ⟨rfl, rfl⟩] at hR
      subst hR
      intro h; refine callK_body Tryd.func32 rfl (by rw [nt32]; simp) ?_; rw [nt32, rs32]
      (repeat' (first | simp [go_sem, X_region, *] | simp (disch := omega) only [om, *] | ((first | refine XC_split ?_ ?_ | refine XG_true ?_ ?_ | refine XG_false ?_ ?_ | refine XRg_true ?_ ?_ | refine XRg_false ?_ ?_) <;> intro hc <;> (try simp only [bl] at hc) <;> (try (exfalso; omega))) | refine XD_w [] [] [] (fun _ => none) mixed (by decide +kernel) (sub_none _) ?_ | refine Pure.call (h1) ?_ | refine ⟨_, Pure.at (h1), ?_⟩ | refine ⟨_, h1, ?_⟩ | refine PureAt.call (h1) ?_ | refine Pure.call (h2) ?_ | refine ⟨_, Pure.at (h2), ?_⟩ | refine ⟨_, h2, ?_⟩ | refine PureAt.call (h2) ?_ | refine Pure.call (h3) ?_ | refine ⟨_, Pure.at (h3), ?_⟩ | refine ⟨_, h3, ?_⟩ | refine PureAt.call (h3) ?_ | refine Pure.call (h4) ?_ | refine ⟨_, Pure.at (h4), ?_⟩ | refine ⟨_, h4, ?_⟩ | refine PureAt.call (h4) ?_ | refine Pure.call (h5) ?_ | refine ⟨_, Pure.at (h5), ?_⟩ | refine ⟨_, h5, ?_⟩ | refine PureAt.call (h5) ?_ | refine Pure.call (h6) ?_ | refine ⟨_, Pure.at (h6), ?_⟩ | refine ⟨_, h6, ?_⟩ | refine PureAt.call (h6) ?_ | fail))
    · rw [if_neg (fun h => qb h.2)] at hR
      subst hR
      generalize chkE (oneE nameF) b = cb at *
      intro h; refine callK_body Tryd.func32 rfl (by rw [nt32]; simp) ?_; rw [nt32, rs32]
      (repeat' (first | simp [go_sem, X_region, *] | simp (disch := omega) only [om, *] | ((first | refine XC_split ?_ ?_ | refine XG_true ?_ ?_ | refine XG_false ?_ ?_ | refine XRg_true ?_ ?_ | refine XRg_false ?_ ?_) <;> intro hc <;> (try simp only [bl] at hc) <;> (try (exfalso; omega))) | refine XD_w [] [] [] (fun _ => none) mixed (by decide +kernel) (sub_none _) ?_ | refine Pure.call (h1) ?_ | refine ⟨_, Pure.at (h1), ?_⟩ | refine ⟨_, h1, ?_⟩ | refine PureAt.call (h1) ?_ | refine Pure.call (h2) ?_ | refine ⟨_, Pure.at (h2), ?_⟩ | refine ⟨_, h2, ?_⟩ | refine PureAt.call (h2) ?_ | refine Pure.call (h7) ?_ | refine ⟨_, Pure.at (h7), ?_⟩ | refine ⟨_, h7, ?_⟩ | refine PureAt.call (h7) ?_ | refine Pure.call (h8) ?_ | refine ⟨_, Pure.at (h8), ?_⟩ | refine ⟨_, h8, ?_⟩ | refine PureAt.call (h8) ?_ | fail))
  · rw [if_neg (fun h => qa h.1)] at hR
    subst hR
    generalize chkE (oneE nameF) a = ca at *
    intro h; refine callK_body Tryd.func32 rfl (by rw [nt32]; simp) ?_; rw [nt32, rs32]
    (repeat' (first | simp [go_sem, X_region, *] | simp (disch := omega) only [om, *] | ((first | refine XC_split ?_ ?_ | refine XG_true ?_ ?_ | refine XG_false ?_ ?_ | refine XRg_true ?_ ?_ | refine XRg_false ?_ ?_) <;> intro hc <;> (try simp only [bl] at hc) <;> (try (exfalso; omega))) | refine XD_w [] [] [] (fun _ => none) mixed (by decide +kernel) (sub_none _) ?_ | refine Pure.call (h1) ?_ | refine ⟨_, Pure.at (h1), ?_⟩ | refine ⟨_, h1, ?_⟩ | refine PureAt.call (h1) ?_ | refine Pure.call (h7) ?_ | refine ⟨_, Pure.at (h7), ?_⟩ | refine ⟨_, h7, ?_⟩ | refine PureAt.call (h7) ?_ | refine Pure.call (h8) ?_ | refine ⟨_, Pure.at (h8), ?_⟩ | refine ⟨_, h8, ?_⟩ | refine PureAt.call (h8) ?_ | fail))
end Go.Proofs.YtmalhikcdideoaaDoor
