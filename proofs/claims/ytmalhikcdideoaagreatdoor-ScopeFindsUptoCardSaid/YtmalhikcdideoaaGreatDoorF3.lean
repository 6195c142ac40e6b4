/- scope.defined: what a body declares, as maps. tree.Copy as a slice of the call's own; scope.renamed. scope.Rename. scope.Rename. scope.Move. The reference's Declared; the closures of Renamed. Elements whose parts are slices of the call's own are appended; they are finished by that. strconv.Itoa by the shelf's contract; FormatBool. mootref2.num. mootref2.TableWhole. Expressions as texts: different  -/
import Derived.Test.YtmalhikcdideoaaGreatDoorF2
import Derived.Test.YtmalhikcdideoaaGreatDoorF1
import Derived.Lib.LaidTab
import Derived.Lib.ItoaLen
import Derived.Test.YtmalhikcdideoaaGreatDoorF0
set_option linter.unusedVariables false
set_option linter.unusedSimpArgs false
namespace Go.Proofs.YtmalhikcdideoaaGreatDoor
open Go Sl
attribute [local irreducible] XRange LpQ XR XRo XRg XRQ putQ XFv XL XW2 wQ putW X XO XOp XH XHo XW SeqQ BlkQ XOQ XHQ NrmQ XC XM XG XHM XHG XD CallK
open Go.RowKit
theorem mget_mset2 {κ ν : Type} [DecidableEq κ] (l : List (κ × ν)) (k : κ) (v : ν) (k' : κ) : mget (mset l k v) k' = if k' = k then some v else mget l k' := by
  induction l with
  | nil => simp [mget, mset]
  | cons x l ih =>
    unfold mset
    by_cases h : k = x.1
    · rw [if_pos h]
      simp only [mget, ← h]
      by_cases h2 : k' = k <;> simp [h2]
    · rw [if_neg h]
      simp only [mget, ih]
      by_cases h2 : k' = x.1
      · have : ¬ k' = k := fun e => h (by rw [← e, h2])
        simp [h2, Ne.symm h, fun e : x.1 = k => h e.symm]
      · simp [h2]
/-- A map that holds true for what is listed. -/
structure SetM {κ : Type} [DecidableEq κ] (ek : κ → AV) (l : List κ) (ob : Ob) : Prop where
  out : ∃ m : List (κ × Bool), IsMap ek B m ob ∧ ∀ k, mget m k = if hasB l k then some true else none
theorem SetM.nil {κ : Type} [DecidableEq κ] (ek : κ → AV) : SetM ek ([] : List κ) (mapOb 0 0 fun _ _ => .any) := ⟨[], IsMap.nil _ _, fun k => by simp [mget, hasB]⟩
theorem hasB_snoc {κ : Type} [DecidableEq κ] (l : List κ) (k k' : κ) : hasB (l ++ [k]) k' = (hasB l k' || decide (k' = k)) := by simp [hasB]
section
variable {P : Program} {N : Nat} {T : Nat → AV} {h : Hp} {K : (Nat → AV) → Hp → Prop} {d : Option Tmp} {t t' kt et : TypeId} {p : String} {af : Array Edge} {g : Option (Nat × Bool)} {κ : Type} [DecidableEq κ] {ek : κ → AV} {l : List κ} {ob : Ob} {b : Nat} {k : κ}
theorem X_setIns {m i x : Operand} (hm : SetM ek l ob) (hb : h b = some ob) (hx : ev T m = .v (.map (some b))) (hi : ev T i = ek k) (hv : ev T x = B true) (hu : P.underlying t' = some (.map kt et)) (hq : ∀ k', keyEq (keyT P kt) (ek k) (ek k') = some (decide (k = k')))
    (hkt : keyT P kt ≠ 0) (hk : ∀ ob', SetM ek (l ++ [k]) ob' → K (putD T d .any) (upd h b (some ob'))) : XW2 P N ⟨d, .mapUpdate t' m i x, t, p, af, g⟩ T h K := by
  obtain ⟨ml, h1, h2⟩ := hm
  refine X_mapUpdate (v := true) h1 hb hx hi hv hu hq hkt fun ob' h3 => hk ob' ⟨_, h3, fun k' => ?_⟩
  rw [mget_mset2, h2, hasB_snoc]
  by_cases h4 : k' = k
  · simp [h4]
  · simp [h4]
theorem X_setGet {x i : Operand} (hm : SetM ek l ob) (hb : h b = some ob) (hx : ev T x = .v (.map (some b))) (hi : ev T i = ek k) (hu : P.underlying t' = some (.map kt et)) (hq : ∀ k', keyEq (keyT P kt) (ek k) (ek k') = some (decide (k = k')))
    (hkt : keyT P kt ≠ 0) (hz : zeroV P et = some (B false)) (hk : K (putD T d (B (hasB l k))) h) : XW2 P N ⟨d, .lookup t' x i false, t, p, af, g⟩ T h K := by
  obtain ⟨ml, h1, h2⟩ := hm
  refine X_lookup (z := false) h1 hb hx hi hu hq hkt hz ?_
  rw [h2]
  cases hh : hasB l k with
  | true => rw [hh] at hk; simpa [lookR] using hk
  | false => rw [hh] at hk; simpa [lookR] using hk
end
@[go_sem] def eRf (r : Rf) : AV := aggL [S r.1, S r.2]
/-- The maps of a body, on the way. -/
structure Df (h g : Hp) (m1 m2 m3 p : Nat) (l1 l2 : List ByteArray) (l3 : List Rf) : Prop where
  sub : Sub h g
  z : h m1 = none ∧ h m2 = none ∧ h m3 = none ∧ h p = none
  ne : m1 ≠ m2 ∧ m1 ≠ m3 ∧ m2 ≠ m3 ∧ p ≠ m1 ∧ p ≠ m2 ∧ p ≠ m3
  a : ∃ o, g m1 = some o ∧ SetM S l1 o
  b : ∃ o, g m2 = some o ∧ SetM S l2 o
  c : ∃ o, g m3 = some o ∧ SetM eRf l3 o
  q : ∃ o, g p = some o ∧ o.ty = 100 ∧ o.s = 1 ∧ o.n = 1 ∧ o.f 0 0 = .v (.map (some m3))
section
variable {h g g' : Hp} {m1 m2 m3 p : Nat} {l1 l2 : List ByteArray} {l3 : List Rf}
theorem Df.grow (d : Df h g m1 m2 m3 p l1 l2 l3) (hS : Sub g g') : Df h g' m1 m2 m3 p l1 l2 l3 := by
  obtain ⟨h1, h2, h3, ⟨o1, a1, a2⟩, ⟨o2, b1, b2⟩, ⟨o3, c1, c2⟩, o4, d1, d2⟩ := d
  exact ⟨h1.trans hS, h2, h3, ⟨o1, hS _ _ a1, a2⟩, ⟨o2, hS _ _ b1, b2⟩, ⟨o3, hS _ _ c1, c2⟩, o4, hS _ _ d1, d2⟩
theorem sub_own {c : Nat} {o : Option Ob} (hS : Sub h g) (hc : h c = none) : Sub h (upd g c o) := fun b ob hb => by
  rw [upd_ne _ _ (fun e => by rw [e, hc] at hb; cases hb)]; exact hS b ob hb
theorem Df.insA {o : Ob} {k : ByteArray} (d : Df h g m1 m2 m3 p l1 l2 l3) (ho : SetM S (l1 ++ [k]) o) : Df h (upd g m1 (some o)) m1 m2 m3 p (l1 ++ [k]) l2 l3 := by
  obtain ⟨h1, h2, h3, _, ⟨o2, b1, b2⟩, ⟨o3, c1, c2⟩, o4, d1, d2⟩ := d
  exact ⟨sub_own h1 h2.1, h2, h3, ⟨o, upd_same _ _ _, ho⟩, ⟨o2, by rw [upd_ne _ _ (Ne.symm h3.1)]; exact b1, b2⟩, ⟨o3, by rw [upd_ne _ _ (Ne.symm h3.2.1)]; exact c1, c2⟩, o4, by rw [upd_ne _ _ h3.2.2.2.1]; exact d1, d2⟩
theorem Df.insB {o : Ob} {k : ByteArray} (d : Df h g m1 m2 m3 p l1 l2 l3) (ho : SetM S (l2 ++ [k]) o) : Df h (upd g m2 (some o)) m1 m2 m3 p l1 (l2 ++ [k]) l3 := by
  obtain ⟨h1, h2, h3, ⟨o1, a1, a2⟩, _, ⟨o3, c1, c2⟩, o4, d1, d2⟩ := d
  exact ⟨sub_own h1 h2.2.1, h2, h3, ⟨o1, by rw [upd_ne _ _ h3.1]; exact a1, a2⟩, ⟨o, upd_same _ _ _, ho⟩, ⟨o3, by rw [upd_ne _ _ (Ne.symm h3.2.2.1)]; exact c1, c2⟩, o4, by rw [upd_ne _ _ h3.2.2.2.2.1]; exact d1, d2⟩
theorem Df.insC {o : Ob} {k : Rf} (d : Df h g m1 m2 m3 p l1 l2 l3) (ho : SetM eRf (l3 ++ [k]) o) : Df h (upd g m3 (some o)) m1 m2 m3 p l1 l2 (l3 ++ [k]) := by
  obtain ⟨h1, h2, h3, ⟨o1, a1, a2⟩, ⟨o2, b1, b2⟩, _, o4, d1, d2⟩ := d
  exact ⟨sub_own h1 h2.2.2.1, h2, h3, ⟨o1, by rw [upd_ne _ _ h3.2.1]; exact a1, a2⟩, ⟨o2, by rw [upd_ne _ _ h3.2.2.1]; exact b1, b2⟩, ⟨o, upd_same _ _ _, ho⟩, o4, by rw [upd_ne _ _ h3.2.2.2.2.2]; exact d1, d2⟩
end
theorem kq_s (k k' : ByteArray) : keyEq (keyT Tryz.prog 9) (S k) (S k') = some (decide (k = k')) := by rw [kt61]; simp [keyEq]
theorem kz_s : keyT Tryz.prog 9 ≠ 0 := by rw [kt61]; decide
theorem kq_r (k k' : Rf) : keyEq (keyT Tryz.prog 25) (eRf k) (eRf k') = some (decide (k = k')) := by
  rw [kt100]
  obtain ⟨a, b⟩ := k
  obtain ⟨c, d⟩ := k'
  simp [keyEq, key2, eRf, aggL, Prod.ext_iff]
theorem kz_r : keyT Tryz.prog 25 ≠ 0 := by rw [kt100]; decide
/-- The closure that notes an article. -/
theorem note_ok {h g : Hp} {m1 m2 m3 p : Nat} {l1 l2 : List ByteArray} {l3 : List Rf} (d : Df h g m1 m2 m3 p l1 l2 l3) (r : Rf) (x : Arx) :
    CallK Tryz.prog g 125 [eRf r, aggL (cArx x), ptrB p] fun _ g' => Df h g' m1 m2 m3 p l1 l2 (l3 ++ [r]) := by
  refine callK_body Tryz.func125 rfl (by rw [nt125]; simp) ?_; rw [nt125, rs125]
  (repeat' (first | simp [go_sem, X_region, *] | simp (disch := omega) only [om, *] | ((first | refine XC_split ?_ ?_ | refine XG_true ?_ ?_ | refine XG_false ?_ ?_ | refine XRg_true ?_ ?_ | refine XRg_false ?_ ?_) <;> intro hc <;> (try simp only [bl] at hc) <;> (try (exfalso; omega))) | refine XD_w [] [] [] (fun _ => none) mixed (by decide +kernel) (sub_none _) ?_ | fail))
  intro b3 hb3
  (repeat' (first | simp [go_sem, X_region, *] | simp (disch := omega) only [om, *] | ((first | refine XC_split ?_ ?_ | refine XG_true ?_ ?_ | refine XG_false ?_ ?_ | refine XRg_true ?_ ?_ | refine XRg_false ?_ ?_) <;> intro hc <;> (try simp only [bl] at hc) <;> (try (exfalso; omega))) | refine XD_w [] [] [] (fun _ => none) mixed (by decide +kernel) (sub_none _) ?_ | fail))
  intro b4 n1 n2 hb4
  obtain ⟨o3, c1, c2⟩ := d.c
  obtain ⟨o4, d1, d2, d3, d4, d5⟩ := d.q
  have e3 := ne_free hb3 c1
  have e4 := ne_free hb3 d1
  have e5 := ne_free hb4 c1
  have e6 := ne_free hb4 d1
  (repeat' (first | simp [go_sem, X_region, *] | simp (disch := omega) only [om, *] | ((first | refine XC_split ?_ ?_ | refine XG_true ?_ ?_ | refine XG_false ?_ ?_ | refine XRg_true ?_ ?_ | refine XRg_false ?_ ?_) <;> intro hc <;> (try simp only [bl] at hc) <;> (try (exfalso; omega))) | refine XD_w [] [] [] (fun _ => none) mixed (by decide +kernel) (sub_none _) ?_ | fail))
  refine X_setIns (ek := eRf) (k := r) c2 (by rw [upd_ne _ _ e5.2, upd_ne _ _ e3.2]; exact c1) (by simp [go_sem]) (by simp [go_sem]) (by simp [go_sem]) und100 (kq_r _) kz_r fun ob' h3 => ?_
  (repeat' (first | simp [go_sem, X_region, *] | simp (disch := omega) only [om, *] | ((first | refine XC_split ?_ ?_ | refine XG_true ?_ ?_ | refine XG_false ?_ ?_ | refine XRg_true ?_ ?_ | refine XRg_false ?_ ?_) <;> intro hc <;> (try simp only [bl] at hc) <;> (try (exfalso; omega))) | refine XD_w [] [] [] (fun _ => none) mixed (by decide +kernel) (sub_none _) ?_ | fail))
  exact ⟨_, _, Wk.refl _ _, (d.grow (Sub.upd hb4 (Sub.upd hb3 (Sub.refl _)))).insC h3⟩
/-- The articles of acts, with their references. -/
def pairs (b : List Acx) : List (Rf × Arx) := b.flatMap fun a => a.arts.map fun x => ((a.name, x.name), x)
/-- What a walk over articles keeps, above a base. -/
structure Stab (Inv : Hp → List (Rf × Arx) → Hp → Prop) : Prop where
  sub : ∀ {B l g}, Inv B l g → Sub B g
  with_ : ∀ {B l g c o}, Inv B l g → g c = none → Inv (upd B c (some o)) l (upd g c (some o))
  up : ∀ {B0 B l g}, Inv B l g → Sub B0 B → Inv B0 l g
set_option maxHeartbeats 1000000 in
theorem articles_ok (b : List Acx) (hal : ∀ a ∈ b, a.arts.length ≤ 1048576) (f : FuncId) (caps : List Value) (hcal : callable Tryz.prog f = true) {Inv : Hp → List (Rf × Arx) → Hp → Prop} (hs : Stab Inv)
    (hstep : ∀ B r x l g, Inv B ((r, x) :: l) g → CallK Tryz.prog g f ([eRf r, aggL (cArx x)] ++ caps.map .v) fun _ g' => Inv B l g') (h0 h : Hp) (hi : Inv h0 (pairs b) h) :
    CallK Tryz.prog h 86 [encL 6 cAcx b, .v (.func (.func f) #[] caps.toArray)] fun _ h' => Inv h0 [] h' := by
  refine CallK.lens fun hlen => ?_; have hlen := (hlen _ (by simp only [List.mem_cons, true_or, or_true] : (encL 6 cAcx b) ∈ _)).encL
  refine callK_body Tryz.func86 rfl (by rw [nt86]; simp) ?_; rw [nt86, rs86]
  (repeat' (first | simp [go_sem, X_region, *] | simp (disch := omega) only [om, *] | ((first | refine XC_split ?_ ?_ | refine XG_true ?_ ?_ | refine XG_false ?_ ?_ | refine XRg_true ?_ ?_ | refine XRg_false ?_ ?_) <;> intro hc <;> (try simp only [bl] at hc) <;> (try (exfalso; omega))) | refine XD_w [] [] [] (fun _ => none) mixed (by decide +kernel) (sub_none _) ?_ | fail))
  refine X_lpF (fun i => i = 5 ∨ i = 7 ∨ (10 ≤ i ∧ i ≤ 30)) (fun n T g => ∃ (i : Nat) (r : List Acx), n = r.length ∧ i ≤ b.length ∧ b.drop i = r ∧ T 10 = I i ∧ Inv h0 (pairs r) g) b.length ⟨0, b, rfl, by omega, rfl, by simp [go_sem], hi⟩ ?_
  clear hi
  rintro J hJ n T g hfr ⟨i, r, rfl, hi, hd, t10, inv⟩
  rcases r with _ | ⟨a, r⟩
  · have hlt := drop_nil hd
    (repeat' (first | simp [go_sem, X_region, *] | simp (disch := omega) only [om, *] | ((first | refine XC_split ?_ ?_ | refine XG_true ?_ ?_ | refine XG_false ?_ ?_ | refine XRg_true ?_ ?_ | refine XRg_false ?_ ?_) <;> intro hc <;> (try simp only [bl] at hc) <;> (try (exfalso; omega))) | refine XD_w [] [] [] (fun _ => none) mixed (by decide +kernel) (sub_none _) ?_ | fail))
    exact ⟨_, _, Wk.refl _ _, inv⟩
  · obtain ⟨hlt, hx, hd2⟩ := drop_cons hd
    have hp : pairs (a :: r) = a.arts.map (fun x => ((a.name, x.name), x)) ++ pairs r := by simp [pairs]
    rw [hp] at inv
    clear hp
    have hxl := hal a (by rw [← hx]; exact List.getElem_mem hlt)
    (repeat' (first | simp [go_sem, X_region, *] | simp (disch := omega) only [om, *] | ((first | refine XC_split ?_ ?_ | refine XG_true ?_ ?_ | refine XG_false ?_ ?_ | refine XRg_true ?_ ?_ | refine XRg_false ?_ ?_) <;> intro hc <;> (try simp only [bl] at hc) <;> (try (exfalso; omega))) | refine XD_w [] [] [] (fun _ => none) mixed (by decide +kernel) (sub_none _) ?_ | fail))
    intro b5 hb5
    (repeat' (first | simp [go_sem, X_region, *] | simp (disch := omega) only [om, *] | ((first | refine XC_split ?_ ?_ | refine XG_true ?_ ?_ | refine XG_false ?_ ?_ | refine XRg_true ?_ ?_ | refine XRg_false ?_ ?_) <;> intro hc <;> (try simp only [bl] at hc) <;> (try (exfalso; omega))) | refine XD_w [] [] [] (fun _ => none) mixed (by decide +kernel) (sub_none _) ?_ | fail))
    have h5 : h0 b5 = none := sub_none_of (hs.sub inv) hb5
    refine X_lpF (fun i => i = 7 ∨ (17 ≤ i ∧ i ≤ 29)) (fun n T g => ∃ (j : Nat) (rk : List Arx) (ob : Ob), n = rk.length ∧ j ≤ a.arts.length ∧ a.arts.drop j = rk ∧ T 17 = I j ∧ Inv (upd h0 b5 (some ob)) (rk.map (fun x => ((a.name, x.name), x)) ++ pairs r) g ∧ ob.ty = 37 ∧ ob.s = 6 ∧ ob.n = 1 ∧ ob.f 0 0 = S a.name) a.arts.length
      ⟨0, a.arts, _, rfl, by omega, rfl, by simp [go_sem], hs.with_ inv hb5, rfl, rfl, rfl, rfl⟩ ?_
    clear inv
    rintro J2 hJ2 n2 T2 g2 hfr2 ⟨j, rk, ob, rfl, hj, hdk, t17, inv, p1, p2, p3, p4⟩
    have e5 := hs.sub inv b5 _ (upd_same _ _ _)
    rcases rk with _ | ⟨x, rk⟩
    · have hltk := drop_nil hdk
      (repeat' (first | simp [go_sem, X_region, *] | simp (disch := omega) only [om, *] | ((first | refine XC_split ?_ ?_ | refine XG_true ?_ ?_ | refine XG_false ?_ ?_ | refine XRg_true ?_ ?_ | refine XRg_false ?_ ?_) <;> intro hc <;> (try simp only [bl] at hc) <;> (try (exfalso; omega))) | refine XD_w [] [] [] (fun _ => none) mixed (by decide +kernel) (sub_none _) ?_ | fail))
      exact ⟨_, Nat.lt_succ_self _, hJ.out _ _ _ ⟨(by (repeat (refine fr_upd (by decide) ?_)); exact fr_in (by intro i; omega) hfr2 (by (repeat (refine fr_upd (by decide) ?_)); exact hfr)), i + 1, r, rfl, by omega, hd2, by simp [go_sem], hs.up inv (Sub.upd h5 (Sub.refl _))⟩⟩
    · obtain ⟨hltk, hxk, hdk2⟩ := drop_cons hdk
      (repeat' (first | simp [go_sem, X_region, *] | simp (disch := omega) only [om, *] | ((first | refine XC_split ?_ ?_ | refine XG_true ?_ ?_ | refine XG_false ?_ ?_ | refine XRg_true ?_ ?_ | refine XRg_false ?_ ?_) <;> intro hc <;> (try simp only [bl] at hc) <;> (try (exfalso; omega))) | refine XD_w [] [] [] (fun _ => none) mixed (by decide +kernel) (sub_none _) ?_ | fail))
      intro b7 hb7
      have e7 := ne_free hb7 e5
      (repeat' (first | simp [go_sem, X_region, *] | simp (disch := omega) only [om, *] | ((first | refine XC_split ?_ ?_ | refine XG_true ?_ ?_ | refine XG_false ?_ ?_ | refine XRg_true ?_ ?_ | refine XRg_false ?_ ?_) <;> intro hc <;> (try simp only [bl] at hc) <;> (try (exfalso; omega))) | refine XD_w [] [] [] (fun _ => none) mixed (by decide +kernel) (sub_none _) ?_ | fail))
      refine (hstep _ (a.name, x.name) x _ _ (hs.with_ inv hb7)).mono fun r1 g3 i3 => ?_
      have i4 := hs.up i3 (Sub.upd (sub_none_of (hs.sub inv) hb7) (Sub.refl _))
      (repeat' (first | simp [go_sem, X_region, *] | simp (disch := omega) only [om, *] | ((first | refine XC_split ?_ ?_ | refine XG_true ?_ ?_ | refine XG_false ?_ ?_ | refine XRg_true ?_ ?_ | refine XRg_false ?_ ?_) <;> intro hc <;> (try simp only [bl] at hc) <;> (try (exfalso; omega))) | refine XD_w [] [] [] (fun _ => none) mixed (by decide +kernel) (sub_none _) ?_ | fail))
      exact ⟨_, Nat.lt_succ_self _, hJ2.out _ _ _ ⟨(by (repeat (refine fr_upd (by decide) ?_)); exact hfr2), j + 1, rk, ob, rfl, by omega, hdk2, by simp [go_sem], i4, p1, p2, p3, p4⟩⟩
theorem Df.with_ {h g : Hp} {m1 m2 m3 p : Nat} {l1 l2 : List ByteArray} {l3 : List Rf} {c : Nat} {o : Ob} (d : Df h g m1 m2 m3 p l1 l2 l3) (hc : g c = none) : Df (upd h c (some o)) (upd g c (some o)) m1 m2 m3 p l1 l2 l3 := by
  have d' := d.grow (Sub.upd (o := o) hc (Sub.refl _))
  obtain ⟨o1, a1, _⟩ := d.a
  obtain ⟨o2, a2, _⟩ := d.b
  obtain ⟨o3, a3, _⟩ := d.c
  obtain ⟨o4, a4, _⟩ := d.q
  refine ⟨sub_with d.sub, ⟨?_, ?_, ?_, ?_⟩, d.ne, d'.a, d'.b, d'.c, d'.q⟩
  · rw [upd_ne _ _ (ne_free hc a1).2]; exact d.z.1
  · rw [upd_ne _ _ (ne_free hc a2).2]; exact d.z.2.1
  · rw [upd_ne _ _ (ne_free hc a3).2]; exact d.z.2.2.1
  · rw [upd_ne _ _ (ne_free hc a4).2]; exact d.z.2.2.2
theorem Df.up {h0 h g : Hp} {m1 m2 m3 p : Nat} {l1 l2 : List ByteArray} {l3 : List Rf} (d : Df h g m1 m2 m3 p l1 l2 l3) (hS : Sub h0 h) : Df h0 g m1 m2 m3 p l1 l2 l3 :=
  ⟨hS.trans d.sub, ⟨sub_none_of hS d.z.1, sub_none_of hS d.z.2.1, sub_none_of hS d.z.2.2.1, sub_none_of hS d.z.2.2.2⟩, d.ne, d.a, d.b, d.c, d.q⟩
/-- What 'defined' hands back. -/
structure Decl (h g : Hp) (r : AV) (b : List Acx) : Prop where
  out : ∃ m1 m2 m3 p, r = tup3 (.v (.map (some m1))) (.v (.map (some m2))) (.v (.map (some m3))) ∧ Df h g m1 m2 m3 p (attrN b) (tabN b) (refN b)
theorem refN_pairs (b : List Acx) : (pairs b).map (·.1) = refN b := by
  simp [pairs, refN, List.map_flatMap, Function.comp_def]
set_option maxHeartbeats 4000000 in
theorem defined_ok (b : List Acx) (hal : ∀ a ∈ b, a.attrs.length ≤ 1048576 ∧ a.tables.length ≤ 1048576 ∧ a.arts.length ≤ 1048576) (h : Hp) : CallK Tryz.prog h 54 [encL 6 cAcx b] fun r g => Decl h g r b := by
  refine CallK.lens fun hlen => ?_; have hlen := (hlen _ (by simp only [List.mem_cons, true_or, or_true] : (encL 6 cAcx b) ∈ _)).encL
  refine callK_body Tryz.func54 rfl (by rw [nt54]; simp) ?_; rw [nt54, rs54]
  (repeat' (first | simp [go_sem, X_region, *] | simp (disch := omega) only [om, *] | ((first | refine XC_split ?_ ?_ | refine XG_true ?_ ?_ | refine XG_false ?_ ?_ | refine XRg_true ?_ ?_ | refine XRg_false ?_ ?_) <;> intro hc <;> (try simp only [bl] at hc) <;> (try (exfalso; omega))) | refine XD_w [] [] [] (fun _ => none) mixed (by decide +kernel) (sub_none _) ?_ | fail))
  intro b1 hb1 b2 n2a n2b hb2 b3 n3a n3b n3c n3d hb3 b4 n4a n4b n4c n4d n4e n4f hb4
  refine X_lpF (fun i => i = 9 ∨ i = 11 ∨ i = 13 ∨ (19 ≤ i ∧ i ≤ 45)) (fun n T g => ∃ (i : Nat) (r : List Acx) (l1 l2 : List ByteArray), n = r.length ∧ i ≤ b.length ∧ b.drop i = r ∧ T 19 = I i ∧ Df h g b1 b2 b3 b4 l1 l2 [] ∧ Hid (l1 ++ attrN r = attrN b) ∧ Hid (l2 ++ tabN r = tabN b)) b.length
    ⟨0, b, [], [], rfl, by omega, rfl, by simp [go_sem], ⟨Sub.upd hb4 (Sub.upd hb3 (Sub.upd hb2 (Sub.upd hb1 (Sub.refl _)))), ⟨hb1, hb2, hb3, hb4⟩, ⟨n2b, n3d, n3b, n4e, n4c, n4a⟩,
      ⟨_, (upd_ne _ _ n4f).trans ((upd_ne _ _ n3d).trans ((upd_ne _ _ n2b).trans (upd_same _ _ _))), SetM.nil _⟩, ⟨_, (upd_ne _ _ n4d).trans ((upd_ne _ _ n3b).trans (upd_same _ _ _)), SetM.nil _⟩, ⟨_, (upd_ne _ _ n4b).trans (upd_same _ _ _), SetM.nil _⟩, _, upd_same _ _ _, rfl, rfl, rfl, by simp⟩, ⟨rfl⟩, ⟨rfl⟩⟩ ?_
  rintro J hJ n T g hfr ⟨i, r, l1, l2, rfl, hi, hd, t19, df, q1, q2⟩
  rcases r with _ | ⟨a, r⟩
  · have hlt := drop_nil hd
    have e1 : l1 = attrN b := by have := q1.out; simpa [attrN] using this
    have e2 : l2 = tabN b := by have := q2.out; simpa [tabN] using this
    subst e1
    subst e2
    have ha : CallK Tryz.prog g 86 [encL 6 cAcx b, .v (.func (.func 125) #[] #[.pointer (some ⟨b4, 0, none⟩)])] fun _ h' => ∃ l3, Df h h' b1 b2 b3 b4 (attrN b) (tabN b) l3 ∧ l3 ++ [] = refN b :=
      articles_ok b (fun a ha => (hal a ha).2.2) 125 [.pointer (some ⟨b4, 0, none⟩)] (by kernel_rfl) (Inv := fun B l g => ∃ l3, Df B g b1 b2 b3 b4 (attrN b) (tabN b) l3 ∧ l3 ++ l.map (·.1) = refN b)
        ⟨fun ⟨_, d, _⟩ => d.sub, fun ⟨l3, d, e⟩ hc => ⟨l3, d.with_ hc, e⟩, fun ⟨l3, d, e⟩ hS => ⟨l3, d.up hS, e⟩⟩
        (fun B r x l g ⟨l3, d, e⟩ => (note_ok d r x).mono fun _ g' d' => ⟨_, d', by rw [← e]; simp⟩) h g ⟨[], df, by rw [← refN_pairs]; rfl⟩
    (repeat' (first | simp [go_sem, X_region, *] | simp (disch := omega) only [om, *] | ((first | refine XC_split ?_ ?_ | refine XG_true ?_ ?_ | refine XG_false ?_ ?_ | refine XRg_true ?_ ?_ | refine XRg_false ?_ ?_) <;> intro hc <;> (try simp only [bl] at hc) <;> (try (exfalso; omega))) | refine XD_w [] [] [] (fun _ => none) mixed (by decide +kernel) (sub_none _) ?_ | fail))
    refine ha.mono ?_
    rintro r g3 ⟨l3, d, e⟩
    rw [List.append_nil] at e
    subst e
    obtain ⟨o4, d1, d2, d3, d4, d5⟩ := d.q
    (repeat' (first | simp [go_sem, X_region, *] | simp (disch := omega) only [om, *] | ((first | refine XC_split ?_ ?_ | refine XG_true ?_ ?_ | refine XG_false ?_ ?_ | refine XRg_true ?_ ?_ | refine XRg_false ?_ ?_) <;> intro hc <;> (try simp only [bl] at hc) <;> (try (exfalso; omega))) | refine XD_w [] [] [] (fun _ => none) mixed (by decide +kernel) (sub_none _) ?_ | fail))
    exact ⟨_, _, Wk.refl _ _, b1, b2, b3, b4, rfl, d⟩
  · obtain ⟨hlt, hx, hd2⟩ := drop_cons hd
    obtain ⟨hxl, htl, _⟩ := hal a (by rw [← hx]; exact List.getElem_mem hlt)
    (repeat' (first | simp [go_sem, X_region, *] | simp (disch := omega) only [om, *] | ((first | refine XC_split ?_ ?_ | refine XG_true ?_ ?_ | refine XG_false ?_ ?_ | refine XRg_true ?_ ?_ | refine XRg_false ?_ ?_) <;> intro hc <;> (try simp only [bl] at hc) <;> (try (exfalso; omega))) | refine XD_w [] [] [] (fun _ => none) mixed (by decide +kernel) (sub_none _) ?_ | fail))
    intro b9 hb9
    have h9 : h b9 = none := sub_none_of df.sub hb9
    (repeat' (first | simp [go_sem, X_region, *] | simp (disch := omega) only [om, *] | ((first | refine XC_split ?_ ?_ | refine XG_true ?_ ?_ | refine XG_false ?_ ?_ | refine XRg_true ?_ ?_ | refine XRg_false ?_ ?_) <;> intro hc <;> (try simp only [bl] at hc) <;> (try (exfalso; omega))) | refine XD_w [] [] [] (fun _ => none) mixed (by decide +kernel) (sub_none _) ?_ | fail))
    refine X_lpF (fun i => i = 11 ∨ (26 ≤ i ∧ i ≤ 33)) (fun n T g => ∃ (j : Nat) (rk : List Atx) (l1 : List ByteArray) (ob : Ob), n = rk.length ∧ j ≤ a.attrs.length ∧ a.attrs.drop j = rk ∧ T 26 = I j ∧ Df (upd h b9 (some ob)) g b1 b2 b3 b4 l1 l2 [] ∧ Hid (l1 ++ (rk.map (·.name) ++ attrN r) = attrN b) ∧ ob.ty = 37 ∧ ob.s = 6 ∧ ob.n = 1 ∧ ob.f 0 4 = encL 5 cTb a.tables) a.attrs.length
      ⟨0, a.attrs, l1, _, rfl, by omega, rfl, by simp [go_sem], df.with_ hb9, ⟨by rw [← q1.out]; simp [attrN]⟩, rfl, rfl, rfl, rfl⟩ ?_
    clear df q1
    rintro J2 hJ2 n2 T2 g2 hfr2 ⟨j, rk, l1, ob, rfl, hj, hdk, t26, df, q1, p1, p2, p3, p4⟩
    have e9 := df.sub b9 _ (upd_same _ _ _)
    rcases rk with _ | ⟨x, rk⟩
    · have hltk := drop_nil hdk
      have q1 : Hid (l1 ++ attrN r = attrN b) := ⟨q1.out⟩
      (repeat' (first | simp [go_sem, X_region, *] | simp (disch := omega) only [om, *] | ((first | refine XC_split ?_ ?_ | refine XG_true ?_ ?_ | refine XG_false ?_ ?_ | refine XRg_true ?_ ?_ | refine XRg_false ?_ ?_) <;> intro hc <;> (try simp only [bl] at hc) <;> (try (exfalso; omega))) | refine XD_w [] [] [] (fun _ => none) mixed (by decide +kernel) (sub_none _) ?_ | fail))
      refine X_lpF (fun i => i = 13 ∨ (37 ≤ i ∧ i ≤ 44)) (fun n T g => ∃ (j : Nat) (rk : List Tb) (l2 : List ByteArray), n = rk.length ∧ j ≤ a.tables.length ∧ a.tables.drop j = rk ∧ T 37 = I j ∧ Df (upd h b9 (some ob)) g b1 b2 b3 b4 l1 l2 [] ∧ Hid (l2 ++ (rk.map (·.name) ++ tabN r) = tabN b)) a.tables.length
        ⟨0, a.tables, l2, rfl, by omega, rfl, by simp [go_sem], df, ⟨by rw [← q2.out]; simp [tabN]⟩⟩ ?_
      clear df q2 e9
      rintro J3 hJ3 n3 T3 g3 hfr3 ⟨k, rk, l2, rfl, hk, hdk, t37, df, q2⟩
      rcases rk with _ | ⟨x, rk⟩
      · have hltk := drop_nil hdk
        have q2 : Hid (l2 ++ tabN r = tabN b) := ⟨q2.out⟩
        (repeat' (first | simp [go_sem, X_region, *] | simp (disch := omega) only [om, *] | ((first | refine XC_split ?_ ?_ | refine XG_true ?_ ?_ | refine XG_false ?_ ?_ | refine XRg_true ?_ ?_ | refine XRg_false ?_ ?_) <;> intro hc <;> (try simp only [bl] at hc) <;> (try (exfalso; omega))) | refine XD_w [] [] [] (fun _ => none) mixed (by decide +kernel) (sub_none _) ?_ | fail))
        refine ⟨_, Nat.lt_succ_self _, hJ.out _ _ _ ⟨?_, i + 1, r, l1, l2, rfl, by omega, hd2, by simp [go_sem], df.up (Sub.upd h9 (Sub.refl _)), q1, q2⟩⟩
        repeat (refine fr_upd (by decide) ?_)
        refine fr_in (by intro i; omega) hfr3 ?_
        repeat (refine fr_upd (by decide) ?_)
        refine fr_in (by intro i; omega) hfr2 ?_
        repeat (refine fr_upd (by decide) ?_)
        exact hfr
      · obtain ⟨hltk, hxk, hdk2⟩ := drop_cons hdk
        (repeat' (first | simp [go_sem, X_region, *] | simp (disch := omega) only [om, *] | ((first | refine XC_split ?_ ?_ | refine XG_true ?_ ?_ | refine XG_false ?_ ?_ | refine XRg_true ?_ ?_ | refine XRg_false ?_ ?_) <;> intro hc <;> (try simp only [bl] at hc) <;> (try (exfalso; omega))) | refine XD_w [] [] [] (fun _ => none) mixed (by decide +kernel) (sub_none _) ?_ | fail))
        intro b13 hb13
        have d2 := fun o => df.with_ (o := o) hb13
        have h13 := sub_none_of df.sub hb13
        (repeat' (first | simp [go_sem, X_region, *] | simp (disch := omega) only [om, *] | ((first | refine XC_split ?_ ?_ | refine XG_true ?_ ?_ | refine XG_false ?_ ?_ | refine XRg_true ?_ ?_ | refine XRg_false ?_ ?_) <;> intro hc <;> (try simp only [bl] at hc) <;> (try (exfalso; omega))) | refine XD_w [] [] [] (fun _ => none) mixed (by decide +kernel) (sub_none _) ?_ | fail))
        obtain ⟨o1, a1, a2⟩ := (d2 _).b
        refine X_setIns (k := x.name) a2 a1 (by simp [go_sem]) (by simp [go_sem]) (by simp [go_sem]) und61 (kq_s _) kz_s fun ob' h3 => ?_
        have d3 := fun o => ((d2 o).insB h3).up (Sub.upd h13 (Sub.refl _))
        (repeat' (first | simp [go_sem, X_region, *] | simp (disch := omega) only [om, *] | ((first | refine XC_split ?_ ?_ | refine XG_true ?_ ?_ | refine XG_false ?_ ?_ | refine XRg_true ?_ ?_ | refine XRg_false ?_ ?_) <;> intro hc <;> (try simp only [bl] at hc) <;> (try (exfalso; omega))) | refine XD_w [] [] [] (fun _ => none) mixed (by decide +kernel) (sub_none _) ?_ | fail))
        exact ⟨_, Nat.lt_succ_self _, hJ3.out _ _ _ ⟨(by (repeat (refine fr_upd (by decide) ?_)); exact hfr3), k + 1, rk, _, rfl, by omega, hdk2, by simp [go_sem], d3 _, ⟨by rw [← q2.out]; simp⟩⟩⟩
    · obtain ⟨hltk, hxk, hdk2⟩ := drop_cons hdk
      (repeat' (first | simp [go_sem, X_region, *] | simp (disch := omega) only [om, *] | ((first | refine XC_split ?_ ?_ | refine XG_true ?_ ?_ | refine XG_false ?_ ?_ | refine XRg_true ?_ ?_ | refine XRg_false ?_ ?_) <;> intro hc <;> (try simp only [bl] at hc) <;> (try (exfalso; omega))) | refine XD_w [] [] [] (fun _ => none) mixed (by decide +kernel) (sub_none _) ?_ | fail))
      intro b11 hb11
      have d2 := fun o => df.with_ (o := o) hb11
      have h11 := sub_none_of df.sub hb11
      (repeat' (first | simp [go_sem, X_region, *] | simp (disch := omega) only [om, *] | ((first | refine XC_split ?_ ?_ | refine XG_true ?_ ?_ | refine XG_false ?_ ?_ | refine XRg_true ?_ ?_ | refine XRg_false ?_ ?_) <;> intro hc <;> (try simp only [bl] at hc) <;> (try (exfalso; omega))) | refine XD_w [] [] [] (fun _ => none) mixed (by decide +kernel) (sub_none _) ?_ | fail))
      obtain ⟨o1, a1, a2⟩ := (d2 _).a
      refine X_setIns (k := x.name) a2 a1 (by simp [go_sem]) (by simp [go_sem]) (by simp [go_sem]) und61 (kq_s _) kz_s fun ob' h3 => ?_
      have d3 := fun o => ((d2 o).insA h3).up (Sub.upd h11 (Sub.refl _))
      (repeat' (first | simp [go_sem, X_region, *] | simp (disch := omega) only [om, *] | ((first | refine XC_split ?_ ?_ | refine XG_true ?_ ?_ | refine XG_false ?_ ?_ | refine XRg_true ?_ ?_ | refine XRg_false ?_ ?_) <;> intro hc <;> (try simp only [bl] at hc) <;> (try (exfalso; omega))) | refine XD_w [] [] [] (fun _ => none) mixed (by decide +kernel) (sub_none _) ?_ | fail))
      exact ⟨_, Nat.lt_succ_self _, hJ2.out _ _ _ ⟨(by (repeat (refine fr_upd (by decide) ?_)); exact hfr2), j + 1, rk, _, ob, rfl, by omega, hdk2, by simp [go_sem], d3 _, ⟨by rw [← q1.out]; simp⟩, p1, p2, p3, p4⟩⟩
end Go.Proofs.YtmalhikcdideoaaGreatDoor

set_option linter.unusedVariables false
set_option linter.unusedSimpArgs false
namespace Go.Proofs.YtmalhikcdideoaaGreatDoor
open Go Sl
attribute [local irreducible] XRange LpQ XR XRo XRg XRQ putQ XFv XL XW2 wQ putW X XO XOp XH XHo XW SeqQ BlkQ XOQ XHQ NrmQ XC XM XG XHM XHG XD CallK
open Go.RowKit
set_option maxHeartbeats 4000000 in
theorem copyO_ok (e : List Nd) (he : e.length ≤ 1048576) (hk : ∀ x ∈ e, x.kids.length ≤ 1048576) (h : Hp) : CallK Tryz.prog h 130 [encL 5 cNd e] fun r h' => Own h h' r 65 5 e.length (cellsL cNd e) := by
  refine CallK.lens fun hlen => ?_; have hlen := (hlen _ (by simp only [List.mem_cons, true_or, or_true] : (encL 5 cNd e) ∈ _)).encL; refine callK_body Tryz.func130 rfl (by rw [nt130]; simp) ?_; rw [nt130, rs130]
  (repeat' (first | simp [go_sem, X_region, *] | simp (disch := omega) only [om, *] | ((first | refine XC_split ?_ ?_ | refine XG_true ?_ ?_ | refine XG_false ?_ ?_ | refine XRg_true ?_ ?_ | refine XRg_false ?_ ?_) <;> intro hc <;> (try simp only [bl] at hc) <;> (try (exfalso; omega))) | refine XD_w [] [] [] (fun _ => none) mixed (by decide +kernel) (sub_none _) ?_ | fail))
  refine X_lpFW (fun i => i = 3 ∨ i = 5 ∨ (8 ≤ i ∧ i ≤ 20)) (fun n T g => ∃ (i : Nat) (r acc : List Nd), n = r.length ∧ i ≤ e.length ∧ e.drop i = r ∧ acc ++ r = e ∧ acc.length = i ∧ T 8 = I i ∧ Own h g (T 3) 65 5 acc.length (cellsL cNd acc)) e.length
    ⟨0, e, [], rfl, by omega, rfl, rfl, rfl, by simp [go_sem], by simpa [go_sem] using Own.none⟩ ?_
  rintro J hJ n T g hfr ⟨i, r, acc, rfl, hi, hd, hacc, hal, t8, own⟩
  rcases r with _ | ⟨x, r⟩
  · have hlt := drop_nil hd
    rw [List.append_nil] at hacc
    subst hacc
    rw [hal] at own
    (repeat' (first | simp [go_sem, X_region, *] | simp (disch := omega) only [om, *] | ((first | refine XC_split ?_ ?_ | refine XG_true ?_ ?_ | refine XG_false ?_ ?_ | refine XRg_true ?_ ?_ | refine XRg_false ?_ ?_) <;> intro hc <;> (try simp only [bl] at hc) <;> (try (exfalso; omega))) | refine XD_w [] [] [] (fun _ => none) mixed (by decide +kernel) (sub_none _) ?_ | fail))
    exact ⟨_, _, Wk.refl _ _, own⟩
  · obtain ⟨hlt, hx, hd2⟩ := drop_cons hd
    have hxk := hk x (by rw [← hx]; exact List.getElem_mem hlt)
    (repeat' (first | simp [go_sem, X_region, *] | simp (disch := omega) only [om, *] | ((first | refine XC_split ?_ ?_ | refine XG_true ?_ ?_ | refine XG_false ?_ ?_ | refine XRg_true ?_ ?_ | refine XRg_false ?_ ?_) <;> intro hc <;> (try simp only [bl] at hc) <;> (try (exfalso; omega))) | refine XD_w [] [] [] (fun _ => none) mixed (by decide +kernel) (sub_none _) ?_ | fail))
    intro b5 hb5
    (repeat' (first | simp [go_sem, X_region, *] | simp (disch := omega) only [om, *] | ((first | refine XC_split ?_ ?_ | refine XG_true ?_ ?_ | refine XG_false ?_ ?_ | refine XRg_true ?_ ?_ | refine XRg_false ?_ ?_) <;> intro hc <;> (try simp only [bl] at hc) <;> (try (exfalso; omega))) | refine XD_w [] [] [] (fun _ => none) mixed (by decide +kernel) (sub_none _) ?_ | fail))
    refine clone_call (x := x) hxk rfl rfl rfl (by simp) (by simp) (by simp) (by simp) fun ob r1 g1 p1 p2 p3 f0 f2 f3 f4 hs hr => ?_
    have e5 : g1 b5 = some ob := hs b5 _ (upd_same _ _ _)
    obtain ⟨H0, oH, sH, kH⟩ := own_hole own
    have h05 : H0 b5 = none := sub_none_of oH.1 hb5
    have o5 := own_grow (own_with (oc := ob) oH hb5) hs
    have oM := hr.up (own_with (oc := ob) oH hb5).1
    have hcM := hr.cells
    (repeat' (first | simp [go_sem, X_region, *] | simp (disch := omega) only [om, *] | ((first | refine XC_split ?_ ?_ | refine XG_true ?_ ?_ | refine XG_false ?_ ?_ | refine XRg_true ?_ ?_ | refine XRg_false ?_ ?_) <;> intro hc <;> (try simp only [bl] at hc) <;> (try (exfalso; omega))) | refine XD_w [] [] [] (fun _ => none) mixed (by decide +kernel) (sub_none _) ?_ | fail))
    intro bl hl1 hl2 hbl
    have w5 := own_other (o2 := ⟨65, 5, 1, fun i' j' => if i' = 0 ∧ 1 ≤ j' ∧ j' < 2 then r1 else ob.f i' j'⟩) o5 (upd_same _ _ _)
    have wM := oM.other (o2 := ⟨65, 5, 1, fun i' j' => if i' = 0 ∧ 1 ≤ j' ∧ j' < 2 then r1 else ob.f i' j'⟩) (upd_same _ _ _)
    rw [upd_upd] at w5 wM
    refine X_pushK (x := x) w5 wM (by simp [go_sem]) und47 zr65 by65 (by simp [go_sem]) (by rw [upd_ne _ _ hl1]; exact hbl) (by simp [go_sem]) rfl (Nat.le_refl _) (by simp [f0]) (by simp) (by simp [f2]) (by simp [f3]) (by simp [f4]) (by omega) (by omega) (by omega) fun a1 h1 h2 w1 w2 w3 => ?_
    have y5 := own_up (sH.trans (Sub.upd h05 (Sub.refl _))) w3
    (repeat' (first | simp [go_sem, X_region, *] | simp (disch := omega) only [om, *] | ((first | refine XC_split ?_ ?_ | refine XG_true ?_ ?_ | refine XG_false ?_ ?_ | refine XRg_true ?_ ?_ | refine XRg_false ?_ ?_) <;> intro hc <;> (try simp only [bl] at hc) <;> (try (exfalso; omega))) | refine XD_w [] [] [] (fun _ => none) mixed (by decide +kernel) (sub_none _) ?_ | fail))
    exact ⟨_, Nat.lt_succ_self _, hJ _ _ _ h2 (w1 _ _) (by (repeat (refine fr_upd (by decide) ?_)); exact hfr) ⟨i + 1, r, acc ++ [x], rfl, by omega, hd2, by rw [← hacc]; simp, by simp [hal], by simp [go_sem], by simpa [go_sem] using y5⟩⟩

theorem Own.wr {B h : Hp} {c : Nat} {oc oc' : Ob} {e : TypeId} {s n : Nat} {f f' : Nat → Nat → AV} (o : Own B h (.row c s 0 n) e s n f) (hc : h c = some oc) (e1 : oc'.s = oc.s) (e2 : oc'.ty = oc.ty) (e3 : oc'.n = oc.n) (hf : ∀ p, p < n → ∀ q, q < s → oc'.f p q = f' p q) : Own B (upd h c (some oc')) (.row c s 0 n) e s n f' := by
  rcases o.2 with ⟨_, h4 | h4⟩ | ⟨c', ob, h4, h5, h6, h7, h8, h9, h10, _⟩
  · cases h4
  · cases h4
  · cases h4
    rw [hc] at h6
    cases h6
    refine ⟨sub_own o.1 h5, .inr ⟨c, oc', rfl, h5, upd_same _ _ _, e1.trans h7, e2.trans h8, e3.trans h9, h10, hf⟩⟩
theorem Own.blk {B h : Hp} {c : Nat} {e : TypeId} {s n : Nat} {f : Nat → Nat → AV} (o : Own B h (.row c s 0 n) e s n f) : ∃ oc, h c = some oc ∧ oc.s = s ∧ oc.ty = e ∧ oc.n = n ∧ ∀ p, p < n → ∀ q, q < s → oc.f p q = f p q := by
  rcases o.2 with ⟨_, h4 | h4⟩ | ⟨c', ob, h4, h5, h6, h7, h8, h9, h10, h11⟩
  · cases h4
  · cases h4
  · cases h4; exact ⟨ob, h6, h7, h8, h9, h11⟩
set_option maxHeartbeats 4000000 in
theorem renamed_ok (e : List Nd) (he : e.length ≤ 1048576) (hk : ∀ x ∈ e, x.kids.length ≤ 1048576) (what : Int) (fr to : ByteArray) : Pure Tryz.prog 56 [encL 5 cNd e, I what, S fr, S to] (encL 5 cNd (e.map (ndR what fr to))) := by
  have hc := copyO_ok e he hk
  intro h; refine callK_body Tryz.func56 rfl (by rw [nt56]; simp) ?_; rw [nt56, rs56]
  (repeat' (first | simp [go_sem, X_region, *] | simp (disch := omega) only [om, *] | ((first | refine XC_split ?_ ?_ | refine XG_true ?_ ?_ | refine XG_false ?_ ?_ | refine XRg_true ?_ ?_ | refine XRg_false ?_ ?_) <;> intro hc <;> (try simp only [bl] at hc) <;> (try (exfalso; omega))) | refine XD_w [] [] [] (fun _ => none) mixed (by decide +kernel) (sub_none _) ?_ | fail))
  refine (hc h).mono fun r g o => ?_
  have hl := lenE und47 (.inl o)
  simp only [go_sem] at hl
  (repeat' (first | simp [go_sem, X_region, *] | simp (disch := omega) only [om, *] | ((first | refine XC_split ?_ ?_ | refine XG_true ?_ ?_ | refine XG_false ?_ ?_ | refine XRg_true ?_ ?_ | refine XRg_false ?_ ?_) <;> intro hc <;> (try simp only [bl] at hc) <;> (try (exfalso; omega))) | refine XD_w [] [] [] (fun _ => none) mixed (by decide +kernel) (sub_none _) ?_ | fail))
  refine X_lpF (fun i => (9 ≤ i ∧ i ≤ 11) ∨ (16 ≤ i ∧ i ≤ 59)) (fun n T g => ∃ (dn r2 : List Nd), n = r2.length ∧ dn.length + r2.length = e.length ∧ Hid (dn ++ r2.map (ndR what fr to) = e.map (ndR what fr to)) ∧ T 16 = I dn.length ∧ Own h g r 65 5 e.length (cellsL cNd (dn ++ r2))) e.length
    ⟨[], e, rfl, by simp, ⟨rfl⟩, by simp [go_sem], o⟩ ?_
  clear o
  rintro J hJ n T g hfr ⟨dn, r2, rfl, hlen, hq, t16, o⟩
  rcases r2 with _ | ⟨x, r2⟩
  · have hnl : ¬ dn.length < e.length := by simp at hlen; omega
    have hf := o.frozen (by omega)
    have hq2 := hq.out
    simp only [List.map_nil, List.append_nil] at hq2 hf
    have hel : (e.map (ndR what fr to)).length = e.length := by simp
    (repeat' (first | simp [go_sem, X_region, *] | simp (disch := omega) only [om, *] | ((first | refine XC_split ?_ ?_ | refine XG_true ?_ ?_ | refine XG_false ?_ ?_ | refine XRg_true ?_ ?_ | refine XRg_false ?_ ?_) <;> intro hc <;> (try simp only [bl] at hc) <;> (try (exfalso; omega))) | refine XD_w [] [] [] (fun _ => none) mixed (by decide +kernel) (sub_none _) ?_ | fail))
    rw [hq2] at hf
    exact hf
  · simp only [List.length_cons] at hlen
    have hlt : dn.length < e.length := by omega
    obtain ⟨d, rfl⟩ := own_row o (by omega)
    obtain ⟨oc, w1, w2, w3, w4, w5⟩ := Own.blk o
    have hx? : (dn ++ x :: r2)[dn.length]? = some x := by simp
    have hcell : ∀ q, q < 5 → oc.f dn.length q = (cNd x).getD q .any := fun q hq => by rw [w5 _ hlt q hq, cellsL_get hx?]
    have z0 : oc.f dn.length 0 = I x.op := hcell 0 (by decide)
    have z1 : oc.f dn.length 1 = encL 1 cI x.kids := hcell 1 (by decide)
    have z2 : oc.f dn.length 2 = I x.kd := hcell 2 (by decide)
    have z3 : oc.f dn.length 3 = I x.n := hcell 3 (by decide)
    have z4 : oc.f dn.length 4 = S x.nm := hcell 4 (by decide)
    replace w5 : Hid (∀ p, p < e.length → ∀ q, q < 5 → oc.f p q = cellsL cNd (dn ++ x :: r2) p q) := ⟨w5⟩
    clear hcell
    (repeat' (first | simp [go_sem, X_region, *] | simp (disch := omega) only [om, *] | ((first | refine XC_split ?_ ?_ | refine XG_true ?_ ?_ | refine XG_false ?_ ?_ | refine XRg_true ?_ ?_ | refine XRg_false ?_ ?_) <;> intro hc <;> (try simp only [bl] at hc) <;> (try (exfalso; omega))) | refine XD_w [] [] [] (fun _ => none) mixed (by decide +kernel) (sub_none _) ?_ | fail))
    intro b10 hb10
    have n10 := ne_free hb10 w1
    have og : ∀ ob', Own h (upd g b10 (some ob')) (.row d 5 0 e.length) 65 5 e.length (cellsL cNd (dn ++ x :: r2)) := fun ob' => own_grow o (Sub.upd hb10 (Sub.refl _))
    have fin1 : ndR what fr to x = x → ∀ (T' : Nat → AV) ob', (∀ i, ¬ (fun i => (9 ≤ i ∧ i ≤ 11) ∨ (16 ≤ i ∧ i ≤ 59)) i → T' i = T i) → T' 16 = I ((dn.length : Int) + 1) → ∃ n', n' < r2.length + 1 ∧ J n' T' (upd g b10 (some ob')) := fun hn T' ob' hT h16 =>
      ⟨_, Nat.lt_succ_self _, hJ.out _ _ _ ⟨fun i hi => (hT i hi).trans (hfr i hi), dn ++ [x], r2, rfl, by simp; omega, ⟨by rw [← hq.out]; simp [hn]⟩, by rw [h16]; simp, by rw [List.append_assoc]; exact og ob'⟩⟩
    have fin2 : ndR what fr to x = { x with nm := to } → ∀ (T' : Nat → AV) ob' (oc' : Ob), (∀ i, ¬ (fun i => (9 ≤ i ∧ i ≤ 11) ∨ (16 ≤ i ∧ i ≤ 59)) i → T' i = T i) → T' 16 = I ((dn.length : Int) + 1) → oc'.s = 5 → oc'.ty = 65 → oc'.n = e.length → (∀ p q, oc'.f p q = if p = dn.length ∧ 4 ≤ q ∧ q < 5 then S to else oc.f p q) → ∃ n', n' < r2.length + 1 ∧ J n' T' (upd (upd g b10 (some ob')) d (some oc')) := fun hn T' ob' oc' hT h16 k1 k2 k3 k4 =>
      ⟨_, Nat.lt_succ_self _, hJ.out _ _ _ ⟨fun i hi => (hT i hi).trans (hfr i hi), dn ++ [{ x with nm := to }], r2, rfl, by simp; omega, ⟨by rw [← hq.out]; simp [hn]⟩, by rw [h16]; simp, by
        refine Own.wr (og ob') ((upd_ne _ _ n10.2).trans w1) (k1.trans w2.symm) (k2.trans w3.symm) (k3.trans w4.symm) fun p hp q hq2 => ?_
        rw [k4, List.append_assoc]
        by_cases hpd : p = dn.length
        · subst hpd
          rw [cellsL_get (x := { x with nm := to }) (by simp)]
          rcases (show q = 0 ∨ q = 1 ∨ q = 2 ∨ q = 3 ∨ q = 4 by omega) with rfl | rfl | rfl | rfl | rfl
          · rw [if_neg (by omega), z0]; rfl
          · rw [if_neg (by omega), z1]; rfl
          · rw [if_neg (by omega), z2]; rfl
          · rw [if_neg (by omega), z3]; rfl
          · rw [if_pos ⟨rfl, by omega, by omega⟩]; rfl
        · rw [if_neg fun h => hpd h.1, w5.out p hp q hq2]
          unfold cellsL
          rcases Nat.lt_or_ge p dn.length with h1 | h1
          · rw [List.getElem?_append_left h1, List.getElem?_append_left h1]
          · rw [List.getElem?_append_right h1, List.getElem?_append_right h1]
            obtain ⟨m, hm⟩ : ∃ m, p - dn.length = m + 1 := ⟨p - dn.length - 1, by omega⟩
            rw [hm]
            rfl⟩⟩
    clear og
    obtain ⟨op, kids, kd, nn, nm⟩ := x
    dsimp only at *
    (repeat' (first | simp [go_sem, X_region, *] | simp (disch := omega) only [om, *] | ((first | refine XC_split ?_ ?_ | refine XG_true ?_ ?_ | refine XG_false ?_ ?_ | refine XRg_true ?_ ?_ | refine XRg_false ?_ ?_) <;> intro hc <;> (try simp only [bl] at hc) <;> (try (exfalso; omega))) | refine XD_w [] [] [] (fun _ => none) mixed (by decide +kernel) (sub_none _) ?_ | fail))
    all_goals first
      | (refine fin1 ?_ _ _ (by (repeat (refine fr_upd (by decide) ?_)); exact fun _ _ => rfl) ?_
         · (simp [ndR, nmR, *]; done)
         · (simp [go_sem]; done))
      | (refine fin2 ?_ _ _ _ (by (repeat (refine fr_upd (by decide) ?_)); exact fun _ _ => rfl) ?_ rfl rfl rfl (fun p q => rfl)
         · (simp [ndR, nmR, *]; done)
         · (simp [go_sem]; done))
end Go.Proofs.YtmalhikcdideoaaGreatDoor

set_option linter.unusedVariables false
set_option linter.unusedSimpArgs false
namespace Go.Proofs.YtmalhikcdideoaaGreatDoor
open Go Sl
attribute [local irreducible] XRange LpQ XR XRo XRg XRQ putQ XFv XL XW2 wQ putW X XO XOp XH XHo XW SeqQ BlkQ XOQ XHQ NrmQ XC XM XG XHM XHG XD CallK
open Go.RowKit
theorem Bdy.wr {B g : Hp} {a : AV} {n : Nat} {A : Nat → Acx} {R O : Nat → Nat → AV} (b : Bdy B g a n A R O) (i : Nat) (l : La) {c : Nat} {oc oc' : Ob} (x' : Acx) (hrow : (actM (A i) (R i) (O i) l).a = .row c (actM (A i) (R i) (O i) l).s 0 (actM (A i) (R i) (O i) l).n) (hc : g c = some oc) (e1 : oc'.s = oc.s) (e2 : oc'.ty = oc.ty) (e3 : oc'.n = oc.n)
    (m1 : (actM x' (R i) (O i) l).a = (actM (A i) (R i) (O i) l).a) (m2 : (actM x' (R i) (O i) l).e = (actM (A i) (R i) (O i) l).e) (m3 : (actM x' (R i) (O i) l).s = (actM (A i) (R i) (O i) l).s) (m4 : (actM x' (R i) (O i) l).n = (actM (A i) (R i) (O i) l).n)
    (hf : ∀ p, p < (actM (A i) (R i) (O i) l).n → ∀ q, q < (actM (A i) (R i) (O i) l).s → oc'.f p q = (actM x' (R i) (O i) l).f p q) (hx : ∀ l', l' ≠ l → actM x' (R i) (O i) l' = actM (A i) (R i) (O i) l') (hr : acL x' (R i) = acL (A i) (R i)) : Bdy B (upd g c (some oc')) a n (upd A i x') R O := by
  classical
  refine ⟨(Fam.write (i := Lb.inn i l) (x := actM x' (R i) (O i) l) b.fam hrow hc e1 e2 e3 m1 m2 m3 m4 hf).ext fun j => ?_, b.nil⟩
  by_cases hj : j = .inn i l
  · subst hj
    rw [if_pos rfl]
    simp only [bodyM, upd_same]
  · rw [if_neg hj]
    rcases j with _ | ⟨i', l'⟩
    · simp only [bodyM]
      congr 1
      funext i' q
      by_cases hi : i' = i
      · subst hi; rw [upd_same, hr]
      · rw [upd_ne _ _ hi]
    · by_cases hi : i' = i
      · subst hi
        simp only [bodyM, upd_same]
        exact (hx l' fun e => hj (by rw [e])).symm
      · simp only [bodyM, upd_ne _ _ hi]
theorem Bdy.keepA {B g : Hp} {a : AV} {n : Nat} {A A' : Nat → Acx} {R O : Nat → Nat → AV} (b : Bdy B g a n A R O) (h : ∀ k, A k = A' k) : Bdy B g a n A' R O := by rw [← funext h]; exact b
def doneA (f : Acx → Acx) (b : List Acx) (i : Nat) (k : Nat) : Acx := if k < i then f (actAt b k) else actAt b k
theorem doneA_at (f : Acx → Acx) (b : List Acx) (i : Nat) : doneA f b i i = actAt b i := by simp [doneA]
theorem doneA_0 (f : Acx → Acx) (b : List Acx) (k : Nat) : doneA f b 0 k = actAt b k := by simp [doneA]
theorem doneA_step (f : Acx → Acx) (b : List Acx) (i k : Nat) : upd (doneA f b i) i (f (actAt b i)) k = doneA f b (i + 1) k := by
  by_cases h : k = i
  · subst h; rw [upd_same]; simp [doneA]
  · rw [upd_ne _ _ h]
    simp only [doneA]
    by_cases h2 : k < i
    · rw [if_pos h2, if_pos (by omega)]
    · rw [if_neg h2, if_neg (by omega)]
theorem doneA_id (f : Acx → Acx) (b : List Acx) (i k : Nat) : upd (doneA f b i) i (actAt b i) k = doneA f b i k := by
  by_cases h : k = i
  · subst h; rw [upd_same, doneA_at]
  · rw [upd_ne _ _ h]
theorem doneA_all (f : Acx → Acx) (b : List Acx) : acts b.length (doneA f b b.length) = b.map f := by
  apply List.ext_getElem
  · simp [acts]
  · intro i h1 h2
    have hi : i < b.length := by simpa [acts] using h1
    simp [acts, doneA, hi, actAt]
/-- Reading an act of a body. -/
theorem Bdy.root {B g : Hp} {a : AV} {n : Nat} {A : Nat → Acx} {R O : Nat → Nat → AV} (b : Bdy B g a n A R O) (hn : 0 < n) : ∃ d od, a = .row d 6 0 n ∧ B d = none ∧ g d = some od ∧ od.s = 6 ∧ od.ty = 37 ∧ od.n = n ∧ ∀ i, i < n → ∀ q, q < 6 → od.f i q = (acL (A i) (R i)).getD q .any := by
  obtain ⟨d, od, h1, h2, h3, h4, h5, h6, h7⟩ := b.fam.at .root hn
  exact ⟨d, od, h1, h2, h3, h4, h5, h6, h7⟩
/-- A slice of an act: its length, and its block. -/
theorem Bdy.len {B g : Hp} {a : AV} {n : Nat} {A : Nat → Acx} {R O : Nat → Nat → AV} (b : Bdy B g a n A R O) (i : Nat) (l : La) {t e' : TypeId} (hu : Tryz.prog.underlying t = some (.slice e')) : lenA Tryz.prog t (actM (A i) (R i) (O i) l).a = some ((actM (A i) (R i) (O i) l).n : Int) := lenE hu (b.fam.own (.inn i l))
theorem Bdy.at {B g : Hp} {a : AV} {n : Nat} {A : Nat → Acx} {R O : Nat → Nat → AV} (b : Bdy B g a n A R O) (i : Nat) (l : La) (hn : 0 < (actM (A i) (R i) (O i) l).n) : ∃ c oc, (actM (A i) (R i) (O i) l).a = .row c (actM (A i) (R i) (O i) l).s 0 (actM (A i) (R i) (O i) l).n ∧ B c = none ∧ g c = some oc ∧ oc.s = (actM (A i) (R i) (O i) l).s ∧ oc.ty = (actM (A i) (R i) (O i) l).e ∧ oc.n = (actM (A i) (R i) (O i) l).n ∧ ∀ p, p < (actM (A i) (R i) (O i) l).n → ∀ q, q < (actM (A i) (R i) (O i) l).s → oc.f p q = (actM (A i) (R i) (O i) l).f p q := b.fam.at (.inn i l) hn
theorem Bdy.wr2 {B g : Hp} {a : AV} {n : Nat} {A : Nat → Acx} {Y : Acx} {i : Nat} {R O : Nat → Nat → AV} (b : Bdy B g a n (upd A i Y) R O) (l : La) {c : Nat} {oc oc' : Ob} (x' : Acx) (hrow : (actM Y (R i) (O i) l).a = .row c (actM Y (R i) (O i) l).s 0 (actM Y (R i) (O i) l).n) (hc : g c = some oc) (e1 : oc'.s = oc.s) (e2 : oc'.ty = oc.ty) (e3 : oc'.n = oc.n)
    (m1 : (actM x' (R i) (O i) l).a = (actM Y (R i) (O i) l).a) (m2 : (actM x' (R i) (O i) l).e = (actM Y (R i) (O i) l).e) (m3 : (actM x' (R i) (O i) l).s = (actM Y (R i) (O i) l).s) (m4 : (actM x' (R i) (O i) l).n = (actM Y (R i) (O i) l).n)
    (hf : ∀ p, p < (actM Y (R i) (O i) l).n → ∀ q, q < (actM Y (R i) (O i) l).s → oc'.f p q = (actM x' (R i) (O i) l).f p q) (hx : ∀ l', l' ≠ l → actM x' (R i) (O i) l' = actM Y (R i) (O i) l') (hr : acL x' (R i) = acL Y (R i)) : Bdy B (upd g c (some oc')) a n (upd A i x') R O := by
  have h := Bdy.wr b i l x' (c := c) (oc := oc) (oc' := oc') (by rw [upd_same]; exact hrow) hc e1 e2 e3 (by rw [upd_same]; exact m1) (by rw [upd_same]; exact m2) (by rw [upd_same]; exact m3) (by rw [upd_same]; exact m4) (by rw [upd_same]; exact hf) (by rw [upd_same]; exact hx) (by rw [upd_same]; exact hr)
  rwa [upd_twice] at h
theorem cellsL_mid {α : Type} {enc : α → List AV} (dn r : List α) (x y : α) (p q : Nat) : cellsL enc (dn ++ y :: r) p q = if p = dn.length then (enc y).getD q .any else cellsL enc (dn ++ x :: r) p q := by
  by_cases h : p = dn.length
  · subst h
    rw [if_pos rfl, cellsL_get (x := y) (by simp)]
  · rw [if_neg h]
    unfold cellsL
    rcases Nat.lt_or_ge p dn.length with h1 | h1
    · rw [List.getElem?_append_left h1, List.getElem?_append_left h1]
    · rw [List.getElem?_append_right h1, List.getElem?_append_right h1]
      obtain ⟨m, hm⟩ : ∃ m, p - dn.length = m + 1 := ⟨p - dn.length - 1, by omega⟩
      rw [hm]
      rfl
theorem getD_mid {α : Type} (dn r : List α) (x y d : α) (p : Nat) : (dn ++ y :: r).getD p d = if p = dn.length then y else (dn ++ x :: r).getD p d := by
  by_cases h : p = dn.length
  · subst h
    rw [if_pos rfl, List.getD_eq_getElem?_getD]
    simp
  · rw [if_neg h, List.getD_eq_getElem?_getD, List.getD_eq_getElem?_getD]
    rcases Nat.lt_or_ge p dn.length with h1 | h1
    · rw [List.getElem?_append_left h1, List.getElem?_append_left h1]
    · rw [List.getElem?_append_right h1, List.getElem?_append_right h1]
      obtain ⟨m, hm⟩ : ∃ m, p - dn.length = m + 1 := ⟨p - dn.length - 1, by omega⟩
      rw [hm]
      rfl
/-- One article is another one, its exceptions the same. -/
theorem Bdy.wrArt {B g : Hp} {a : AV} {n : Nat} {A : Nat → Acx} {Y : Acx} {i : Nat} {R O : Nat → Nat → AV} {dn r : List Arx} {x x' : Arx} (b : Bdy B g a n (upd A i { Y with arts := dn ++ x :: r }) R O) (hov : x'.over = x.over) {c : Nat} {oc oc' : Ob} {N : Nat} (hN : (dn ++ x :: r).length = N) (hrow : R i 2 = .row c 6 0 N) (hc : g c = some oc) (e1 : oc'.s = 6) (e2 : oc'.ty = 50) (e3 : oc'.n = N) (w1 : oc.s = 6) (w2 : oc.ty = 50) (w3 : oc.n = N)
    (w : ∀ p, p < N → ∀ q, q < 6 → oc.f p q = arC (dn ++ x :: r) (O i) p q) (hf : ∀ p, p < N → ∀ q, q < 6 → oc'.f p q = if p = dn.length then (if q = 4 then O i p else (cArx x').getD q .any) else oc.f p q) : Bdy B (upd g c (some oc')) a n (upd A i { Y with arts := dn ++ x' :: r }) R O := by
  subst hN
  refine Bdy.wr2 b (.row 2) (c := c) (oc := oc) { Y with arts := dn ++ x' :: r } hrow hc (e1.trans w1.symm) (e2.trans w2.symm) (e3.trans w3.symm) rfl rfl rfl (by show (dn ++ x' :: r).length = (dn ++ x :: r).length; simp) (fun p hp q hq => ?_) (fun l' hl' => ?_) rfl
  · show oc'.f p q = arC (dn ++ x' :: r) (O i) p q
    rw [hf p hp q hq]
    unfold arC
    rw [getD_mid dn r x x']
    by_cases hpd : p = dn.length
    · rw [if_pos hpd, if_pos hpd]
    · rw [if_neg hpd, if_neg hpd, w p hp q hq]
      rfl
  · match l', hl' with
    | .row 0, _ => rfl
    | .row 1, _ => rfl
    | .row 2, h => exact absurd rfl h
    | .row (_ + 3), _ => rfl
    | .ov p, _ =>
      have : ((dn ++ x' :: r).getD p arx0).over = ((dn ++ x :: r).getD p arx0).over := by
        rw [getD_mid dn r x x']
        by_cases hpd : p = dn.length
        · rw [if_pos hpd, getD_mid dn r x x, if_pos hpd]; exact hov
        · rw [if_neg hpd]
      simp only [actM, this]
end Go.Proofs.YtmalhikcdideoaaGreatDoor

set_option linter.unusedVariables false
set_option linter.unusedSimpArgs false
namespace Go.Proofs.YtmalhikcdideoaaGreatDoor
open Go Sl
attribute [local irreducible] XRange LpQ XR XRo XRg XRQ putQ XFv XL XW2 wQ putW X XO XOp XH XHo XW SeqQ BlkQ XOQ XHQ NrmQ XC XM XG XHM XHG XD CallK
open Go.RowKit
/-- What the texts and lists of a body may have at most. -/
structure BodyOk (b : List Acx) : Prop where
  len : b.length ≤ 1048576
  act : ∀ x ∈ b, ActOk x
theorem BodyOk.lens {b : List Acx} (h : BodyOk b) : ∀ a ∈ b, a.attrs.length ≤ 1048576 ∧ a.tables.length ≤ 1048576 ∧ a.arts.length ≤ 1048576 := fun a ha => ⟨(h.act a ha).at_, (h.act a ha).tb.1, (h.act a ha).ar.1⟩
theorem BodyOk.at {b : List Acx} (h : BodyOk b) {i : Nat} (hi : i < b.length) : ActOk (actAt b i) := by
  unfold actAt
  rw [List.getD_eq_getElem?_getD, List.getElem?_eq_getElem hi]
  exact h.act _ (List.getElem_mem hi)
set_option maxHeartbeats 8000000 in
theorem rename_ok (b : List Acx) (hb : BodyOk b) (what : Int) (fr to : ByteArray) (ht : to.size ≤ 140737488355328) : Pure Tryz.prog 9 [encL 6 cAcx b, I what, S fr, S to] (tup2 (encL 6 cAcx (renF nameF b what fr to).1) (I (renF nameF b what fr to).2)) := by
  have hdf := defined_ok b hb.lens
  have hcp := scopy_ok b hb.len hb.act
  have hnm := wname_ok to ht
  intro h; refine callK_body Tryz.func9 rfl (by rw [nt9]; simp) ?_; rw [nt9, rs9]
  (repeat' (first | simp [go_sem, X_region, *] | simp (disch := omega) only [om, *] | ((first | refine XC_split ?_ ?_ | refine XG_true ?_ ?_ | refine XG_false ?_ ?_ | refine XRg_true ?_ ?_ | refine XRg_false ?_ ?_) <;> intro hc <;> (try simp only [bl] at hc) <;> (try (exfalso; omega))) | refine XD_w [] [] [] (fun _ => none) mixed (by decide +kernel) (sub_none _) ?_ | fail))
  refine (hdf h).mono ?_
  rintro rr g ⟨m1, m2, m3, p, rfl, df⟩
  obtain ⟨o1, a1, a2⟩ := df.a
  obtain ⟨o2, a3, a4⟩ := df.b
  have sg := df.sub
  clear hdf df
  obtain ⟨R, hR⟩ : ∃ R, renF nameF b what fr to = R := ⟨_, rfl⟩
  rw [hR]
  generalize hC : Code.seq (Code.seq _ (Code.cond (Operand.tmp 31) _ _)) _ = C
  replace hC : Hid (_ = C) := ⟨hC⟩
  (repeat' (first | simp [go_sem, X_region, *] | simp (disch := omega) only [om, *] | ((first | refine XC_split ?_ ?_ | refine XG_true ?_ ?_ | refine XG_false ?_ ?_ | refine XRg_true ?_ ?_ | refine XRg_false ?_ ?_) <;> intro hc <;> (try simp only [bl] at hc) <;> (try (exfalso; omega))) | refine XD_w [] [] [] (fun _ => none) mixed (by decide +kernel) (sub_none _) ?_ | fail))
  rw [← hC.out]
  clear hC C
  refine X_join (fun T' h' => h' = g ∧ T' 0 = encL 6 cAcx b ∧ T' 1 = I what ∧ T' 2 = S fr ∧ T' 3 = S to ∧ T' 13 = .v (.map (some (if what = 2 then m2 else m1)))) (fun Qn hQ => ?_) ?_
  · by_cases c2 : what = 2
    · (repeat' (first | simp [go_sem, X_region, *] | simp (disch := omega) only [om, *] | ((first | refine XC_split ?_ ?_ | refine XG_true ?_ ?_ | refine XG_false ?_ ?_ | refine XRg_true ?_ ?_ | refine XRg_false ?_ ?_) <;> intro hc <;> (try simp only [bl] at hc) <;> (try (exfalso; omega))) | refine XD_w [] [] [] (fun _ => none) mixed (by decide +kernel) (sub_none _) ?_ | fail))
    · (repeat' (first | simp [go_sem, X_region, *] | simp (disch := omega) only [om, *] | ((first | refine XC_split ?_ ?_ | refine XG_true ?_ ?_ | refine XG_false ?_ ?_ | refine XRg_true ?_ ?_ | refine XRg_false ?_ ?_) <;> intro hc <;> (try simp only [bl] at hc) <;> (try (exfalso; omega))) | refine XD_w [] [] [] (fun _ => none) mixed (by decide +kernel) (sub_none _) ?_ | fail))
  rintro T h2 ⟨rfl, t0, t1, t2, t3, t13⟩
  obtain ⟨oo, ao, so⟩ : ∃ oo, h2 (if what = 2 then m2 else m1) = some oo ∧ Hid (SetM S (oldN what b) oo) := by
    by_cases c2 : what = 2
    · exact ⟨o2, by simpa [c2] using a3, ⟨by simpa [c2, oldN] using a4⟩⟩
    · exact ⟨o1, by simpa [c2] using a1, ⟨by simpa [c2, oldN] using a2⟩⟩
  generalize (if what = 2 then m2 else m1) = mo at *
  clear a1 a2 a3 a4
  refine X_join (fun T' h' => h' = h2 ∧ T' 0 = encL 6 cAcx b ∧ T' 1 = I what ∧ T' 2 = S fr ∧ T' 3 = S to ∧ R = (b.map (acR what fr to), 0)) (fun Qn hQ => ?_) ?_
  · clear hcp
    by_cases c1 : what = 1
    · subst c1
      (repeat' (first | simp [go_sem, X_region, *] | simp (disch := omega) only [om, *] | ((first | refine XC_split ?_ ?_ | refine XG_true ?_ ?_ | refine XG_false ?_ ?_ | refine XRg_true ?_ ?_ | refine XRg_false ?_ ?_) <;> intro hc <;> (try simp only [bl] at hc) <;> (try (exfalso; omega))) | refine XD_w [] [] [] (fun _ => none) mixed (by decide +kernel) (sub_none _) ?_ | fail))
      refine X_setGet (k := fr) so.out ao (by simp [go_sem]) (by simp [go_sem]) und61 (kq_s _) kz_s zv4 ?_
      cases h1 : hasB (oldN 1 b) fr with
      | false =>
        obtain rfl : ([], 4) = R := by rw [← hR]; simp [renF, h1]
        clear hQ hR
        (repeat' (first | simp [go_sem, X_region, *] | simp (disch := omega) only [om, *] | ((first | refine XC_split ?_ ?_ | refine XG_true ?_ ?_ | refine XG_false ?_ ?_ | refine XRg_true ?_ ?_ | refine XRg_false ?_ ?_) <;> intro hc <;> (try simp only [bl] at hc) <;> (try (exfalso; omega))) | refine XD_w [] [] [] (fun _ => none) mixed (by decide +kernel) (sub_none _) ?_ | fail))
        exact Wk.tup2M sg (Wk.nil.trans (Wk.drop _ sg)) (Wk.drop _ sg)
      | true =>
        cases h2 : nameF to with
        | false =>
          obtain rfl : ([], 15) = R := by rw [← hR]; simp [renF, h1, h2]
          rw [h2] at hnm
          clear hQ hR
          (repeat' (first | simp [go_sem, X_region, *] | simp (disch := omega) only [om, *] | ((first | refine XC_split ?_ ?_ | refine XG_true ?_ ?_ | refine XG_false ?_ ?_ | refine XRg_true ?_ ?_ | refine XRg_false ?_ ?_) <;> intro hc <;> (try simp only [bl] at hc) <;> (try (exfalso; omega))) | refine XD_w [] [] [] (fun _ => none) mixed (by decide +kernel) (sub_none _) ?_ | refine Pure.call (hnm) ?_ | refine ⟨_, Pure.at (hnm), ?_⟩ | refine ⟨_, hnm, ?_⟩ | refine PureAt.call (hnm) ?_ | fail))
          exact Wk.tup2M sg (Wk.nil.trans (Wk.drop _ sg)) (Wk.drop _ sg)
        | true =>
          rw [h2] at hnm
          by_cases h3 : to = fr
          · subst h3
            obtain rfl : (b.map (acR 1 to to), 0) = R := by rw [← hR]; simp [renF, h1, h2]
            clear hR
            (repeat' (first | simp [go_sem, X_region, *] | simp (disch := omega) only [om, *] | ((first | refine XC_split ?_ ?_ | refine XG_true ?_ ?_ | refine XG_false ?_ ?_ | refine XRg_true ?_ ?_ | refine XRg_false ?_ ?_) <;> intro hc <;> (try simp only [bl] at hc) <;> (try (exfalso; omega))) | refine XD_w [] [] [] (fun _ => none) mixed (by decide +kernel) (sub_none _) ?_ | refine Pure.call (hnm) ?_ | refine ⟨_, Pure.at (hnm), ?_⟩ | refine ⟨_, hnm, ?_⟩ | refine PureAt.call (hnm) ?_ | fail))
            try exact hQ _ _ ⟨rfl, by simp [go_sem, *], by simp [go_sem, *], by simp [go_sem, *], by simp [go_sem, *], rfl⟩
          · (repeat' (first | simp [go_sem, X_region, *] | simp (disch := omega) only [om, *] | ((first | refine XC_split ?_ ?_ | refine XG_true ?_ ?_ | refine XG_false ?_ ?_ | refine XRg_true ?_ ?_ | refine XRg_false ?_ ?_) <;> intro hc <;> (try simp only [bl] at hc) <;> (try (exfalso; omega))) | refine XD_w [] [] [] (fun _ => none) mixed (by decide +kernel) (sub_none _) ?_ | refine Pure.call (hnm) ?_ | refine ⟨_, Pure.at (hnm), ?_⟩ | refine ⟨_, hnm, ?_⟩ | refine PureAt.call (hnm) ?_ | fail))
            refine X_setGet (k := to) so.out ao (by simp [go_sem]) (by simp [go_sem]) und61 (kq_s _) kz_s zv4 ?_
            cases h4 : hasB (oldN 1 b) to with
            | true =>
              obtain rfl : ([], 5) = R := by rw [← hR]; simp [renF, h1, h2, h3, h4]
              clear hQ hR
              (repeat' (first | simp [go_sem, X_region, *] | simp (disch := omega) only [om, *] | ((first | refine XC_split ?_ ?_ | refine XG_true ?_ ?_ | refine XG_false ?_ ?_ | refine XRg_true ?_ ?_ | refine XRg_false ?_ ?_) <;> intro hc <;> (try simp only [bl] at hc) <;> (try (exfalso; omega))) | refine XD_w [] [] [] (fun _ => none) mixed (by decide +kernel) (sub_none _) ?_ | fail))
              exact Wk.tup2M sg (Wk.nil.trans (Wk.drop _ sg)) (Wk.drop _ sg)
            | false =>
              obtain rfl : (b.map (acR 1 fr to), 0) = R := by rw [← hR]; simp [renF, h1, h2, h3, h4]
              clear hR
              (repeat' (first | simp [go_sem, X_region, *] | simp (disch := omega) only [om, *] | ((first | refine XC_split ?_ ?_ | refine XG_true ?_ ?_ | refine XG_false ?_ ?_ | refine XRg_true ?_ ?_ | refine XRg_false ?_ ?_) <;> intro hc <;> (try simp only [bl] at hc) <;> (try (exfalso; omega))) | refine XD_w [] [] [] (fun _ => none) mixed (by decide +kernel) (sub_none _) ?_ | fail))
              try exact hQ _ _ ⟨rfl, by simp [go_sem, *], by simp [go_sem, *], by simp [go_sem, *], by simp [go_sem, *], rfl⟩
    · by_cases c2 : what = 2
      · subst c2
        (repeat' (first | simp [go_sem, X_region, *] | simp (disch := omega) only [om, *] | ((first | refine XC_split ?_ ?_ | refine XG_true ?_ ?_ | refine XG_false ?_ ?_ | refine XRg_true ?_ ?_ | refine XRg_false ?_ ?_) <;> intro hc <;> (try simp only [bl] at hc) <;> (try (exfalso; omega))) | refine XD_w [] [] [] (fun _ => none) mixed (by decide +kernel) (sub_none _) ?_ | fail))
        refine X_setGet (k := fr) so.out ao (by simp [go_sem]) (by simp [go_sem]) und61 (kq_s _) kz_s zv4 ?_
        cases h1 : hasB (oldN 2 b) fr with
        | false =>
          obtain rfl : ([], 4) = R := by rw [← hR]; simp [renF, h1]
          clear hQ hR
          (repeat' (first | simp [go_sem, X_region, *] | simp (disch := omega) only [om, *] | ((first | refine XC_split ?_ ?_ | refine XG_true ?_ ?_ | refine XG_false ?_ ?_ | refine XRg_true ?_ ?_ | refine XRg_false ?_ ?_) <;> intro hc <;> (try simp only [bl] at hc) <;> (try (exfalso; omega))) | refine XD_w [] [] [] (fun _ => none) mixed (by decide +kernel) (sub_none _) ?_ | fail))
          exact Wk.tup2M sg (Wk.nil.trans (Wk.drop _ sg)) (Wk.drop _ sg)
        | true =>
          cases h2 : nameF to with
          | false =>
            obtain rfl : ([], 15) = R := by rw [← hR]; simp [renF, h1, h2]
            rw [h2] at hnm
            clear hQ hR
            (repeat' (first | simp [go_sem, X_region, *] | simp (disch := omega) only [om, *] | ((first | refine XC_split ?_ ?_ | refine XG_true ?_ ?_ | refine XG_false ?_ ?_ | refine XRg_true ?_ ?_ | refine XRg_false ?_ ?_) <;> intro hc <;> (try simp only [bl] at hc) <;> (try (exfalso; omega))) | refine XD_w [] [] [] (fun _ => none) mixed (by decide +kernel) (sub_none _) ?_ | refine Pure.call (hnm) ?_ | refine ⟨_, Pure.at (hnm), ?_⟩ | refine ⟨_, hnm, ?_⟩ | refine PureAt.call (hnm) ?_ | fail))
            exact Wk.tup2M sg (Wk.nil.trans (Wk.drop _ sg)) (Wk.drop _ sg)
          | true =>
            rw [h2] at hnm
            by_cases h3 : to = fr
            · subst h3
              obtain rfl : (b.map (acR 2 to to), 0) = R := by rw [← hR]; simp [renF, h1, h2]
              clear hR
              (repeat' (first | simp [go_sem, X_region, *] | simp (disch := omega) only [om, *] | ((first | refine XC_split ?_ ?_ | refine XG_true ?_ ?_ | refine XG_false ?_ ?_ | refine XRg_true ?_ ?_ | refine XRg_false ?_ ?_) <;> intro hc <;> (try simp only [bl] at hc) <;> (try (exfalso; omega))) | refine XD_w [] [] [] (fun _ => none) mixed (by decide +kernel) (sub_none _) ?_ | refine Pure.call (hnm) ?_ | refine ⟨_, Pure.at (hnm), ?_⟩ | refine ⟨_, hnm, ?_⟩ | refine PureAt.call (hnm) ?_ | fail))
              try exact hQ _ _ ⟨rfl, by simp [go_sem, *], by simp [go_sem, *], by simp [go_sem, *], by simp [go_sem, *], rfl⟩
            · (repeat' (first | simp [go_sem, X_region, *] | simp (disch := omega) only [om, *] | ((first | refine XC_split ?_ ?_ | refine XG_true ?_ ?_ | refine XG_false ?_ ?_ | refine XRg_true ?_ ?_ | refine XRg_false ?_ ?_) <;> intro hc <;> (try simp only [bl] at hc) <;> (try (exfalso; omega))) | refine XD_w [] [] [] (fun _ => none) mixed (by decide +kernel) (sub_none _) ?_ | refine Pure.call (hnm) ?_ | refine ⟨_, Pure.at (hnm), ?_⟩ | refine ⟨_, hnm, ?_⟩ | refine PureAt.call (hnm) ?_ | fail))
              refine X_setGet (k := to) so.out ao (by simp [go_sem]) (by simp [go_sem]) und61 (kq_s _) kz_s zv4 ?_
              cases h4 : hasB (oldN 2 b) to with
              | true =>
                obtain rfl : ([], 5) = R := by rw [← hR]; simp [renF, h1, h2, h3, h4]
                clear hQ hR
                (repeat' (first | simp [go_sem, X_region, *] | simp (disch := omega) only [om, *] | ((first | refine XC_split ?_ ?_ | refine XG_true ?_ ?_ | refine XG_false ?_ ?_ | refine XRg_true ?_ ?_ | refine XRg_false ?_ ?_) <;> intro hc <;> (try simp only [bl] at hc) <;> (try (exfalso; omega))) | refine XD_w [] [] [] (fun _ => none) mixed (by decide +kernel) (sub_none _) ?_ | fail))
                exact Wk.tup2M sg (Wk.nil.trans (Wk.drop _ sg)) (Wk.drop _ sg)
              | false =>
                obtain rfl : (b.map (acR 2 fr to), 0) = R := by rw [← hR]; simp [renF, h1, h2, h3, h4]
                clear hR
                (repeat' (first | simp [go_sem, X_region, *] | simp (disch := omega) only [om, *] | ((first | refine XC_split ?_ ?_ | refine XG_true ?_ ?_ | refine XG_false ?_ ?_ | refine XRg_true ?_ ?_ | refine XRg_false ?_ ?_) <;> intro hc <;> (try simp only [bl] at hc) <;> (try (exfalso; omega))) | refine XD_w [] [] [] (fun _ => none) mixed (by decide +kernel) (sub_none _) ?_ | fail))
                try exact hQ _ _ ⟨rfl, by simp [go_sem, *], by simp [go_sem, *], by simp [go_sem, *], by simp [go_sem, *], rfl⟩
      · obtain rfl : ([], 1) = R := by rw [← hR]; simp [renF, c1, c2]
        clear hQ
        (repeat' (first | simp [go_sem, X_region, *] | simp (disch := omega) only [om, *] | ((first | refine XC_split ?_ ?_ | refine XG_true ?_ ?_ | refine XG_false ?_ ?_ | refine XRg_true ?_ ?_ | refine XRg_false ?_ ?_) <;> intro hc <;> (try simp only [bl] at hc) <;> (try (exfalso; omega))) | refine XD_w [] [] [] (fun _ => none) mixed (by decide +kernel) (sub_none _) ?_ | fail))
        exact Wk.tup2M sg (Wk.nil.trans (Wk.drop _ sg)) (Wk.drop _ sg)
  clear hR hnm so ao
  rintro T H2 ⟨rfl, t0, t1, t2, t3, rfl⟩
  (repeat' (first | simp [go_sem, X_region, *] | simp (disch := omega) only [om, *] | ((first | refine XC_split ?_ ?_ | refine XG_true ?_ ?_ | refine XG_false ?_ ?_ | refine XRg_true ?_ ?_ | refine XRg_false ?_ ?_) <;> intro hc <;> (try simp only [bl] at hc) <;> (try (exfalso; omega))) | refine XD_w [] [] [] (fun _ => none) mixed (by decide +kernel) (sub_none _) ?_ | fail))
  refine (hcp _).mono ?_
  rintro r g ⟨R, O, B0⟩
  clear hcp
  have hl := lenE und23 (B0.fam.own .root)
  replace hl : lenA Tryz.prog 23 r = some (b.length : Int) := hl
  simp only [go_sem] at hl
  (repeat' (first | simp [go_sem, X_region, *] | simp (disch := omega) only [om, *] | ((first | refine XC_split ?_ ?_ | refine XG_true ?_ ?_ | refine XG_false ?_ ?_ | refine XRg_true ?_ ?_ | refine XRg_false ?_ ?_) <;> intro hc <;> (try simp only [bl] at hc) <;> (try (exfalso; omega))) | refine XD_w [] [] [] (fun _ => none) mixed (by decide +kernel) (sub_none _) ?_ | fail))
  refine X_lpF (fun i => (16 ≤ i ∧ i ≤ 22) ∨ (62 ≤ i ∧ i ≤ 150)) (fun n T' g' => ∃ i : Nat, n + i = b.length ∧ T' 62 = I i ∧ Bdy H2 g' r b.length (doneA (acR what fr to) b i) R O) b.length ⟨0, by omega, by simp [go_sem], B0.keepA fun k => (doneA_0 _ _ _).symm⟩ ?_
  clear B0
  rintro J hJ n T1 g1 hfr ⟨i, hn, t62, Bd⟩
  by_cases hlt : i < b.length
  · obtain ⟨y, hy⟩ : ∃ y, actAt b i = y := ⟨_, rfl⟩
    have hyok := hb.at hlt
    rw [hy] at hyok
    have hya := hyok.at_
    have hyt := hyok.tb.1
    have hyr := hyok.ar.1
    have hAi : doneA (acR what fr to) b i i = y := by rw [doneA_at, hy]
    obtain ⟨d, od, w1, w2, w3, w4, w5, w6, w7⟩ := Bd.root (by omega)
    have hcell : ∀ q, q < 6 → od.f i q = (acL y (R i)).getD q .any := fun q hq => by rw [w7 i hlt q hq, hAi]
    have z0 : od.f i 0 = S y.name := hcell 0 (by decide)
    have z1 : od.f i 1 = I y.level := hcell 1 (by decide)
    have z2 : od.f i 2 = I y.date := hcell 2 (by decide)
    have z3 : od.f i 3 = R i 0 := hcell 3 (by decide)
    have z4 : od.f i 4 = R i 1 := hcell 4 (by decide)
    have z5 : od.f i 5 = R i 2 := hcell 5 (by decide)
    clear w7 hcell
    have hl3 := Bd.len i (.row 0) und33
    have hl4 := Bd.len i (.row 1) und34
    have hl5 := Bd.len i (.row 2) und35
    rw [hAi] at hl3 hl4 hl5
    replace hl3 : lenA Tryz.prog 33 (R i 0) = some (y.attrs.length : Int) := hl3
    replace hl4 : lenA Tryz.prog 34 (R i 1) = some (y.tables.length : Int) := hl4
    replace hl5 : lenA Tryz.prog 35 (R i 2) = some (y.arts.length : Int) := hl5
    have cr0 := (Bd.fam.own (.inn i (.row 0))).cells
    have cr1 := (Bd.fam.own (.inn i (.row 1))).cells
    have cr2 := (Bd.fam.own (.inn i (.row 2))).cells
    replace cr0 : cellsA (R i 0) = some (1, fun _ => R i 0) := cr0
    replace cr1 : cellsA (R i 1) = some (1, fun _ => R i 1) := cr1
    replace cr2 : cellsA (R i 2) = some (1, fun _ => R i 2) := cr2
    simp only [go_sem] at hl3 hl4 hl5
    replace hAi : Hid (doneA (acR what fr to) b i i = y) := ⟨hAi⟩
    replace hy : Hid (actAt b i = y) := ⟨hy⟩
    (repeat' (first | simp [go_sem, X_region, *] | simp (disch := omega) only [om, *] | ((first | refine XC_split ?_ ?_ | refine XG_true ?_ ?_ | refine XG_false ?_ ?_ | refine XRg_true ?_ ?_ | refine XRg_false ?_ ?_) <;> intro hc <;> (try simp only [bl] at hc) <;> (try (exfalso; omega))) | refine XD_w [] [] [] (fun _ => none) mixed (by decide +kernel) (sub_none _) ?_ | fail))
    intro b16 hb16
    have B1 : ∀ ob, Bdy (upd H2 b16 (some ob)) (upd g1 b16 (some ob)) r b.length (upd (doneA (acR what fr to) b i) i y) R O := fun ob => (Bd.with hb16).keepA fun k => by rw [← hy.out, doneA_id]
    have h216 : H2 b16 = none := sub_none_of Bd.fam.sub hb16
    clear Bd w3 w4 w5 w6 z0 z1 z2 z3 z4 z5
    (repeat' (first | simp [go_sem, X_region, *] | simp (disch := omega) only [om, *] | ((first | refine XC_split ?_ ?_ | refine XG_true ?_ ?_ | refine XG_false ?_ ?_ | refine XRg_true ?_ ?_ | refine XRg_false ?_ ?_) <;> intro hc <;> (try simp only [bl] at hc) <;> (try (exfalso; omega))) | refine XD_w [] [] [] (fun _ => none) mixed (by decide +kernel) (sub_none _) ?_ | fail))
    refine X_lpF (fun i => (17 ≤ i ∧ i ≤ 18) ∨ (69 ≤ i ∧ i ≤ 88)) (fun n T' g' => ∃ (dn r2 : List Atx) (ob : Ob), n = r2.length ∧ dn.length + r2.length = y.attrs.length ∧ Hid (dn ++ r2.map (attR what fr to) = y.attrs.map (attR what fr to)) ∧ T' 69 = I dn.length ∧ Bdy (upd H2 b16 (some ob)) g' r b.length (upd (doneA (acR what fr to) b i) i { y with attrs := dn ++ r2 }) R O ∧ ob.ty = 37 ∧ ob.s = 6 ∧ ob.n = 1 ∧ ob.f 0 3 = R i 0 ∧ ob.f 0 4 = R i 1 ∧ ob.f 0 5 = R i 2) y.attrs.length
      ⟨[], y.attrs, _, rfl, by simp, ⟨rfl⟩, by simp [go_sem], B1 _, rfl, rfl, rfl, rfl, rfl, rfl⟩ ?_
    clear B1
    rintro J2 hJ2 n2 T2 g2 hfr2 ⟨dn, r2, ob, rfl, hlen, hq, t69, B2, p1, p2, p3, p4, p5, p6⟩
    have e16 := B2.fam.sub b16 _ (upd_same _ _ _)
    rcases r2 with _ | ⟨x, r2⟩
    case cons =>
      simp only [List.length_cons] at hlen
      have hlx : dn.length < y.attrs.length := by omega
      have hll : (dn ++ x :: r2).length = y.attrs.length := by simp; omega
      have hx? : (dn ++ x :: r2)[dn.length]? = some x := by simp
      have W := B2.at i (.row 0) (by rw [upd_same]; show 0 < (dn ++ x :: r2).length; omega)
      rw [upd_same] at W
      obtain ⟨c, oc, w1, w2, w3, w4, w5, w6, w7⟩ := W
      replace w1 : R i 0 = .row c 7 0 y.attrs.length := by rw [← hll]; exact w1
      replace w4 : oc.s = 7 := w4
      replace w5 : oc.ty = 99 := w5
      replace w6 : oc.n = y.attrs.length := by rw [← hll]; exact w6
      have w8 : ∀ p, p < y.attrs.length → ∀ q, q < 7 → oc.f p q = cellsL cAtx (dn ++ x :: r2) p q := by rw [← hll]; exact w7
      clear w7
      have hcell : ∀ q, q < 7 → oc.f dn.length q = (cAtx x).getD q .any := fun q hq => by rw [w8 _ hlx q hq, cellsL_get hx?]
      have z0 : oc.f dn.length 0 = S x.name := hcell 0 (by decide)
      have z1 : oc.f dn.length 1 = I x.kind := hcell 1 (by decide)
      have z2 : oc.f dn.length 2 = B x.inp := hcell 2 (by decide)
      have z3 : oc.f dn.length 3 = I x.low := hcell 3 (by decide)
      have z4 : oc.f dn.length 4 = I x.high := hcell 4 (by decide)
      have z5 : oc.f dn.length 5 = I x.bk := hcell 5 (by decide)
      have z6 : oc.f dn.length 6 = I x.bn := hcell 6 (by decide)
      (repeat' (first | simp [go_sem, X_region, *] | simp (disch := omega) only [om, *] | ((first | refine XC_split ?_ ?_ | refine XG_true ?_ ?_ | refine XG_false ?_ ?_ | refine XRg_true ?_ ?_ | refine XRg_false ?_ ?_) <;> intro hc <;> (try simp only [bl] at hc) <;> (try (exfalso; omega))) | refine XD_w [] [] [] (fun _ => none) mixed (by decide +kernel) (sub_none _) ?_ | fail))
      intro b18 hb18
      have n18 := ne_free hb18 w3
      have m18 := ne_free hb18 e16
      have og : ∀ ob', Bdy (upd H2 b16 (some ob)) (upd g2 b18 (some ob')) r b.length (upd (doneA (acR what fr to) b i) i { y with attrs := dn ++ x :: r2 }) R O := fun ob' => B2.grow (Sub.upd hb18 (Sub.refl _))
      have fin1 : attR what fr to x = x → ∀ (T' : Nat → AV) ob', (∀ i, ¬ (fun i => (17 ≤ i ∧ i ≤ 18) ∨ (69 ≤ i ∧ i ≤ 88)) i → T' i = T2 i) → T' 69 = I ((dn.length : Int) + 1) → ∃ n', n' < r2.length + 1 ∧ J2 n' T' (upd g2 b18 (some ob')) := fun hn T' ob' hT h16 =>
        ⟨_, Nat.lt_succ_self _, hJ2.out _ _ _ ⟨fun i hi => (hT i hi).trans (hfr2 i hi), dn ++ [x], r2, ob, rfl, by simp; omega, ⟨by rw [← hq.out]; simp [hn]⟩, by rw [h16]; simp, by rw [List.append_assoc]; exact og ob', p1, p2, p3, p4, p5, p6⟩⟩
      have fin2 : attR what fr to x = { x with name := to } → ∀ (T' : Nat → AV) ob' (oc' : Ob), (∀ i, ¬ (fun i => (17 ≤ i ∧ i ≤ 18) ∨ (69 ≤ i ∧ i ≤ 88)) i → T' i = T2 i) → T' 69 = I ((dn.length : Int) + 1) → oc'.s = 7 → oc'.ty = 99 → oc'.n = y.attrs.length → (∀ p q, oc'.f p q = if p = dn.length ∧ q = 0 then S to else oc.f p q) → ∃ n', n' < r2.length + 1 ∧ J2 n' T' (upd (upd g2 b18 (some ob')) c (some oc')) := fun hn T' ob' oc' hT h16 k1 k2 k3 k4 =>
        ⟨_, Nat.lt_succ_self _, hJ2.out _ _ _ ⟨fun i hi => (hT i hi).trans (hfr2 i hi), dn ++ [{ x with name := to }], r2, ob, rfl, by simp; omega, ⟨by rw [← hq.out]; simp [hn]⟩, by rw [h16]; simp, by
          rw [List.append_assoc]
          refine Bdy.wr2 (og ob') (.row 0) (c := c) (oc := oc) { y with attrs := dn ++ { x with name := to } :: r2 } (by show R i 0 = .row c 7 0 (dn ++ x :: r2).length; rw [hll]; exact w1) ((upd_ne _ _ n18.2).trans w3) (k1.trans w4.symm) (k2.trans w5.symm) (k3.trans w6.symm) rfl rfl rfl (by show (dn ++ { x with name := to } :: r2).length = (dn ++ x :: r2).length; simp) (fun p hp q hq2 => ?_) (fun l' hl' => ?_) rfl
          · replace hp : p < y.attrs.length := by rw [← hll]; exact hp
            replace hq2 : q < 7 := hq2
            show oc'.f p q = cellsL cAtx (dn ++ { x with name := to } :: r2) p q
            rw [k4, cellsL_mid dn r2 x]
            by_cases hpd : p = dn.length
            · subst hpd
              rw [if_pos rfl]
              by_cases hq0 : q = 0
              · subst hq0
                rw [if_pos ⟨rfl, rfl⟩]; rfl
              · rw [if_neg fun h => hq0 h.2, hcell q hq2]
                obtain ⟨m, rfl⟩ : ∃ m, q = m + 1 := ⟨q - 1, by omega⟩
                rfl
            · rw [if_neg fun h => hpd h.1, if_neg hpd, w8 p hp q hq2]
          · exact match l', hl' with
          | .row 0, h => absurd rfl h
          | .row 1, _ => rfl
          | .row 2, _ => rfl
          | .row (_ + 3), _ => rfl
          | .ov _, _ => rfl, p1, p2, p3, p4, p5, p6⟩⟩
      clear og w8 hcell
      (repeat' (first | simp [go_sem, X_region, *] | simp (disch := omega) only [om, *] | ((first | refine XC_split ?_ ?_ | refine XG_true ?_ ?_ | refine XG_false ?_ ?_ | refine XRg_true ?_ ?_ | refine XRg_false ?_ ?_) <;> intro hc <;> (try simp only [bl] at hc) <;> (try (exfalso; omega))) | refine XD_w [] [] [] (fun _ => none) mixed (by decide +kernel) (sub_none _) ?_ | fail))
      all_goals first
        | (refine fin1 ?_ _ _ (by (repeat (refine fr_upd (by decide) ?_)); exact fun _ _ => rfl) ?_
           · (simp [attR, nmR, *]; done)
           · (simp [go_sem]; done))
        | (refine fin2 ?_ _ _ _ (by (repeat (refine fr_upd (by decide) ?_)); exact fun _ _ => rfl) ?_ rfl rfl rfl (fun p q => rfl)
           · (simp [attR, nmR, *]; done)
           · (simp [go_sem]; done))
        | skip
    have hd := hq.out
    simp only [List.map_nil, List.append_nil] at hd B2
    rw [hd] at B2
    have hnl : ¬ dn.length < y.attrs.length := by simp at hlen; omega
    clear hq hlen
    (repeat' (first | simp [go_sem, X_region, *] | simp (disch := omega) only [om, *] | ((first | refine XC_split ?_ ?_ | refine XG_true ?_ ?_ | refine XG_false ?_ ?_ | refine XRg_true ?_ ?_ | refine XRg_false ?_ ?_) <;> intro hc <;> (try simp only [bl] at hc) <;> (try (exfalso; omega))) | refine XD_w [] [] [] (fun _ => none) mixed (by decide +kernel) (sub_none _) ?_ | fail))
    refine X_lpF (fun i => (19 ≤ i ∧ i ≤ 20) ∨ (92 ≤ i ∧ i ≤ 111)) (fun n T' g' => ∃ (dn r2 : List Tb) (ob : Ob), n = r2.length ∧ dn.length + r2.length = y.tables.length ∧ Hid (dn ++ r2.map (tbR what fr to) = y.tables.map (tbR what fr to)) ∧ T' 92 = I dn.length ∧ Bdy (upd H2 b16 (some ob)) g' r b.length (upd (doneA (acR what fr to) b i) i { { y with attrs := y.attrs.map (attR what fr to) } with tables := dn ++ r2 }) R O ∧ ob.ty = 37 ∧ ob.s = 6 ∧ ob.n = 1 ∧ ob.f 0 3 = R i 0 ∧ ob.f 0 4 = R i 1 ∧ ob.f 0 5 = R i 2) y.tables.length
      ⟨[], y.tables, ob, rfl, by simp, ⟨rfl⟩, by simp [go_sem], B2, p1, p2, p3, p4, p5, p6⟩ ?_
    clear B2 p1 p2 p3 p4 p5 p6 e16
    rintro J3 hJ3 n3 T3 g3 hfr3 ⟨dn, r2, ob, rfl, hlen, hq, t92, B3, p1, p2, p3, p4, p5, p6⟩
    have e16 := B3.fam.sub b16 _ (upd_same _ _ _)
    rcases r2 with _ | ⟨x, r2⟩
    case cons =>
      simp only [List.length_cons] at hlen
      have hlx : dn.length < y.tables.length := by omega
      have hll : (dn ++ x :: r2).length = y.tables.length := by simp; omega
      have hx? : (dn ++ x :: r2)[dn.length]? = some x := by simp
      have W := B3.at i (.row 1) (by rw [upd_same]; show 0 < (dn ++ x :: r2).length; omega)
      rw [upd_same] at W
      obtain ⟨c, oc, w1, w2, w3, w4, w5, w6, w7⟩ := W
      replace w1 : R i 1 = .row c 5 0 y.tables.length := by rw [← hll]; exact w1
      replace w4 : oc.s = 5 := w4
      replace w5 : oc.ty = 43 := w5
      replace w6 : oc.n = y.tables.length := by rw [← hll]; exact w6
      have w8 : ∀ p, p < y.tables.length → ∀ q, q < 5 → oc.f p q = cellsL cTb (dn ++ x :: r2) p q := by rw [← hll]; exact w7
      clear w7
      have hcell : ∀ q, q < 5 → oc.f dn.length q = (cTb x).getD q .any := fun q hq => by rw [w8 _ hlx q hq, cellsL_get hx?]
      have z0 : oc.f dn.length 0 = S x.name := hcell 0 (by decide)
      have z1 : oc.f dn.length 1 = I x.fr := hcell 1 (by decide)
      have z2 : oc.f dn.length 2 = I x.to := hcell 2 (by decide)
      have z3 : oc.f dn.length 3 = B x.sl := hcell 3 (by decide)
      have z4 : oc.f dn.length 4 = encL 2 cSt x.steps := hcell 4 (by decide)
      (repeat' (first | simp [go_sem, X_region, *] | simp (disch := omega) only [om, *] | ((first | refine XC_split ?_ ?_ | refine XG_true ?_ ?_ | refine XG_false ?_ ?_ | refine XRg_true ?_ ?_ | refine XRg_false ?_ ?_) <;> intro hc <;> (try simp only [bl] at hc) <;> (try (exfalso; omega))) | refine XD_w [] [] [] (fun _ => none) mixed (by decide +kernel) (sub_none _) ?_ | fail))
      intro b18 hb18
      have n18 := ne_free hb18 w3
      have m18 := ne_free hb18 e16
      have og : ∀ ob', Bdy (upd H2 b16 (some ob)) (upd g3 b18 (some ob')) r b.length (upd (doneA (acR what fr to) b i) i { { y with attrs := y.attrs.map (attR what fr to) } with tables := dn ++ x :: r2 }) R O := fun ob' => B3.grow (Sub.upd hb18 (Sub.refl _))
      have fin1 : tbR what fr to x = x → ∀ (T' : Nat → AV) ob', (∀ i, ¬ (fun i => (19 ≤ i ∧ i ≤ 20) ∨ (92 ≤ i ∧ i ≤ 111)) i → T' i = T3 i) → T' 92 = I ((dn.length : Int) + 1) → ∃ n', n' < r2.length + 1 ∧ J3 n' T' (upd g3 b18 (some ob')) := fun hn T' ob' hT h16 =>
        ⟨_, Nat.lt_succ_self _, hJ3.out _ _ _ ⟨fun i hi => (hT i hi).trans (hfr3 i hi), dn ++ [x], r2, ob, rfl, by simp; omega, ⟨by rw [← hq.out]; simp [hn]⟩, by rw [h16]; simp, by rw [List.append_assoc]; exact og ob', p1, p2, p3, p4, p5, p6⟩⟩
      have fin2 : tbR what fr to x = { x with name := to } → ∀ (T' : Nat → AV) ob' (oc' : Ob), (∀ i, ¬ (fun i => (19 ≤ i ∧ i ≤ 20) ∨ (92 ≤ i ∧ i ≤ 111)) i → T' i = T3 i) → T' 92 = I ((dn.length : Int) + 1) → oc'.s = 5 → oc'.ty = 43 → oc'.n = y.tables.length → (∀ p q, oc'.f p q = if p = dn.length ∧ q = 0 then S to else oc.f p q) → ∃ n', n' < r2.length + 1 ∧ J3 n' T' (upd (upd g3 b18 (some ob')) c (some oc')) := fun hn T' ob' oc' hT h16 k1 k2 k3 k4 =>
        ⟨_, Nat.lt_succ_self _, hJ3.out _ _ _ ⟨fun i hi => (hT i hi).trans (hfr3 i hi), dn ++ [{ x with name := to }], r2, ob, rfl, by simp; omega, ⟨by rw [← hq.out]; simp [hn]⟩, by rw [h16]; simp, by
          rw [List.append_assoc]
          refine Bdy.wr2 (og ob') (.row 1) (c := c) (oc := oc) { { y with attrs := y.attrs.map (attR what fr to) } with tables := dn ++ { x with name := to } :: r2 } (by show R i 1 = .row c 5 0 (dn ++ x :: r2).length; rw [hll]; exact w1) ((upd_ne _ _ n18.2).trans w3) (k1.trans w4.symm) (k2.trans w5.symm) (k3.trans w6.symm) rfl rfl rfl (by show (dn ++ { x with name := to } :: r2).length = (dn ++ x :: r2).length; simp) (fun p hp q hq2 => ?_) (fun l' hl' => ?_) rfl
          · replace hp : p < y.tables.length := by rw [← hll]; exact hp
            replace hq2 : q < 5 := hq2
            show oc'.f p q = cellsL cTb (dn ++ { x with name := to } :: r2) p q
            rw [k4, cellsL_mid dn r2 x]
            by_cases hpd : p = dn.length
            · subst hpd
              rw [if_pos rfl]
              by_cases hq0 : q = 0
              · subst hq0
                rw [if_pos ⟨rfl, rfl⟩]; rfl
              · rw [if_neg fun h => hq0 h.2, hcell q hq2]
                obtain ⟨m, rfl⟩ : ∃ m, q = m + 1 := ⟨q - 1, by omega⟩
                rfl
            · rw [if_neg fun h => hpd h.1, if_neg hpd, w8 p hp q hq2]
          · exact match l', hl' with
          | .row 0, _ => rfl
          | .row 1, h => absurd rfl h
          | .row 2, _ => rfl
          | .row (_ + 3), _ => rfl
          | .ov _, _ => rfl, p1, p2, p3, p4, p5, p6⟩⟩
      clear og w8 hcell
      (repeat' (first | simp [go_sem, X_region, *] | simp (disch := omega) only [om, *] | ((first | refine XC_split ?_ ?_ | refine XG_true ?_ ?_ | refine XG_false ?_ ?_ | refine XRg_true ?_ ?_ | refine XRg_false ?_ ?_) <;> intro hc <;> (try simp only [bl] at hc) <;> (try (exfalso; omega))) | refine XD_w [] [] [] (fun _ => none) mixed (by decide +kernel) (sub_none _) ?_ | fail))
      all_goals first
        | (refine fin1 ?_ _ _ (by (repeat (refine fr_upd (by decide) ?_)); exact fun _ _ => rfl) ?_
           · (simp [tbR, nmR, *]; done)
           · (simp [go_sem]; done))
        | (refine fin2 ?_ _ _ _ (by (repeat (refine fr_upd (by decide) ?_)); exact fun _ _ => rfl) ?_ rfl rfl rfl (fun p q => rfl)
           · (simp [tbR, nmR, *]; done)
           · (simp [go_sem]; done))
        | skip
    have hd := hq.out
    simp only [List.map_nil, List.append_nil] at hd B3
    rw [hd] at B3
    have hnl : ¬ dn.length < y.tables.length := by simp at hlen; omega
    clear hq hlen
    (repeat' (first | simp [go_sem, X_region, *] | simp (disch := omega) only [om, *] | ((first | refine XC_split ?_ ?_ | refine XG_true ?_ ?_ | refine XG_false ?_ ?_ | refine XRg_true ?_ ?_ | refine XRg_false ?_ ?_) <;> intro hc <;> (try simp only [bl] at hc) <;> (try (exfalso; omega))) | refine XD_w [] [] [] (fun _ => none) mixed (by decide +kernel) (sub_none _) ?_ | fail))
    refine X_lpF (fun i => (21 ≤ i ∧ i ≤ 22) ∨ (115 ≤ i ∧ i ≤ 149)) (fun n T' g' => ∃ (dn r2 : List Arx) (ob : Ob), n = r2.length ∧ dn.length + r2.length = y.arts.length ∧ Hid (dn ++ r2.map (arR what fr to) = y.arts.map (arR what fr to)) ∧ (∀ x ∈ r2, x ∈ y.arts) ∧ T' 115 = I dn.length ∧ Bdy (upd H2 b16 (some ob)) g' r b.length (upd (doneA (acR what fr to) b i) i { { { y with attrs := y.attrs.map (attR what fr to) } with tables := y.tables.map (tbR what fr to) } with arts := dn ++ r2 }) R O ∧ ob.ty = 37 ∧ ob.s = 6 ∧ ob.n = 1 ∧ ob.f 0 3 = R i 0 ∧ ob.f 0 4 = R i 1 ∧ ob.f 0 5 = R i 2) y.arts.length
      ⟨[], y.arts, ob, rfl, by simp, ⟨rfl⟩, fun x hx => hx, by simp [go_sem], B3, p1, p2, p3, p4, p5, p6⟩ ?_
    clear B3 p1 p2 p3 p4 p5 p6 e16
    rintro J4 hJ4 n4 T4 g4 hfr4 ⟨dn, r2, ob, rfl, hlen, hq, hmem, t115, B4, p1, p2, p3, p4, p5, p6⟩
    have e16 := B4.fam.sub b16 _ (upd_same _ _ _)
    rcases r2 with _ | ⟨x, r2⟩
    case cons =>
      simp only [List.length_cons] at hlen
      have hlx : dn.length < y.arts.length := by omega
      have hll : (dn ++ x :: r2).length = y.arts.length := by simp; omega
      have W := B4.at i (.row 2) (by rw [upd_same]; show 0 < (dn ++ x :: r2).length; omega)
      rw [upd_same] at W
      obtain ⟨c, oc, w1, w2, w3, w4, w5, w6, w7⟩ := W
      replace w1 : R i 2 = .row c 6 0 y.arts.length := by rw [← hll]; exact w1
      replace w4 : oc.s = 6 := w4
      replace w5 : oc.ty = 50 := w5
      replace w6 : oc.n = y.arts.length := by rw [← hll]; exact w6
      have w8 : Hid (∀ p, p < y.arts.length → ∀ q, q < 6 → oc.f p q = arC (dn ++ x :: r2) (O i) p q) := ⟨by rw [← hll]; exact w7⟩
      clear w7
      have hg : (dn ++ x :: r2).getD dn.length arx0 = x := by rw [List.getD_eq_getElem?_getD]; simp
      have z0 : oc.f dn.length 0 = S x.name := by rw [w8.out _ hlx 0 (by decide)]; unfold arC; rw [hg]; rfl
      have z1 : oc.f dn.length 1 = S x.target := by rw [w8.out _ hlx 1 (by decide)]; unfold arC; rw [hg]; rfl
      have z2 : oc.f dn.length 2 = encL 5 cNd x.cond := by rw [w8.out _ hlx 2 (by decide)]; unfold arC; rw [hg]; rfl
      have z3 : oc.f dn.length 3 = encL 5 cNd x.thn := by rw [w8.out _ hlx 3 (by decide)]; unfold arC; rw [hg]; rfl
      have z4 : oc.f dn.length 4 = O i dn.length := by rw [w8.out _ hlx 4 (by decide)]; unfold arC; rfl
      have z5 : oc.f dn.length 5 = I x.weight := by rw [w8.out _ hlx 5 (by decide)]; unfold arC; rw [hg]; rfl
      have hxo := hyok.ar.2 x (hmem x (by simp))
      have r1 := renamed_ok x.cond hxo.1.1 hxo.1.2 what fr to
      have r3 := renamed_ok x.thn hxo.2.1.1 hxo.2.1.2 what fr to
      have cov : cellsA (O i dn.length) = some (1, fun _ => O i dn.length) := (B4.fam.own (.inn i (.ov dn.length))).cells
      (repeat' (first | simp [go_sem, X_region, *] | simp (disch := omega) only [om, *] | ((first | refine XC_split ?_ ?_ | refine XG_true ?_ ?_ | refine XG_false ?_ ?_ | refine XRg_true ?_ ?_ | refine XRg_false ?_ ?_) <;> intro hc <;> (try simp only [bl] at hc) <;> (try (exfalso; omega))) | refine XD_w [] [] [] (fun _ => none) mixed (by decide +kernel) (sub_none _) ?_ | fail))
      intro b22 hb22
      have n22 := ne_free hb22 w3
      have m22 := ne_free hb22 e16
      have og : ∀ ob', Bdy (upd H2 b16 (some ob)) (upd g4 b22 (some ob')) r b.length (upd (doneA (acR what fr to) b i) i { { { y with attrs := y.attrs.map (attR what fr to) } with tables := y.tables.map (tbR what fr to) } with arts := dn ++ x :: r2 }) R O := fun ob' => B4.grow (Sub.upd hb22 (Sub.refl _))
      have fin : ∀ tg, tg = nmR what fr to 1 x.target → ∀ (T' : Nat → AV) ob' (oc' : Ob), (∀ i, ¬ (fun i => (21 ≤ i ∧ i ≤ 22) ∨ (115 ≤ i ∧ i ≤ 149)) i → T' i = T4 i) → T' 115 = I ((dn.length : Int) + 1) → oc'.s = 6 → oc'.ty = 50 → oc'.n = y.arts.length → (∀ p q, oc'.f p q = if p = dn.length ∧ q < 6 then [S x.name, S tg, AV.sl 5 x.cond.length (cellsL cNd (x.cond.map (ndR what fr to))), AV.sl 5 x.thn.length (cellsL cNd (x.thn.map (ndR what fr to))), O i dn.length, I x.weight][q]?.getD AV.any else oc.f p q) → ∃ n', n' < r2.length + 1 ∧ J4 n' T' (upd (upd g4 b22 (some ob')) c (some oc')) := fun tg htg T' ob' oc' hT h16 k1 k2 k3 k4 =>
        ⟨_, Nat.lt_succ_self _, hJ4.out _ _ _ ⟨fun i hi => (hT i hi).trans (hfr4 i hi), dn ++ [arR what fr to x], r2, ob, rfl, by simp; omega, ⟨by rw [← hq.out]; simp⟩, fun z hz => hmem z (List.mem_cons_of_mem _ hz), by rw [h16]; simp, by
          rw [List.append_assoc]
          refine Bdy.wrArt (og ob') (x' := arR what fr to x) rfl hll w1 ((upd_ne _ _ n22.2).trans w3) k1 k2 k3 w4 w5 w6 w8.out fun p hp q hq2 => ?_
          rw [k4]
          by_cases hpd : p = dn.length
          · subst hpd
            rw [if_pos ⟨rfl, hq2⟩, if_pos rfl, htg]
            have l1 : (x.cond.map (ndR what fr to)).length = x.cond.length := by simp
            have l2 : (x.thn.map (ndR what fr to)).length = x.thn.length := by simp
            rcases (show q = 0 ∨ q = 1 ∨ q = 2 ∨ q = 3 ∨ q = 4 ∨ q = 5 by omega) with rfl | rfl | rfl | rfl | rfl | rfl
            · rfl
            · rfl
            · exact congrArg (fun n => AV.sl 5 n (cellsL cNd (x.cond.map (ndR what fr to)))) l1.symm
            · exact congrArg (fun n => AV.sl 5 n (cellsL cNd (x.thn.map (ndR what fr to)))) l2.symm
            · rfl
            · rfl
          · rw [if_neg fun h => hpd h.1, if_neg hpd], p1, p2, p3, p4, p5, p6⟩⟩
      clear og hg hxo hmem
      rcases Decidable.em (what = 1) with hw1 | hw1
      · subst hw1
        (repeat' (first | simp [go_sem, X_region, *] | simp (disch := omega) only [om, *] | ((first | refine XC_split ?_ ?_ | refine XG_true ?_ ?_ | refine XG_false ?_ ?_ | refine XRg_true ?_ ?_ | refine XRg_false ?_ ?_) <;> intro hc <;> (try simp only [bl] at hc) <;> (try (exfalso; omega))) | refine XD_w [] [] [] (fun _ => none) mixed (by decide +kernel) (sub_none _) ?_ | refine Pure.call (r1) ?_ | refine ⟨_, Pure.at (r1), ?_⟩ | refine ⟨_, r1, ?_⟩ | refine PureAt.call (r1) ?_ | refine Pure.call (r3) ?_ | refine ⟨_, Pure.at (r3), ?_⟩ | refine ⟨_, r3, ?_⟩ | refine PureAt.call (r3) ?_ | fail))
        all_goals (refine fin _ ?_ _ _ _ (by (repeat (refine fr_upd (by decide) ?_)); exact fun _ _ => rfl) ?_ rfl rfl rfl fun p q => rfl)
        all_goals first
          | (simp [nmR, *]; done)
          | (simp [go_sem]; done)
          | trace_state
      · (repeat' (first | simp [go_sem, X_region, *] | simp (disch := omega) only [om, *] | ((first | refine XC_split ?_ ?_ | refine XG_true ?_ ?_ | refine XG_false ?_ ?_ | refine XRg_true ?_ ?_ | refine XRg_false ?_ ?_) <;> intro hc <;> (try simp only [bl] at hc) <;> (try (exfalso; omega))) | refine XD_w [] [] [] (fun _ => none) mixed (by decide +kernel) (sub_none _) ?_ | refine Pure.call (r1) ?_ | refine ⟨_, Pure.at (r1), ?_⟩ | refine ⟨_, r1, ?_⟩ | refine PureAt.call (r1) ?_ | refine Pure.call (r3) ?_ | refine ⟨_, Pure.at (r3), ?_⟩ | refine ⟨_, r3, ?_⟩ | refine PureAt.call (r3) ?_ | fail))
        all_goals (refine fin _ ?_ _ _ _ (by (repeat (refine fr_upd (by decide) ?_)); exact fun _ _ => rfl) ?_ rfl rfl rfl fun p q => rfl)
        all_goals first
          | (simp [nmR, *]; done)
          | (simp [go_sem]; done)
          | trace_state
    have hd := hq.out
    simp only [List.map_nil, List.append_nil] at hd B4
    rw [hd] at B4
    have hnl : ¬ dn.length < y.arts.length := by simp at hlen; omega
    clear hq hlen
    have B5 : Bdy H2 g4 r b.length (doneA (acR what fr to) b (i + 1)) R O := (B4.up (Sub.upd h216 (Sub.refl _))).keepA fun k => by
      have h1 := doneA_step (acR what fr to) b i k
      rw [hy.out] at h1
      exact h1
    have hbl := hb.len
    (repeat' (first | simp [go_sem, X_region, *] | simp (disch := omega) only [om, *] | ((first | refine XC_split ?_ ?_ | refine XG_true ?_ ?_ | refine XG_false ?_ ?_ | refine XRg_true ?_ ?_ | refine XRg_false ?_ ?_) <;> intro hc <;> (try simp only [bl] at hc) <;> (try (exfalso; omega))) | refine XD_w [] [] [] (fun _ => none) mixed (by decide +kernel) (sub_none _) ?_ | fail))
    refine ⟨n - 1, by omega, hJ.out _ _ _ ⟨?_, i + 1, by omega, by simp [go_sem], B5⟩⟩
    repeat (refine fr_upd (by decide) ?_)
    refine fr_in (by intro i; omega) hfr4 ?_
    repeat (refine fr_upd (by decide) ?_)
    refine fr_in (by intro i; omega) hfr3 ?_
    repeat (refine fr_upd (by decide) ?_)
    refine fr_in (by intro i; omega) hfr2 ?_
    repeat (refine fr_upd (by decide) ?_)
    exact hfr
  have hib : i = b.length := by omega
  subst hib
  have hf := Bd.frozen (by have := hb.len; omega) fun k hk => by
    rw [show doneA (acR what fr to) b b.length k = acR what fr to (actAt b k) by simp [doneA, hk]]
    have o := hb.at hk
    have o1 := o.at_
    have o2 := o.tb.1
    have o3 := o.ar.1
    refine ⟨by simp [acR]; omega, by simp [acR]; omega, by simp [acR]; omega, fun z hz => ?_⟩
    obtain ⟨w, hw, rfl⟩ := List.mem_map.1 hz
    have := (o.ar.2 w hw).2.2
    show w.over.length ≤ _
    omega
  rw [doneA_all] at hf
  have hml : (b.map (acR what fr to)).length = b.length := by simp
  (repeat' (first | simp [go_sem, X_region, *] | simp (disch := omega) only [om, *] | ((first | refine XC_split ?_ ?_ | refine XG_true ?_ ?_ | refine XG_false ?_ ?_ | refine XRg_true ?_ ?_ | refine XRg_false ?_ ?_) <;> intro hc <;> (try simp only [bl] at hc) <;> (try (exfalso; omega))) | refine XD_w [] [] [] (fun _ => none) mixed (by decide +kernel) (sub_none _) ?_ | fail))
  have hf2 : Wk g1 r h (encL 6 cAcx (b.map (acR what fr to))) := hf.trans (Wk.drop _ sg)
  unfold encL at hf2
  rw [hml] at hf2
  exact Wk.tup2M (sg.trans Bd.fam.sub) hf2 (Wk.drop _ (sg.trans Bd.fam.sub))
end Go.Proofs.YtmalhikcdideoaaGreatDoor

set_option linter.unusedVariables false
set_option linter.unusedSimpArgs false
namespace Go.Proofs.YtmalhikcdideoaaGreatDoor
open Go Sl
attribute [local irreducible] XRange LpQ XR XRo XRg XRQ putQ XFv XL XW2 wQ putW X XO XOp XH XHo XW SeqQ BlkQ XOQ XHQ NrmQ XC XM XG XHM XHG XD CallK
open Go.RowKit
end Go.Proofs.YtmalhikcdideoaaGreatDoor

set_option linter.unusedVariables false
set_option linter.unusedSimpArgs false
namespace Go.Proofs.YtmalhikcdideoaaGreatDoor
open Go Sl
attribute [local irreducible] XRange LpQ XR XRo XRg XRQ putQ XFv XL XW2 wQ putW X XO XOp XH XHo XW SeqQ BlkQ XOQ XHQ NrmQ XC XM XG XHM XHG XD CallK
open Go.RowKit
/-- Two slices of the call's own, of the same elements. -/
structure Two (B g : Hp) (x y : AV) (e : TypeId) (s n m : Nat) (f q : Nat → Nat → AV) : Prop where
  a : Own B g x e s n f
  b : Own B g y e s m q
  ap : ∀ c, x = .row c s 0 n → y = .row c s 0 m → False
theorem Two.swap {B g : Hp} {x y : AV} {e : TypeId} {s n m : Nat} {f q : Nat → Nat → AV} (t : Two B g x y e s n m f q) : Two B g y x e s m n q f := ⟨t.b, t.a, fun c h1 h2 => t.ap c h2 h1⟩
theorem Two.grow {B g g' : Hp} {x y : AV} {e : TypeId} {s n m : Nat} {f q : Nat → Nat → AV} (t : Two B g x y e s n m f q) (hS : Sub g g') : Two B g' x y e s n m f q := ⟨own_grow t.a hS, own_grow t.b hS, t.ap⟩
theorem Two.hole {B g : Hp} {x y : AV} {e : TypeId} {s n m : Nat} {f q : Nat → Nat → AV} (t : Two B g x y e s n m f q) : ∃ H : Hp, Own H g x e s n f ∧ ∀ g1 x1 n1 f1, Own H g1 x1 e s n1 f1 → Two B g1 x1 y e s n1 m f1 q := by
  obtain ⟨H, oH, sH, kH⟩ := own_hole t.a
  exact ⟨H, oH, fun g1 x1 n1 f1 o1 => ⟨own_up sH o1, own_keep sH kH o1.1 t.b t.ap, own_apart kH o1 t.b t.ap⟩⟩
set_option maxHeartbeats 2000000 in
theorem declared_ok (b : List Acx) (hal : ∀ a ∈ b, a.attrs.length ≤ 1048576 ∧ a.tables.length ≤ 1048576) (hA : (attrN b).length ≤ 1048576) (hT : (tabN b).length ≤ 1048576) : Pure Tryz.prog 25 [encL 6 cAcx b] (tup2 (encL 1 cS (attrN b)) (encL 1 cS (tabN b))) := by
  obtain ⟨NA, hNA⟩ : ∃ NA, attrN b = NA := ⟨_, rfl⟩
  obtain ⟨NT, hNT⟩ : ∃ NT, tabN b = NT := ⟨_, rfl⟩
  rw [hNA, hNT]
  rw [hNA] at hA
  rw [hNT] at hT
  intro h; refine CallK.lens fun hlen => ?_; have hlen := (hlen _ (by simp only [List.mem_cons, true_or, or_true] : (encL 6 cAcx b) ∈ _)).encL; refine callK_body Tryz.func25 rfl (by rw [nt25]; simp) ?_; rw [nt25, rs25]
  (repeat' (first | simp [go_sem, X_region, *] | simp (disch := omega) only [om, *] | ((first | refine XC_split ?_ ?_ | refine XG_true ?_ ?_ | refine XG_false ?_ ?_ | refine XRg_true ?_ ?_ | refine XRg_false ?_ ?_) <;> intro hc <;> (try simp only [bl] at hc) <;> (try (exfalso; omega))) | refine XD_w [] [] [] (fun _ => none) mixed (by decide +kernel) (sub_none _) ?_ | fail))
  refine X_lpF (fun i => (4 ≤ i ∧ i ≤ 5) ∨ i = 7 ∨ i = 9 ∨ i = 11 ∨ (14 ≤ i ∧ i ≤ 44)) (fun n T g => ∃ (i : Nat) (r : List Acx) (l1 l2 : List ByteArray), n = r.length ∧ i ≤ b.length ∧ b.drop i = r ∧ T 14 = I i ∧ Two h g (T 4) (T 5) 9 1 l1.length l2.length (cellsL cS l1) (cellsL cS l2) ∧ Hid (l1 ++ attrN r = NA) ∧ Hid (l2 ++ tabN r = NT)) b.length
    ⟨0, b, [], [], rfl, by omega, rfl, by simp [go_sem], ⟨by simpa [go_sem] using Own.none, by simpa [go_sem] using Own.none, fun c h1 => by simp [go_sem] at h1⟩, ⟨hNA⟩, ⟨hNT⟩⟩ ?_
  clear hNA hNT
  rintro J hJ n T g hfr ⟨i, r, l1, l2, rfl, hi, hd, t14, tw, q1, q2⟩
  rcases r with _ | ⟨a, r⟩
  · have hlt := drop_nil hd
    obtain rfl : l1 = NA := by have := q1.out; simpa [attrN] using this
    obtain rfl : l2 = NT := by have := q2.out; simpa [tabN] using this
    have f1 := tw.a.frozen (by omega)
    have f2 := tw.b.frozen (by omega)
    have hs := tw.a.1
    clear q1 q2
    (repeat' (first | simp [go_sem, X_region, *] | simp (disch := omega) only [om, *] | ((first | refine XC_split ?_ ?_ | refine XG_true ?_ ?_ | refine XG_false ?_ ?_ | refine XRg_true ?_ ?_ | refine XRg_false ?_ ?_) <;> intro hc <;> (try simp only [bl] at hc) <;> (try (exfalso; omega))) | refine XD_w [] [] [] (fun _ => none) mixed (by decide +kernel) (sub_none _) ?_ | fail))
    exact Wk.tup2M hs f1 f2
  · obtain ⟨hlt, hx, hd2⟩ := drop_cons hd
    obtain ⟨hxl, htl⟩ := hal a (by rw [← hx]; exact List.getElem_mem hlt)
    (repeat' (first | simp [go_sem, X_region, *] | simp (disch := omega) only [om, *] | ((first | refine XC_split ?_ ?_ | refine XG_true ?_ ?_ | refine XG_false ?_ ?_ | refine XRg_true ?_ ?_ | refine XRg_false ?_ ?_) <;> intro hc <;> (try simp only [bl] at hc) <;> (try (exfalso; omega))) | refine XD_w [] [] [] (fun _ => none) mixed (by decide +kernel) (sub_none _) ?_ | fail))
    intro b7 hb7
    have h7 : h b7 = none := sub_none_of tw.a.1 hb7
    have tw2 : ∀ ob, Two (upd h b7 (some ob)) (upd g b7 (some ob)) (T 4) (T 5) 9 1 l1.length l2.length (cellsL cS l1) (cellsL cS l2) := fun ob => ⟨own_with tw.a hb7, own_with tw.b hb7, tw.ap⟩
    (repeat' (first | simp [go_sem, X_region, *] | simp (disch := omega) only [om, *] | ((first | refine XC_split ?_ ?_ | refine XG_true ?_ ?_ | refine XG_false ?_ ?_ | refine XRg_true ?_ ?_ | refine XRg_false ?_ ?_) <;> intro hc <;> (try simp only [bl] at hc) <;> (try (exfalso; omega))) | refine XD_w [] [] [] (fun _ => none) mixed (by decide +kernel) (sub_none _) ?_ | fail))
    refine X_lpF (fun i => i = 4 ∨ i = 9 ∨ (21 ≤ i ∧ i ≤ 30)) (fun n T' g => ∃ (j : Nat) (rk : List Atx) (l1 : List ByteArray) (ob : Ob), n = rk.length ∧ j ≤ a.attrs.length ∧ a.attrs.drop j = rk ∧ T' 21 = I j ∧ Two (upd h b7 (some ob)) g (T' 4) (T 5) 9 1 l1.length l2.length (cellsL cS l1) (cellsL cS l2) ∧ Hid (l1 ++ (rk.map (·.name) ++ attrN r) = NA) ∧ ob.ty = 37 ∧ ob.s = 6 ∧ ob.n = 1 ∧ ob.f 0 4 = encL 5 cTb a.tables) a.attrs.length
      ⟨0, a.attrs, l1, _, rfl, by omega, rfl, by simp [go_sem], by simpa [go_sem] using tw2 _, ⟨by rw [← q1.out]; simp [attrN]⟩, rfl, rfl, rfl, rfl⟩ ?_
    clear tw q1 tw2
    rintro J2 hJ2 n2 T2 g2 hfr2 ⟨j, rk, l1, ob, rfl, hj, hdk, t21, tw, q1, p1, p2, p3, p4⟩
    have e7 := tw.a.1 b7 _ (upd_same _ _ _)
    rcases rk with _ | ⟨x, rk⟩
    · have hltk := drop_nil hdk
      have q1 : Hid (l1 ++ attrN r = NA) := ⟨q1.out⟩
      (repeat' (first | simp [go_sem, X_region, *] | simp (disch := omega) only [om, *] | ((first | refine XC_split ?_ ?_ | refine XG_true ?_ ?_ | refine XG_false ?_ ?_ | refine XRg_true ?_ ?_ | refine XRg_false ?_ ?_) <;> intro hc <;> (try simp only [bl] at hc) <;> (try (exfalso; omega))) | refine XD_w [] [] [] (fun _ => none) mixed (by decide +kernel) (sub_none _) ?_ | fail))
      refine X_lpF (fun i => i = 5 ∨ i = 11 ∨ (34 ≤ i ∧ i ≤ 43)) (fun n T' g => ∃ (j : Nat) (rk : List Tb) (l2 : List ByteArray), n = rk.length ∧ j ≤ a.tables.length ∧ a.tables.drop j = rk ∧ T' 34 = I j ∧ Two (upd h b7 (some ob)) g (T2 4) (T' 5) 9 1 l1.length l2.length (cellsL cS l1) (cellsL cS l2) ∧ Hid (l2 ++ (rk.map (·.name) ++ tabN r) = NT)) a.tables.length
        ⟨0, a.tables, l2, rfl, by omega, rfl, by simp [go_sem], by simpa [go_sem, hfr2] using tw, ⟨by rw [← q2.out]; simp [tabN]⟩⟩ ?_
      clear tw q2 e7
      rintro J3 hJ3 n3 T3 g3 hfr3 ⟨k, rk, l2, rfl, hk, hdk, t34, tw, q2⟩
      rcases rk with _ | ⟨x, rk⟩
      · have hltk := drop_nil hdk
        have q2 : Hid (l2 ++ tabN r = NT) := ⟨q2.out⟩
        have tw1 : Two h g3 (T3 4) (T3 5) 9 1 l1.length l2.length (cellsL cS l1) (cellsL cS l2) := by
          have e4 : T3 4 = T2 4 := by simp [hfr3, go_sem]
          rw [e4]
          exact ⟨own_up (Sub.upd h7 (Sub.refl _)) tw.a, own_up (Sub.upd h7 (Sub.refl _)) tw.b, tw.ap⟩
        (repeat' (first | simp [go_sem, X_region, *] | simp (disch := omega) only [om, *] | ((first | refine XC_split ?_ ?_ | refine XG_true ?_ ?_ | refine XG_false ?_ ?_ | refine XRg_true ?_ ?_ | refine XRg_false ?_ ?_) <;> intro hc <;> (try simp only [bl] at hc) <;> (try (exfalso; omega))) | refine XD_w [] [] [] (fun _ => none) mixed (by decide +kernel) (sub_none _) ?_ | fail))
        refine ⟨_, Nat.lt_succ_self _, hJ.out _ _ _ ⟨?_, i + 1, r, l1, l2, rfl, by omega, hd2, by simp [go_sem], by simpa [go_sem] using tw1, q1, q2⟩⟩
        repeat (refine fr_upd (by decide) ?_)
        refine fr_in (by intro i; omega) hfr3 ?_
        repeat (refine fr_upd (by decide) ?_)
        refine fr_in (by intro i; omega) hfr2 ?_
        repeat (refine fr_upd (by decide) ?_)
        exact hfr
      · obtain ⟨hltk, hxk, hdk2⟩ := drop_cons hdk
        have hl : l2.length + 1 ≤ 1048576 := by have := congrArg List.length q2.out; simp at this; omega
        (repeat' (first | simp [go_sem, X_region, *] | simp (disch := omega) only [om, *] | ((first | refine XC_split ?_ ?_ | refine XG_true ?_ ?_ | refine XG_false ?_ ?_ | refine XRg_true ?_ ?_ | refine XRg_false ?_ ?_) <;> intro hc <;> (try simp only [bl] at hc) <;> (try (exfalso; omega))) | refine XD_w [] [] [] (fun _ => none) mixed (by decide +kernel) (sub_none _) ?_ | fail))
        intro b13 hb13
        obtain ⟨H, oH, kH⟩ := tw.swap.hole
        (repeat' (first | simp [go_sem, X_region, *] | simp (disch := omega) only [om, *] | ((first | refine XC_split ?_ ?_ | refine XG_true ?_ ?_ | refine XG_false ?_ ?_ | refine XRg_true ?_ ?_ | refine XRg_false ?_ ?_) <;> intro hc <;> (try simp only [bl] at hc) <;> (try (exfalso; omega))) | refine XD_w [] [] [] (fun _ => none) mixed (by decide +kernel) (sub_none _) ?_ | fail))
        intro bl l1n l2n hbl
        refine Own.push (x := x.name) (enc := cS) (own_grow oH (Sub.upd hb13 (Sub.refl _))) (by simp [go_sem]) und54 zr9 by9 (by simp [go_sem]) (by rw [upd_ne _ _ l1n]; exact hbl) (by simp [go_sem]) rfl (Nat.le_refl _) (by simp [go_sem]) (by omega) (by omega) fun a1 h1 o1 _ => ?_
        have tw1 := (kH _ _ _ _ o1).swap
        (repeat' (first | simp [go_sem, X_region, *] | simp (disch := omega) only [om, *] | ((first | refine XC_split ?_ ?_ | refine XG_true ?_ ?_ | refine XG_false ?_ ?_ | refine XRg_true ?_ ?_ | refine XRg_false ?_ ?_) <;> intro hc <;> (try simp only [bl] at hc) <;> (try (exfalso; omega))) | refine XD_w [] [] [] (fun _ => none) mixed (by decide +kernel) (sub_none _) ?_ | fail))
        exact ⟨_, Nat.lt_succ_self _, hJ3.out _ _ _ ⟨(by (repeat (refine fr_upd (by decide) ?_)); exact hfr3), k + 1, rk, l2 ++ [x.name], rfl, by omega, hdk2, by simp [go_sem], by simpa [go_sem] using tw1, ⟨by rw [← q2.out]; simp⟩⟩⟩
    · obtain ⟨hltk, hxk, hdk2⟩ := drop_cons hdk
      have hl : l1.length + 1 ≤ 1048576 := by have := congrArg List.length q1.out; simp at this; omega
      (repeat' (first | simp [go_sem, X_region, *] | simp (disch := omega) only [om, *] | ((first | refine XC_split ?_ ?_ | refine XG_true ?_ ?_ | refine XG_false ?_ ?_ | refine XRg_true ?_ ?_ | refine XRg_false ?_ ?_) <;> intro hc <;> (try simp only [bl] at hc) <;> (try (exfalso; omega))) | refine XD_w [] [] [] (fun _ => none) mixed (by decide +kernel) (sub_none _) ?_ | fail))
      intro b9 hb9
      obtain ⟨H, oH, kH⟩ := tw.hole
      (repeat' (first | simp [go_sem, X_region, *] | simp (disch := omega) only [om, *] | ((first | refine XC_split ?_ ?_ | refine XG_true ?_ ?_ | refine XG_false ?_ ?_ | refine XRg_true ?_ ?_ | refine XRg_false ?_ ?_) <;> intro hc <;> (try simp only [bl] at hc) <;> (try (exfalso; omega))) | refine XD_w [] [] [] (fun _ => none) mixed (by decide +kernel) (sub_none _) ?_ | fail))
      intro bl l1n l2n hbl
      refine Own.push (x := x.name) (enc := cS) (own_grow oH (Sub.upd hb9 (Sub.refl _))) (by simp [go_sem]) und54 zr9 by9 (by simp [go_sem]) (by rw [upd_ne _ _ l1n]; exact hbl) (by simp [go_sem]) rfl (Nat.le_refl _) (by simp [go_sem]) (by omega) (by omega) fun a1 h1 o1 _ => ?_
      have tw1 := kH _ _ _ _ o1
      (repeat' (first | simp [go_sem, X_region, *] | simp (disch := omega) only [om, *] | ((first | refine XC_split ?_ ?_ | refine XG_true ?_ ?_ | refine XG_false ?_ ?_ | refine XRg_true ?_ ?_ | refine XRg_false ?_ ?_) <;> intro hc <;> (try simp only [bl] at hc) <;> (try (exfalso; omega))) | refine XD_w [] [] [] (fun _ => none) mixed (by decide +kernel) (sub_none _) ?_ | fail))
      exact ⟨_, Nat.lt_succ_self _, hJ2.out _ _ _ ⟨(by (repeat (refine fr_upd (by decide) ?_)); exact hfr2), j + 1, rk, l1 ++ [x.name], ob, rfl, by omega, hdk2, by simp [go_sem], by simpa [go_sem] using tw1, ⟨by rw [← q1.out]; simp⟩, p1, p2, p3, p4⟩⟩
/-- A name that is renamed. -/
theorem rnm1_ok (h : Hp) (b5 b6 b7 : Nat) (what : Int) (fr to : ByteArray) {o5 o6 o7 : Ob} (e5 : h b5 = some o5) (e6 : h b6 = some o6) (e7 : h b7 = some o7) (k5 : o5.s = 1 ∧ o5.n = 1 ∧ o5.f 0 0 = I what) (k6 : o6.s = 1 ∧ o6.n = 1 ∧ o6.f 0 0 = S fr) (k7 : o7.s = 1 ∧ o7.n = 1 ∧ o7.f 0 0 = S to) (k : Int) (s : ByteArray) :
    PureAt Tryz.prog h 58 [I k, S s, ptrB b5, ptrB b6, ptrB b7] (S (nmR what fr to k s)) := by
  obtain ⟨x1, x2, x3⟩ := k5
  obtain ⟨y1, y2, y3⟩ := k6
  obtain ⟨z1, z2, z3⟩ := k7
  unfold PureAt
  by_cases c1 : what = k
  · subst c1
    by_cases c2 : s = fr
    · subst c2
      rw [show nmR what s to what s = to by simp [nmR]]
      refine callK_body Tryz.func58 rfl (by rw [nt58]; simp) ?_; rw [nt58, rs58]
      (repeat' (first | simp [go_sem, X_region, *] | simp (disch := omega) only [om, *] | ((first | refine XC_split ?_ ?_ | refine XG_true ?_ ?_ | refine XG_false ?_ ?_ | refine XRg_true ?_ ?_ | refine XRg_false ?_ ?_) <;> intro hc <;> (try simp only [bl] at hc) <;> (try (exfalso; omega))) | refine XD_w [] [] [] (fun _ => none) mixed (by decide +kernel) (sub_none _) ?_ | fail))
    · rw [show nmR what fr to what s = s by simp [nmR, c2]]
      refine callK_body Tryz.func58 rfl (by rw [nt58]; simp) ?_; rw [nt58, rs58]
      (repeat' (first | simp [go_sem, X_region, *] | simp (disch := omega) only [om, *] | ((first | refine XC_split ?_ ?_ | refine XG_true ?_ ?_ | refine XG_false ?_ ?_ | refine XRg_true ?_ ?_ | refine XRg_false ?_ ?_) <;> intro hc <;> (try simp only [bl] at hc) <;> (try (exfalso; omega))) | refine XD_w [] [] [] (fun _ => none) mixed (by decide +kernel) (sub_none _) ?_ | fail))
  · rw [show nmR what fr to k s = s by simp [nmR, c1]]
    have c3 : ¬ k = what := fun e => c1 e.symm
    refine callK_body Tryz.func58 rfl (by rw [nt58]; simp) ?_; rw [nt58, rs58]
    (repeat' (first | simp [go_sem, X_region, *] | simp (disch := omega) only [om, *] | ((first | refine XC_split ?_ ?_ | refine XG_true ?_ ?_ | refine XG_false ?_ ?_ | refine XRg_true ?_ ?_ | refine XRg_false ?_ ?_) <;> intro hc <;> (try simp only [bl] at hc) <;> (try (exfalso; omega))) | refine XD_w [] [] [] (fun _ => none) mixed (by decide +kernel) (sub_none _) ?_ | fail))
/-- The captured cells of Renamed. -/
structure Caps (h : Hp) (b5 b6 b7 b13 : Nat) (what : Int) (fr to : ByteArray) : Prop where
  e5 : ∃ o, h b5 = some o ∧ o.s = 1 ∧ o.n = 1 ∧ o.f 0 0 = I what
  e6 : ∃ o, h b6 = some o ∧ o.s = 1 ∧ o.n = 1 ∧ o.f 0 0 = S fr
  e7 : ∃ o, h b7 = some o ∧ o.s = 1 ∧ o.n = 1 ∧ o.f 0 0 = S to
  e13 : ∃ o, h b13 = some o ∧ o.s = 1 ∧ o.n = 1 ∧ o.f 0 0 = .v (.func (.func 58) #[] #[.pointer (some ⟨b5, 0, none⟩), .pointer (some ⟨b6, 0, none⟩), .pointer (some ⟨b7, 0, none⟩)])
theorem Caps.sub {h g : Hp} {b5 b6 b7 b13 : Nat} {what : Int} {fr to : ByteArray} (c : Caps h b5 b6 b7 b13 what fr to) (hS : Sub h g) : Caps g b5 b6 b7 b13 what fr to := by
  obtain ⟨⟨o5, a1, a2⟩, ⟨o6, a3, a4⟩, ⟨o7, a5, a6⟩, o13, a7, a8⟩ := c
  exact ⟨⟨o5, hS _ _ a1, a2⟩, ⟨o6, hS _ _ a3, a4⟩, ⟨o7, hS _ _ a5, a6⟩, o13, hS _ _ a7, a8⟩
theorem Caps.name {h : Hp} {b5 b6 b7 b13 : Nat} {what : Int} {fr to : ByteArray} (c : Caps h b5 b6 b7 b13 what fr to) (k : Int) (s : ByteArray) : PureAt Tryz.prog h 58 [I k, S s, ptrB b5, ptrB b6, ptrB b7] (S (nmR what fr to k s)) := by
  obtain ⟨⟨o5, a1, a2⟩, ⟨o6, a3, a4⟩, ⟨o7, a5, a6⟩, _⟩ := c
  exact rnm1_ok h b5 b6 b7 what fr to a1 a3 a5 a2 a4 a6 k s
end Go.Proofs.YtmalhikcdideoaaGreatDoor

set_option linter.unusedVariables false
set_option linter.unusedSimpArgs false
namespace Go.Proofs.YtmalhikcdideoaaGreatDoor
open Go Sl
attribute [local irreducible] XRange LpQ XR XRo XRg XRQ putQ XFv XL XW2 wQ putW X XO XOp XH XHo XW SeqQ BlkQ XOQ XHQ NrmQ XC XM XG XHM XHG XD CallK
open Go.RowKit
section
variable {α : Type} {enc : α → List AV} {P : Program} {N : Nat} {T : Nat → AV} {K : (Nat → AV) → Hp → Prop} {d : Option Tmp} {X Y : Operand} {t e : TypeId} {t' : TypeId} {p : String} {af : Array Edge} {gd : Option (Nat × Bool)} {by_ s : Nat} {z : List Value} {B g : Hp} {a0 : AV} {acc : List α} {x : α}
end
end Go.Proofs.YtmalhikcdideoaaGreatDoor

set_option linter.unusedVariables false
set_option linter.unusedSimpArgs false
namespace Go.Proofs.YtmalhikcdideoaaGreatDoor
open Go Sl
attribute [local irreducible] XRange LpQ XR XRo XRg XRQ putQ XFv XL XW2 wQ putW X XO XOp XH XHo XW SeqQ BlkQ XOQ XHQ NrmQ XC XM XG XHM XHG XD CallK
theorem vals_one {w : World} {h : Hp} {x : Value} {vals : Array Value} (ha : RdL w h [.v x] vals) : vals = #[x] := by
  obtain ⟨u, e, r⟩ := ha.2 0 _ rfl
  cases r
  have h1 := ha.1
  apply Array.ext
  · simpa using h1
  · intro i h2 h3
    match i, h3 with
    | 0, _ => rw [Array.getElem?_eq_getElem h2] at e; simpa using e
theorem tab_of {w : World} {h : Hp} (hh : RelH w h) : Lib.TabIs Tryz.prog w "internal/strconv.uint64pow10" .u64 Lib.pow10Tab := by
  obtain ⟨_, ⟨ty, fr, hc⟩, _⟩ := hh.glob (5, powL) (by simp [gl])
  have hg : Tryz.prog.globalNamed "internal/strconv.uint64pow10" = some 5 := by kernel_rfl
  have hc' : w.heap[5]? = some (Obj.cells powL.toArray ty fr) := hc
  unfold Lib.TabIs World.var?
  rw [hg, Option.bind_some, hc']
  rfl
theorem itoa_ok (n : Int) (h0 : -9223372036854775808 ≤ n) (h1 : n ≤ 9223372036854775807) : Pure Tryz.prog 73 [I n] (S ⟨(Lib.itoa n).toArray⟩) := by
  intro h
  unfold CallK
  intro w vals hh ha
  obtain rfl : vals = #[.int .i64 n] := vals_one ha
  refine (Any.strconv_Itoa Tryz.laysM171 n h0 h1 w (tab_of hh)).mono ?_
  rintro e w' ⟨rfl, k, os, rfl⟩
  have hb : ∀ b, b < w.heap.size → (Go.Sort.grow (w.drewN k) os).heap[b]? = w.heap[b]? := fun b hb => by
    have : (w.drewN k).heap = w.heap := rfl
    simp [Go.Sort.grow, this, Array.getElem?_append_left hb]
  have hs : w.heap.size ≤ (Go.Sort.grow (w.drewN k) os).heap.size := by
    have : (w.drewN k).heap = w.heap := rfl
    simp [Go.Sort.grow, this]
  exact ⟨_, _, h, rfl, ⟨rfl, rfl⟩, rfl, hh.grow hs hb, ⟨rfl, rfl, rfl⟩, Stp.grow hh hs hb⟩
def boolB (b : Bool) : ByteArray := if b then ⟨#[116, 114, 117, 101]⟩ else ⟨#[102, 97, 108, 115, 101]⟩
theorem fbool1_ok (b : Bool) : Pure Tryz.prog 136 [B b] (S (boolB b)) := by
  cases b
  · intro h; refine callK_body Tryz.func136 rfl (by rw [nt136]; simp) ?_; rw [nt136, rs136]
    ((repeat' (first | simp [go_sem, X_region, *] | simp (disch := omega) only [om, *] | ((first | refine XC_split ?_ ?_ | refine XG_true ?_ ?_ | refine XG_false ?_ ?_ | refine XRg_true ?_ ?_ | refine XRg_false ?_ ?_) <;> intro hc <;> (try simp only [bl] at hc) <;> (try (exfalso; omega))) | refine XD_w [] [] [] (fun _ => none) mixed (by decide +kernel) (sub_none _) ?_ | (intro bk hbk; (try simp only [go_sem] at hbk)))); all_goals (refine Wk.fin (by repeat (first | exact Sub.refl _ | refine Sub.upd (by simp [*]) ?_)) ?_; first | (simp [boolB, *]; done) | (simp only [boolB]; (repeat' (first | split | rfl | omega | (simp_all; done))); done) | (simp [boolB, *]; (repeat' (first | split | omega | (rw [Bool.eq_iff_iff]; simp; omega))); done) | (simp [boolB, *])))
  · intro h; refine callK_body Tryz.func136 rfl (by rw [nt136]; simp) ?_; rw [nt136, rs136]
    ((repeat' (first | simp [go_sem, X_region, *] | simp (disch := omega) only [om, *] | ((first | refine XC_split ?_ ?_ | refine XG_true ?_ ?_ | refine XG_false ?_ ?_ | refine XRg_true ?_ ?_ | refine XRg_false ?_ ?_) <;> intro hc <;> (try simp only [bl] at hc) <;> (try (exfalso; omega))) | refine XD_w [] [] [] (fun _ => none) mixed (by decide +kernel) (sub_none _) ?_ | (intro bk hbk; (try simp only [go_sem] at hbk)))); all_goals (refine Wk.fin (by repeat (first | exact Sub.refl _ | refine Sub.upd (by simp [*]) ?_)) ?_; first | (simp [boolB, *]; done) | (simp only [boolB]; (repeat' (first | split | rfl | omega | (simp_all; done))); done) | (simp [boolB, *]; (repeat' (first | split | omega | (rw [Bool.eq_iff_iff]; simp; omega))); done) | (simp [boolB, *])))
theorem fbool_ok (b : Bool) : Pure Tryz.prog 63 [B b] (S (boolB b)) := by
  intro h; refine callK_body Tryz.func63 rfl (by rw [nt63]; simp) ?_; rw [nt63, rs63]
  ((repeat' (first | simp [go_sem, X_region, *] | simp (disch := omega) only [om, *] | ((first | refine XC_split ?_ ?_ | refine XG_true ?_ ?_ | refine XG_false ?_ ?_ | refine XRg_true ?_ ?_ | refine XRg_false ?_ ?_) <;> intro hc <;> (try simp only [bl] at hc) <;> (try (exfalso; omega))) | refine XD_w [] [] [] (fun _ => none) mixed (by decide +kernel) (sub_none _) ?_ | refine Pure.call (fbool1_ok _) ?_ | refine ⟨_, Pure.at (fbool1_ok _), ?_⟩ | refine ⟨_, fbool1_ok _, ?_⟩ | refine PureAt.call (fbool1_ok _) ?_ | (intro bk hbk; (try simp only [go_sem] at hbk)))); all_goals (refine Wk.fin (by repeat (first | exact Sub.refl _ | refine Sub.upd (by simp [*]) ?_)) ?_; first | (simp [*]; done) | (simp only []; (repeat' (first | split | rfl | omega | (simp_all; done))); done) | (simp [*]; (repeat' (first | split | omega | (rw [Bool.eq_iff_iff]; simp; omega))); done) | (simp [*])))
end Go.Proofs.YtmalhikcdideoaaGreatDoor

set_option linter.unusedVariables false
set_option linter.unusedSimpArgs false
namespace Go.Proofs.YtmalhikcdideoaaGreatDoor
open Go Sl
attribute [local irreducible] XRange LpQ XR XRo XRg XRQ putQ XFv XL XW2 wQ putW X XO XOp XH XHo XW SeqQ BlkQ XOQ XHQ NrmQ XC XM XG XHM XHG XD CallK
open Go.RowKit
theorem rd_row_to {w : World} {h hF : Hp} {b s n : Nat} {o : Ob} {f : Nat → Nat → AV} {u : Value} (hs : Sub hF h) (hF0 : hF b = none) (hb : h b = some o) (h1 : o.s = s) (h2 : n ≤ o.n) (h3 : n ≤ 140737488355328) (hf : ∀ i, i < n → ∀ j, j < s → o.f i j = f i j) (hh : RelH w h) (hr : Rd w h (.row b s 0 n) u) : Rd w hF (.sl s n f) u := by
  obtain ⟨cap, hu, hle, hlt, _⟩ := hr
  subst h1
  refine ⟨some ⟨b, 0 * o.s, none⟩, cap, hu, hle, h3, fun _ => ⟨b, 0 * o.s, rfl, hF0, hlt, fun i hi j hj => ?_⟩⟩
  obtain ⟨c, hc, hn, hp, hcell⟩ := hh.cells hb (.inl (by omega))
  obtain ⟨y, hy, hy1, hyr⟩ := hcell i (by omega) j hj
  exact ⟨y, by simp only [World.cell?, hc]; simpa using hy, hy1, by rw [← hf i hi j hj]; exact hyr.step (stp_forget hs)⟩
/-- A call that is handed a literal's row, and forgets it. -/
theorem CallK.row2 {h : Hp} {f : FuncId} {k s n : Nat} {ob : Ob} {g : Nat → Nat → AV} {x : Value} {K : AV → Hp → Prop} (hk : h k = none) (h1 : ob.s = s) (h2 : ob.n = n) (h3 : n ≤ 140737488355328) (hf : ∀ i, i < n → ∀ j, j < s → ob.f i j = g i j)
    (c : CallK Tryz.prog h f [.v x, .sl s n g] K) : CallK Tryz.prog (upd h k (some ob)) f [.v x, .row k s 0 n] K := by
  have hs : Sub h (upd h k (some ob)) := fun c oc hc => by rw [upd_ne _ _ (fun e => by rw [e, hk] at hc; cases hc)]; exact hc
  unfold CallK at c ⊢
  intro w vals hh ha
  refine (c w vals (relH_forget hh hs) ⟨ha.1, fun i a hi => ?_⟩).mono ?_
  · match i, hi with
    | 0, hi =>
      obtain ⟨u, e, r⟩ := ha.2 0 _ rfl
      cases hi
      exact ⟨u, e, r⟩
    | 1, hi =>
      obtain ⟨u, e, r⟩ := ha.2 1 _ rfl
      cases hi
      exact ⟨u, e, rd_row_to hs hk (upd_same _ _ _) h1 (by omega) h3 hf hh r⟩
  · rintro e w' ⟨u, r, h', k1, k2, k3, k4, k5, k6⟩
    exact ⟨u, r, h', k1, k2, k3, k4, k5, (stp_forget hs).trans k6⟩
theorem Bld.alloc {h0 h : Hp} {b k : Nat} {l : List UInt8} {ob : Ob} (x : Bld h0 h b l) (hk : h k = none) : Bld h0 (upd h k (some ob)) b l := by
  obtain ⟨hb, o, h1, h2, h3⟩ := x
  exact ⟨hb, o, h1, h2, h3.alloc hk⟩
theorem Bld.weaken {h0 h1 h : Hp} {b : Nat} {l : List UInt8} (x : Bld h1 h b l) (hs : Sub h0 h1) : Bld h0 h b l := by
  obtain ⟨hb, o, e1, e2, e3⟩ := x
  have hs2 : Sub (upd h0 b (some o)) (upd h1 b (some o)) := fun c oc hc => by
    by_cases hcb : c = b
    · subst hcb; rw [upd_same] at hc ⊢; exact hc
    · rw [upd_ne _ _ hcb] at hc ⊢; exact hs c oc hc
  refine ⟨sub_none_of hs hb, o, e1, e2, fun c oc hc => e3.1 c oc (hs2 c oc hc), ?_⟩
  rcases e3.2 with h | ⟨g, og, k1, k2, k3⟩
  · exact .inl h
  · exact .inr ⟨g, og, k1, sub_none_of hs2 k2, k3⟩
def numsL : List Int → List UInt8
  | [] => []
  | n :: l => Lib.itoa n ++ [32] ++ numsL l
theorem rnum_ok {h0 h : Hp} {b : Nat} {s : List UInt8} (x : Bld h0 h b s) (l : List Int) (hlen : s.length + 22 * l.length ≤ 140737488355328) (hi : ∀ n ∈ l, -9223372036854775808 ≤ n ∧ n ≤ 9223372036854775807) :
    CallK Tryz.prog h 60 [ptrV b, encL 1 cI l] fun r h' => Bld h0 h' b (s ++ numsL l) := by
  refine callK_body Tryz.func60 rfl (by rw [nt60]; simp) ?_; rw [nt60, rs60]
  (repeat' (first | simp [go_sem, X_region, *] | simp (disch := omega) only [om, *] | ((first | refine XC_split ?_ ?_ | refine XG_true ?_ ?_ | refine XG_false ?_ ?_ | refine XRg_true ?_ ?_ | refine XRg_false ?_ ?_) <;> intro hc <;> (try simp only [bl] at hc) <;> (try (exfalso; omega))) | refine XD_w [] [] [] (fun _ => none) mixed (by decide +kernel) (sub_none _) ?_ | fail))
  obtain ⟨R, hR⟩ : ∃ R : List UInt8, s ++ numsL l = R := ⟨_, rfl⟩
  refine X_lpF (fun i => i = 5 ∨ (8 ≤ i ∧ i ≤ 17)) (fun n T h' => ∃ (i : Nat) (r : List Int) (acc : List UInt8), n = r.length ∧ i ≤ l.length ∧ l.drop i = r ∧ T 8 = I i ∧ Bld h0 h' b acc ∧ acc ++ numsL r = R ∧ acc.length + 22 * r.length ≤ 140737488355328) l.length
    ⟨0, l, s, rfl, by omega, rfl, by simp [go_sem], x, hR, hlen⟩ ?_
  clear x
  rintro J hJ n T h' hfr ⟨i, r, acc, rfl, hle, hd, h8, x, hacc, hal⟩
  rcases r with _ | ⟨y, r⟩
  · have hlt := drop_nil hd
    obtain rfl : i = l.length := by omega
    simp only [numsL, List.append_nil] at hacc
    subst hacc
    (repeat' (first | simp [go_sem, X_region, *] | simp (disch := omega) only [om, *] | ((first | refine XC_split ?_ ?_ | refine XG_true ?_ ?_ | refine XG_false ?_ ?_ | refine XRg_true ?_ ?_ | refine XRg_false ?_ ?_) <;> intro hc <;> (try simp only [bl] at hc) <;> (try (exfalso; omega))) | refine XD_w [] [] [] (fun _ => none) mixed (by decide +kernel) (sub_none _) ?_ | fail))
    exact ⟨_, _, Wk.refl _ _, x⟩
  · obtain ⟨hlt, hx, hd2⟩ := drop_cons hd
    have hy := hi y (by rw [← hx]; exact List.getElem_mem hlt)
    have hit := itoa_ok y hy.1 hy.2
    have hil := Lib.itoa_length_le y hy.1 hy.2
    (repeat' (first | simp [go_sem, X_region, *] | simp (disch := omega) only [om, *] | ((first | refine XC_split ?_ ?_ | refine XG_true ?_ ?_ | refine XG_false ?_ ?_ | refine XRg_true ?_ ?_ | refine XRg_false ?_ ?_) <;> intro hc <;> (try simp only [bl] at hc) <;> (try (exfalso; omega))) | refine XD_w [] [] [] (fun _ => none) mixed (by decide +kernel) (sub_none _) ?_ | refine Pure.call (hit) ?_ | refine ⟨_, Pure.at (hit), ?_⟩ | refine ⟨_, hit, ?_⟩ | refine PureAt.call (hit) ?_ | fail))
    have hsz : (({ data := (Lib.itoa y).toArray } : ByteArray) ++ ({ data := #[32] } : ByteArray)).data.toList = Lib.itoa y ++ [32] := by simp
    have hsz2 : (({ data := (Lib.itoa y).toArray } : ByteArray) ++ ({ data := #[32] } : ByteArray)).size = (Lib.itoa y).length + 1 := by
      refine (Array.length_toList.symm.trans (congrArg List.length hsz)).trans ?_
      simp
    simp only [List.length_cons] at hal
    refine (write_ok x _ (.inr (by rw [hsz]; simp)) (by rw [hsz2]; omega)).mono ?_
    rintro r1 h1 x1
    rw [hsz] at x1
    refine ⟨_, Nat.lt_succ_self _, hJ.out _ _ _ ⟨(by (repeat (refine fr_upd (by decide) ?_)); exact hfr), i + 1, r, _, rfl, by omega, hd2, by simp [go_sem], x1, ?_, ?_⟩⟩
    · rw [← hacc]; simp [numsL]
    · simp only [List.length_append, List.length_cons, List.length_nil]; omega
theorem num_lit {h0 h : Hp} {b k : Nat} {s : List UInt8} {ob : Ob} (x : Bld h0 h b s) (l : List Int) (hlen : s.length + 22 * l.length ≤ 140737488355328) (hi : ∀ n ∈ l, -9223372036854775808 ≤ n ∧ n ≤ 9223372036854775807) (hk : h k = none) (h1 : ob.s = 1) (h2 : ob.n = l.length) (hf : ob.f = fun i j => ((l.map fun x (_ : Nat) => I x)[i]?.getD fun _ => .any) j) :
    CallK Tryz.prog (upd h k (some ob)) 60 [ptrV b, .row k 1 0 l.length] fun r h' => Bld h0 h' b (s ++ numsL l) := by
  refine CallK.row2 hk h1 h2 (by omega) (fun i hi j hj => ?_) (rnum_ok x l hlen hi)
  obtain rfl : j = 0 := by omega
  rw [hf]
  simp [hi, cI, cellsL]
end Go.Proofs.YtmalhikcdideoaaGreatDoor

set_option linter.unusedVariables false
set_option linter.unusedSimpArgs false
namespace Go.Proofs.YtmalhikcdideoaaGreatDoor
open Go Sl
attribute [local irreducible] XRange LpQ XR XRo XRg XRQ putQ XFv XL XW2 wQ putW X XO XOp XH XHo XW SeqQ BlkQ XOQ XHQ NrmQ XC XM XG XHM XHG XD CallK
open Go.RowKit
def stepsL : List (Int × Int) → List UInt8
  | [] => []
  | x :: l => numsL [x.1, x.2] ++ stepsL l
def wholeL (t : Tb) : List UInt8 := numsL [t.name.size, t.fr, t.to] ++ (t.name ++ boolB t.sl).data.toList ++ stepsL t.steps
theorem numsL_len : ∀ (l : List Int), (∀ n ∈ l, -9223372036854775808 ≤ n ∧ n ≤ 9223372036854775807) → (numsL l).length ≤ 22 * l.length
  | [], _ => by simp [numsL]
  | n :: l, h => by
    have h1 := Lib.itoa_length_le n (h n (by simp)).1 (h n (by simp)).2
    have h2 := numsL_len l fun x hx => h x (by simp [hx])
    simp only [numsL, List.length_append, List.length_cons, List.length_nil]
    omega
theorem whole_ok (t : Tb) (hn : t.name.size ≤ 1000000000000) (hs : t.steps.length ≤ 1000000000000) (h1 : i64B t.fr) (h2 : i64B t.to) (h3 : ∀ x ∈ t.steps, i64B x.1 ∧ i64B x.2) : Pure Tryz.prog 64 [encTbA t] (S (bOf (wholeL t))) := by
  obtain ⟨nm, fr, to, sl, steps⟩ := t
  dsimp only at hn hs h1 h2 h3
  have hb := fbool_ok sl
  have hbs : (boolB sl).data.toList.length ≤ 5 := by cases sl <;> decide
  have hbs' : (boolB sl).size ≤ 5 := hbs
  intro h; refine callK_body Tryz.func64 rfl (by rw [nt64]; simp) ?_; rw [nt64, rs64]
  (repeat' (first | simp [go_sem, X_region, *] | simp (disch := omega) only [om, *] | ((first | refine XC_split ?_ ?_ | refine XG_true ?_ ?_ | refine XG_false ?_ ?_ | refine XRg_true ?_ ?_ | refine XRg_false ?_ ?_) <;> intro hc <;> (try simp only [bl] at hc) <;> (try (exfalso; omega))) | refine XD_w [] [] [] (fun _ => none) mixed (by decide +kernel) (sub_none _) ?_ | fail))
  intro b1 hb1 b2 n1 n2 hb2
  (repeat' (first | simp [go_sem, X_region, *] | simp (disch := omega) only [om, *] | ((first | refine XC_split ?_ ?_ | refine XG_true ?_ ?_ | refine XG_false ?_ ?_ | refine XRg_true ?_ ?_ | refine XRg_false ?_ ?_) <;> intro hc <;> (try simp only [bl] at hc) <;> (try (exfalso; omega))) | refine XD_w [] [] [] (fun _ => none) mixed (by decide +kernel) (sub_none _) ?_ | fail))
  have hb2' : upd h b1 (some ⟨43, 5, 1, fun x j => [S nm, I fr, I to, B sl, AV.sl 2 steps.length (cellsL cSt steps)][j]?.getD AV.any⟩) b2 = none := by rw [upd_ne _ _ n1]; exact hb2
  have kb1 : upd h b1 (some ⟨43, 5, 1, fun x j => [S nm, I fr, I to, B sl, AV.sl 2 steps.length (cellsL cSt steps)][j]?.getD AV.any⟩) b1 = some ⟨43, 5, 1, fun x j => [S nm, I fr, I to, B sl, AV.sl 2 steps.length (cellsL cSt steps)][j]?.getD AV.any⟩ := upd_same _ _ _
  have hsub0 : Sub h (upd h b1 (some ⟨43, 5, 1, fun x j => [S nm, I fr, I to, B sl, AV.sl 2 steps.length (cellsL cSt steps)][j]?.getD AV.any⟩)) := fun c oc hc => by rw [upd_ne _ _ (ne_free hb1 hc).2]; exact hc
  intro b3 m1 m2 m3 m4 hb3
  have hb3' : upd (upd h b1 (some ⟨43, 5, 1, fun x j => [S nm, I fr, I to, B sl, AV.sl 2 steps.length (cellsL cSt steps)][j]?.getD AV.any⟩)) b2 (some ⟨109, 2, 1, fun x j => AV.v ([Value.pointer none, Value.slice none 0 0][j]?.getD undef)⟩) b3 = none := by rw [upd_ne _ _ m1, upd_ne _ _ m3]; exact hb3
  generalize upd h b1 (some ⟨43, 5, 1, fun x j => [S nm, I fr, I to, B sl, AV.sl 2 steps.length (cellsL cSt steps)][j]?.getD AV.any⟩) = H1 at *
  have x0 : Bld H1 (upd H1 b2 (some ⟨109, 2, 1, fun x j => AV.v ([Value.pointer none, Value.slice none 0 0][j]?.getD undef)⟩)) b2 [] := ⟨hb2', _, ⟨rfl, rfl, rfl, .inl rfl⟩, fun _ => rfl, Own.none⟩
  have hin : ∀ n ∈ [(nm.size : Int), fr, to], -9223372036854775808 ≤ n ∧ n ≤ 9223372036854775807 := by
    simp only [List.mem_cons, List.not_mem_nil, or_false]
    rintro n (rfl | rfl | rfl)
    · exact ⟨by omega, by omega⟩
    · exact h1
    · exact h2
  have hnl := numsL_len _ hin
  simp only [List.length_cons, List.length_nil] at hnl
  refine CallK.mono (num_lit x0 [(nm.size : Int), fr, to] (by simp) hin hb3' rfl rfl rfl) ?_
  rintro r1 g1 x1
  have kg1 := x1.sub _ _ kb1
  rw [List.nil_append] at x1
  refine XD_w [] [1, 3] [6] H1 mixed (by decide +kernel) x1.sub ?_
  (repeat' (first | simp [go_sem, X_region, *] | simp (disch := omega) only [om, *] | ((first | refine XC_split ?_ ?_ | refine XG_true ?_ ?_ | refine XG_false ?_ ?_ | refine XRg_true ?_ ?_ | refine XRg_false ?_ ?_) <;> intro hc <;> (try simp only [bl] at hc) <;> (try (exfalso; omega))) | refine XD_w [] [] [] (fun _ => none) mixed (by decide +kernel) (sub_none _) ?_ | refine Pure.call (hb) ?_ | refine ⟨_, Pure.at (hb), ?_⟩ | refine ⟨_, hb, ?_⟩ | refine PureAt.call (hb) ?_ | fail))
  have hnb' : (nm ++ boolB sl).size = nm.size + (boolB sl).size := ByteArray.size_append
  have hnb : (nm ++ boolB sl).data.toList.length = nm.size + (boolB sl).size := hnb'
  have hbp : 0 < (boolB sl).size := by cases sl <;> decide
  refine (write_ok x1 (nm ++ boolB sl) (.inr (fun e => by rw [e] at hnb; simp at hnb; omega)) (by omega)).mono ?_
  rintro r2 g2 x2
  have kg2 := x2.sub _ _ kb1
  refine ⟨fun _ => x2.sub, ?_⟩
  (repeat' (first | simp [go_sem, X_region, *] | simp (disch := omega) only [om, *] | ((first | refine XC_split ?_ ?_ | refine XG_true ?_ ?_ | refine XG_false ?_ ?_ | refine XRg_true ?_ ?_ | refine XRg_false ?_ ?_) <;> intro hc <;> (try simp only [bl] at hc) <;> (try (exfalso; omega))) | refine XD_w [] [] [] (fun _ => none) mixed (by decide +kernel) (sub_none _) ?_ | fail))
  obtain ⟨R, hR⟩ : ∃ R : List UInt8, numsL [(nm.size : Int), fr, to] ++ (nm ++ boolB sl).data.toList ++ stepsL steps = R := ⟨_, rfl⟩
  have hR2 : wholeL ⟨nm, fr, to, sl, steps⟩ = R := hR
  rw [hR2]
  clear hR2
  have hl2 : (numsL [(nm.size : Int), fr, to] ++ (nm ++ boolB sl).data.toList).length + 44 * steps.length ≤ 140737488355328 := by rw [List.length_append, hnb]; omega
  generalize numsL [(nm.size : Int), fr, to] ++ (nm ++ boolB sl).data.toList = acc0 at *
  clear x1 x0 kg1
  refine X_lpF (fun i => i = 5 ∨ (25 ≤ i ∧ i ≤ 35)) (fun n T h' => ∃ (i : Nat) (r : List (Int × Int)) (acc : List UInt8), n = r.length ∧ i ≤ steps.length ∧ steps.drop i = r ∧ T 25 = I i ∧ Bld H1 h' b2 acc ∧ acc ++ stepsL r = R ∧ acc.length + 44 * r.length ≤ 140737488355328) steps.length
    ⟨0, steps, acc0, rfl, by omega, rfl, by simp [go_sem], x2, hR, hl2⟩ ?_
  clear x2 kg2 hl2 hR
  rintro J hJ n T g hfr ⟨i, r, acc, rfl, hle, hd, h25, x, hacc, hal⟩
  rcases r with _ | ⟨y, r⟩
  · have hlt := drop_nil hd
    obtain rfl : i = steps.length := by omega
    simp only [stepsL, List.append_nil] at hacc
    subst hacc
    (repeat' (first | simp [go_sem, X_region, *] | simp (disch := omega) only [om, *] | ((first | refine XC_split ?_ ?_ | refine XG_true ?_ ?_ | refine XG_false ?_ ?_ | refine XRg_true ?_ ?_ | refine XRg_false ?_ ?_) <;> intro hc <;> (try simp only [bl] at hc) <;> (try (exfalso; omega))) | refine XD_w [] [] [] (fun _ => none) mixed (by decide +kernel) (sub_none _) ?_ | fail))
    refine (string_ok x (by omega)).mono ?_
    rintro r1 h1 ⟨rfl, rfl⟩
    exact Wk.drop _ hsub0
  · obtain ⟨hlt, hx, hd2⟩ := drop_cons hd
    have hy := h3 y (by rw [← hx]; exact List.getElem_mem hlt)
    (repeat' (first | simp [go_sem, X_region, *] | simp (disch := omega) only [om, *] | ((first | refine XC_split ?_ ?_ | refine XG_true ?_ ?_ | refine XG_false ?_ ?_ | refine XRg_true ?_ ?_ | refine XRg_false ?_ ?_) <;> intro hc <;> (try simp only [bl] at hc) <;> (try (exfalso; omega))) | refine XD_w [] [] [] (fun _ => none) mixed (by decide +kernel) (sub_none _) ?_ | fail))
    intro b4 hb4 b5 k1 k2 hb5
    have x4 := x.alloc (ob := ⟨128, 2, 1, fun i' j' => if i' = 0 ∧ j' < 2 then [I y.fst, I y.snd][j']?.getD AV.any else AV.v ([Value.int IntKind.i64 0, Value.int IntKind.i64 0][j']?.getD undef)⟩) hb4
    have hin2 : ∀ n ∈ [y.1, y.2], -9223372036854775808 ≤ n ∧ n ≤ 9223372036854775807 := by
      simp only [List.mem_cons, List.not_mem_nil, or_false]
      rintro n (rfl | rfl)
      · exact hy.1
      · exact hy.2
    have hnl2 := numsL_len _ hin2
    simp only [List.length_cons, List.length_nil] at hnl2 hal
    refine CallK.mono (num_lit x4 [y.1, y.2] (by simp only [List.length_cons, List.length_nil]; omega) hin2 (by rw [upd_ne _ _ k1]; exact hb5) rfl rfl rfl) ?_
    rintro r5 g5 x5
    refine ⟨_, Nat.lt_succ_self _, hJ.out _ _ _ ⟨(by (repeat (refine fr_upd (by decide) ?_)); exact hfr), i + 1, r, _, rfl, by omega, hd2, by simp [go_sem], x5, ?_, ?_⟩⟩
    · rw [← hacc]; simp [stepsL]
    · simp only [List.length_append]; omega
end Go.Proofs.YtmalhikcdideoaaGreatDoor

set_option linter.unusedVariables false
set_option linter.unusedSimpArgs false
namespace Go.Proofs.YtmalhikcdideoaaGreatDoor
open Go Sl
attribute [local irreducible] XRange LpQ XR XRo XRg XRQ putQ XFv XL XW2 wQ putW X XO XOp XH XHo XW SeqQ BlkQ XOQ XHQ NrmQ XC XM XG XHM XHG XD CallK
open Go.RowKit
/-- A node as text; an expression. -/
def showN (x : Nd) : List UInt8 := numsL [x.op, x.kd, x.n, x.nm.size, x.kids.length] ++ x.nm.data.toList ++ numsL x.kids ++ [59]
def showE : List Nd → List UInt8
  | [] => []
  | x :: r => showN x ++ showE r
end Go.Proofs.YtmalhikcdideoaaGreatDoor

set_option linter.unusedVariables false
set_option linter.unusedSimpArgs false
namespace Go.Proofs.YtmalhikcdideoaaGreatDoor
open Go Sl
attribute [local irreducible] XRange LpQ XR XRo XRg XRQ putQ XFv XL XW2 wQ putW X XO XOp XH XHo XW SeqQ BlkQ XOQ XHQ NrmQ XC XM XG XHM XHG XD CallK
open Go.RowKit
theorem bld_with {h0 h : Hp} {b k : Nat} {l : List UInt8} {ob : Ob} (x : Bld h0 h b l) (hk : h k = none) : Bld (upd h0 k (some ob)) (upd h k (some ob)) b l := by
  have hsub := x.sub
  obtain ⟨hb, o, h1, h2, h3⟩ := x
  have hob := h3.1 b o (upd_same _ _ _)
  have hbk : b ≠ k := fun e => by rw [e, hk] at hob; cases hob
  refine ⟨by rw [upd_ne _ _ hbk]; exact hb, o, h1, h2, ?_⟩
  have h4 := own_with (oc := ob) h3 hk
  have h5 : upd (upd h0 b (some o)) k (some ob) = upd (upd h0 k (some ob)) b (some o) := by
    funext c
    by_cases hc : c = k
    · subst hc; simp [upd, Ne.symm hbk]
    · by_cases hc2 : c = b
      · subst hc2; simp [upd, hbk]
      · simp [upd, hc, hc2]
  rw [h5] at h4
  exact h4
set_option maxHeartbeats 4000000 in
theorem shown_ok (e : List Nd) (he : e.length ≤ 1048576) (hn : ∀ x ∈ e, x.nm.size ≤ 1048576 ∧ x.kids.length ≤ 1048576 ∧ i64B x.op ∧ i64B x.kd ∧ i64B x.n ∧ ∀ k ∈ x.kids, i64B k) : Pure Tryz.prog 139 [encL 5 cNd e] (S (bOf (showE e))) := by
  obtain ⟨R, hR⟩ : ∃ R, showE e = R := ⟨_, rfl⟩
  rw [hR]
  intro h; refine CallK.lens fun hlen => ?_; have hlen := (hlen _ (by simp only [List.mem_cons, true_or, or_true] : (encL 5 cNd e) ∈ _)).encL; refine callK_body Tryz.func139 rfl (by rw [nt139]; simp) ?_; rw [nt139, rs139]
  (repeat' (first | simp [go_sem, X_region, *] | simp (disch := omega) only [om, *] | ((first | refine XC_split ?_ ?_ | refine XG_true ?_ ?_ | refine XG_false ?_ ?_ | refine XRg_true ?_ ?_ | refine XRg_false ?_ ?_) <;> intro hc <;> (try simp only [bl] at hc) <;> (try (exfalso; omega))) | refine XD_w [] [] [] (fun _ => none) mixed (by decide +kernel) (sub_none _) ?_ | fail))
  intro b3 hb3
  refine X_lpF (fun i => i = 5 ∨ (8 ≤ i ∧ i ≤ 33)) (fun n T g => ∃ (i : Nat) (r : List Nd) (acc : List UInt8), n = r.length ∧ i ≤ e.length ∧ e.drop i = r ∧ acc ++ showE r = R ∧ T 8 = I i ∧ Bld h g b3 acc ∧ acc.length + 25000000 * r.length ≤ 140737488355328) e.length
    ⟨0, e, [], rfl, by omega, rfl, hR, by simp [go_sem], Bld.fresh hb3, by simp; omega⟩ ?_
  clear hR
  rintro J hJ n T g hfr ⟨i, r, acc, rfl, hi, hd, hR, t8, x, hal⟩
  rcases r with _ | ⟨y, r⟩
  · have hlt := drop_nil hd
    simp only [showE, List.append_nil] at hR
    subst hR
    (repeat' (first | simp [go_sem, X_region, *] | simp (disch := omega) only [om, *] | ((first | refine XC_split ?_ ?_ | refine XG_true ?_ ?_ | refine XG_false ?_ ?_ | refine XRg_true ?_ ?_ | refine XRg_false ?_ ?_) <;> intro hc <;> (try simp only [bl] at hc) <;> (try (exfalso; omega))) | refine XD_w [] [] [] (fun _ => none) mixed (by decide +kernel) (sub_none _) ?_ | fail))
    refine (string_ok x (by omega)).mono ?_
    rintro r1 h1 ⟨rfl, rfl⟩
    exact Wk.refl _ _
  · obtain ⟨hlt, hx, hd2⟩ := drop_cons hd
    obtain ⟨e1, e2, e3, e4, e5, e6⟩ := hn y (by rw [← hx]; exact List.getElem_mem hlt)
    simp only [List.length_cons] at hal
    (repeat' (first | simp [go_sem, X_region, *] | simp (disch := omega) only [om, *] | ((first | refine XC_split ?_ ?_ | refine XG_true ?_ ?_ | refine XG_false ?_ ?_ | refine XRg_true ?_ ?_ | refine XRg_false ?_ ?_) <;> intro hc <;> (try simp only [bl] at hc) <;> (try (exfalso; omega))) | refine XD_w [] [] [] (fun _ => none) mixed (by decide +kernel) (sub_none _) ?_ | fail))
    intro b5 hb5
    have xw := bld_with (ob := ⟨65, 5, 1, fun i' j' => if i' = 0 ∧ j' < 5 then [I y.op, AV.sl 1 y.kids.length (cellsL cI y.kids), I y.kd, I y.n, S y.nm][j']?.getD AV.any else AV.v ([Value.int IntKind.i64 0, Value.slice none 0 0, Value.int IntKind.i64 0, Value.int IntKind.i64 0, Value.string ⟨#[]⟩][j']?.getD undef)⟩) x hb5
    have k5 : ∀ {g' : Hp} {l : List UInt8}, Bld (upd h b5 (some ⟨65, 5, 1, fun i' j' => if i' = 0 ∧ j' < 5 then [I y.op, AV.sl 1 y.kids.length (cellsL cI y.kids), I y.kd, I y.n, S y.nm][j']?.getD AV.any else AV.v ([Value.int IntKind.i64 0, Value.slice none 0 0, Value.int IntKind.i64 0, Value.int IntKind.i64 0, Value.string ⟨#[]⟩][j']?.getD undef)⟩)) g' b3 l → g' b5 = some ⟨65, 5, 1, fun i' j' => if i' = 0 ∧ j' < 5 then [I y.op, AV.sl 1 y.kids.length (cellsL cI y.kids), I y.kd, I y.n, S y.nm][j']?.getD AV.any else AV.v ([Value.int IntKind.i64 0, Value.slice none 0 0, Value.int IntKind.i64 0, Value.int IntKind.i64 0, Value.string ⟨#[]⟩][j']?.getD undef)⟩ := fun w => w.sub b5 _ (upd_same _ _ _)
    (repeat' (first | simp [go_sem, X_region, *] | simp (disch := omega) only [om, *] | ((first | refine XC_split ?_ ?_ | refine XG_true ?_ ?_ | refine XG_false ?_ ?_ | refine XRg_true ?_ ?_ | refine XRg_false ?_ ?_) <;> intro hc <;> (try simp only [bl] at hc) <;> (try (exfalso; omega))) | refine XD_w [] [] [] (fun _ => none) mixed (by decide +kernel) (sub_none _) ?_ | fail))
    intro bl hl1 hl2 hbl
    have hin5 : ∀ n ∈ [y.op, y.kd, y.n, (y.nm.size : Int), (y.kids.length : Int)], -9223372036854775808 ≤ n ∧ n ≤ 9223372036854775807 := by
      simp only [List.mem_cons, List.not_mem_nil, or_false]
      rintro n (rfl | rfl | rfl | rfl | rfl)
      · exact e3
      · exact e4
      · exact e5
      · exact ⟨by omega, by omega⟩
      · exact ⟨by omega, by omega⟩
    have hnl := numsL_len _ hin5
    have hnk := numsL_len y.kids e6
    simp only [List.length_cons, List.length_nil] at hnl
    have hnm : y.nm.data.toList.length = y.nm.size := Array.length_toList
    refine CallK.mono (num_lit xw [y.op, y.kd, y.n, (y.nm.size : Int), (y.kids.length : Int)] (by simp only [List.length_cons, List.length_nil]; omega) hin5 (by rw [upd_ne _ _ hl1]; exact hbl) rfl rfl rfl) ?_
    have hne : acc ++ numsL [y.op, y.kd, y.n, (y.nm.size : Int), (y.kids.length : Int)] ≠ [] := by simp [numsL]
    have hN : showN y = numsL [y.op, y.kd, y.n, (y.nm.size : Int), (y.kids.length : Int)] ++ y.nm.data.toList ++ numsL y.kids ++ [59] := rfl
    generalize numsL [y.op, y.kd, y.n, (y.nm.size : Int), (y.kids.length : Int)] = N5 at *
    rintro r1 g1 x1
    have q1 := k5 x1
    clear xw hin5
    (repeat' (first | simp [go_sem, X_region, *] | simp (disch := omega) only [om, *] | ((first | refine XC_split ?_ ?_ | refine XG_true ?_ ?_ | refine XG_false ?_ ?_ | refine XRg_true ?_ ?_ | refine XRg_false ?_ ?_) <;> intro hc <;> (try simp only [bl] at hc) <;> (try (exfalso; omega))) | refine XD_w [] [] [] (fun _ => none) mixed (by decide +kernel) (sub_none _) ?_ | fail))
    refine (write_ok x1 y.nm (.inl hne) (by rw [List.length_append]; omega)).mono ?_
    rintro r2 g2 x2
    have q2 := k5 x2
    clear q1 x1
    (repeat' (first | simp [go_sem, X_region, *] | simp (disch := omega) only [om, *] | ((first | refine XC_split ?_ ?_ | refine XG_true ?_ ?_ | refine XG_false ?_ ?_ | refine XRg_true ?_ ?_ | refine XRg_false ?_ ?_) <;> intro hc <;> (try simp only [bl] at hc) <;> (try (exfalso; omega))) | refine XD_w [] [] [] (fun _ => none) mixed (by decide +kernel) (sub_none _) ?_ | fail))
    refine (rnum_ok x2 y.kids (by simp only [List.length_append]; omega) e6).mono ?_
    rintro r3 g3 x3
    clear q2 x2
    (repeat' (first | simp [go_sem, X_region, *] | simp (disch := omega) only [om, *] | ((first | refine XC_split ?_ ?_ | refine XG_true ?_ ?_ | refine XG_false ?_ ?_ | refine XRg_true ?_ ?_ | refine XRg_false ?_ ?_) <;> intro hc <;> (try simp only [bl] at hc) <;> (try (exfalso; omega))) | refine XD_w [] [] [] (fun _ => none) mixed (by decide +kernel) (sub_none _) ?_ | fail))
    refine (write_ok x3 ⟨#[59]⟩ (.inr (by simp)) (by simp only [List.length_append]; show _ + 1 ≤ _; omega)).mono ?_
    rintro r4 g4 x4
    clear x3
    have h5 : h b5 = none := sub_none_of x.sub hb5
    (repeat' (first | simp [go_sem, X_region, *] | simp (disch := omega) only [om, *] | ((first | refine XC_split ?_ ?_ | refine XG_true ?_ ?_ | refine XG_false ?_ ?_ | refine XRg_true ?_ ?_ | refine XRg_false ?_ ?_) <;> intro hc <;> (try simp only [bl] at hc) <;> (try (exfalso; omega))) | refine XD_w [] [] [] (fun _ => none) mixed (by decide +kernel) (sub_none _) ?_ | fail))
    exact ⟨_, Nat.lt_succ_self _, hJ.out _ _ _ ⟨(by (repeat (refine fr_upd (by decide) ?_)); exact hfr), i + 1, r, _, rfl, by omega, hd2, by rw [← hR, showE, hN]; simp, by simp [go_sem], x4.weaken (Sub.upd h5 (Sub.refl _)), by simp only [List.length_append]; show _ + 1 + _ ≤ _; omega⟩⟩
end Go.Proofs.YtmalhikcdideoaaGreatDoor
