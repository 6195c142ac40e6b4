/- PROVED: mootlaw2.ScopeFinds (the second form's row, and its tied card). Conditions: what the row itself asks (the listed variables of Go's library read as listed; what is read is of bulk at most 1048576). -/
import Derived.Test.YtmalhikcdideoaaGreatDoorF5
import Derived.Test.YtmalhikcdideoaaGreatDoorRows
import Derived.JoinedCond
import Derived.KernelRfl
import Derived.Test.YtmalhikcdideoaaGreatDoorFactsB
import Derived.WalkKit
import Derived.ProofKit
import Derived.OpenShut
import Derived.ChangeArms
import Derived.MakeChecks
import Derived.Test.YtmalhikcdideoaaGreatDoorF4
import Derived.Test.YtmalhikcdideoaaGreatDoorCards
import Derived.Test.YtmalhikcdideoaaGreatDoorTie
import Derived.LaidMore
import Derived.Lay
import Derived.ShutString
import Derived.ChangeOld
import Derived.Below
import Derived.SizedLaws
import Derived.SevenTiedAt
import Derived.Deep.DeepHandedRow
set_option linter.unusedVariables false
set_option linter.unusedSimpArgs false
namespace Go.Proofs.YtmalhikcdideoaaGreatDoor
open Go Sl
attribute [local irreducible] XRange LpQ XR XRo XRg XRQ putQ XFv XL XW2 wQ putW X XO XOp XH XHo XW SeqQ BlkQ XOQ XHQ NrmQ XC XM XG XHM XHG XD CallK
open Go.RowKit
/-- Two captured maps that grow. -/
structure Um (h g : Hp) (c1 c2 m1 m2 : Nat) (l1 l2 : List ByteArray) : Prop where
  sub : Sub h g
  z : h c1 = none ∧ h c2 = none ∧ h m1 = none ∧ h m2 = none
  ne : m1 ≠ m2 ∧ c1 ≠ m1 ∧ c1 ≠ m2 ∧ c2 ≠ m1 ∧ c2 ≠ m2
  p : ∃ o, g c1 = some o ∧ o.s = 1 ∧ o.n = 1 ∧ o.f 0 0 = .v (.map (some m1))
  q : ∃ o, g c2 = some o ∧ o.s = 1 ∧ o.n = 1 ∧ o.f 0 0 = .v (.map (some m2))
  a : ∃ o, g m1 = some o ∧ SetM S l1 o
  b : ∃ o, g m2 = some o ∧ SetM S l2 o
section
variable {h0 h g g' : Hp} {c1 c2 m1 m2 : Nat} {l1 l2 : List ByteArray}
theorem Um.grow (d : Um h g c1 c2 m1 m2 l1 l2) (hS : Sub g g') : Um h g' c1 c2 m1 m2 l1 l2 := by
  obtain ⟨h1, h2, h3, ⟨o3, e1, e2⟩, ⟨o4, f1, f2⟩, ⟨o1, a1, a2⟩, o2, b1, b2⟩ := d
  exact ⟨h1.trans hS, h2, h3, ⟨o3, hS _ _ e1, e2⟩, ⟨o4, hS _ _ f1, f2⟩, ⟨o1, hS _ _ a1, a2⟩, o2, hS _ _ b1, b2⟩
theorem Um.insA {o : Ob} {k : ByteArray} (d : Um h g c1 c2 m1 m2 l1 l2) (ho : SetM S (l1 ++ [k]) o) : Um h (upd g m1 (some o)) c1 c2 m1 m2 (l1 ++ [k]) l2 := by
  obtain ⟨h1, h2, h3, ⟨o3, e1, e2⟩, ⟨o4, f1, f2⟩, _, o2, b1, b2⟩ := d
  exact ⟨sub_own h1 h2.2.2.1, h2, h3, ⟨o3, by rw [upd_ne _ _ h3.2.1]; exact e1, e2⟩, ⟨o4, by rw [upd_ne _ _ h3.2.2.2.1]; exact f1, f2⟩, ⟨o, upd_same _ _ _, ho⟩, o2, by rw [upd_ne _ _ (Ne.symm h3.1)]; exact b1, b2⟩
theorem Um.insB {o : Ob} {k : ByteArray} (d : Um h g c1 c2 m1 m2 l1 l2) (ho : SetM S (l2 ++ [k]) o) : Um h (upd g m2 (some o)) c1 c2 m1 m2 l1 (l2 ++ [k]) := by
  obtain ⟨h1, h2, h3, ⟨o3, e1, e2⟩, ⟨o4, f1, f2⟩, ⟨o1, a1, a2⟩, _⟩ := d
  exact ⟨sub_own h1 h2.2.2.2, h2, h3, ⟨o3, by rw [upd_ne _ _ h3.2.2.1]; exact e1, e2⟩, ⟨o4, by rw [upd_ne _ _ h3.2.2.2.2]; exact f1, f2⟩, ⟨o1, by rw [upd_ne _ _ h3.1]; exact a1, a2⟩, o, upd_same _ _ _, ho⟩
theorem Um.with_ {c : Nat} {o : Ob} (d : Um h g c1 c2 m1 m2 l1 l2) (hc : g c = none) : Um (upd h c (some o)) (upd g c (some o)) c1 c2 m1 m2 l1 l2 := by
  have d' := d.grow (Sub.upd (o := o) hc (Sub.refl _))
  obtain ⟨o1, a1, _⟩ := d.p
  obtain ⟨o2, a2, _⟩ := d.q
  obtain ⟨o3, a3, _⟩ := d.a
  obtain ⟨o4, a4, _⟩ := d.b
  refine ⟨sub_with d.sub, ⟨?_, ?_, ?_, ?_⟩, d.ne, d'.p, d'.q, d'.a, d'.b⟩
  · rw [upd_ne _ _ (ne_free hc a1).2]; exact d.z.1
  · rw [upd_ne _ _ (ne_free hc a2).2]; exact d.z.2.1
  · rw [upd_ne _ _ (ne_free hc a3).2]; exact d.z.2.2.1
  · rw [upd_ne _ _ (ne_free hc a4).2]; exact d.z.2.2.2
theorem Um.up (d : Um h g c1 c2 m1 m2 l1 l2) (hS : Sub h0 h) : Um h0 g c1 c2 m1 m2 l1 l2 :=
  ⟨hS.trans d.sub, ⟨sub_none_of hS d.z.1, sub_none_of hS d.z.2.1, sub_none_of hS d.z.2.2.1, sub_none_of hS d.z.2.2.2⟩, d.ne, d.p, d.q, d.a, d.b⟩
end
section
variable {B g : Hp} {c1 c2 m1 m2 : Nat} {l1 l2 : List ByteArray}
set_option maxHeartbeats 8000000 in
theorem unus1_ok (d : Um B g c1 c2 m1 m2 l1 l2) (r : Rf) (x : Arx) (hx : okP (r, x)) :
    CallK Tryz.prog g 87 [eRf r, aggL (cArx x), ptrB c1, ptrB c2] fun _ g' => Um B g' c1 c2 m1 m2 (l1 ++ nmA x) (l2 ++ nmT x) := by
  have hn := snames_ok x hx.1 hx.2.1
  have hA := nmA_len x hx
  have hT := nmT_len x hx
  generalize nmA x = LA at *
  generalize nmT x = LT at *
  obtain ⟨R1, hR1⟩ : ∃ R1, l1 ++ LA = R1 := ⟨_, rfl⟩
  obtain ⟨R2, hR2⟩ : ∃ R2, l2 ++ LT = R2 := ⟨_, rfl⟩
  rw [hR1, hR2]
  replace hR1 : Hid (l1 ++ LA = R1) := ⟨hR1⟩
  replace hR2 : Hid (l2 ++ LT = R2) := ⟨hR2⟩
  obtain ⟨nm, tg, cond, thn, over, wt⟩ := x
  obtain ⟨ra, rn⟩ := r
  refine callK_body Tryz.func87 rfl (by rw [nt87]; simp) ?_; rw [nt87, rs87]
  (repeat' (first | simp [go_sem, X_region, *] | simp (disch := omega) only [om, *] | ((first | refine XC_split ?_ ?_ | refine XG_true ?_ ?_ | refine XG_false ?_ ?_ | refine XRg_true ?_ ?_ | refine XRg_false ?_ ?_) <;> intro hc <;> (try simp only [bl] at hc) <;> (try (exfalso; omega))) | refine XD_w [] [] [] (fun _ => none) mixed (by decide +kernel) (sub_none _) ?_ | fail))
  intro b1 hb1
  (repeat' (first | simp [go_sem, X_region, *] | simp (disch := omega) only [om, *] | ((first | refine XC_split ?_ ?_ | refine XG_true ?_ ?_ | refine XG_false ?_ ?_ | refine XRg_true ?_ ?_ | refine XRg_false ?_ ?_) <;> intro hc <;> (try simp only [bl] at hc) <;> (try (exfalso; omega))) | refine XD_w [] [] [] (fun _ => none) mixed (by decide +kernel) (sub_none _) ?_ | fail))
  intro b2 n1 n2 hb2
  have d2 : ∀ (o1 o2 : Ob) (G : Hp), upd (upd g b1 (some o1)) b2 (some o2) = G → Um B G c1 c2 m1 m2 l1 l2 := fun o1 o2 G hG => by
    subst hG
    exact d.grow (Sub.upd hb2 (Sub.upd hb1 (Sub.refl _)))
  (repeat' (first | simp [go_sem, X_region, *] | simp (disch := omega) only [om, *] | ((first | refine XC_split ?_ ?_ | refine XG_true ?_ ?_ | refine XG_false ?_ ?_ | refine XRg_true ?_ ?_ | refine XRg_false ?_ ?_) <;> intro hc <;> (try simp only [bl] at hc) <;> (try (exfalso; omega))) | refine XD_w [] [] [] (fun _ => none) mixed (by decide +kernel) (sub_none _) ?_ | refine Pure.call (hn) ?_ | refine ⟨_, Pure.at (hn), ?_⟩ | refine ⟨_, hn, ?_⟩ | refine PureAt.call (hn) ?_ | fail))
  generalize hG : upd (upd g b1 _) b2 _ = G
  replace d := d2 _ _ _ hG
  clear d2 hG hn
  refine X_lpF (fun i => i = 9 ∨ (19 ≤ i ∧ i ≤ 25)) (fun n T g => ∃ (i : Nat) (l acc : List ByteArray), n = l.length ∧ i ≤ LA.length ∧ LA.drop i = l ∧ T 19 = I i ∧ Um B g c1 c2 m1 m2 acc l2 ∧ Hid (acc ++ l = R1)) LA.length
    ⟨0, LA, l1, rfl, by omega, rfl, by simp [go_sem], d, hR1⟩ ?_
  clear d hR1
  rintro J hJ n T1 g1 hfr ⟨i, l, acc, rfl, hi, hd, t19, d, hq⟩
  rcases l with _ | ⟨s, l⟩
  · have hlt := drop_nil hd
    obtain rfl : acc = R1 := by have := hq.out; simpa using this
    (repeat' (first | simp [go_sem, X_region, *] | simp (disch := omega) only [om, *] | ((first | refine XC_split ?_ ?_ | refine XG_true ?_ ?_ | refine XG_false ?_ ?_ | refine XRg_true ?_ ?_ | refine XRg_false ?_ ?_) <;> intro hc <;> (try simp only [bl] at hc) <;> (try (exfalso; omega))) | refine XD_w [] [] [] (fun _ => none) mixed (by decide +kernel) (sub_none _) ?_ | fail))
    clear hJ hi hd hlt hq
    refine X_lpF (fun i => i = 11 ∨ (28 ≤ i ∧ i ≤ 34)) (fun n T g => ∃ (i : Nat) (l acc2 : List ByteArray), n = l.length ∧ i ≤ LT.length ∧ LT.drop i = l ∧ T 28 = I i ∧ Um B g c1 c2 m1 m2 acc acc2 ∧ Hid (acc2 ++ l = R2)) LT.length
      ⟨0, LT, l2, rfl, by omega, rfl, by simp [go_sem], d, hR2⟩ ?_
    clear d hR2
    rintro J hJ n T2 g2 hfr2 ⟨i, l, acc2, rfl, hi, hd, t28, d, hq⟩
    rcases l with _ | ⟨s, l⟩
    · have hlt := drop_nil hd
      obtain rfl : acc2 = R2 := by have := hq.out; simpa using this
      (repeat' (first | simp [go_sem, X_region, *] | simp (disch := omega) only [om, *] | ((first | refine XC_split ?_ ?_ | refine XG_true ?_ ?_ | refine XG_false ?_ ?_ | refine XRg_true ?_ ?_ | refine XRg_false ?_ ?_) <;> intro hc <;> (try simp only [bl] at hc) <;> (try (exfalso; omega))) | refine XD_w [] [] [] (fun _ => none) mixed (by decide +kernel) (sub_none _) ?_ | fail))
      exact ⟨_, _, Wk.refl _ _, d⟩
    · obtain ⟨hlt, hx, hd2⟩ := drop_cons hd
      have hw : IntKind.i64.wrap ((i : Int) + 1) = (i : Int) + 1 := by rw [w64 (by omega) (by omega)]
      obtain ⟨op, p1, p2, p3, p4⟩ := d.q
      obtain ⟨om, a1, a2⟩ := d.b
      (repeat' (first | simp [go_sem, X_region, *] | simp (disch := omega) only [om, *] | ((first | refine XC_split ?_ ?_ | refine XG_true ?_ ?_ | refine XG_false ?_ ?_ | refine XRg_true ?_ ?_ | refine XRg_false ?_ ?_) <;> intro hc <;> (try simp only [bl] at hc) <;> (try (exfalso; omega))) | refine XD_w [] [] [] (fun _ => none) mixed (by decide +kernel) (sub_none _) ?_ | fail))
      refine X_setIns (k := s) a2 a1 (by simp [go_sem]) (by simp [go_sem]) (by simp [go_sem]) und61 (kq_s _) kz_s fun ob' h3 => ?_
      (repeat' (first | simp [go_sem, X_region, *] | simp (disch := omega) only [om, *] | ((first | refine XC_split ?_ ?_ | refine XG_true ?_ ?_ | refine XG_false ?_ ?_ | refine XRg_true ?_ ?_ | refine XRg_false ?_ ?_) <;> intro hc <;> (try simp only [bl] at hc) <;> (try (exfalso; omega))) | refine XD_w [] [] [] (fun _ => none) mixed (by decide +kernel) (sub_none _) ?_ | fail))
      exact ⟨_, Nat.lt_succ_self _, hJ.out _ _ _ ⟨(by (repeat (refine fr_upd (by decide) ?_)); exact hfr2), i + 1, l, acc2 ++ [s], rfl, by omega, hd2, by simp [go_sem, hw], d.insB h3, ⟨by rw [← hq.out]; simp⟩⟩⟩
  · obtain ⟨hlt, hx, hd2⟩ := drop_cons hd
    have hw : IntKind.i64.wrap ((i : Int) + 1) = (i : Int) + 1 := by rw [w64 (by omega) (by omega)]
    obtain ⟨op, p1, p2, p3, p4⟩ := d.p
    obtain ⟨om, a1, a2⟩ := d.a
    (repeat' (first | simp [go_sem, X_region, *] | simp (disch := omega) only [om, *] | ((first | refine XC_split ?_ ?_ | refine XG_true ?_ ?_ | refine XG_false ?_ ?_ | refine XRg_true ?_ ?_ | refine XRg_false ?_ ?_) <;> intro hc <;> (try simp only [bl] at hc) <;> (try (exfalso; omega))) | refine XD_w [] [] [] (fun _ => none) mixed (by decide +kernel) (sub_none _) ?_ | fail))
    refine X_setIns (k := s) a2 a1 (by simp [go_sem]) (by simp [go_sem]) (by simp [go_sem]) und61 (kq_s _) kz_s fun ob' h3 => ?_
    (repeat' (first | simp [go_sem, X_region, *] | simp (disch := omega) only [om, *] | ((first | refine XC_split ?_ ?_ | refine XG_true ?_ ?_ | refine XG_false ?_ ?_ | refine XRg_true ?_ ?_ | refine XRg_false ?_ ?_) <;> intro hc <;> (try simp only [bl] at hc) <;> (try (exfalso; omega))) | refine XD_w [] [] [] (fun _ => none) mixed (by decide +kernel) (sub_none _) ?_ | fail))
    exact ⟨_, Nat.lt_succ_self _, hJ.out _ _ _ ⟨(by (repeat (refine fr_upd (by decide) ?_)); exact hfr), i + 1, l, acc ++ [s], rfl, by omega, hd2, by simp [go_sem, hw], d.insA h3, ⟨by rw [← hq.out]; simp⟩⟩⟩
end
/-- The walk over articles that notes names. -/
def InvU (b : List Acx) (c1 c2 m1 m2 : Nat) (B : Hp) (l : List (Rf × Arx)) (g : Hp) : Prop :=
  (∀ x ∈ l, okP x) ∧ ∃ l1 l2, Um B g c1 c2 m1 m2 l1 l2 ∧ Hid (l1 ++ (l.flatMap fun p => nmA p.2) = allA b) ∧ Hid (l2 ++ (l.flatMap fun p => nmT p.2) = allT b)
theorem InvU.stab {b : List Acx} {c1 c2 m1 m2 : Nat} : Stab (InvU b c1 c2 m1 m2) where
  sub := fun ⟨_, _, _, a, _⟩ => a.sub
  with_ := fun ⟨h, l1, l2, a, q⟩ hc => ⟨h, l1, l2, a.with_ hc, q⟩
  up := fun ⟨h, l1, l2, a, q⟩ hS => ⟨h, l1, l2, a.up hS, q⟩
theorem freeN_cons (P : ByteArray → Bool) (s : ByteArray) (l : List ByteArray) : (s :: l).filter (fun s => !P s) = if P s = true then l.filter (fun s => !P s) else s :: l.filter (fun s => !P s) := by
  rw [List.filter_cons]
  cases P s <;> rfl
set_option maxHeartbeats 8000000 in
theorem unused_ok (b : List Acx) (hb : BodyOk b) (hA : (attrN b).length ≤ 1048576) (hT : (tabN b).length ≤ 1048576) : Pure Tryz.prog 32 [encL 6 cAcx b] (tup2 (encL 1 cS (unusedA b)) (encL 1 cS (unusedT b))) := by
  obtain ⟨NA, hNA⟩ : ∃ NA, unusedA b = NA := ⟨_, rfl⟩
  obtain ⟨NT, hNT⟩ : ∃ NT, unusedT b = NT := ⟨_, rfl⟩
  rw [hNA, hNT]
  have hAl : NA.length ≤ 1048576 := by rw [← hNA]; exact Nat.le_trans (List.length_filter_le ..) hA
  have hTl : NT.length ≤ 1048576 := by rw [← hNT]; exact Nat.le_trans (List.length_filter_le ..) hT
  replace hNA : Hid ((attrN b).filter (fun s => !hasB (allA b) s) = NA) := ⟨hNA⟩
  replace hNT : Hid ((tabN b).filter (fun s => !hasB (allT b) s) = NT) := ⟨hNT⟩
  have hal := hb.lens
  intro h; refine CallK.lens fun hlen => ?_; have hlen := (hlen _ (by simp only [List.mem_cons, true_or, or_true] : (encL 6 cAcx b) ∈ _)).encL; refine callK_body Tryz.func32 rfl (by rw [nt32]; simp) ?_; rw [nt32, rs32]
  (repeat' (first | simp [go_sem, X_region, *] | simp (disch := omega) only [om, *] | ((first | refine XC_split ?_ ?_ | refine XG_true ?_ ?_ | refine XG_false ?_ ?_ | refine XRg_true ?_ ?_ | refine XRg_false ?_ ?_) <;> intro hc <;> (try simp only [bl] at hc) <;> (try (exfalso; omega))) | refine XD_w [] [] [] (fun _ => none) mixed (by decide +kernel) (sub_none _) ?_ | fail))
  intro b1 hb1 b2 n1 n2 hb2 b3 n3 n4 n5 n6 hb3 b4 n7 n8 n9 n10 n11 n12 hb4
  (repeat' (first | simp [go_sem, X_region, *] | simp (disch := omega) only [om, *] | ((first | refine XC_split ?_ ?_ | refine XG_true ?_ ?_ | refine XG_false ?_ ?_ | refine XRg_true ?_ ?_ | refine XRg_false ?_ ?_) <;> intro hc <;> (try simp only [bl] at hc) <;> (try (exfalso; omega))) | refine XD_w [] [] [] (fun _ => none) mixed (by decide +kernel) (sub_none _) ?_ | fail))
  generalize hG : upd (upd (upd (upd (upd (upd h b1 _) b2 _) b3 _) b4 _) b3 _) b4 _ = G
  have d : Um h G b3 b4 b1 b2 [] [] := by
    rw [← hG]
    refine ⟨Sub.upd hb4 (Sub.upd hb3 (Sub.upd hb4 (Sub.upd hb3 (Sub.upd hb2 (Sub.upd hb1 (Sub.refl _)))))), ⟨hb3, hb4, hb1, hb2⟩, ⟨n2, n5, n3, n11, n9⟩, ⟨_, by rw [upd_ne _ _ n8]; exact upd_same _ _ _, rfl, rfl, by simp⟩, ⟨_, upd_same _ _ _, rfl, rfl, by simp⟩, ⟨_, by rw [upd_ne _ _ n12, upd_ne _ _ n6, upd_ne _ _ n12, upd_ne _ _ n6, upd_ne _ _ n2]; exact upd_same _ _ _, SetM.nil _⟩, ⟨_, by rw [upd_ne _ _ n10, upd_ne _ _ n4, upd_ne _ _ n10, upd_ne _ _ n4]; exact upd_same _ _ _, SetM.nil _⟩⟩
  clear hG
  have ha : CallK Tryz.prog G 86 [encL 6 cAcx b, .v (.func (.func 87) #[] #[.pointer (some ⟨b3, 0, none⟩), .pointer (some ⟨b4, 0, none⟩)])] fun _ h' => InvU b b3 b4 b1 b2 h [] h' :=
    articles_ok b (fun a ha => (hb.lens a ha).2.2) 87 [.pointer (some ⟨b3, 0, none⟩), .pointer (some ⟨b4, 0, none⟩)] (by kernel_rfl) InvU.stab
      (fun B r x l g ⟨ho, l1, l2, a, q1, q2⟩ => (unus1_ok a r x (ho _ (List.mem_cons_self ..))).mono fun _ g' a' => ⟨fun y hy => ho y (List.mem_cons_of_mem _ hy), _, _, a', ⟨by rw [← q1.out]; simp⟩, ⟨by rw [← q2.out]; simp⟩⟩) h _
      ⟨hb.okP, [], [], d, ⟨rfl⟩, ⟨rfl⟩⟩
  refine ha.mono ?_
  rintro r1 g1 ⟨_, l1, l2, d, q1, q2⟩
  obtain rfl : l1 = allA b := by have := q1.out; simpa using this
  obtain rfl : l2 = allT b := by have := q2.out; simpa using this
  clear ha q1 q2 hb1 hb2 hb3 hb4
  have hS := d.sub
  obtain ⟨_, _, _, ⟨o3, e1, e2, e3, e4⟩, ⟨o4, f1, f2, f3, f4⟩, ⟨o1, a1, a2⟩, o2, c1, c2⟩ := d
  generalize allA b = UA at *
  generalize allT b = UT at *
  (repeat' (first | simp [go_sem, X_region, *] | simp (disch := omega) only [om, *] | ((first | refine XC_split ?_ ?_ | refine XG_true ?_ ?_ | refine XG_false ?_ ?_ | refine XRg_true ?_ ?_ | refine XRg_false ?_ ?_) <;> intro hc <;> (try simp only [bl] at hc) <;> (try (exfalso; omega))) | refine XD_w [] [] [] (fun _ => none) mixed (by decide +kernel) (sub_none _) ?_ | fail))
  refine X_lpF (fun i => (6 ≤ i ∧ i ≤ 7) ∨ i = 9 ∨ i = 11 ∨ i = 13 ∨ (21 ≤ i ∧ i ≤ 61)) (fun n T g => ∃ (i : Nat) (r : List Acx) (l1 l2 : List ByteArray), n = r.length ∧ i ≤ b.length ∧ b.drop i = r ∧ T 21 = I i ∧ Two g1 g (T 6) (T 7) 9 1 l1.length l2.length (cellsL cS l1) (cellsL cS l2) ∧ Hid (l1 ++ (attrN r).filter (fun s => !hasB UA s) = NA) ∧ Hid (l2 ++ (tabN r).filter (fun s => !hasB UT s) = NT)) b.length
    ⟨0, b, [], [], rfl, by omega, rfl, by simp [go_sem], ⟨by simpa [go_sem] using Own.none, by simpa [go_sem] using Own.none, fun c h1 => by simp [go_sem] at h1⟩, hNA, hNT⟩ ?_
  clear hNA hNT
  rintro J hJ n T g hfr ⟨i, r, l1, l2, rfl, hi, hd, t21, tw, q1, q2⟩
  rcases r with _ | ⟨a, r⟩
  · have hlt := drop_nil hd
    obtain rfl : l1 = NA := by have := q1.out; simpa [attrN] using this
    obtain rfl : l2 = NT := by have := q2.out; simpa [tabN] using this
    have k1 := tw.a.frozen (by omega)
    have k2 := tw.b.frozen (by omega)
    have hs := tw.a.1
    clear q1 q2
    (repeat' (first | simp [go_sem, X_region, *] | simp (disch := omega) only [om, *] | ((first | refine XC_split ?_ ?_ | refine XG_true ?_ ?_ | refine XG_false ?_ ?_ | refine XRg_true ?_ ?_ | refine XRg_false ?_ ?_) <;> intro hc <;> (try simp only [bl] at hc) <;> (try (exfalso; omega))) | refine XD_w [] [] [] (fun _ => none) mixed (by decide +kernel) (sub_none _) ?_ | fail))
    exact (Wk.tup2M hs k1 k2).trans (Wk.drop _ hS)
  · obtain ⟨hlt, hx, hd2⟩ := drop_cons hd
    obtain ⟨hxl, htl, _⟩ := hal a (by rw [← hx]; exact List.getElem_mem hlt)
    (repeat' (first | simp [go_sem, X_region, *] | simp (disch := omega) only [om, *] | ((first | refine XC_split ?_ ?_ | refine XG_true ?_ ?_ | refine XG_false ?_ ?_ | refine XRg_true ?_ ?_ | refine XRg_false ?_ ?_) <;> intro hc <;> (try simp only [bl] at hc) <;> (try (exfalso; omega))) | refine XD_w [] [] [] (fun _ => none) mixed (by decide +kernel) (sub_none _) ?_ | fail))
    intro b7 hb7
    have h7 : g1 b7 = none := sub_none_of tw.a.1 hb7
    have tw2 : ∀ ob, Two (upd g1 b7 (some ob)) (upd g b7 (some ob)) (T 6) (T 7) 9 1 l1.length l2.length (cellsL cS l1) (cellsL cS l2) := fun ob => ⟨own_with tw.a hb7, own_with tw.b hb7, tw.ap⟩
    have hS7 : ∀ ob, Sub g1 (upd g1 b7 (some ob)) := fun ob => Sub.upd h7 (Sub.refl _)
    (repeat' (first | simp [go_sem, X_region, *] | simp (disch := omega) only [om, *] | ((first | refine XC_split ?_ ?_ | refine XG_true ?_ ?_ | refine XG_false ?_ ?_ | refine XRg_true ?_ ?_ | refine XRg_false ?_ ?_) <;> intro hc <;> (try simp only [bl] at hc) <;> (try (exfalso; omega))) | refine XD_w [] [] [] (fun _ => none) mixed (by decide +kernel) (sub_none _) ?_ | fail))
    refine X_lpF (fun i => i = 6 ∨ i = 11 ∨ (28 ≤ i ∧ i ≤ 42)) (fun n T' g => ∃ (j : Nat) (rk : List Atx) (l1 : List ByteArray) (ob : Ob), n = rk.length ∧ j ≤ a.attrs.length ∧ a.attrs.drop j = rk ∧ T' 28 = I j ∧ Two (upd g1 b7 (some ob)) g (T' 6) (T 7) 9 1 l1.length l2.length (cellsL cS l1) (cellsL cS l2) ∧ Hid (l1 ++ ((rk.map (·.name)).filter (fun s => !hasB UA s) ++ (attrN r).filter (fun s => !hasB UA s)) = NA) ∧ ob.ty = 37 ∧ ob.s = 6 ∧ ob.n = 1 ∧ ob.f 0 4 = encL 5 cTb a.tables) a.attrs.length
      ⟨0, a.attrs, l1, _, rfl, by omega, rfl, by simp [go_sem], by simpa [go_sem] using tw2 _, ⟨by rw [← q1.out]; simp [attrN]⟩, rfl, rfl, rfl, rfl⟩ ?_
    clear tw q1 tw2
    rintro J2 hJ2 n2 T2 g2 hfr2 ⟨j, rk, l1, ob, rfl, hj, hdk, t28, tw, q1, p1, p2, p3, p4⟩
    have e7 := tw.a.1 b7 _ (upd_same _ _ _)
    have x1 := tw.a.1 b3 _ (hS7 _ _ _ e1)
    have x2 := tw.a.1 b1 _ (hS7 _ _ _ a1)
    rcases rk with _ | ⟨x, rk⟩
    · have hltk := drop_nil hdk
      have q1 : Hid (l1 ++ (attrN r).filter (fun s => !hasB UA s) = NA) := ⟨q1.out⟩
      (repeat' (first | simp [go_sem, X_region, *] | simp (disch := omega) only [om, *] | ((first | refine XC_split ?_ ?_ | refine XG_true ?_ ?_ | refine XG_false ?_ ?_ | refine XRg_true ?_ ?_ | refine XRg_false ?_ ?_) <;> intro hc <;> (try simp only [bl] at hc) <;> (try (exfalso; omega))) | refine XD_w [] [] [] (fun _ => none) mixed (by decide +kernel) (sub_none _) ?_ | fail))
      refine X_lpF (fun i => i = 7 ∨ i = 13 ∨ (46 ≤ i ∧ i ≤ 60)) (fun n T' g => ∃ (j : Nat) (rk : List Tb) (l2 : List ByteArray), n = rk.length ∧ j ≤ a.tables.length ∧ a.tables.drop j = rk ∧ T' 46 = I j ∧ Two (upd g1 b7 (some ob)) g (T2 6) (T' 7) 9 1 l1.length l2.length (cellsL cS l1) (cellsL cS l2) ∧ Hid (l2 ++ ((rk.map (·.name)).filter (fun s => !hasB UT s) ++ (tabN r).filter (fun s => !hasB UT s)) = NT)) a.tables.length
        ⟨0, a.tables, l2, rfl, by omega, rfl, by simp [go_sem], by simpa [go_sem, hfr2] using tw, ⟨by rw [← q2.out]; simp [tabN]⟩⟩ ?_
      clear tw q2 e7 x1 x2
      rintro J3 hJ3 n3 T3 g3 hfr3 ⟨k, rk, l2, rfl, hk, hdk, t46, tw, q2⟩
      have y1 := tw.a.1 b4 _ (hS7 _ _ _ f1)
      have y2 := tw.a.1 b2 _ (hS7 _ _ _ c1)
      rcases rk with _ | ⟨x, rk⟩
      · have hltk := drop_nil hdk
        have q2 : Hid (l2 ++ (tabN r).filter (fun s => !hasB UT s) = NT) := ⟨q2.out⟩
        have tw1 : Two g1 g3 (T3 6) (T3 7) 9 1 l1.length l2.length (cellsL cS l1) (cellsL cS l2) := by
          have e4 : T3 6 = T2 6 := by simp [hfr3, go_sem]
          rw [e4]
          exact ⟨own_up (Sub.upd h7 (Sub.refl _)) tw.a, own_up (Sub.upd h7 (Sub.refl _)) tw.b, tw.ap⟩
        (repeat' (first | simp [go_sem, X_region, *] | simp (disch := omega) only [om, *] | ((first | refine XC_split ?_ ?_ | refine XG_true ?_ ?_ | refine XG_false ?_ ?_ | refine XRg_true ?_ ?_ | refine XRg_false ?_ ?_) <;> intro hc <;> (try simp only [bl] at hc) <;> (try (exfalso; omega))) | refine XD_w [] [] [] (fun _ => none) mixed (by decide +kernel) (sub_none _) ?_ | fail))
        refine ⟨_, Nat.lt_succ_self _, hJ.out _ _ _ ⟨?_, i + 1, r, l1, l2, rfl, by omega, hd2, by simp [go_sem], by simpa [go_sem] using tw1, q1, q2⟩⟩
        repeat (refine fr_upd (by decide) ?_)
        refine fr_in (by intro i; omega) hfr3 ?_
        repeat (refine fr_upd (by decide) ?_)
        refine fr_in (by intro i; omega) hfr2 ?_
        repeat (refine fr_upd (by decide) ?_)
        exact hfr
      · obtain ⟨hltk, hxk, hdk2⟩ := drop_cons hdk
        have q2' := q2.out
        rw [List.map_cons, freeN_cons] at q2'
        (repeat' (first | simp [go_sem, X_region, *] | simp (disch := omega) only [om, *] | ((first | refine XC_split ?_ ?_ | refine XG_true ?_ ?_ | refine XG_false ?_ ?_ | refine XRg_true ?_ ?_ | refine XRg_false ?_ ?_) <;> intro hc <;> (try simp only [bl] at hc) <;> (try (exfalso; omega))) | refine XD_w [] [] [] (fun _ => none) mixed (by decide +kernel) (sub_none _) ?_ | fail))
        intro b13 hb13
        have z1 := ne_free hb13 y1
        have z2 := ne_free hb13 y2
        have tw' : ∀ ob', Two (upd g1 b7 (some ob)) (upd g3 b13 (some ob')) (T2 6) (T3 7) 9 1 l1.length l2.length (cellsL cS l1) (cellsL cS l2) := fun ob' => tw.grow (Sub.upd hb13 (Sub.refl _))
        (repeat' (first | simp [go_sem, X_region, *] | simp (disch := omega) only [om, *] | ((first | refine XC_split ?_ ?_ | refine XG_true ?_ ?_ | refine XG_false ?_ ?_ | refine XRg_true ?_ ?_ | refine XRg_false ?_ ?_) <;> intro hc <;> (try simp only [bl] at hc) <;> (try (exfalso; omega))) | refine XD_w [] [] [] (fun _ => none) mixed (by decide +kernel) (sub_none _) ?_ | fail))
        refine X_setGet (ek := S) (k := x.name) c2 (by rw [upd_ne _ _ z2.2]; exact y2) (by simp [go_sem]) (by simp [go_sem]) und61 (kq_s _) kz_s zv4 ?_
        cases hh : hasB UT x.name
        · rw [if_neg (by rw [hh]; decide)] at q2'
          have hl : l2.length + 1 ≤ 1048576 := by have := congrArg List.length q2'; simp at this; omega
          obtain ⟨H, oH, kH⟩ := tw.swap.hole
          (repeat' (first | simp [go_sem, X_region, *] | simp (disch := omega) only [om, *] | ((first | refine XC_split ?_ ?_ | refine XG_true ?_ ?_ | refine XG_false ?_ ?_ | refine XRg_true ?_ ?_ | refine XRg_false ?_ ?_) <;> intro hc <;> (try simp only [bl] at hc) <;> (try (exfalso; omega))) | refine XD_w [] [] [] (fun _ => none) mixed (by decide +kernel) (sub_none _) ?_ | fail))
          intro bl l1n l2n hbl
          refine Own.push (x := x.name) (enc := cS) (own_grow oH (Sub.upd hb13 (Sub.refl _))) (by simp [go_sem]) und54 zr9 by9 (by simp [go_sem]) (by rw [upd_ne _ _ l1n]; exact hbl) (by simp [go_sem]) rfl (Nat.le_refl _) (by simp [go_sem]) (by omega) (by omega) fun a1 h1 o1 _ => ?_
          have tw1 := (kH _ _ _ _ o1).swap
          (repeat' (first | simp [go_sem, X_region, *] | simp (disch := omega) only [om, *] | ((first | refine XC_split ?_ ?_ | refine XG_true ?_ ?_ | refine XG_false ?_ ?_ | refine XRg_true ?_ ?_ | refine XRg_false ?_ ?_) <;> intro hc <;> (try simp only [bl] at hc) <;> (try (exfalso; omega))) | refine XD_w [] [] [] (fun _ => none) mixed (by decide +kernel) (sub_none _) ?_ | fail))
          exact ⟨_, Nat.lt_succ_self _, hJ3.out _ _ _ ⟨(by (repeat (refine fr_upd (by decide) ?_)); exact hfr3), k + 1, rk, l2 ++ [x.name], rfl, by omega, hdk2, by simp [go_sem], by simpa [go_sem] using tw1, ⟨by rw [← q2']; simp⟩⟩⟩
        · rw [if_pos hh] at q2'
          (repeat' (first | simp [go_sem, X_region, *] | simp (disch := omega) only [om, *] | ((first | refine XC_split ?_ ?_ | refine XG_true ?_ ?_ | refine XG_false ?_ ?_ | refine XRg_true ?_ ?_ | refine XRg_false ?_ ?_) <;> intro hc <;> (try simp only [bl] at hc) <;> (try (exfalso; omega))) | refine XD_w [] [] [] (fun _ => none) mixed (by decide +kernel) (sub_none _) ?_ | fail))
          exact ⟨_, Nat.lt_succ_self _, hJ3.out _ _ _ ⟨(by (repeat (refine fr_upd (by decide) ?_)); exact hfr3), k + 1, rk, l2, rfl, by omega, hdk2, by simp [go_sem], by simpa [go_sem] using tw' _, ⟨q2'⟩⟩⟩
    · obtain ⟨hltk, hxk, hdk2⟩ := drop_cons hdk
      have q1' := q1.out
      rw [List.map_cons, freeN_cons] at q1'
      (repeat' (first | simp [go_sem, X_region, *] | simp (disch := omega) only [om, *] | ((first | refine XC_split ?_ ?_ | refine XG_true ?_ ?_ | refine XG_false ?_ ?_ | refine XRg_true ?_ ?_ | refine XRg_false ?_ ?_) <;> intro hc <;> (try simp only [bl] at hc) <;> (try (exfalso; omega))) | refine XD_w [] [] [] (fun _ => none) mixed (by decide +kernel) (sub_none _) ?_ | fail))
      intro b11 hb11
      have z1 := ne_free hb11 x1
      have z2 := ne_free hb11 x2
      have tw' : ∀ ob', Two (upd g1 b7 (some ob)) (upd g2 b11 (some ob')) (T2 6) (T 7) 9 1 l1.length l2.length (cellsL cS l1) (cellsL cS l2) := fun ob' => tw.grow (Sub.upd hb11 (Sub.refl _))
      (repeat' (first | simp [go_sem, X_region, *] | simp (disch := omega) only [om, *] | ((first | refine XC_split ?_ ?_ | refine XG_true ?_ ?_ | refine XG_false ?_ ?_ | refine XRg_true ?_ ?_ | refine XRg_false ?_ ?_) <;> intro hc <;> (try simp only [bl] at hc) <;> (try (exfalso; omega))) | refine XD_w [] [] [] (fun _ => none) mixed (by decide +kernel) (sub_none _) ?_ | fail))
      refine X_setGet (ek := S) (k := x.name) a2 (by rw [upd_ne _ _ z2.2]; exact x2) (by simp [go_sem]) (by simp [go_sem]) und61 (kq_s _) kz_s zv4 ?_
      cases hh : hasB UA x.name
      · rw [if_neg (by rw [hh]; decide)] at q1'
        have hl : l1.length + 1 ≤ 1048576 := by have := congrArg List.length q1'; simp at this; omega
        obtain ⟨H, oH, kH⟩ := tw.hole
        (repeat' (first | simp [go_sem, X_region, *] | simp (disch := omega) only [om, *] | ((first | refine XC_split ?_ ?_ | refine XG_true ?_ ?_ | refine XG_false ?_ ?_ | refine XRg_true ?_ ?_ | refine XRg_false ?_ ?_) <;> intro hc <;> (try simp only [bl] at hc) <;> (try (exfalso; omega))) | refine XD_w [] [] [] (fun _ => none) mixed (by decide +kernel) (sub_none _) ?_ | fail))
        intro bl l1n l2n hbl
        refine Own.push (x := x.name) (enc := cS) (own_grow oH (Sub.upd hb11 (Sub.refl _))) (by simp [go_sem]) und54 zr9 by9 (by simp [go_sem]) (by rw [upd_ne _ _ l1n]; exact hbl) (by simp [go_sem]) rfl (Nat.le_refl _) (by simp [go_sem]) (by omega) (by omega) fun a1 h1 o1 _ => ?_
        have tw1 := kH _ _ _ _ o1
        (repeat' (first | simp [go_sem, X_region, *] | simp (disch := omega) only [om, *] | ((first | refine XC_split ?_ ?_ | refine XG_true ?_ ?_ | refine XG_false ?_ ?_ | refine XRg_true ?_ ?_ | refine XRg_false ?_ ?_) <;> intro hc <;> (try simp only [bl] at hc) <;> (try (exfalso; omega))) | refine XD_w [] [] [] (fun _ => none) mixed (by decide +kernel) (sub_none _) ?_ | fail))
        exact ⟨_, Nat.lt_succ_self _, hJ2.out _ _ _ ⟨(by (repeat (refine fr_upd (by decide) ?_)); exact hfr2), j + 1, rk, l1 ++ [x.name], ob, rfl, by omega, hdk2, by simp [go_sem], by simpa [go_sem] using tw1, ⟨by rw [← q1']; simp⟩, p1, p2, p3, p4⟩⟩
      · rw [if_pos hh] at q1'
        (repeat' (first | simp [go_sem, X_region, *] | simp (disch := omega) only [om, *] | ((first | refine XC_split ?_ ?_ | refine XG_true ?_ ?_ | refine XG_false ?_ ?_ | refine XRg_true ?_ ?_ | refine XRg_false ?_ ?_) <;> intro hc <;> (try simp only [bl] at hc) <;> (try (exfalso; omega))) | refine XD_w [] [] [] (fun _ => none) mixed (by decide +kernel) (sub_none _) ?_ | fail))
        exact ⟨_, Nat.lt_succ_self _, hJ2.out _ _ _ ⟨(by (repeat (refine fr_upd (by decide) ?_)); exact hfr2), j + 1, rk, l1, ob, rfl, by omega, hdk2, by simp [go_sem], by simpa [go_sem] using tw' _, ⟨q1'⟩, p1, p2, p3, p4⟩⟩
end Go.Proofs.YtmalhikcdideoaaGreatDoor

set_option linter.unusedVariables false
set_option linter.unusedSimpArgs false
namespace Go.Proofs.YtmalhikcdideoaaGreatDoor
open Go Sl
attribute [local irreducible] XRange LpQ XR XRo XRg XRQ putQ XFv XL XW2 wQ putW X XO XOp XH XHo XW SeqQ BlkQ XOQ XHQ NrmQ XC XM XG XHM XHG XD CallK
open Go.RowKit
/-- The answer of a call whose result is finished. -/
theorem CallK.fz {P : Program} {h h0 : Hp} {f : FuncId} {args : List AV} {v : AV} {K : AV → Hp → Prop} (hw : ∀ r g, K r g → Wk g r h0 v) (hS : Sub h0 h) (c : CallK P h f args K) : CallK P h f args fun r g => r = v ∧ g = h0 := by
  unfold CallK at *
  intro w vals hh ha
  refine (c w vals hh ha).mono ?_
  rintro e w' ⟨u, r, h', k1, k2, k3, k4, k5, k6⟩
  obtain ⟨st, rh, r'⟩ := (hw _ _ k2).out w' u k4 k3
  exact ⟨u, _, _, k1, ⟨rfl, rfl⟩, r', rh, k5, k6.trans st⟩
theorem acts_all (b : List Acx) : acts b.length (actAt b) = b := by
  refine List.ext_getElem (by simp [acts]) fun i h1 h2 => ?_
  simp [acts, actAt, List.getElem?_eq_getElem h2]
theorem scopyF_ok (b : List Acx) (hb : BodyOk b) : Pure Tryz.prog 24 [encL 6 cAcx b] (encL 6 cAcx b) := fun h =>
  CallK.fz (fun r g ⟨R, O, B⟩ => by
    have := B.frozen (by have := hb.len; omega) fun i hi => by
      have ha := hb.at hi
      have k1 := ha.at_
      have k2 := ha.tb.1
      have k3 := ha.ar.1
      refine ⟨by omega, by omega, by omega, fun y hy => ?_⟩
      have := (ha.ar.2 y hy).2.2
      omega
    rw [acts_all] at this
    exact this) (Sub.refl _) (scopy_ok b hb.len hb.act h)
/-- The law's three lists and two maps. -/
structure LS (B g : Hp) (x7 x8 x9 : AV) (m1 m2 : Nat) (u v : List Rf) (w : List Lo) (l1 l2 : List ByteArray) : Prop where
  tw : Two B g x7 x8 25 2 u.length v.length (cellsL cRf u) (cellsL cRf v)
  c : Own B g x9 71 5 w.length (cellsL cLo w)
  ne : m1 ≠ m2
  z : B m1 = none ∧ B m2 = none
  a : ∃ o, g m1 = some o ∧ SetM S l1 o
  b : ∃ o, g m2 = some o ∧ SetM S l2 o
section
variable {B B0 g g' : Hp} {x7 x8 x9 : AV} {m1 m2 : Nat} {u v : List Rf} {w : List Lo} {l1 l2 : List ByteArray}
theorem LS.sub (d : LS B g x7 x8 x9 m1 m2 u v w l1 l2) : Sub B g := d.c.1
theorem LS.grow (d : LS B g x7 x8 x9 m1 m2 u v w l1 l2) (hS : Sub g g') : LS B g' x7 x8 x9 m1 m2 u v w l1 l2 := by
  obtain ⟨t, c, n, z, ⟨o1, a1, a2⟩, o2, b1, b2⟩ := d
  exact ⟨t.grow hS, own_grow c hS, n, z, ⟨o1, hS _ _ a1, a2⟩, o2, hS _ _ b1, b2⟩
theorem LS.with_ {k : Nat} {ok : Ob} (d : LS B g x7 x8 x9 m1 m2 u v w l1 l2) (hk : g k = none) : LS (upd B k (some ok)) (upd g k (some ok)) x7 x8 x9 m1 m2 u v w l1 l2 := by
  obtain ⟨t, c, n, z, ⟨o1, a1, a2⟩, o2, b1, b2⟩ := d
  have j1 := ne_free hk a1
  have j2 := ne_free hk b1
  exact ⟨⟨own_with t.a hk, own_with t.b hk, t.ap⟩, own_with c hk, n, ⟨by rw [upd_ne _ _ j1.2]; exact z.1, by rw [upd_ne _ _ j2.2]; exact z.2⟩, ⟨o1, by rw [upd_ne _ _ j1.2]; exact a1, a2⟩, o2, by rw [upd_ne _ _ j2.2]; exact b1, b2⟩
theorem LS.up (d : LS B g x7 x8 x9 m1 m2 u v w l1 l2) (hS : Sub B0 B) : LS B0 g x7 x8 x9 m1 m2 u v w l1 l2 :=
  ⟨⟨own_up hS d.tw.a, own_up hS d.tw.b, d.tw.ap⟩, own_up hS d.c, d.ne, ⟨sub_none_of hS d.z.1, sub_none_of hS d.z.2⟩, d.a, d.b⟩
theorem LS.insA {o : Ob} {k : ByteArray} (d : LS B g x7 x8 x9 m1 m2 u v w l1 l2) (ho : SetM S (l1 ++ [k]) o) : LS B (upd g m1 (some o)) x7 x8 x9 m1 m2 u v w (l1 ++ [k]) l2 := by
  obtain ⟨t, c, n, z, ⟨o1, a1, a2⟩, o2, b1, b2⟩ := d
  have h0 : o1.s = 0 := a2.sty
  exact ⟨⟨Own.set t.a a1 z.1 (.inl (by rw [h0]; decide)), Own.set t.b a1 z.1 (.inl (by rw [h0]; decide)), t.ap⟩, Own.set c a1 z.1 (.inl (by rw [h0]; decide)), n, z, ⟨o, upd_same _ _ _, ho⟩, o2, by rw [upd_ne _ _ (Ne.symm n)]; exact b1, b2⟩
theorem LS.insB {o : Ob} {k : ByteArray} (d : LS B g x7 x8 x9 m1 m2 u v w l1 l2) (ho : SetM S (l2 ++ [k]) o) : LS B (upd g m2 (some o)) x7 x8 x9 m1 m2 u v w l1 (l2 ++ [k]) := by
  obtain ⟨t, c, n, z, ⟨o1, a1, a2⟩, o2, b1, b2⟩ := d
  have h0 : o2.s = 0 := b2.sty
  exact ⟨⟨Own.set t.a b1 z.2 (.inl (by rw [h0]; decide)), Own.set t.b b1 z.2 (.inl (by rw [h0]; decide)), t.ap⟩, Own.set c b1 z.2 (.inl (by rw [h0]; decide)), n, z, ⟨o1, by rw [upd_ne _ _ n]; exact a1, a2⟩, o, upd_same _ _ _, ho⟩
/-- An own slice of texts beside. -/
def Side (B g : Hp) (y : AV) (k : List ByteArray) : Prop := Own B g y 9 1 k.length (cellsL cS k)
theorem LS.push7 (d : LS B g x7 x8 x9 m1 m2 u v w l1 l2) : ∃ H, Own H g x7 25 2 u.length (cellsL cRf u) ∧ ∀ g1 y u1, Own H g1 y 25 2 u1.length (cellsL cRf u1) → LS B g1 y x8 x9 m1 m2 u1 v w l1 l2 ∧ ∀ y2 k, Side B g y2 k → Side B g1 y2 k := by
  obtain ⟨t, c, n, z, ⟨o1, a1, a2⟩, o2, b1, b2⟩ := d
  obtain ⟨H, oH, sH, kH⟩ := own_hole t.a
  have h1 : o1.s = 0 := a2.sty
  have h2 : o2.s = 0 := b2.sty
  refine ⟨H, oH, fun g1 y u1 o => ⟨⟨⟨own_up sH o, own_keep sH kH o.1 t.b t.ap, own_apart kH o t.b t.ap⟩, own_keep sH kH o.1 c (own_apartT t.a c (by decide)), n, z, ⟨o1, o.1 _ _ (kH _ _ a1 (Own.ne t.a a1 (.inl (by rw [h1]; decide)))), a2⟩, o2, o.1 _ _ (kH _ _ b1 (Own.ne t.a b1 (.inl (by rw [h2]; decide)))), b2⟩, fun y2 k hk => own_keep sH kH o.1 hk (own_apartT t.a hk (by decide))⟩⟩
theorem LS.push8 (d : LS B g x7 x8 x9 m1 m2 u v w l1 l2) : ∃ H, Own H g x8 25 2 v.length (cellsL cRf v) ∧ ∀ g1 y v1, Own H g1 y 25 2 v1.length (cellsL cRf v1) → LS B g1 x7 y x9 m1 m2 u v1 w l1 l2 ∧ ∀ y2 k, Side B g y2 k → Side B g1 y2 k := by
  obtain ⟨t, c, n, z, ⟨o1, a1, a2⟩, o2, b1, b2⟩ := d
  have t := t.swap
  obtain ⟨H, oH, sH, kH⟩ := own_hole t.a
  have h1 : o1.s = 0 := a2.sty
  have h2 : o2.s = 0 := b2.sty
  refine ⟨H, oH, fun g1 y u1 o => ⟨⟨Two.swap ⟨own_up sH o, own_keep sH kH o.1 t.b t.ap, own_apart kH o t.b t.ap⟩, own_keep sH kH o.1 c (own_apartT t.a c (by decide)), n, z, ⟨o1, o.1 _ _ (kH _ _ a1 (Own.ne t.a a1 (.inl (by rw [h1]; decide)))), a2⟩, o2, o.1 _ _ (kH _ _ b1 (Own.ne t.a b1 (.inl (by rw [h2]; decide)))), b2⟩, fun y2 k hk => own_keep sH kH o.1 hk (own_apartT t.a hk (by decide))⟩⟩
theorem LS.push9 (d : LS B g x7 x8 x9 m1 m2 u v w l1 l2) : ∃ H, Own H g x9 71 5 w.length (cellsL cLo w) ∧ ∀ g1 y w1, Own H g1 y 71 5 w1.length (cellsL cLo w1) → LS B g1 x7 x8 y m1 m2 u v w1 l1 l2 := by
  obtain ⟨t, c, n, z, ⟨o1, a1, a2⟩, o2, b1, b2⟩ := d
  obtain ⟨H, oH, sH, kH⟩ := own_hole c
  have h1 : o1.s = 0 := a2.sty
  have h2 : o2.s = 0 := b2.sty
  refine ⟨H, oH, fun g1 y u1 o => ⟨⟨own_keep sH kH o.1 t.a (own_apartT c t.a (by decide)), own_keep sH kH o.1 t.b (own_apartT c t.b (by decide)), t.ap⟩, own_up sH o, n, z, ⟨o1, o.1 _ _ (kH _ _ a1 (Own.ne c a1 (.inl (by rw [h1]; decide)))), a2⟩, o2, o.1 _ _ (kH _ _ b1 (Own.ne c b1 (.inl (by rw [h2]; decide)))), b2⟩⟩
/-- All that is beside the slice of texts. -/
theorem LS.side {y : AV} {k : List ByteArray} (d : LS B g x7 x8 x9 m1 m2 u v w l1 l2) (s : Side B g y k) : ∃ H, Own H g y 9 1 k.length (cellsL cS k) ∧ LS B H x7 x8 x9 m1 m2 u v w l1 l2 := by
  obtain ⟨t, c, n, z, ⟨o1, a1, a2⟩, o2, b1, b2⟩ := d
  obtain ⟨H, oH, sH, kH⟩ := own_hole s
  have h1 : o1.s = 0 := a2.sty
  have h2 : o2.s = 0 := b2.sty
  exact ⟨H, oH, ⟨own_keep sH kH (Sub.refl _) t.a (own_apartT s t.a (by decide)), own_keep sH kH (Sub.refl _) t.b (own_apartT s t.b (by decide)), t.ap⟩, own_keep sH kH (Sub.refl _) c (own_apartT s c (by decide)), n, z, ⟨o1, kH _ _ a1 (Own.ne s a1 (.inl (by rw [h1]; decide))), a2⟩, o2, kH _ _ b1 (Own.ne s b1 (.inl (by rw [h2]; decide))), b2⟩
end
end Go.Proofs.YtmalhikcdideoaaGreatDoor

set_option linter.unusedVariables false
set_option linter.unusedSimpArgs false
namespace Go.Proofs.YtmalhikcdideoaaGreatDoor
open Go Sl
attribute [local irreducible] XRange LpQ XR XRo XRg XRQ putQ XFv XL XW2 wQ putW X XO XOp XH XHo XW SeqQ BlkQ XOQ XHQ NrmQ XC XM XG XHM XHG XD CallK
open Go.RowKit
theorem pickA_same (s : ByteArray) (l : List (Rf × Arx)) : pickP (fun x => hasB (bothA x) s) l = pickP (fun x => Bool.or (hasB (tA x.cond) s) (hasB (tA x.thn) s)) l := by
  congr 1
  funext x
  rw [Bool.eq_iff_iff, hasB_iff, bothA_mem, Bool.or_eq_true, hasB_iff, hasB_iff]
theorem pickT_same (s : ByteArray) (l : List (Rf × Arx)) : pickP (fun x => hasB (bothT x) s) l = pickP (fun x => hasB (nmT x) s) l := by
  congr 1
  funext x
  rw [bothT_eq]
/-- The lists of what is still to be looked at, and of all. -/
structure Rest (b : List Acx) (attr tab : ByteArray) (l : List (Rf × Arx)) (u v : List Rf) (w : List Lo) (l1 l2 : List ByteArray) : Prop where
  u : u ++ pickP (fun x => hasB (bothA x) attr) l = pickP (fun x => hasB (bothA x) attr) (pairs b)
  v : v ++ pickP (fun x => hasB (bothT x) tab) l = pickP (fun x => hasB (bothT x) tab) (pairs b)
  w : w ++ looseP (attrN b) (tabN b) (refN b) l = dangF b
  a : l1 ++ (l.flatMap fun p => nmA p.2) = allA b
  b : l2 ++ (l.flatMap fun p => nmT p.2) = allT b
theorem own_app {α : Type} {h0 h : Hp} {a : AV} {e : TypeId} {s : Nat} {enc : α → List AV} {l m : List α} (o : Own h0 h a e s (l.length + m.length) fun i j => if i < l.length then cellsL enc l i j else cellsL enc m (i - l.length) j) : Own h0 h a e s (l ++ m).length (cellsL enc (l ++ m)) := by
  rw [List.length_append]
  refine Own.congr o fun i hi j hj => ?_
  by_cases hil : i < l.length
  · rw [if_pos hil]; simp [cellsL, List.getElem?_append_left hil]
  · rw [if_neg hil]; simp [cellsL, List.getElem?_append_right (Nat.le_of_not_lt hil)]
theorem Rest.step {b : List Acx} {attr tab : ByteArray} {rf : Rf} {x : Arx} {L : List (Rf × Arx)} {u v : List Rf} {w : List Lo} {l1 l2 : List ByteArray} (h : Rest b attr tab ((rf, x) :: L) u v w l1 l2) :
    (if hasB (bothA x) attr = true then u ++ [rf] else u) ++ pickP (fun x => hasB (bothA x) attr) L = pickP (fun x => hasB (bothA x) attr) (pairs b) ∧
    (if hasB (bothT x) tab = true then v ++ [rf] else v) ++ pickP (fun x => hasB (bothT x) tab) L = pickP (fun x => hasB (bothT x) tab) (pairs b) ∧
    w ++ (loA (attrN b) rf (nmA x) ++ (loT (tabN b) rf (nmT x) ++ (loO (refN b) rf x.over ++ looseP (attrN b) (tabN b) (refN b) L))) = dangF b ∧
    l1 ++ (nmA x ++ L.flatMap fun p => nmA p.2) = allA b ∧ l2 ++ (nmT x ++ L.flatMap fun p => nmT p.2) = allT b := by
  obtain ⟨h1, h2, h3, h4, h5⟩ := h
  rw [pickP_cons] at h1 h2
  refine ⟨?_, ?_, ?_, ?_, ?_⟩
  · rw [← h1]; split <;> simp
  · rw [← h2]; split <;> simp
  · rw [← h3]; simp [looseP, looseF_eq]
  · rw [← h4]; simp
  · rw [← h5]; simp
theorem cloneNd_ok (l : List Nd) (h1 : l.length ≤ 1048576) (h : Hp) : CallK Tryz.prog h 26 [encL 5 cNd l] fun r h' => Own h h' r 65 5 l.length (cellsL cNd l) := by
  rcases Nat.eq_zero_or_pos l.length with hz | hp
  · obtain rfl := List.length_eq_zero_iff.1 hz
    refine callK_body Tryz.func26 rfl (by rw [nt26]; simp) ?_; rw [nt26, rs26]
    (repeat' (first | simp [go_sem, X_region, *] | simp (disch := omega) only [om, *] | ((first | refine XC_split ?_ ?_ | refine XG_true ?_ ?_ | refine XG_false ?_ ?_ | refine XRg_true ?_ ?_ | refine XRg_false ?_ ?_) <;> intro hc <;> (try simp only [bl] at hc) <;> (try (exfalso; omega))) | refine XD_w [] [] [] (fun _ => none) mixed (by decide +kernel) (sub_none _) ?_ | fail))
    refine X_isNilM (s := 5) (f := cellsL cNd []) (by simp [go_sem]) und47 (by simp [go_sem]) (by simp [go_sem]) fun b => ?_
    cases b
    · (repeat' (first | simp [go_sem, X_region, *] | simp (disch := omega) only [om, *] | ((first | refine XC_split ?_ ?_ | refine XG_true ?_ ?_ | refine XG_false ?_ ?_ | refine XRg_true ?_ ?_ | refine XRg_false ?_ ?_) <;> intro hc <;> (try simp only [bl] at hc) <;> (try (exfalso; omega))) | refine XD_w [] [] [] (fun _ => none) mixed (by decide +kernel) (sub_none _) ?_ | fail))
      refine Own.append (h0 := h) (e := 65) (s := 5) (n := 0) (f := fun _ _ => .any) (m := 0) (q := cellsL cNd []) ⟨Sub.refl h, .inl ⟨rfl, .inr (by simp [go_sem])⟩⟩ und47 zr65 by65 (by simp [go_sem]) (by simp [go_sem]) (by omega) (by omega) fun a h' ho _ => ?_
      simp only [Nat.zero_add, Nat.not_lt_zero, if_false, Nat.sub_zero] at ho
      (repeat' (first | simp [go_sem, X_region, *] | simp (disch := omega) only [om, *] | ((first | refine XC_split ?_ ?_ | refine XG_true ?_ ?_ | refine XG_false ?_ ?_ | refine XRg_true ?_ ?_ | refine XRg_false ?_ ?_) <;> intro hc <;> (try simp only [bl] at hc) <;> (try (exfalso; omega))) | refine XD_w [] [] [] (fun _ => none) mixed (by decide +kernel) (sub_none _) ?_ | fail))
      exact ⟨_, _, Wk.refl _ _, ho⟩
    · (repeat' (first | simp [go_sem, X_region, *] | simp (disch := omega) only [om, *] | ((first | refine XC_split ?_ ?_ | refine XG_true ?_ ?_ | refine XG_false ?_ ?_ | refine XRg_true ?_ ?_ | refine XRg_false ?_ ?_) <;> intro hc <;> (try simp only [bl] at hc) <;> (try (exfalso; omega))) | refine XD_w [] [] [] (fun _ => none) mixed (by decide +kernel) (sub_none _) ?_ | fail))
      exact ⟨_, _, Wk.refl _ _, Sub.refl _, .inl ⟨rfl, .inl rfl⟩⟩
  · refine callK_body Tryz.func26 rfl (by rw [nt26]; simp) ?_; rw [nt26, rs26]
    (repeat' (first | simp [go_sem, X_region, *] | simp (disch := omega) only [om, *] | ((first | refine XC_split ?_ ?_ | refine XG_true ?_ ?_ | refine XG_false ?_ ?_ | refine XRg_true ?_ ?_ | refine XRg_false ?_ ?_) <;> intro hc <;> (try simp only [bl] at hc) <;> (try (exfalso; omega))) | refine XD_w [] [] [] (fun _ => none) mixed (by decide +kernel) (sub_none _) ?_ | fail))
    refine Own.append (h0 := h) (e := 65) (s := 5) (n := 0) (f := fun _ _ => .any) (m := l.length) (q := cellsL cNd l) ⟨Sub.refl h, .inl ⟨rfl, .inr (by simp [go_sem])⟩⟩ und47 zr65 by65 (by simp [go_sem]) (by simp [go_sem]) (by omega) (by omega) fun a h' ho _ => ?_
    simp only [Nat.zero_add, Nat.not_lt_zero, if_false, Nat.sub_zero] at ho
    (repeat' (first | simp [go_sem, X_region, *] | simp (disch := omega) only [om, *] | ((first | refine XC_split ?_ ?_ | refine XG_true ?_ ?_ | refine XG_false ?_ ?_ | refine XRg_true ?_ ?_ | refine XRg_false ?_ ?_) <;> intro hc <;> (try simp only [bl] at hc) <;> (try (exfalso; omega))) | refine XD_w [] [] [] (fun _ => none) mixed (by decide +kernel) (sub_none _) ?_ | fail))
    exact ⟨_, _, Wk.refl _ _, ho⟩
theorem flat_cS (l : List ByteArray) (i j : Nat) (hi : i < l.length) (hj : j < 1) : Flat (cellsL cS l i j) := by
  obtain rfl : j = 0 := by omega
  simp only [cellsL, List.getElem?_eq_getElem hi]
  exact Flat.v _
theorem namesOwn_ok {h : Hp} {c r : AV} (e : List Nd) (hl : e.length ≤ 1000000000) (ops : List Int) (hol : ops.length ≤ 1000) (h1 : Lend h c (encL 5 cNd e)) (h2 : Lend h r (encL 1 cI ops)) :
    CallK Tryz.prog h 27 [c, r] fun y g => Own h g y 9 1 (compB (sortB (namesF (fun o => ops.any fun k => decide (o = k)) e))).length (cellsL cS (compB (sortB (namesF (fun o => ops.any fun k => decide (o = k)) e)))) :=
  CallK.lendOwn (.cons h1 (.cons h2 .nil)) (fun i j hi hj => flat_cS _ i j hi hj) (rnamesO_ok e hl ops hol _)
theorem bothA_len (x : Arx) (h1 : x.cond.length ≤ 1048576) (h2 : x.thn.length ≤ 1048576) : (bothA x).length ≤ 2097152 := by
  refine Nat.le_trans (namesF_len _ _) ?_
  rw [List.length_append]
  omega
theorem bothT_len (x : Arx) (h1 : x.cond.length ≤ 1048576) (h2 : x.thn.length ≤ 1048576) : (bothT x).length ≤ 2097152 := by
  refine Nat.le_trans (namesF_len _ _) ?_
  rw [List.length_append]
  omega
set_option maxHeartbeats 8000000 in
theorem flaw_ok (b : List Acx) (hS : BodyS b) (hw : (whoseL b).length ≤ 70368744177664) (hA : (attrN b).length ≤ 1048576) (hT : (tabN b).length ≤ 1048576) (hR : (refN b).length ≤ 1048576) (hL : (dangF b).length ≤ 100000000) (attr tab : ByteArray) :
    Pure Tryz.prog 5 [encL 6 cAcx b, S attr, S tab] (B true) := by
  have hb := hS.ok
  have q0 := sbegun_ok
  have q1 := scopyF_ok b hb
  have q2 := rwhose_ok b hS hw
  have q3 := declared_ok b (fun a ha => ⟨(hb.lens a ha).1, (hb.lens a ha).2.1⟩) hA hT
  have hP := hb.okP
  have hal := hb.lens
  generalize bOf (whoseL b) = W at *
  intro h; refine CallK.lens fun hlen => ?_; have hlen := (hlen _ (by simp only [List.mem_cons, true_or, or_true] : (encL 6 cAcx b) ∈ _)).encL; refine callK_body Tryz.func5 rfl (by rw [nt5]; simp) ?_; rw [nt5, rs5]
  (repeat' (first | simp [go_sem, X_region, *] | simp (disch := omega) only [om, *] | ((first | refine XC_split ?_ ?_ | refine XG_true ?_ ?_ | refine XG_false ?_ ?_ | refine XRg_true ?_ ?_ | refine XRg_false ?_ ?_) <;> intro hc <;> (try simp only [bl] at hc) <;> (try (exfalso; omega))) | refine XD_w [] [] [] (fun _ => none) mixed (by decide +kernel) (sub_none _) ?_ | refine Pure.call (q0) ?_ | refine ⟨_, Pure.at (q0), ?_⟩ | refine ⟨_, q0, ?_⟩ | refine PureAt.call (q0) ?_ | refine Pure.call (q1) ?_ | refine ⟨_, Pure.at (q1), ?_⟩ | refine ⟨_, q1, ?_⟩ | refine PureAt.call (q1) ?_ | refine Pure.call (q2) ?_ | refine ⟨_, Pure.at (q2), ?_⟩ | refine ⟨_, q2, ?_⟩ | refine PureAt.call (q2) ?_ | refine Pure.call (q3) ?_ | refine ⟨_, Pure.at (q3), ?_⟩ | refine ⟨_, q3, ?_⟩ | refine PureAt.call (q3) ?_ | fail))
  intro m1 hm1 m2 n1 n2 hm2
  have S0 : Sub h (upd (upd h m1 (some (mapOb 0 0 fun _ _ => .any))) m2 (some (mapOb 0 0 fun _ _ => .any))) := Sub.upd hm2 (Sub.upd hm1 (Sub.refl _))
  refine X_lpF (fun i => (7 ≤ i ∧ i ≤ 9) ∨ i = 15 ∨ (17 ≤ i ∧ i ≤ 21) ∨ i = 23 ∨ i = 25 ∨ (27 ≤ i ∧ i ≤ 29) ∨ (52 ≤ i ∧ i ≤ 166)) (fun n T g => ∃ (i : Nat) (r : List Acx) (u v : List Rf) (w : List Lo) (l1 l2 : List ByteArray), n = r.length ∧ i ≤ b.length ∧ b.drop i = r ∧ T 52 = I i ∧ LS h g (T 7) (T 8) (T 9) m1 m2 u v w l1 l2 ∧ Rest b attr tab (pairs r) u v w l1 l2) b.length
    ⟨0, b, [], [], [], [], [], rfl, by omega, rfl, by simp [go_sem], ⟨⟨by simpa [go_sem] using nil_own S0, by simpa [go_sem] using nil_own S0, fun c h1 => by simp [go_sem] at h1⟩, by simpa [go_sem] using nil_own S0, n2, ⟨hm1, hm2⟩, ⟨_, (upd_ne _ _ n2).trans (upd_same _ _ _), SetM.nil _⟩, ⟨_, upd_same _ _ _, SetM.nil _⟩⟩, ⟨rfl, rfl, rfl, rfl, rfl⟩⟩ ?_
  clear S0 hm1 hm2 q0 q1 q2 q3
  rintro J hJ n T g hfr ⟨i, r, u, v, w, l1, l2, rfl, hi, hd, t52, d, rs⟩
  rcases r with _ | ⟨a, r⟩
  · have hlt := drop_nil hd
    obtain ⟨e1, e2, e3, e4, e5⟩ := rs
    have k0 := unused_ok b hb hA hT
    have k1 := uses_ok b hb hR attr g
    have k2 := scales_ok b hb hR tab g
    have k3 := dang_ok b hb hL g
    rw [← pickA_same] at k1
    rw [← pickT_same] at k2
    change u ++ [] = _ at e1
    change v ++ [] = _ at e2
    change w ++ [] = _ at e3
    change l1 ++ [] = _ at e4
    change l2 ++ [] = _ at e5
    rw [List.append_nil] at e1 e2 e3 e4 e5
    have u1 : u.length ≤ 1048576 := by rw [e1]; exact Nat.le_trans (pickP_len _ _) (by rw [refN_len]; exact hR)
    have v1 : v.length ≤ 1048576 := by rw [e2]; exact Nat.le_trans (pickP_len _ _) (by rw [refN_len]; exact hR)
    have w1 : w.length ≤ 100000000 := by rw [e3]; exact hL
    rw [← e1] at k1
    rw [← e2] at k2
    rw [← e3] at k3
    have k0 : Pure Tryz.prog 32 [encL 6 cAcx b] (tup2 (encL 1 cS ((attrN b).filter fun s => !hasB l1 s)) (encL 1 cS ((tabN b).filter fun s => !hasB l2 s))) := by rw [e4, e5]; exact k0
    clear e1 e2 e3 e4 e5
    obtain ⟨o1, a1, a2⟩ := d.a
    obtain ⟨o2, b1, b2⟩ := d.b
    have p1 : PureAt Tryz.prog g 37 [encL 2 cRf u, T 7] (B true) := by
      have := Pure.lend (eqRf_ok u u) (.cons (Lend.refl _) (.cons (d.tw.a.lend (by omega)) .nil)) (Flat.v _)
      rwa [decide_eq_true rfl] at this
    have p2 : PureAt Tryz.prog g 37 [encL 2 cRf v, T 8] (B true) := by
      have := Pure.lend (eqRf_ok v v) (.cons (Lend.refl _) (.cons (d.tw.b.lend (by omega)) .nil)) (Flat.v _)
      rwa [decide_eq_true rfl] at this
    have p3 : PureAt Tryz.prog g 40 [encL 5 cLo w, T 9] (B true) := by
      have := Pure.lend (eqLo_ok w w) (.cons (Lend.refl _) (.cons (d.c.lend (by omega)) .nil)) (Flat.v _)
      rwa [decide_eq_true rfl] at this
    have f1 := free_ok (attrN b) l1 (by omega) a1 a2
    have f2 := free_ok (tabN b) l2 (by omega) b1 b2
    have s1 := eqs_ok ((attrN b).filter fun s => !hasB l1 s) ((attrN b).filter fun s => !hasB l1 s)
    have s2 := eqs_ok ((tabN b).filter fun s => !hasB l2 s) ((tabN b).filter fun s => !hasB l2 s)
    rw [decide_eq_true rfl] at s1 s2
    have hSub := d.sub
    generalize (attrN b).filter (fun s => !hasB l1 s) = U1 at *
    generalize (tabN b).filter (fun s => !hasB l2 s) = U2 at *
    clear a1 a2 b1 b2 d
    (repeat' (first | simp [go_sem, X_region, *] | simp (disch := omega) only [om, *] | ((first | refine XC_split ?_ ?_ | refine XG_true ?_ ?_ | refine XG_false ?_ ?_ | refine XRg_true ?_ ?_ | refine XRg_false ?_ ?_) <;> intro hc <;> (try simp only [bl] at hc) <;> (try (exfalso; omega))) | refine XD_w [] [] [] (fun _ => none) mixed (by decide +kernel) (sub_none _) ?_ | refine Pure.call (k0) ?_ | refine ⟨_, Pure.at (k0), ?_⟩ | refine ⟨_, k0, ?_⟩ | refine PureAt.call (k0) ?_ | refine Pure.call (k1) ?_ | refine ⟨_, Pure.at (k1), ?_⟩ | refine ⟨_, k1, ?_⟩ | refine PureAt.call (k1) ?_ | refine Pure.call (k2) ?_ | refine ⟨_, Pure.at (k2), ?_⟩ | refine ⟨_, k2, ?_⟩ | refine PureAt.call (k2) ?_ | refine Pure.call (k3) ?_ | refine ⟨_, Pure.at (k3), ?_⟩ | refine ⟨_, k3, ?_⟩ | refine PureAt.call (k3) ?_ | refine Pure.call (p1) ?_ | refine ⟨_, Pure.at (p1), ?_⟩ | refine ⟨_, p1, ?_⟩ | refine PureAt.call (p1) ?_ | refine Pure.call (p2) ?_ | refine ⟨_, Pure.at (p2), ?_⟩ | refine ⟨_, p2, ?_⟩ | refine PureAt.call (p2) ?_ | refine Pure.call (p3) ?_ | refine ⟨_, Pure.at (p3), ?_⟩ | refine ⟨_, p3, ?_⟩ | refine PureAt.call (p3) ?_ | refine Pure.call (f1) ?_ | refine ⟨_, Pure.at (f1), ?_⟩ | refine ⟨_, f1, ?_⟩ | refine PureAt.call (f1) ?_ | refine Pure.call (f2) ?_ | refine ⟨_, Pure.at (f2), ?_⟩ | refine ⟨_, f2, ?_⟩ | refine PureAt.call (f2) ?_ | refine Pure.call (s1) ?_ | refine ⟨_, Pure.at (s1), ?_⟩ | refine ⟨_, s1, ?_⟩ | refine PureAt.call (s1) ?_ | refine Pure.call (s2) ?_ | refine ⟨_, Pure.at (s2), ?_⟩ | refine ⟨_, s2, ?_⟩ | refine PureAt.call (s2) ?_ | fail))
    exact Wk.drop _ hSub
  · obtain ⟨hlt, hx, hd2⟩ := drop_cons hd
    have ham : a ∈ b := by rw [← hx]; exact List.getElem_mem hlt
    have hxl := (hal a ham).2.2
    have hPa : ∀ x ∈ a.arts, okP ((a.name, x.name), x) := fun x hx => hP _ (by simp only [pairs, List.mem_flatMap, List.mem_map]; exact ⟨a, ham, x, hx, rfl⟩)
    (repeat' (first | simp [go_sem, X_region, *] | simp (disch := omega) only [om, *] | ((first | refine XC_split ?_ ?_ | refine XG_true ?_ ?_ | refine XG_false ?_ ?_ | refine XRg_true ?_ ?_ | refine XRg_false ?_ ?_) <;> intro hc <;> (try simp only [bl] at hc) <;> (try (exfalso; omega))) | refine XD_w [] [] [] (fun _ => none) mixed (by decide +kernel) (sub_none _) ?_ | fail))
    intro b15 hb15
    have h15 : h b15 = none := sub_none_of d.sub hb15
    have d2 := fun ob => d.with_ (ok := ob) hb15
    have rs : Rest b attr tab (a.arts.map (fun x => ((a.name, x.name), x)) ++ pairs r) u v w l1 l2 := rs
    (repeat' (first | simp [go_sem, X_region, *] | simp (disch := omega) only [om, *] | ((first | refine XC_split ?_ ?_ | refine XG_true ?_ ?_ | refine XG_false ?_ ?_ | refine XRg_true ?_ ?_ | refine XRg_false ?_ ?_) <;> intro hc <;> (try simp only [bl] at hc) <;> (try (exfalso; omega))) | refine XD_w [] [] [] (fun _ => none) mixed (by decide +kernel) (sub_none _) ?_ | fail))
    refine X_lpF (fun i => (7 ≤ i ∧ i ≤ 9) ∨ (17 ≤ i ∧ i ≤ 21) ∨ i = 23 ∨ i = 25 ∨ (27 ≤ i ∧ i ≤ 29) ∨ (59 ≤ i ∧ i ≤ 165)) (fun n T' g => ∃ (j : Nat) (rk : List Arx) (u v : List Rf) (w : List Lo) (l1 l2 : List ByteArray) (ob : Ob), n = rk.length ∧ j ≤ a.arts.length ∧ a.arts.drop j = rk ∧ T' 59 = I j ∧ LS (upd h b15 (some ob)) g (T' 7) (T' 8) (T' 9) m1 m2 u v w l1 l2 ∧ Rest b attr tab (rk.map (fun x => ((a.name, x.name), x)) ++ pairs r) u v w l1 l2 ∧ ob.ty = 37 ∧ ob.s = 6 ∧ ob.n = 1 ∧ ob.f 0 0 = S a.name) a.arts.length
      ⟨0, a.arts, u, v, w, l1, l2, _, rfl, by omega, rfl, by simp [go_sem], by simpa [go_sem] using d2 _, rs, rfl, rfl, rfl, rfl⟩ ?_
    clear d rs d2
    rintro J2 hJ2 n2' T2 g2 hfr2 ⟨j, rk, u, v, w, l1, l2, ob, rfl, hj, hdk, t59, d, rs, p1, p2, p3, p4⟩
    have e15 := d.sub b15 _ (upd_same _ _ _)
    obtain ⟨x7, e7⟩ : ∃ x, T2 7 = x := ⟨_, rfl⟩
    obtain ⟨x8, e8⟩ : ∃ x, T2 8 = x := ⟨_, rfl⟩
    obtain ⟨x9, e9⟩ : ∃ x, T2 9 = x := ⟨_, rfl⟩
    rw [e7, e8, e9] at d
    rcases rk with _ | ⟨x, rk⟩
    · have hltk := drop_nil hdk
      (repeat' (first | simp [go_sem, X_region, *] | simp (disch := omega) only [om, *] | ((first | refine XC_split ?_ ?_ | refine XG_true ?_ ?_ | refine XG_false ?_ ?_ | refine XRg_true ?_ ?_ | refine XRg_false ?_ ?_) <;> intro hc <;> (try simp only [bl] at hc) <;> (try (exfalso; omega))) | refine XD_w [] [] [] (fun _ => none) mixed (by decide +kernel) (sub_none _) ?_ | fail))
      exact ⟨_, Nat.lt_succ_self _, hJ.out _ _ _ ⟨(by (repeat (refine fr_upd (by decide) ?_)); exact fr_in (by intro i; omega) hfr2 (by (repeat (refine fr_upd (by decide) ?_)); exact hfr)), i + 1, r, u, v, w, l1, l2, rfl, by omega, hd2, by simp [go_sem], by simpa [go_sem, e7, e8, e9] using d.up (Sub.upd h15 (Sub.refl _)), rs⟩⟩
    · obtain ⟨hltk, hxk, hdk2⟩ := drop_cons hdk
      have hxm : x ∈ a.arts := by rw [← hxk]; exact List.getElem_mem hltk
      have hxP := hPa x hxm
      (repeat' (first | simp [go_sem, X_region, *] | simp (disch := omega) only [om, *] | ((first | refine XC_split ?_ ?_ | refine XG_true ?_ ?_ | refine XG_false ?_ ?_ | refine XRg_true ?_ ?_ | refine XRg_false ?_ ?_) <;> intro hc <;> (try simp only [bl] at hc) <;> (try (exfalso; omega))) | fail))
      intro b17 hb17
      have j17 := ne_free hb17 e15
      (repeat' (first | simp [go_sem, X_region, *] | simp (disch := omega) only [om, *] | ((first | refine XC_split ?_ ?_ | refine XG_true ?_ ?_ | refine XG_false ?_ ?_ | refine XRg_true ?_ ?_ | refine XRg_false ?_ ?_) <;> intro hc <;> (try simp only [bl] at hc) <;> (try (exfalso; omega))) | fail))
      intro b18 n18a n18b hb18
      (repeat' (first | simp [go_sem, X_region, *] | simp (disch := omega) only [om, *] | ((first | refine XC_split ?_ ?_ | refine XG_true ?_ ?_ | refine XG_false ?_ ?_ | refine XRg_true ?_ ?_ | refine XRg_false ?_ ?_) <;> intro hc <;> (try simp only [bl] at hc) <;> (try (exfalso; omega))) | fail))
      have d4 := fun o1 o2 => (d.with_ (ok := o1) hb17).with_ (k := b18) (ok := o2) (by rw [upd_ne _ _ (by first | exact n18a | exact n18b)]; exact hb18)
      refine XD_abs (fun H => ∃ o17 o18 : Ob, LS (upd (upd (upd h b15 (some ob)) b17 (some o17)) b18 (some o18)) H x7 x8 x9 m1 m2 u v w l1 l2 ∧ (o17.ty = 50 ∧ o17.s = 6 ∧ o17.n = 1 ∧ o17.f 0 1 = S x.target ∧ o17.f 0 2 = encL 5 cNd x.cond ∧ o17.f 0 3 = encL 5 cNd x.thn ∧ o17.f 0 4 = encL 2 cRf x.over) ∧ (o18.ty = 25 ∧ o18.s = 2 ∧ o18.n = 1 ∧ o18.f 0 0 = S a.name ∧ o18.f 0 1 = S x.name))
        ⟨_, _, d4 _ _, ⟨rfl, rfl, rfl, by simp, by simp [go_sem], by simp [go_sem], by simp [go_sem]⟩, rfl, rfl, rfl, by simp, by simp⟩ ?_
      have h17 : upd h b15 (some ob) b17 = none := sub_none_of d.sub hb17
      have h18 : upd h b15 (some ob) b18 = none := sub_none_of d.sub hb18
      clear d4 d e15 hb18
      rintro H0 ⟨o17, o18, d, ⟨f1, f2, f3, f4, f5, f6, f7⟩, ⟨r1, r2, r3, r4, r5⟩⟩
      have e17 := d.sub b17 _ ((upd_ne _ _ (by first | exact n18a | exact n18b)).trans (upd_same _ _ _))
      have e18 := d.sub b18 _ (upd_same _ _ _)
      generalize hC : Code.seq (Code.seq (Code.region 16 _ _) _) _ = C
      replace hC : Hid (_ = C) := ⟨hC⟩
      (refine XD_p [] [1, 4] [2, 5] [0, 3, 1, 4, 2, 5, 6] _ mixed (by decide +kernel) (Sub.refl _) ?_; simp only [List.filterMap_cons, List.filterMap_nil, List.getElem?_cons_succ, List.getElem?_cons_zero, Option.map_some])
      (repeat' (first | simp [go_sem, X_region, *] | simp (disch := omega) only [om, *] | ((first | refine XC_split ?_ ?_ | refine XG_true ?_ ?_ | refine XG_false ?_ ?_ | refine XRg_true ?_ ?_ | refine XRg_false ?_ ?_) <;> intro hc <;> (try simp only [bl] at hc) <;> (try (exfalso; omega))) | refine XD_w [] [] [] (fun _ => none) mixed (by decide +kernel) (sub_none _) ?_ | fail))
      refine (cloneNd_ok x.cond hxP.1 _).mono fun c1 g3 o1 => ⟨o1.1, ?_⟩
      have hx1 : x.cond.length ≤ 1048576 := hxP.1
      have hx2 : x.thn.length ≤ 1048576 := hxP.2.1
      refine Own.append (h0 := H0) (e := 65) (s := 5) (n := x.cond.length) (f := cellsL cNd x.cond) (m := x.thn.length) (q := cellsL cNd x.thn) (by simpa [go_sem] using o1) und47 zr65 by65 (by simp [go_sem]) (by simp [go_sem]) (by omega) (by omega) fun c2 g4 o2 _ => ?_
      replace o2 := own_app o2
      clear o1
      unfold wQ
      refine ⟨fun _ => o2.1, ?_⟩
      replace d := d.grow o2.1
      replace e17 := o2.1 _ _ e17
      replace e18 := o2.1 _ _ e18
      have hbl : (x.cond ++ x.thn).length ≤ 1000000000 := by rw [List.length_append]; omega
      (repeat' (first | simp [go_sem, X_region, *] | simp (disch := omega) only [om, *] | ((first | refine XC_split ?_ ?_ | refine XG_true ?_ ?_ | refine XG_false ?_ ?_ | refine XRg_true ?_ ?_ | refine XRg_false ?_ ?_) <;> intro hc <;> (try simp only [bl] at hc) <;> (try (exfalso; omega))) | refine XD_w [] [] [] (fun _ => none) mixed (by decide +kernel) (sub_none _) ?_ | fail))
      intro bo hbo
      have lc := fun o => (own_grow (h1 := upd g4 bo (some o)) o2 (Sub.upd hbo (Sub.refl g4))).lend (by omega)
      refine (namesOwn_ok (x.cond ++ x.thn) hbl [1, 2, 3] (by decide) (lc _) (Lend.row (upd_same _ _ _) rfl (Nat.le_refl _) (by decide) fun i hi j hj => ?_)).mono fun y g5 oy => ?_
      · have hi : i < 3 := hi
        have hj : j < 1 := hj
        obtain rfl : j = 0 := by omega
        rcases (show i = 0 ∨ i = 1 ∨ i = 2 by omega) with rfl | rfl | rfl <;> rfl
      have s45 : Sub g4 g5 := (Sub.upd hbo (Sub.refl g4)).trans oy.1
      have sy : Side (upd (upd (upd h b15 (some ob)) b17 (some o17)) b18 (some o18)) g5 y (bothA x) := own_up (d.sub.trans (Sub.upd hbo (Sub.refl g4))) oy
      replace d := d.grow s45
      replace e17 := s45 _ _ e17
      replace e18 := s45 _ _ e18
      clear oy lc
      intro bo2 hbo2
      have lc := fun o => (own_grow (h1 := upd g5 bo2 (some o)) o2 (s45.trans (Sub.upd hbo2 (Sub.refl g5)))).lend (by omega)
      refine PureAt.call (CallK.frz (e := 9) ?_ (namesOwn_ok (x.cond ++ x.thn) hbl [16] (by decide) (lc _) (Lend.row (upd_same _ _ _) rfl (Nat.le_refl _) (by decide) fun i hi j hj => ?_))) ?_
      · have := bothT_len x hx1 hx2
        unfold bothT at this
        omega
      · have hi : i < 1 := hi
        have hj : j < 1 := hj
        obtain rfl : j = 0 := by omega
        obtain rfl : i = 0 := by omega
        rfl
      change X Tryz.prog _ _ (upd (upd _ _ _) _ (encL 1 cS (bothT x))) _ _
      refine X_abs (fun T' => (∀ i, ¬ ((60 ≤ i ∧ i ≤ 79) ∨ (17 ≤ i ∧ i ≤ 21)) → T' i = T2 i) ∧ T' 17 = ptrB b17 ∧ T' 18 = ptrB b18 ∧ T' 20 = y ∧ T' 21 = encL 1 cS (bothT x)) ⟨(by (repeat (refine fr_upd (by decide) ?_)); exact fun _ _ => rfl), by simp [go_sem], by simp [go_sem], by simp [go_sem], by simp [go_sem]⟩ ?_
      rintro T3 ⟨hfr3, t17, t18, t20, t21⟩
      refine X_absH (fun H => LS (upd (upd (upd h b15 (some ob)) b17 (some o17)) b18 (some o18)) H x7 x8 x9 m1 m2 u v w l1 l2 ∧ Side (upd (upd (upd h b15 (some ob)) b17 (some o17)) b18 (some o18)) H y (bothA x)) ⟨d.grow (Sub.upd hbo2 (Sub.refl _)), own_grow sy (Sub.upd hbo2 (Sub.refl _))⟩ ?_
      clear d sy e17 e18 lc s45 o2 hbo hbo2
      rintro H ⟨d, sy⟩
      have hb17 : ∀ {G}, Sub (upd (upd (upd h b15 (some ob)) b17 (some o17)) b18 (some o18)) G → G b17 = some o17 := fun hS => hS _ _ ((upd_ne _ _ (by first | exact n18a | exact n18b)).trans (upd_same _ _ _))
      have hb18 : ∀ {G}, Sub (upd (upd (upd h b15 (some ob)) b17 (some o17)) b18 (some o18)) G → G b18 = some o18 := fun hS => hS _ _ (upd_same _ _ _)
      have hS1 : Sub (upd h b15 (some ob)) (upd (upd (upd h b15 (some ob)) b17 (some o17)) b18 (some o18)) := by
        exact Sub.upd h18 (Sub.upd h17 (Sub.refl _))
      generalize upd (upd (upd h b15 (some ob)) b17 (some o17)) b18 (some o18) = Bx at *
      rw [← hC.out]
      clear hC C
      have bl := bothA_len x hx1 hx2
      have ct := Pure.lend (contB_ok attr (bothA x)) (.cons (sy.lend (by omega)) (.cons (Lend.refl _) .nil)) (Flat.v _)
      have hu : u.length ≤ 1048576 := by
        have h1 := congrArg List.length rs.u
        have h2 := pickP_len (fun x => hasB (bothA x) attr) (pairs b)
        rw [refN_len] at h2
        rw [List.length_append] at h1
        omega
      have hv : v.length ≤ 1048576 := by
        have h1 := congrArg List.length rs.v
        have h2 := pickP_len (fun x => hasB (bothT x) tab) (pairs b)
        rw [refN_len] at h2
        rw [List.length_append] at h1
        omega
      refine X_joinU (fun i => i = 7 ∨ (80 ≤ i ∧ i ≤ 86)) (fun T' h' => ∃ x7 u', T' 7 = x7 ∧ LS Bx h' x7 x8 x9 m1 m2 u' v w l1 l2 ∧ Side Bx h' y (bothA x) ∧ u' = if hasB (bothA x) attr = true then u ++ [(a.name, x.name)] else u) (fun Qn hQ => ?_) ?_
      · cases hh : hasB (bothA x) attr
        · rw [hh] at ct
          (repeat' (first | simp [go_sem, X_region, *] | simp (disch := omega) only [om, *] | ((first | refine XC_split ?_ ?_ | refine XG_true ?_ ?_ | refine XG_false ?_ ?_ | refine XRg_true ?_ ?_ | refine XRg_false ?_ ?_) <;> intro hc <;> (try simp only [bl] at hc) <;> (try (exfalso; omega))) | refine XD_w [] [] [] (fun _ => none) mixed (by decide +kernel) (sub_none _) ?_ | refine Pure.call (ct) ?_ | refine ⟨_, Pure.at (ct), ?_⟩ | refine ⟨_, ct, ?_⟩ | refine PureAt.call (ct) ?_ | fail))
          exact hQ _ _ (by (repeat (refine fr_upd (by decide) ?_)); exact fun _ _ => rfl) ⟨x7, u, by simp [go_sem, *], d, sy, by simp [hh]⟩
        · rw [hh] at ct
          obtain ⟨H7, o7, k7⟩ := d.push7
          have e18 := hb18 d.sub
          (repeat' (first | simp [go_sem, X_region, *] | simp (disch := omega) only [om, *] | ((first | refine XC_split ?_ ?_ | refine XG_true ?_ ?_ | refine XG_false ?_ ?_ | refine XRg_true ?_ ?_ | refine XRg_false ?_ ?_) <;> intro hc <;> (try simp only [bl] at hc) <;> (try (exfalso; omega))) | refine XD_w [] [] [] (fun _ => none) mixed (by decide +kernel) (sub_none _) ?_ | refine Pure.call (ct) ?_ | refine ⟨_, Pure.at (ct), ?_⟩ | refine ⟨_, ct, ?_⟩ | refine PureAt.call (ct) ?_ | fail))
          intro bl hbl
          refine Own.push (x := (a.name, x.name)) (enc := cRf) o7 (by simp [go_sem]) und48 zr25 by25 (by simp [go_sem]) hbl (by simp [go_sem]) rfl (Nat.le_refl _) (by simp [go_sem]) (by omega) (by omega) fun a1 h1 o1 _ => ?_
          obtain ⟨d', s'⟩ := k7 _ _ _ o1
          (repeat' (first | simp [go_sem, X_region, *] | simp (disch := omega) only [om, *] | ((first | refine XC_split ?_ ?_ | refine XG_true ?_ ?_ | refine XG_false ?_ ?_ | refine XRg_true ?_ ?_ | refine XRg_false ?_ ?_) <;> intro hc <;> (try simp only [bl] at hc) <;> (try (exfalso; omega))) | refine XD_w [] [] [] (fun _ => none) mixed (by decide +kernel) (sub_none _) ?_ | fail))
          exact hQ _ _ (by (repeat (refine fr_upd (by decide) ?_)); exact fun _ _ => rfl) ⟨_, _, by simp [go_sem], d', s' _ _ sy, by simp [hh]⟩
      clear d sy ct
      rintro T4 H4 hfr4 ⟨x7', u', t7, d, sy, hu'⟩
      have ct := contB_ok tab (bothT x)
      refine X_joinU (fun i => i = 8 ∨ (87 ≤ i ∧ i ≤ 93)) (fun T' h' => ∃ x8 v', T' 8 = x8 ∧ LS Bx h' x7' x8 x9 m1 m2 u' v' w l1 l2 ∧ Side Bx h' y (bothA x) ∧ v' = if hasB (bothT x) tab = true then v ++ [(a.name, x.name)] else v) (fun Qn hQ => ?_) ?_
      · cases hh : hasB (bothT x) tab
        · rw [hh] at ct
          (repeat' (first | simp [go_sem, X_region, *] | simp (disch := omega) only [om, *] | ((first | refine XC_split ?_ ?_ | refine XG_true ?_ ?_ | refine XG_false ?_ ?_ | refine XRg_true ?_ ?_ | refine XRg_false ?_ ?_) <;> intro hc <;> (try simp only [bl] at hc) <;> (try (exfalso; omega))) | refine XD_w [] [] [] (fun _ => none) mixed (by decide +kernel) (sub_none _) ?_ | refine Pure.call (ct) ?_ | refine ⟨_, Pure.at (ct), ?_⟩ | refine ⟨_, ct, ?_⟩ | refine PureAt.call (ct) ?_ | fail))
          exact hQ _ _ (by (repeat (refine fr_upd (by decide) ?_)); exact fun _ _ => rfl) ⟨x8, v, by simp [go_sem, *], d, sy, by simp [hh]⟩
        · rw [hh] at ct
          obtain ⟨H7, o7, k7⟩ := d.push8
          have e18 := hb18 d.sub
          (repeat' (first | simp [go_sem, X_region, *] | simp (disch := omega) only [om, *] | ((first | refine XC_split ?_ ?_ | refine XG_true ?_ ?_ | refine XG_false ?_ ?_ | refine XRg_true ?_ ?_ | refine XRg_false ?_ ?_) <;> intro hc <;> (try simp only [bl] at hc) <;> (try (exfalso; omega))) | refine XD_w [] [] [] (fun _ => none) mixed (by decide +kernel) (sub_none _) ?_ | refine Pure.call (ct) ?_ | refine ⟨_, Pure.at (ct), ?_⟩ | refine ⟨_, ct, ?_⟩ | refine PureAt.call (ct) ?_ | fail))
          intro bl hbl
          refine Own.push (x := (a.name, x.name)) (enc := cRf) o7 (by simp [go_sem]) und48 zr25 by25 (by simp [go_sem]) hbl (by simp [go_sem]) rfl (Nat.le_refl _) (by simp [go_sem]) (by omega) (by omega) fun a1 h1 o1 _ => ?_
          obtain ⟨d', s'⟩ := k7 _ _ _ o1
          (repeat' (first | simp [go_sem, X_region, *] | simp (disch := omega) only [om, *] | ((first | refine XC_split ?_ ?_ | refine XG_true ?_ ?_ | refine XG_false ?_ ?_ | refine XRg_true ?_ ?_ | refine XRg_false ?_ ?_) <;> intro hc <;> (try simp only [bl] at hc) <;> (try (exfalso; omega))) | refine XD_w [] [] [] (fun _ => none) mixed (by decide +kernel) (sub_none _) ?_ | fail))
          exact hQ _ _ (by (repeat (refine fr_upd (by decide) ?_)); exact fun _ _ => rfl) ⟨_, _, by simp [go_sem], d', s' _ _ sy, by simp [hh]⟩
      clear d sy ct
      rintro T5 H5 hfr5 ⟨x8', v', t8, d, sy, hv'⟩
      obtain ⟨L, hL0⟩ : ∃ L, rk.map (fun x => ((a.name, x.name), x)) ++ pairs r = L := ⟨_, rfl⟩
      have rs' : Rest b attr tab (((a.name, x.name), x) :: L) u v w l1 l2 := by rw [← hL0]; exact rs
      obtain ⟨qu, qv, qw, qa, qb⟩ := Rest.step rs'
      clear rs rs'
      rw [← hu'] at qu
      rw [← hv'] at qv
      rw [bothT_eq] at t21
      replace qw : Hid _ := ⟨qw⟩
      replace qa : Hid _ := ⟨qa⟩
      replace qb : Hid _ := ⟨qb⟩
      have t20' : T5 20 = y := by rw [hfr5 20 (by decide), hfr4 20 (by decide)]; exact t20
      have t21' : T5 21 = encL 1 cS (nmT x) := by rw [hfr5 21 (by decide), hfr4 21 (by decide)]; exact t21
      have hlA := nmA_len x hxP
      have hlT := nmT_len x hxP
      have e17 := hb17 d.sub
      obtain ⟨H6, o6, d6⟩ := d.side sy
      (repeat' (first | simp [go_sem, X_region, *] | simp (disch := omega) only [om, *] | ((first | refine XC_split ?_ ?_ | refine XG_true ?_ ?_ | refine XG_false ?_ ?_ | refine XRg_true ?_ ?_ | refine XRg_false ?_ ?_) <;> intro hc <;> (try simp only [bl] at hc) <;> (try (exfalso; omega))) | refine XD_w [] [] [] (fun _ => none) mixed (by decide +kernel) (sub_none _) ?_ | fail))
      intro bl hbl
      refine Own.push (x := x.target) (enc := cS) o6 (by simp [go_sem, *]) und54 zr9 by9 (by simp [go_sem]) hbl (by simp [go_sem]) rfl (Nat.le_refl _) (by simp [go_sem, *]) (by omega) (by omega) fun a1 h1 o1 _ => ?_
      have hl1 : (bothA x ++ [x.target]).length ≤ 2097153 := by rw [List.length_append]; simp; omega
      (repeat' (first | simp [go_sem, X_region, *] | simp (disch := omega) only [om, *] | ((first | refine XC_split ?_ ?_ | refine XG_true ?_ ?_ | refine XG_false ?_ ?_ | refine XRg_true ?_ ?_ | refine XRg_false ?_ ?_) <;> intro hc <;> (try simp only [bl] at hc) <;> (try (exfalso; omega))) | refine XD_w [] [] [] (fun _ => none) mixed (by decide +kernel) (sub_none _) ?_ | fail))
      refine (sort_own (bothA x ++ [x.target]) (by omega) o1).mono fun _ g6 o2 => ?_
      (repeat' (first | simp [go_sem, X_region, *] | simp (disch := omega) only [om, *] | ((first | refine XC_split ?_ ?_ | refine XG_true ?_ ?_ | refine XG_false ?_ ?_ | refine XRg_true ?_ ?_ | refine XRg_false ?_ ?_) <;> intro hc <;> (try simp only [bl] at hc) <;> (try (exfalso; omega))) | refine XD_w [] [] [] (fun _ => none) mixed (by decide +kernel) (sub_none _) ?_ | fail))
      refine (CallK.fz (h0 := H6) (v := encL 1 cS (nmA x)) (fun r g hk => ?_) o2.1 (compact_own _ ?_ o2)).mono ?_
      · rw [← bothA_eq x]
        exact ownC_frozen hk (by rw [bothA_eq x]; omega)
      · rw [show ∀ l, (sortB l).length = l.length from fun l => by simp [sortB]]
        omega
      rintro _ _ ⟨rfl, rfl⟩
      clear o1 o2 d sy o6 e17
      (repeat' (first | simp [go_sem, X_region, *] | simp (disch := omega) only [om, *] | ((first | refine XC_split ?_ ?_ | refine XG_true ?_ ?_ | refine XG_false ?_ ?_ | refine XRg_true ?_ ?_ | refine XRg_false ?_ ?_) <;> intro hc <;> (try simp only [bl] at hc) <;> (try (exfalso; omega))) | refine XD_w [] [] [] (fun _ => none) mixed (by decide +kernel) (sub_none _) ?_ | fail))
      have e59 : T5 59 = I j := by rw [hfr5 59 (by decide), hfr4 59 (by decide), hfr3 59 (by decide)]; exact t59
      refine X_abs (fun T' => (∀ i, ¬ (fun i => (7 ≤ i ∧ i ≤ 9) ∨ (17 ≤ i ∧ i ≤ 21) ∨ i = 23 ∨ i = 25 ∨ (27 ≤ i ∧ i ≤ 29) ∨ (59 ≤ i ∧ i ≤ 165)) i → T' i = T2 i) ∧ T' 7 = x7' ∧ T' 8 = x8' ∧ T' 9 = x9 ∧ T' 102 = encL 1 cS (nmA x) ∧ T' 103 = I (nmA x).length ∧ T' 104 = I 0 ∧ T' 21 = encL 1 cS (nmT x) ∧ T' 17 = ptrB b17 ∧ T' 18 = ptrB b18 ∧ T' 59 = I j)
        ⟨?_, by simp [go_sem, *], by simp [go_sem, *], by simp [go_sem, *], by simp [go_sem, *], by simp [go_sem, *], by simp [go_sem, *], by simp [go_sem, *], by simp [go_sem, *], by simp [go_sem, *], by simp [go_sem, *]⟩ ?_
      · repeat (refine fr_upd (by decide) ?_)
        exact fr_in (by intro i; omega) hfr5 (fr_in (by intro i; omega) hfr4 (fr_in (by intro i; omega) hfr3 fun _ _ => rfl))
      clear t20 t21 t20' t21' t8 hfr3 hfr4 hfr5 t17 t18 e59
      rintro T6 ⟨hfr6, t7, t8, t9, t102, t103, t104, t21, t17, t18, t59'⟩
      obtain ⟨LA, hLA⟩ : ∃ LA, nmA x = LA := ⟨_, rfl⟩
      obtain ⟨LT, hLT⟩ : ∃ LT, nmT x = LT := ⟨_, rfl⟩
      rw [hLA] at qw qa t102 t103 hlA
      rw [hLT] at qw qb t21 hlT
      refine X_lpF (fun i => i = 9 ∨ i = 23 ∨ (104 ≤ i ∧ i ≤ 120)) (fun n T' g => ∃ (k : Nat) (l : List ByteArray) (x9 : AV) (w : List Lo) (l1 : List ByteArray), n = l.length ∧ k ≤ LA.length ∧ LA.drop k = l ∧ T' 104 = I k ∧ T' 9 = x9 ∧ LS Bx g x7' x8' x9 m1 m2 u' v' w l1 l2 ∧ Hid (w ++ (loA (attrN b) (a.name, x.name) l ++ (loT (tabN b) (a.name, x.name) LT ++ (loO (refN b) (a.name, x.name) x.over ++ looseP (attrN b) (tabN b) (refN b) L))) = dangF b) ∧ Hid (l1 ++ (l ++ L.flatMap fun p => nmA p.2) = allA b)) LA.length
        ⟨0, LA, x9, w, l1, rfl, by omega, rfl, by simp [go_sem, *], by simp [go_sem, *], d6, qw, qa⟩ ?_
      clear d6 qw qa hu hv
      rintro J3 hJ3 n3' T7 g7 hfr7 ⟨k, l, x9, w, l1, rfl, hk, hdl, t104, t9, d, qw, qa⟩
      rcases l with _ | ⟨s, l⟩
      · have hltl := drop_nil hdl
        replace qw : Hid (w ++ (loT (tabN b) (a.name, x.name) LT ++ (loO (refN b) (a.name, x.name) x.over ++ looseP (attrN b) (tabN b) (refN b) L)) = dangF b) := ⟨qw.out⟩
        replace qa : l1 ++ (L.flatMap fun p => nmA p.2) = allA b := qa.out
        (repeat' (first | simp [go_sem, X_region, *] | simp (disch := omega) only [om, *] | ((first | refine XC_split ?_ ?_ | refine XG_true ?_ ?_ | refine XG_false ?_ ?_ | refine XRg_true ?_ ?_ | refine XRg_false ?_ ?_) <;> intro hc <;> (try simp only [bl] at hc) <;> (try (exfalso; omega))) | refine XD_w [] [] [] (fun _ => none) mixed (by decide +kernel) (sub_none _) ?_ | fail))
        clear hJ3 hk hdl hltl
        refine X_lpF (fun i => i = 9 ∨ i = 25 ∨ (123 ≤ i ∧ i ≤ 139)) (fun n T' g => ∃ (k : Nat) (l : List ByteArray) (x9 : AV) (w : List Lo) (l2 : List ByteArray), n = l.length ∧ k ≤ LT.length ∧ LT.drop k = l ∧ T' 123 = I k ∧ T' 9 = x9 ∧ LS Bx g x7' x8' x9 m1 m2 u' v' w l1 l2 ∧ Hid (w ++ (loT (tabN b) (a.name, x.name) l ++ (loO (refN b) (a.name, x.name) x.over ++ looseP (attrN b) (tabN b) (refN b) L)) = dangF b) ∧ Hid (l2 ++ (l ++ L.flatMap fun p => nmT p.2) = allT b)) LT.length
          ⟨0, LT, x9, w, l2, rfl, by omega, rfl, by simp [go_sem, *], by simp [go_sem, *], d, qw, qb⟩ ?_
        clear d qw qb
        rintro J3 hJ3 n3' T8 g8 hfr8 ⟨k, l, x9', w, l2, rfl, hk, hdl, t123, t9', d, qw, qb⟩
        rcases l with _ | ⟨s, l⟩
        · have hltl := drop_nil hdl
          replace qw : Hid (w ++ (loO (refN b) (a.name, x.name) x.over ++ looseP (attrN b) (tabN b) (refN b) L) = dangF b) := ⟨qw.out⟩
          replace qb : l2 ++ (L.flatMap fun p => nmT p.2) = allT b := qb.out
          have e17 := hb17 d.sub
          (repeat' (first | simp [go_sem, X_region, *] | simp (disch := omega) only [om, *] | ((first | refine XC_split ?_ ?_ | refine XG_true ?_ ?_ | refine XG_false ?_ ?_ | refine XRg_true ?_ ?_ | refine XRg_false ?_ ?_) <;> intro hc <;> (try simp only [bl] at hc) <;> (try (exfalso; omega))) | refine XD_w [] [] [] (fun _ => none) mixed (by decide +kernel) (sub_none _) ?_ | fail))
          clear hJ3 hk hdl hltl e17
          have hxo : x.over.length ≤ 1048576 := hxP.2.2
          refine X_lpF (fun i => i = 9 ∨ (27 ≤ i ∧ i ≤ 29) ∨ (143 ≤ i ∧ i ≤ 164)) (fun n T' g => ∃ (k : Nat) (l : List Rf) (x9 : AV) (w : List Lo), n = l.length ∧ k ≤ x.over.length ∧ x.over.drop k = l ∧ T' 143 = I k ∧ T' 9 = x9 ∧ LS Bx g x7' x8' x9 m1 m2 u' v' w l1 l2 ∧ Hid (w ++ (loO (refN b) (a.name, x.name) l ++ looseP (attrN b) (tabN b) (refN b) L) = dangF b)) x.over.length
            ⟨0, x.over, x9', w, rfl, by omega, rfl, by simp [go_sem, *], by simp [go_sem, *], d, qw⟩ ?_
          clear d qw
          rintro J3 hJ3 n3' T9 g9 hfr9 ⟨k, l, x9'', w, rfl, hk, hdl, t143, t9'', d, qw⟩
          rcases l with _ | ⟨s, l⟩
          · have hltl := drop_nil hdl
            replace qw : w ++ looseP (attrN b) (tabN b) (refN b) L = dangF b := qw.out
            have e7' : T9 7 = x7' := by simp [hfr9, hfr8, hfr7, go_sem, t7]
            have e8' : T9 8 = x8' := by simp [hfr9, hfr8, hfr7, go_sem, t8]
            have rs' : Rest b attr tab (rk.map (fun x => ((a.name, x.name), x)) ++ pairs r) u' v' w l1 l2 := by rw [hL0]; exact ⟨qu, qv, qw, qa, qb⟩
            (repeat' (first | simp [go_sem, X_region, *] | simp (disch := omega) only [om, *] | ((first | refine XC_split ?_ ?_ | refine XG_true ?_ ?_ | refine XG_false ?_ ?_ | refine XRg_true ?_ ?_ | refine XRg_false ?_ ?_) <;> intro hc <;> (try simp only [bl] at hc) <;> (try (exfalso; omega))) | refine XD_w [] [] [] (fun _ => none) mixed (by decide +kernel) (sub_none _) ?_ | fail))
            refine ⟨_, Nat.lt_succ_self _, hJ2.out _ _ _ ⟨?_, j + 1, rk, u', v', w, l1, l2, ob, rfl, by omega, hdk2, by simp [go_sem], by simpa [go_sem, e7', e8', t9''] using d.up hS1, rs', p1, p2, p3, p4⟩⟩
            repeat (refine fr_upd (by decide) ?_)
            refine fr_in (by intro i; omega) hfr9 ?_
            repeat (refine fr_upd (by decide) ?_)
            refine fr_in (by intro i; omega) hfr8 ?_
            repeat (refine fr_upd (by decide) ?_)
            refine fr_in (by intro i; omega) hfr7 ?_
            exact fr_in (fun _ h => h) hfr6 hfr2
          · obtain ⟨hltl, hxl2, hdl2⟩ := drop_cons hdl
            have hw : IntKind.i64.wrap ((k : Int) + 1) = (k : Int) + 1 := by rw [w64 (by omega) (by omega)]
            have qw0 := qw.out
            rw [loO_cons] at qw0
            (repeat' (first | simp [go_sem, X_region, *] | simp (disch := omega) only [om, *] | ((first | refine XC_split ?_ ?_ | refine XG_true ?_ ?_ | refine XG_false ?_ ?_ | refine XRg_true ?_ ?_ | refine XRg_false ?_ ?_) <;> intro hc <;> (try simp only [bl] at hc) <;> (try (exfalso; omega))) | refine XD_w [] [] [] (fun _ => none) mixed (by decide +kernel) (sub_none _) ?_ | fail))
            intro b27 hb27
            (repeat' (first | simp [go_sem, X_region, *] | simp (disch := omega) only [om, *] | ((first | refine XC_split ?_ ?_ | refine XG_true ?_ ?_ | refine XG_false ?_ ?_ | refine XRg_true ?_ ?_ | refine XRg_false ?_ ?_) <;> intro hc <;> (try simp only [bl] at hc) <;> (try (exfalso; omega))) | refine XD_w [] [] [] (fun _ => none) mixed (by decide +kernel) (sub_none _) ?_ | fail))
            refine (artOf_ok b (fun a ha => (hal a ha).2.2) s _).mono ?_
            rintro rv _ ⟨xa, rfl, rfl⟩
            (repeat' (first | simp [go_sem, X_region, *] | simp (disch := omega) only [om, *] | ((first | refine XC_split ?_ ?_ | refine XG_true ?_ ?_ | refine XG_false ?_ ?_ | refine XRg_true ?_ ?_ | refine XRg_false ?_ ?_) <;> intro hc <;> (try simp only [bl] at hc) <;> (try (exfalso; omega))) | refine XD_w [] [] [] (fun _ => none) mixed (by decide +kernel) (sub_none _) ?_ | fail))
            intro b28 z1 z2 hb28
            have d' := fun o1 o2 => d.grow (g' := upd (upd g9 b27 (some o1)) b28 (some o2)) (Sub.upd hb28 (Sub.upd hb27 (Sub.refl _)))
            have e18 := hb18 d.sub
            have y1 := ne_free hb27 e18
            have y2 := ne_free hb28 e18
            cases hh : hasB (refN b) s
            · rw [if_neg (by rw [hh]; decide)] at qw0
              have hwl : w.length + 1 ≤ 100000000 := by have := congrArg List.length qw0; simp only [List.length_append, List.length_cons] at this; omega
              obtain ⟨H9, o9, k9⟩ := d.push9
              have o9 := fun q1 q2 => own_grow (h1 := upd (upd g9 b27 (some q1)) b28 (some q2)) o9 (Sub.upd hb28 (Sub.upd hb27 (Sub.refl _)))
              (repeat' (first | simp [go_sem, X_region, *] | simp (disch := omega) only [om, *] | ((first | refine XC_split ?_ ?_ | refine XG_true ?_ ?_ | refine XG_false ?_ ?_ | refine XRg_true ?_ ?_ | refine XRg_false ?_ ?_) <;> intro hc <;> (try simp only [bl] at hc) <;> (try (exfalso; omega))) | refine XD_w [] [] [] (fun _ => none) mixed (by decide +kernel) (sub_none _) ?_ | fail))
              intro bl3 z3 z4 z5 z6 hbl3
              refine Own.push (x := ⟨a.name, x.name, 3, s.2, s.1⟩) (enc := cLo) (o9 _ _) (by simp [go_sem, *]) und58 zr71 by71 (by simp [go_sem]) (by rw [upd_ne _ _ z3, upd_ne _ _ z5]; exact hbl3) (by simp [go_sem]) rfl (Nat.le_refl _) (by simp [go_sem]) (by omega) (by omega) fun a9 h9 o9' _ => ?_
              have d9 := k9 _ _ _ o9'
              (repeat' (first | simp [go_sem, X_region, *] | simp (disch := omega) only [om, *] | ((first | refine XC_split ?_ ?_ | refine XG_true ?_ ?_ | refine XG_false ?_ ?_ | refine XRg_true ?_ ?_ | refine XRg_false ?_ ?_) <;> intro hc <;> (try simp only [bl] at hc) <;> (try (exfalso; omega))) | refine XD_w [] [] [] (fun _ => none) mixed (by decide +kernel) (sub_none _) ?_ | fail))
              exact ⟨_, Nat.lt_succ_self _, hJ3.out _ _ _ ⟨(by (repeat (refine fr_upd (by decide) ?_)); exact hfr9), k + 1, l, a9, w ++ [⟨a.name, x.name, 3, s.2, s.1⟩], rfl, by omega, hdl2, by simp [go_sem, hw], by simp [go_sem], d9, ⟨by rw [← qw0]; simp⟩⟩⟩
            · rw [if_pos hh] at qw0
              (repeat' (first | simp [go_sem, X_region, *] | simp (disch := omega) only [om, *] | ((first | refine XC_split ?_ ?_ | refine XG_true ?_ ?_ | refine XG_false ?_ ?_ | refine XRg_true ?_ ?_ | refine XRg_false ?_ ?_) <;> intro hc <;> (try simp only [bl] at hc) <;> (try (exfalso; omega))) | refine XD_w [] [] [] (fun _ => none) mixed (by decide +kernel) (sub_none _) ?_ | fail))
              exact ⟨_, Nat.lt_succ_self _, hJ3.out _ _ _ ⟨(by (repeat (refine fr_upd (by decide) ?_)); exact hfr9), k + 1, l, x9'', w, rfl, by omega, hdl2, by simp [go_sem, hw], by simp [go_sem, t9''], d' _ _, ⟨qw0⟩⟩⟩
        · obtain ⟨hltl, hxl2, hdl2⟩ := drop_cons hdl
          have hw : IntKind.i64.wrap ((k : Int) + 1) = (k : Int) + 1 := by rw [w64 (by omega) (by omega)]
          have qw0 := qw.out
          rw [loT_cons] at qw0
          obtain ⟨o1, a1, a2⟩ := d.b
          have hcA := contB_ok s (tabN b)
          (repeat' (first | simp [go_sem, X_region, *] | simp (disch := omega) only [om, *] | ((first | refine XC_split ?_ ?_ | refine XG_true ?_ ?_ | refine XG_false ?_ ?_ | refine XRg_true ?_ ?_ | refine XRg_false ?_ ?_) <;> intro hc <;> (try simp only [bl] at hc) <;> (try (exfalso; omega))) | refine XD_w [] [] [] (fun _ => none) mixed (by decide +kernel) (sub_none _) ?_ | fail))
          refine X_setIns (k := s) a2 a1 (by simp [go_sem]) (by simp [go_sem]) (by simp [go_sem]) und61 (kq_s _) kz_s fun ob' h3 => ?_
          have d' := d.insB h3
          have qb' : Hid ((l2 ++ [s]) ++ (l ++ L.flatMap fun p => nmT p.2) = allT b) := ⟨by rw [← qb.out]; simp⟩
          cases hh : hasB (tabN b) s
          · rw [hh] at hcA
            rw [if_neg (by rw [hh]; decide)] at qw0
            have hwl : w.length + 1 ≤ 100000000 := by have := congrArg List.length qw0; simp only [List.length_append, List.length_cons] at this; omega
            obtain ⟨H9, o9, k9⟩ := d'.push9
            have e18 := hb18 d'.sub
            (repeat' (first | simp [go_sem, X_region, *] | simp (disch := omega) only [om, *] | ((first | refine XC_split ?_ ?_ | refine XG_true ?_ ?_ | refine XG_false ?_ ?_ | refine XRg_true ?_ ?_ | refine XRg_false ?_ ?_) <;> intro hc <;> (try simp only [bl] at hc) <;> (try (exfalso; omega))) | refine XD_w [] [] [] (fun _ => none) mixed (by decide +kernel) (sub_none _) ?_ | refine Pure.call (hcA) ?_ | refine ⟨_, Pure.at (hcA), ?_⟩ | refine ⟨_, hcA, ?_⟩ | refine PureAt.call (hcA) ?_ | fail))
            intro bl2 w1n w2n hbl2
            refine Own.push (x := ⟨a.name, x.name, 2, s, ⟨#[]⟩⟩) (enc := cLo) o9 (by simp [go_sem, *]) und58 zr71 by71 (by simp [go_sem]) (by rw [upd_ne _ _ w1n]; exact hbl2) (by simp [go_sem]) rfl (Nat.le_refl _) (by simp [go_sem]) (by omega) (by omega) fun a9 h9 o9' _ => ?_
            have d9 := k9 _ _ _ o9'
            (repeat' (first | simp [go_sem, X_region, *] | simp (disch := omega) only [om, *] | ((first | refine XC_split ?_ ?_ | refine XG_true ?_ ?_ | refine XG_false ?_ ?_ | refine XRg_true ?_ ?_ | refine XRg_false ?_ ?_) <;> intro hc <;> (try simp only [bl] at hc) <;> (try (exfalso; omega))) | refine XD_w [] [] [] (fun _ => none) mixed (by decide +kernel) (sub_none _) ?_ | fail))
            exact ⟨_, Nat.lt_succ_self _, hJ3.out _ _ _ ⟨(by (repeat (refine fr_upd (by decide) ?_)); exact hfr8), k + 1, l, a9, w ++ [⟨a.name, x.name, 2, s, ⟨#[]⟩⟩], l2 ++ [s], rfl, by omega, hdl2, by simp [go_sem, hw], by simp [go_sem], d9, ⟨by rw [← qw0]; simp⟩, qb'⟩⟩
          · rw [hh] at hcA
            rw [if_pos hh] at qw0
            (repeat' (first | simp [go_sem, X_region, *] | simp (disch := omega) only [om, *] | ((first | refine XC_split ?_ ?_ | refine XG_true ?_ ?_ | refine XG_false ?_ ?_ | refine XRg_true ?_ ?_ | refine XRg_false ?_ ?_) <;> intro hc <;> (try simp only [bl] at hc) <;> (try (exfalso; omega))) | refine XD_w [] [] [] (fun _ => none) mixed (by decide +kernel) (sub_none _) ?_ | refine Pure.call (hcA) ?_ | refine ⟨_, Pure.at (hcA), ?_⟩ | refine ⟨_, hcA, ?_⟩ | refine PureAt.call (hcA) ?_ | fail))
            exact ⟨_, Nat.lt_succ_self _, hJ3.out _ _ _ ⟨(by (repeat (refine fr_upd (by decide) ?_)); exact hfr8), k + 1, l, x9', w, l2 ++ [s], rfl, by omega, hdl2, by simp [go_sem, hw], by simp [go_sem, t9'], d', ⟨qw0⟩, qb'⟩⟩
      · obtain ⟨hltl, hxl2, hdl2⟩ := drop_cons hdl
        have hw : IntKind.i64.wrap ((k : Int) + 1) = (k : Int) + 1 := by rw [w64 (by omega) (by omega)]
        have qw0 := qw.out
        rw [loA_cons] at qw0
        obtain ⟨o1, a1, a2⟩ := d.a
        have hcA := contB_ok s (attrN b)
        (repeat' (first | simp [go_sem, X_region, *] | simp (disch := omega) only [om, *] | ((first | refine XC_split ?_ ?_ | refine XG_true ?_ ?_ | refine XG_false ?_ ?_ | refine XRg_true ?_ ?_ | refine XRg_false ?_ ?_) <;> intro hc <;> (try simp only [bl] at hc) <;> (try (exfalso; omega))) | refine XD_w [] [] [] (fun _ => none) mixed (by decide +kernel) (sub_none _) ?_ | fail))
        refine X_setIns (k := s) a2 a1 (by simp [go_sem]) (by simp [go_sem]) (by simp [go_sem]) und61 (kq_s _) kz_s fun ob' h3 => ?_
        have d' := d.insA h3
        have qa' : Hid ((l1 ++ [s]) ++ (l ++ L.flatMap fun p => nmA p.2) = allA b) := ⟨by rw [← qa.out]; simp⟩
        cases hh : hasB (attrN b) s
        · rw [hh] at hcA
          rw [if_neg (by rw [hh]; decide)] at qw0
          have hwl : w.length + 1 ≤ 100000000 := by have := congrArg List.length qw0; simp only [List.length_append, List.length_cons] at this; omega
          obtain ⟨H9, o9, k9⟩ := d'.push9
          have e18 := hb18 d'.sub
          (repeat' (first | simp [go_sem, X_region, *] | simp (disch := omega) only [om, *] | ((first | refine XC_split ?_ ?_ | refine XG_true ?_ ?_ | refine XG_false ?_ ?_ | refine XRg_true ?_ ?_ | refine XRg_false ?_ ?_) <;> intro hc <;> (try simp only [bl] at hc) <;> (try (exfalso; omega))) | refine XD_w [] [] [] (fun _ => none) mixed (by decide +kernel) (sub_none _) ?_ | refine Pure.call (hcA) ?_ | refine ⟨_, Pure.at (hcA), ?_⟩ | refine ⟨_, hcA, ?_⟩ | refine PureAt.call (hcA) ?_ | fail))
          intro bl2 w1n w2n hbl2
          refine Own.push (x := ⟨a.name, x.name, 1, s, ⟨#[]⟩⟩) (enc := cLo) o9 (by simp [go_sem, *]) und58 zr71 by71 (by simp [go_sem]) (by rw [upd_ne _ _ w1n]; exact hbl2) (by simp [go_sem]) rfl (Nat.le_refl _) (by simp [go_sem]) (by omega) (by omega) fun a9 h9 o9' _ => ?_
          have d9 := k9 _ _ _ o9'
          (repeat' (first | simp [go_sem, X_region, *] | simp (disch := omega) only [om, *] | ((first | refine XC_split ?_ ?_ | refine XG_true ?_ ?_ | refine XG_false ?_ ?_ | refine XRg_true ?_ ?_ | refine XRg_false ?_ ?_) <;> intro hc <;> (try simp only [bl] at hc) <;> (try (exfalso; omega))) | refine XD_w [] [] [] (fun _ => none) mixed (by decide +kernel) (sub_none _) ?_ | fail))
          exact ⟨_, Nat.lt_succ_self _, hJ3.out _ _ _ ⟨(by (repeat (refine fr_upd (by decide) ?_)); exact hfr7), k + 1, l, a9, w ++ [⟨a.name, x.name, 1, s, ⟨#[]⟩⟩], l1 ++ [s], rfl, by omega, hdl2, by simp [go_sem, hw], by simp [go_sem], d9, ⟨by rw [← qw0]; simp⟩, qa'⟩⟩
        · rw [hh] at hcA
          rw [if_pos hh] at qw0
          (repeat' (first | simp [go_sem, X_region, *] | simp (disch := omega) only [om, *] | ((first | refine XC_split ?_ ?_ | refine XG_true ?_ ?_ | refine XG_false ?_ ?_ | refine XRg_true ?_ ?_ | refine XRg_false ?_ ?_) <;> intro hc <;> (try simp only [bl] at hc) <;> (try (exfalso; omega))) | refine XD_w [] [] [] (fun _ => none) mixed (by decide +kernel) (sub_none _) ?_ | refine Pure.call (hcA) ?_ | refine ⟨_, Pure.at (hcA), ?_⟩ | refine ⟨_, hcA, ?_⟩ | refine PureAt.call (hcA) ?_ | fail))
          exact ⟨_, Nat.lt_succ_self _, hJ3.out _ _ _ ⟨(by (repeat (refine fr_upd (by decide) ?_)); exact hfr7), k + 1, l, x9, w, l1 ++ [s], rfl, by omega, hdl2, by simp [go_sem, hw], by simp [go_sem, t9], d', ⟨qw0⟩, qa'⟩⟩
end Go.Proofs.YtmalhikcdideoaaGreatDoor

set_option linter.unusedVariables false
set_option linter.unusedSimpArgs false
namespace Go.Proofs.YtmalhikcdideoaaGreatDoor
open Go Sl
attribute [local irreducible] XRange LpQ XR XRo XRg XRQ putQ XFv XL XW2 wQ putW X XO XOp XH XHo XW SeqQ BlkQ XOQ XHQ NrmQ XC XM XG XHM XHG XD CallK
open Go.RowKit
theorem refN_bulk {b : List Acx} (h : sumL muAcx b ≤ 1048576) : (refN b).length ≤ 1048576 := by
  have : (refN b).length ≤ sumL muAcx b := by
    clear h
    induction b with
    | nil => exact Nat.le_refl _
    | cons a r ih =>
      have h1 := sumL_len (f := muArx) (fun x => by unfold muArx; omega) a.arts
      have : refN (a :: r) = (a.arts.map fun x => (a.name, x.name)) ++ refN r := rfl
      have e : muAcx a = a.name.size + sumL muAtx a.attrs + sumL muTb a.tables + sumL muArx a.arts + 1 := rfl
      rw [this, List.length_append, List.length_map, sumL, e]
      omega
  omega
theorem compS_len (l : List ByteArray) : (compB (sortB l)).length ≤ l.length := by
  refine Nat.le_trans (compB_len _) ?_
  rw [show (sortB l).length = l.length by simp [sortB]]
  exact Nat.le_refl _
theorem loose_len (A T : List ByteArray) (R : List Rf) (r : Rf) (x : Arx) : (looseF A T R (r, x)).length ≤ 3 * muArx x := by
  rw [looseF_eq]
  have h1 := sumL_len (f := muNd) (fun x => by unfold muNd; omega) x.cond
  have h2 := sumL_len (f := muNd) (fun x => by unfold muNd; omega) x.thn
  have h3 := sumL_len (f := muRf) (fun x => by unfold muRf; omega) x.over
  have e : muArx x = x.name.size + x.target.size + sumL muNd x.cond + sumL muNd x.thn + sumL muRf x.over + 1 := rfl
  have a1 : (loA A r (nmA x)).length ≤ (nmA x).length := by unfold loA; rw [List.length_map]; exact List.length_filter_le ..
  have a2 : (loT T r (nmT x)).length ≤ (nmT x).length := by unfold loT; rw [List.length_map]; exact List.length_filter_le ..
  have a3 : (loO R r x.over).length ≤ x.over.length := by unfold loO; rw [List.length_map]; exact List.length_filter_le ..
  have b1 : (nmA x).length ≤ x.cond.length + x.thn.length + 1 := by
    unfold nmA tA
    refine Nat.le_trans (compS_len _) ?_
    have := namesF_len isAttr x.cond
    have := namesF_len isAttr x.thn
    simp only [List.length_append, List.length_cons, List.length_nil]
    omega
  have b2 : (nmT x).length ≤ x.cond.length + x.thn.length := by
    unfold nmT tT
    refine Nat.le_trans (compS_len _) ?_
    have := namesF_len isTab x.cond
    have := namesF_len isTab x.thn
    simp only [List.length_append]
    omega
  simp only [List.length_append]
  omega
theorem loosePs_len (A T : List ByteArray) (R : List Rf) (s : ByteArray) : ∀ l : List Arx, ((l.map fun x => ((s, x.name), x)).flatMap (looseF A T R)).length ≤ 3 * sumL muArx l
  | [] => Nat.le_refl _
  | x :: r => by
    have h1 := loosePs_len A T R s r
    have h2 := loose_len A T R (s, x.name) x
    rw [List.map_cons, List.flatMap_cons, List.length_append, sumL]
    omega
theorem dangP_len (A T : List ByteArray) (R : List Rf) : ∀ b : List Acx, ((pairs b).flatMap (looseF A T R)).length ≤ 3 * sumL muAcx b
  | [] => Nat.le_refl _
  | a :: r => by
    have h1 := dangP_len A T R r
    have h2 := loosePs_len A T R a.name a.arts
    have e : muAcx a = a.name.size + sumL muAtx a.attrs + sumL muTb a.tables + sumL muArx a.arts + 1 := rfl
    have hp : pairs (a :: r) = a.arts.map (fun x => ((a.name, x.name), x)) ++ pairs r := by simp [pairs]
    rw [hp, List.flatMap_append, List.length_append, sumL]
    omega
theorem whose_bulk {b : List Acx} (h : BodyS b) (hm : sumL muAcx b ≤ 1048576) : (whoseL b).length ≤ 70368744177664 := by
  have h1 := whoseL_cnt h
  have h2 := cnt_body hm
  omega
theorem flaw_bulk (b : List Acx) (attr tab : ByteArray) (hm : sumL muAcx b ≤ 1048576) (hok : ∀ a ∈ b, okAcx a) : Pure Tryz.prog 5 [encL 6 cAcx b, S attr, S tab] (B true) := by
  have hs := bodyS_of hm hok
  exact flaw_ok b hs (whose_bulk hs hm) (attrN_len hm) (tabN_len hm) (refN_bulk hm) (Nat.le_trans (dangP_len _ _ _ _) (by omega)) attr tab
end Go.Proofs.YtmalhikcdideoaaGreatDoor

set_option linter.unusedVariables false
namespace Go.Proofs.YtmalhikcdideoaaGreatDoor.RowSF
open Go Go.ChangeShapes Go.WideShapes Go.ChangeAt
theorem andT {a b : Bool} (h1 : a = true) (h2 : b = true) : (a && b) = true := by rw [h1, h2]; rfl
abbrev spec0 : ChangeSpec := (Rows.OpenSpec.upto Rows.scopeFindsSpec).bare
theorem jf0 : (Rows.scopeFindsUptoRow.wf (OpenSpec.ofChange spec0)) = true := by kernel_rfl
theorem jf1 : (laidOutB Tryz.prog) = true := by kernel_rfl
theorem jf2 : (mapsRowed Tryz.prog) = true := by kernel_rfl
theorem jf3 : (Tryz.f5.params.all (Tryz.prog.readableRec ·)) = true := by kernel_rfl
theorem jf4 : (namedTie Tryz.prog Rows.scopeFindsUptoRow.named spec0.vars) = true := by kernel_rfl
theorem jf5 : ((Rows.scopeFindsUptoRow.stops == [])) = true := by kernel_rfl
theorem jf6 : ((Tryz.prog.stops == [])) = true := by kernel_rfl
theorem jf7 : ((Rows.scopeFindsUptoRow.knobs == [])) = true := by kernel_rfl
theorem jf8 : ((Tryz.prog.stopKnobs == [])) = true := by kernel_rfl
theorem jf9 : ((Rows.scopeFindsUptoRow.inPlace == Tryz.prog.inPlace 5)) = true := by kernel_rfl
theorem jf10 : ((Rows.scopeFindsUptoRow.unfollowed == Tryz.prog.unfollowed 5)) = true := by kernel_rfl
theorem jf11 : ((Rows.scopeFindsUptoRow.recurses == Tryz.prog.recurses 5)) = true := by kernel_rfl
theorem jf12 : ((Rows.scopeFindsUptoRow.named == Tryz.prog.varsNamed 5)) = true := by kernel_rfl
theorem jf13 : ((Rows.scopeFindsUptoRow.maps == (Tryz.f5.params.toList ++ spec0.plain.varTypes Tryz.prog).any (Tryz.prog.mapsRec ·))) = true := by kernel_rfl
theorem jf14 : ((Rows.scopeFindsUptoRow.ifaces == (Tryz.f5.params.toList ++ spec0.plain.varTypes Tryz.prog).any (Tryz.prog.ifacesRec ·))) = true := by kernel_rfl
theorem jf15 : ((Rows.scopeFindsUptoRow.mapsOut == Tryz.prog.mapsAmong Tryz.f5.resultTypes.toList)) = true := by kernel_rfl
theorem jf16 : ((Rows.scopeFindsUptoRow.loops == (Tryz.f5.params.toList ++ spec0.plain.varTypes Tryz.prog).any (Tryz.prog.loopsFrom ·))) = true := by kernel_rfl
theorem jf17 : ((Rows.scopeFindsUptoRow.wideKeys == (Tryz.f5.params.toList ++ spec0.plain.varTypes Tryz.prog ++ Tryz.f5.resultTypes.toList).any (Tryz.prog.wideKeysFrom ·))) = true := by kernel_rfl
theorem jf18 : (spec0.vars.all (Tryz.prog.varReadable ·)) = true := by kernel_rfl
theorem jf19 : (Tryz.f5.resultTypes.all (fun t => Tryz.prog.readableRec t && decide (t < Tryz.prog.types.size))) = true := by kernel_rfl
theorem jf20 : ((Rows.scopeFindsUptoRow.ifacesOut == Tryz.f5.resultTypes.toList.any (Tryz.prog.ifacesRec ·))) = true := by kernel_rfl
theorem jf21 : ((Rows.scopeFindsUptoRow.loopsOut == Tryz.f5.resultTypes.toList.any (Tryz.prog.loopsFrom ·))) = true := by kernel_rfl
theorem jf22 : ((Rows.scopeFindsUptoRow.plainKeys == Tryz.prog.plainKeys)) = true := by kernel_rfl
theorem jf23 : (Rows.scopeFindsUptoRow.shortTexts.isNone) = true := by kernel_rfl
theorem jf24 : (Tryz.prog.stopsHeard) = true := by kernel_rfl
theorem jf25 : (Tryz.prog.mayEnter) = true := by kernel_rfl
theorem jf26 : ((Rows.scopeFindsUptoRow.lifted == Tryz.prog.liftsFinal)) = true := by kernel_rfl
theorem jf27 : ((Tryz.prog.make == some Rows.scopeFindsUptoRow.make)) = true := by kernel_rfl
theorem jf28 : ((Rows.scopeFindsUptoRow.kinds == (if Rows.scopeFindsUptoRow.domain.isEmpty then [] else Tryz.f5.params.toList.map fun t => match Tryz.prog.underlying t with | some (.int k) => some k | _ => none))) = true := by kernel_rfl
theorem jf29 : ((Rows.scopeFindsUptoRow.pinned == Rows.scopeFindsUptoRow.pinnedBy)) = true := by kernel_rfl
theorem jf30 : ((Rows.scopeFindsUptoRow.veiled == (Tryz.f5.params.toList ++ spec0.plain.varTypes Tryz.prog ++ Tryz.f5.resultTypes.toList).any (Tryz.prog.veiledRec ·))) = true := by kernel_rfl
theorem jf31 : (Rows.scopeFindsUptoRow.veiledFits Tryz.prog Tryz.f5.params.toList (Tryz.f5.params.toList ++ spec0.plain.varTypes Tryz.prog ++ Tryz.f5.resultTypes.toList)) = true := by kernel_rfl
set_option maxRecDepth 100000 in
theorem closed : joinedFacts Tryz.prog 5 Tryz.f5 spec0 Rows.scopeFindsUptoRow = true := by
  delta joinedFacts
  exact (andT (andT (andT (andT (andT (andT (andT (andT (andT (andT (andT (andT (andT (andT (andT (andT (andT (andT (andT (andT (andT (andT (andT (andT (andT (andT (andT (andT (andT (andT (andT jf0 jf1) jf2) jf3) jf4) jf5) jf6) jf7) jf8) jf9) jf10) jf11) jf12) jf13) jf14) jf15) jf16) jf17) jf18) jf19) jf20) jf21) jf22) jf23) jf24) jf25) jf26) jf27) jf28) jf29) jf30) jf31)
end Go.Proofs.YtmalhikcdideoaaGreatDoor.RowSF

namespace Go.Proofs.YtmalhikcdideoaaGreatDoor
open Go Go.ChangeShapes Go.WideShapes Go.ChangeAt Go.RowKit Sl
theorem own : ownKnob Tryz.prog.godebug = none := by kernel_rfl
theorem laidOut : laidOutB Tryz.prog = true := by kernel_rfl
theorem cells5 : Tryz.prog.cellsOf 5 = 1 := by kernel_rfl
theorem cells188 : Tryz.prog.cellsOf 208 = 1 := by kernel_rfl
theorem cells85 : Tryz.prog.cellsOf 284 = 256 := by kernel_rfl
theorem cells210 : Tryz.prog.cellsOf 307 = 20 := by kernel_rfl
theorem space_agg : (Rows.laid_strings_asciiSpace : DataW Unit) = .agg ((List.range 256).map fun i => .lit (.int .u8 (if (9 ≤ i ∧ i ≤ 13) ∨ i = 32 then 1 else 0))) := by kernel_rfl
theorem pow_agg : (Rows.laid_internal_strconv_uint64pow10 : DataW Unit) = .agg ((List.range 20).map fun i => .lit (.int .u64 ((10 : Nat) ^ i : Nat))) := by kernel_rfl
theorem pow_eq : ((List.range 20).map fun i => Value.int .u64 ((10 : Nat) ^ i : Nat)) = powL := by kernel_rfl
theorem lits_of {H : Type} {enc : TypeId × Value → H} {P : Program} {w : World} {base : Nat} {sp : Nat → Bool} {held : Bool} {n m : Nat} {e t : TypeId} {cs : List Value} {f : Nat → Int} {p : List MemPlace} {k : IntKind}
    (ht : P.underlying t = some (.array n e)) (he : P.underlying e = some (.int k)) (hc : P.cellsOf e = 1) (hct : P.cellsOf t = n) (h : DataW.trod enc P w base sp held m t cs = some (.agg ((List.range n).map fun i => .lit (.int k (f i))), p)) :
    cs = (List.range n).map fun i => .int k (f i) := by
  obtain ⟨xs, m1, rfl, hx, hlen, hn, hel⟩ := DataW.trod_array ht h
  simp only [Prod.mk.injEq, DataW.agg.injEq] at hx
  rw [hct] at hlen
  refine List.ext_getElem (by simp [hlen]) fun i h1 h2 => ?_
  have hi : i < n := by omega
  have hE := hel i hi
  rw [hc, Nat.mul_one] at hE
  obtain ⟨x, hxi⟩ : ∃ x, xs[i]? = some x := ⟨_, List.getElem?_eq_getElem (by omega)⟩
  rw [hxi] at hE
  have hd : (cs.drop i).take 1 = [cs[i]] := by
    rw [List.drop_eq_getElem_cons h1]; rfl
  rw [hd] at hE
  obtain ⟨v, e1, e2, _⟩ := DataW.trod_int he hE
  have e3 : (xs.map (·.1))[i]? = some (.lit (.int k (f i))) := by rw [← hx.1]; simp [hi]
  rw [List.getElem?_map, hxi, e2] at e3
  simp only [Option.map_some, Option.some.injEq, DataW.lit.injEq, Lit.int.injEq, true_and] at e3
  simp only [List.cons.injEq, and_true] at e1
  rw [e1]
  simp [e3]
/-- A variable that reads as listed: its block. -/
theorem var_heap {W : World} {name : String} {g : Nat} {cs : Array Value} {L : List Value} (hg : Tryz.prog.globalNamed name = some g) (hv : W.var? Tryz.prog name = some cs) (hcs : cs.toList = L) : ∃ ty fr, W.heap[g]? = some (.cells L.toArray ty fr) := by
  simp only [World.var?, hg, Option.bind_some] at hv
  split at hv
  · rename_i cs' ty fr hw
    simp only [Option.some.injEq] at hv
    subst hv
    refine ⟨ty, fr, ?_⟩
    rw [hw]
    congr 2
    apply Array.toList_inj.1
    rw [hcs]
  · cases hv
theorem gSpace : Tryz.prog.globalNamed "strings.asciiSpace" = some 0 := by kernel_rfl
theorem tSpace : (Tryz.prog.globals[0]?).map (·.type) = some 284 := by kernel_rfl
theorem gPow : Tryz.prog.globalNamed "internal/strconv.uint64pow10" = some 5 := by kernel_rfl
theorem tPow : (Tryz.prog.globals[5]?).map (·.type) = some 307 := by kernel_rfl
theorem space_heap {enc : TypeId × Value → Unit} {W : World} {base : Nat} {sp : Nat → Bool} {held : Bool} {g m : Nat} {t : TypeId} {cs : Array Value} {p : List MemPlace} (hg : Tryz.prog.globalNamed "strings.asciiSpace" = some g)
    (ht : (Tryz.prog.globals[g]?).map (·.type) = some t) (hv : W.var? Tryz.prog "strings.asciiSpace" = some cs) (hd : DataW.trod enc Tryz.prog W base sp held m t cs.toList = some (Rows.laid_strings_asciiSpace, p)) : ∃ ty fr, W.heap[0]? = some (.cells spaceL.toArray ty fr) := by
  obtain rfl := Option.some.inj (gSpace.symm.trans hg)
  obtain rfl := Option.some.inj (tSpace.symm.trans ht)
  rw [space_agg] at hd
  exact var_heap gSpace hv (lits_of Tryz.underlying284 Tryz.underlying5 cells5 cells85 hd)
theorem pow_heap {enc : TypeId × Value → Unit} {W : World} {base : Nat} {sp : Nat → Bool} {held : Bool} {g m : Nat} {t : TypeId} {cs : Array Value} {p : List MemPlace} (hg : Tryz.prog.globalNamed "internal/strconv.uint64pow10" = some g)
    (ht : (Tryz.prog.globals[g]?).map (·.type) = some t) (hv : W.var? Tryz.prog "internal/strconv.uint64pow10" = some cs) (hd : DataW.trod enc Tryz.prog W base sp held m t cs.toList = some (Rows.laid_internal_strconv_uint64pow10, p)) : ∃ ty fr, W.heap[5]? = some (.cells powL.toArray ty fr) := by
  obtain rfl := Option.some.inj (gPow.symm.trans hg)
  obtain rfl := Option.some.inj (tPow.symm.trans ht)
  rw [pow_agg] at hd
  exact var_heap gPow hv ((lits_of Tryz.underlying307 Tryz.underlying208 cells188 cells210 hd).trans pow_eq)
theorem mem_all {l : List Nat} (h : l.all (· ≤ reachBytes) = true) : ∀ n ∈ l, n ≤ reachBytes := fun n hn => by simpa using List.all_eq_true.1 h n hn
end Go.Proofs.YtmalhikcdideoaaGreatDoor

set_option linter.unusedVariables false
namespace Go.Proofs.YtmalhikcdideoaaGreatDoor.RowSF
open Go Go.ChangeShapes Go.WideShapes Go.ChangeAt Go.RowKit Sl
theorem plain : (Rows.scopeFindsUptoRow.laid.all fun x => x.2.handleName?.isNone) = true := by kernel_rfl
theorem glob_both {W : World} (h1 : ∃ ty fr, W.heap[0]? = some (.cells spaceL.toArray ty fr)) (h2 : ∃ ty fr, W.heap[5]? = some (.cells powL.toArray ty fr)) : GlobH W fun _ => none := by
  rintro x hx
  simp only [gl, List.mem_cons, List.not_mem_nil, or_false] at hx
  rcases hx with rfl | rfl
  · refine ⟨rfl, h1, fun y hy => ?_⟩
    simp only [spaceL, List.mem_map] at hy
    obtain ⟨i, _, rfl⟩ := hy
    rfl
  · refine ⟨rfl, h2, fun y hy => ?_⟩
    simp only [powL, List.mem_map] at hy
    obtain ⟨i, _, rfl⟩ := hy
    rfl
theorem glob_of_laid {W : World} (h : laidMetH Tryz.prog Rows.scopeFindsUptoRow.laid W) : GlobH W fun _ => none := by
  rw [MakeChecks.laidMetH_plain _ _ _ plain] at h
  obtain ⟨ps, ⟨_, _, _, _, _, _, _, _, _, _, ⟨_, _, _, _, _, _, _, _, _, _, ⟨g3, t3, c3, _, p3, _, hg3, ht3, hv3, hd3, ⟨_, _, _, _, _, _, _, _, _, _, ⟨_, _, _, _, _, _, _, _, _, _, ⟨g6, t6, c6, _, p6, _, hg6, ht6, hv6, hd6, _⟩, _⟩, _⟩, _⟩, _⟩, _⟩, _, _⟩ := h
  exact glob_both (space_heap hg6 ht6 hv6 hd6) (pow_heap hg3 ht3 hv3 hd3)
theorem walk (b : List Acx) (s : ByteArray) (t : ByteArray) (hb : sumL muAcx b + s.size + t.size ≤ 1048576) (hob : ∀ x ∈ b, okAcx x) (W : World) (hg : GlobH W fun _ => none) {v0 v1 v2 : Value} (h0 : Rd W (fun _ => none) (encL 6 cAcx b) v0) (h1 : Rd W (fun _ => none) (S s) v1) (h2 : Rd W (fun _ => none) (S t) v2) :
    Calls Tryz.prog 5 #[v0, v1, v2] W fun e w' => e = .returned (.bool true) ∧ Below W.heap.size W w' := by
  have hk := flaw_bulk b s t (by omega) hob
  refine (hk (fun _ => none) W #[v0, v1, v2] ⟨fun b o hb => (by cases hb), hg⟩ ⟨rfl, fun i a hi => ?_⟩).mono ?_
  · match i, hi with
    | 0, hi => cases hi; exact ⟨_, rfl, h0⟩
    | 1, hi => cases hi; exact ⟨_, rfl, h1⟩
    | 2, hi => cases hi; exact ⟨_, rfl, h2⟩
    | n + 3, hi => simp at hi
  · rintro e w' ⟨u, r, h', rfl, ⟨rfl, rfl⟩, hr, _, hio, hst⟩
    exact ⟨by rw [show u = .bool true from hr], hst.below hio⟩
theorem reads (os : Os) {H : Type} (enc : TypeId × Value → H) : ∃ places, DataW.whole enc Tryz.prog ((World.laidAll Tryz.prog os Rows.scopeFindsUptoRow.laid).forCall (fun _ _ => 0) ⟨#[], #[.slice none 0 0, .string ByteArray.empty, .string ByteArray.empty], []⟩).memory Tryz.f5.params.toList Rows.scopeFindsSpec.vars false #[Value.slice none 0 0, .string ByteArray.empty, .string ByteArray.empty].toList 8 = some ([.nil, .lit (.string []), .lit (.string [])], [], places) :=
  ⟨[], by kernel_rfl⟩
set_option maxRecDepth 100000 in
theorem lifted (os : Os) (started : os.Started) (H : Type) (enc : TypeId × Value → H) (F : Stop.Interp) :
    ReturnsInHanded {} Tryz.checked os 5 .any ((Rows.OpenSpec.upto Rows.scopeFindsSpec).preRow enc Tryz.prog Tryz.f5 Rows.scopeFindsUptoRow.domain false Rows.scopeFindsUptoRow.laid) (((Rows.OpenSpec.upto Rows.scopeFindsSpec).at F).post enc Tryz.prog Tryz.f5 false true false false) := by
  obtain ⟨places, hx⟩ := reads os enc
  have hok : Input.okWideB Tryz.prog ((World.laidAll Tryz.prog os Rows.scopeFindsUptoRow.laid).forCall (fun _ _ => 0) ⟨#[], #[.slice none 0 0, .string ByteArray.empty, .string ByteArray.empty], []⟩) 5 ⟨#[], #[.slice none 0 0, .string ByteArray.empty, .string ByteArray.empty], []⟩ = true := by kernel_rfl
  refine returnsInHanded_of_row (C := Tryz.checked) (s := Rows.OpenSpec.upto Rows.scopeFindsSpec) own started (by kernel_rfl) Tryz.func5
    ⟨World.laidAll Tryz.prog os Rows.scopeFindsUptoRow.laid, fun _ _ => 0, ⟨#[], #[.slice none 0 0, .string ByteArray.empty, .string ByteArray.empty], []⟩, World.laidAll_os _ _ _, World.shaped_of_ZipB (by kernel_rfl) (by kernel_rfl), (Input.okWide_of_okWideB (base := 0) hok).1, (Input.okWide_of_okWideB hok).2,
      OpenSpec.preRow_of_cond 8 hx (by kernel_rfl) (fun k hk => by cases hk; kernel_rfl) (by kernel_rfl) (by rw [MakeChecks.laidMetH_plain _ _ _ plain]; exact laidMet_laidAll _ (by kernel_rfl) (by kernel_rfl)), by simp [Assume.holds]⟩ ?_
  intro W base args ds gs before hval0 hW _ hcond hsz0 hL _ _
  have hsz : (DataW.weightsEach Tryz.prog (Tryz.f5.params.toList ++ Rows.scopeFindsSpec.plain.varTypes Tryz.prog) (ds ++ gs)).all (· ≤ reachBytes) = true := hsz0
  have hval : ∀ (j : Nat) t v, Tryz.f5.params[j]? = some t → args[j]? = some v → Value.okWide Tryz.prog W .any base t v := hval0
  have hbulk : Rows.uptoBulkAll (ds ++ gs) ≤ 1048576 := of_decide_eq_true (hcond _ rfl)
  have hW' := hW
  obtain ⟨p, q, hA0, hV, rfl, hfz, hnd⟩ := hW
  have hA : DataW.TrodAll enc Tryz.prog W 0 (fun _ => true) true Tryz.f5.params.toList args.toList ds p := hA0
  rw [Tryz.params5] at hA hval hsz
  obtain ⟨v0, vs0, d0, ds0, p0, q0, hargs, rfl, rfl, t0, r0⟩ := trodAll_cons hA
  obtain ⟨v1, vs1, d1, ds1, p1, q1, rfl, rfl, rfl, t1, r1⟩ := trodAll_cons r0
  obtain ⟨v2, vs2, d2, ds2, p2, q2, rfl, rfl, rfl, t2, r2⟩ := trodAll_cons r1
  obtain ⟨rfl, rfl, rfl⟩ := trodAll_nil r2
  obtain rfl : args = #[v0, v1, v2] := by cases args; simp_all
  obtain ⟨rfl, rfl⟩ := trodVars_none hV
  have hs := mem_all hsz
  have w0 : ∀ n ∈ d0.weights Tryz.prog 23, n ≤ reachBytes := fun n hn => hs n (by simp only [List.cons_append, List.nil_append, DataW.weightsEach, List.mem_append]; exact .inl hn)
  have w1 : ∀ n ∈ d1.weights Tryz.prog 9, n ≤ reachBytes := fun n hn => hs n (by simp only [List.cons_append, List.nil_append, DataW.weightsEach, List.mem_append]; exact .inr (.inl hn))
  have w2 : ∀ n ∈ d2.weights Tryz.prog 9, n ≤ reachBytes := fun n hn => hs n (by simp only [List.cons_append, List.nil_append, DataW.weightsEach, List.mem_append]; exact .inr (.inr (.inl hn)))
  have hb2 : Rows.uptoBulk d0 + Rows.uptoBulk d1 + Rows.uptoBulk d2 ≤ 1048576 := by
    simp only [List.append_nil, Rows.uptoBulkAll] at hbulk
    omega
  obtain ⟨a0, l0, b0, e0⟩ := okWide_slice Tryz.underlying23 (hval 0 _ v0 rfl rfl)
  obtain ⟨n1, e1⟩ := okWide_string Tryz.underlying9 (hval 1 9 v1 rfl rfl)
  obtain ⟨n2, e2⟩ := okWide_string Tryz.underlying9 (hval 2 9 v2 rfl rfl)
  obtain ⟨x0, ⟨b, m0, o0, y0⟩, z0⟩ := argB_one (o_body W) t0 w0 (by rw [e0]; rfl)
  obtain ⟨x1, ⟨s, m1, y1⟩, z1⟩ := argB_one (o_str W) t1 w1 (by rw [e1]; rfl)
  obtain ⟨x2, ⟨t, m2, y2⟩, z2⟩ := argB_one (o_str W) t2 w2 (by rw [e2]; rfl)
  obtain rfl : x0 = encL 6 cAcx b := by simpa using y0
  obtain rfl : x1 = S s := by simpa using y1
  obtain rfl : x2 = S t := by simpa using y2
  clear hA0 hval0 hsz0 hsz hbulk
  have lt : ∀ {t : TypeId} {v : Value} {d : DataW H} {p : List MemPlace}, DataW.Trod enc Tryz.prog W 0 (fun _ => true) true t v d p → ∀ x ∈ p, x.block < W.heap.size := fun k => by obtain ⟨m, hm⟩ := k; exact DataW.trod_lt m _ _ _ hm
  refine (walk b s t (by omega) o0 W (glob_of_laid hL) z0 z1 z2).mono fun r W' ⟨he, bel⟩ => ?_
  subst he
  exact ⟨_, rfl, _, _, _, [], _, [], hW', trodAll_mk1 (shut_bool Tryz.underlying4 _), (trodAll_cons_mk (Below.trod laidOut (by kernel_rfl) (of_decide_eq_true (by kernel_rfl)) t0 bel (lt t0)) (trodAll_cons_mk (Below.trod laidOut (by kernel_rfl) (of_decide_eq_true (by kernel_rfl)) t1 bel (lt t1)) (trodAll_cons_mk (Below.trod laidOut (by kernel_rfl) (of_decide_eq_true (by kernel_rfl)) t2 bel (lt t2)) trodAll_mk0))), rfl, bel.frame _, fun h => by cases h⟩
theorem holds : Rows.ScopeFindsUptoSaid :=
  OpenClaim.holds_of_cond 5 Tryz.f5 rfl rfl rfl rfl rfl rfl rfl ⟨rfl, rfl, rfl, rfl, rfl⟩ rfl rfl rfl rfl rfl (by kernel_rfl) Tryz.func5 closed
    (of_decide_eq_true (by kernel_rfl)) (by unfold Func.isWrapper; first | (rw [if_pos (by decide +kernel)]; kernel_rfl) | (rw [if_neg (by decide +kernel)]; exact ⟨rfl, rfl⟩))
    (fun os started H enc _ F => by rw [OpenClaim.pre_eq_preRow]; exact lifted os started H enc F)
end Go.Proofs.YtmalhikcdideoaaGreatDoor.RowSF
namespace Go.Proofs.YtmalhikcdideoaaGreatDoor
open Go
theorem scopeFinds_card : Rows.ScopeFindsUptoCardSaid :=
  Claim7.holds_tied_plain_at .later [] _ _ _ _ RowSF.holds (fun _ h => by cases h) (by kernel_rfl) (fun _ h => by cases h) scopeFindsUpto_row_tie rfl ⟨rfl, rfl⟩ (by kernel_rfl) rfl
    (fun f fn hf hfn => by
      obtain rfl : f = 5 := Option.some.inj ((show Tryz.prog.funcNamed "moothall/mootlaw2.ScopeFinds" = some 5 by kernel_rfl).symm.trans hf) |>.symm
      obtain rfl : fn = Tryz.f5 := (Option.some.inj (Tryz.func5.symm.trans hfn)).symm
      exact ⟨by kernel_rfl, fun j t ht => by
        rw [Tryz.params5] at ht
        have hm : t ∈ [23, 9, 9] := by simpa using Array.mem_of_getElem? ht
        have hall : ([23, 9, 9].all fun u => !Tryz.prog.wantsStandIn u) = true := by kernel_rfl
        exact (show Tryz.prog.wantsStandIn t = false by simpa using List.all_eq_true.1 hall t hm)⟩)
    (by kernel_rfl)
end Go.Proofs.YtmalhikcdideoaaGreatDoor
