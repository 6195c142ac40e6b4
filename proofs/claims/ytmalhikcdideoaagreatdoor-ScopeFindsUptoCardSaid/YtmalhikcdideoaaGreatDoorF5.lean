/- Bodies, whole: what they hold at most, and how long their texts are. Arguments: bodies, whole. DERIVED: THE SHELF's CONTRACTS AT THIS DUMP, IN PLAIN WORDS (tools/lay-plain.mjs out of 'RedShelfg.lean', which tools/lay-shelf.mjs wrote): THE SAME DECLARATIONS UNDER THE SAME NAMES: 'import', 'namespace', 'open', 'def', 'theorem' AND NOTHING ELSE: no command of the shelf's: FOR A HAND-IN. Each laying:  -/
import Derived.Test.YtmalhikcdideoaaGreatDoorF4
import Derived.Shelf.Spec.SlicesGrow
import Derived.Ground.Names8Prog
import Derived.Test.YtmalhikcdideoaaGreatDoorProg
import Derived.Test.YtmalhikcdideoaaGreatDoorF1
set_option linter.unusedVariables false
set_option linter.unusedSimpArgs false
namespace Go.Proofs.YtmalhikcdideoaaGreatDoor
open Go Sl
attribute [local irreducible] XRange LpQ XR XRo XRg XRQ putQ XFv XL XW2 wQ putW X XO XOp XH XHo XW SeqQ BlkQ XOQ XHQ NrmQ XC XM XG XHM XHG XD CallK
open Go.RowKit
def muAtx (x : Atx) : Nat := x.name.size + 1
def okAtx (x : Atx) : Prop := i64B x.kind ∧ i64B x.low ∧ i64B x.high ∧ i64B x.bk ∧ i64B x.bn
def muRf (r : Rf) : Nat := r.1.size + r.2.size + 1
def muArx (x : Arx) : Nat := x.name.size + x.target.size + sumL muNd x.cond + sumL muNd x.thn + sumL muRf x.over + 1
def okArx (x : Arx) : Prop := (∀ n ∈ x.cond, okNd n) ∧ (∀ n ∈ x.thn, okNd n) ∧ i64B x.weight
def muAcx (a : Acx) : Nat := a.name.size + sumL muAtx a.attrs + sumL muTb a.tables + sumL muArx a.arts + 1
def okAcx (a : Acx) : Prop := i64B a.level ∧ i64B a.date ∧ (∀ x ∈ a.attrs, okAtx x) ∧ (∀ x ∈ a.tables, okTb x) ∧ ∀ x ∈ a.arts, okArx x
theorem exS_of {e : List Nd} (h : sumL muNd e ≤ 1048576) (hok : ∀ n ∈ e, okNd n) : ExS e := by
  have hl := sumL_len (f := muNd) (fun x => by unfold muNd; omega) e
  refine ⟨by omega, fun x hx => ?_⟩
  have hm : x.nm.size + x.kids.length + 1 ≤ sumL muNd e := sumL_mem (f := muNd) hx
  obtain ⟨h1, h2, h3, h4⟩ := hok x hx
  exact ⟨by omega, by omega, h1, h3, h4, h2⟩
theorem arS_of {x : Arx} (h : muArx x ≤ 1048576) (hok : okArx x) : ArS x := by
  unfold muArx at h
  have hl := sumL_len (f := muRf) (fun x => by unfold muRf; omega) x.over
  refine ⟨by omega, by omega, hok.2.2, ⟨by omega, fun o ho => ?_⟩, exS_of (by omega) hok.1, exS_of (by omega) hok.2.1⟩
  have hm : o.1.size + o.2.size + 1 ≤ sumL muRf x.over := sumL_mem (f := muRf) ho
  exact ⟨by omega, by omega⟩
theorem actS_of {a : Acx} (h : muAcx a ≤ 1048576) (hok : okAcx a) : ActS a := by
  unfold muAcx at h
  have h1 := sumL_len (f := muAtx) (fun x => by unfold muAtx; omega) a.attrs
  have h2 := sumL_len (f := muTb) (fun x => by unfold muTb; omega) a.tables
  have h3 := sumL_len (f := muArx) (fun x => by unfold muArx; omega) a.arts
  obtain ⟨o1, o2, o3, o4, o5⟩ := hok
  refine ⟨by omega, o1, o2, ⟨by omega, fun x hx => ?_⟩, ⟨by omega, fun x hx => ?_⟩, ⟨by omega, fun x hx => ?_⟩⟩
  · have hm : x.name.size + 1 ≤ sumL muAtx a.attrs := sumL_mem (f := muAtx) hx
    obtain ⟨k1, k2, k3, k4, k5⟩ := o3 x hx
    exact ⟨by omega, k1, k2, k3, k4, k5⟩
  · have hm : x.name.size + x.steps.length + 1 ≤ sumL muTb a.tables := sumL_mem (f := muTb) hx
    obtain ⟨k1, k2, k3⟩ := o4 x hx
    exact ⟨by omega, by omega, k1, k2, k3⟩
  · have hm := sumL_mem (f := muArx) hx
    exact arS_of (by omega) (o5 x hx)
theorem bodyS_of {b : List Acx} (h : sumL muAcx b ≤ 1048576) (hok : ∀ a ∈ b, okAcx a) : BodyS b := by
  have h1 := sumL_len (f := muAcx) (fun x => by unfold muAcx; omega) b
  refine ⟨by omega, fun a ha => ?_⟩
  have hm := sumL_mem (f := muAcx) ha
  exact actS_of (by omega) (hok a ha)
theorem BodyS.ok {b : List Acx} (h : BodyS b) : BodyOk b := ⟨h.1, fun a ha => by
  obtain ⟨_, _, _, h1, h2, h3⟩ := h.2 a ha
  exact ⟨h1.1, ⟨h2.1, fun t ht => (h2.2 t ht).st⟩, ⟨h3.1, fun y hy => by
    obtain ⟨_, _, _, q1, q2, q3⟩ := h3.2 y hy
    exact ⟨⟨q2.1, fun z hz => (q2.2 z hz).2.1⟩, ⟨q3.1, fun z hz => (q3.2 z hz).2.1⟩, q1.1⟩⟩⟩⟩
/- What Rename and Move make of it. -/
/- How long the text is. -/
def cntN (x : Nd) : Nat := x.kids.length + 1
def cntE (e : List Nd) : Nat := sumL cntN e
def cntR (x : Arx) : Nat := 2 * x.over.length + cntE x.cond + cntE x.thn + 4
def cntT (t : Tb) : Nat := t.steps.length + 2
def cntA (a : Acx) : Nat := 2 * a.attrs.length + sumL cntT a.tables + sumL cntR a.arts + 2
theorem sumL_le {α : Type} {f g : α → Nat} {k : Nat} : ∀ {l : List α}, (∀ x ∈ l, f x ≤ k * g x) → sumL f l ≤ k * sumL g l
  | [], _ => by simp [sumL]
  | x :: r, h => by
    have h1 := h x (by simp)
    have h2 := sumL_le (l := r) fun y hy => h y (by simp [hy])
    rw [sumL, sumL, Nat.mul_add]
    omega
theorem flat_len {α : Type} {f : α → List UInt8} : ∀ l : List α, (l.flatMap f).length = sumL (fun x => (f x).length) l
  | [] => rfl
  | x :: r => by rw [List.flatMap_cons, List.length_append, flat_len r, sumL]
theorem cntE_le (e : List Nd) : cntE e ≤ 1 * sumL muNd e := sumL_le fun x _ => by unfold cntN muNd; omega
theorem cntA_le (a : Acx) : cntA a ≤ 8 * muAcx a := by
  have h1 := sumL_len (f := muAtx) (fun x => by unfold muAtx; omega) a.attrs
  have h2 : sumL cntT a.tables ≤ 8 * sumL muTb a.tables := sumL_le fun x _ => by unfold cntT muTb; omega
  have h3 : sumL cntR a.arts ≤ 8 * sumL muArx a.arts := sumL_le fun x _ => by
    have e1 := cntE_le x.cond
    have e2 := cntE_le x.thn
    have e3 := sumL_len (f := muRf) (fun x => by unfold muRf; omega) x.over
    unfold cntR muArx
    omega
  unfold cntA muAcx
  omega
theorem showE_cnt {e : List Nd} (h : ExS e) : (showE e).length ≤ 1049076 * cntE e := by
  replace h := h.2
  induction e with
  | nil => simp [showE]
  | cons x r ih =>
    obtain ⟨e1, e2, e3, e4, e5, e6⟩ := h x (by simp)
    have h2 := ih fun y hy => h y (by simp [hy])
    have hin5 := in5 (d := (x.nm.size : Int)) (e := (x.kids.length : Int)) e3 e4 e5 ⟨by omega, by omega⟩ ⟨by omega, by omega⟩
    have hnl := numsL_len _ hin5
    have hnk := numsL_len x.kids e6
    have hnm : x.nm.data.toList.length = x.nm.size := Array.length_toList
    simp only [List.length_cons, List.length_nil] at hnl
    simp only [showE, showN, List.length_append, List.length_cons, List.length_nil]
    have hc : cntE (x :: r) = cntN x + cntE r := rfl
    rw [hc, Nat.mul_add]
    unfold cntN
    omega
theorem exL_cnt {e : List Nd} (h : ExS e) : (exL e).length ≤ 26 + 1049076 * cntE e := by
  have h1 := showE_cnt h
  have h2 := showE_len e h.2
  have h3 := h.1
  have hs := bOf_size (showE e)
  have hnl := numsL_len _ (in1 (n := (bOf (showE e)).size) (by omega))
  have hl : (listB ++ bOf (showE e)).size = 4 + (bOf (showE e)).size := ByteArray.size_append
  have hl2 : (listB ++ bOf (showE e)).data.toList.length = 4 + (bOf (showE e)).size := hl
  unfold exL
  rw [List.length_append]
  simp only [List.length_cons, List.length_nil] at hnl
  omega
theorem txL_len : ∀ l : List ByteArray, (∀ s ∈ l, s.size ≤ 140737488355328) → (txL l).length ≤ txN l
  | [], _ => by simp [txL]
  | s :: r, h => by
    have h1 := txL_len r fun y hy => h y (by simp [hy])
    have h2 := h s (by simp)
    have hnl := numsL_len _ (in1 (n := s.size) h2)
    have hs : s.data.toList.length = s.size := Array.length_toList
    simp only [List.length_cons, List.length_nil] at hnl
    simp only [txL, txN, List.length_append]
    omega
theorem artL_cnt {x : Arx} (h : ArS x) : (artL x).length + 22 ≤ 1049076 * cntR x := by
  obtain ⟨h1, h2, h3, h4, h5, h6⟩ := h
  have e1 := exL_cnt h5
  have e2 := exL_cnt h6
  have hin : ∀ n ∈ [(x.name.size : Int), x.target.size, x.weight, x.over.length], -9223372036854775808 ≤ n ∧ n ≤ 9223372036854775807 := by
    simp only [List.mem_cons, List.not_mem_nil, or_false]
    rintro n (rfl | rfl | rfl | rfl)
    · exact ⟨by omega, by omega⟩
    · exact ⟨by omega, by omega⟩
    · exact h3
    · have := h4.1; exact ⟨by omega, by omega⟩
  have hnl := numsL_len _ hin
  have hz := named_sz h4.2
  have t1 := txL_len (namedL x.over) fun s hs => Nat.le_trans (hz s hs) (by decide)
  have t2 := txN_len (namedL x.over) hz
  rw [namedL_len] at t2
  have hnt : (x.name ++ x.target).size = x.name.size + x.target.size := ByteArray.size_append
  have hnt2 : (x.name ++ x.target).data.toList.length = x.name.size + x.target.size := hnt
  simp only [List.length_cons, List.length_nil] at hnl
  simp only [artL, exsL, List.length_append, List.length_nil]
  unfold cntR
  omega
theorem steps_len : ∀ l : List (Int × Int), (∀ x ∈ l, i64B x.1 ∧ i64B x.2) → (stepsL l).length ≤ 44 * l.length
  | [], _ => by simp [stepsL]
  | x :: r, h => by
    have h1 := steps_len r fun y hy => h y (by simp [hy])
    have h2 := h x (by simp)
    have hnl := numsL_len [x.1, x.2] (by
      simp only [List.mem_cons, List.not_mem_nil, or_false]
      rintro n (rfl | rfl)
      · exact h2.1
      · exact h2.2)
    simp only [List.length_cons, List.length_nil] at hnl
    simp only [stepsL, List.length_append, List.length_cons]
    omega
theorem boolB_size (b : Bool) : (boolB b).size ≤ 5 := by cases b <;> decide
theorem wholeL_cnt {t : Tb} (h : TbS t) : (wholeL t).length + 22 ≤ 1049076 * cntT t := by
  obtain ⟨h1, h2, h3, h4, h5⟩ := h
  have hin : ∀ n ∈ [(t.name.size : Int), t.fr, t.to], -9223372036854775808 ≤ n ∧ n ≤ 9223372036854775807 := by
    simp only [List.mem_cons, List.not_mem_nil, or_false]
    rintro n (rfl | rfl | rfl)
    · exact ⟨by omega, by omega⟩
    · exact h3
    · exact h4
  have hnl := numsL_len _ hin
  have hs := steps_len t.steps h5
  have hb := boolB_size t.sl
  have hnt : (t.name ++ boolB t.sl).size = t.name.size + (boolB t.sl).size := ByteArray.size_append
  have hnt2 : (t.name ++ boolB t.sl).data.toList.length = t.name.size + (boolB t.sl).size := hnt
  simp only [List.length_cons, List.length_nil] at hnl
  simp only [wholeL, List.length_append]
  unfold cntT
  omega
theorem attL_cnt {x : Atx} (h : AtS x) : (attL x).length ≤ 1049076 * 1 := by
  obtain ⟨h1, h2, h3, h4, h5, h6⟩ := h
  have hnl := numsL_len _ (in5 h2 h3 h4 h5 h6)
  have hb := boolB_size x.inp
  have t1 := txL_len [x.name, boolB x.inp] (by
    simp only [List.mem_cons, List.not_mem_nil, or_false]
    rintro n (rfl | rfl)
    · omega
    · omega)
  simp only [txN] at t1
  simp only [List.length_cons, List.length_nil] at hnl
  simp only [attL, List.length_append]
  omega
theorem tx1_len {s : List UInt8} (h : s.length ≤ 140737488355328) : (txL [bOf s]).length ≤ s.length + 22 := by
  have hs := bOf_size s
  have t1 := txL_len [bOf s] (by
    simp only [List.mem_cons, List.not_mem_nil, or_false]
    rintro n rfl
    omega)
  simp only [txN] at t1
  omega
theorem artL_max {x : Arx} (h : ArS x) : (artL x).length ≤ 140737488355328 := by
  obtain ⟨h1, h2, h3, h4, h5, h6⟩ := h
  have z1 := showE_len x.cond h5.2
  have z2 := showE_len x.thn h6.2
  have y1 := h5.1
  have y2 := h6.1
  have hx : ∀ {e : List Nd}, ExS e → (exL e).length ≤ 26 + (showE e).length := fun {e} h => by
    have h2 := showE_len e h.2
    have h3 := h.1
    have hs := bOf_size (showE e)
    have hnl := numsL_len _ (in1 (n := (bOf (showE e)).size) (by omega))
    have hl : (listB ++ bOf (showE e)).size = 4 + (bOf (showE e)).size := ByteArray.size_append
    have hl2 : (listB ++ bOf (showE e)).data.toList.length = 4 + (bOf (showE e)).size := hl
    unfold exL
    rw [List.length_append]
    simp only [List.length_cons, List.length_nil] at hnl
    omega
  have e1 := hx h5
  have e2 := hx h6
  have hin : ∀ n ∈ [(x.name.size : Int), x.target.size, x.weight, x.over.length], -9223372036854775808 ≤ n ∧ n ≤ 9223372036854775807 := by
    simp only [List.mem_cons, List.not_mem_nil, or_false]
    rintro n (rfl | rfl | rfl | rfl)
    · exact ⟨by omega, by omega⟩
    · exact ⟨by omega, by omega⟩
    · exact h3
    · have := h4.1; exact ⟨by omega, by omega⟩
  have hnl := numsL_len _ hin
  have hz := named_sz h4.2
  have t1 := txL_len (namedL x.over) fun s hs => Nat.le_trans (hz s hs) (by decide)
  have t2 := txN_len (namedL x.over) hz
  rw [namedL_len] at t2
  have h41 := h4.1
  have hnt : (x.name ++ x.target).size = x.name.size + x.target.size := ByteArray.size_append
  have hnt2 : (x.name ++ x.target).data.toList.length = x.name.size + x.target.size := hnt
  simp only [List.length_cons, List.length_nil] at hnl
  simp only [artL, exsL, List.length_append, List.length_nil]
  omega
theorem actL_cnt {a : Acx} (h : ActS a) : (actL a).length ≤ 1049076 * cntA a := by
  obtain ⟨h1, h2, h3, h4, h5, h6⟩ := h
  have hnl := numsL_len _ (in5 (c := (a.attrs.length : Int)) (d := (a.tables.length : Int)) (e := (a.arts.length : Int)) h2 h3 ⟨by have := h4.1; omega, by have := h4.1; omega⟩ ⟨by have := h5.1; omega, by have := h5.1; omega⟩ ⟨by have := h6.1; omega, by have := h6.1; omega⟩)
  have t1 := txL_len [a.name] (by
    simp only [List.mem_cons, List.not_mem_nil, or_false]
    rintro n rfl
    omega)
  simp only [txN] at t1
  have q1 : sumL (fun x => (attL x).length) a.attrs ≤ 1049076 * sumL (fun _ => 1) a.attrs := sumL_le fun x hx => attL_cnt (h4.2 x hx)
  have q1' : sumL (fun _ => 1) a.attrs = a.attrs.length := sum_one _
  have q2 : sumL (fun t => (txL [bOf (wholeL t)]).length) a.tables ≤ 1049076 * sumL cntT a.tables := sumL_le fun x hx => by
    have e1 := wholeL_cnt (h5.2 x hx)
    have e2 := (h5.2 x hx).st
    have e3 := tx1_len (s := wholeL x) (by unfold cntT at e1; omega)
    omega
  have q3 : sumL (fun x => (txL [bOf (artL x)]).length) a.arts ≤ 1049076 * sumL cntR a.arts := sumL_le fun x hx => by
    have e1 := artL_cnt (h6.2 x hx)
    have e3 := tx1_len (artL_max (h6.2 x hx))
    omega
  simp only [List.length_cons, List.length_nil] at hnl
  simp only [actL, List.length_append, flat_len]
  rw [q1'] at q1
  unfold cntA
  omega
theorem whoseL_cnt {b : List Acx} (h : BodyS b) : (whoseL b).length ≤ 22 + 1049076 * sumL cntA b := by
  have hnl := numsL_len _ (in1 (n := b.length) (by have := h.1; omega))
  have q : sumL (fun a => (actL a).length) b ≤ 1049076 * sumL cntA b := sumL_le fun x hx => actL_cnt (h.2 x hx)
  simp only [List.length_cons, List.length_nil] at hnl
  simp only [whoseL, List.length_append, flat_len]
  omega
theorem cnt_body {b : List Acx} (h : sumL muAcx b ≤ 1048576) : sumL cntA b ≤ 8388608 := by
  have : sumL cntA b ≤ 8 * sumL muAcx b := sumL_le fun x _ => cntA_le x
  omega
theorem attrN_len {b : List Acx} (h : sumL muAcx b ≤ 1048576) : (attrN b).length ≤ 1048576 := by
  have : (attrN b).length ≤ sumL muAcx b := by
    clear h
    induction b with
    | nil => exact Nat.le_refl _
    | cons a r ih =>
      have h1 := sumL_len (f := muAtx) (fun x => by unfold muAtx; omega) a.attrs
      have : attrN (a :: r) = a.attrs.map (·.name) ++ attrN r := rfl
      have e : muAcx a = a.name.size + sumL muAtx a.attrs + sumL muTb a.tables + sumL muArx a.arts + 1 := rfl
      rw [this, List.length_append, List.length_map, sumL, e]
      omega
  omega
theorem tabN_len {b : List Acx} (h : sumL muAcx b ≤ 1048576) : (tabN b).length ≤ 1048576 := by
  have : (tabN b).length ≤ sumL muAcx b := by
    clear h
    induction b with
    | nil => exact Nat.le_refl _
    | cons a r ih =>
      have h1 := sumL_len (f := muTb) (fun x => by unfold muTb; omega) a.tables
      have : tabN (a :: r) = a.tables.map (·.name) ++ tabN r := rfl
      have e : muAcx a = a.name.size + sumL muAtx a.attrs + sumL muTb a.tables + sumL muArx a.arts + 1 := rfl
      rw [this, List.length_append, List.length_map, sumL, e]
      omega
  omega
end Go.Proofs.YtmalhikcdideoaaGreatDoor

set_option linter.unusedVariables false
set_option linter.unusedSimpArgs false
namespace Go.Proofs.YtmalhikcdideoaaGreatDoor
open Go Sl
attribute [local irreducible] XRange LpQ XR XRo XRg XRQ putQ XFv XL XW2 wQ putW X XO XOp XH XHo XW SeqQ BlkQ XOQ XHQ NrmQ XC XM XG XHM XHG XD CallK
open Go.RowKit
section
variable (w : World)
theorem o_valB : OpensB Tryz.prog w 84 fun n l => ∃ a b : Int, i64B a ∧ i64B b ∧ 1 ≤ n ∧ l = [I a, I b] := by
  refine (opensB_struct (w := w) Tryz.underlying84 (Qs := [BI, BI]) (by
    simp only [fieldsB, c_int, c_val]
    exact ⟨trivial, o_int w, trivial, o_int w, trivial⟩)).mono ?_
  rintro n l ⟨m, hm, _, _, n1, n2, hn, ⟨a, ha, _, rfl⟩, ⟨_, _, n3, n4, hn2, ⟨b, hb, _, rfl⟩, rfl, rfl⟩, rfl⟩
  exact ⟨a, b, ha, hb, by omega, rfl⟩
theorem o_attrX : OpensB Tryz.prog w 99 fun n l => ∃ x : Atx, muAtx x ≤ n ∧ okAtx x ∧ l = cAtx x := by
  refine OpensB.mono (opensB_struct (w := w) Tryz.underlying99 (Qs := [BS, BI, BB, BI, BI, fun n l => ∃ a b : Int, i64B a ∧ i64B b ∧ 1 ≤ n ∧ l = [I a, I b]]) (by
    simp only [fieldsB, c_bool, c_int, c_val, c_str, c_attr]
    exact ⟨trivial, o_str w, trivial, o_int w, trivial, o_bool w, trivial, o_int w, trivial, o_int w, trivial, o_valB w, trivial⟩)) ?_
  rintro n l ⟨m, hm, _, _, n1, n2, hn, ⟨s, hs, rfl⟩, ⟨_, _, n3, n4, hn2, ⟨a, ha, _, rfl⟩, ⟨_, _, n5, n6, hn3, ⟨_, b, rfl⟩, ⟨_, _, n7, n8, hn4, ⟨c, hc, _, rfl⟩, ⟨_, _, n9, n10, hn5, ⟨d, hd, _, rfl⟩, ⟨_, _, n11, n12, hn6, ⟨v1, v2, hv1, hv2, _, rfl⟩, rfl, rfl⟩, rfl⟩, rfl⟩, rfl⟩, rfl⟩, rfl⟩
  exact ⟨⟨s, a, b, c, d, v1, v2⟩, by unfold muAtx; simp only; omega, ⟨ha, hc, hd, hv1, hv2⟩, rfl⟩
abbrev BattrsX (n : Nat) (l : List AV) : Prop := ∃ k : List Atx, sumL muAtx k + 1 ≤ n ∧ (∀ x ∈ k, okAtx x) ∧ l = [encL 7 cAtx k]
theorem o_attrsX : OpensB Tryz.prog w 33 BattrsX :=
  opensB_list (enc := cAtx) (μ := muAtx) (ok := okAtx) Tryz.underlying33 c_attr (by decide) b_attr (o_attrX w)
theorem c_ref : Tryz.prog.cellsOf 25 = 2 := by kernel_rfl
theorem b_ref : 0 < Tryz.prog.bytesOf 25 := Nat.lt_of_lt_of_eq (by decide : 0 < 32) (by kernel_rfl)
theorem o_ref : OpensB Tryz.prog w 25 fun n l => ∃ x : Rf, muRf x ≤ n ∧ True ∧ l = cRf x := by
  refine OpensB.mono (opensB_struct (w := w) Tryz.underlying25 (Qs := [BS, BS]) (by
    simp only [fieldsB, c_str, c_ref]
    exact ⟨trivial, o_str w, trivial, o_str w, trivial⟩)) ?_
  rintro n l ⟨m, hm, _, _, n1, n2, hn, ⟨s, hs, rfl⟩, ⟨_, _, n3, n4, hn2, ⟨a, ha, rfl⟩, rfl, rfl⟩, rfl⟩
  exact ⟨(s, a), by unfold muRf; simp only; omega, trivial, rfl⟩
abbrev Brefs (n : Nat) (l : List AV) : Prop := ∃ k : List Rf, sumL muRf k + 1 ≤ n ∧ (∀ x ∈ k, True) ∧ l = [encL 2 cRf k]
theorem c_refs : Tryz.prog.cellsOf 48 = 1 := by kernel_rfl
theorem o_refs : OpensB Tryz.prog w 48 Brefs :=
  opensB_list (enc := cRf) (μ := muRf) (ok := fun _ => True) Tryz.underlying48 c_ref (by decide) b_ref (o_ref w)
abbrev BE (n : Nat) (l : List AV) : Prop := ∃ k : List Nd, sumL muNd k + 1 ≤ n ∧ (∀ x ∈ k, okNd x) ∧ l = [encL 5 cNd k]
theorem c_exprB : Tryz.prog.cellsOf 47 = 1 := by kernel_rfl
theorem c_article : Tryz.prog.cellsOf 50 = 6 := by kernel_rfl
theorem b_article : 0 < Tryz.prog.bytesOf 50 := Nat.lt_of_lt_of_eq (by decide : 0 < 112) (by kernel_rfl)
theorem o_article : OpensB Tryz.prog w 50 fun n l => ∃ x : Arx, muArx x ≤ n ∧ okArx x ∧ l = cArx x := by
  refine OpensB.mono (opensB_struct (w := w) Tryz.underlying50 (Qs := [BS, BS, BE, BE, Brefs, BI]) (by
    simp only [fieldsB, c_int, c_str, c_exprB, c_refs, c_article]
    exact ⟨trivial, o_str w, trivial, o_str w, trivial, o_expr w, trivial, o_expr w, trivial, o_refs w, trivial, o_int w, trivial⟩)) ?_
  rintro n l ⟨m, hm, _, _, n1, n2, hn, ⟨s, hs, rfl⟩, ⟨_, _, n3, n4, hn2, ⟨a, ha, rfl⟩, ⟨_, _, n5, n6, hn3, ⟨e, he, hek, rfl⟩, ⟨_, _, n7, n8, hn4, ⟨f, hf, hfk, rfl⟩, ⟨_, _, n9, n10, hn5, ⟨d, hd, _, rfl⟩, ⟨_, _, n11, n12, hn6, ⟨g, hg, _, rfl⟩, rfl, rfl⟩, rfl⟩, rfl⟩, rfl⟩, rfl⟩, rfl⟩
  exact ⟨⟨s, a, e, f, d, g⟩, by unfold muArx; simp only; omega, ⟨hek, hfk, hg⟩, rfl⟩
abbrev Barts (n : Nat) (l : List AV) : Prop := ∃ k : List Arx, sumL muArx k + 1 ≤ n ∧ (∀ x ∈ k, okArx x) ∧ l = [encL 6 cArx k]
theorem o_articles : OpensB Tryz.prog w 35 Barts :=
  opensB_list (enc := cArx) (μ := muArx) (ok := okArx) Tryz.underlying35 c_article (by decide) b_article (o_article w)
theorem o_actX : OpensB Tryz.prog w 37 fun n l => ∃ x : Acx, muAcx x ≤ n ∧ okAcx x ∧ l = cAcx x := by
  refine OpensB.mono (opensB_struct (w := w) Tryz.underlying37 (Qs := [BS, BI, BI, BattrsX, Btables, Barts]) (by
    simp only [fieldsB, c_int, c_str, c_attrs, c_tables, c_articles, c_act]
    exact ⟨trivial, o_str w, trivial, o_int w, trivial, o_int w, trivial, o_attrsX w, trivial, o_tables w, trivial, o_articles w, trivial⟩)) ?_
  rintro n l ⟨m, hm, _, _, n1, n2, hn, ⟨s, hs, rfl⟩, ⟨_, _, n3, n4, hn2, ⟨a, ha, _, rfl⟩, ⟨_, _, n5, n6, hn3, ⟨b, hb, _, rfl⟩, ⟨_, _, n7, n8, hn4, ⟨k, hk, hkb, rfl⟩, ⟨_, _, n9, n10, hn5, ⟨q, hq, hqb, rfl⟩, ⟨_, _, n11, n12, hn6, ⟨r, hr, hrb, rfl⟩, rfl, rfl⟩, rfl⟩, rfl⟩, rfl⟩, rfl⟩, rfl⟩
  refine ⟨⟨s, a, b, k, q, r⟩, ?_, ⟨ha, hb, hkb, hqb, hrb⟩, rfl⟩
  have e : muAcx ⟨s, a, b, k, q, r⟩ = s.size + sumL muAtx k + sumL muTb q + sumL muArx r + 1 := rfl
  omega
theorem o_body : OpensB Tryz.prog w 23 fun n l => ∃ k : List Acx, sumL muAcx k + 1 ≤ n ∧ (∀ x ∈ k, okAcx x) ∧ l = [encL 6 cAcx k] :=
  opensB_list (enc := cAcx) (μ := muAcx) (ok := okAcx) Tryz.underlying23 c_act (by decide) b_act (o_actX w)
end
end Go.Proofs.YtmalhikcdideoaaGreatDoor

namespace Go.Proofs
open Go.Shelf
def Tryz.growS_ren : Go.Shelf.Ren := ⟨fun | 4 => 226 | n => n, fun | 22 => 54 | 25 => 9 | 3 => 3 | 4 => 4 | 9 => 9 | 20 => 20 | 0 => 0 | n => n, fun | n => n⟩
theorem Tryz.growS : Go.Proofs.Lays8.n4 Tryz.prog Tryz.growS_ren := {
  mixed := by kernel_rfl
  f4 := ⟨Tryz.f226.name, by decide, Tryz.func226.trans (congrArg some (by kernel_rfl))⟩
  t0 := Tryz.underlying0
  a0 := Tryz.isAgg0
  z0 := Tryz.sizeOf0
  v0 := Tryz.zeroValue0
  t3 := Tryz.underlying3
  a3 := Tryz.isAgg3
  z3 := Tryz.sizeOf3
  v3 := Tryz.zeroValue3
  t4 := Tryz.underlying4
  a4 := Tryz.isAgg4
  z4 := Tryz.sizeOf4
  v4 := Tryz.zeroValue4
  t9 := Tryz.underlying9
  a9 := Tryz.isAgg9
  z9 := Tryz.sizeOf9
  v9 := Tryz.zeroValue9
  t20 := Tryz.underlying20
  a20 := Tryz.isAgg20
  z20 := Tryz.sizeOf20
  v20 := Tryz.zeroValue20
  t22 := Tryz.underlying54
  a22 := Tryz.isAgg54
  z22 := Tryz.sizeOf54
  v22 := Tryz.zeroValue54 }
end Go.Proofs

set_option linter.unusedVariables false
set_option linter.unusedSimpArgs false
namespace Go.Proofs.YtmalhikcdideoaaGreatDoor
open Go Sl
attribute [local irreducible] XRange LpQ XR XRo XRg XRQ putQ XFv XL XW2 wQ putW X XO XOp XH XHo XW SeqQ BlkQ XOQ XHQ NrmQ XC XM XG XHM XHG XD CallK
open Go.RowKit
theorem vals_2 {w : World} {h : Hp} {x y : Value} {vals : Array Value} (ha : RdL w h [.v x, .v y] vals) : vals = #[x, y] := by
  obtain ⟨h1, h2⟩ := ha
  obtain ⟨u, e, r⟩ := h2 0 _ rfl
  obtain ⟨u2, e2, r2⟩ := h2 1 _ rfl
  cases r
  cases r2
  refine Array.ext (by simpa using h1) fun i hi1 hi2 => ?_
  rcases (show i = 0 ∨ i = 1 by simp at hi2; omega) with rfl | rfl
  · rw [Array.getElem?_eq_getElem hi1] at e; cases e; rfl
  · rw [Array.getElem?_eq_getElem hi1] at e2; cases e2; rfl
theorem info9a : (Tryz.prog.info? 9).isSome = true := by kernel_rfl
theorem info9b : (Tryz.prog.info? 9).bind (·.zero) = some (.string ⟨#[]⟩) := by kernel_rfl
theorem info9c : (Tryz.prog.info? 9).map (fun i => (i.size, i.bytes)) = some (1, 16) := by kernel_rfl
theorem zeroCells_size (c : Array Value) (n : Nat) (hc : c.size = 1) : (Builtin.zeroCells c n).size = n := by
  simp [Builtin.zeroCells, hc]
theorem grow_none (n : Nat) (h0 : 0 < n) (hn : n ≤ 1000000000000) (h : Hp) : CallK Tryz.prog h 226 [.v (.slice none 0 0), I n] fun r h' => ∃ b, h b = none ∧ r = .row b 1 0 0 ∧ h' = upd h b (some ⟨9, 1, 0, fun _ _ => .any⟩) := by
  unfold CallK
  intro w vals hh ha
  obtain rfl := vals_2 ha
  obtain ⟨i0, hi⟩ := Option.isSome_iff_exists.1 info9a
  have hz := info9b
  have hs := info9c
  rw [hi] at hz hs
  simp only [Option.bind_some, Option.map_some, Option.some.injEq, Prod.mk.injEq] at hz hs
  have hg := Any8.slices_Grow_grow Tryz.growS i0 (.string ⟨#[]⟩) hi hz (by omega) none 0 0 n [] w (Nat.le_refl _) (by omega) (by rw [hs.2]; omega) (by omega) (by simp) (fun _ => rfl) (fun a ha => by cases ha)
  have hG1 : 0 + n ≤ grownCap w (0 + n) 0 9 := grownCap_ge w _ _ _
  have hG2 := grownCap_le_maxLen w (0 + n) 0 9 (by unfold maxLen; omega)
  refine hg.mono ?_
  rintro e w' ⟨rfl, rfl⟩
  have e9 : Tryz.growS_ren.t 25 = 9 := rfl
  rw [e9]
  generalize grownCap w (0 + n) 0 9 = G at *
  have hd : RelH w.drew h := RelH.grow hh (Nat.le_refl _) fun b _ => rfl
  have hst : Stp w h w.drew h := Stp.grow hh (Nat.le_refl _) fun b _ => rfl
  have hbn : h w.heap.size = none := by
    cases hx : h w.heap.size with
    | none => rfl
    | some o => exact absurd (hh.lt hx) (by omega)
  obtain ⟨C, hC, hCs⟩ : ∃ C : Array Value, (([] : List Value).toArray ++ Builtin.zeroCells (Value.string ⟨#[]⟩).cells (0 + n - 0) ++ Builtin.zeroCells (Value.string ⟨#[]⟩).cells (G - (0 + n))) = C ∧ C.size = G := by
    refine ⟨_, rfl, ?_⟩
    rw [Array.size_append, Array.size_append, zeroCells_size _ _ rfl, zeroCells_size _ _ rfl]
    simp
    omega
  rw [hC]
  refine ⟨_, _, _, rfl, ⟨w.heap.size, hbn, rfl, rfl⟩, ?_, relH_alloc (w := w.drew) (o := ⟨9, 1, 0, fun _ _ => .any⟩) hd (by simp) (by decide) (fun i hi => absurd hi (by simp)), ⟨rfl, rfl, rfl⟩, hst.trans (stp_alloc hd _ _)⟩
  refine ⟨G, by simp, Nat.zero_le _, by simp, by unfold maxLen at hG2; omega, fun o ho => ?_⟩
  rw [upd_same] at ho
  cases ho
  exact ⟨C, (0, 0), Array.getElem?_push_size, by omega⟩
theorem grow_nil (h : Hp) : CallK Tryz.prog h 226 [.v (.slice none 0 0), I 0] fun r h' => r = .v (.slice none 0 0) ∧ h' = h := by
  unfold CallK
  intro w vals hh ha
  obtain rfl := vals_2 ha
  have hg := Any8.slices_Grow_room Tryz.growS none 0 0 0 w (Nat.le_refl _) (by decide) (by decide) (by decide)
  refine hg.mono ?_
  rintro e w' ⟨rfl, rfl⟩
  exact ⟨_, _, _, rfl, ⟨rfl, rfl⟩, rfl, hh, ⟨rfl, rfl, rfl⟩, Stp.refl _ _⟩
/-- A slice of the call's own, which may have room before it has elements. -/
def OwnZ (q : Prop) (h0 h : Hp) (a : AV) (n : Nat) (f : Nat → Nat → AV) : Prop := Own h0 h a 9 1 n f ∨ (q ∧ n = 0 ∧ Sub h0 h ∧ ∃ b o, a = .row b 1 0 0 ∧ h0 b = none ∧ h b = some o ∧ o.s = 1 ∧ o.ty = 9 ∧ o.n = 0)
theorem OwnZ.sub {q : Prop} {h0 h : Hp} {a : AV} {n : Nat} {f : Nat → Nat → AV} (o : OwnZ q h0 h a n f) : Sub h0 h := by
  rcases o with o | ⟨_, _, hs, _⟩
  · exact o.1
  · exact hs
section
variable {q : Prop} {N : Nat} {T : Nat → AV} {h0 h : Hp} {K : (Nat → AV) → Hp → Prop} {d : Option Tmp} {x y : Operand} {t : TypeId} {t' : TypeId} {p : String} {af : Array Edge} {g : Option (Nat × Bool)} {by_ : Nat} {z : List Value} {l m : List ByteArray}
theorem OwnZ.app (o : OwnZ q h0 h (ev T x) l.length (cellsL cS l)) (hu : Tryz.prog.underlying t = some (.slice 9)) (hz : zeroA Tryz.prog 9 = some (1, z)) (hb : bytesT Tryz.prog 9 = some by_) (hd : dOk N d = true) (hs : srcA h 1 (ev T y) = some (m.length, cellsL cS m)) (hm : (l.length + m.length) * by_ ≤ 140737488355328) (hm' : l.length + m.length ≤ 140737488355328)
    (hk : ∀ a h', OwnZ q h0 h' a (l ++ m).length (cellsL cS (l ++ m)) → K (putD T d a) h') : XW Tryz.prog N ⟨d, .call ⟨.builtin .append, #[x, y], #[t, t]⟩, t', p, af, g⟩ T h K := by
  have key : ∀ {h' : Hp} {a : AV}, Own h0 h' a 9 1 (l.length + m.length) (fun i j => if i < l.length then cellsL cS l i j else cellsL cS m (i - l.length) j) → OwnZ q h0 h' a (l ++ m).length (cellsL cS (l ++ m)) := fun {h' a} ho => by
    refine .inl ?_
    rw [List.length_append]
    refine Own.congr ho fun i hi j hj => ?_
    obtain rfl : j = 0 := by omega
    by_cases hil : i < l.length
    · rw [if_pos hil]; simp [cellsL, List.getElem?_append_left hil]
    · rw [if_neg hil]; simp [cellsL, List.getElem?_append_right (Nat.le_of_not_lt hil)]
  rcases o with o | ⟨hq, hn, hsub, b, ob, ha, hb0, h1, h2, h4, h5⟩
  · exact Own.append o hu hz hb hd hs hm hm' fun a h' ho _ => hk a h' (key ho)
  · simp only [XW, hu, hz, hb, hs, ha, h1]
    have hl : l = [] := List.length_eq_zero_iff.1 hn
    subst hl
    refine ⟨hd, .inl ⟨trivial, h2, trivial, h4, h5, by simpa using hm, by simpa using hm', fun b' hb' => hk _ _ ?_⟩⟩
    have hb'0 : h0 b' = Option.none := by
      rcases hb' with rfl | hb'
      · exact hb0
      · exact sub_none_of hsub hb'
    rcases m with _ | ⟨u, m⟩
    · refine .inr ⟨hq, rfl, Sub.upd hb'0 (Sub.upd hb0 hsub), b', _, rfl, hb'0, upd_same _ _ _, rfl, rfl, rfl⟩
    · refine key ⟨Sub.upd hb'0 (Sub.upd hb0 hsub), .inr ⟨b', _, rfl, hb'0, upd_same _ _ _, rfl, rfl, rfl, by simp, fun i hi j hj => ?_⟩⟩
      simp
end
end Go.Proofs.YtmalhikcdideoaaGreatDoor

set_option linter.unusedVariables false
set_option linter.unusedSimpArgs false
namespace Go.Proofs.YtmalhikcdideoaaGreatDoor
open Go Sl
attribute [local irreducible] XRange LpQ XR XRo XRg XRQ putQ XFv XL XW2 wQ putW X XO XOp XH XHo XW SeqQ BlkQ XOQ XHQ NrmQ XC XM XG XHM XHG XD CallK
open Go.RowKit
@[go_sem] def cLs (l : List ByteArray) : List AV := [encL 1 cS l]
def totL : List (List ByteArray) → Nat
  | [] => 0
  | l :: r => l.length + totL r
theorem totL_eq : ∀ ls : List (List ByteArray), totL ls = ls.flatten.length
  | [] => rfl
  | l :: r => by rw [totL, totL_eq r, List.flatten_cons, List.length_append]
set_option maxHeartbeats 4000000 in
theorem concat_ok (ls : List (List ByteArray)) (hk : ls.length ≤ 1000) (hl : totL ls ≤ 1000000000) (h : Hp) : CallK Tryz.prog h 165 [encL 1 cLs ls] fun r h' => Own h h' r 9 1 ls.flatten.length (cellsL cS ls.flatten) := by
  obtain ⟨tt, htt⟩ : ∃ tt, totL ls = tt := ⟨_, rfl⟩
  rw [htt] at hl
  obtain ⟨FL, hFL⟩ : ∃ FL, ls.flatten = FL := ⟨_, rfl⟩
  have hFt : FL.length = tt := by rw [← hFL, ← totL_eq]; exact htt
  rw [hFL]
  replace htt : Hid (totL ls = tt) := ⟨htt⟩
  replace hFL : Hid (ls.flatten = FL) := ⟨hFL⟩
  replace hFt : Hid (FL.length = tt) := ⟨hFt⟩
  refine callK_body Tryz.func165 rfl (by rw [nt165]; simp) ?_; rw [nt165, rs165]
  (repeat' (first | simp [go_sem, X_region, *] | simp (disch := omega) only [om, *] | ((first | refine XC_split ?_ ?_ | refine XG_true ?_ ?_ | refine XG_false ?_ ?_ | refine XRg_true ?_ ?_ | refine XRg_false ?_ ?_) <;> intro hc <;> (try simp only [bl] at hc) <;> (try (exfalso; omega))) | refine XD_w [] [] [] (fun _ => none) mixed (by decide +kernel) (sub_none _) ?_ | fail))
  refine X_lpF (fun i => i = 3 ∨ i = 5 ∨ (11 ≤ i ∧ i ≤ 22)) (fun n T g => ∃ (i : Nat) (r : List (List ByteArray)) (s : Nat), n = r.length ∧ i ≤ ls.length ∧ ls.drop i = r ∧ T 11 = I i ∧ T 3 = I s ∧ g = h ∧ Hid (s + totL r = tt)) ls.length
    ⟨0, ls, 0, rfl, by omega, rfl, by simp [go_sem], by simp [go_sem], rfl, ⟨by have := htt.out; omega⟩⟩ ?_
  rintro J hJ n T g hfr ⟨i, r, s, rfl, hi, hd, t11, t3, rfl, hs⟩
  rcases r with _ | ⟨x, r⟩
  · have hlt := drop_nil hd
    obtain rfl : s = tt := by have := hs.out; simpa [totL] using this
    clear hs hJ
    have hgr : CallK Tryz.prog g 226 [.v (.slice none 0 0), I s] fun r h' => OwnZ (0 < s) g h' r 0 (cellsL cS []) := by
      rcases Nat.eq_zero_or_pos s with h0 | h0
      · subst h0
        refine (grow_nil g).mono ?_
        rintro r h' ⟨rfl, rfl⟩
        exact .inl Own.none
      · refine (grow_none s h0 (by omega) g).mono ?_
        rintro r h' ⟨b, hb, rfl, rfl⟩
        exact .inr ⟨h0, rfl, Sub.upd hb (Sub.refl _), b, _, rfl, hb, upd_same _ _ _, rfl, rfl, rfl⟩
    (repeat' (first | simp [go_sem, X_region, *] | simp (disch := omega) only [om, *] | ((first | refine XC_split ?_ ?_ | refine XG_true ?_ ?_ | refine XG_false ?_ ?_ | refine XRg_true ?_ ?_ | refine XRg_false ?_ ?_) <;> intro hc <;> (try simp only [bl] at hc) <;> (try (exfalso; omega))) | refine XD_w [] [] [] (fun _ => none) mixed (by decide +kernel) (sub_none _) ?_ | fail))
    refine hgr.mono ?_
    rintro r1 g1 oz
    clear hgr
    have sg := oz.sub
    (repeat' (first | simp [go_sem, X_region, *] | simp (disch := omega) only [om, *] | ((first | refine XC_split ?_ ?_ | refine XG_true ?_ ?_ | refine XG_false ?_ ?_ | refine XRg_true ?_ ?_ | refine XRg_false ?_ ?_) <;> intro hc <;> (try simp only [bl] at hc) <;> (try (exfalso; omega))) | refine XD_w [] [] [] (fun _ => none) mixed (by decide +kernel) (sub_none _) ?_ | fail))
    refine X_lpF (fun i => i = 6 ∨ i = 8 ∨ (27 ≤ i ∧ i ≤ 34)) (fun n T g' => ∃ (i : Nat) (r : List (List ByteArray)) (acc : List ByteArray), n = r.length ∧ i ≤ ls.length ∧ ls.drop i = r ∧ T 27 = I i ∧ OwnZ (0 < s) g g' (T 6) acc.length (cellsL cS acc) ∧ Hid (acc ++ r.flatten = FL)) ls.length
      ⟨0, ls, [], rfl, by omega, rfl, by simp [go_sem], by simpa [go_sem] using oz, ⟨hFL.out⟩⟩ ?_
    clear oz sg
    rintro J hJ n T2 g2 hfr2 ⟨i2, r2, acc, rfl, hi2, hd2, t27, oz, hq⟩
    rcases r2 with _ | ⟨x, r2⟩
    · have hlt2 := drop_nil hd2
      obtain rfl : acc = FL := by have := hq.out; simpa using this
      have ho : Own g g2 (T2 6) 9 1 acc.length (cellsL cS acc) := by
        rcases oz with o | ⟨hp, h0, _⟩
        · exact o
        · exact absurd (hFt.out.symm.trans h0) (by omega)
      (repeat' (first | simp [go_sem, X_region, *] | simp (disch := omega) only [om, *] | ((first | refine XC_split ?_ ?_ | refine XG_true ?_ ?_ | refine XG_false ?_ ?_ | refine XRg_true ?_ ?_ | refine XRg_false ?_ ?_) <;> intro hc <;> (try simp only [bl] at hc) <;> (try (exfalso; omega))) | refine XD_w [] [] [] (fun _ => none) mixed (by decide +kernel) (sub_none _) ?_ | fail))
      exact ⟨_, _, Wk.refl _ _, ho⟩
    · obtain ⟨hlt2, hx, hd3⟩ := drop_cons hd2
      have hb : acc.length + x.length ≤ 1000000000 := by
        have h1 := congrArg List.length hq.out
        have h2 := hFt.out
        simp only [List.length_append, List.flatten_cons] at h1
        omega
      (repeat' (first | simp [go_sem, X_region, *] | simp (disch := omega) only [om, *] | ((first | refine XC_split ?_ ?_ | refine XG_true ?_ ?_ | refine XG_false ?_ ?_ | refine XRg_true ?_ ?_ | refine XRg_false ?_ ?_) <;> intro hc <;> (try simp only [bl] at hc) <;> (try (exfalso; omega))) | refine XD_w [] [] [] (fun _ => none) mixed (by decide +kernel) (sub_none _) ?_ | fail))
      refine OwnZ.app (l := acc) (m := x) (by simpa [go_sem] using oz) und54 zr9 by9 (by simp [go_sem]) (by simp [go_sem]) (by omega) (by omega) fun a h' o2 => ?_
      (repeat' (first | simp [go_sem, X_region, *] | simp (disch := omega) only [om, *] | ((first | refine XC_split ?_ ?_ | refine XG_true ?_ ?_ | refine XG_false ?_ ?_ | refine XRg_true ?_ ?_ | refine XRg_false ?_ ?_) <;> intro hc <;> (try simp only [bl] at hc) <;> (try (exfalso; omega))) | refine XD_w [] [] [] (fun _ => none) mixed (by decide +kernel) (sub_none _) ?_ | fail))
      exact ⟨_, Nat.lt_succ_self _, hJ.out _ _ _ ⟨(by (repeat (refine fr_upd (by decide) ?_)); exact hfr2), i2 + 1, r2, acc ++ x, rfl, by omega, hd3, by simp [go_sem], by simpa [go_sem] using o2, ⟨by rw [← hq.out]; simp⟩⟩⟩
  · obtain ⟨hlt, hx, hd2⟩ := drop_cons hd
    have hs2 : Hid ((s + x.length) + totL r = tt) := ⟨by have := hs.out; simp only [totL] at this; omega⟩
    have hb : s + x.length ≤ 1000000000 := by have := hs2.out; omega
    (repeat' (first | simp [go_sem, X_region, *] | simp (disch := omega) only [om, *] | ((first | refine XC_split ?_ ?_ | refine XG_true ?_ ?_ | refine XG_false ?_ ?_ | refine XRg_true ?_ ?_ | refine XRg_false ?_ ?_) <;> intro hc <;> (try simp only [bl] at hc) <;> (try (exfalso; omega))) | refine XD_w [] [] [] (fun _ => none) mixed (by decide +kernel) (sub_none _) ?_ | fail))
    exact ⟨_, Nat.lt_succ_self _, hJ.out _ _ _ ⟨(by (repeat (refine fr_upd (by decide) ?_)); exact hfr), i + 1, r, s + x.length, rfl, by omega, hd2, by simp [go_sem], by simp [go_sem], rfl, hs2⟩⟩
end Go.Proofs.YtmalhikcdideoaaGreatDoor

set_option linter.unusedVariables false
set_option linter.unusedSimpArgs false
namespace Go.Proofs.YtmalhikcdideoaaGreatDoor
open Go Sl
attribute [local irreducible] XRange LpQ XR XRo XRg XRQ putQ XFv XL XW2 wQ putW X XO XOp XH XHo XW SeqQ BlkQ XOQ XHQ NrmQ XC XM XG XHM XHG XD CallK
open Go.RowKit
/-- slices.Sort on a slice without elements. -/
theorem len64_0 : Pure Tryz.prog 164 [.v (.int .u64 0)] (I 0) := by
  intro h; refine callK_body Tryz.func164 rfl (by rw [nt164]; simp) ?_; rw [nt164, rs164]
  have e8 : IntKind.u8.wrap 0 = 0 := by decide
  have e9 : (0 : Nat) < Lib.len8tab.size := by decide +kernel
  have e10 : (gb Lib.len8tab 0).toNat = 0 := by decide +kernel
  ((repeat' (first | simp [go_sem, X_region, *] | simp (disch := omega) only [om, *] | ((first | refine XC_split ?_ ?_ | refine XG_true ?_ ?_ | refine XG_false ?_ ?_ | refine XRg_true ?_ ?_ | refine XRg_false ?_ ?_) <;> intro hc <;> (try simp only [bl] at hc) <;> (try (exfalso; omega))) | refine XD_w [] [] [] (fun _ => none) mixed (by decide +kernel) (sub_none _) ?_ | (intro bk hbk; (try simp only [go_sem] at hbk)))); all_goals (refine Wk.fin (by repeat (first | exact Sub.refl _ | refine Sub.upd (by simp [*]) ?_)) ?_; first | (simp [*]; done) | (simp only []; (repeat' (first | split | rfl | omega | (simp_all; done))); done) | (simp [*]; (repeat' (first | split | omega | (rw [Bool.eq_iff_iff]; simp; omega))); done) | (simp [*])))
theorem len_0 : Pure Tryz.prog 85 [.v (.int .u64 0)] (I 0) := by
  intro h; refine callK_body Tryz.func85 rfl (by rw [nt85]; simp) ?_; rw [nt85, rs85]
  ((repeat' (first | simp [go_sem, X_region, *] | simp (disch := omega) only [om, *] | ((first | refine XC_split ?_ ?_ | refine XG_true ?_ ?_ | refine XG_false ?_ ?_ | refine XRg_true ?_ ?_ | refine XRg_false ?_ ?_) <;> intro hc <;> (try simp only [bl] at hc) <;> (try (exfalso; omega))) | refine XD_w [] [] [] (fun _ => none) mixed (by decide +kernel) (sub_none _) ?_ | refine Pure.call (len64_0) ?_ | refine ⟨_, Pure.at (len64_0), ?_⟩ | refine ⟨_, len64_0, ?_⟩ | refine PureAt.call (len64_0) ?_ | (intro bk hbk; (try simp only [go_sem] at hbk)))); all_goals (refine Wk.fin (by repeat (first | exact Sub.refl _ | refine Sub.upd (by simp [*]) ?_)) ?_; first | (simp [*]; done) | (simp only []; (repeat' (first | split | rfl | omega | (simp_all; done))); done) | (simp [*]; (repeat' (first | split | omega | (rw [Bool.eq_iff_iff]; simp; omega))); done) | (simp [*])))
abbrev noR : AV := .tup 0 fun _ => .any
theorem ins_0 {a : AV} : Pure Tryz.prog 154 [a, I 0, I 0] noR := by
  intro h
  refine callK_body Tryz.func154 rfl (by rw [nt154]; simp) ?_; rw [nt154, rs154]
  (repeat' (first | simp [go_sem, X_region, *] | simp (disch := omega) only [om, *] | ((first | refine XC_split ?_ ?_ | refine XG_true ?_ ?_ | refine XG_false ?_ ?_ | refine XRg_true ?_ ?_ | refine XRg_false ?_ ?_) <;> intro hc <;> (try simp only [bl] at hc) <;> (try (exfalso; omega))) | refine XD_w [] [] [] (fun _ => none) mixed (by decide +kernel) (sub_none _) ?_ | fail))
  refine X_lpF (fun i => (6 ≤ i ∧ i ≤ 7) ∨ (10 ≤ i ∧ i ≤ 48)) (fun n T g => T 6 = I 1 ∧ g = h) 0 ⟨by simp [go_sem], rfl⟩ ?_
  rintro J hJ n T g hfr ⟨t6, rfl⟩
  (repeat' (first | simp [go_sem, X_region, *] | simp (disch := omega) only [om, *] | ((first | refine XC_split ?_ ?_ | refine XG_true ?_ ?_ | refine XG_false ?_ ?_ | refine XRg_true ?_ ?_ | refine XRg_false ?_ ?_) <;> intro hc <;> (try simp only [bl] at hc) <;> (try (exfalso; omega))) | refine XD_w [] [] [] (fun _ => none) mixed (by decide +kernel) (sub_none _) ?_ | fail))
theorem pdq_0 {a : AV} : Pure Tryz.prog 84 [a, I 0, I 0, I 0] noR := by
  intro h
  refine callK_body Tryz.func84 rfl (by rw [nt84]; simp) ?_; rw [nt84, rs84]
  (repeat' (first | simp [go_sem, X_region, *] | simp (disch := omega) only [om, *] | ((first | refine XC_split ?_ ?_ | refine XG_true ?_ ?_ | refine XG_false ?_ ?_ | refine XRg_true ?_ ?_ | refine XRg_false ?_ ?_) <;> intro hc <;> (try simp only [bl] at hc) <;> (try (exfalso; omega))) | refine XD_w [] [] [] (fun _ => none) mixed (by decide +kernel) (sub_none _) ?_ | fail))
  refine X_lpF (fun i => (1 ≤ i ∧ i ≤ 3) ∨ (8 ≤ i ∧ i ≤ 133)) (fun n T g => T 0 = a ∧ T 1 = I 0 ∧ T 2 = I 0 ∧ g = h) 0 ⟨by simp [go_sem], by simp [go_sem], by simp [go_sem], rfl⟩ ?_
  rintro J hJ n T g hfr ⟨t0, t1, t2, rfl⟩
  (repeat' (first | simp [go_sem, X_region, *] | simp (disch := omega) only [om, *] | ((first | refine XC_split ?_ ?_ | refine XG_true ?_ ?_ | refine XG_false ?_ ?_ | refine XRg_true ?_ ?_ | refine XRg_false ?_ ?_) <;> intro hc <;> (try simp only [bl] at hc) <;> (try (exfalso; omega))) | refine XD_w [] [] [] (fun _ => none) mixed (by decide +kernel) (sub_none _) ?_ | refine Pure.call (ins_0) ?_ | refine ⟨_, Pure.at (ins_0), ?_⟩ | refine ⟨_, ins_0, ?_⟩ | refine PureAt.call (ins_0) ?_ | fail))
theorem sort_0 {a : AV} (ha : a = .v (.slice none 0 0) ∨ a = .e0) : Pure Tryz.prog 29 [a] noR := by
  intro h
  rcases ha with rfl | rfl
  · refine callK_body Tryz.func29 rfl (by rw [nt29]; simp) ?_; rw [nt29, rs29]
    (repeat' (first | simp [go_sem, X_region, *] | simp (disch := omega) only [om, *] | ((first | refine XC_split ?_ ?_ | refine XG_true ?_ ?_ | refine XG_false ?_ ?_ | refine XRg_true ?_ ?_ | refine XRg_false ?_ ?_) <;> intro hc <;> (try simp only [bl] at hc) <;> (try (exfalso; omega))) | refine XD_w [] [] [] (fun _ => none) mixed (by decide +kernel) (sub_none _) ?_ | refine Pure.call (len_0) ?_ | refine ⟨_, Pure.at (len_0), ?_⟩ | refine ⟨_, len_0, ?_⟩ | refine PureAt.call (len_0) ?_ | refine Pure.call (pdq_0) ?_ | refine ⟨_, Pure.at (pdq_0), ?_⟩ | refine ⟨_, pdq_0, ?_⟩ | refine PureAt.call (pdq_0) ?_ | fail))
  · refine callK_body Tryz.func29 rfl (by rw [nt29]; simp) ?_; rw [nt29, rs29]
    (repeat' (first | simp [go_sem, X_region, *] | simp (disch := omega) only [om, *] | ((first | refine XC_split ?_ ?_ | refine XG_true ?_ ?_ | refine XG_false ?_ ?_ | refine XRg_true ?_ ?_ | refine XRg_false ?_ ?_) <;> intro hc <;> (try simp only [bl] at hc) <;> (try (exfalso; omega))) | refine XD_w [] [] [] (fun _ => none) mixed (by decide +kernel) (sub_none _) ?_ | refine Pure.call (len_0) ?_ | refine ⟨_, Pure.at (len_0), ?_⟩ | refine ⟨_, len_0, ?_⟩ | refine PureAt.call (len_0) ?_ | refine Pure.call (pdq_0) ?_ | refine ⟨_, Pure.at (pdq_0), ?_⟩ | refine ⟨_, pdq_0, ?_⟩ | refine PureAt.call (pdq_0) ?_ | fail))
/-- slices.Sort on a slice made by appending. -/
theorem sort_own {h0 h : Hp} {a : AV} (l : List ByteArray) (hl : l.length ≤ 1000000000000) (o : Own h0 h a 9 1 l.length (cellsL cS l)) :
    CallK Tryz.prog h 29 [a] fun _ h' => Own h0 h' a 9 1 (sortB l).length (cellsL cS (sortB l)) := by
  have hsl : (sortB l).length = l.length := by simp [sortB]
  rcases o with ⟨hs, ⟨h1, h2⟩ | ⟨b, ob, rfl, hb0, hb, p2, p1, p3, p4, p5⟩⟩
  · have h3 : l = [] := List.length_eq_zero_iff.1 h1
    subst h3
    refine (sort_0 h2 h).mono ?_
    rintro r h' ⟨rfl, rfl⟩
    exact ⟨hs, .inl ⟨hsl, h2⟩⟩
  · refine (sort_row l hl hb p2 p3 (fun i hi => p5 i hi 0 (by omega))).mono ?_
    rintro r h' ⟨rfl, rfl⟩
    refine ⟨fun c oc hc => ?_, .inr ⟨b, _, by rw [hsl], hb0, upd_same _ _ _, p2, p1, by rw [hsl]; exact p3, by omega, fun i hi j hj => rfl⟩⟩
    rw [upd_ne _ _ (fun e => by rw [e, hb0] at hc; cases hc)]
    exact hs c oc hc
theorem compact_own {h0 h : Hp} {a : AV} (l : List ByteArray) (hl : l.length ≤ 1000000000000) (o : Own h0 h a 9 1 l.length (cellsL cS l)) :
    CallK Tryz.prog h 30 [a] fun r h' => OwnC h0 h' r 9 1 (compB l).length (cellsL cS (compB l)) := by
  rcases o with ⟨hs, ⟨h1, h2⟩ | ⟨b, ob, rfl, hb0, hb, p2, p1, p3, p4, p5⟩⟩
  · have h3 : l = [] := List.length_eq_zero_iff.1 h1
    subst h3
    rcases h2 with rfl | rfl
    · refine (compact_none h).mono ?_
      rintro r h' ⟨rfl, rfl⟩
      exact ⟨hs, .inl ⟨rfl, .inl rfl⟩⟩
    · refine (compact_e0 h).mono ?_
      rintro r h' ⟨rfl, rfl⟩
      exact ⟨hs, .inl ⟨rfl, .inr rfl⟩⟩
  · refine (compact_row l hl hb p2 p3 (fun i hi => p5 i hi 0 (by omega))).mono ?_
    rintro r h' ⟨rfl, f', rfl, q1, q2⟩
    refine ⟨fun c oc hc => ?_, .inr ⟨b, _, rfl, hb0, upd_same _ _ _, p2, p1, q1, fun i hi j hj => ?_⟩⟩
    · rw [upd_ne _ _ (fun e => by rw [e, hb0] at hc; cases hc)]
      exact hs c oc hc
    · obtain rfl : j = 0 := by omega
      exact q2 i hi
theorem compB_len (l : List ByteArray) : (compB l).length ≤ l.length := by
  unfold compB Lib.compact Lib.compactUpTo
  rw [List.length_map, List.length_map]
  exact Nat.le_trans (List.length_filter_le ..) (by simp)
def isAttr (op : Int) : Bool := decide (op = 1 ∨ op = 2 ∨ op = 3)
def isTab (op : Int) : Bool := decide (op = 16)
theorem namesF_cons (p : Int → Bool) (x : Nd) (r : List Nd) : namesF p (x :: r) = if p x.op = true then x.nm :: namesF p r else namesF p r := by
  unfold namesF
  rw [List.filter_cons]
  split <;> rfl
set_option maxHeartbeats 4000000 in
theorem tnames_ok (e : List Nd) (hl : e.length ≤ 1000000000) : Pure Tryz.prog 91 [encL 5 cNd e] (tup2 (encL 1 cS (compB (sortB (namesF isAttr e)))) (encL 1 cS (compB (sortB (namesF isTab e))))) := by
  obtain ⟨N1, hN1⟩ : ∃ N1, namesF isAttr e = N1 := ⟨_, rfl⟩
  obtain ⟨N2, hN2⟩ : ∃ N2, namesF isTab e = N2 := ⟨_, rfl⟩
  have hl1 : N1.length ≤ 1000000000 := by rw [← hN1]; unfold namesF; rw [List.length_map]; exact Nat.le_trans (List.length_filter_le ..) hl
  have hl2 : N2.length ≤ 1000000000 := by rw [← hN2]; unfold namesF; rw [List.length_map]; exact Nat.le_trans (List.length_filter_le ..) hl
  rw [hN1, hN2]
  intro h; refine CallK.lens fun hlen => ?_; have hlen := (hlen _ (by simp only [List.mem_cons, true_or, or_true] : (encL 5 cNd e) ∈ _)).encL; refine callK_body Tryz.func91 rfl (by rw [nt91]; simp) ?_; rw [nt91, rs91]
  (repeat' (first | simp [go_sem, X_region, *] | simp (disch := omega) only [om, *] | ((first | refine XC_split ?_ ?_ | refine XG_true ?_ ?_ | refine XG_false ?_ ?_ | refine XRg_true ?_ ?_ | refine XRg_false ?_ ?_) <;> intro hc <;> (try simp only [bl] at hc) <;> (try (exfalso; omega))) | refine XD_w [] [] [] (fun _ => none) mixed (by decide +kernel) (sub_none _) ?_ | fail))
  refine X_lpF (fun i => (4 ≤ i ∧ i ≤ 5) ∨ i = 7 ∨ (10 ≤ i ∧ i ≤ 32)) (fun n T g => ∃ (i : Nat) (r : List Nd) (a1 a2 : List ByteArray), n = r.length ∧ i ≤ e.length ∧ e.drop i = r ∧ a1 ++ namesF isAttr r = N1 ∧ a2 ++ namesF isTab r = N2 ∧ T 10 = I i ∧ Own h g (T 4) 9 1 a1.length (cellsL cS a1) ∧ Own h g (T 5) 9 1 a2.length (cellsL cS a2) ∧ ∀ c, T 4 = .row c 1 0 a1.length → T 5 = .row c 1 0 a2.length → False) e.length
    ⟨0, e, [], [], rfl, by omega, rfl, hN1, hN2, by simp [go_sem], by simpa [go_sem] using Own.none, by simpa [go_sem] using Own.none, fun c hc => by simp [go_sem] at hc⟩ ?_
  clear hN1 hN2
  rintro J hJ n T g hfr ⟨i, r, a1, a2, rfl, hi, hd, hN1, hN2, t10, own1, own2, hdj⟩
  rcases r with _ | ⟨x, r⟩
  · have hlt := drop_nil hd
    have e1 : a1 = N1 := by rw [← hN1]; simp [namesF]
    have e2 : a2 = N2 := by rw [← hN2]; simp [namesF]
    subst e1 e2
    (repeat' (first | simp [go_sem, X_region, *] | simp (disch := omega) only [om, *] | ((first | refine XC_split ?_ ?_ | refine XG_true ?_ ?_ | refine XG_false ?_ ?_ | refine XRg_true ?_ ?_ | refine XRg_false ?_ ?_) <;> intro hc <;> (try simp only [bl] at hc) <;> (try (exfalso; omega))) | refine XD_w [] [] [] (fun _ => none) mixed (by decide +kernel) (sub_none _) ?_ | fail))
    obtain ⟨H1, oH1, s1, k1⟩ := own_hole own1
    refine (sort_own a1 (by omega) oH1).mono fun _ g1 o1 => ?_
    have q2 := own_keep s1 k1 o1.1 own2 hdj
    have hl1' : (sortB a1).length = a1.length := by simp [sortB]
    have hl2' : (sortB a2).length = a2.length := by simp [sortB]
    have hdj := own_apart k1 o1 own2 hdj
    have q1 := own_up s1 o1
    obtain ⟨H2, oH2, s2, k2⟩ := own_hole q2
    refine (sort_own a2 (by omega) oH2).mono fun _ g2 o2 => ?_
    have r1 := own_keep s2 k2 o2.1 q1 fun c hc hc' => hdj c hc' hc
    have hdj := own_apart k2 o2 q1 fun c hc hc' => hdj c hc' hc
    have r2 := own_up s2 o2
    obtain ⟨H3, oH3, s3, k3⟩ := own_hole r1
    refine (compact_own (sortB a1) (by omega) oH3).mono fun u1 g3 o3 => ?_
    have t2 := own_keep s3 k3 o3.1 r2 fun c hc hc' => hdj c hc' hc
    have hdj3 := own_apartC k3 o3 r2 fun c hc hc' => hdj c hc' hc
    have t1 := ownC_up s3 o3
    obtain ⟨H4, oH4, s4, k4⟩ := own_hole t2
    refine (compact_own (sortB a2) (by omega) oH4).mono fun u2 g4 o4 => ?_
    have v1 := ownC_keep s4 k4 o4.1 t1 fun c hc hc' => hdj3 c hc' hc
    have v2 := ownC_up s4 o4
    have hc1 : (compB (sortB a1)).length ≤ 1000000000 := Nat.le_trans (compB_len _) (by omega)
    have hc2 : (compB (sortB a2)).length ≤ 1000000000 := Nat.le_trans (compB_len _) (by omega)
    exact Wk.tup2M v1.1 (ownC_frozen v1 (by omega)) (ownC_frozen v2 (by omega))
  · obtain ⟨hlt, hx, hd2⟩ := drop_cons hd
    have b1 : a1.length + 1 ≤ 1000000001 := by have := congrArg List.length hN1; simp only [List.length_append] at this; omega
    have b2 : a2.length + 1 ≤ 1000000001 := by have := congrArg List.length hN2; simp only [List.length_append] at this; omega
    rw [namesF_cons] at hN1 hN2
    (repeat' (first | simp [go_sem, X_region, *] | simp (disch := omega) only [om, *] | ((first | refine XC_split ?_ ?_ | refine XG_true ?_ ?_ | refine XG_false ?_ ?_ | refine XRg_true ?_ ?_ | refine XRg_false ?_ ?_) <;> intro hc <;> (try simp only [bl] at hc) <;> (try (exfalso; omega))) | refine XD_w [] [] [] (fun _ => none) mixed (by decide +kernel) (sub_none _) ?_ | fail))
    intro b7 hb7
    (repeat' (first | simp [go_sem, X_region, *] | simp (disch := omega) only [om, *] | ((first | refine XC_split ?_ ?_ | refine XG_true ?_ ?_ | refine XG_false ?_ ?_ | refine XRg_true ?_ ?_ | refine XRg_false ?_ ?_) <;> intro hc <;> (try simp only [bl] at hc) <;> (try (exfalso; omega))) | refine XD_w [] [] [] (fun _ => none) mixed (by decide +kernel) (sub_none _) ?_ | fail))
    all_goals first
      | (have f1 : isAttr x.op = true := by (simp [isAttr, *]; done)
         have f2 : isTab x.op = false := by (simp [isTab, *]; done)
         rw [if_pos f1] at hN1
         rw [if_neg (by rw [f2]; decide)] at hN2
         intro b hn1 hn2 hb
         obtain ⟨H1, oH1, s1, k1⟩ := own_hole own1
         refine Own.push (x := x.nm) (enc := cS) (oH1.alloc hb7) (by simp [go_sem]) und54 zr9 by9 (by simp [go_sem]) (by rw [upd_ne _ _ hn1]; exact hb) (by simp [go_sem]) rfl (Nat.le_refl _) (by simp [go_sem]) (by omega) (by omega) fun a1' h1 hown1 hkeep1 => ?_
         have w2 := own_keep s1 k1 hown1.1 own2 hdj
         have hdj2 := own_apart k1 hown1 own2 hdj
         have w1 := own_up s1 hown1
         (repeat' (first | simp [go_sem, X_region, *] | simp (disch := omega) only [om, *] | ((first | refine XC_split ?_ ?_ | refine XG_true ?_ ?_ | refine XG_false ?_ ?_ | refine XRg_true ?_ ?_ | refine XRg_false ?_ ?_) <;> intro hc <;> (try simp only [bl] at hc) <;> (try (exfalso; omega))) | refine XD_w [] [] [] (fun _ => none) mixed (by decide +kernel) (sub_none _) ?_ | fail))
         exact ⟨_, Nat.lt_succ_self _, hJ.out _ _ _ ⟨(by (repeat (refine fr_upd (by decide) ?_)); exact hfr), i + 1, r, a1 ++ [x.nm], a2, rfl, by omega, hd2, by rw [← hN1]; simp, hN2, by simp [go_sem, *], by simpa [go_sem] using w1, by simpa [go_sem] using w2, by simpa [go_sem] using hdj2⟩⟩)
      | (have f1 : isAttr x.op = false := by (simp [isAttr, *]; done)
         have f2 : isTab x.op = true := by (simp [isTab, *]; done)
         rw [if_neg (by rw [f1]; decide)] at hN1
         rw [if_pos f2] at hN2
         intro b hn1 hn2 hb
         obtain ⟨H2, oH2, s2, k2⟩ := own_hole own2
         refine Own.push (x := x.nm) (enc := cS) (oH2.alloc hb7) (by simp [go_sem]) und54 zr9 by9 (by simp [go_sem]) (by rw [upd_ne _ _ hn1]; exact hb) (by simp [go_sem]) rfl (Nat.le_refl _) (by simp [go_sem]) (by omega) (by omega) fun a2' h1 hown1 hkeep1 => ?_
         have w1 := own_keep s2 k2 hown1.1 own1 fun c hc hc' => hdj c hc' hc
         have hdj2 := own_apart k2 hown1 own1 fun c hc hc' => hdj c hc' hc
         have w2 := own_up s2 hown1
         (repeat' (first | simp [go_sem, X_region, *] | simp (disch := omega) only [om, *] | ((first | refine XC_split ?_ ?_ | refine XG_true ?_ ?_ | refine XG_false ?_ ?_ | refine XRg_true ?_ ?_ | refine XRg_false ?_ ?_) <;> intro hc <;> (try simp only [bl] at hc) <;> (try (exfalso; omega))) | refine XD_w [] [] [] (fun _ => none) mixed (by decide +kernel) (sub_none _) ?_ | fail))
         exact ⟨_, Nat.lt_succ_self _, hJ.out _ _ _ ⟨(by (repeat (refine fr_upd (by decide) ?_)); exact hfr), i + 1, r, a1, a2 ++ [x.nm], rfl, by omega, hd2, hN1, by rw [← hN2]; simp, by simp [go_sem, *], by simpa [go_sem] using w1, by simpa [go_sem] using w2, fun c hc hc' => hdj2 c (by simpa [go_sem] using hc') (by simpa [go_sem] using hc)⟩⟩)
      | (have f1 : isAttr x.op = false := by (simp [isAttr, *]; done)
         have f2 : isTab x.op = false := by (simp [isTab, *]; done)
         rw [if_neg (by rw [f1]; decide)] at hN1
         rw [if_neg (by rw [f2]; decide)] at hN2
         exact ⟨_, Nat.lt_succ_self _, hJ.out _ _ _ ⟨(by (repeat (refine fr_upd (by decide) ?_)); exact hfr), i + 1, r, a1, a2, rfl, by omega, hd2, hN1, hN2, by simp [go_sem, *], by simpa [go_sem] using own1.alloc hb7, by simpa [go_sem] using own2.alloc hb7, by simpa [go_sem] using hdj⟩⟩)
theorem mset_keys {ν : Type} : ∀ (m : List (ByteArray × ν)) (k : ByteArray) (v : ν) (s : ByteArray), s ∈ (mset m k v).map (·.1) ↔ s = k ∨ s ∈ m.map (·.1)
  | [], k, v, s => by simp [mset]
  | x :: r, k, v, s => by
    unfold mset
    by_cases h : k = x.1
    · rw [if_pos h]
      simp [h]
    · rw [if_neg h, List.map_cons, List.mem_cons, mset_keys r k v s, List.map_cons, List.mem_cons]
      exact ⟨fun h => by rcases h with h | h | h <;> simp [h], fun h => by rcases h with h | h | h <;> simp [h]⟩
theorem mset_nodup {ν : Type} : ∀ (m : List (ByteArray × ν)) (k : ByteArray) (v : ν), (m.map (·.1)).Nodup → ((mset m k v).map (·.1)).Nodup
  | [], k, v, _ => by simp [mset]
  | x :: r, k, v, hn => by
    rw [List.map_cons, List.nodup_cons] at hn
    unfold mset
    by_cases h : k = x.1
    · rw [if_pos h, List.map_cons, List.nodup_cons, h]
      exact hn
    · rw [if_neg h, List.map_cons, List.nodup_cons]
      refine ⟨fun hc => ?_, mset_nodup r k v hn.2⟩
      rcases (mset_keys r k v x.1).1 hc with hc | hc
      · exact h hc.symm
      · exact hn.1 hc
theorem iter_keep {κ ν : Type} {h h' : Hp} {b m : Nat} {ek : κ → AV} {en : ν → AV} {l : List (κ × ν)} {is : List Nat} (hi : IterA h b m ek en l is) (hk : ∀ c oc, c = b ∨ c = m → h c = some oc → oc.s = 0 → h' c = some oc) : IterA h' b m ek en l is := by
  obtain ⟨c, g, e1, e2, e3, e4⟩ := hi
  exact ⟨c, g, hk m _ (.inr rfl) e1 rfl, e2, hk b _ (.inl rfl) e3 rfl, e4⟩
theorem mset_le {ν : Type} : ∀ (m : List (ByteArray × ν)) (k : ByteArray) (v : ν), (mset m k v).length ≤ m.length + 1
  | [], k, v => by simp [mset]
  | x :: r, k, v => by
    unfold mset
    split
    · simp
    · have := mset_le r k v
      simp only [List.length_cons]
      omega
theorem nodup_le : ∀ (N : Nat) (l : List Nat), l.Nodup → (∀ x ∈ l, x < N) → l.length ≤ N
  | 0, [], _, _ => Nat.le_refl _
  | 0, x :: l, _, h => absurd (h x (List.mem_cons_self ..)) (Nat.not_lt_zero _)
  | N + 1, l, hn, h => by
    have h1 := nodup_le N (l.erase N) (hn.erase N) fun x hx => by
      have h2 := (hn.mem_erase_iff).1 hx
      have := h x h2.2
      omega
    by_cases hN : N ∈ l
    · rw [List.length_erase_of_mem hN] at h1
      omega
    · rw [List.erase_of_not_mem hN] at h1
      omega
/-- The key of an entry. -/
def keyAt {ν : Type} (m : List (ByteArray × ν)) (i : Nat) : ByteArray := (m.map (·.1)).getD i ⟨#[]⟩
theorem keys_out {ν : Type} (m : List (ByteArray × ν)) (hm : (m.map (·.1)).Nodup) (is : List Nat) (hn : is.Nodup) (hlt : ∀ i ∈ is, i < m.length) (hall : ∀ i, i < m.length → i ∈ is) :
    (is.map (keyAt m)).Nodup ∧ ∀ s, s ∈ is.map (keyAt m) ↔ s ∈ m.map (·.1) := by
  have hk : ∀ i (h : i < m.length), keyAt m i = m[i].1 := fun i h => by
    unfold keyAt
    rw [List.getD_eq_getElem?_getD, List.getElem?_map, List.getElem?_eq_getElem h]; rfl
  have inj : ∀ i j, i < m.length → j < m.length → keyAt m i = keyAt m j → i = j := fun i j hi hj he => by
    rw [hk i hi, hk j hj] at he
    have hp := List.pairwise_iff_getElem.1 (List.nodup_iff_pairwise_ne.1 hm)
    rcases Nat.lt_trichotomy i j with h | h | h
    · have := hp i j (by simpa using hi) (by simpa using hj) h
      simp at this
      exact absurd he this
    · exact h
    · have := hp j i (by simpa using hj) (by simpa using hi) h
      simp at this
      exact absurd he.symm this
  refine ⟨?_, fun s => ?_⟩
  · rw [List.nodup_iff_pairwise_ne, List.pairwise_map]
    refine List.Pairwise.imp_of_mem (fun {a b} ha hb hab he => hab (inj a b (hlt a ha) (hlt b hb) he)) (List.nodup_iff_pairwise_ne.1 hn)
  · simp only [List.mem_map]
    constructor
    · rintro ⟨i, hi, rfl⟩
      exact ⟨m[i]'(hlt i hi), List.getElem_mem _, (hk i (hlt i hi)).symm⟩
    · rintro ⟨x, hx, rfl⟩
      obtain ⟨i, hi, rfl⟩ := List.getElem_of_mem hx
      exact ⟨i, hall i hi, hk i hi⟩
set_option maxHeartbeats 4000000 in
/-- A call that hands back a slice of its own: what it holds. -/
theorem CallK.frz {P : Program} {h : Hp} {f : FuncId} {args : List AV} {e : TypeId} {s n : Nat} {q : Nat → Nat → AV} (hn : n ≤ 140737488355328) (c : CallK P h f args fun r g => Own h g r e s n q) : PureAt P h f args (.sl s n q) := by
  unfold PureAt CallK at *
  intro w vals hh ha
  refine (c w vals hh ha).mono ?_
  rintro e w' ⟨u, r, h', k1, k2, k3, k4, k5, k6⟩
  obtain ⟨st, rh, r'⟩ := (k2.frozen hn).out w' u k4 k3
  exact ⟨u, _, _, k1, ⟨rfl, rfl⟩, r', rh, k5, k6.trans st⟩
theorem rnamesO_ok (e : List Nd) (hl : e.length ≤ 1000000000) (ops : List Int) (hol : ops.length ≤ 1000) (h : Hp) : CallK Tryz.prog h 27 [encL 5 cNd e, encL 1 cI ops] fun r g => Own h g r 9 1 (compB (sortB (namesF (fun o => ops.any fun k => decide (o = k)) e))).length (cellsL cS (compB (sortB (namesF (fun o => ops.any fun k => decide (o = k)) e)))) := by
  have hq : ∀ k k' : ByteArray, keyEq (keyT Tryz.prog 9) (S k) (S k') = some (decide (k = k')) := fun k k' => by rw [kt61]; simp [keyEq]
  have hkt : keyT Tryz.prog 9 ≠ 0 := by rw [kt61]; decide
  obtain ⟨N1, hN1⟩ : ∃ N1, namesF (fun o => ops.any fun k => decide (o = k)) e = N1 := ⟨_, rfl⟩
  have hl1 : N1.length ≤ 1000000000 := by rw [← hN1]; unfold namesF; rw [List.length_map]; exact Nat.le_trans (List.length_filter_le ..) hl
  rw [hN1]
  obtain ⟨RR, hRR⟩ : ∃ RR, compB (sortB N1) = RR := ⟨_, rfl⟩
  rw [hRR]
  have hco : ∀ o : Int, Pure Tryz.prog 82 [encL 1 cI ops, I o] (B (ops.any fun k => decide (o = k))) := fun o => icont_ok o ops
  refine CallK.lens fun hlen => ?_; have hlen := (hlen _ (by simp only [List.mem_cons, true_or, or_true] : (encL 5 cNd e) ∈ _)).encL; refine callK_body Tryz.func27 rfl (by rw [nt27]; simp) ?_; rw [nt27, rs27]
  (repeat' (first | simp [go_sem, X_region, *] | simp (disch := omega) only [om, *] | ((first | refine XC_split ?_ ?_ | refine XG_true ?_ ?_ | refine XG_false ?_ ?_ | refine XRg_true ?_ ?_ | refine XRg_false ?_ ?_) <;> intro hc <;> (try simp only [bl] at hc) <;> (try (exfalso; omega))) | refine XD_w [] [] [] (fun _ => none) mixed (by decide +kernel) (sub_none _) ?_ | fail))
  intro b hb
  refine X_lpF (fun i => i = 7 ∨ (13 ≤ i ∧ i ≤ 24)) (fun n T g => ∃ (i : Nat) (r : List Nd) (m : List (ByteArray × Bool)) (ob : Ob), n = r.length ∧ i ≤ e.length ∧ e.drop i = r ∧ m.length ≤ i ∧ T 13 = I i ∧ Sub h g ∧ g b = some ob ∧ IsMap S B m ob ∧ (m.map (·.1)).Nodup ∧ Hid (∀ s, s ∈ N1 ↔ s ∈ m.map (·.1) ∨ s ∈ namesF (fun o => ops.any fun k => decide (o = k)) r)) e.length
    ⟨0, e, [], _, rfl, by omega, rfl, Nat.le_refl _, by simp [go_sem], Sub.upd hb (Sub.refl _), upd_same _ _ _, IsMap.nil _ _, by simp, ⟨fun s => by rw [hN1]; simp⟩⟩ ?_
  clear hN1
  rintro J hJ n T g hfr ⟨i, r, m, ob, rfl, hi, hd, hmi, t13, hsub, hgb, hm, hnd, hmem⟩
  rcases r with _ | ⟨x, r⟩
  · have hlt := drop_nil hd
    have hmem2 : Hid (∀ s, s ∈ m.map (·.1) ↔ s ∈ N1) := ⟨fun s => by rw [hmem.out s]; simp [namesF]⟩
    clear hmem hco
    have hml : m.length ≤ 1000000000 := by omega
    (repeat' (first | simp [go_sem, X_region, *] | simp (disch := omega) only [om, *] | ((first | refine XC_split ?_ ?_ | refine XG_true ?_ ?_ | refine XG_false ?_ ?_ | refine XRg_true ?_ ?_ | refine XRg_false ?_ ?_) <;> intro hc <;> (try simp only [bl] at hc) <;> (try (exfalso; omega))) | refine XD_w [] [] [] (fun _ => none) mixed (by decide +kernel) (sub_none _) ?_ | fail))
    refine X_rangeM hm hgb rfl und61 fun b2 hb2 hne2 ob2 hit => ?_
    have hb20 : h b2 = none := sub_free hsub hb2
    refine X_lpF (fun i => (8 ≤ i ∧ i ≤ 9) ∨ (27 ≤ i ∧ i ≤ 34)) (fun n T g => ∃ (is : List Nat) (out : List ByteArray), n + is.length = m.length ∧ is.Nodup ∧ Hid (∀ i ∈ is, i < m.length) ∧ out = is.map (keyAt m) ∧ Own h g (T 8) 9 1 out.length (cellsL cS out) ∧ IterA g b2 b S B m is) m.length
      ⟨[], [], by simp, by simp, ⟨fun i hi => by cases hi⟩, rfl, ?_, hit⟩ ?_
    · simp only [go_sem]
      exact ⟨Sub.upd hb20 hsub, .inl ⟨rfl, .inl (by simp [go_sem])⟩⟩
    rintro J2 hJ2 n2 T2 g2 hfr2 ⟨is, out, hn, hisn, hislt, hout, hown, hit2⟩
    have hil : is.length ≤ m.length := nodup_le _ _ hisn hislt.out
    have hol2 : out.length = is.length := by rw [hout, List.length_map]
    (repeat' (first | simp [go_sem, X_region, *] | simp (disch := omega) only [om, *] | ((first | refine XC_split ?_ ?_ | refine XG_true ?_ ?_ | refine XG_false ?_ ?_ | refine XRg_true ?_ ?_ | refine XRg_false ?_ ?_) <;> intro hc <;> (try simp only [bl] at hc) <;> (try (exfalso; omega))) | refine XD_w [] [] [] (fun _ => none) mixed (by decide +kernel) (sub_none _) ?_ | fail))
    refine X_nextM hit2 hne2 (by simp [go_sem, *]) (fun i' x hxi hni ob3 hit3 => ?_) fun hall => ?_
    · have hisn' : (is ++ [i']).Nodup := by
        rw [List.nodup_append]
        refine ⟨hisn, by simp, fun a ha b' hb' => ?_⟩
        rw [List.mem_singleton.1 hb']
        exact fun e => hni (e ▸ ha)
      have hislt' : ∀ q ∈ is ++ [i'], q < m.length := fun q hq => by
        rcases List.mem_append.1 hq with hq | hq
        · exact hislt.out q hq
        · rw [List.mem_singleton.1 hq]; exact (List.getElem?_eq_some_iff.1 hxi).1
      have hil' := nodup_le _ _ hisn' hislt'
      rw [List.length_append, List.length_singleton] at hil'
      have hkx : keyAt m i' = x.1 := by
        unfold keyAt
        rw [List.getD_eq_getElem?_getD, List.getElem?_map, hxi]; rfl
      obtain ⟨o2, ho2⟩ : ∃ o2, g2 b2 = some o2 ∧ o2.s = 0 := by
        obtain ⟨c, g', e1, e2, e3, e4⟩ := hit2
        exact ⟨_, e3, rfl⟩
      have hown' := hown.set (o2 := some ob3) ho2.1 hb20 (.inl (by rw [ho2.2]; decide))
      (repeat' (first | simp [go_sem, X_region, *] | simp (disch := omega) only [om, *] | ((first | refine XC_split ?_ ?_ | refine XG_true ?_ ?_ | refine XG_false ?_ ?_ | refine XRg_true ?_ ?_ | refine XRg_false ?_ ?_) <;> intro hc <;> (try simp only [bl] at hc) <;> (try (exfalso; omega))) | refine XD_w [] [] [] (fun _ => none) mixed (by decide +kernel) (sub_none _) ?_ | fail))
      refine X_entry hit3 hxi (by simp [go_sem, *]) ?_
      (repeat' (first | simp [go_sem, X_region, *] | simp (disch := omega) only [om, *] | ((first | refine XC_split ?_ ?_ | refine XG_true ?_ ?_ | refine XG_false ?_ ?_ | refine XRg_true ?_ ?_ | refine XRg_false ?_ ?_) <;> intro hc <;> (try simp only [bl] at hc) <;> (try (exfalso; omega))) | refine XD_w [] [] [] (fun _ => none) mixed (by decide +kernel) (sub_none _) ?_ | fail))
      intro bk hn1 hn2 hbk
      obtain ⟨H, oH, s0, k0⟩ := own_hole hown'
      refine Own.push (x := x.1) (enc := cS) oH (by simp [go_sem]) und54 zr9 by9 (by simp [go_sem]) (by rw [upd_ne _ _ hn1]; exact hbk) (by simp [go_sem]) rfl (Nat.le_refl _) (by simp [go_sem]) (by omega) (by omega) fun a' h1 hown1 hk1 => ?_
      have hit4 := iter_keep hit3 fun c oc _ hcs h0 => hown1.1 c oc (k0 c oc hcs (hown'.ne hcs (.inl (by rw [h0]; decide))))
      (repeat' (first | simp [go_sem, X_region, *] | simp (disch := omega) only [om, *] | ((first | refine XC_split ?_ ?_ | refine XG_true ?_ ?_ | refine XG_false ?_ ?_ | refine XRg_true ?_ ?_ | refine XRg_false ?_ ?_) <;> intro hc <;> (try simp only [bl] at hc) <;> (try (exfalso; omega))) | refine XD_w [] [] [] (fun _ => none) mixed (by decide +kernel) (sub_none _) ?_ | fail))
      exact ⟨n2 - 1, by omega, hJ2.out _ _ _ ⟨(by (repeat (refine fr_upd (by decide) ?_)); exact hfr2), is ++ [i'], out ++ [x.1], by simp; omega, hisn', ⟨hislt'⟩, by rw [hout]; simp [hkx], by simpa [go_sem] using own_up s0 hown1, hit4⟩⟩
    · (repeat' (first | simp [go_sem, X_region, *] | simp (disch := omega) only [om, *] | ((first | refine XC_split ?_ ?_ | refine XG_true ?_ ?_ | refine XG_false ?_ ?_ | refine XRg_true ?_ ?_ | refine XRg_false ?_ ?_) <;> intro hc <;> (try simp only [bl] at hc) <;> (try (exfalso; omega))) | refine XD_w [] [] [] (fun _ => none) mixed (by decide +kernel) (sub_none _) ?_ | fail))
      obtain ⟨K1, K2⟩ := keys_out m hnd is hisn hislt.out hall
      rw [← hout] at K1 K2
      have hsame : sortB out = compB (sortB N1) := names_same out N1 K1 fun s => (K2 s).trans (hmem2.out s)
      refine (sort_own out (by omega) hown).mono fun _ g4 o4 => ?_
      rw [← hRR, ← hsame]
      exact ⟨_, _, Wk.refl _ _, o4⟩
  · obtain ⟨hlt, hx, hd2⟩ := drop_cons hd
    have hc := hco x.op
    rcases (Bool.eq_false_or_eq_true (ops.any fun k => decide (x.op = k))).symm with hq1 | hq1
    · rw [hq1] at hc
      have hmem2 : Hid (∀ s, s ∈ N1 ↔ s ∈ m.map (·.1) ∨ s ∈ namesF (fun o => ops.any fun k => decide (o = k)) r) := ⟨fun s => by rw [hmem.out s, namesF_cons, if_neg (by rw [hq1]; decide)]⟩
      clear hmem
      (repeat' (first | simp [go_sem, X_region, *] | simp (disch := omega) only [om, *] | ((first | refine XC_split ?_ ?_ | refine XG_true ?_ ?_ | refine XG_false ?_ ?_ | refine XRg_true ?_ ?_ | refine XRg_false ?_ ?_) <;> intro hc <;> (try simp only [bl] at hc) <;> (try (exfalso; omega))) | refine XD_w [] [] [] (fun _ => none) mixed (by decide +kernel) (sub_none _) ?_ | refine Pure.call (hc) ?_ | refine ⟨_, Pure.at (hc), ?_⟩ | refine ⟨_, hc, ?_⟩ | refine PureAt.call (hc) ?_ | fail))
      intro b7 hb7
      have n7 := ne_free hb7 hgb
      (repeat' (first | simp [go_sem, X_region, *] | simp (disch := omega) only [om, *] | ((first | refine XC_split ?_ ?_ | refine XG_true ?_ ?_ | refine XG_false ?_ ?_ | refine XRg_true ?_ ?_ | refine XRg_false ?_ ?_) <;> intro hc <;> (try simp only [bl] at hc) <;> (try (exfalso; omega))) | refine XD_w [] [] [] (fun _ => none) mixed (by decide +kernel) (sub_none _) ?_ | refine Pure.call (hc) ?_ | refine ⟨_, Pure.at (hc), ?_⟩ | refine ⟨_, hc, ?_⟩ | refine PureAt.call (hc) ?_ | fail))
      exact ⟨_, Nat.lt_succ_self _, hJ.out _ _ _ ⟨(by (repeat (refine fr_upd (by decide) ?_)); exact hfr), i + 1, r, m, ob, rfl, by omega, hd2, by omega, by simp [go_sem, *], Sub.upd (sub_free hsub hb7) hsub, by rw [upd_ne _ _ n7.2]; exact hgb, hm, hnd, hmem2⟩⟩
    · rw [hq1] at hc
      have hmem2 : Hid (∀ s, s ∈ N1 ↔ s ∈ (mset m x.nm true).map (·.1) ∨ s ∈ namesF (fun o => ops.any fun k => decide (o = k)) r) := ⟨fun s => by
        rw [hmem.out s, namesF_cons, if_pos hq1, mset_keys, List.mem_cons]
        exact ⟨fun h => by rcases h with h | h | h <;> simp [h], fun h => by rcases h with (h | h) | h <;> simp [h]⟩⟩
      clear hmem
      (repeat' (first | simp [go_sem, X_region, *] | simp (disch := omega) only [om, *] | ((first | refine XC_split ?_ ?_ | refine XG_true ?_ ?_ | refine XG_false ?_ ?_ | refine XRg_true ?_ ?_ | refine XRg_false ?_ ?_) <;> intro hc <;> (try simp only [bl] at hc) <;> (try (exfalso; omega))) | refine XD_w [] [] [] (fun _ => none) mixed (by decide +kernel) (sub_none _) ?_ | refine Pure.call (hc) ?_ | refine ⟨_, Pure.at (hc), ?_⟩ | refine ⟨_, hc, ?_⟩ | refine PureAt.call (hc) ?_ | fail))
      intro b7 hb7
      have n7 := ne_free hb7 hgb
      (repeat' (first | simp [go_sem, X_region, *] | simp (disch := omega) only [om, *] | ((first | refine XC_split ?_ ?_ | refine XG_true ?_ ?_ | refine XG_false ?_ ?_ | refine XRg_true ?_ ?_ | refine XRg_false ?_ ?_) <;> intro hc <;> (try simp only [bl] at hc) <;> (try (exfalso; omega))) | refine XD_w [] [] [] (fun _ => none) mixed (by decide +kernel) (sub_none _) ?_ | refine Pure.call (hc) ?_ | refine ⟨_, Pure.at (hc), ?_⟩ | refine ⟨_, hc, ?_⟩ | refine PureAt.call (hc) ?_ | fail))
      refine X_mapUpdate (k := x.nm) (v := true) hm (by rw [upd_ne _ _ n7.2]; exact hgb) (by simp [go_sem]) (by simp [go_sem]) (by simp [go_sem]) und61 (hq _) hkt fun ob' hm' => ?_
      (repeat' (first | simp [go_sem, X_region, *] | simp (disch := omega) only [om, *] | ((first | refine XC_split ?_ ?_ | refine XG_true ?_ ?_ | refine XG_false ?_ ?_ | refine XRg_true ?_ ?_ | refine XRg_false ?_ ?_) <;> intro hc <;> (try simp only [bl] at hc) <;> (try (exfalso; omega))) | refine XD_w [] [] [] (fun _ => none) mixed (by decide +kernel) (sub_none _) ?_ | fail))
      exact ⟨_, Nat.lt_succ_self _, hJ.out _ _ _ ⟨(by (repeat (refine fr_upd (by decide) ?_)); exact hfr), i + 1, r, _, ob', rfl, by omega, hd2, Nat.le_trans (mset_le _ _ _) (by omega), by simp [go_sem, *], Sub.upd hb (Sub.upd (sub_free hsub hb7) hsub), upd_same _ _ _, hm', mset_nodup _ _ _ hnd, hmem2⟩⟩
end Go.Proofs.YtmalhikcdideoaaGreatDoor

set_option linter.unusedVariables false
set_option linter.unusedSimpArgs false
namespace Go.Proofs.YtmalhikcdideoaaGreatDoor
open Go Sl
attribute [local irreducible] XRange LpQ XR XRo XRg XRQ putQ XFv XL XW2 wQ putW X XO XOp XH XHo XW SeqQ BlkQ XOQ XHQ NrmQ XC XM XG XHM XHG XD CallK
open Go.RowKit
def tA (e : List Nd) : List ByteArray := compB (sortB (namesF isAttr e))
def tT (e : List Nd) : List ByteArray := compB (sortB (namesF isTab e))
def nmA (x : Arx) : List ByteArray := compB (sortB (tA x.cond ++ tA x.thn ++ [x.target]))
def nmT (x : Arx) : List ByteArray := compB (sortB (tT x.cond ++ tT x.thn))
theorem namesF_len (p : Int → Bool) (e : List Nd) : (compB (sortB (namesF p e))).length ≤ e.length := by
  refine Nat.le_trans (compB_len _) ?_
  rw [show (sortB (namesF p e)).length = (namesF p e).length by simp [sortB]]
  unfold namesF
  rw [List.length_map]
  exact List.length_filter_le ..
theorem wk_row3 {h h' : Hp} {bl b : Nat} {ob o' : Ob} {A B : List ByteArray} {s : ByteArray} (hbl : h bl = none) (hb : h b = none) (hne : bl ≠ b) (e1 : h' = upd (upd h bl (some o')) b (some ob)) (h1 : ob.s = 1) (h2 : ob.n = 3) (f0 : ob.f 0 0 = encL 1 cS A) (f1 : ob.f 1 0 = encL 1 cS B) (f2 : ob.f 2 0 = .row bl 1 0 1) (g1 : o'.s = 1) (g2 : o'.n = 1) (g3 : o'.f 0 0 = S s) :
    Wk h' (.row b 1 0 3) h (encL 1 cLs [A, B, [s]]) := by
  subst e1
  have sb : Sub h (upd h bl (some o')) := Sub.upd hbl (Sub.refl _)
  refine Wk.trans (Wk.row (h' := upd h bl (some o')) (upd_same _ _ _) (Sub.upd (by rw [upd_ne _ _ (Ne.symm hne)]; exact hb) (Sub.refl _)) (by rw [upd_ne _ _ (Ne.symm hne)]; exact hb) h1 (by omega) (by decide)) (Wk.slMap sb fun i hi j hj => ?_)
  obtain rfl : j = 0 := by omega
  rcases (show i = 0 ∨ i = 1 ∨ i = 2 by omega) with rfl | rfl | rfl
  · rw [f0]; exact Wk.drop _ sb
  · rw [f1]; exact Wk.drop _ sb
  · rw [f2]
    refine Wk.rowF (f := cellsL cS [s]) (upd_same _ _ _) sb hbl g1 (by omega) (by decide) fun i hi j hj => ?_
    obtain rfl : i = 0 := by omega
    obtain rfl : j = 0 := by omega
    exact g3
theorem wk_row2 {h : Hp} {b : Nat} {ob : Ob} {A B : List ByteArray} (hb : h b = none) (h1 : ob.s = 1) (h2 : ob.n = 2) (f0 : ob.f 0 0 = encL 1 cS A) (f1 : ob.f 1 0 = encL 1 cS B) : Wk (upd h b (some ob)) (.row b 1 0 2) h (encL 1 cLs [A, B]) := by
  refine Wk.rowF (f := cellsL cLs [A, B]) (upd_same _ _ _) (Sub.upd hb (Sub.refl _)) hb h1 (by omega) (by decide) fun i hi j hj => ?_
  obtain rfl : j = 0 := by omega
  rcases (show i = 0 ∨ i = 1 by omega) with rfl | rfl
  · exact f0
  · exact f1
set_option maxHeartbeats 4000000 in
theorem snames_ok (x : Arx) (hc : x.cond.length ≤ 1048576) (ht : x.thn.length ≤ 1048576) : Pure Tryz.prog 88 [aggL (cArx x)] (tup2 (encL 1 cS (nmA x)) (encL 1 cS (nmT x))) := by
  obtain ⟨nm, tg, cond, thn, over, wt⟩ := x
  dsimp only at hc ht
  have p1 := tnames_ok cond (by omega)
  have p2 := tnames_ok thn (by omega)
  have l1 := namesF_len isAttr cond
  have l2 := namesF_len isTab cond
  have l3 := namesF_len isAttr thn
  have l4 := namesF_len isTab thn
  show Pure _ _ _ (tup2 (encL 1 cS (compB (sortB (tA cond ++ tA thn ++ [tg])))) (encL 1 cS (compB (sortB (tT cond ++ tT thn)))))
  unfold tA tT
  generalize compB (sortB (namesF isAttr cond)) = A1 at *
  generalize compB (sortB (namesF isTab cond)) = A2 at *
  generalize compB (sortB (namesF isAttr thn)) = B1 at *
  generalize compB (sortB (namesF isTab thn)) = B2 at *
  intro h; refine callK_body Tryz.func88 rfl (by rw [nt88]; simp) ?_; rw [nt88, rs88]
  (repeat' (first | simp [go_sem, X_region, *] | simp (disch := omega) only [om, *] | ((first | refine XC_split ?_ ?_ | refine XG_true ?_ ?_ | refine XG_false ?_ ?_ | refine XRg_true ?_ ?_ | refine XRg_false ?_ ?_) <;> intro hc <;> (try simp only [bl] at hc) <;> (try (exfalso; omega))) | refine XD_w [] [] [] (fun _ => none) mixed (by decide +kernel) (sub_none _) ?_ | fail))
  intro b1 hb1
  (repeat' (first | simp [go_sem, X_region, *] | simp (disch := omega) only [om, *] | ((first | refine XC_split ?_ ?_ | refine XG_true ?_ ?_ | refine XG_false ?_ ?_ | refine XRg_true ?_ ?_ | refine XRg_false ?_ ?_) <;> intro hc <;> (try simp only [bl] at hc) <;> (try (exfalso; omega))) | refine XD_w [] [] [] (fun _ => none) mixed (by decide +kernel) (sub_none _) ?_ | refine Pure.call (p1) ?_ | refine ⟨_, Pure.at (p1), ?_⟩ | refine ⟨_, p1, ?_⟩ | refine PureAt.call (p1) ?_ | refine Pure.call (p2) ?_ | refine ⟨_, Pure.at (p2), ?_⟩ | refine ⟨_, p2, ?_⟩ | refine PureAt.call (p2) ?_ | fail))
  intro bl n1 n2 hbl b n3 n4 n5 n6 hb
  generalize hH : upd h b1 _ = H at *
  have hS : Sub h H := by rw [← hH]; exact Sub.upd hb1 (Sub.refl _)
  have hbl' : H bl = none := by rw [← hH, upd_ne _ _ n1]; exact hbl
  have hb' : H b = none := by rw [← hH, upd_ne _ _ n5]; exact hb
  clear hH p1 p2
  have m1 : totL [A1, B1, [tg]] ≤ 1000000000 := by simp only [totL, List.length_cons, List.length_nil]; omega
  have m2 : totL [A2, B2] ≤ 1000000000 := by simp only [totL]; omega
  have q1 := concat_ok [A1, B1, [tg]] (by simp) m1 H
  refine CallK.wk (wk_row3 hbl' hb' (Ne.symm n3) rfl rfl rfl rfl rfl rfl rfl rfl rfl) (by simp) (q1.mono fun r1 g1 o1 => ?_)
  intro b4 hb4
  have q2 := concat_ok [A2, B2] (by simp) m2 g1
  refine CallK.wk (wk_row2 hb4 rfl rfl rfl rfl) (by simp) (q2.mono fun r2 g2 o2 => ?_)
  have hdj := OwnE.old (.inl o1) (.inl o2)
  have s0 := o1.1
  replace o1 := own_grow o1 o2.1
  replace o2 := own_up s0 o2
  have w1 := m1
  have w2 := m2
  rw [totL_eq] at w1 w2
  have e1 : [A1, B1, [tg]].flatten = A1 ++ (B1 ++ [tg]) := by simp
  have e2 : [A2, B2].flatten = A2 ++ B2 := by simp
  rw [e1] at o1 hdj w1
  rw [e2] at o2 hdj w2
  clear e1 e2 q1 q2 m1 m2
  generalize A1 ++ (B1 ++ [tg]) = a1 at *
  generalize A2 ++ B2 = a2 at *
  obtain ⟨H1, oH1, s1, k1⟩ := own_hole o1
  refine (sort_own a1 (by omega) oH1).mono fun _ g3 x1 => ?_
  have y2 := own_keep s1 k1 x1.1 o2 hdj
  have hl1' : (sortB a1).length = a1.length := by simp [sortB]
  have hl2' : (sortB a2).length = a2.length := by simp [sortB]
  have hdj := own_apart k1 x1 o2 hdj
  have y1 := own_up s1 x1
  obtain ⟨H2, oH2, s2, k2⟩ := own_hole y2
  refine (sort_own a2 (by omega) oH2).mono fun _ g4 x2 => ?_
  have v1 := own_keep s2 k2 x2.1 y1 fun c hc hc' => hdj c hc' hc
  have hdj := own_apart k2 x2 y1 fun c hc hc' => hdj c hc' hc
  have v2 := own_up s2 x2
  obtain ⟨H3, oH3, s3, k3⟩ := own_hole v1
  refine (compact_own (sortB a1) (by omega) oH3).mono fun u1 g5 x3 => ?_
  have y2 := own_keep s3 k3 x3.1 v2 fun c hc hc' => hdj c hc' hc
  have hdj3 := own_apartC k3 x3 v2 fun c hc hc' => hdj c hc' hc
  have y1 := ownC_up s3 x3
  obtain ⟨H4, oH4, s4, k4⟩ := own_hole y2
  refine (compact_own (sortB a2) (by omega) oH4).mono fun u2 g6 x4 => ?_
  have v1 := ownC_keep s4 k4 x4.1 y1 fun c hc hc' => hdj3 c hc' hc
  have v2 := ownC_up s4 x4
  have hc1 : (compB (sortB a1)).length ≤ 1000000000 := Nat.le_trans (compB_len _) (by omega)
  have hc2 : (compB (sortB a2)).length ≤ 1000000000 := Nat.le_trans (compB_len _) (by omega)
  exact (Wk.tup2M v1.1 (ownC_frozen v1 (by omega)) (ownC_frozen v2 (by omega))).trans (Wk.drop _ hS)
end Go.Proofs.YtmalhikcdideoaaGreatDoor

set_option linter.unusedVariables false
set_option linter.unusedSimpArgs false
namespace Go.Proofs.YtmalhikcdideoaaGreatDoor
open Go Sl
attribute [local irreducible] XRange LpQ XR XRo XRg XRQ putQ XFv XL XW2 wQ putW X XO XOp XH XHo XW SeqQ BlkQ XOQ XHQ NrmQ XC XM XG XHM XHG XD CallK
open Go.RowKit
theorem compact_same (L M : List Bs) (h : ∀ s, s ∈ L ↔ s ∈ M) : Lib.compact (L.mergeSort fun x y => decide (x ≤ y)) = Lib.compact (M.mergeSort fun x y => decide (x ≤ y)) := by
  refine strict_unique ltB ltB_irr ltB_trans _ _ (compact_strict _ (sorted_of L)) (compact_strict _ (sorted_of M)) fun x => ?_
  rw [compact_mem, compact_mem, List.mem_mergeSort, List.mem_mergeSort]
  exact h x
theorem compB_sortB (l : List ByteArray) : compB (sortB l) = (Lib.compact ((l.map tB).mergeSort fun x y => decide (x ≤ y))).map bOf := by
  unfold sortB compB
  rw [List.map_map, show (tB ∘ bOf) = id from funext tB_bOf, List.map_id]
theorem compB_same (l m : List ByteArray) (h : ∀ s, s ∈ l ↔ s ∈ m) : compB (sortB l) = compB (sortB m) := by
  rw [compB_sortB, compB_sortB]
  congr 1
  refine compact_same _ _ fun s => ?_
  simp only [List.mem_map]
  exact ⟨fun ⟨a, ha, e⟩ => ⟨a, (h a).1 ha, e⟩, fun ⟨a, ha, e⟩ => ⟨a, (h a).2 ha, e⟩⟩
theorem bOf_tB (a : ByteArray) : bOf (tB a) = a := tB_inj rfl
theorem compB_mem (l : List ByteArray) (s : ByteArray) : s ∈ compB (sortB l) ↔ s ∈ l := by
  rw [compB_sortB, List.mem_map]
  constructor
  · rintro ⟨x, hx, rfl⟩
    rw [compact_mem, List.mem_mergeSort, List.mem_map] at hx
    obtain ⟨a, ha, rfl⟩ := hx
    rw [bOf_tB]
    exact ha
  · intro hs
    refine ⟨tB s, ?_, bOf_tB s⟩
    rw [compact_mem, List.mem_mergeSort, List.mem_map]
    exact ⟨s, hs, rfl⟩
theorem hasB_iff {α : Type} [DecidableEq α] (l : List α) (s : α) : hasB l s = true ↔ s ∈ l := by simp [hasB]
theorem namesF_append (p : Int → Bool) (e f : List Nd) : namesF p (e ++ f) = namesF p e ++ namesF p f := by simp [namesF]
theorem namesF_congr {p q : Int → Bool} (h : ∀ o, p o = q o) (e : List Nd) : namesF p e = namesF q e := by
  rw [show p = q from funext h]
theorem op_attr (o : Int) : ([1, 2, 3] : List Int).any (fun k => decide (o = k)) = isAttr o := by
  simp only [isAttr, List.any_cons, List.any_nil, Bool.or_false]
  rw [Bool.eq_iff_iff]
  simp [or_assoc]
theorem op_tab (o : Int) : ([16] : List Int).any (fun k => decide (o = k)) = isTab o := by
  simp [isTab]
/-- The attributes of condition and value together. -/
def bothA (x : Arx) : List ByteArray := compB (sortB (namesF (fun o => ([1, 2, 3] : List Int).any fun k => decide (o = k)) (x.cond ++ x.thn)))
def bothT (x : Arx) : List ByteArray := compB (sortB (namesF (fun o => ([16] : List Int).any fun k => decide (o = k)) (x.cond ++ x.thn)))
theorem bothA_mem (x : Arx) (s : ByteArray) : s ∈ bothA x ↔ s ∈ tA x.cond ∨ s ∈ tA x.thn := by
  unfold bothA tA
  rw [compB_mem, compB_mem, compB_mem, namesF_congr op_attr, namesF_append, List.mem_append]
theorem bothT_eq (x : Arx) : bothT x = nmT x := by
  unfold nmT
  show compB (sortB _) = _
  refine compB_same _ _ fun s => ?_
  rw [namesF_congr op_tab, namesF_append, List.mem_append, List.mem_append]
  unfold tT
  rw [compB_mem, compB_mem]
theorem bothA_eq (x : Arx) : compB (sortB (bothA x ++ [x.target])) = nmA x := by
  unfold nmA
  refine compB_same _ _ fun s => ?_
  rw [List.mem_append, bothA_mem, List.mem_append, List.mem_append]
/-- A name that stands for nothing. -/
structure Lo where
  act : ByteArray
  art : ByteArray
  what : Int
  name : ByteArray
  of_ : ByteArray
@[go_sem] def cLo (x : Lo) : List AV := [S x.act, S x.art, I x.what, S x.name, S x.of_]
def looseF (A T : List ByteArray) (R : List Rf) (p : Rf × Arx) : List Lo :=
  ((nmA p.2).filter fun s => !hasB A s).map (fun s => ⟨p.1.1, p.1.2, 1, s, ⟨#[]⟩⟩) ++ (((nmT p.2).filter fun s => !hasB T s).map (fun s => ⟨p.1.1, p.1.2, 2, s, ⟨#[]⟩⟩) ++ (p.2.over.filter fun o => !hasB R o).map fun o => ⟨p.1.1, p.1.2, 3, o.2, o.1⟩)
def dangF (b : List Acx) : List Lo := (pairs b).flatMap (looseF (attrN b) (tabN b) (refN b))
def allA (b : List Acx) : List ByteArray := (pairs b).flatMap fun p => nmA p.2
def allT (b : List Acx) : List ByteArray := (pairs b).flatMap fun p => nmT p.2
def unusedA (b : List Acx) : List ByteArray := (attrN b).filter fun s => !hasB (allA b) s
def unusedT (b : List Acx) : List ByteArray := (tabN b).filter fun s => !hasB (allT b) s
end Go.Proofs.YtmalhikcdideoaaGreatDoor

set_option linter.unusedVariables false
set_option linter.unusedSimpArgs false
namespace Go.Proofs.YtmalhikcdideoaaGreatDoor
open Go Sl
attribute [local irreducible] XRange LpQ XR XRo XRg XRQ putQ XFv XL XW2 wQ putW X XO XOp XH XHo XW SeqQ BlkQ XOQ XHQ NrmQ XC XM XG XHM XHG XD CallK
open Go.RowKit
attribute [local go_sem] beqB
instance : DecidableEq Lo := fun a b => by
  obtain ⟨a1, a2, a3, a4, a5⟩ := a
  obtain ⟨b1, b2, b3, b4, b5⟩ := b
  exact decidable_of_iff (a1 = b1 ∧ a2 = b2 ∧ a3 = b3 ∧ a4 = b4 ∧ a5 = b5) (by simp)
theorem eqRf_ok (l m : List Rf) : Pure Tryz.prog 37 [encL 2 cRf l, encL 2 cRf m] (B (decide (l = m))) := by
  generalize hR : B (decide (l = m)) = R
  intro h; refine CallK.lens fun hlen => ?_; have hlen := (hlen _ (by simp only [List.mem_cons, true_or, or_true] : (encL 2 cRf l) ∈ _)).encL; refine callK_body Tryz.func37 rfl (by rw [nt37]; simp) ?_; rw [nt37, rs37]
  by_cases hlm : l.length = m.length
  · (repeat' (first | simp [go_sem, X_region, *] | simp (disch := omega) only [om, *] | ((first | refine XC_split ?_ ?_ | refine XG_true ?_ ?_ | refine XG_false ?_ ?_ | refine XRg_true ?_ ?_ | refine XRg_false ?_ ?_) <;> intro hc <;> (try simp only [bl] at hc) <;> (try (exfalso; omega))) | refine XD_w [] [] [] (fun _ => none) mixed (by decide +kernel) (sub_none _) ?_ | (intro bk hbk; (try simp only [go_sem] at hbk))))
    refine X_lp (fun n T h' => ∃ (i : Nat) (r r2 : List Rf), n = r.length ∧ i ≤ l.length ∧ l.drop i = r ∧ m.drop i = r2 ∧ T 13 = I i ∧ B (decide (r = r2)) = R ∧ T 0 = encL 2 cRf l ∧ T 1 = encL 2 cRf m ∧ T 12 = I l.length ∧ h' = h) l.length ⟨0, l, m, by simp [go_sem, hR, hlm]⟩ ?_
    clear hR; rintro J hJ n T h' ⟨i, r, r2, rfl, hi, hd, hd', h8, hR, h0, h1, h7, rfl⟩
    rcases r with _ | ⟨x, r⟩
    · have hlt := drop_nil hd
      rcases r2 with _ | ⟨y, r2⟩
      · (repeat' (first | simp [go_sem, X_region, *] | simp (disch := omega) only [om, *] | ((first | refine XC_split ?_ ?_ | refine XG_true ?_ ?_ | refine XG_false ?_ ?_ | refine XRg_true ?_ ?_ | refine XRg_false ?_ ?_) <;> intro hc <;> (try simp only [bl] at hc) <;> (try (exfalso; omega))) | refine XD_w [] [] [] (fun _ => none) mixed (by decide +kernel) (sub_none _) ?_ | (intro bk hbk; (try simp only [go_sem] at hbk))))
        all_goals (subst hR; exact Wk.of_eq (by simp))
      · obtain ⟨hlt2, _⟩ := drop_cons hd'
        omega
    · obtain ⟨hlt, hx, hd2⟩ := drop_cons hd
      rcases r2 with _ | ⟨y, r2⟩
      · have hlt2 := drop_nil hd'
        omega
      · obtain ⟨hlt2, hx2, hd2'⟩ := drop_cons hd'
        by_cases he : x = y
        · (repeat' (first | simp [go_sem, X_region, *] | simp (disch := omega) only [om, *] | ((first | refine XC_split ?_ ?_ | refine XG_true ?_ ?_ | refine XG_false ?_ ?_ | refine XRg_true ?_ ?_ | refine XRg_false ?_ ?_) <;> intro hc <;> (try simp only [bl] at hc) <;> (try (exfalso; omega))) | refine XD_w [] [] [] (fun _ => none) mixed (by decide +kernel) (sub_none _) ?_ | (intro bk hbk; (try simp only [go_sem] at hbk))))
          exact ⟨_, by omega, hJ.out _ _ _ ⟨i + 1, r, r2, rfl, by omega, hd2, hd2', by simp [go_sem, *], by rw [← hR, he]; simp, by simp [go_sem, *], by simp [go_sem, *], by simp [go_sem, *], rfl⟩⟩
        · (repeat' (first | simp [go_sem, X_region, *] | simp (disch := omega) only [om, *] | ((first | refine XC_split ?_ ?_ | refine XG_true ?_ ?_ | refine XG_false ?_ ?_ | refine XRg_true ?_ ?_ | refine XRg_false ?_ ?_) <;> intro hc <;> (try simp only [bl] at hc) <;> (try (exfalso; omega))) | refine XD_w [] [] [] (fun _ => none) mixed (by decide +kernel) (sub_none _) ?_ | (intro bk hbk; (try simp only [go_sem] at hbk))))
          all_goals first
            | (subst hR; exact Wk.of_eq (by simp [he]))
            | (exfalso; apply he; cases x; cases y; simp_all)
  · have hne : ¬ l = m := fun e => hlm (by rw [e])
    (repeat' (first | simp [go_sem, X_region, *] | simp (disch := omega) only [om, *] | ((first | refine XC_split ?_ ?_ | refine XG_true ?_ ?_ | refine XG_false ?_ ?_ | refine XRg_true ?_ ?_ | refine XRg_false ?_ ?_) <;> intro hc <;> (try simp only [bl] at hc) <;> (try (exfalso; omega))) | refine XD_w [] [] [] (fun _ => none) mixed (by decide +kernel) (sub_none _) ?_ | (intro bk hbk; (try simp only [go_sem] at hbk))))
    subst hR
    exact Wk.of_eq (by simp [*])
theorem eqLo_ok (l m : List Lo) : Pure Tryz.prog 40 [encL 5 cLo l, encL 5 cLo m] (B (decide (l = m))) := by
  generalize hR : B (decide (l = m)) = R
  intro h; refine CallK.lens fun hlen => ?_; have hlen := (hlen _ (by simp only [List.mem_cons, true_or, or_true] : (encL 5 cLo l) ∈ _)).encL; refine callK_body Tryz.func40 rfl (by rw [nt40]; simp) ?_; rw [nt40, rs40]
  by_cases hlm : l.length = m.length
  · (repeat' (first | simp [go_sem, X_region, *] | simp (disch := omega) only [om, *] | ((first | refine XC_split ?_ ?_ | refine XG_true ?_ ?_ | refine XG_false ?_ ?_ | refine XRg_true ?_ ?_ | refine XRg_false ?_ ?_) <;> intro hc <;> (try simp only [bl] at hc) <;> (try (exfalso; omega))) | refine XD_w [] [] [] (fun _ => none) mixed (by decide +kernel) (sub_none _) ?_ | (intro bk hbk; (try simp only [go_sem] at hbk))))
    refine X_lp (fun n T h' => ∃ (i : Nat) (r r2 : List Lo), n = r.length ∧ i ≤ l.length ∧ l.drop i = r ∧ m.drop i = r2 ∧ T 13 = I i ∧ B (decide (r = r2)) = R ∧ T 0 = encL 5 cLo l ∧ T 1 = encL 5 cLo m ∧ T 12 = I l.length ∧ h' = h) l.length ⟨0, l, m, by simp [go_sem, hR, hlm]⟩ ?_
    clear hR; rintro J hJ n T h' ⟨i, r, r2, rfl, hi, hd, hd', h8, hR, h0, h1, h7, rfl⟩
    rcases r with _ | ⟨x, r⟩
    · have hlt := drop_nil hd
      rcases r2 with _ | ⟨y, r2⟩
      · (repeat' (first | simp [go_sem, X_region, *] | simp (disch := omega) only [om, *] | ((first | refine XC_split ?_ ?_ | refine XG_true ?_ ?_ | refine XG_false ?_ ?_ | refine XRg_true ?_ ?_ | refine XRg_false ?_ ?_) <;> intro hc <;> (try simp only [bl] at hc) <;> (try (exfalso; omega))) | refine XD_w [] [] [] (fun _ => none) mixed (by decide +kernel) (sub_none _) ?_ | (intro bk hbk; (try simp only [go_sem] at hbk))))
        all_goals (subst hR; exact Wk.of_eq (by simp))
      · obtain ⟨hlt2, _⟩ := drop_cons hd'
        omega
    · obtain ⟨hlt, hx, hd2⟩ := drop_cons hd
      rcases r2 with _ | ⟨y, r2⟩
      · have hlt2 := drop_nil hd'
        omega
      · obtain ⟨hlt2, hx2, hd2'⟩ := drop_cons hd'
        by_cases he : x = y
        · (repeat' (first | simp [go_sem, X_region, *] | simp (disch := omega) only [om, *] | ((first | refine XC_split ?_ ?_ | refine XG_true ?_ ?_ | refine XG_false ?_ ?_ | refine XRg_true ?_ ?_ | refine XRg_false ?_ ?_) <;> intro hc <;> (try simp only [bl] at hc) <;> (try (exfalso; omega))) | refine XD_w [] [] [] (fun _ => none) mixed (by decide +kernel) (sub_none _) ?_ | (intro bk hbk; (try simp only [go_sem] at hbk))))
          exact ⟨_, by omega, hJ.out _ _ _ ⟨i + 1, r, r2, rfl, by omega, hd2, hd2', by simp [go_sem, *], by rw [← hR, he]; simp, by simp [go_sem, *], by simp [go_sem, *], by simp [go_sem, *], rfl⟩⟩
        · (repeat' (first | simp [go_sem, X_region, *] | simp (disch := omega) only [om, *] | ((first | refine XC_split ?_ ?_ | refine XG_true ?_ ?_ | refine XG_false ?_ ?_ | refine XRg_true ?_ ?_ | refine XRg_false ?_ ?_) <;> intro hc <;> (try simp only [bl] at hc) <;> (try (exfalso; omega))) | refine XD_w [] [] [] (fun _ => none) mixed (by decide +kernel) (sub_none _) ?_ | (intro bk hbk; (try simp only [go_sem] at hbk))))
          all_goals first
            | (subst hR; exact Wk.of_eq (by simp [he]))
            | (exfalso; apply he; cases x; cases y; simp_all)
  · have hne : ¬ l = m := fun e => hlm (by rw [e])
    (repeat' (first | simp [go_sem, X_region, *] | simp (disch := omega) only [om, *] | ((first | refine XC_split ?_ ?_ | refine XG_true ?_ ?_ | refine XG_false ?_ ?_ | refine XRg_true ?_ ?_ | refine XRg_false ?_ ?_) <;> intro hc <;> (try simp only [bl] at hc) <;> (try (exfalso; omega))) | refine XD_w [] [] [] (fun _ => none) mixed (by decide +kernel) (sub_none _) ?_ | (intro bk hbk; (try simp only [go_sem] at hbk))))
    subst hR
    exact Wk.of_eq (by simp [*])
end Go.Proofs.YtmalhikcdideoaaGreatDoor

set_option linter.unusedVariables false
set_option linter.unusedSimpArgs false
namespace Go.Proofs.YtmalhikcdideoaaGreatDoor
open Go Sl
attribute [local irreducible] XRange LpQ XR XRo XRg XRQ putQ XFv XL XW2 wQ putW X XO XOp XH XHo XW SeqQ BlkQ XOQ XHQ NrmQ XC XM XG XHM XHG XD CallK
open Go.RowKit
def idxP (p : ByteArray → Bool) : List ByteArray → Int → Int
  | [], _ => -1
  | x :: r, i => if p x = true then i else idxP p r (i + 1)
theorem idxP_at (p : ByteArray → Bool) : ∀ (l : List ByteArray) (i : Nat), (idxP p l i = -1 ∧ l.filter (fun s => !p s) = l) ∨ ∃ k : Nat, idxP p l i = ((i + k : Nat) : Int) ∧ k < l.length ∧ (l.take (k + 1)).filter (fun s => !p s) = l.take k
  | [], i => .inl ⟨rfl, rfl⟩
  | x :: r, i => by
    unfold idxP
    by_cases h : p x = true
    · rw [if_pos h]
      exact .inr ⟨0, by simp, by simp, by simp [h]⟩
    · have h : p x = false := by simpa using h
      rw [if_neg (by rw [h]; decide)]
      rcases idxP_at p r (i + 1) with ⟨h1, h2⟩ | ⟨k, h1, h2, h3⟩
      · exact .inl ⟨by rw [show ((i : Int) + 1) = ((i + 1 : Nat) : Int) by omega]; exact h1, by simp [h, h2]⟩
      · refine .inr ⟨k + 1, by rw [show ((i : Int) + 1) = ((i + 1 : Nat) : Int) by omega, h1]; omega, by simp; omega, ?_⟩
        rw [List.take_succ_cons, List.filter_cons, List.take_succ_cons, h3]
        simp [h]
set_option maxHeartbeats 1000000 in
theorem idxF_ok {h : Hp} {b : Nat} {ob : Ob} {f : FuncId} {caps : List Value} (hcal : callable Tryz.prog f = true) (p : ByteArray → Bool) (l : List ByteArray) (hl : l.length ≤ 1000000000) (hp : ∀ s, PureAt Tryz.prog h f ([S s] ++ caps.map .v) (B (p s)))
    (hb : h b = some ob) (h1 : ob.s = 1) (h2 : ob.n = l.length) (hf : ∀ i (hi : i < l.length), ob.f i 0 = S l[i]) : PureAt Tryz.prog h 89 [.row b 1 0 l.length, .v (.func (.func f) #[] caps.toArray)] (I (idxP p l 0)) := by
  obtain ⟨R, hR⟩ : ∃ R, idxP p l 0 = R := ⟨_, rfl⟩
  rw [hR]
  unfold PureAt
  refine callK_body Tryz.func89 rfl (by rw [nt89]; simp) ?_; rw [nt89, rs89]
  (repeat' (first | simp [go_sem, X_region, *] | simp (disch := omega) only [om, *] | ((first | refine XC_split ?_ ?_ | refine XG_true ?_ ?_ | refine XG_false ?_ ?_ | refine XRg_true ?_ ?_ | refine XRg_false ?_ ?_) <;> intro hc <;> (try simp only [bl] at hc) <;> (try (exfalso; omega))) | refine XD_w [] [] [] (fun _ => none) mixed (by decide +kernel) (sub_none _) ?_ | fail))
  refine X_lpF (fun i => (4 ≤ i ∧ i ≤ 5) ∨ (8 ≤ i ∧ i ≤ 18)) (fun n T g => ∃ (i : Nat) (r : List ByteArray), n = r.length ∧ i ≤ l.length ∧ l.drop i = r ∧ T 8 = I i ∧ g = h ∧ Hid (idxP p r i = R)) l.length
    ⟨0, l, rfl, by omega, rfl, by simp [go_sem], rfl, ⟨hR⟩⟩ ?_
  clear hR
  rintro J hJ n T g hfr ⟨i, r, rfl, hi, hd, t8, rfl, hq⟩
  rcases r with _ | ⟨x, r⟩
  · have hlt := drop_nil hd
    obtain rfl : R = -1 := hq.out.symm
    clear hq
    (repeat' (first | simp [go_sem, X_region, *] | simp (disch := omega) only [om, *] | ((first | refine XC_split ?_ ?_ | refine XG_true ?_ ?_ | refine XG_false ?_ ?_ | refine XRg_true ?_ ?_ | refine XRg_false ?_ ?_) <;> intro hc <;> (try simp only [bl] at hc) <;> (try (exfalso; omega))) | refine XD_w [] [] [] (fun _ => none) mixed (by decide +kernel) (sub_none _) ?_ | fail))
  · obtain ⟨hlt, hx, hd2⟩ := drop_cons hd
    have hfx := hf i hlt
    rw [hx] at hfx
    have hpx := hp x
    have hq0 := hq.out
    unfold idxP at hq0
    cases hpp : p x
    · rw [hpp] at hpx
      rw [if_neg (by rw [hpp]; decide)] at hq0
      replace hq0 : Hid (idxP p r ((i + 1 : Nat) : Int) = R) := ⟨hq0⟩
      clear hq
      (repeat' (first | simp [go_sem, X_region, *] | simp (disch := omega) only [om, *] | ((first | refine XC_split ?_ ?_ | refine XG_true ?_ ?_ | refine XG_false ?_ ?_ | refine XRg_true ?_ ?_ | refine XRg_false ?_ ?_) <;> intro hc <;> (try simp only [bl] at hc) <;> (try (exfalso; omega))) | refine XD_w [] [] [] (fun _ => none) mixed (by decide +kernel) (sub_none _) ?_ | refine Pure.call (hpx) ?_ | refine ⟨_, Pure.at (hpx), ?_⟩ | refine ⟨_, hpx, ?_⟩ | refine PureAt.call (hpx) ?_ | fail))
      exact ⟨_, Nat.lt_succ_self _, hJ.out _ _ _ ⟨(by (repeat (refine fr_upd (by decide) ?_)); exact hfr), i + 1, r, rfl, by omega, hd2, by simp [go_sem], rfl, hq0⟩⟩
    · rw [hpp] at hpx
      rw [if_pos hpp] at hq0
      subst hq0
      clear hq
      (repeat' (first | simp [go_sem, X_region, *] | simp (disch := omega) only [om, *] | ((first | refine XC_split ?_ ?_ | refine XG_true ?_ ?_ | refine XG_false ?_ ?_ | refine XRg_true ?_ ?_ | refine XRg_false ?_ ?_) <;> intro hc <;> (try simp only [bl] at hc) <;> (try (exfalso; omega))) | refine XD_w [] [] [] (fun _ => none) mixed (by decide +kernel) (sub_none _) ?_ | refine Pure.call (hpx) ?_ | refine ⟨_, Pure.at (hpx), ?_⟩ | refine ⟨_, hpx, ?_⟩ | refine PureAt.call (hpx) ?_ | fail))
theorem filter_take (q : ByteArray → Bool) (l : List ByteArray) (j : Nat) (hj : j < l.length) : (l.take (j + 1)).filter q = if q l[j] = true then (l.take j).filter q ++ [l[j]] else (l.take j).filter q := by
  rw [List.take_add_one, List.getElem?_eq_getElem hj, List.filter_append]
  by_cases h : q l[j] = true <;> simp [h]
set_option maxHeartbeats 4000000 in
theorem delF_ok {Q h : Hp} {b : Nat} {ob : Ob} {f : FuncId} {caps : List Value} (hcal : callable Tryz.prog f = true) (p : ByteArray → Bool) (l : List ByteArray) (hl : l.length ≤ 1000000000) (hp : ∀ g, Sub Q g → ∀ s, PureAt Tryz.prog g f ([S s] ++ caps.map .v) (B (p s)))
    (hQ : Sub Q h) (hQb : Q b = none) (hb : h b = some ob) (h1 : ob.s = 1) (h2 : ob.n = l.length) (hf : ∀ i (hi : i < l.length), ob.f i 0 = S l[i]) :
    CallK Tryz.prog h 34 [.row b 1 0 l.length, .v (.func (.func f) #[] caps.toArray)] fun r g => r = .row b 1 0 (l.filter fun s => !p s).length ∧ ∃ o', g = upd h b (some o') ∧ o'.ty = ob.ty ∧ o'.s = 1 ∧ (l.filter fun s => !p s).length ≤ o'.n ∧ ∀ i (hi : i < (l.filter fun s => !p s).length), o'.f i 0 = S (l.filter fun s => !p s)[i] := by
  have k0 := idxF_ok hcal p l hl (hp h hQ) hb h1 h2 hf
  rcases idxP_at p l 0 with ⟨e1, e2⟩ | ⟨k, e1, hk, e2⟩
  · rw [show ((0 : Nat) : Int) = 0 from rfl] at e1
    rw [e1] at k0
    rw [e2]
    refine callK_body Tryz.func34 rfl (by rw [nt34]; simp) ?_; rw [nt34, rs34]
    (repeat' (first | simp [go_sem, X_region, *] | simp (disch := omega) only [om, *] | ((first | refine XC_split ?_ ?_ | refine XG_true ?_ ?_ | refine XG_false ?_ ?_ | refine XRg_true ?_ ?_ | refine XRg_false ?_ ?_) <;> intro hc <;> (try simp only [bl] at hc) <;> (try (exfalso; omega))) | refine XD_w [] [] [] (fun _ => none) mixed (by decide +kernel) (sub_none _) ?_ | refine Pure.call (k0) ?_ | refine ⟨_, Pure.at (k0), ?_⟩ | refine ⟨_, k0, ?_⟩ | refine PureAt.call (k0) ?_ | fail))
    exact ⟨_, _, Wk.refl _ _, rfl, ob, (upd_id hb).symm, rfl, h1, by omega, hf⟩
  · rw [show ((0 : Nat) : Int) = 0 from rfl, Nat.zero_add] at e1
    rw [e1] at k0
    obtain ⟨R, hR⟩ : ∃ R, l.filter (fun s => !p s) = R := ⟨_, rfl⟩
    have hRl : R.length ≤ l.length := by rw [← hR]; exact List.length_filter_le ..
    rw [hR]
    refine callK_body Tryz.func34 rfl (by rw [nt34]; simp) ?_; rw [nt34, rs34]
    (repeat' (first | simp [go_sem, X_region, *] | simp (disch := omega) only [om, *] | ((first | refine XC_split ?_ ?_ | refine XG_true ?_ ?_ | refine XG_false ?_ ?_ | refine XRg_true ?_ ?_ | refine XRg_false ?_ ?_) <;> intro hc <;> (try simp only [bl] at hc) <;> (try (exfalso; omega))) | refine XD_w [] [] [] (fun _ => none) mixed (by decide +kernel) (sub_none _) ?_ | refine Pure.call (k0) ?_ | refine ⟨_, Pure.at (k0), ?_⟩ | refine ⟨_, k0, ?_⟩ | refine PureAt.call (k0) ?_ | fail))
    refine X_lpF (fun i => (5 ≤ i ∧ i ≤ 7) ∨ (16 ≤ i ∧ i ≤ 35)) (fun n T g => ∃ (j : Nat) (out : List ByteArray) (o' : Ob), n + j = l.length ∧ T 6 = I j ∧ T 5 = I out.length ∧ g = upd h b (some o') ∧ o'.ty = ob.ty ∧ o'.s = 1 ∧ o'.n = l.length ∧ out.length < j ∧ Hid ((l.take j).filter (fun s => !p s) = out) ∧ (∀ i (hi : i < out.length), o'.f i 0 = S out[i]) ∧ ∀ i (hi : i < l.length), j ≤ i → o'.f i 0 = S l[i]) (l.length - (k + 1))
      ⟨k + 1, l.take k, ob, by omega, by simp [go_sem], by simp [go_sem, List.length_take, Nat.min_eq_left (Nat.le_of_lt hk)], (upd_id hb).symm, rfl, h1, h2, by rw [List.length_take]; omega, ⟨e2⟩, fun i hi => by
        rw [List.length_take] at hi
        rw [hf i (by omega), List.getElem_take], fun i hi _ => hf i hi⟩ ?_
    rintro J hJ n T g hfr ⟨j, out, o', hn, t6, t5, rfl, y1, y2, y3, hoj, hq, z1, z2⟩
    have eb : upd h b (some o') b = some o' := upd_same _ _ _
    by_cases hjl : j < l.length
    · have hx := z2 j hjl (Nat.le_refl _)
      have hpx := hp (upd h b (some o')) (Sub.upd hQb hQ) l[j]
      have ht := filter_take (fun s => !p s) l j hjl
      rw [hq.out] at ht
      generalize hy : l[j] = y at *
      have hol : out.length < l.length := by omega
      cases hpp : p y
      · rw [hpp] at hpx
        rw [if_pos (by rw [hpp]; rfl)] at ht
        (repeat' (first | simp [go_sem, X_region, *] | simp (disch := omega) only [om, *] | ((first | refine XC_split ?_ ?_ | refine XG_true ?_ ?_ | refine XG_false ?_ ?_ | refine XRg_true ?_ ?_ | refine XRg_false ?_ ?_) <;> intro hc <;> (try simp only [bl] at hc) <;> (try (exfalso; omega))) | refine XD_w [] [] [] (fun _ => none) mixed (by decide +kernel) (sub_none _) ?_ | refine Pure.call (hpx) ?_ | refine ⟨_, Pure.at (hpx), ?_⟩ | refine ⟨_, hpx, ?_⟩ | refine PureAt.call (hpx) ?_ | fail))
        refine ⟨n - 1, by omega, hJ.out _ _ _ ⟨(by (repeat (refine fr_upd (by decide) ?_)); exact hfr), j + 1, out ++ [y], _, by omega, by simp [go_sem], by simp [go_sem], rfl, rfl, rfl, rfl, by simp; omega, ⟨ht⟩, fun i hi => ?_, fun i hi hji => ?_⟩⟩
        · simp only [List.length_append, List.length_cons, List.length_nil] at hi
          by_cases hio : i < out.length
          · rw [List.getElem_append_left hio, ← z1 i hio]
            simp only []
            rw [if_neg (by omega)]
          · obtain rfl : i = out.length := by omega
            simp
        · rw [← z2 i hi (by omega)]
          simp only []
          rw [if_neg (by omega)]
      · rw [hpp] at hpx
        rw [if_neg (by rw [hpp]; decide)] at ht
        (repeat' (first | simp [go_sem, X_region, *] | simp (disch := omega) only [om, *] | ((first | refine XC_split ?_ ?_ | refine XG_true ?_ ?_ | refine XG_false ?_ ?_ | refine XRg_true ?_ ?_ | refine XRg_false ?_ ?_) <;> intro hc <;> (try simp only [bl] at hc) <;> (try (exfalso; omega))) | refine XD_w [] [] [] (fun _ => none) mixed (by decide +kernel) (sub_none _) ?_ | refine Pure.call (hpx) ?_ | refine ⟨_, Pure.at (hpx), ?_⟩ | refine ⟨_, hpx, ?_⟩ | refine PureAt.call (hpx) ?_ | fail))
        exact ⟨n - 1, by omega, hJ.out _ _ _ ⟨(by (repeat (refine fr_upd (by decide) ?_)); exact hfr), j + 1, out, o', by omega, by simp [go_sem], by simp [go_sem, t5], rfl, y1, y2, y3, by omega, ⟨ht⟩, z1, fun i hi hji => z2 i hi (by omega)⟩⟩
    · obtain rfl : j = l.length := by omega
      have ho : out = R := by rw [← hR, ← hq.out, List.take_length]
      subst ho
      clear hq hR
      (repeat' (first | simp [go_sem, X_region, *] | simp (disch := omega) only [om, *] | ((first | refine XC_split ?_ ?_ | refine XG_true ?_ ?_ | refine XG_false ?_ ?_ | refine XRg_true ?_ ?_ | refine XRg_false ?_ ?_) <;> intro hc <;> (try simp only [bl] at hc) <;> (try (exfalso; omega))) | refine XD_w [] [] [] (fun _ => none) mixed (by decide +kernel) (sub_none _) ?_ | fail))
      refine X_clear (e := 9) (off := out.length) (n := l.length - out.length) und54 zr9 (by simp [go_sem]) eb y2 ?_ ?_
      · rw [y3]; omega
      (repeat' (first | simp [go_sem, X_region, *] | simp (disch := omega) only [om, *] | ((first | refine XC_split ?_ ?_ | refine XG_true ?_ ?_ | refine XG_false ?_ ?_ | refine XRg_true ?_ ?_ | refine XRg_false ?_ ?_) <;> intro hc <;> (try simp only [bl] at hc) <;> (try (exfalso; omega))) | refine XD_w [] [] [] (fun _ => none) mixed (by decide +kernel) (sub_none _) ?_ | fail))
      exact ⟨_, _, Wk.refl _ _, rfl, _, rfl, rfl, rfl, Nat.le_refl _, z1⟩
end Go.Proofs.YtmalhikcdideoaaGreatDoor

set_option linter.unusedVariables false
set_option linter.unusedSimpArgs false
namespace Go.Proofs.YtmalhikcdideoaaGreatDoor
open Go Sl
attribute [local irreducible] XRange LpQ XR XRo XRg XRQ putQ XFv XL XW2 wQ putW X XO XOp XH XHo XW SeqQ BlkQ XOQ XHQ NrmQ XC XM XG XHM XHG XD CallK
open Go.RowKit
theorem CallK.lendOwn {P : Program} {h : Hp} {f : FuncId} {args args' : List AV} {e : TypeId} {s n : Nat} {q : Nat → Nat → AV} (hl : LendL h args args') (hf : ∀ i j, i < n → j < s → Flat (q i j)) (c : CallK P (fun _ => none) f args' fun r g => Own (fun _ => none) g r e s n q) : CallK P h f args fun r g => Own h g r e s n q := by
  unfold CallK at *
  intro w vals hh ha
  obtain ⟨hlen, hget⟩ := hl.get
  have ha' : RdL w (fun _ => none) args' vals := ⟨ha.1.trans hlen, fun i a' hi => by
    obtain ⟨a, h1, h2⟩ := hget i a' hi
    obtain ⟨u, h3, h4⟩ := ha.2 i a h1
    exact ⟨u, h3, h2 w u hh h4⟩⟩
  refine (c w vals (relH_forget hh (sub_none h)) ha').mono ?_
  rintro e' w' ⟨u, r, g0, rfl, own, hr, rh, io, st⟩
  have old : ∀ k, k < w.heap.size → w'.heap[k]? = w.heap[k]? := fun k hk => st.block k hk rfl
  rcases own with ⟨_, ⟨rfl, h1⟩ | ⟨b, o, rfl, _, hb, p1, p2, p3, p4, p5⟩⟩
  · refine ⟨u, r, h, rfl, ⟨Sub.refl _, .inl ⟨rfl, h1⟩⟩, ?_, hh.grow st.size old, io, Stp.grow hh st.size old⟩
    rcases h1 with rfl | rfl
    · exact hr
    · exact hr
  · have hbs : w.heap.size ≤ b := by
      rcases Nat.lt_or_ge b w.heap.size with h1 | h1
      · rw [st.noacq b h1 rfl] at hb; cases hb
      · exact h1
    have hbn : h b = none := by
      cases hx : h b with
      | none => rfl
      | some o => exact absurd (hh.lt hx) (by omega)
    have st2 : Stp w h w' (upd h b (some o)) := ⟨st.size, fun k hk _ => old k hk, fun k hk hn => by rw [upd_ne _ _ (by omega)]; exact hn, fun k o' hk ho' => by
      rw [upd_ne _ _ (by omega)] at ho'
      exact ⟨o', ho', rfl, fun c fr hc => ⟨c, fr, (old k hk).trans hc, rfl⟩⟩⟩
    obtain ⟨cap, hu, hle, hlt, hmax, hrow⟩ := hr
    obtain ⟨cs, hcs, hcn, hcp, hcell⟩ := rh.cells hb (.inl (by omega))
    refine ⟨u, _, upd h b (some o), rfl, ⟨Sub.upd hbn (Sub.refl _), .inr ⟨b, o, rfl, hbn, upd_same _ _ _, p1, p2, p3, p4, p5⟩⟩, ⟨cap, hu, hle, hlt, hmax, fun o2 ho2 => ?_⟩, ⟨fun k ok hk => ?_, hh.glob.step st2⟩, io, st2⟩
    · rw [upd_same] at ho2
      cases ho2
      exact hrow o hb
    · by_cases hkb : k = b
      · subst hkb
        rw [upd_same] at hk
        cases hk
        unfold HeldH
        rw [if_neg (by omega)]
        refine ⟨cs, hcs, hcn, hcp, fun i hi j hj => ?_⟩
        obtain ⟨x, hx, h1, h2⟩ := hcell i hi j hj
        refine ⟨x, hx, h1, ?_⟩
        have e1 := p5 i (by omega) j (by omega)
        have e2 := hf i j (by omega) (by omega)
        rw [e1] at h2 ⊢
        exact Rd.flat _ _ e2 h2
      · rw [upd_ne _ _ hkb] at hk
        exact (hh.own k ok hk).step st2 (old k (hh.lt hk))
end Go.Proofs.YtmalhikcdideoaaGreatDoor

set_option linter.unusedVariables false
set_option linter.unusedSimpArgs false
namespace Go.Proofs.YtmalhikcdideoaaGreatDoor
open Go Sl
attribute [local irreducible] XRange LpQ XR XRo XRg XRQ putQ XFv XL XW2 wQ putW X XO XOp XH XHo XW SeqQ BlkQ XOQ XHQ NrmQ XC XM XG XHM XHG XD CallK
open Go.RowKit
/-- The cell p holds a slice of the call's own; what Q holds stays. -/
structure Acc {α : Type} (Q : Hp) (enc : α → List AV) (e tS : TypeId) (s : Nat) (B g : Hp) (p : Nat) (l : List α) : Prop where
  z : B p = none
  zq : Q p = none
  nq : ∀ c oc, Q c = some oc → oc.s ≠ s ∨ oc.ty ≠ e
  sq : Sub Q g
  np : 1 ≠ s ∨ tS ≠ e
  q : ∃ o a, g p = some o ∧ o.ty = tS ∧ o.s = 1 ∧ o.n = 1 ∧ o.f 0 0 = a ∧ Own B g a e s l.length (cellsL enc l)
section
variable {α : Type} {Q : Hp} {enc : α → List AV} {e tS : TypeId} {s : Nat} {B B0 g g' : Hp} {p : Nat} {l : List α}
theorem Acc.sub (a : Acc Q enc e tS s B g p l) : Sub B g := by
  obtain ⟨o, x, _, _, _, _, _, h⟩ := a.q
  exact h.1
theorem Acc.grow (a : Acc Q enc e tS s B g p l) (hS : Sub g g') : Acc Q enc e tS s B g' p l := by
  obtain ⟨o, x, h1, h2, h3, h4, h5, h6⟩ := a.q
  exact ⟨a.z, a.zq, a.nq, a.sq.trans hS, a.np, o, x, hS _ _ h1, h2, h3, h4, h5, own_grow h6 hS⟩
theorem Acc.up (a : Acc Q enc e tS s B g p l) (hS : Sub B0 B) : Acc Q enc e tS s B0 g p l := by
  obtain ⟨o, x, h1, h2, h3, h4, h5, h6⟩ := a.q
  exact ⟨sub_none_of hS a.z, a.zq, a.nq, a.sq, a.np, o, x, h1, h2, h3, h4, h5, own_up hS h6⟩
theorem Acc.with_ {c : Nat} {oc : Ob} (a : Acc Q enc e tS s B g p l) (hc : g c = none) : Acc Q enc e tS s (upd B c (some oc)) (upd g c (some oc)) p l := by
  obtain ⟨o, x, h1, h2, h3, h4, h5, h6⟩ := a.q
  have hn := ne_free hc h1
  exact ⟨by rw [upd_ne _ _ hn.2]; exact a.z, a.zq, a.nq, Sub.upd (sub_none_of a.sq hc) a.sq, a.np, o, x, by rw [upd_ne _ _ hn.2]; exact h1, h2, h3, h4, h5, own_with h6 hc⟩
/-- What was appended is put back. -/
theorem Acc.put {x : α} {o o' : Ob} {v v' : AV} (a : Acc Q enc e tS s B g p l) (h1 : g p = some o) (hv : o.f 0 0 = v) (kept : ∀ c oc, g c = some oc → v ≠ .row c s 0 l.length → g' c = some oc) (ho : Own B g' v' e s (l ++ [x]).length (cellsL enc (l ++ [x])))
    (k1 : o'.ty = tS) (k2 : o'.s = 1) (k3 : o'.n = 1) (k4 : o'.f 0 0 = v') : Acc Q enc e tS s B (upd g' p (some o')) p (l ++ [x]) := by
  obtain ⟨o2, x2, h1', h2, h3, h4, h5, h6⟩ := a.q
  rw [h1] at h1'
  cases h1'
  rw [hv] at h5
  subst h5
  have hp : g' p = some o := kept p o h1 (Own.ne h6 h1 (by rw [h3, h2]; exact a.np))
  refine ⟨a.z, a.zq, a.nq, Sub.upd a.zq fun c oc hc => kept c oc (a.sq c oc hc) (Own.ne h6 (a.sq c oc hc) (a.nq c oc hc)), a.np, o', v', upd_same _ _ _, k1, k2, k3, k4, Own.set ho hp a.z (by rw [h3, h2]; exact a.np)⟩
/-- A block that stays, too. -/
theorem Acc.note {c : Nat} {oc : Ob} (a : Acc Q enc e tS s B g p l) (hc : g c = some oc) (hn : oc.s ≠ s ∨ oc.ty ≠ e) (hp : c ≠ p) : Acc (upd Q c (some oc)) enc e tS s B g p l := by
  obtain ⟨o, x, h1, h2, h3, h4, h5, h6⟩ := a.q
  refine ⟨a.z, by rw [upd_ne _ _ (Ne.symm hp)]; exact a.zq, fun d od hd => ?_, fun d od hd => ?_, a.np, o, x, h1, h2, h3, h4, h5, h6⟩
  · by_cases hdc : d = c
    · subst hdc; rw [upd_same] at hd; cases hd; exact hn
    · rw [upd_ne _ _ hdc] at hd; exact a.nq d od hd
  · by_cases hdc : d = c
    · subst hdc; rw [upd_same] at hd; cases hd; exact hc
    · rw [upd_ne _ _ hdc] at hd; exact a.sq d od hd
theorem Acc.less {Q2 : Hp} (a : Acc Q enc e tS s B g p l) (hS : Sub Q2 Q) : Acc Q2 enc e tS s B g p l := by
  obtain ⟨o, x, h1, h2, h3, h4, h5, h6⟩ := a.q
  exact ⟨a.z, sub_none_of hS a.zq, fun d od hd => a.nq d od (hS d od hd), hS.trans a.sq, a.np, o, x, h1, h2, h3, h4, h5, h6⟩
end
section
variable {α : Type} {Q : Hp} {enc : α → List AV} {P : Program} {N : Nat} {T : Nat → AV} {K : (Nat → AV) → Hp → Prop} {d : Option Tmp} {X Y : Operand} {t e tS : TypeId} {t' : TypeId} {pp : String} {af : Array Edge} {gd : Option (Nat × Bool)} {by_ s : Nat} {z : List Value} {B g : Hp} {p : Nat} {l : List α} {x : α}
/-- The captured slice, with an element more. -/
theorem Acc.push {bl : Nat} {ob o : Ob} {v : AV} (a : Acc Q enc e tS s B g p l) (h1 : g p = some o) (hv : o.f 0 0 = v) (ha : ev T X = v) (hu : P.underlying t = some (.slice e)) (hz : zeroA P e = some (s, z)) (hb : bytesT P e = some by_) (hd : dOk N d = true)
    (hbk : g bl = none) (hy : ev T Y = .row bl s 0 1) (k1 : ob.s = s) (k2 : 1 ≤ ob.n) (hq : (List.range s).map (ob.f 0) = enc x) (hm : (l.length + 1) * by_ ≤ 140737488355328) (hm' : l.length + 1 ≤ 140737488355328)
    (hk : ∀ a' g', (∀ o', o'.ty = tS → o'.s = 1 → o'.n = 1 → o'.f 0 0 = a' → Acc Q enc e tS s B (upd g' p (some o')) p (l ++ [x])) → g' p = some o → cellsA a' = some (1, fun _ => a') → Sub Q g' → K (putD T d a') g') :
    XW P N ⟨d, .call ⟨.builtin .append, #[X, Y], #[t, t]⟩, t', pp, af, gd⟩ T (upd g bl (some ob)) K := by
  obtain ⟨o2, x2, h1', h2, h3, h4, h5, h6⟩ := a.q
  rw [h1] at h1'
  cases h1'
  rw [hv] at h5
  subst h5
  refine Own.push h6 ha hu hz hb hd hbk hy k1 k2 hq hm hm' fun a' g' ho kept => hk a' g' (fun o' j1 j2 j3 j4 => a.put h1 hv kept ho j1 j2 j3 j4) (kept p o h1 (Own.ne h6 h1 (by rw [h3, h2]; exact a.np))) (own_cells ho) fun c oc hc => kept c oc (a.sq c oc hc) (Own.ne h6 (a.sq c oc hc) (a.nq c oc hc))
end
/-- What an article holds at most. -/
def okP (p : Rf × Arx) : Prop := p.2.cond.length ≤ 1048576 ∧ p.2.thn.length ≤ 1048576 ∧ p.2.over.length ≤ 1048576
/-- The walk over articles that appends. -/
def InvA {α : Type} (Q : Hp) (enc : α → List AV) (e tS : TypeId) (s p : Nat) (F : List (Rf × Arx) → List α) (R : List α) (B : Hp) (l : List (Rf × Arx)) (g : Hp) : Prop :=
  (∀ x ∈ l, okP x) ∧ ∃ acc, Acc Q enc e tS s B g p acc ∧ Hid (acc ++ F l = R)
theorem InvA.stab {α : Type} {Q : Hp} {enc : α → List AV} {e tS : TypeId} {s p : Nat} {F : List (Rf × Arx) → List α} {R : List α} : Stab (InvA Q enc e tS s p F R) where
  sub := fun ⟨_, _, a, _⟩ => a.sub
  with_ := fun ⟨h, acc, a, q⟩ hc => ⟨h, acc, a.with_ hc, q⟩
  up := fun ⟨h, acc, a, q⟩ hS => ⟨h, acc, a.up hS, q⟩
theorem okP_of {b : List Acx} (h : ∀ a ∈ b, ∀ x ∈ a.arts, x.cond.length ≤ 1048576 ∧ x.thn.length ≤ 1048576 ∧ x.over.length ≤ 1048576) : ∀ p ∈ pairs b, okP p := fun p hp => by
  simp only [pairs, List.mem_flatMap, List.mem_map] at hp
  obtain ⟨a, ha, x, hx, rfl⟩ := hp
  exact h a ha x hx
end Go.Proofs.YtmalhikcdideoaaGreatDoor

set_option linter.unusedVariables false
set_option linter.unusedSimpArgs false
namespace Go.Proofs.YtmalhikcdideoaaGreatDoor
open Go Sl
attribute [local irreducible] XRange LpQ XR XRo XRg XRQ putQ XFv XL XW2 wQ putW X XO XOp XH XHo XW SeqQ BlkQ XOQ XHQ NrmQ XC XM XG XHM XHG XD CallK
open Go.RowKit
theorem refN_len {b : List Acx} : (pairs b).length = (refN b).length := by rw [← refN_pairs, List.length_map]
theorem BodyOk.okP {b : List Acx} (h : BodyOk b) : ∀ p ∈ pairs b, okP p := okP_of fun a ha x hx => by
  obtain ⟨q1, q2, q3⟩ := (h.act a ha).ar.2 x hx
  exact ⟨q1.1, q2.1, q3⟩
def cell1 (q : Nat) (o : Ob) : Hp := fun b => if b = q then some o else none
theorem cell1_at (q : Nat) (o : Ob) : cell1 q o q = some o := by simp [cell1]
theorem cell1_sub {q : Nat} {o : Ob} {g : Hp} (h : g q = some o) : Sub (cell1 q o) g := fun c oc hc => by
  unfold cell1 at hc
  split at hc
  · rename_i e; subst e; cases hc; exact h
  · cases hc
theorem cell1_ob {q c : Nat} {o oc : Ob} (h : cell1 q o c = some oc) : oc = o := by
  unfold cell1 at h
  split at h
  · cases h; rfl
  · cases h
section
variable {Q B g : Hp} {p q : Nat} {s : ByteArray} {acc : List Rf} {oq : Ob}
set_option maxHeartbeats 4000000 in
theorem uses1_ok (hq : oq.s = 1 ∧ oq.n = 1 ∧ oq.f 0 0 = S s) (a : Acc Q cRf 25 48 2 B g p acc) (hQ : Q q = some oq) (r : Rf) (x : Arx) (hx : okP (r, x)) (hl : acc.length ≤ 1048576) :
    CallK Tryz.prog g 90 [eRf r, aggL (cArx x), ptrB q, ptrB p] fun _ g' => Acc Q cRf 25 48 2 B g' p (if (hasB (tA x.cond) s || hasB (tA x.thn) s) = true then acc ++ [r] else acc) := by
  obtain ⟨nm, tg, cond, thn, over, wt⟩ := x
  obtain ⟨hx1, hx2, hx3⟩ := hx
  dsimp only at *
  have p1 := tnames_ok cond (by omega)
  have p2 := tnames_ok thn (by omega)
  have c1 := contB_ok s (tA cond)
  have c2 := contB_ok s (tA thn)
  unfold tA at c1 c2 ⊢
  generalize compB (sortB (namesF isAttr cond)) = A1 at *
  generalize compB (sortB (namesF isTab cond)) = A2 at *
  generalize compB (sortB (namesF isAttr thn)) = B1 at *
  generalize compB (sortB (namesF isTab thn)) = B2 at *
  obtain ⟨q1, q2, q3⟩ := hq
  obtain ⟨ra, rn⟩ := r
  refine callK_body Tryz.func90 rfl (by rw [nt90]; simp) ?_; rw [nt90, rs90]
  (repeat' (first | simp [go_sem, X_region, *] | simp (disch := omega) only [om, *] | ((first | refine XC_split ?_ ?_ | refine XG_true ?_ ?_ | refine XG_false ?_ ?_ | refine XRg_true ?_ ?_ | refine XRg_false ?_ ?_) <;> intro hc <;> (try simp only [bl] at hc) <;> (try (exfalso; omega))) | refine XD_w [] [] [] (fun _ => none) mixed (by decide +kernel) (sub_none _) ?_ | fail))
  intro b1 hb1
  (repeat' (first | simp [go_sem, X_region, *] | simp (disch := omega) only [om, *] | ((first | refine XC_split ?_ ?_ | refine XG_true ?_ ?_ | refine XG_false ?_ ?_ | refine XRg_true ?_ ?_ | refine XRg_false ?_ ?_) <;> intro hc <;> (try simp only [bl] at hc) <;> (try (exfalso; omega))) | refine XD_w [] [] [] (fun _ => none) mixed (by decide +kernel) (sub_none _) ?_ | fail))
  intro b2 n1 n2 hb2
  have a2 := fun o1 o2 => a.grow (g' := upd (upd g b1 (some o1)) b2 (some o2)) (Sub.upd hb2 (Sub.upd hb1 (Sub.refl _)))
  have eq := a.sq q _ hQ
  have m1 := ne_free hb1 eq
  have m2 := ne_free hb2 eq
  obtain ⟨o, v, e1, e2, e3, e4, e5, own⟩ := a.q
  have k1 := ne_free hb1 e1
  have k2 := ne_free hb2 e1
  clear hQ
  (repeat' (first | simp [go_sem, X_region, *] | simp (disch := omega) only [om, *] | ((first | refine XC_split ?_ ?_ | refine XG_true ?_ ?_ | refine XG_false ?_ ?_ | refine XRg_true ?_ ?_ | refine XRg_false ?_ ?_) <;> intro hc <;> (try simp only [bl] at hc) <;> (try (exfalso; omega))) | refine XD_w [] [] [] (fun _ => none) mixed (by decide +kernel) (sub_none _) ?_ | refine Pure.call (p1) ?_ | refine ⟨_, Pure.at (p1), ?_⟩ | refine ⟨_, p1, ?_⟩ | refine PureAt.call (p1) ?_ | refine Pure.call (p2) ?_ | refine ⟨_, Pure.at (p2), ?_⟩ | refine ⟨_, p2, ?_⟩ | refine PureAt.call (p2) ?_ | refine Pure.call (c1) ?_ | refine ⟨_, Pure.at (c1), ?_⟩ | refine ⟨_, c1, ?_⟩ | refine PureAt.call (c1) ?_ | refine Pure.call (c2) ?_ | refine ⟨_, Pure.at (c2), ?_⟩ | refine ⟨_, c2, ?_⟩ | refine PureAt.call (c2) ?_ | fail))
  all_goals (try (exact ⟨_, _, Wk.refl _ _, a2 _ _⟩))
  all_goals
    intro bl l1 l2 l3 l4 hbl
    refine Acc.push (x := (ra, rn)) (a2 _ _) ((upd_ne _ _ k2.2).trans ((upd_ne _ _ k1.2).trans e1)) e5 (by simp [go_sem]) und48 zr25 by25 (by simp [go_sem]) (by simp [upd, *]) (by simp [go_sem]) rfl (Nat.le_refl _) (by simp [go_sem]) (by omega) (by omega) fun v1 h1 hput ep hca hsq => ?_
    (repeat' (first | simp [go_sem, X_region, *] | simp (disch := omega) only [om, *] | ((first | refine XC_split ?_ ?_ | refine XG_true ?_ ?_ | refine XG_false ?_ ?_ | refine XRg_true ?_ ?_ | refine XRg_false ?_ ?_) <;> intro hc <;> (try simp only [bl] at hc) <;> (try (exfalso; omega))) | refine XD_w [] [] [] (fun _ => none) mixed (by decide +kernel) (sub_none _) ?_ | fail))
    exact ⟨_, _, Wk.refl _ _, hput _ rfl rfl rfl (by simp)⟩
set_option maxHeartbeats 4000000 in
theorem scales1_ok (hq : oq.s = 1 ∧ oq.n = 1 ∧ oq.f 0 0 = S s) (a : Acc Q cRf 25 48 2 B g p acc) (hQ : Q q = some oq) (r : Rf) (x : Arx) (hx : okP (r, x)) (hl : acc.length ≤ 1048576) :
    CallK Tryz.prog g 92 [eRf r, aggL (cArx x), ptrB q, ptrB p] fun _ g' => Acc Q cRf 25 48 2 B g' p (if hasB (nmT x) s = true then acc ++ [r] else acc) := by
  have p1 := snames_ok x hx.1 hx.2.1
  have c1 := contB_ok s (nmT x)
  generalize nmA x = LA at *
  generalize nmT x = LT at *
  obtain ⟨nm, tg, cond, thn, over, wt⟩ := x
  obtain ⟨q1, q2, q3⟩ := hq
  obtain ⟨ra, rn⟩ := r
  refine callK_body Tryz.func92 rfl (by rw [nt92]; simp) ?_; rw [nt92, rs92]
  (repeat' (first | simp [go_sem, X_region, *] | simp (disch := omega) only [om, *] | ((first | refine XC_split ?_ ?_ | refine XG_true ?_ ?_ | refine XG_false ?_ ?_ | refine XRg_true ?_ ?_ | refine XRg_false ?_ ?_) <;> intro hc <;> (try simp only [bl] at hc) <;> (try (exfalso; omega))) | refine XD_w [] [] [] (fun _ => none) mixed (by decide +kernel) (sub_none _) ?_ | fail))
  intro b1 hb1
  (repeat' (first | simp [go_sem, X_region, *] | simp (disch := omega) only [om, *] | ((first | refine XC_split ?_ ?_ | refine XG_true ?_ ?_ | refine XG_false ?_ ?_ | refine XRg_true ?_ ?_ | refine XRg_false ?_ ?_) <;> intro hc <;> (try simp only [bl] at hc) <;> (try (exfalso; omega))) | refine XD_w [] [] [] (fun _ => none) mixed (by decide +kernel) (sub_none _) ?_ | fail))
  intro b2 n1 n2 hb2
  have a2 := fun o1 o2 => a.grow (g' := upd (upd g b1 (some o1)) b2 (some o2)) (Sub.upd hb2 (Sub.upd hb1 (Sub.refl _)))
  have eq := a.sq q _ hQ
  have m1 := ne_free hb1 eq
  have m2 := ne_free hb2 eq
  obtain ⟨o, v, e1, e2, e3, e4, e5, own⟩ := a.q
  have k1 := ne_free hb1 e1
  have k2 := ne_free hb2 e1
  clear hQ
  (repeat' (first | simp [go_sem, X_region, *] | simp (disch := omega) only [om, *] | ((first | refine XC_split ?_ ?_ | refine XG_true ?_ ?_ | refine XG_false ?_ ?_ | refine XRg_true ?_ ?_ | refine XRg_false ?_ ?_) <;> intro hc <;> (try simp only [bl] at hc) <;> (try (exfalso; omega))) | refine XD_w [] [] [] (fun _ => none) mixed (by decide +kernel) (sub_none _) ?_ | refine Pure.call (p1) ?_ | refine ⟨_, Pure.at (p1), ?_⟩ | refine ⟨_, p1, ?_⟩ | refine PureAt.call (p1) ?_ | refine Pure.call (c1) ?_ | refine ⟨_, Pure.at (c1), ?_⟩ | refine ⟨_, c1, ?_⟩ | refine PureAt.call (c1) ?_ | fail))
  all_goals (try (exact ⟨_, _, Wk.refl _ _, a2 _ _⟩))
  all_goals
    intro bl l1 l2 l3 l4 hbl
    refine Acc.push (x := (ra, rn)) (a2 _ _) ((upd_ne _ _ k2.2).trans ((upd_ne _ _ k1.2).trans e1)) e5 (by simp [go_sem]) und48 zr25 by25 (by simp [go_sem]) (by simp [upd, *]) (by simp [go_sem]) rfl (Nat.le_refl _) (by simp [go_sem]) (by omega) (by omega) fun v1 h1 hput ep hca hsq => ?_
    (repeat' (first | simp [go_sem, X_region, *] | simp (disch := omega) only [om, *] | ((first | refine XC_split ?_ ?_ | refine XG_true ?_ ?_ | refine XG_false ?_ ?_ | refine XRg_true ?_ ?_ | refine XRg_false ?_ ?_) <;> intro hc <;> (try simp only [bl] at hc) <;> (try (exfalso; omega))) | refine XD_w [] [] [] (fun _ => none) mixed (by decide +kernel) (sub_none _) ?_ | fail))
    exact ⟨_, _, Wk.refl _ _, hput _ rfl rfl rfl (by simp)⟩
end
/-- The articles that a test picks. -/
def pickP (t : Arx → Bool) (l : List (Rf × Arx)) : List Rf := (l.filter fun p => t p.2).map (·.1)
theorem pickP_cons (t : Arx → Bool) (r : Rf) (x : Arx) (l : List (Rf × Arx)) : pickP t ((r, x) :: l) = if t x = true then r :: pickP t l else pickP t l := by
  unfold pickP
  rw [List.filter_cons]
  cases h : t x <;> simp [h]
theorem pickP_len (t : Arx → Bool) (l : List (Rf × Arx)) : (pickP t l).length ≤ l.length := by
  unfold pickP
  rw [List.length_map]
  exact List.length_filter_le ..
set_option maxHeartbeats 4000000 in
theorem uses_ok (b : List Acx) (hb : BodyOk b) (hR : (refN b).length ≤ 1048576) (s : ByteArray) (h : Hp) : PureAt Tryz.prog h 38 [encL 6 cAcx b, S s] (encL 2 cRf (pickP (fun x => Bool.or (hasB (tA x.cond) s) (hasB (tA x.thn) s)) (pairs b))) := by
  obtain ⟨R, hRR⟩ : ∃ R, pickP (fun x => Bool.or (hasB (tA x.cond) s) (hasB (tA x.thn) s)) (pairs b) = R := ⟨_, rfl⟩
  have hRl : R.length ≤ 1048576 := by rw [← hRR]; exact Nat.le_trans (pickP_len _ _) (by rw [refN_len]; exact hR)
  rw [hRR]
  refine CallK.frz (e := 25) (by omega) ?_
  refine callK_body Tryz.func38 rfl (by rw [nt38]; simp) ?_; rw [nt38, rs38]
  (repeat' (first | simp [go_sem, X_region, *] | simp (disch := omega) only [om, *] | ((first | refine XC_split ?_ ?_ | refine XG_true ?_ ?_ | refine XG_false ?_ ?_ | refine XRg_true ?_ ?_ | refine XRg_false ?_ ?_) <;> intro hc <;> (try simp only [bl] at hc) <;> (try (exfalso; omega))) | refine XD_w [] [] [] (fun _ => none) mixed (by decide +kernel) (sub_none _) ?_ | fail))
  intro b1 hb1 b2 n1 n2 hb2
  have ha : ∀ o1, o1.s = 1 → o1.n = 1 → o1.f 0 0 = S s → ∀ o2, o2.ty = 48 → o2.s = 1 → o2.n = 1 → o2.f 0 0 = .v (.slice none 0 0) → CallK Tryz.prog (upd (upd h b1 (some o1)) b2 (some o2)) 86 [encL 6 cAcx b, .v (.func (.func 90) #[] #[.pointer (some ⟨b1, 0, none⟩), .pointer (some ⟨b2, 0, none⟩)])] fun _ h' => InvA (cell1 b1 o1) cRf 25 48 2 b2 (pickP (fun x => Bool.or (hasB (tA x.cond) s) (hasB (tA x.thn) s))) R h [] h' :=
    fun o1 k1 k2 k3 o2 j0 j1 j2 j3 => articles_ok b (fun a ha => (hb.lens a ha).2.2) 90 [.pointer (some ⟨b1, 0, none⟩), .pointer (some ⟨b2, 0, none⟩)] (by kernel_rfl) InvA.stab
      (fun B r x l g ⟨ho, acc, a, q⟩ => (uses1_ok ⟨k1, k2, k3⟩ a (cell1_at _ _) r x (ho _ (List.mem_cons_self ..)) (by have := congrArg List.length q.out; simp only [List.length_append] at this; omega)).mono fun _ g' a' => ⟨fun y hy => ho y (List.mem_cons_of_mem _ hy), _, a', ⟨by
        rw [← q.out, pickP_cons]
        split <;> simp_all⟩⟩) h _
      ⟨hb.okP, [], ⟨hb2, by unfold cell1; rw [if_neg n1], fun c oc hc => .inl (by rw [cell1_ob hc, k1]; decide), cell1_sub (by rw [upd_ne _ _ n2]; exact upd_same _ _ _), .inl (by decide), o2, _, upd_same _ _ _, j0, j1, j2, j3, nil_own (Sub.upd hb2 (Sub.upd hb1 (Sub.refl _)))⟩, ⟨hRR⟩⟩
  (repeat' (first | simp [go_sem, X_region, *] | simp (disch := omega) only [om, *] | ((first | refine XC_split ?_ ?_ | refine XG_true ?_ ?_ | refine XG_false ?_ ?_ | refine XRg_true ?_ ?_ | refine XRg_false ?_ ?_) <;> intro hc <;> (try simp only [bl] at hc) <;> (try (exfalso; omega))) | refine XD_w [] [] [] (fun _ => none) mixed (by decide +kernel) (sub_none _) ?_ | fail))
  refine (ha _ rfl rfl rfl _ rfl rfl rfl (by simp)).mono ?_
  rintro r1 g1 ⟨_, acc, a, q⟩
  obtain rfl : acc = R := by have := q.out; simpa [pickP] using this
  obtain ⟨o, v, e1, e2, e3, e4, e5, own⟩ := a.q
  (repeat' (first | simp [go_sem, X_region, *] | simp (disch := omega) only [om, *] | ((first | refine XC_split ?_ ?_ | refine XG_true ?_ ?_ | refine XG_false ?_ ?_ | refine XRg_true ?_ ?_ | refine XRg_false ?_ ?_) <;> intro hc <;> (try simp only [bl] at hc) <;> (try (exfalso; omega))) | refine XD_w [] [] [] (fun _ => none) mixed (by decide +kernel) (sub_none _) ?_ | fail))
  exact ⟨_, _, Wk.refl _ _, own⟩
set_option maxHeartbeats 4000000 in
theorem scales_ok (b : List Acx) (hb : BodyOk b) (hR : (refN b).length ≤ 1048576) (s : ByteArray) (h : Hp) : PureAt Tryz.prog h 39 [encL 6 cAcx b, S s] (encL 2 cRf (pickP (fun x => hasB (nmT x) s) (pairs b))) := by
  obtain ⟨R, hRR⟩ : ∃ R, pickP (fun x => hasB (nmT x) s) (pairs b) = R := ⟨_, rfl⟩
  have hRl : R.length ≤ 1048576 := by rw [← hRR]; exact Nat.le_trans (pickP_len _ _) (by rw [refN_len]; exact hR)
  rw [hRR]
  refine CallK.frz (e := 25) (by omega) ?_
  refine callK_body Tryz.func39 rfl (by rw [nt39]; simp) ?_; rw [nt39, rs39]
  (repeat' (first | simp [go_sem, X_region, *] | simp (disch := omega) only [om, *] | ((first | refine XC_split ?_ ?_ | refine XG_true ?_ ?_ | refine XG_false ?_ ?_ | refine XRg_true ?_ ?_ | refine XRg_false ?_ ?_) <;> intro hc <;> (try simp only [bl] at hc) <;> (try (exfalso; omega))) | refine XD_w [] [] [] (fun _ => none) mixed (by decide +kernel) (sub_none _) ?_ | fail))
  intro b1 hb1 b2 n1 n2 hb2
  have ha : ∀ o1, o1.s = 1 → o1.n = 1 → o1.f 0 0 = S s → ∀ o2, o2.ty = 48 → o2.s = 1 → o2.n = 1 → o2.f 0 0 = .v (.slice none 0 0) → CallK Tryz.prog (upd (upd h b1 (some o1)) b2 (some o2)) 86 [encL 6 cAcx b, .v (.func (.func 92) #[] #[.pointer (some ⟨b1, 0, none⟩), .pointer (some ⟨b2, 0, none⟩)])] fun _ h' => InvA (cell1 b1 o1) cRf 25 48 2 b2 (pickP (fun x => hasB (nmT x) s)) R h [] h' :=
    fun o1 k1 k2 k3 o2 j0 j1 j2 j3 => articles_ok b (fun a ha => (hb.lens a ha).2.2) 92 [.pointer (some ⟨b1, 0, none⟩), .pointer (some ⟨b2, 0, none⟩)] (by kernel_rfl) InvA.stab
      (fun B r x l g ⟨ho, acc, a, q⟩ => (scales1_ok ⟨k1, k2, k3⟩ a (cell1_at _ _) r x (ho _ (List.mem_cons_self ..)) (by have := congrArg List.length q.out; simp only [List.length_append] at this; omega)).mono fun _ g' a' => ⟨fun y hy => ho y (List.mem_cons_of_mem _ hy), _, a', ⟨by
        rw [← q.out, pickP_cons]
        split <;> simp_all⟩⟩) h _
      ⟨hb.okP, [], ⟨hb2, by unfold cell1; rw [if_neg n1], fun c oc hc => .inl (by rw [cell1_ob hc, k1]; decide), cell1_sub (by rw [upd_ne _ _ n2]; exact upd_same _ _ _), .inl (by decide), o2, _, upd_same _ _ _, j0, j1, j2, j3, nil_own (Sub.upd hb2 (Sub.upd hb1 (Sub.refl _)))⟩, ⟨hRR⟩⟩
  (repeat' (first | simp [go_sem, X_region, *] | simp (disch := omega) only [om, *] | ((first | refine XC_split ?_ ?_ | refine XG_true ?_ ?_ | refine XG_false ?_ ?_ | refine XRg_true ?_ ?_ | refine XRg_false ?_ ?_) <;> intro hc <;> (try simp only [bl] at hc) <;> (try (exfalso; omega))) | refine XD_w [] [] [] (fun _ => none) mixed (by decide +kernel) (sub_none _) ?_ | fail))
  refine (ha _ rfl rfl rfl _ rfl rfl rfl (by simp)).mono ?_
  rintro r1 g1 ⟨_, acc, a, q⟩
  obtain rfl : acc = R := by have := q.out; simpa [pickP] using this
  obtain ⟨o, v, e1, e2, e3, e4, e5, own⟩ := a.q
  (repeat' (first | simp [go_sem, X_region, *] | simp (disch := omega) only [om, *] | ((first | refine XC_split ?_ ?_ | refine XG_true ?_ ?_ | refine XG_false ?_ ?_ | refine XRg_true ?_ ?_ | refine XRg_false ?_ ?_) <;> intro hc <;> (try simp only [bl] at hc) <;> (try (exfalso; omega))) | refine XD_w [] [] [] (fun _ => none) mixed (by decide +kernel) (sub_none _) ?_ | fail))
  exact ⟨_, _, Wk.refl _ _, own⟩
end Go.Proofs.YtmalhikcdideoaaGreatDoor

set_option linter.unusedVariables false
set_option linter.unusedSimpArgs false
namespace Go.Proofs.YtmalhikcdideoaaGreatDoor
open Go Sl
attribute [local irreducible] XRange LpQ XR XRo XRg XRQ putQ XFv XL XW2 wQ putW X XO XOp XH XHo XW SeqQ BlkQ XOQ XHQ NrmQ XC XM XG XHM XHG XD CallK
open Go.RowKit
/-- A cell that holds a map of what is listed. -/
def MapC {κ : Type} [DecidableEq κ] (ek : κ → AV) (Q : Hp) (c : Nat) (l : List κ) : Prop := ∃ m o om, Q c = some o ∧ o.s = 1 ∧ o.n = 1 ∧ o.f 0 0 = .v (.map (some m)) ∧ Q m = some om ∧ SetM ek l om
theorem MapC.sub {κ : Type} [DecidableEq κ] {ek : κ → AV} {Q g : Hp} {c : Nat} {l : List κ} (h : MapC ek Q c l) (hS : Sub Q g) : MapC ek g c l := by
  obtain ⟨m, o, om, h1, h2, h3, h4, h5, h6⟩ := h
  exact ⟨m, o, om, hS _ _ h1, h2, h3, h4, hS _ _ h5, h6⟩
def loA (A : List ByteArray) (r : Rf) (l : List ByteArray) : List Lo := (l.filter fun s => !hasB A s).map fun s => ⟨r.1, r.2, 1, s, ⟨#[]⟩⟩
def loT (A : List ByteArray) (r : Rf) (l : List ByteArray) : List Lo := (l.filter fun s => !hasB A s).map fun s => ⟨r.1, r.2, 2, s, ⟨#[]⟩⟩
def loO (R : List Rf) (r : Rf) (l : List Rf) : List Lo := (l.filter fun o => !hasB R o).map fun o => ⟨r.1, r.2, 3, o.2, o.1⟩
theorem loA_cons (A : List ByteArray) (r : Rf) (s : ByteArray) (l : List ByteArray) : loA A r (s :: l) = if hasB A s = true then loA A r l else ⟨r.1, r.2, 1, s, ⟨#[]⟩⟩ :: loA A r l := by
  unfold loA
  rw [List.filter_cons]
  cases hasB A s <;> rfl
theorem loT_cons (A : List ByteArray) (r : Rf) (s : ByteArray) (l : List ByteArray) : loT A r (s :: l) = if hasB A s = true then loT A r l else ⟨r.1, r.2, 2, s, ⟨#[]⟩⟩ :: loT A r l := by
  unfold loT
  rw [List.filter_cons]
  cases hasB A s <;> rfl
theorem loO_cons (R : List Rf) (r : Rf) (o : Rf) (l : List Rf) : loO R r (o :: l) = if hasB R o = true then loO R r l else ⟨r.1, r.2, 3, o.2, o.1⟩ :: loO R r l := by
  unfold loO
  rw [List.filter_cons]
  cases hasB R o <;> rfl
theorem looseF_eq (A T : List ByteArray) (R : List Rf) (r : Rf) (x : Arx) : looseF A T R (r, x) = loA A r (nmA x) ++ (loT T r (nmT x) ++ loO R r x.over) := rfl
theorem nmA_len {r : Rf} (x : Arx) (h : okP (r, x)) : (nmA x).length ≤ 2097153 := by
  have h1 := namesF_len isAttr x.cond
  have h2 := namesF_len isAttr x.thn
  have h3 := h.1
  have h4 := h.2.1
  dsimp only at h3 h4
  unfold nmA
  refine Nat.le_trans (compB_len _) ?_
  rw [show ∀ l, (sortB l).length = l.length from fun l => by simp [sortB]]
  simp only [List.length_append, List.length_cons, List.length_nil, tA]
  omega
theorem nmT_len {r : Rf} (x : Arx) (h : okP (r, x)) : (nmT x).length ≤ 2097153 := by
  have h1 := namesF_len isTab x.cond
  have h2 := namesF_len isTab x.thn
  have h3 := h.1
  have h4 := h.2.1
  dsimp only at h3 h4
  unfold nmT
  refine Nat.le_trans (compB_len _) ?_
  rw [show ∀ l, (sortB l).length = l.length from fun l => by simp [sortB]]
  simp only [List.length_append, tT]
  omega
section
variable {Q B g : Hp} {p c1 c2 c3 : Nat} {A T' : List ByteArray} {R : List Rf} {acc : List Lo}
set_option maxHeartbeats 8000000 in
theorem dang1_ok (h1 : MapC S Q c1 A) (h2 : MapC S Q c2 T') (h3 : MapC eRf Q c3 R) (a : Acc Q cLo 71 58 5 B g p acc) (r : Rf) (x : Arx) (hx : okP (r, x)) (hl : (acc ++ looseF A T' R (r, x)).length ≤ 100000000) :
    CallK Tryz.prog g 93 [eRf r, aggL (cArx x), ptrB c1, ptrB p, ptrB c2, ptrB c3] fun _ g' => Acc Q cLo 71 58 5 B g' p (acc ++ looseF A T' R (r, x)) := by
  have hn := snames_ok x hx.1 hx.2.1
  have hA := nmA_len x hx
  have hT := nmT_len x hx
  rw [looseF_eq] at hl ⊢
  generalize nmA x = LA at *
  generalize nmT x = LT at *
  obtain ⟨R0, hR0⟩ : ∃ R0, acc ++ (loA A r LA ++ (loT T' r LT ++ loO R r x.over)) = R0 := ⟨_, rfl⟩
  rw [hR0] at hl ⊢
  replace hR0 : Hid (acc ++ (loA A r LA ++ (loT T' r LT ++ loO R r x.over)) = R0) := ⟨hR0⟩
  obtain ⟨nm, tg, cond, thn, over, wt⟩ := x
  obtain ⟨ra, rn⟩ := r
  obtain ⟨hx1, hx2, hx3⟩ := hx
  dsimp only at *
  refine callK_body Tryz.func93 rfl (by rw [nt93]; simp) ?_; rw [nt93, rs93]
  (repeat' (first | simp [go_sem, X_region, *] | simp (disch := omega) only [om, *] | ((first | refine XC_split ?_ ?_ | refine XG_true ?_ ?_ | refine XG_false ?_ ?_ | refine XRg_true ?_ ?_ | refine XRg_false ?_ ?_) <;> intro hc <;> (try simp only [bl] at hc) <;> (try (exfalso; omega))) | refine XD_w [] [] [] (fun _ => none) mixed (by decide +kernel) (sub_none _) ?_ | fail))
  intro b1 hb1
  (repeat' (first | simp [go_sem, X_region, *] | simp (disch := omega) only [om, *] | ((first | refine XC_split ?_ ?_ | refine XG_true ?_ ?_ | refine XG_false ?_ ?_ | refine XRg_true ?_ ?_ | refine XRg_false ?_ ?_) <;> intro hc <;> (try simp only [bl] at hc) <;> (try (exfalso; omega))) | refine XD_w [] [] [] (fun _ => none) mixed (by decide +kernel) (sub_none _) ?_ | fail))
  intro b2 n1 n2 hb2
  obtain ⟨o0, v0, e0, _⟩ := a.q
  have k1 := ne_free hb1 e0
  have k2 := ne_free hb2 e0
  have aa : ∀ (o1 o2 : Ob) (G : Hp), upd (upd g b1 (some o1)) b2 (some o2) = G → o1.s = 2 → o2.s = 6 → ∃ Q', Acc Q' cLo 71 58 5 B G p acc ∧ Sub Q Q' ∧ Q' b1 = some o1 ∧ Q' b2 = some o2 := fun o1 o2 G hG j1 j2 => by
    subst hG
    exact ⟨upd (upd Q b1 (some o1)) b2 (some o2), ((((a.grow (Sub.upd hb1 (Sub.refl _))).note (upd_same _ _ _) (.inl (by rw [j1]; decide)) k1.1).grow (Sub.upd (by rw [upd_ne _ _ n1]; exact hb2) (Sub.refl _))).note (upd_same _ _ _) (.inl (by rw [j2]; decide)) k2.1),
      Sub.upd (sub_none_of a.sq hb2) (Sub.upd (sub_none_of a.sq hb1) (Sub.refl _)), by rw [upd_ne _ _ n2]; exact upd_same _ _ _, upd_same _ _ _⟩
  (repeat' (first | simp [go_sem, X_region, *] | simp (disch := omega) only [om, *] | ((first | refine XC_split ?_ ?_ | refine XG_true ?_ ?_ | refine XG_false ?_ ?_ | refine XRg_true ?_ ?_ | refine XRg_false ?_ ?_) <;> intro hc <;> (try simp only [bl] at hc) <;> (try (exfalso; omega))) | refine XD_w [] [] [] (fun _ => none) mixed (by decide +kernel) (sub_none _) ?_ | refine Pure.call (hn) ?_ | refine ⟨_, Pure.at (hn), ?_⟩ | refine ⟨_, hn, ?_⟩ | refine PureAt.call (hn) ?_ | fail))
  generalize hG : upd (upd g b1 _) b2 _ = G
  obtain ⟨Q', aQ, sQ, f1, f2⟩ := aa _ _ _ hG rfl rfl
  have F1 : ∃ o, Q' b1 = some o ∧ o.s = 2 ∧ o.n = 1 ∧ o.f 0 0 = S ra ∧ o.f 0 1 = S rn := ⟨_, f1, rfl, rfl, rfl, rfl⟩
  have F2 : ∃ o, Q' b2 = some o ∧ o.s = 6 ∧ o.n = 1 ∧ o.f 0 4 = encL 2 cRf over := ⟨_, f2, rfl, rfl, rfl⟩
  have h1 := h1.sub sQ
  have h2 := h2.sub sQ
  have h3 := h3.sub sQ
  clear aa hG a f1 f2 hn e0 k1 k2
  refine X_lpF (fun i => i = 11 ∨ (23 ≤ i ∧ i ≤ 37)) (fun n T g => ∃ (i : Nat) (l : List ByteArray) (acc : List Lo), n = l.length ∧ i ≤ LA.length ∧ LA.drop i = l ∧ T 23 = I i ∧ Acc Q' cLo 71 58 5 B g p acc ∧ Hid (acc ++ (loA A (ra, rn) l ++ (loT T' (ra, rn) LT ++ loO R (ra, rn) over)) = R0)) LA.length
    ⟨0, LA, acc, rfl, by omega, rfl, by simp [go_sem], aQ, hR0⟩ ?_
  clear aQ hR0
  rintro J hJ n T1 g1 hfr ⟨i, l, acc, rfl, hi, hd, t23, a, hq⟩
  obtain ⟨oc, v, w1, w2, w3, w4, w5, own⟩ := a.q
  obtain ⟨oa, a1, a2, a3, a4, a5⟩ := F1
  obtain ⟨ob, b1', b2', b3', b4'⟩ := F2
  have e1 := a.sq b1 _ a1
  have e2 := a.sq b2 _ b1'
  rcases l with _ | ⟨s, l⟩
  · have hlt := drop_nil hd
    have hq : Hid (acc ++ (loT T' (ra, rn) LT ++ loO R (ra, rn) over) = R0) := ⟨hq.out⟩
    (repeat' (first | simp [go_sem, X_region, *] | simp (disch := omega) only [om, *] | ((first | refine XC_split ?_ ?_ | refine XG_true ?_ ?_ | refine XG_false ?_ ?_ | refine XRg_true ?_ ?_ | refine XRg_false ?_ ?_) <;> intro hc <;> (try simp only [bl] at hc) <;> (try (exfalso; omega))) | refine XD_w [] [] [] (fun _ => none) mixed (by decide +kernel) (sub_none _) ?_ | fail))
    clear w1 w2 w3 w4 w5 own e1 e2 hJ hi hd hlt
    refine X_lpF (fun i => i = 13 ∨ (40 ≤ i ∧ i ≤ 54)) (fun n T g => ∃ (i : Nat) (l : List ByteArray) (acc : List Lo), n = l.length ∧ i ≤ LT.length ∧ LT.drop i = l ∧ T 40 = I i ∧ Acc Q' cLo 71 58 5 B g p acc ∧ Hid (acc ++ (loT T' (ra, rn) l ++ loO R (ra, rn) over) = R0)) LT.length
      ⟨0, LT, acc, rfl, by omega, rfl, by simp [go_sem], a, hq⟩ ?_
    clear a hq
    rintro J hJ n T2 g2 hfr2 ⟨i, l, acc, rfl, hi, hd, t40, a, hq⟩
    obtain ⟨oc, v, w1, w2, w3, w4, w5, own⟩ := a.q
    have e1 := a.sq b1 _ a1
    have e2 := a.sq b2 _ b1'
    rcases l with _ | ⟨s, l⟩
    · have hlt := drop_nil hd
      have hq : Hid (acc ++ loO R (ra, rn) over = R0) := ⟨hq.out⟩
      (repeat' (first | simp [go_sem, X_region, *] | simp (disch := omega) only [om, *] | ((first | refine XC_split ?_ ?_ | refine XG_true ?_ ?_ | refine XG_false ?_ ?_ | refine XRg_true ?_ ?_ | refine XRg_false ?_ ?_) <;> intro hc <;> (try simp only [bl] at hc) <;> (try (exfalso; omega))) | refine XD_w [] [] [] (fun _ => none) mixed (by decide +kernel) (sub_none _) ?_ | fail))
      clear w1 w2 w3 w4 w5 own e1 hJ hi hd hlt
      refine X_lpF (fun i => i = 15 ∨ (58 ≤ i ∧ i ≤ 75)) (fun n T g => ∃ (i : Nat) (l : List Rf) (acc : List Lo), n = l.length ∧ i ≤ over.length ∧ over.drop i = l ∧ T 58 = I i ∧ Acc Q' cLo 71 58 5 B g p acc ∧ Hid (acc ++ loO R (ra, rn) l = R0)) over.length
        ⟨0, over, acc, rfl, by omega, rfl, by simp [go_sem], a, hq⟩ ?_
      clear a hq e2
      rintro J hJ n T3 g3 hfr3 ⟨i, l, acc, rfl, hi, hd, t58, a, hq⟩
      obtain ⟨oc, v, w1, w2, w3, w4, w5, own⟩ := a.q
      have e1 := a.sq b1 _ a1
      rcases l with _ | ⟨s, l⟩
      · have hlt := drop_nil hd
        obtain rfl : acc = R0 := by have := hq.out; simpa [loO] using this
        (repeat' (first | simp [go_sem, X_region, *] | simp (disch := omega) only [om, *] | ((first | refine XC_split ?_ ?_ | refine XG_true ?_ ?_ | refine XG_false ?_ ?_ | refine XRg_true ?_ ?_ | refine XRg_false ?_ ?_) <;> intro hc <;> (try simp only [bl] at hc) <;> (try (exfalso; omega))) | refine XD_w [] [] [] (fun _ => none) mixed (by decide +kernel) (sub_none _) ?_ | fail))
        exact ⟨_, _, Wk.refl _ _, a.less sQ⟩
      · obtain ⟨hlt, hx, hd2⟩ := drop_cons hd
        have hw : IntKind.i64.wrap ((i : Int) + 1) = (i : Int) + 1 := by rw [w64 (by omega) (by omega)]
        obtain ⟨m, om, oo, y1, y2, y3, y4, y5, y6⟩ := h3.sub a.sq
        have hll : acc.length + 1 ≤ 100000000 ∨ hasB R s = true := by
          cases hh : hasB R s
          · have := congrArg List.length hq.out
            rw [loO_cons, if_neg (by rw [hh]; decide)] at this
            simp only [List.length_append, List.length_cons] at this
            left
            omega
          · exact .inr rfl
        (repeat' (first | simp [go_sem, X_region, *] | simp (disch := omega) only [om, *] | ((first | refine XC_split ?_ ?_ | refine XG_true ?_ ?_ | refine XG_false ?_ ?_ | refine XRg_true ?_ ?_ | refine XRg_false ?_ ?_) <;> intro hc <;> (try simp only [bl] at hc) <;> (try (exfalso; omega))) | refine XD_w [] [] [] (fun _ => none) mixed (by decide +kernel) (sub_none _) ?_ | fail))
        intro b5 hb5
        have a5' := fun o5 => a.grow (g' := upd g3 b5 (some o5)) (Sub.upd hb5 (Sub.refl _))
        have j1 := ne_free hb5 y1
        have j5 := ne_free hb5 y5
        have jw := ne_free hb5 w1
        have je := ne_free hb5 e1
        (repeat' (first | simp [go_sem, X_region, *] | simp (disch := omega) only [om, *] | ((first | refine XC_split ?_ ?_ | refine XG_true ?_ ?_ | refine XG_false ?_ ?_ | refine XRg_true ?_ ?_ | refine XRg_false ?_ ?_) <;> intro hc <;> (try simp only [bl] at hc) <;> (try (exfalso; omega))) | refine XD_w [] [] [] (fun _ => none) mixed (by decide +kernel) (sub_none _) ?_ | fail))
        refine X_setGet (ek := eRf) (k := s) y6 (by rw [upd_ne _ _ j5.2]; exact y5) (by simp [go_sem]) (by simp [go_sem]) und100 (kq_r _) kz_r zv4 ?_
        have hq0 := hq.out
        rw [loO_cons] at hq0
        cases hh : hasB R s
        · rw [if_neg (by rw [hh]; decide)] at hq0
          replace hll := hll.resolve_right (by rw [hh]; decide)
          (repeat' (first | simp [go_sem, X_region, *] | simp (disch := omega) only [om, *] | ((first | refine XC_split ?_ ?_ | refine XG_true ?_ ?_ | refine XG_false ?_ ?_ | refine XRg_true ?_ ?_ | refine XRg_false ?_ ?_) <;> intro hc <;> (try simp only [bl] at hc) <;> (try (exfalso; omega))) | refine XD_w [] [] [] (fun _ => none) mixed (by decide +kernel) (sub_none _) ?_ | fail))
          intro bl l1 l2 hbl
          refine Acc.push (x := ⟨ra, rn, 3, s.2, s.1⟩) (a5' _) ((upd_ne _ _ jw.2).trans w1) w5 (by simp [go_sem]) und58 zr71 by71 (by simp [go_sem]) (by rw [upd_ne _ _ l1]; exact hbl) (by simp [go_sem]) rfl (Nat.le_refl _) (by simp [go_sem]) (by omega) (by omega) fun v1 g4 hput ep hca hsq => ?_
          (repeat' (first | simp [go_sem, X_region, *] | simp (disch := omega) only [om, *] | ((first | refine XC_split ?_ ?_ | refine XG_true ?_ ?_ | refine XG_false ?_ ?_ | refine XRg_true ?_ ?_ | refine XRg_false ?_ ?_) <;> intro hc <;> (try simp only [bl] at hc) <;> (try (exfalso; omega))) | refine XD_w [] [] [] (fun _ => none) mixed (by decide +kernel) (sub_none _) ?_ | fail))
          exact ⟨_, Nat.lt_succ_self _, hJ.out _ _ _ ⟨(by (repeat (refine fr_upd (by decide) ?_)); exact hfr3), i + 1, l, acc ++ [⟨ra, rn, 3, s.2, s.1⟩], rfl, by omega, hd2, by simp [go_sem, hw], hput _ rfl rfl rfl (by simp), ⟨by rw [← hq0]; simp⟩⟩⟩
        · rw [if_pos hh] at hq0
          (repeat' (first | simp [go_sem, X_region, *] | simp (disch := omega) only [om, *] | ((first | refine XC_split ?_ ?_ | refine XG_true ?_ ?_ | refine XG_false ?_ ?_ | refine XRg_true ?_ ?_ | refine XRg_false ?_ ?_) <;> intro hc <;> (try simp only [bl] at hc) <;> (try (exfalso; omega))) | refine XD_w [] [] [] (fun _ => none) mixed (by decide +kernel) (sub_none _) ?_ | fail))
          exact ⟨_, Nat.lt_succ_self _, hJ.out _ _ _ ⟨(by (repeat (refine fr_upd (by decide) ?_)); exact hfr3), i + 1, l, acc, rfl, by omega, hd2, by simp [go_sem, hw], a5' _, ⟨hq0⟩⟩⟩
    · obtain ⟨hlt, hx, hd2⟩ := drop_cons hd
      have hw : IntKind.i64.wrap ((i : Int) + 1) = (i : Int) + 1 := by rw [w64 (by omega) (by omega)]
      obtain ⟨m, om, oo, y1, y2, y3, y4, y5, y6⟩ := h2.sub a.sq
      have hll : acc.length + 1 ≤ 100000000 ∨ hasB T' s = true := by
        cases hh : hasB T' s
        · have := congrArg List.length hq.out
          rw [loT_cons, if_neg (by rw [hh]; decide)] at this
          simp only [List.length_append, List.length_cons] at this
          left
          omega
        · exact .inr rfl
      (repeat' (first | simp [go_sem, X_region, *] | simp (disch := omega) only [om, *] | ((first | refine XC_split ?_ ?_ | refine XG_true ?_ ?_ | refine XG_false ?_ ?_ | refine XRg_true ?_ ?_ | refine XRg_false ?_ ?_) <;> intro hc <;> (try simp only [bl] at hc) <;> (try (exfalso; omega))) | refine XD_w [] [] [] (fun _ => none) mixed (by decide +kernel) (sub_none _) ?_ | fail))
      refine X_setGet (ek := S) (k := s) y6 y5 (by simp [go_sem]) (by simp [go_sem]) und61 (kq_s _) kz_s zv4 ?_
      have hq0 := hq.out
      rw [loT_cons] at hq0
      cases hh : hasB T' s
      · rw [if_neg (by rw [hh]; decide)] at hq0
        replace hll := hll.resolve_right (by rw [hh]; decide)
        (repeat' (first | simp [go_sem, X_region, *] | simp (disch := omega) only [om, *] | ((first | refine XC_split ?_ ?_ | refine XG_true ?_ ?_ | refine XG_false ?_ ?_ | refine XRg_true ?_ ?_ | refine XRg_false ?_ ?_) <;> intro hc <;> (try simp only [bl] at hc) <;> (try (exfalso; omega))) | refine XD_w [] [] [] (fun _ => none) mixed (by decide +kernel) (sub_none _) ?_ | fail))
        intro bl hbl
        refine Acc.push (x := ⟨ra, rn, 2, s, ⟨#[]⟩⟩) a w1 w5 (by simp [go_sem]) und58 zr71 by71 (by simp [go_sem]) hbl (by simp [go_sem]) rfl (Nat.le_refl _) (by simp [go_sem]) (by omega) (by omega) fun v1 g2 hput ep hca hsq => ?_
        (repeat' (first | simp [go_sem, X_region, *] | simp (disch := omega) only [om, *] | ((first | refine XC_split ?_ ?_ | refine XG_true ?_ ?_ | refine XG_false ?_ ?_ | refine XRg_true ?_ ?_ | refine XRg_false ?_ ?_) <;> intro hc <;> (try simp only [bl] at hc) <;> (try (exfalso; omega))) | refine XD_w [] [] [] (fun _ => none) mixed (by decide +kernel) (sub_none _) ?_ | fail))
        exact ⟨_, Nat.lt_succ_self _, hJ.out _ _ _ ⟨(by (repeat (refine fr_upd (by decide) ?_)); exact hfr2), i + 1, l, acc ++ [⟨ra, rn, 2, s, ⟨#[]⟩⟩], rfl, by omega, hd2, by simp [go_sem, hw], hput _ rfl rfl rfl (by simp), ⟨by rw [← hq0]; simp⟩⟩⟩
      · rw [if_pos hh] at hq0
        (repeat' (first | simp [go_sem, X_region, *] | simp (disch := omega) only [om, *] | ((first | refine XC_split ?_ ?_ | refine XG_true ?_ ?_ | refine XG_false ?_ ?_ | refine XRg_true ?_ ?_ | refine XRg_false ?_ ?_) <;> intro hc <;> (try simp only [bl] at hc) <;> (try (exfalso; omega))) | refine XD_w [] [] [] (fun _ => none) mixed (by decide +kernel) (sub_none _) ?_ | fail))
        exact ⟨_, Nat.lt_succ_self _, hJ.out _ _ _ ⟨(by (repeat (refine fr_upd (by decide) ?_)); exact hfr2), i + 1, l, acc, rfl, by omega, hd2, by simp [go_sem, hw], a, ⟨hq0⟩⟩⟩
  · obtain ⟨hlt, hx, hd2⟩ := drop_cons hd
    have hw : IntKind.i64.wrap ((i : Int) + 1) = (i : Int) + 1 := by rw [w64 (by omega) (by omega)]
    obtain ⟨m, om, oo, y1, y2, y3, y4, y5, y6⟩ := h1.sub a.sq
    have hll : acc.length + 1 ≤ 100000000 ∨ hasB A s = true := by
      cases hh : hasB A s
      · have := congrArg List.length hq.out
        rw [loA_cons, if_neg (by rw [hh]; decide)] at this
        simp only [List.length_append, List.length_cons] at this
        left
        omega
      · exact .inr rfl
    (repeat' (first | simp [go_sem, X_region, *] | simp (disch := omega) only [om, *] | ((first | refine XC_split ?_ ?_ | refine XG_true ?_ ?_ | refine XG_false ?_ ?_ | refine XRg_true ?_ ?_ | refine XRg_false ?_ ?_) <;> intro hc <;> (try simp only [bl] at hc) <;> (try (exfalso; omega))) | refine XD_w [] [] [] (fun _ => none) mixed (by decide +kernel) (sub_none _) ?_ | fail))
    refine X_setGet (ek := S) (k := s) y6 y5 (by simp [go_sem]) (by simp [go_sem]) und61 (kq_s _) kz_s zv4 ?_
    have hq0 := hq.out
    rw [loA_cons] at hq0
    cases hh : hasB A s
    · rw [if_neg (by rw [hh]; decide)] at hq0
      replace hll := hll.resolve_right (by rw [hh]; decide)
      (repeat' (first | simp [go_sem, X_region, *] | simp (disch := omega) only [om, *] | ((first | refine XC_split ?_ ?_ | refine XG_true ?_ ?_ | refine XG_false ?_ ?_ | refine XRg_true ?_ ?_ | refine XRg_false ?_ ?_) <;> intro hc <;> (try simp only [bl] at hc) <;> (try (exfalso; omega))) | refine XD_w [] [] [] (fun _ => none) mixed (by decide +kernel) (sub_none _) ?_ | fail))
      intro bl hbl
      refine Acc.push (x := ⟨ra, rn, 1, s, ⟨#[]⟩⟩) a w1 w5 (by simp [go_sem]) und58 zr71 by71 (by simp [go_sem]) hbl (by simp [go_sem]) rfl (Nat.le_refl _) (by simp [go_sem]) (by omega) (by omega) fun v1 g2 hput ep hca hsq => ?_
      (repeat' (first | simp [go_sem, X_region, *] | simp (disch := omega) only [om, *] | ((first | refine XC_split ?_ ?_ | refine XG_true ?_ ?_ | refine XG_false ?_ ?_ | refine XRg_true ?_ ?_ | refine XRg_false ?_ ?_) <;> intro hc <;> (try simp only [bl] at hc) <;> (try (exfalso; omega))) | refine XD_w [] [] [] (fun _ => none) mixed (by decide +kernel) (sub_none _) ?_ | fail))
      exact ⟨_, Nat.lt_succ_self _, hJ.out _ _ _ ⟨(by (repeat (refine fr_upd (by decide) ?_)); exact hfr), i + 1, l, acc ++ [⟨ra, rn, 1, s, ⟨#[]⟩⟩], rfl, by omega, hd2, by simp [go_sem, hw], hput _ rfl rfl rfl (by simp), ⟨by rw [← hq0]; simp⟩⟩⟩
    · rw [if_pos hh] at hq0
      (repeat' (first | simp [go_sem, X_region, *] | simp (disch := omega) only [om, *] | ((first | refine XC_split ?_ ?_ | refine XG_true ?_ ?_ | refine XG_false ?_ ?_ | refine XRg_true ?_ ?_ | refine XRg_false ?_ ?_) <;> intro hc <;> (try simp only [bl] at hc) <;> (try (exfalso; omega))) | refine XD_w [] [] [] (fun _ => none) mixed (by decide +kernel) (sub_none _) ?_ | fail))
      exact ⟨_, Nat.lt_succ_self _, hJ.out _ _ _ ⟨(by (repeat (refine fr_upd (by decide) ?_)); exact hfr), i + 1, l, acc, rfl, by omega, hd2, by simp [go_sem, hw], a, ⟨hq0⟩⟩⟩
end
theorem SetM.sty {κ : Type} [DecidableEq κ] {ek : κ → AV} {l : List κ} {ob : Ob} (h : SetM ek l ob) : ob.s = 0 := by
  obtain ⟨m, ⟨c, g, e, _⟩, _⟩ := h
  rw [e]
  rfl
def looseP (A T : List ByteArray) (R : List Rf) (l : List (Rf × Arx)) : List Lo := l.flatMap (looseF A T R)
theorem dang_init {h g G : Hp} {m1 m2 m3 pp b3 b4 b5 b6 : Nat} {A T : List ByteArray} {R : List Rf} (df : Df h g m1 m2 m3 pp A T R) (hS : Sub g G) {y1 y2 y3 o6 : Ob} (e1 : G b3 = some y1) (e2 : G b4 = some y2) (e3 : G b5 = some y3) (e6 : G b6 = some o6) (g6 : g b6 = none)
    (k1 : y1.s = 1 ∧ y1.n = 1 ∧ y1.f 0 0 = .v (.map (some m1))) (k2 : y2.s = 1 ∧ y2.n = 1 ∧ y2.f 0 0 = .v (.map (some m2))) (k3 : y3.s = 1 ∧ y3.n = 1 ∧ y3.f 0 0 = .v (.map (some m3))) (k6 : o6.ty = 58 ∧ o6.s = 1 ∧ o6.n = 1 ∧ o6.f 0 0 = .v (.slice none 0 0))
    (n3 : b6 ≠ b3) (n4 : b6 ≠ b4) (n5 : b6 ≠ b5) : ∃ Q, MapC S Q b3 A ∧ MapC S Q b4 T ∧ MapC eRf Q b5 R ∧ Acc Q cLo 71 58 5 h G b6 [] := by
  obtain ⟨h1, h2, h3, ⟨o1, a1, a2⟩, ⟨o2, c1, c2⟩, ⟨o3, d1, d2⟩, _⟩ := df
  have E1 := hS _ _ a1
  have E2 := hS _ _ c1
  have E3 := hS _ _ d1
  refine ⟨only [m1, m2, m3, b3, b4, b5] G, ⟨m1, y1, o1, (only_in (by simp)).trans e1, k1.1, k1.2.1, k1.2.2, (only_in (by simp)).trans E1, a2⟩, ⟨m2, y2, o2, (only_in (by simp)).trans e2, k2.1, k2.2.1, k2.2.2, (only_in (by simp)).trans E2, c2⟩, ⟨m3, y3, o3, (only_in (by simp)).trans e3, k3.1, k3.2.1, k3.2.2, (only_in (by simp)).trans E3, d2⟩,
    sub_none_of h1 g6, ?_, fun c oc hc => ?_, only_sub _ _, .inl (by decide), o6, _, e6, k6.1, k6.2.1, k6.2.2.1, k6.2.2.2, nil_own (h1.trans hS)⟩
  · unfold only
    rw [if_neg]
    have q1 := ne_free g6 a1
    have q2 := ne_free g6 c1
    have q3 := ne_free g6 d1
    simp only [List.mem_cons, List.not_mem_nil, or_false, not_or]
    exact ⟨q1.1, q2.1, q3.1, n3, n4, n5⟩
  · left
    unfold only at hc
    split at hc
    · rename_i hm
      simp only [List.mem_cons, List.not_mem_nil, or_false] at hm
      rcases hm with rfl | rfl | rfl | rfl | rfl | rfl
      · rw [E1] at hc; cases hc; rw [a2.sty]; decide
      · rw [E2] at hc; cases hc; rw [c2.sty]; decide
      · rw [E3] at hc; cases hc; rw [d2.sty]; decide
      · rw [e1] at hc; cases hc; rw [k1.1]; decide
      · rw [e2] at hc; cases hc; rw [k2.1]; decide
      · rw [e3] at hc; cases hc; rw [k3.1]; decide
    · cases hc
set_option maxHeartbeats 4000000 in
theorem dang_ok (b : List Acx) (hb : BodyOk b) (hL : (dangF b).length ≤ 100000000) (h : Hp) : PureAt Tryz.prog h 41 [encL 6 cAcx b] (encL 5 cLo (dangF b)) := by
  obtain ⟨R, hRR⟩ : ∃ R, looseP (attrN b) (tabN b) (refN b) (pairs b) = R := ⟨_, rfl⟩
  have e0 : dangF b = R := hRR
  rw [e0] at hL ⊢
  clear e0
  refine CallK.frz (e := 71) (by omega) ?_
  refine callK_body Tryz.func41 rfl (by rw [nt41]; simp) ?_; rw [nt41, rs41]
  (repeat' (first | simp [go_sem, X_region, *] | simp (disch := omega) only [om, *] | ((first | refine XC_split ?_ ?_ | refine XG_true ?_ ?_ | refine XG_false ?_ ?_ | refine XRg_true ?_ ?_ | refine XRg_false ?_ ?_) <;> intro hc <;> (try simp only [bl] at hc) <;> (try (exfalso; omega))) | refine XD_w [] [] [] (fun _ => none) mixed (by decide +kernel) (sub_none _) ?_ | fail))
  refine (defined_ok b hb.lens h).mono ?_
  rintro r g ⟨m1, m2, m3, pp, rfl, df⟩
  (repeat' (first | simp [go_sem, X_region, *] | simp (disch := omega) only [om, *] | ((first | refine XC_split ?_ ?_ | refine XG_true ?_ ?_ | refine XG_false ?_ ?_ | refine XRg_true ?_ ?_ | refine XRg_false ?_ ?_) <;> intro hc <;> (try simp only [bl] at hc) <;> (try (exfalso; omega))) | refine XD_w [] [] [] (fun _ => none) mixed (by decide +kernel) (sub_none _) ?_ | fail))
  intro b3 hb3 b4 l1 l2 hb4 b5 l3 l4 l5 l6 hb5
  (repeat' (first | simp [go_sem, X_region, *] | simp (disch := omega) only [om, *] | ((first | refine XC_split ?_ ?_ | refine XG_true ?_ ?_ | refine XG_false ?_ ?_ | refine XRg_true ?_ ?_ | refine XRg_false ?_ ?_) <;> intro hc <;> (try simp only [bl] at hc) <;> (try (exfalso; omega))) | refine XD_w [] [] [] (fun _ => none) mixed (by decide +kernel) (sub_none _) ?_ | fail))
  intro b6 n1 n2 n3 n4 n5 n6 _ _ _ _ _ _ hb6
  generalize hG : upd (upd (upd (upd (upd (upd (upd g b3 _) b4 _) b5 _) b3 _) b4 _) b5 _) b6 _ = G
  have hS : Sub g G := by
    rw [← hG]
    exact Sub.upd hb6 (Sub.upd hb5 (Sub.upd hb4 (Sub.upd hb3 (Sub.upd hb5 (Sub.upd hb4 (Sub.upd hb3 (Sub.refl _)))))))
  obtain ⟨Q, q1, q2, q3, a0⟩ := dang_init (b3 := b3) (b4 := b4) (b5 := b5) (b6 := b6) df hS (by rw [← hG, upd_ne _ _ n6, upd_ne _ _ l6, upd_ne _ _ l2]; exact upd_same _ _ _) (by rw [← hG, upd_ne _ _ n4, upd_ne _ _ l4]; exact upd_same _ _ _) (by rw [← hG, upd_ne _ _ n2]; exact upd_same _ _ _) (by rw [← hG]; exact upd_same _ _ _) hb6
    ⟨rfl, rfl, by simp⟩ ⟨rfl, rfl, by simp⟩ ⟨rfl, rfl, by simp⟩ ⟨rfl, rfl, rfl, by simp⟩ n5 n3 n1
  clear hG
  have ha : CallK Tryz.prog G 86 [encL 6 cAcx b, .v (.func (.func 93) #[] #[.pointer (some ⟨b3, 0, none⟩), .pointer (some ⟨b6, 0, none⟩), .pointer (some ⟨b4, 0, none⟩), .pointer (some ⟨b5, 0, none⟩)])] fun _ h' => InvA Q cLo 71 58 5 b6 (looseP (attrN b) (tabN b) (refN b)) R h [] h' :=
    articles_ok b (fun a ha => (hb.lens a ha).2.2) 93 [.pointer (some ⟨b3, 0, none⟩), .pointer (some ⟨b6, 0, none⟩), .pointer (some ⟨b4, 0, none⟩), .pointer (some ⟨b5, 0, none⟩)] (by kernel_rfl) InvA.stab
      (fun B r x l g ⟨ho, acc, a, q⟩ => (dang1_ok q1 q2 q3 a r x (ho _ (List.mem_cons_self ..)) (by have := congrArg List.length q.out; simp only [looseP, List.flatMap_cons, List.length_append] at this ⊢; omega)).mono fun _ g' a' => ⟨fun y hy => ho y (List.mem_cons_of_mem _ hy), _, a', ⟨by
        rw [← q.out]
        simp [looseP]⟩⟩) h _
      ⟨hb.okP, [], a0, ⟨hRR⟩⟩
  refine ha.mono ?_
  rintro r1 g1 ⟨_, acc, a, q⟩
  obtain rfl : acc = R := by have := q.out; simpa [looseP] using this
  obtain ⟨o, v, e1, e2, e3, e4, e5, own⟩ := a.q
  (repeat' (first | simp [go_sem, X_region, *] | simp (disch := omega) only [om, *] | ((first | refine XC_split ?_ ?_ | refine XG_true ?_ ?_ | refine XG_false ?_ ?_ | refine XRg_true ?_ ?_ | refine XRg_false ?_ ?_) <;> intro hc <;> (try simp only [bl] at hc) <;> (try (exfalso; omega))) | refine XD_w [] [] [] (fun _ => none) mixed (by decide +kernel) (sub_none _) ?_ | fail))
  exact ⟨_, _, Wk.refl _ _, own⟩
end Go.Proofs.YtmalhikcdideoaaGreatDoor

set_option linter.unusedVariables false
set_option linter.unusedSimpArgs false
namespace Go.Proofs.YtmalhikcdideoaaGreatDoor
open Go Sl
attribute [local irreducible] XRange LpQ XR XRo XRg XRQ putQ XFv XL XW2 wQ putW X XO XOp XH XHo XW SeqQ BlkQ XOQ XHQ NrmQ XC XM XG XHM XHG XD CallK
open Go.RowKit
theorem cloneS_ok (l : List ByteArray) (h1 : l.length ≤ 1000000000) (h : Hp) : CallK Tryz.prog h 35 [encL 1 cS l] fun r h' => Own h h' r 9 1 l.length (cellsL cS l) := by
  rcases Nat.eq_zero_or_pos l.length with hz | hp
  · obtain rfl := List.length_eq_zero_iff.1 hz
    refine callK_body Tryz.func35 rfl (by rw [nt35]; simp) ?_; rw [nt35, rs35]
    (repeat' (first | simp [go_sem, X_region, *] | simp (disch := omega) only [om, *] | ((first | refine XC_split ?_ ?_ | refine XG_true ?_ ?_ | refine XG_false ?_ ?_ | refine XRg_true ?_ ?_ | refine XRg_false ?_ ?_) <;> intro hc <;> (try simp only [bl] at hc) <;> (try (exfalso; omega))) | refine XD_w [] [] [] (fun _ => none) mixed (by decide +kernel) (sub_none _) ?_ | fail))
    refine X_isNilM (s := 1) (f := cellsL cS []) (by simp [go_sem]) und54 (by simp [go_sem]) (by simp [go_sem]) fun b => ?_
    cases b
    · (repeat' (first | simp [go_sem, X_region, *] | simp (disch := omega) only [om, *] | ((first | refine XC_split ?_ ?_ | refine XG_true ?_ ?_ | refine XG_false ?_ ?_ | refine XRg_true ?_ ?_ | refine XRg_false ?_ ?_) <;> intro hc <;> (try simp only [bl] at hc) <;> (try (exfalso; omega))) | refine XD_w [] [] [] (fun _ => none) mixed (by decide +kernel) (sub_none _) ?_ | fail))
      refine Own.append (h0 := h) (e := 9) (s := 1) (n := 0) (f := fun _ _ => .any) (m := 0) (q := cellsL cS []) ⟨Sub.refl h, .inl ⟨rfl, .inr (by simp [go_sem])⟩⟩ und54 zr9 by9 (by simp [go_sem]) (by simp [go_sem]) (by omega) (by omega) fun a h' ho _ => ?_
      simp only [Nat.zero_add, Nat.not_lt_zero, if_false, Nat.sub_zero] at ho
      (repeat' (first | simp [go_sem, X_region, *] | simp (disch := omega) only [om, *] | ((first | refine XC_split ?_ ?_ | refine XG_true ?_ ?_ | refine XG_false ?_ ?_ | refine XRg_true ?_ ?_ | refine XRg_false ?_ ?_) <;> intro hc <;> (try simp only [bl] at hc) <;> (try (exfalso; omega))) | refine XD_w [] [] [] (fun _ => none) mixed (by decide +kernel) (sub_none _) ?_ | fail))
      exact ⟨_, _, Wk.refl _ _, ho⟩
    · (repeat' (first | simp [go_sem, X_region, *] | simp (disch := omega) only [om, *] | ((first | refine XC_split ?_ ?_ | refine XG_true ?_ ?_ | refine XG_false ?_ ?_ | refine XRg_true ?_ ?_ | refine XRg_false ?_ ?_) <;> intro hc <;> (try simp only [bl] at hc) <;> (try (exfalso; omega))) | refine XD_w [] [] [] (fun _ => none) mixed (by decide +kernel) (sub_none _) ?_ | fail))
      exact ⟨_, _, Wk.refl _ _, Sub.refl _, .inl ⟨rfl, .inl rfl⟩⟩
  · refine callK_body Tryz.func35 rfl (by rw [nt35]; simp) ?_; rw [nt35, rs35]
    (repeat' (first | simp [go_sem, X_region, *] | simp (disch := omega) only [om, *] | ((first | refine XC_split ?_ ?_ | refine XG_true ?_ ?_ | refine XG_false ?_ ?_ | refine XRg_true ?_ ?_ | refine XRg_false ?_ ?_) <;> intro hc <;> (try simp only [bl] at hc) <;> (try (exfalso; omega))) | refine XD_w [] [] [] (fun _ => none) mixed (by decide +kernel) (sub_none _) ?_ | fail))
    refine Own.append (h0 := h) (e := 9) (s := 1) (n := 0) (f := fun _ _ => .any) (m := l.length) (q := cellsL cS l) ⟨Sub.refl h, .inl ⟨rfl, .inr (by simp [go_sem])⟩⟩ und54 zr9 by9 (by simp [go_sem]) (by simp [go_sem]) (by omega) (by omega) fun a h' ho _ => ?_
    simp only [Nat.zero_add, Nat.not_lt_zero, if_false, Nat.sub_zero] at ho
    (repeat' (first | simp [go_sem, X_region, *] | simp (disch := omega) only [om, *] | ((first | refine XC_split ?_ ?_ | refine XG_true ?_ ?_ | refine XG_false ?_ ?_ | refine XRg_true ?_ ?_ | refine XRg_false ?_ ?_) <;> intro hc <;> (try simp only [bl] at hc) <;> (try (exfalso; omega))) | refine XD_w [] [] [] (fun _ => none) mixed (by decide +kernel) (sub_none _) ?_ | fail))
    exact ⟨_, _, Wk.refl _ _, ho⟩
theorem in_ok {g : Hp} {b m : Nat} {o om : Ob} {L : List ByteArray} (e1 : g b = some o) (k : o.s = 1 ∧ o.n = 1 ∧ o.f 0 0 = .v (.map (some m))) (e2 : g m = some om) (hs : SetM S L om) (s : ByteArray) : PureAt Tryz.prog g 36 [S s, ptrB b] (B (hasB L s)) := by
  obtain ⟨k1, k2, k3⟩ := k
  unfold PureAt
  refine callK_body Tryz.func36 rfl (by rw [nt36]; simp) ?_; rw [nt36, rs36]
  (repeat' (first | simp [go_sem, X_region, *] | simp (disch := omega) only [om, *] | ((first | refine XC_split ?_ ?_ | refine XG_true ?_ ?_ | refine XG_false ?_ ?_ | refine XRg_true ?_ ?_ | refine XRg_false ?_ ?_) <;> intro hc <;> (try simp only [bl] at hc) <;> (try (exfalso; omega))) | refine XD_w [] [] [] (fun _ => none) mixed (by decide +kernel) (sub_none _) ?_ | fail))
  refine X_setGet (ek := S) (k := s) hs e2 (by simp [go_sem]) (by simp [go_sem]) und61 (kq_s _) kz_s zv4 ?_
  (repeat' (first | simp [go_sem, X_region, *] | simp (disch := omega) only [om, *] | ((first | refine XC_split ?_ ?_ | refine XG_true ?_ ?_ | refine XG_false ?_ ?_ | refine XRg_true ?_ ?_ | refine XRg_false ?_ ?_) <;> intro hc <;> (try simp only [bl] at hc) <;> (try (exfalso; omega))) | refine XD_w [] [] [] (fun _ => none) mixed (by decide +kernel) (sub_none _) ?_ | fail))
theorem idxN_ok {h : Hp} {a : AV} (ha : a = .v (.slice none 0 0) ∨ a = .e0) (v : Value) : PureAt Tryz.prog h 89 [a, .v v] (I (-1)) := by
  unfold PureAt
  rcases ha with rfl | rfl
  · refine callK_body Tryz.func89 rfl (by rw [nt89]; simp) ?_; rw [nt89, rs89]
    (repeat' (first | simp [go_sem, X_region, *] | simp (disch := omega) only [om, *] | ((first | refine XC_split ?_ ?_ | refine XG_true ?_ ?_ | refine XG_false ?_ ?_ | refine XRg_true ?_ ?_ | refine XRg_false ?_ ?_) <;> intro hc <;> (try simp only [bl] at hc) <;> (try (exfalso; omega))) | refine XD_w [] [] [] (fun _ => none) mixed (by decide +kernel) (sub_none _) ?_ | fail))
    refine X_lpF (fun i => (4 ≤ i ∧ i ≤ 5) ∨ (8 ≤ i ∧ i ≤ 18)) (fun n T g => T 8 = I 0 ∧ g = h) 0 ⟨by simp [go_sem], rfl⟩ ?_
    rintro J hJ n T g hfr ⟨t8, rfl⟩
    (repeat' (first | simp [go_sem, X_region, *] | simp (disch := omega) only [om, *] | ((first | refine XC_split ?_ ?_ | refine XG_true ?_ ?_ | refine XG_false ?_ ?_ | refine XRg_true ?_ ?_ | refine XRg_false ?_ ?_) <;> intro hc <;> (try simp only [bl] at hc) <;> (try (exfalso; omega))) | refine XD_w [] [] [] (fun _ => none) mixed (by decide +kernel) (sub_none _) ?_ | fail))
  · refine callK_body Tryz.func89 rfl (by rw [nt89]; simp) ?_; rw [nt89, rs89]
    (repeat' (first | simp [go_sem, X_region, *] | simp (disch := omega) only [om, *] | ((first | refine XC_split ?_ ?_ | refine XG_true ?_ ?_ | refine XG_false ?_ ?_ | refine XRg_true ?_ ?_ | refine XRg_false ?_ ?_) <;> intro hc <;> (try simp only [bl] at hc) <;> (try (exfalso; omega))) | refine XD_w [] [] [] (fun _ => none) mixed (by decide +kernel) (sub_none _) ?_ | fail))
    refine X_lpF (fun i => (4 ≤ i ∧ i ≤ 5) ∨ (8 ≤ i ∧ i ≤ 18)) (fun n T g => T 8 = I 0 ∧ g = h) 0 ⟨by simp [go_sem], rfl⟩ ?_
    rintro J hJ n T g hfr ⟨t8, rfl⟩
    (repeat' (first | simp [go_sem, X_region, *] | simp (disch := omega) only [om, *] | ((first | refine XC_split ?_ ?_ | refine XG_true ?_ ?_ | refine XG_false ?_ ?_ | refine XRg_true ?_ ?_ | refine XRg_false ?_ ?_) <;> intro hc <;> (try simp only [bl] at hc) <;> (try (exfalso; omega))) | refine XD_w [] [] [] (fun _ => none) mixed (by decide +kernel) (sub_none _) ?_ | fail))
theorem del0_ok {h : Hp} {a : AV} (ha : a = .v (.slice none 0 0) ∨ a = .e0) (v : Value) : PureAt Tryz.prog h 34 [a, .v v] a := by
  have k0 := idxN_ok (h := h) ha v
  unfold PureAt
  refine callK_body Tryz.func34 rfl (by rw [nt34]; simp) ?_; rw [nt34, rs34]
  (repeat' (first | simp [go_sem, X_region, *] | simp (disch := omega) only [om, *] | ((first | refine XC_split ?_ ?_ | refine XG_true ?_ ?_ | refine XG_false ?_ ?_ | refine XRg_true ?_ ?_ | refine XRg_false ?_ ?_) <;> intro hc <;> (try simp only [bl] at hc) <;> (try (exfalso; omega))) | refine XD_w [] [] [] (fun _ => none) mixed (by decide +kernel) (sub_none _) ?_ | refine Pure.call (k0) ?_ | refine ⟨_, Pure.at (k0), ?_⟩ | refine ⟨_, k0, ?_⟩ | refine PureAt.call (k0) ?_ | fail))
/-- A call that hands back a slice of its own, with room behind: what it holds. -/
theorem CallK.frzC {P : Program} {h : Hp} {f : FuncId} {args : List AV} {e : TypeId} {s n : Nat} {q : Nat → Nat → AV} (hn : n ≤ 140737488355328) (c : CallK P h f args fun r g => OwnC h g r e s n q) : PureAt P h f args (.sl s n q) := by
  unfold PureAt CallK at *
  intro w vals hh ha
  refine (c w vals hh ha).mono ?_
  rintro e w' ⟨u, r, h', k1, k2, k3, k4, k5, k6⟩
  obtain ⟨st, rh, r'⟩ := (ownC_frozen k2 hn).out w' u k4 k3
  exact ⟨u, _, _, k1, ⟨rfl, rfl⟩, r', rh, k5, k6.trans st⟩
set_option maxHeartbeats 4000000 in
theorem free_ok {h : Hp} {m : Nat} {om : Ob} (l L : List ByteArray) (hl : l.length ≤ 1000000000) (hm : h m = some om) (hs : SetM S L om) : PureAt Tryz.prog h 33 [encL 1 cS l, .v (.map (some m))] (encL 1 cS (l.filter fun s => !hasB L s)) := by
  refine CallK.frzC (e := 9) (Nat.le_trans (List.length_filter_le ..) (by omega)) ?_
  refine callK_body Tryz.func33 rfl (by rw [nt33]; simp) ?_; rw [nt33, rs33]
  (repeat' (first | simp [go_sem, X_region, *] | simp (disch := omega) only [om, *] | ((first | refine XC_split ?_ ?_ | refine XG_true ?_ ?_ | refine XG_false ?_ ?_ | refine XRg_true ?_ ?_ | refine XRg_false ?_ ?_) <;> intro hc <;> (try simp only [bl] at hc) <;> (try (exfalso; omega))) | refine XD_w [] [] [] (fun _ => none) mixed (by decide +kernel) (sub_none _) ?_ | fail))
  intro b1 hb1
  have j1 := ne_free hb1 hm
  (repeat' (first | simp [go_sem, X_region, *] | simp (disch := omega) only [om, *] | ((first | refine XC_split ?_ ?_ | refine XG_true ?_ ?_ | refine XG_false ?_ ?_ | refine XRg_true ?_ ?_ | refine XRg_false ?_ ?_) <;> intro hc <;> (try simp only [bl] at hc) <;> (try (exfalso; omega))) | refine XD_w [] [] [] (fun _ => none) mixed (by decide +kernel) (sub_none _) ?_ | fail))
  refine (cloneS_ok l hl _).mono fun r g o => ?_
  have e1 := o.1 b1 _ (upd_same _ _ _)
  have em := o.1 m _ ((upd_ne _ _ j1.2).trans hm)
  have o2 := own_up (Sub.upd hb1 (Sub.refl _)) o
  rcases o with ⟨hS, ⟨z1, z2⟩ | ⟨b, ob, rfl, hb0, hb, p1, p2, p3, p4, p5⟩⟩
  · obtain rfl := List.length_eq_zero_iff.1 z1
    (repeat' (first | simp [go_sem, X_region, *] | simp (disch := omega) only [om, *] | ((first | refine XC_split ?_ ?_ | refine XG_true ?_ ?_ | refine XG_false ?_ ?_ | refine XRg_true ?_ ?_ | refine XRg_false ?_ ?_) <;> intro hc <;> (try simp only [bl] at hc) <;> (try (exfalso; omega))) | refine XD_w [] [] [] (fun _ => none) mixed (by decide +kernel) (sub_none _) ?_ | fail))
    refine PureAt.call (del0_ok z2 _) ?_
    exact ⟨_, _, Wk.refl _ _, o2.1, .inl ⟨rfl, z2⟩⟩
  · (repeat' (first | simp [go_sem, X_region, *] | simp (disch := omega) only [om, *] | ((first | refine XC_split ?_ ?_ | refine XG_true ?_ ?_ | refine XG_false ?_ ?_ | refine XRg_true ?_ ?_ | refine XRg_false ?_ ?_) <;> intro hc <;> (try simp only [bl] at hc) <;> (try (exfalso; omega))) | refine XD_w [] [] [] (fun _ => none) mixed (by decide +kernel) (sub_none _) ?_ | fail))
    refine (delF_ok (caps := [.pointer (some ⟨b1, 0, none⟩)]) (by kernel_rfl) (hasB L) l hl (fun g' hS' s => in_ok (hS' _ _ (upd_same _ _ _)) ⟨rfl, rfl, by simp⟩ (hS' _ _ ((upd_ne _ _ j1.2).trans hm)) hs s) hS hb0 hb p1 p3 (fun i hi => (p5 i hi 0 (by omega)).trans (by simp [cellsL, cS, List.getElem?_eq_getElem hi]))).mono ?_
    rintro r2 g2 ⟨rfl, o', rfl, q1, q2, q3, q4⟩
    have hbn : h b = none := sub_none_of (Sub.upd hb1 (Sub.refl _)) hb0
    refine ⟨_, _, Wk.refl _ _, Sub.upd hbn o2.1, .inr ⟨b, o', rfl, hbn, upd_same _ _ _, q2, q1.trans p2, q3, fun i hi j hj => ?_⟩⟩
    obtain rfl : j = 0 := by omega
    rw [q4 i hi]
    simp [List.getElem?_eq_getElem hi]
end Go.Proofs.YtmalhikcdideoaaGreatDoor
