/- PROVED: mootlaw2.ScopeRenames (the second form's row, and its tied card). Conditions: what the row itself asks (the listed variables of Go's library read as listed; what is read is of bulk at most 1048576). -/
import Derived.Test.YtmalhikcdideoaaGreatDoorR4
import Derived.Test.YtmalhikcdideoaaGreatDoorRows
import Derived.JoinedCond
import Derived.KernelRfl
import Derived.Test.YtmalhikcdideoaaGreatDoorFactsB
import Derived.WalkKit
import Derived.ProofKit
import Derived.OpenShut
import Derived.ChangeArms
import Derived.MakeChecks
import Derived.Test.YtmalhikcdideoaaGreatDoorCards
import Derived.Test.YtmalhikcdideoaaGreatDoorTie
import Derived.LaidMore
import Derived.Lay
import Derived.ShutString
import Derived.ChangeOld
import Derived.Below
import Derived.SizedLaws
import Derived.SevenTiedAt
import Derived.Deep.DeepHandedRow
set_option linter.unusedVariables false
set_option linter.unusedSimpArgs false
namespace Go.Proofs.YtmalhikcdideoaaGreatDoor
open Go Sl
attribute [local irreducible] XRange LpQ XR XRo XRg XRQ putQ XFv XL XW2 wQ putW X XO XOp XH XHo XW SeqQ BlkQ XOQ XHQ NrmQ XC XM XG XHM XHG XD CallK
open Go.RowKit
def muAtx (x : Atx) : Nat := x.name.size + 1
def okAtx (x : Atx) : Prop := i64B x.kind ∧ i64B x.low ∧ i64B x.high ∧ i64B x.bk ∧ i64B x.bn
def muRf (r : Rf) : Nat := r.1.size + r.2.size + 1
def muArx (x : Arx) : Nat := x.name.size + x.target.size + sumL muNd x.cond + sumL muNd x.thn + sumL muRf x.over + 1
def okArx (x : Arx) : Prop := (∀ n ∈ x.cond, okNd n) ∧ (∀ n ∈ x.thn, okNd n) ∧ i64B x.weight
def muAcx (a : Acx) : Nat := a.name.size + sumL muAtx a.attrs + sumL muTb a.tables + sumL muArx a.arts + 1
def okAcx (a : Acx) : Prop := i64B a.level ∧ i64B a.date ∧ (∀ x ∈ a.attrs, okAtx x) ∧ (∀ x ∈ a.tables, okTb x) ∧ ∀ x ∈ a.arts, okArx x
theorem exS_of {e : List Nd} (h : sumL muNd e ≤ 1048576) (hok : ∀ n ∈ e, okNd n) : ExS e := by
  have hl := sumL_len (f := muNd) (fun x => by unfold muNd; omega) e
  refine ⟨by omega, fun x hx => ?_⟩
  have hm : x.nm.size + x.kids.length + 1 ≤ sumL muNd e := sumL_mem (f := muNd) hx
  obtain ⟨h1, h2, h3, h4⟩ := hok x hx
  exact ⟨by omega, by omega, h1, h3, h4, h2⟩
theorem arS_of {x : Arx} (h : muArx x ≤ 1048576) (hok : okArx x) : ArS x := by
  unfold muArx at h
  have hl := sumL_len (f := muRf) (fun x => by unfold muRf; omega) x.over
  refine ⟨by omega, by omega, hok.2.2, ⟨by omega, fun o ho => ?_⟩, exS_of (by omega) hok.1, exS_of (by omega) hok.2.1⟩
  have hm : o.1.size + o.2.size + 1 ≤ sumL muRf x.over := sumL_mem (f := muRf) ho
  exact ⟨by omega, by omega⟩
theorem actS_of {a : Acx} (h : muAcx a ≤ 1048576) (hok : okAcx a) : ActS a := by
  unfold muAcx at h
  have h1 := sumL_len (f := muAtx) (fun x => by unfold muAtx; omega) a.attrs
  have h2 := sumL_len (f := muTb) (fun x => by unfold muTb; omega) a.tables
  have h3 := sumL_len (f := muArx) (fun x => by unfold muArx; omega) a.arts
  obtain ⟨o1, o2, o3, o4, o5⟩ := hok
  refine ⟨by omega, o1, o2, ⟨by omega, fun x hx => ?_⟩, ⟨by omega, fun x hx => ?_⟩, ⟨by omega, fun x hx => ?_⟩⟩
  · have hm : x.name.size + 1 ≤ sumL muAtx a.attrs := sumL_mem (f := muAtx) hx
    obtain ⟨k1, k2, k3, k4, k5⟩ := o3 x hx
    exact ⟨by omega, k1, k2, k3, k4, k5⟩
  · have hm : x.name.size + x.steps.length + 1 ≤ sumL muTb a.tables := sumL_mem (f := muTb) hx
    obtain ⟨k1, k2, k3⟩ := o4 x hx
    exact ⟨by omega, by omega, k1, k2, k3⟩
  · have hm := sumL_mem (f := muArx) hx
    exact arS_of (by omega) (o5 x hx)
theorem bodyS_of {b : List Acx} (h : sumL muAcx b ≤ 1048576) (hok : ∀ a ∈ b, okAcx a) : BodyS b := by
  have h1 := sumL_len (f := muAcx) (fun x => by unfold muAcx; omega) b
  refine ⟨by omega, fun a ha => ?_⟩
  have hm := sumL_mem (f := muAcx) ha
  exact actS_of (by omega) (hok a ha)
theorem BodyS.ok {b : List Acx} (h : BodyS b) : BodyOk b := ⟨h.1, fun a ha => by
  obtain ⟨_, _, _, h1, h2, h3⟩ := h.2 a ha
  exact ⟨h1.1, ⟨h2.1, fun t ht => (h2.2 t ht).st⟩, ⟨h3.1, fun y hy => by
    obtain ⟨_, _, _, q1, q2, q3⟩ := h3.2 y hy
    exact ⟨⟨q2.1, fun z hz => (q2.2 z hz).2.1⟩, ⟨q3.1, fun z hz => (q3.2 z hz).2.1⟩, q1.1⟩⟩⟩⟩
/- What Rename and Move make of it. -/
theorem nmR_sz {what : Int} {fr to : ByteArray} {k : Int} {s : ByteArray} (ht : to.size ≤ 1048576) (hs : s.size ≤ 1048576) : (nmR what fr to k s).size ≤ 1048576 := by
  unfold nmR
  split
  · exact ht
  · exact hs
theorem ndR_S {what : Int} {fr to : ByteArray} (ht : to.size ≤ 1048576) {n : Nd} (h : NdS n) : NdS (ndR what fr to n) := by
  obtain ⟨h1, h2⟩ := h
  unfold ndR
  split
  · exact ⟨nmR_sz ht h1, h2⟩
  · split
    · exact ⟨nmR_sz ht h1, h2⟩
    · exact ⟨h1, h2⟩
theorem exR_S {what : Int} {fr to : ByteArray} (ht : to.size ≤ 1048576) {e : List Nd} (h : ExS e) : ExS (e.map (ndR what fr to)) := ⟨by rw [List.length_map]; exact h.1, fun x hx => by
  obtain ⟨n, hn, rfl⟩ := List.mem_map.1 hx
  exact ndR_S ht (h.2 n hn)⟩
theorem acR_S {what : Int} {fr to : ByteArray} (ht : to.size ≤ 1048576) {a : Acx} (h : ActS a) : ActS (acR what fr to a) := by
  obtain ⟨h1, h2, h3, h4, h5, h6⟩ := h
  refine ⟨h1, h2, h3, ⟨by simpa [acR] using h4.1, fun x hx => ?_⟩, ⟨by simpa [acR] using h5.1, fun x hx => ?_⟩, ⟨by simpa [acR] using h6.1, fun x hx => ?_⟩⟩
  · obtain ⟨y, hy, rfl⟩ := List.mem_map.1 hx
    obtain ⟨k1, k2, k3, k4, k5, k6⟩ := h4.2 y hy
    exact ⟨nmR_sz ht k1, k2, k3, k4, k5, k6⟩
  · obtain ⟨y, hy, rfl⟩ := List.mem_map.1 hx
    obtain ⟨k1, k2, k3, k4, k5⟩ := h5.2 y hy
    exact ⟨nmR_sz ht k1, k2, k3, k4, k5⟩
  · obtain ⟨y, hy, rfl⟩ := List.mem_map.1 hx
    obtain ⟨k1, k2, k3, k4, k5, k6⟩ := h6.2 y hy
    exact ⟨k1, nmR_sz ht k2, k3, k4, exR_S ht k5, exR_S ht k6⟩
theorem acM_S {r : Rf} {to : ByteArray} (ht : to.size ≤ 1048576) (hr : r.1.size ≤ 1048576) {a : Acx} (h : ActS a) : ActS (acM r to a) := by
  obtain ⟨h1, h2, h3, h4, h5, h6⟩ := h
  refine ⟨h1, h2, h3, h4, h5, ⟨by simpa [acM] using h6.1, fun x hx => ?_⟩⟩
  obtain ⟨y, hy, rfl⟩ := List.mem_map.1 hx
  obtain ⟨k1, k2, k3, k4, k5, k6⟩ := h6.2 y hy
  refine ⟨?_, k2, k3, ⟨by simpa [arM] using k4.1, fun o ho => ?_⟩, k5, k6⟩
  · show (if (a.name, y.name) = r then to else y.name).size ≤ 1048576
    split
    · exact ht
    · exact k1
  · obtain ⟨q, hq, rfl⟩ := List.mem_map.1 ho
    by_cases e : q = r
    · rw [if_pos e]; exact ⟨hr, ht⟩
    · rw [if_neg e]; exact k4.2 q hq
theorem mapS {f : Acx → Acx} {b : List Acx} (h : BodyS b) (hf : ∀ a, ActS a → ActS (f a)) : BodyS (b.map f) := ⟨by rw [List.length_map]; exact h.1, fun x hx => by
  obtain ⟨a, ha, rfl⟩ := List.mem_map.1 hx
  exact hf a (h.2 a ha)⟩
theorem nilS : BodyS [] := ⟨by decide, by simp⟩
theorem renF_S {b : List Acx} {what : Int} {fr to : ByteArray} (h : BodyS b) (ht : to.size ≤ 1048576) : BodyS (renF nameF b what fr to).1 := by
  unfold renF
  repeat' split
  · exact nilS
  · exact nilS
  · exact nilS
  · exact nilS
  · exact mapS h fun a ha => acR_S ht ha
theorem movF_S {b : List Acx} {r : Rf} {to : ByteArray} (h : BodyS b) (ht : to.size ≤ 1048576) (hr : r.1.size ≤ 1048576) : BodyS (movF nameF b r to).1 := by
  unfold movF
  repeat' split
  · exact nilS
  · exact nilS
  · exact nilS
  · exact mapS h fun a ha => acM_S ht hr ha
/- How long the text is. -/
def cntN (x : Nd) : Nat := x.kids.length + 1
def cntE (e : List Nd) : Nat := sumL cntN e
def cntR (x : Arx) : Nat := 2 * x.over.length + cntE x.cond + cntE x.thn + 4
def cntT (t : Tb) : Nat := t.steps.length + 2
def cntA (a : Acx) : Nat := 2 * a.attrs.length + sumL cntT a.tables + sumL cntR a.arts + 2
theorem sumL_map {α β : Type} (f : β → Nat) (g : α → β) : ∀ l : List α, sumL f (l.map g) = sumL (fun x => f (g x)) l
  | [] => rfl
  | x :: r => by rw [List.map_cons, sumL, sumL, sumL_map f g r]
theorem sumL_congr {α : Type} {f g : α → Nat} : ∀ {l : List α}, (∀ x ∈ l, f x = g x) → sumL f l = sumL g l
  | [], _ => rfl
  | x :: r, h => by rw [sumL, sumL, h x (by simp), sumL_congr fun y hy => h y (by simp [hy])]
theorem sumL_le {α : Type} {f g : α → Nat} {k : Nat} : ∀ {l : List α}, (∀ x ∈ l, f x ≤ k * g x) → sumL f l ≤ k * sumL g l
  | [], _ => by simp [sumL]
  | x :: r, h => by
    have h1 := h x (by simp)
    have h2 := sumL_le (l := r) fun y hy => h y (by simp [hy])
    rw [sumL, sumL, Nat.mul_add]
    omega
theorem flat_len {α : Type} {f : α → List UInt8} : ∀ l : List α, (l.flatMap f).length = sumL (fun x => (f x).length) l
  | [] => rfl
  | x :: r => by rw [List.flatMap_cons, List.length_append, flat_len r, sumL]
theorem cntE_R (what : Int) (fr to : ByteArray) (e : List Nd) : cntE (e.map (ndR what fr to)) = cntE e := by
  unfold cntE
  rw [sumL_map]
  refine sumL_congr fun x _ => ?_
  unfold cntN ndR
  repeat' split
  all_goals rfl
theorem cntA_R (what : Int) (fr to : ByteArray) (a : Acx) : cntA (acR what fr to a) = cntA a := by
  unfold cntA acR
  simp only [List.length_map, sumL_map]
  congr 2
  exact sumL_congr fun x _ => by unfold cntR arR; simp only [cntE_R]
theorem cntA_M (r : Rf) (to : ByteArray) (a : Acx) : cntA (acM r to a) = cntA a := by
  unfold cntA acM
  simp only [sumL_map]
  congr 2
  exact sumL_congr fun x _ => by unfold cntR arM; simp only [List.length_map]
theorem cntE_le (e : List Nd) : cntE e ≤ 1 * sumL muNd e := sumL_le fun x _ => by unfold cntN muNd; omega
theorem cntA_le (a : Acx) : cntA a ≤ 8 * muAcx a := by
  have h1 := sumL_len (f := muAtx) (fun x => by unfold muAtx; omega) a.attrs
  have h2 : sumL cntT a.tables ≤ 8 * sumL muTb a.tables := sumL_le fun x _ => by unfold cntT muTb; omega
  have h3 : sumL cntR a.arts ≤ 8 * sumL muArx a.arts := sumL_le fun x _ => by
    have e1 := cntE_le x.cond
    have e2 := cntE_le x.thn
    have e3 := sumL_len (f := muRf) (fun x => by unfold muRf; omega) x.over
    unfold cntR muArx
    omega
  unfold cntA muAcx
  omega
theorem showE_cnt {e : List Nd} (h : ExS e) : (showE e).length ≤ 1049076 * cntE e := by
  replace h := h.2
  induction e with
  | nil => simp [showE]
  | cons x r ih =>
    obtain ⟨e1, e2, e3, e4, e5, e6⟩ := h x (by simp)
    have h2 := ih fun y hy => h y (by simp [hy])
    have hin5 := in5 (d := (x.nm.size : Int)) (e := (x.kids.length : Int)) e3 e4 e5 ⟨by omega, by omega⟩ ⟨by omega, by omega⟩
    have hnl := numsL_len _ hin5
    have hnk := numsL_len x.kids e6
    have hnm : x.nm.data.toList.length = x.nm.size := Array.length_toList
    simp only [List.length_cons, List.length_nil] at hnl
    simp only [showE, showN, List.length_append, List.length_cons, List.length_nil]
    have hc : cntE (x :: r) = cntN x + cntE r := rfl
    rw [hc, Nat.mul_add]
    unfold cntN
    omega
theorem exL_cnt {e : List Nd} (h : ExS e) : (exL e).length ≤ 26 + 1049076 * cntE e := by
  have h1 := showE_cnt h
  have h2 := showE_len e h.2
  have h3 := h.1
  have hs := bOf_size (showE e)
  have hnl := numsL_len _ (in1 (n := (bOf (showE e)).size) (by omega))
  have hl : (listB ++ bOf (showE e)).size = 4 + (bOf (showE e)).size := ByteArray.size_append
  have hl2 : (listB ++ bOf (showE e)).data.toList.length = 4 + (bOf (showE e)).size := hl
  unfold exL
  rw [List.length_append]
  simp only [List.length_cons, List.length_nil] at hnl
  omega
theorem txL_len : ∀ l : List ByteArray, (∀ s ∈ l, s.size ≤ 140737488355328) → (txL l).length ≤ txN l
  | [], _ => by simp [txL]
  | s :: r, h => by
    have h1 := txL_len r fun y hy => h y (by simp [hy])
    have h2 := h s (by simp)
    have hnl := numsL_len _ (in1 (n := s.size) h2)
    have hs : s.data.toList.length = s.size := Array.length_toList
    simp only [List.length_cons, List.length_nil] at hnl
    simp only [txL, txN, List.length_append]
    omega
theorem artL_cnt {x : Arx} (h : ArS x) : (artL x).length + 22 ≤ 1049076 * cntR x := by
  obtain ⟨h1, h2, h3, h4, h5, h6⟩ := h
  have e1 := exL_cnt h5
  have e2 := exL_cnt h6
  have hin : ∀ n ∈ [(x.name.size : Int), x.target.size, x.weight, x.over.length], -9223372036854775808 ≤ n ∧ n ≤ 9223372036854775807 := by
    simp only [List.mem_cons, List.not_mem_nil, or_false]
    rintro n (rfl | rfl | rfl | rfl)
    · exact ⟨by omega, by omega⟩
    · exact ⟨by omega, by omega⟩
    · exact h3
    · have := h4.1; exact ⟨by omega, by omega⟩
  have hnl := numsL_len _ hin
  have hz := named_sz h4.2
  have t1 := txL_len (namedL x.over) fun s hs => Nat.le_trans (hz s hs) (by decide)
  have t2 := txN_len (namedL x.over) hz
  rw [namedL_len] at t2
  have hnt : (x.name ++ x.target).size = x.name.size + x.target.size := ByteArray.size_append
  have hnt2 : (x.name ++ x.target).data.toList.length = x.name.size + x.target.size := hnt
  simp only [List.length_cons, List.length_nil] at hnl
  simp only [artL, exsL, List.length_append, List.length_nil]
  unfold cntR
  omega
theorem steps_len : ∀ l : List (Int × Int), (∀ x ∈ l, i64B x.1 ∧ i64B x.2) → (stepsL l).length ≤ 44 * l.length
  | [], _ => by simp [stepsL]
  | x :: r, h => by
    have h1 := steps_len r fun y hy => h y (by simp [hy])
    have h2 := h x (by simp)
    have hnl := numsL_len [x.1, x.2] (by
      simp only [List.mem_cons, List.not_mem_nil, or_false]
      rintro n (rfl | rfl)
      · exact h2.1
      · exact h2.2)
    simp only [List.length_cons, List.length_nil] at hnl
    simp only [stepsL, List.length_append, List.length_cons]
    omega
theorem boolB_size (b : Bool) : (boolB b).size ≤ 5 := by cases b <;> decide
theorem wholeL_cnt {t : Tb} (h : TbS t) : (wholeL t).length + 22 ≤ 1049076 * cntT t := by
  obtain ⟨h1, h2, h3, h4, h5⟩ := h
  have hin : ∀ n ∈ [(t.name.size : Int), t.fr, t.to], -9223372036854775808 ≤ n ∧ n ≤ 9223372036854775807 := by
    simp only [List.mem_cons, List.not_mem_nil, or_false]
    rintro n (rfl | rfl | rfl)
    · exact ⟨by omega, by omega⟩
    · exact h3
    · exact h4
  have hnl := numsL_len _ hin
  have hs := steps_len t.steps h5
  have hb := boolB_size t.sl
  have hnt : (t.name ++ boolB t.sl).size = t.name.size + (boolB t.sl).size := ByteArray.size_append
  have hnt2 : (t.name ++ boolB t.sl).data.toList.length = t.name.size + (boolB t.sl).size := hnt
  simp only [List.length_cons, List.length_nil] at hnl
  simp only [wholeL, List.length_append]
  unfold cntT
  omega
theorem attL_cnt {x : Atx} (h : AtS x) : (attL x).length ≤ 1049076 * 1 := by
  obtain ⟨h1, h2, h3, h4, h5, h6⟩ := h
  have hnl := numsL_len _ (in5 h2 h3 h4 h5 h6)
  have hb := boolB_size x.inp
  have t1 := txL_len [x.name, boolB x.inp] (by
    simp only [List.mem_cons, List.not_mem_nil, or_false]
    rintro n (rfl | rfl)
    · omega
    · omega)
  simp only [txN] at t1
  simp only [List.length_cons, List.length_nil] at hnl
  simp only [attL, List.length_append]
  omega
theorem tx1_len {s : List UInt8} (h : s.length ≤ 140737488355328) : (txL [bOf s]).length ≤ s.length + 22 := by
  have hs := bOf_size s
  have t1 := txL_len [bOf s] (by
    simp only [List.mem_cons, List.not_mem_nil, or_false]
    rintro n rfl
    omega)
  simp only [txN] at t1
  omega
theorem artL_max {x : Arx} (h : ArS x) : (artL x).length ≤ 140737488355328 := by
  obtain ⟨h1, h2, h3, h4, h5, h6⟩ := h
  have z1 := showE_len x.cond h5.2
  have z2 := showE_len x.thn h6.2
  have y1 := h5.1
  have y2 := h6.1
  have hx : ∀ {e : List Nd}, ExS e → (exL e).length ≤ 26 + (showE e).length := fun {e} h => by
    have h2 := showE_len e h.2
    have h3 := h.1
    have hs := bOf_size (showE e)
    have hnl := numsL_len _ (in1 (n := (bOf (showE e)).size) (by omega))
    have hl : (listB ++ bOf (showE e)).size = 4 + (bOf (showE e)).size := ByteArray.size_append
    have hl2 : (listB ++ bOf (showE e)).data.toList.length = 4 + (bOf (showE e)).size := hl
    unfold exL
    rw [List.length_append]
    simp only [List.length_cons, List.length_nil] at hnl
    omega
  have e1 := hx h5
  have e2 := hx h6
  have hin : ∀ n ∈ [(x.name.size : Int), x.target.size, x.weight, x.over.length], -9223372036854775808 ≤ n ∧ n ≤ 9223372036854775807 := by
    simp only [List.mem_cons, List.not_mem_nil, or_false]
    rintro n (rfl | rfl | rfl | rfl)
    · exact ⟨by omega, by omega⟩
    · exact ⟨by omega, by omega⟩
    · exact h3
    · have := h4.1; exact ⟨by omega, by omega⟩
  have hnl := numsL_len _ hin
  have hz := named_sz h4.2
  have t1 := txL_len (namedL x.over) fun s hs => Nat.le_trans (hz s hs) (by decide)
  have t2 := txN_len (namedL x.over) hz
  rw [namedL_len] at t2
  have h41 := h4.1
  have hnt : (x.name ++ x.target).size = x.name.size + x.target.size := ByteArray.size_append
  have hnt2 : (x.name ++ x.target).data.toList.length = x.name.size + x.target.size := hnt
  simp only [List.length_cons, List.length_nil] at hnl
  simp only [artL, exsL, List.length_append, List.length_nil]
  omega
theorem actL_cnt {a : Acx} (h : ActS a) : (actL a).length ≤ 1049076 * cntA a := by
  obtain ⟨h1, h2, h3, h4, h5, h6⟩ := h
  have hnl := numsL_len _ (in5 (c := (a.attrs.length : Int)) (d := (a.tables.length : Int)) (e := (a.arts.length : Int)) h2 h3 ⟨by have := h4.1; omega, by have := h4.1; omega⟩ ⟨by have := h5.1; omega, by have := h5.1; omega⟩ ⟨by have := h6.1; omega, by have := h6.1; omega⟩)
  have t1 := txL_len [a.name] (by
    simp only [List.mem_cons, List.not_mem_nil, or_false]
    rintro n rfl
    omega)
  simp only [txN] at t1
  have q1 : sumL (fun x => (attL x).length) a.attrs ≤ 1049076 * sumL (fun _ => 1) a.attrs := sumL_le fun x hx => attL_cnt (h4.2 x hx)
  have q1' : sumL (fun _ => 1) a.attrs = a.attrs.length := sum_one _
  have q2 : sumL (fun t => (txL [bOf (wholeL t)]).length) a.tables ≤ 1049076 * sumL cntT a.tables := sumL_le fun x hx => by
    have e1 := wholeL_cnt (h5.2 x hx)
    have e2 := (h5.2 x hx).st
    have e3 := tx1_len (s := wholeL x) (by unfold cntT at e1; omega)
    omega
  have q3 : sumL (fun x => (txL [bOf (artL x)]).length) a.arts ≤ 1049076 * sumL cntR a.arts := sumL_le fun x hx => by
    have e1 := artL_cnt (h6.2 x hx)
    have e3 := tx1_len (artL_max (h6.2 x hx))
    omega
  simp only [List.length_cons, List.length_nil] at hnl
  simp only [actL, List.length_append, flat_len]
  rw [q1'] at q1
  unfold cntA
  omega
theorem whoseL_cnt {b : List Acx} (h : BodyS b) : (whoseL b).length ≤ 22 + 1049076 * sumL cntA b := by
  have hnl := numsL_len _ (in1 (n := b.length) (by have := h.1; omega))
  have q : sumL (fun a => (actL a).length) b ≤ 1049076 * sumL cntA b := sumL_le fun x hx => actL_cnt (h.2 x hx)
  simp only [List.length_cons, List.length_nil] at hnl
  simp only [whoseL, List.length_append, flat_len]
  omega
theorem cnt_map {f : Acx → Acx} (hf : ∀ a, cntA (f a) = cntA a) (b : List Acx) : sumL cntA (b.map f) = sumL cntA b := by
  rw [sumL_map]
  exact sumL_congr fun x _ => hf x
theorem cnt_body {b : List Acx} (h : sumL muAcx b ≤ 1048576) : sumL cntA b ≤ 8388608 := by
  have : sumL cntA b ≤ 8 * sumL muAcx b := sumL_le fun x _ => cntA_le x
  omega
theorem len_renF {b : List Acx} {what : Int} {fr to : ByteArray} (h : BodyS b) (hm : sumL muAcx b ≤ 1048576) (ht : to.size ≤ 1048576) : (whoseL (renF nameF b what fr to).1).length ≤ 70368744177664 := by
  have h1 := whoseL_cnt (renF_S (what := what) (fr := fr) h ht)
  have h2 := cnt_body hm
  have h3 : sumL cntA (renF nameF b what fr to).1 ≤ sumL cntA b := by
    unfold renF
    repeat' split
    · exact Nat.zero_le _
    · exact Nat.zero_le _
    · exact Nat.zero_le _
    · exact Nat.zero_le _
    · exact Nat.le_of_eq (cnt_map (cntA_R what fr to) b)
  omega
theorem len_movF {b : List Acx} {r : Rf} {to : ByteArray} (h : BodyS b) (hm : sumL muAcx b ≤ 1048576) (ht : to.size ≤ 1048576) (hr : r.1.size ≤ 1048576) : (whoseL (movF nameF b r to).1).length ≤ 70368744177664 := by
  have h1 := whoseL_cnt (movF_S (r := r) h ht hr)
  have h2 := cnt_body hm
  have h3 : sumL cntA (movF nameF b r to).1 ≤ sumL cntA b := by
    unfold movF
    repeat' split
    · exact Nat.zero_le _
    · exact Nat.zero_le _
    · exact Nat.zero_le _
    · exact Nat.le_of_eq (cnt_map (cntA_M r to) b)
  omega
theorem attrN_len {b : List Acx} (h : sumL muAcx b ≤ 1048576) : (attrN b).length ≤ 1048576 := by
  have : (attrN b).length ≤ sumL muAcx b := by
    clear h
    induction b with
    | nil => exact Nat.le_refl _
    | cons a r ih =>
      have h1 := sumL_len (f := muAtx) (fun x => by unfold muAtx; omega) a.attrs
      have : attrN (a :: r) = a.attrs.map (·.name) ++ attrN r := rfl
      have e : muAcx a = a.name.size + sumL muAtx a.attrs + sumL muTb a.tables + sumL muArx a.arts + 1 := rfl
      rw [this, List.length_append, List.length_map, sumL, e]
      omega
  omega
theorem tabN_len {b : List Acx} (h : sumL muAcx b ≤ 1048576) : (tabN b).length ≤ 1048576 := by
  have : (tabN b).length ≤ sumL muAcx b := by
    clear h
    induction b with
    | nil => exact Nat.le_refl _
    | cons a r ih =>
      have h1 := sumL_len (f := muTb) (fun x => by unfold muTb; omega) a.tables
      have : tabN (a :: r) = a.tables.map (·.name) ++ tabN r := rfl
      have e : muAcx a = a.name.size + sumL muAtx a.attrs + sumL muTb a.tables + sumL muArx a.arts + 1 := rfl
      rw [this, List.length_append, List.length_map, sumL, e]
      omega
  omega
end Go.Proofs.YtmalhikcdideoaaGreatDoor

set_option linter.unusedVariables false
set_option linter.unusedSimpArgs false
namespace Go.Proofs.YtmalhikcdideoaaGreatDoor
open Go Sl
attribute [local irreducible] XRange LpQ XR XRo XRg XRQ putQ XFv XL XW2 wQ putW X XO XOp XH XHo XW SeqQ BlkQ XOQ XHQ NrmQ XC XM XG XHM XHG XD CallK
open Go.RowKit
section
variable (w : World)
theorem o_valB : OpensB Tryz.prog w 84 fun n l => ∃ a b : Int, i64B a ∧ i64B b ∧ 1 ≤ n ∧ l = [I a, I b] := by
  refine (opensB_struct (w := w) Tryz.underlying84 (Qs := [BI, BI]) (by
    simp only [fieldsB, c_int, c_val]
    exact ⟨trivial, o_int w, trivial, o_int w, trivial⟩)).mono ?_
  rintro n l ⟨m, hm, _, _, n1, n2, hn, ⟨a, ha, _, rfl⟩, ⟨_, _, n3, n4, hn2, ⟨b, hb, _, rfl⟩, rfl, rfl⟩, rfl⟩
  exact ⟨a, b, ha, hb, by omega, rfl⟩
theorem o_attrX : OpensB Tryz.prog w 99 fun n l => ∃ x : Atx, muAtx x ≤ n ∧ okAtx x ∧ l = cAtx x := by
  refine OpensB.mono (opensB_struct (w := w) Tryz.underlying99 (Qs := [BS, BI, BB, BI, BI, fun n l => ∃ a b : Int, i64B a ∧ i64B b ∧ 1 ≤ n ∧ l = [I a, I b]]) (by
    simp only [fieldsB, c_bool, c_int, c_val, c_str, c_attr]
    exact ⟨trivial, o_str w, trivial, o_int w, trivial, o_bool w, trivial, o_int w, trivial, o_int w, trivial, o_valB w, trivial⟩)) ?_
  rintro n l ⟨m, hm, _, _, n1, n2, hn, ⟨s, hs, rfl⟩, ⟨_, _, n3, n4, hn2, ⟨a, ha, _, rfl⟩, ⟨_, _, n5, n6, hn3, ⟨_, b, rfl⟩, ⟨_, _, n7, n8, hn4, ⟨c, hc, _, rfl⟩, ⟨_, _, n9, n10, hn5, ⟨d, hd, _, rfl⟩, ⟨_, _, n11, n12, hn6, ⟨v1, v2, hv1, hv2, _, rfl⟩, rfl, rfl⟩, rfl⟩, rfl⟩, rfl⟩, rfl⟩, rfl⟩
  exact ⟨⟨s, a, b, c, d, v1, v2⟩, by unfold muAtx; simp only; omega, ⟨ha, hc, hd, hv1, hv2⟩, rfl⟩
abbrev BattrsX (n : Nat) (l : List AV) : Prop := ∃ k : List Atx, sumL muAtx k + 1 ≤ n ∧ (∀ x ∈ k, okAtx x) ∧ l = [encL 7 cAtx k]
theorem o_attrsX : OpensB Tryz.prog w 33 BattrsX :=
  opensB_list (enc := cAtx) (μ := muAtx) (ok := okAtx) Tryz.underlying33 c_attr (by decide) b_attr (o_attrX w)
theorem c_ref : Tryz.prog.cellsOf 25 = 2 := by kernel_rfl
theorem b_ref : 0 < Tryz.prog.bytesOf 25 := Nat.lt_of_lt_of_eq (by decide : 0 < 32) (by kernel_rfl)
theorem o_ref : OpensB Tryz.prog w 25 fun n l => ∃ x : Rf, muRf x ≤ n ∧ True ∧ l = cRf x := by
  refine OpensB.mono (opensB_struct (w := w) Tryz.underlying25 (Qs := [BS, BS]) (by
    simp only [fieldsB, c_str, c_ref]
    exact ⟨trivial, o_str w, trivial, o_str w, trivial⟩)) ?_
  rintro n l ⟨m, hm, _, _, n1, n2, hn, ⟨s, hs, rfl⟩, ⟨_, _, n3, n4, hn2, ⟨a, ha, rfl⟩, rfl, rfl⟩, rfl⟩
  exact ⟨(s, a), by unfold muRf; simp only; omega, trivial, rfl⟩
abbrev Brefs (n : Nat) (l : List AV) : Prop := ∃ k : List Rf, sumL muRf k + 1 ≤ n ∧ (∀ x ∈ k, True) ∧ l = [encL 2 cRf k]
theorem c_refs : Tryz.prog.cellsOf 48 = 1 := by kernel_rfl
theorem o_refs : OpensB Tryz.prog w 48 Brefs :=
  opensB_list (enc := cRf) (μ := muRf) (ok := fun _ => True) Tryz.underlying48 c_ref (by decide) b_ref (o_ref w)
abbrev BE (n : Nat) (l : List AV) : Prop := ∃ k : List Nd, sumL muNd k + 1 ≤ n ∧ (∀ x ∈ k, okNd x) ∧ l = [encL 5 cNd k]
theorem c_exprB : Tryz.prog.cellsOf 47 = 1 := by kernel_rfl
theorem c_article : Tryz.prog.cellsOf 50 = 6 := by kernel_rfl
theorem b_article : 0 < Tryz.prog.bytesOf 50 := Nat.lt_of_lt_of_eq (by decide : 0 < 112) (by kernel_rfl)
theorem o_article : OpensB Tryz.prog w 50 fun n l => ∃ x : Arx, muArx x ≤ n ∧ okArx x ∧ l = cArx x := by
  refine OpensB.mono (opensB_struct (w := w) Tryz.underlying50 (Qs := [BS, BS, BE, BE, Brefs, BI]) (by
    simp only [fieldsB, c_int, c_str, c_exprB, c_refs, c_article]
    exact ⟨trivial, o_str w, trivial, o_str w, trivial, o_expr w, trivial, o_expr w, trivial, o_refs w, trivial, o_int w, trivial⟩)) ?_
  rintro n l ⟨m, hm, _, _, n1, n2, hn, ⟨s, hs, rfl⟩, ⟨_, _, n3, n4, hn2, ⟨a, ha, rfl⟩, ⟨_, _, n5, n6, hn3, ⟨e, he, hek, rfl⟩, ⟨_, _, n7, n8, hn4, ⟨f, hf, hfk, rfl⟩, ⟨_, _, n9, n10, hn5, ⟨d, hd, _, rfl⟩, ⟨_, _, n11, n12, hn6, ⟨g, hg, _, rfl⟩, rfl, rfl⟩, rfl⟩, rfl⟩, rfl⟩, rfl⟩, rfl⟩
  exact ⟨⟨s, a, e, f, d, g⟩, by unfold muArx; simp only; omega, ⟨hek, hfk, hg⟩, rfl⟩
abbrev Barts (n : Nat) (l : List AV) : Prop := ∃ k : List Arx, sumL muArx k + 1 ≤ n ∧ (∀ x ∈ k, okArx x) ∧ l = [encL 6 cArx k]
theorem o_articles : OpensB Tryz.prog w 35 Barts :=
  opensB_list (enc := cArx) (μ := muArx) (ok := okArx) Tryz.underlying35 c_article (by decide) b_article (o_article w)
theorem o_actX : OpensB Tryz.prog w 37 fun n l => ∃ x : Acx, muAcx x ≤ n ∧ okAcx x ∧ l = cAcx x := by
  refine OpensB.mono (opensB_struct (w := w) Tryz.underlying37 (Qs := [BS, BI, BI, BattrsX, Btables, Barts]) (by
    simp only [fieldsB, c_int, c_str, c_attrs, c_tables, c_articles, c_act]
    exact ⟨trivial, o_str w, trivial, o_int w, trivial, o_int w, trivial, o_attrsX w, trivial, o_tables w, trivial, o_articles w, trivial⟩)) ?_
  rintro n l ⟨m, hm, _, _, n1, n2, hn, ⟨s, hs, rfl⟩, ⟨_, _, n3, n4, hn2, ⟨a, ha, _, rfl⟩, ⟨_, _, n5, n6, hn3, ⟨b, hb, _, rfl⟩, ⟨_, _, n7, n8, hn4, ⟨k, hk, hkb, rfl⟩, ⟨_, _, n9, n10, hn5, ⟨q, hq, hqb, rfl⟩, ⟨_, _, n11, n12, hn6, ⟨r, hr, hrb, rfl⟩, rfl, rfl⟩, rfl⟩, rfl⟩, rfl⟩, rfl⟩, rfl⟩
  refine ⟨⟨s, a, b, k, q, r⟩, ?_, ⟨ha, hb, hkb, hqb, hrb⟩, rfl⟩
  have e : muAcx ⟨s, a, b, k, q, r⟩ = s.size + sumL muAtx k + sumL muTb q + sumL muArx r + 1 := rfl
  omega
theorem o_body : OpensB Tryz.prog w 23 fun n l => ∃ k : List Acx, sumL muAcx k + 1 ≤ n ∧ (∀ x ∈ k, okAcx x) ∧ l = [encL 6 cAcx k] :=
  opensB_list (enc := cAcx) (μ := muAcx) (ok := okAcx) Tryz.underlying23 c_act (by decide) b_act (o_actX w)
end
/-- The law, with its bounds. -/
theorem slaw_bulk (b : List Acx) (what : Int) (fr to : ByteArray) (rf : Rf) (hm : sumL muAcx b + to.size + muRf rf ≤ 1048576) (hok : ∀ a ∈ b, okAcx a) : Pure Tryz.prog 3 [encL 6 cAcx b, I what, S fr, S to, eRf rf] (B true) := by
  have hs := bodyS_of (b := b) (by omega) hok
  have hr : rf.1.size + rf.2.size + 1 = muRf rf := rfl
  exact slaw_ok b hs.ok (attrN_len (by omega)) (tabN_len (by omega)) what fr to (by omega) rf ⟨renF_S hs (by omega), len_renF hs (by omega) (by omega)⟩ ⟨movF_S hs (by omega) (by omega), len_movF hs (by omega) (by omega) (by omega)⟩
end Go.Proofs.YtmalhikcdideoaaGreatDoor

set_option linter.unusedVariables false
namespace Go.Proofs.YtmalhikcdideoaaGreatDoor.RowSR
open Go Go.ChangeShapes Go.WideShapes Go.ChangeAt
theorem andT {a b : Bool} (h1 : a = true) (h2 : b = true) : (a && b) = true := by rw [h1, h2]; rfl
abbrev spec0 : ChangeSpec := (Rows.OpenSpec.upto Rows.scopeRenamesSpec).bare
theorem jf0 : (Rows.scopeRenamesUptoRow.wf (OpenSpec.ofChange spec0)) = true := by kernel_rfl
theorem jf1 : (laidOutB Tryz.prog) = true := by kernel_rfl
theorem jf2 : (mapsRowed Tryz.prog) = true := by kernel_rfl
theorem jf3 : (Tryz.f3.params.all (Tryz.prog.readableRec ·)) = true := by kernel_rfl
theorem jf4 : (namedTie Tryz.prog Rows.scopeRenamesUptoRow.named spec0.vars) = true := by kernel_rfl
theorem jf5 : ((Rows.scopeRenamesUptoRow.stops == [])) = true := by kernel_rfl
theorem jf6 : ((Tryz.prog.stops == [])) = true := by kernel_rfl
theorem jf7 : ((Rows.scopeRenamesUptoRow.knobs == [])) = true := by kernel_rfl
theorem jf8 : ((Tryz.prog.stopKnobs == [])) = true := by kernel_rfl
theorem jf9 : ((Rows.scopeRenamesUptoRow.inPlace == Tryz.prog.inPlace 3)) = true := by kernel_rfl
theorem jf10 : ((Rows.scopeRenamesUptoRow.unfollowed == Tryz.prog.unfollowed 3)) = true := by kernel_rfl
theorem jf11 : ((Rows.scopeRenamesUptoRow.recurses == Tryz.prog.recurses 3)) = true := by kernel_rfl
theorem jf12 : ((Rows.scopeRenamesUptoRow.named == Tryz.prog.varsNamed 3)) = true := by kernel_rfl
theorem jf13 : ((Rows.scopeRenamesUptoRow.maps == (Tryz.f3.params.toList ++ spec0.plain.varTypes Tryz.prog).any (Tryz.prog.mapsRec ·))) = true := by kernel_rfl
theorem jf14 : ((Rows.scopeRenamesUptoRow.ifaces == (Tryz.f3.params.toList ++ spec0.plain.varTypes Tryz.prog).any (Tryz.prog.ifacesRec ·))) = true := by kernel_rfl
theorem jf15 : ((Rows.scopeRenamesUptoRow.mapsOut == Tryz.prog.mapsAmong Tryz.f3.resultTypes.toList)) = true := by kernel_rfl
theorem jf16 : ((Rows.scopeRenamesUptoRow.loops == (Tryz.f3.params.toList ++ spec0.plain.varTypes Tryz.prog).any (Tryz.prog.loopsFrom ·))) = true := by kernel_rfl
theorem jf17 : ((Rows.scopeRenamesUptoRow.wideKeys == (Tryz.f3.params.toList ++ spec0.plain.varTypes Tryz.prog ++ Tryz.f3.resultTypes.toList).any (Tryz.prog.wideKeysFrom ·))) = true := by kernel_rfl
theorem jf18 : (spec0.vars.all (Tryz.prog.varReadable ·)) = true := by kernel_rfl
theorem jf19 : (Tryz.f3.resultTypes.all (fun t => Tryz.prog.readableRec t && decide (t < Tryz.prog.types.size))) = true := by kernel_rfl
theorem jf20 : ((Rows.scopeRenamesUptoRow.ifacesOut == Tryz.f3.resultTypes.toList.any (Tryz.prog.ifacesRec ·))) = true := by kernel_rfl
theorem jf21 : ((Rows.scopeRenamesUptoRow.loopsOut == Tryz.f3.resultTypes.toList.any (Tryz.prog.loopsFrom ·))) = true := by kernel_rfl
theorem jf22 : ((Rows.scopeRenamesUptoRow.plainKeys == Tryz.prog.plainKeys)) = true := by kernel_rfl
theorem jf23 : (Rows.scopeRenamesUptoRow.shortTexts.isNone) = true := by kernel_rfl
theorem jf24 : (Tryz.prog.stopsHeard) = true := by kernel_rfl
theorem jf25 : (Tryz.prog.mayEnter) = true := by kernel_rfl
theorem jf26 : ((Rows.scopeRenamesUptoRow.lifted == Tryz.prog.liftsFinal)) = true := by kernel_rfl
theorem jf27 : ((Tryz.prog.make == some Rows.scopeRenamesUptoRow.make)) = true := by kernel_rfl
theorem jf28 : ((Rows.scopeRenamesUptoRow.kinds == (if Rows.scopeRenamesUptoRow.domain.isEmpty then [] else Tryz.f3.params.toList.map fun t => match Tryz.prog.underlying t with | some (.int k) => some k | _ => none))) = true := by kernel_rfl
theorem jf29 : ((Rows.scopeRenamesUptoRow.pinned == Rows.scopeRenamesUptoRow.pinnedBy)) = true := by kernel_rfl
theorem jf30 : ((Rows.scopeRenamesUptoRow.veiled == (Tryz.f3.params.toList ++ spec0.plain.varTypes Tryz.prog ++ Tryz.f3.resultTypes.toList).any (Tryz.prog.veiledRec ·))) = true := by kernel_rfl
theorem jf31 : (Rows.scopeRenamesUptoRow.veiledFits Tryz.prog Tryz.f3.params.toList (Tryz.f3.params.toList ++ spec0.plain.varTypes Tryz.prog ++ Tryz.f3.resultTypes.toList)) = true := by kernel_rfl
set_option maxRecDepth 100000 in
theorem closed : joinedFacts Tryz.prog 3 Tryz.f3 spec0 Rows.scopeRenamesUptoRow = true := by
  delta joinedFacts
  exact (andT (andT (andT (andT (andT (andT (andT (andT (andT (andT (andT (andT (andT (andT (andT (andT (andT (andT (andT (andT (andT (andT (andT (andT (andT (andT (andT (andT (andT (andT (andT jf0 jf1) jf2) jf3) jf4) jf5) jf6) jf7) jf8) jf9) jf10) jf11) jf12) jf13) jf14) jf15) jf16) jf17) jf18) jf19) jf20) jf21) jf22) jf23) jf24) jf25) jf26) jf27) jf28) jf29) jf30) jf31)
end Go.Proofs.YtmalhikcdideoaaGreatDoor.RowSR

namespace Go.Proofs.YtmalhikcdideoaaGreatDoor
open Go Go.ChangeShapes Go.WideShapes Go.ChangeAt Go.RowKit Sl
theorem own : ownKnob Tryz.prog.godebug = none := by kernel_rfl
theorem laidOut : laidOutB Tryz.prog = true := by kernel_rfl
theorem cells5 : Tryz.prog.cellsOf 5 = 1 := by kernel_rfl
theorem cells188 : Tryz.prog.cellsOf 208 = 1 := by kernel_rfl
theorem cells85 : Tryz.prog.cellsOf 284 = 256 := by kernel_rfl
theorem cells210 : Tryz.prog.cellsOf 307 = 20 := by kernel_rfl
theorem space_agg : (Rows.laid_strings_asciiSpace : DataW Unit) = .agg ((List.range 256).map fun i => .lit (.int .u8 (if (9 ≤ i ∧ i ≤ 13) ∨ i = 32 then 1 else 0))) := by kernel_rfl
theorem pow_agg : (Rows.laid_internal_strconv_uint64pow10 : DataW Unit) = .agg ((List.range 20).map fun i => .lit (.int .u64 ((10 : Nat) ^ i : Nat))) := by kernel_rfl
theorem pow_eq : ((List.range 20).map fun i => Value.int .u64 ((10 : Nat) ^ i : Nat)) = powL := by kernel_rfl
theorem lits_of {H : Type} {enc : TypeId × Value → H} {P : Program} {w : World} {base : Nat} {sp : Nat → Bool} {held : Bool} {n m : Nat} {e t : TypeId} {cs : List Value} {f : Nat → Int} {p : List MemPlace} {k : IntKind}
    (ht : P.underlying t = some (.array n e)) (he : P.underlying e = some (.int k)) (hc : P.cellsOf e = 1) (hct : P.cellsOf t = n) (h : DataW.trod enc P w base sp held m t cs = some (.agg ((List.range n).map fun i => .lit (.int k (f i))), p)) :
    cs = (List.range n).map fun i => .int k (f i) := by
  obtain ⟨xs, m1, rfl, hx, hlen, hn, hel⟩ := DataW.trod_array ht h
  simp only [Prod.mk.injEq, DataW.agg.injEq] at hx
  rw [hct] at hlen
  refine List.ext_getElem (by simp [hlen]) fun i h1 h2 => ?_
  have hi : i < n := by omega
  have hE := hel i hi
  rw [hc, Nat.mul_one] at hE
  obtain ⟨x, hxi⟩ : ∃ x, xs[i]? = some x := ⟨_, List.getElem?_eq_getElem (by omega)⟩
  rw [hxi] at hE
  have hd : (cs.drop i).take 1 = [cs[i]] := by
    rw [List.drop_eq_getElem_cons h1]; rfl
  rw [hd] at hE
  obtain ⟨v, e1, e2, _⟩ := DataW.trod_int he hE
  have e3 : (xs.map (·.1))[i]? = some (.lit (.int k (f i))) := by rw [← hx.1]; simp [hi]
  rw [List.getElem?_map, hxi, e2] at e3
  simp only [Option.map_some, Option.some.injEq, DataW.lit.injEq, Lit.int.injEq, true_and] at e3
  simp only [List.cons.injEq, and_true] at e1
  rw [e1]
  simp [e3]
/-- A variable that reads as listed: its block. -/
theorem var_heap {W : World} {name : String} {g : Nat} {cs : Array Value} {L : List Value} (hg : Tryz.prog.globalNamed name = some g) (hv : W.var? Tryz.prog name = some cs) (hcs : cs.toList = L) : ∃ ty fr, W.heap[g]? = some (.cells L.toArray ty fr) := by
  simp only [World.var?, hg, Option.bind_some] at hv
  split at hv
  · rename_i cs' ty fr hw
    simp only [Option.some.injEq] at hv
    subst hv
    refine ⟨ty, fr, ?_⟩
    rw [hw]
    congr 2
    apply Array.toList_inj.1
    rw [hcs]
  · cases hv
theorem gSpace : Tryz.prog.globalNamed "strings.asciiSpace" = some 0 := by kernel_rfl
theorem tSpace : (Tryz.prog.globals[0]?).map (·.type) = some 284 := by kernel_rfl
theorem gPow : Tryz.prog.globalNamed "internal/strconv.uint64pow10" = some 5 := by kernel_rfl
theorem tPow : (Tryz.prog.globals[5]?).map (·.type) = some 307 := by kernel_rfl
theorem space_heap {enc : TypeId × Value → Unit} {W : World} {base : Nat} {sp : Nat → Bool} {held : Bool} {g m : Nat} {t : TypeId} {cs : Array Value} {p : List MemPlace} (hg : Tryz.prog.globalNamed "strings.asciiSpace" = some g)
    (ht : (Tryz.prog.globals[g]?).map (·.type) = some t) (hv : W.var? Tryz.prog "strings.asciiSpace" = some cs) (hd : DataW.trod enc Tryz.prog W base sp held m t cs.toList = some (Rows.laid_strings_asciiSpace, p)) : ∃ ty fr, W.heap[0]? = some (.cells spaceL.toArray ty fr) := by
  obtain rfl := Option.some.inj (gSpace.symm.trans hg)
  obtain rfl := Option.some.inj (tSpace.symm.trans ht)
  rw [space_agg] at hd
  exact var_heap gSpace hv (lits_of Tryz.underlying284 Tryz.underlying5 cells5 cells85 hd)
theorem pow_heap {enc : TypeId × Value → Unit} {W : World} {base : Nat} {sp : Nat → Bool} {held : Bool} {g m : Nat} {t : TypeId} {cs : Array Value} {p : List MemPlace} (hg : Tryz.prog.globalNamed "internal/strconv.uint64pow10" = some g)
    (ht : (Tryz.prog.globals[g]?).map (·.type) = some t) (hv : W.var? Tryz.prog "internal/strconv.uint64pow10" = some cs) (hd : DataW.trod enc Tryz.prog W base sp held m t cs.toList = some (Rows.laid_internal_strconv_uint64pow10, p)) : ∃ ty fr, W.heap[5]? = some (.cells powL.toArray ty fr) := by
  obtain rfl := Option.some.inj (gPow.symm.trans hg)
  obtain rfl := Option.some.inj (tPow.symm.trans ht)
  rw [pow_agg] at hd
  exact var_heap gPow hv ((lits_of Tryz.underlying307 Tryz.underlying208 cells188 cells210 hd).trans pow_eq)
theorem mem_all {l : List Nat} (h : l.all (· ≤ reachBytes) = true) : ∀ n ∈ l, n ≤ reachBytes := fun n hn => by simpa using List.all_eq_true.1 h n hn
end Go.Proofs.YtmalhikcdideoaaGreatDoor

set_option linter.unusedVariables false
namespace Go.Proofs.YtmalhikcdideoaaGreatDoor.RowSR
open Go Go.ChangeShapes Go.WideShapes Go.ChangeAt Go.RowKit Sl
theorem plain : (Rows.scopeRenamesUptoRow.laid.all fun x => x.2.handleName?.isNone) = true := by kernel_rfl
theorem glob_both {W : World} (h1 : ∃ ty fr, W.heap[0]? = some (.cells spaceL.toArray ty fr)) (h2 : ∃ ty fr, W.heap[5]? = some (.cells powL.toArray ty fr)) : GlobH W fun _ => none := by
  rintro x hx
  simp only [gl, List.mem_cons, List.not_mem_nil, or_false] at hx
  rcases hx with rfl | rfl
  · refine ⟨rfl, h1, fun y hy => ?_⟩
    simp only [spaceL, List.mem_map] at hy
    obtain ⟨i, _, rfl⟩ := hy
    rfl
  · refine ⟨rfl, h2, fun y hy => ?_⟩
    simp only [powL, List.mem_map] at hy
    obtain ⟨i, _, rfl⟩ := hy
    rfl
theorem glob_of_laid {W : World} (h : laidMetH Tryz.prog Rows.scopeRenamesUptoRow.laid W) : GlobH W fun _ => none := by
  rw [MakeChecks.laidMetH_plain _ _ _ plain] at h
  obtain ⟨ps, ⟨_, _, _, _, _, _, _, _, _, _, ⟨_, _, _, _, _, _, _, _, _, _, ⟨g3, t3, c3, _, p3, _, hg3, ht3, hv3, hd3, ⟨_, _, _, _, _, _, _, _, _, _, ⟨_, _, _, _, _, _, _, _, _, _, ⟨g6, t6, c6, _, p6, _, hg6, ht6, hv6, hd6, _⟩, _⟩, _⟩, _⟩, _⟩, _⟩, _, _⟩ := h
  exact glob_both (space_heap hg6 ht6 hv6 hd6) (pow_heap hg3 ht3 hv3 hd3)
theorem walk (b : List Acx) (n : Int) (s : ByteArray) (t : ByteArray) (r : Rf) (hb : sumL muAcx b + s.size + t.size + muRf r ≤ 1048576) (hob : ∀ x ∈ b, okAcx x) (hor : True) (W : World) (hg : GlobH W fun _ => none) {v0 v1 v2 v3 v4 : Value} (h0 : Rd W (fun _ => none) (encL 6 cAcx b) v0) (h1 : Rd W (fun _ => none) (I n) v1) (h2 : Rd W (fun _ => none) (S s) v2) (h3 : Rd W (fun _ => none) (S t) v3) (h4 : Rd W (fun _ => none) (aggL (cRf r)) v4) :
    Calls Tryz.prog 3 #[v0, v1, v2, v3, v4] W fun e w' => e = .returned (.bool true) ∧ Below W.heap.size W w' := by
  have hk := slaw_bulk b n s t r (by omega) hob
  refine (hk (fun _ => none) W #[v0, v1, v2, v3, v4] ⟨fun b o hb => (by cases hb), hg⟩ ⟨rfl, fun i a hi => ?_⟩).mono ?_
  · match i, hi with
    | 0, hi => cases hi; exact ⟨_, rfl, h0⟩
    | 1, hi => cases hi; exact ⟨_, rfl, h1⟩
    | 2, hi => cases hi; exact ⟨_, rfl, h2⟩
    | 3, hi => cases hi; exact ⟨_, rfl, h3⟩
    | 4, hi => cases hi; exact ⟨_, rfl, h4⟩
    | n + 5, hi => simp at hi
  · rintro e w' ⟨u, r, h', rfl, ⟨rfl, rfl⟩, hr, _, hio, hst⟩
    exact ⟨by rw [show u = .bool true from hr], hst.below hio⟩
theorem reads (os : Os) {H : Type} (enc : TypeId × Value → H) : ∃ places, DataW.whole enc Tryz.prog ((World.laidAll Tryz.prog os Rows.scopeRenamesUptoRow.laid).forCall (fun _ _ => 0) ⟨#[], #[.slice none 0 0, .int .i64 0, .string ByteArray.empty, .string ByteArray.empty, .agg #[.string ByteArray.empty, .string ByteArray.empty]], []⟩).memory Tryz.f3.params.toList Rows.scopeRenamesSpec.vars false #[Value.slice none 0 0, .int .i64 0, .string ByteArray.empty, .string ByteArray.empty, .agg #[.string ByteArray.empty, .string ByteArray.empty]].toList 8 = some ([.nil, .lit (.int .i64 0), .lit (.string []), .lit (.string []), .agg [.lit (.string []), .lit (.string [])]], [], places) :=
  ⟨[], by kernel_rfl⟩
set_option maxRecDepth 100000 in
theorem lifted (os : Os) (started : os.Started) (H : Type) (enc : TypeId × Value → H) (F : Stop.Interp) :
    ReturnsInHanded {} Tryz.checked os 3 .any ((Rows.OpenSpec.upto Rows.scopeRenamesSpec).preRow enc Tryz.prog Tryz.f3 Rows.scopeRenamesUptoRow.domain false Rows.scopeRenamesUptoRow.laid) (((Rows.OpenSpec.upto Rows.scopeRenamesSpec).at F).post enc Tryz.prog Tryz.f3 false true false false) := by
  obtain ⟨places, hx⟩ := reads os enc
  have hok : Input.okWideB Tryz.prog ((World.laidAll Tryz.prog os Rows.scopeRenamesUptoRow.laid).forCall (fun _ _ => 0) ⟨#[], #[.slice none 0 0, .int .i64 0, .string ByteArray.empty, .string ByteArray.empty, .agg #[.string ByteArray.empty, .string ByteArray.empty]], []⟩) 3 ⟨#[], #[.slice none 0 0, .int .i64 0, .string ByteArray.empty, .string ByteArray.empty, .agg #[.string ByteArray.empty, .string ByteArray.empty]], []⟩ = true := by kernel_rfl
  refine returnsInHanded_of_row (C := Tryz.checked) (s := Rows.OpenSpec.upto Rows.scopeRenamesSpec) own started (by kernel_rfl) Tryz.func3
    ⟨World.laidAll Tryz.prog os Rows.scopeRenamesUptoRow.laid, fun _ _ => 0, ⟨#[], #[.slice none 0 0, .int .i64 0, .string ByteArray.empty, .string ByteArray.empty, .agg #[.string ByteArray.empty, .string ByteArray.empty]], []⟩, World.laidAll_os _ _ _, World.shaped_of_ZipB (by kernel_rfl) (by kernel_rfl), (Input.okWide_of_okWideB (base := 0) hok).1, (Input.okWide_of_okWideB hok).2,
      OpenSpec.preRow_of_cond 8 hx (by kernel_rfl) (fun k hk => by cases hk; kernel_rfl) (by kernel_rfl) (by rw [MakeChecks.laidMetH_plain _ _ _ plain]; exact laidMet_laidAll _ (by kernel_rfl) (by kernel_rfl)), by simp [Assume.holds]⟩ ?_
  intro W base args ds gs before hval0 hW _ hcond hsz0 hL _ _
  have hsz : (DataW.weightsEach Tryz.prog (Tryz.f3.params.toList ++ Rows.scopeRenamesSpec.plain.varTypes Tryz.prog) (ds ++ gs)).all (· ≤ reachBytes) = true := hsz0
  have hval : ∀ (j : Nat) t v, Tryz.f3.params[j]? = some t → args[j]? = some v → Value.okWide Tryz.prog W .any base t v := hval0
  have hbulk : Rows.uptoBulkAll (ds ++ gs) ≤ 1048576 := of_decide_eq_true (hcond _ rfl)
  have hW' := hW
  obtain ⟨p, q, hA0, hV, rfl, hfz, hnd⟩ := hW
  have hA : DataW.TrodAll enc Tryz.prog W 0 (fun _ => true) true Tryz.f3.params.toList args.toList ds p := hA0
  rw [Tryz.params3] at hA hval hsz
  obtain ⟨v0, vs0, d0, ds0, p0, q0, hargs, rfl, rfl, t0, r0⟩ := trodAll_cons hA
  obtain ⟨v1, vs1, d1, ds1, p1, q1, rfl, rfl, rfl, t1, r1⟩ := trodAll_cons r0
  obtain ⟨v2, vs2, d2, ds2, p2, q2, rfl, rfl, rfl, t2, r2⟩ := trodAll_cons r1
  obtain ⟨v3, vs3, d3, ds3, p3, q3, rfl, rfl, rfl, t3, r3⟩ := trodAll_cons r2
  obtain ⟨v4, vs4, d4, ds4, p4, q4, rfl, rfl, rfl, t4, r4⟩ := trodAll_cons r3
  obtain ⟨rfl, rfl, rfl⟩ := trodAll_nil r4
  obtain rfl : args = #[v0, v1, v2, v3, v4] := by cases args; simp_all
  obtain ⟨rfl, rfl⟩ := trodVars_none hV
  have hs := mem_all hsz
  have w0 : ∀ n ∈ d0.weights Tryz.prog 23, n ≤ reachBytes := fun n hn => hs n (by simp only [List.cons_append, List.nil_append, DataW.weightsEach, List.mem_append]; exact .inl hn)
  have w1 : ∀ n ∈ d1.weights Tryz.prog 3, n ≤ reachBytes := fun n hn => hs n (by simp only [List.cons_append, List.nil_append, DataW.weightsEach, List.mem_append]; exact .inr (.inl hn))
  have w2 : ∀ n ∈ d2.weights Tryz.prog 9, n ≤ reachBytes := fun n hn => hs n (by simp only [List.cons_append, List.nil_append, DataW.weightsEach, List.mem_append]; exact .inr (.inr (.inl hn)))
  have w3 : ∀ n ∈ d3.weights Tryz.prog 9, n ≤ reachBytes := fun n hn => hs n (by simp only [List.cons_append, List.nil_append, DataW.weightsEach, List.mem_append]; exact .inr (.inr (.inr (.inl hn))))
  have w4 : ∀ n ∈ d4.weights Tryz.prog 25, n ≤ reachBytes := fun n hn => hs n (by simp only [List.cons_append, List.nil_append, DataW.weightsEach, List.mem_append]; exact .inr (.inr (.inr (.inr (.inl hn)))))
  have hb2 : Rows.uptoBulk d0 + Rows.uptoBulk d1 + Rows.uptoBulk d2 + Rows.uptoBulk d3 + Rows.uptoBulk d4 ≤ 1048576 := by
    simp only [List.append_nil, Rows.uptoBulkAll] at hbulk
    omega
  obtain ⟨a0, l0, b0, e0⟩ := okWide_slice Tryz.underlying23 (hval 0 _ v0 rfl rfl)
  obtain ⟨n1, e1⟩ := okWide_int Tryz.underlying3 (hval 1 3 v1 rfl rfl)
  obtain ⟨n2, e2⟩ := okWide_string Tryz.underlying9 (hval 2 9 v2 rfl rfl)
  obtain ⟨n3, e3⟩ := okWide_string Tryz.underlying9 (hval 3 9 v3 rfl rfl)
  obtain ⟨c4, e4, _⟩ := okWide_struct Tryz.underlying25 (hval 4 _ v4 rfl rfl)
  obtain ⟨x0, ⟨b, m0, o0, y0⟩, z0⟩ := argB_one (o_body W) t0 w0 (by rw [e0]; rfl)
  obtain ⟨x1, ⟨n, o1, m1, y1⟩, z1⟩ := argB_one (o_int W) t1 w1 (by rw [e1]; rfl)
  obtain ⟨x2, ⟨s, m2, y2⟩, z2⟩ := argB_one (o_str W) t2 w2 (by rw [e2]; rfl)
  obtain ⟨x3, ⟨t, m3, y3⟩, z3⟩ := argB_one (o_str W) t3 w3 (by rw [e3]; rfl)
  obtain ⟨x4, ⟨r, m4, o4, y4⟩, z4⟩ := argB_agg (o_ref W) (e4 ▸ t4) w4
  obtain rfl : x0 = encL 6 cAcx b := by simpa using y0
  obtain rfl : x1 = I n := by simpa using y1
  obtain rfl : x2 = S s := by simpa using y2
  obtain rfl : x3 = S t := by simpa using y3
  subst y4
  clear hA0 hval0 hsz0 hsz hbulk
  have lt : ∀ {t : TypeId} {v : Value} {d : DataW H} {p : List MemPlace}, DataW.Trod enc Tryz.prog W 0 (fun _ => true) true t v d p → ∀ x ∈ p, x.block < W.heap.size := fun k => by obtain ⟨m, hm⟩ := k; exact DataW.trod_lt m _ _ _ hm
  refine (walk b n s t r (by omega) o0 o4 W (glob_of_laid hL) z0 z1 z2 z3 (e4 ▸ z4)).mono fun r W' ⟨he, bel⟩ => ?_
  subst he
  exact ⟨_, rfl, _, _, _, [], _, [], hW', trodAll_mk1 (shut_bool Tryz.underlying4 _), (trodAll_cons_mk (Below.trod laidOut (by kernel_rfl) (of_decide_eq_true (by kernel_rfl)) t0 bel (lt t0)) (trodAll_cons_mk (Below.trod laidOut (by kernel_rfl) (of_decide_eq_true (by kernel_rfl)) t1 bel (lt t1)) (trodAll_cons_mk (Below.trod laidOut (by kernel_rfl) (of_decide_eq_true (by kernel_rfl)) t2 bel (lt t2)) (trodAll_cons_mk (Below.trod laidOut (by kernel_rfl) (of_decide_eq_true (by kernel_rfl)) t3 bel (lt t3)) (trodAll_cons_mk (Below.trod laidOut (by kernel_rfl) (of_decide_eq_true (by kernel_rfl)) t4 bel (lt t4)) trodAll_mk0))))), rfl, bel.frame _, fun h => by cases h⟩
theorem holds : Rows.ScopeRenamesUptoSaid :=
  OpenClaim.holds_of_cond 3 Tryz.f3 rfl rfl rfl rfl rfl rfl rfl ⟨rfl, rfl, rfl, rfl, rfl⟩ rfl rfl rfl rfl rfl (by kernel_rfl) Tryz.func3 closed
    (of_decide_eq_true (by kernel_rfl)) (by unfold Func.isWrapper; first | (rw [if_pos (by decide +kernel)]; kernel_rfl) | (rw [if_neg (by decide +kernel)]; exact ⟨rfl, rfl⟩))
    (fun os started H enc _ F => by rw [OpenClaim.pre_eq_preRow]; exact lifted os started H enc F)
end Go.Proofs.YtmalhikcdideoaaGreatDoor.RowSR
namespace Go.Proofs.YtmalhikcdideoaaGreatDoor
open Go
theorem scopeRenames_card : Rows.ScopeRenamesUptoCardSaid :=
  Claim7.holds_tied_plain_at .later [] _ _ _ _ RowSR.holds (fun _ h => by cases h) (by kernel_rfl) (fun _ h => by cases h) scopeRenamesUpto_row_tie rfl ⟨rfl, rfl⟩ (by kernel_rfl) rfl
    (fun f fn hf hfn => by
      obtain rfl : f = 3 := Option.some.inj ((show Tryz.prog.funcNamed "moothall/mootlaw2.ScopeRenames" = some 3 by kernel_rfl).symm.trans hf) |>.symm
      obtain rfl : fn = Tryz.f3 := (Option.some.inj (Tryz.func3.symm.trans hfn)).symm
      exact ⟨by kernel_rfl, fun j t ht => by
        rw [Tryz.params3] at ht
        have hm : t ∈ [23, 3, 9, 9, 25] := by simpa using Array.mem_of_getElem? ht
        have hall : ([23, 3, 9, 9, 25].all fun u => !Tryz.prog.wantsStandIn u) = true := by kernel_rfl
        exact (show Tryz.prog.wantsStandIn t = false by simpa using List.all_eq_true.1 hall t hm)⟩)
    (by kernel_rfl)
end Go.Proofs.YtmalhikcdideoaaGreatDoor
