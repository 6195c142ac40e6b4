/- A block is told anew: its cells by less, other blocks no more. tree.copied, Cut, Norm, whatever the expression. DERIVED: THE SHELF's CONTRACTS AT THIS DUMP, IN PLAIN WORDS (tools/lay-plain.mjs out of 'RedShelfr.lean', which tools/lay-shelf.mjs wrote): THE SAME DECLARATIONS UNDER THE SAME NAMES: 'import', 'namespace', 'open', 'def', 'theorem' AND NOTHING ELSE: no command of the shelf's: FOR A HAND- -/
import Derived.Test.YtmalhikcdideoaaGreatDoorF0
import Derived.Test.YtmalhikcdideoaaGreatDoorF1
import Derived.Shelf.Slices.Clone
import Derived.Ground.Names2Prog
import Derived.Test.YtmalhikcdideoaaGreatDoorProg
import Derived.Lib.Builder
import Derived.Lib.UnsafeStr
import Derived.Laws.Externs
import Derived.Shelf.RegionOpenPlain
import Derived.WalkKit
import Derived.Test.YtmalhikcdideoaaGreatDoorSlW
set_option linter.unusedVariables false
set_option linter.unusedSimpArgs false
namespace Go.Proofs.YtmalhikcdideoaaGreatDoor
open Go Sl
attribute [local irreducible] XRange LpQ XR XRo XRg XRQ putQ XFv XL XW2 wQ putW X XO XOp XH XHo XW SeqQ BlkQ XOQ XHQ NrmQ XC XM XG XHM XHG XD CallK
open Go.RowKit
theorem retell {w : World} {h h1 : Hp} {d : Nat} {od : Ob} {f' : Nat → Nat → AV} (hh : RelH w h) (hs : Sub h1 h) (hd : h1 d = some od) (h0 : 0 < od.s) (hf : ∀ i, i < od.n → ∀ j, j < od.s → Wk h (od.f i j) h1 (f' i j)) :
    Stp w h w (upd h1 d (some { od with f := f' })) ∧ RelH w (upd h1 d (some { od with f := f' })) := by
  have st1 : Stp w h w h1 := stp_forget hs
  have hh1 : RelH w h1 := relH_forget hh hs
  have st2 : Stp w h1 w (upd h1 d (some { od with f := f' })) := by
    refine ⟨Nat.le_refl _, fun _ _ _ => rfl, fun b hb hn => ?_, fun b o' hb ho => ?_⟩
    · rw [upd_ne _ _ (fun e => by rw [e, hd] at hn; cases hn)]; exact hn
    · by_cases hbd : b = d
      · subst hbd
        rw [upd_same] at ho
        cases ho
        exact ⟨od, hd, rfl, fun c fr hc => ⟨c, fr, hc, rfl⟩⟩
      · rw [upd_ne _ _ hbd] at ho
        exact ⟨o', ho, rfl, fun c fr hc => ⟨c, fr, hc, rfl⟩⟩
  refine ⟨st1.trans st2, fun b o hb => ?_, hh1.glob.step st2⟩
  by_cases hbd : b = d
  · subst hbd
    rw [upd_same] at hb
    cases hb
    have hx := hh.own b od (hs b od hd)
    unfold HeldH at hx ⊢
    rw [if_neg (by omega)] at hx
    rw [if_neg (by simp; omega)]
    obtain ⟨c, e1, e2, e3, e4⟩ := hx
    refine ⟨c, e1, e2, e3, fun i hi j hj => ?_⟩
    obtain ⟨x, f1, f2, f3⟩ := e4 i hi j hj
    exact ⟨x, f1, f2, (((hf i hi j hj).out w x hh f3).2.2).step st2⟩
  · rw [upd_ne _ _ hbd] at hb
    exact (hh1.own b o hb).step st2 rfl
theorem retell_S {N : Nat} {T : Nat → AV} {h h1 : Hp} {d : Nat} {od : Ob} {f' : Nat → Nat → AV} (hs : Sub h1 h) (hd : h1 d = some od) (h0 : 0 < od.s) (hf : ∀ i, i < od.n → ∀ j, j < od.s → Wk h (od.f i j) h1 (f' i j)) :
    WkS N T h T (upd h1 d (some { od with f := f' })) := fun _ _ a w r => by
  obtain ⟨st, rh⟩ := retell r.heap hs hd h0 hf
  exact ⟨r.size, r.defers, fun i => (r.slots i).step st, rh, r.io, r.stp.trans st⟩
theorem retell_W {h h1 : Hp} {d : Nat} {od : Ob} {f' : Nat → Nat → AV} (x : AV) (hs : Sub h1 h) (hd : h1 d = some od) (h0 : 0 < od.s) (hf : ∀ i, i < od.n → ∀ j, j < od.s → Wk h (od.f i j) h1 (f' i j)) :
    Wk h x (upd h1 d (some { od with f := f' })) x := ⟨fun w u hh hr => by
  obtain ⟨st, rh⟩ := retell hh hs hd h0 hf
  exact ⟨st, rh, hr.step st⟩⟩
theorem upd_twice {α : Type} (T : Nat → α) (d : Nat) (x y : α) : upd (upd T d x) d y = upd T d y := by
  funext i
  by_cases h : i = d <;> simp [upd, h]
/-- A loop that writes the slots D alone; at the end of a round less may be told. -/
theorem X_lpFW {P : Program} {N : Nat} {T : Nat → AV} {h : Hp} {Q : Exit → (Nat → AV) → Hp → Prop} {c : Code} (D : Nat → Prop) (I : Nat → (Nat → AV) → Hp → Prop) (n : Nat) (hi : I n T h)
    (hs : ∀ J', (∀ n T' h' h2, WkS N T' h' T' h2 → (∀ i, ¬ D i → T' i = T i) → I n T' h2 → J' n T' h') → ∀ n T' h', (∀ i, ¬ D i → T' i = T i) → I n T' h' → X P N c T' h' (LpQ J' n Q)) : X P N (.loop c) T h Q :=
  X_lpW (fun n T' h' => (∀ i, ¬ D i → T' i = T i) ∧ I n T' h') n ⟨fun _ _ => rfl, hi⟩ fun J' hJ hW n T' h' ⟨h1, h2⟩ => hs J' (fun n T1 h1 h2 w f i => hW n T1 h1 T1 h2 w ⟨f, i⟩) n T' h' h1 h2
section
variable {P : Program} {N : Nat} {T : Nat → AV} {K : (Nat → AV) → Hp → Prop} {d : Option Tmp} {X Y : Operand} {t e : TypeId} {t' : TypeId} {p : String} {af : Array Edge} {g : Option (Nat × Bool)} {s by_ n : Nat} {z : List Value} {h0 h : Hp} {f : Nat → Nat → AV} {a0 : AV}
/-- 'append(l, x)', the literal a new block, its cells whatever they are. -/
theorem pushN {b : Nat} {ob : Ob} (o : Own h0 h a0 e s n f) (ha : ev T X = a0) (hu : P.underlying t = some (.slice e)) (hz : zeroA P e = some (s, z)) (hb : bytesT P e = some by_) (hd : dOk N d = true)
    (hbk : h b = none) (hy : ev T Y = .row b s 0 1) (h1 : ob.s = s) (h2 : 1 ≤ ob.n) (hm : (n + 1) * by_ ≤ 140737488355328) (hm' : n + 1 ≤ 140737488355328)
    (hK : ∀ a h', Own h0 h' a e s (n + 1) (fun i j => if i < n then f i j else ob.f (i - n) j) → (∀ c oc, h c = some oc → a0 ≠ .row c s 0 n → h' c = some oc) → K (putD T d a) h') : XW P N ⟨d, .call ⟨.builtin .append, #[X, Y], #[t, t]⟩, t', p, af, g⟩ T (upd h b (some ob)) K := by
  subst ha
  refine Own.append (q := ob.f) (o.alloc hbk) hu hz hb hd ?_ hm hm' fun a h' ho hkp => hK a h' ho fun c oc hc hne => hkp c oc (by rw [upd_ne _ _ (ne_free hbk hc).2]; exact hc) hne
  subst h1
  rw [hy]
  simp only [srcA, upd_same]
  rw [if_pos ⟨trivial, trivial, by omega⟩]
  simp
end
/-- A finished slice of kids, seen from a heap that knows one block of nodes more than the base. -/
theorem kids_wk {h0 h1 : Hp} {k : AV} {m : Nat} {f : Nat → Nat → AV} (o : Own h0 h1 k 3 1 m f) (hm : m ≤ 140737488355328) {d : Nat} {od : Ob} (hd : h1 d = some od) (hs : od.s = 5) : Wk h1 k (upd h0 d (some od)) (.sl 1 m f) := by
  refine Own.frozen (e := 3) ⟨fun c oc hc => ?_, ?_⟩ hm
  · by_cases hcd : c = d
    · subst hcd; rw [upd_same] at hc; cases hc; exact hd
    · rw [upd_ne _ _ hcd] at hc; exact o.1 c oc hc
  · rcases o.2 with h2 | ⟨c, oc, h2, h3, h4, h5, h6⟩
    · exact .inl h2
    · refine .inr ⟨c, oc, h2, ?_, h4, h5, h6⟩
      rw [upd_ne _ _ (fun e => by rw [e, hd] at h4; cases h4; omega)]
      exact h3
/-- A slice of nodes whose last one has kids that are finished: from here on it is told by its nodes alone. -/
theorem freeze_last {h0 h1 : Hp} {a : AV} {f : Nat → Nat → AV} {acc : List Nd} {x : Nd} (o : Own h0 h1 a 65 5 (acc.length + 1) f) (hf : ∀ i, i < acc.length → ∀ j, j < 5 → f i j = cellsL cNd acc i j)
    (l0 : f acc.length 0 = I x.op) (l2 : f acc.length 2 = I x.kd) (l3 : f acc.length 3 = I x.n) (l4 : f acc.length 4 = S x.nm)
    (hk : ∀ d od, h1 d = some od → od.s = 5 → h0 d = none → Wk h1 (f acc.length 1) (upd h0 d (some od)) (encL 1 cI x.kids)) :
    ∃ h2, (∀ N T, WkS N T h1 T h2) ∧ (∀ y, Wk h1 y h2 y) ∧ Own h0 h2 a 65 5 (acc ++ [x]).length (cellsL cNd (acc ++ [x])) := by
  rcases o with ⟨hs, ⟨h3, _⟩ | ⟨d, od, rfl, hd0, hd1, p1, p2, p3, p4, p5⟩⟩
  · omega
  have hb : Sub (upd h0 d (some od)) h1 := fun c oc hc => by
    by_cases hcd : c = d
    · subst hcd; rw [upd_same] at hc; cases hc; exact hd1
    · rw [upd_ne _ _ hcd] at hc; exact hs c oc hc
  have hw : ∀ i, i < od.n → ∀ j, j < od.s → Wk h1 (od.f i j) (upd h0 d (some od)) (cellsL cNd (acc ++ [x]) i j) := fun i hi j hj => by
    rw [p3] at hi
    rw [p1] at hj
    rw [p5 i hi j hj]
    by_cases hil : i < acc.length
    · rw [hf i hil j hj]
      have : cellsL cNd (acc ++ [x]) i j = cellsL cNd acc i j := by simp [cellsL, List.getElem?_append_left hil]
      rw [this]
      exact Wk.drop _ hb
    · obtain rfl : i = acc.length := by omega
      have hc : ∀ j, cellsL cNd (acc ++ [x]) acc.length j = (cNd x).getD j .any := fun j => by simp [cellsL]
      rw [hc]
      rcases (show j = 0 ∨ j = 1 ∨ j = 2 ∨ j = 3 ∨ j = 4 by omega) with rfl | rfl | rfl | rfl | rfl
      · rw [l0]; exact Wk.drop _ hb
      · exact hk d od hd1 p1 hd0
      · rw [l2]; exact Wk.drop _ hb
      · rw [l3]; exact Wk.drop _ hb
      · rw [l4]; exact Wk.drop _ hb
  refine ⟨upd (upd h0 d (some od)) d (some { od with f := cellsL cNd (acc ++ [x]) }), fun N T => retell_S hb (upd_same _ _ _) (by omega) hw, fun y => retell_W y hb (upd_same _ _ _) (by omega) hw, ?_⟩
  rw [upd_twice]
  refine ⟨Sub.upd hd0 (Sub.refl _), .inr ⟨d, _, by simp, hd0, upd_same _ _ _, p1, p2, by simp [p3], by simp, fun i hi j hj => rfl⟩⟩
theorem own_cells {h0 h : Hp} {a : AV} {e : TypeId} {s n : Nat} {f : Nat → Nat → AV} (o : Own h0 h a e s n f) : cellsA a = some (1, fun _ => a) := by
  rcases o.2 with ⟨_, h1 | h1⟩ | ⟨b, ob, h1, _⟩ <;> rw [h1] <;> rfl
/-- Kids that may go into a node: a slice of the call's own, or one that nobody writes any more. -/
def Kds (B g : Hp) (k : AV) (ks : List Int) : Prop := Own B g k 3 1 ks.length (cellsL cI ks) ∨ k = encL 1 cI ks
theorem Kds.cells {B g : Hp} {k : AV} {ks : List Int} (o : Kds B g k ks) : cellsA k = some (1, fun _ => k) := by
  rcases o with o | rfl
  · exact own_cells o
  · rfl
section
variable {P : Program} {N : Nat} {T : Nat → AV} {K : (Nat → AV) → Hp → Prop} {d : Option Tmp} {X Y : Operand} {t e : TypeId} {t' : TypeId} {p : String} {af : Array Edge} {gd : Option (Nat × Bool)} {by_ : Nat} {z : List Value} {B g : Hp} {a0 k : AV} {acc : List Nd} {x : Nd}
/-- A node is appended to nodes, its kids finished now: what is told behind it. -/
theorem X_pushK {b : Nat} {ob : Ob} (o5 : Own B g a0 65 5 acc.length (cellsL cNd acc)) (oK : Kds B g k x.kids) (ha : ev T X = a0) (hu : P.underlying t = some (.slice 65)) (hz : zeroA P 65 = some (5, z)) (hb : bytesT P 65 = some by_) (hd : dOk N d = true)
    (hbk : g b = none) (hy : ev T Y = .row b 5 0 1) (h1 : ob.s = 5) (h2 : 1 ≤ ob.n) (f0 : ob.f 0 0 = I x.op) (f1 : ob.f 0 1 = k) (f2 : ob.f 0 2 = I x.kd) (f3 : ob.f 0 3 = I x.n) (f4 : ob.f 0 4 = S x.nm) (hm : (acc.length + 1) * by_ ≤ 140737488355328) (hm' : acc.length + 1 ≤ 140737488355328) (hkl : x.kids.length ≤ 140737488355328)
    (hK : ∀ a h1 h2, (∀ N T, WkS N T h1 T h2) → (∀ y, Wk h1 y h2 y) → Own B h2 a 65 5 (acc ++ [x]).length (cellsL cNd (acc ++ [x])) → K (putD T d a) h1) : XW P N ⟨d, .call ⟨.builtin .append, #[X, Y], #[t, t]⟩, t', p, af, gd⟩ T (upd g b (some ob)) K := by
  obtain ⟨H, oH, sH, kH⟩ := own_hole o5
  refine pushN oH ha hu hz hb hd hbk hy h1 h2 hm hm' fun a h1 ho hkp => ?_
  have o51 := own_up sH ho
  have oK1 : ∀ d od, h1 d = some od → od.s = 5 → B d = none → Wk h1 k (upd B d (some od)) (encL 1 cI x.kids) := fun d od e1 e2 e3 => by
    rcases oK with oK | rfl
    · exact kids_wk (own_keep sH kH ho.1 oK (own_apartT o5 oK (by decide))) hkl e1 e2
    · exact Wk.drop _ fun c oc hc => by
        by_cases hcd : c = d
        · subst hcd; rw [upd_same] at hc; cases hc; exact e1
        · rw [upd_ne _ _ hcd] at hc; exact o51.1 c oc hc
  obtain ⟨h2, w1, w2, w3⟩ := freeze_last (x := x) (acc := acc) o51 (fun i hi j hj => by simp only [hi, if_true]) (by simp [f0]) (by simp [f2]) (by simp [f3]) (by simp [f4]) (fun d od e1 e2 e3 => by simpa [f1] using oK1 d od e1 e2 e3)
  exact hK a h1 h2 w1 w2 w3
end
end Go.Proofs.YtmalhikcdideoaaGreatDoor

set_option linter.unusedVariables false
set_option linter.unusedSimpArgs false
namespace Go.Proofs.YtmalhikcdideoaaGreatDoor
open Go Sl
attribute [local irreducible] XRange LpQ XR XRo XRg XRQ putQ XFv XL XW2 wQ putW X XO XOp XH XHo XW SeqQ BlkQ XOQ XHQ NrmQ XC XM XG XHM XHG XD CallK
open Go.RowKit
end Go.Proofs.YtmalhikcdideoaaGreatDoor

namespace Go.Proofs
open Go.Shelf
def Tryz.lays2n15_ren : Go.Shelf.Ren := ⟨fun | 15 => 171 | n => n, fun | 22 => 63 | 3 => 3 | 4 => 4 | n => n, fun | n => n⟩
theorem Tryz.lays2n15 : Go.Proofs.Lays2.n15 Tryz.prog Tryz.lays2n15_ren := {
  mixed := by kernel_rfl
  f15 := Tryz.func171.trans (congrArg some (by kernel_rfl))
  t3 := Tryz.underlying3
  a3 := Tryz.isAgg3
  z3 := Tryz.sizeOf3
  v3 := Tryz.zeroValue3
  t4 := Tryz.underlying4
  a4 := Tryz.isAgg4
  z4 := Tryz.sizeOf4
  v4 := Tryz.zeroValue4
  t22 := Tryz.underlying63
  a22 := Tryz.isAgg63
  z22 := Tryz.sizeOf63
  v22 := Tryz.zeroValue63
  i3 := by kernel_rfl }
end Go.Proofs

set_option linter.unusedVariables false
set_option linter.unusedSimpArgs false
namespace Go.Proofs.YtmalhikcdideoaaGreatDoor
open Go Sl
attribute [local irreducible] XRange LpQ XR XRo XRg XRQ putQ XFv XL XW2 wQ putW X XO XOp XH XHo XW SeqQ BlkQ XOQ XHQ NrmQ XC XM XG XHM XHG XD CallK
open Go.RowKit
@[go_sem] theorem lit1_op : lit1.op = 0 := rfl
@[go_sem] theorem lit1_kids : lit1.kids = [] := rfl
@[go_sem] theorem lit1_kd : lit1.kd = 5 := rfl
@[go_sem] theorem lit1_n : lit1.n = 1 := rfl
@[go_sem] theorem lit1_nm : lit1.nm = ⟨#[]⟩ := rfl
theorem clone_0 (f f' : Nat → Nat → AV) : Pure Tryz.prog 171 [.sl 1 0 f] (.sl 1 0 f') := by
  intro h
  unfold CallK
  intro w vals hh ha
  obtain ⟨u, rfl, A, c, rfl, _⟩ := vals_a ha
  have fin : ∀ (w' : World) (A' : Option Addr) (c' : Nat), Rd w' h (.sl 1 0 f') (.slice A' 0 c') := fun w' A' c' => ⟨A', c', rfl, Nat.zero_le _, by decide, fun h0 => absurd h0 (Nat.lt_irrefl _)⟩
  cases A with
  | none =>
    refine (Any.slices_Clone_int_nil Tryz.lays2n15 0 c w).mono ?_
    rintro e w' ⟨rfl, rfl⟩
    exact ⟨_, _, h, rfl, ⟨rfl, rfl⟩, fin _ _ _, hh, ⟨rfl, rfl, rfl⟩, Stp.refl _ _⟩
  | some a =>
    refine (Any.slices_Clone_int_zero Tryz.lays2n15 a c w).mono ?_
    rintro e w' ⟨v', rfl, ⟨_, hown⟩, _, hbel⟩
    have hv : ∃ A' c', v' = .slice A' 0 c' := by
      rcases hown with ⟨e1, _⟩ | ⟨g, cap, cur, e1, _⟩
      · exact ⟨_, _, e1⟩
      · exact ⟨_, _, e1⟩
    obtain ⟨A', c', rfl⟩ := hv
    exact ⟨_, _, h, rfl, ⟨rfl, rfl⟩, fin _ _ _, hh.grow hbel.size hbel.block, ⟨hbel.os, hbel.tape, hbel.output⟩, Stp.grow hh hbel.size hbel.block⟩
@[go_sem] def cE (k : List Nd) : List AV := [encL 5 cNd k]
def addN : Nd := ⟨10, [], 0, 0, ⟨#[]⟩⟩
@[go_sem] theorem addN_op : addN.op = 10 := rfl
@[go_sem] theorem addN_kids : addN.kids = [] := rfl
@[go_sem] theorem addN_kd : addN.kd = 0 := rfl
@[go_sem] theorem addN_n : addN.n = 0 := rfl
@[go_sem] theorem addN_nm : addN.nm = ⟨#[]⟩ := rfl
end Go.Proofs.YtmalhikcdideoaaGreatDoor

set_option linter.unusedVariables false
set_option linter.unusedSimpArgs false
namespace Go.Proofs.YtmalhikcdideoaaGreatDoor
open Go Sl
attribute [local irreducible] XRange LpQ XR XRo XRg XRQ putQ XFv XL XW2 wQ putW X XO XOp XH XHo XW SeqQ BlkQ XOQ XHQ NrmQ XC XM XG XHM XHG XD CallK
open Go.RowKit
mutual
/-- Each node of a tree, with how many kids it has. -/
def AllT (Q : Nd → Nat → Prop) : Tr → Prop
  | .mk x ks => Q x ks.length ∧ AllL Q ks
def AllL (Q : Nd → Nat → Prop) : List Tr → Prop
  | [] => True
  | t :: r => AllT Q t ∧ AllL Q r
end
/-- What is asked of a node that is written down: its kids' number and size. -/
structure NdOk (Q : Nd → Nat → Prop) (m : Int) (x : Nd) : Prop where
  own : Q (bare x) x.kids.length
  kids : ∀ k ∈ x.kids, -1 ≤ k ∧ k ≤ m
theorem NdOk.mono {Q : Nd → Nat → Prop} {m m' : Int} {x : Nd} (h : NdOk Q m x) (hm : m ≤ m') : NdOk Q m' x := ⟨h.own, fun k hk => ⟨(h.kids k hk).1, by have := (h.kids k hk).2; omega⟩⟩
theorem NdOk.shift {Q : Nd → Nat → Prop} {m : Int} {x : Nd} (h : NdOk Q m x) (d : Int) (hd : 0 ≤ d) : NdOk Q (m + d) (shN d x) := by
  refine ⟨?_, fun k hk => ?_⟩
  · have := h.own
    unfold shN
    simp only [List.length_map]
    exact this
  · unfold shN at hk
    obtain ⟨q, hq, rfl⟩ := List.mem_map.1 hk
    have := h.kids q hq
    omega
mutual
theorem flatT_ok {Q : Nd → Nat → Prop} : ∀ t : Tr, AllT Q t → (∀ x n, Q x n ↔ Q (bare x) n) → ∀ x ∈ flatT t, NdOk Q (sizeT t) x
  | .mk y ks, h, hQ => by
    rw [AllT] at h
    rw [flatT, sizeT]
    have hp := sizeL_pos ks
    obtain ⟨h1, h2, h3⟩ := flatL_ok ks [] [] h.2 hQ (fun x hx => by cases hx) fun k hk => by cases hk
    intro x hx
    rcases List.mem_append.1 hx with hx | hx
    · exact (h1 x hx).mono (by simp; omega)
    · rw [List.mem_singleton.1 hx]
      refine ⟨?_, fun k hk => ?_⟩
      · simp only [h3, List.length_nil, Nat.zero_add]
        exact (hQ y ks.length).1 h.1
      · have := h2 k hk
        simp at this
        omega
theorem flatL_ok {Q : Nd → Nat → Prop} : ∀ (ts : List Tr) (out : List Nd) (kids : List Int), AllL Q ts → (∀ x n, Q x n ↔ Q (bare x) n) → (∀ x ∈ out, NdOk Q (out.length + sizeL ts) x) → (∀ k ∈ kids, -1 ≤ k ∧ k ≤ out.length + sizeL ts) →
    (∀ x ∈ (flatL ts out kids).1, NdOk Q (out.length + sizeL ts) x) ∧ (∀ k ∈ (flatL ts out kids).2, -1 ≤ k ∧ k ≤ out.length + sizeL ts) ∧ (flatL ts out kids).2.length = kids.length + ts.length
  | [], out, kids, _, _, h1, h2 => by rw [flatL]; exact ⟨h1, h2, by simp⟩
  | t :: r, out, kids, h, hQ, h1, h2 => by
    rw [AllL] at h
    rw [sizeL] at h1 h2 ⊢
    rw [flatL]
    have hp := sizeL_pos r
    have hl := flatT_len t
    have hlen : ((out ++ (flatT t).map (shN out.length)).length : Int) = out.length + sizeT t := by
      rw [List.length_append, List.length_map]; omega
    obtain ⟨g1, g2, g3⟩ := flatL_ok r (out ++ (flatT t).map (shN out.length)) (kids ++ [((out ++ (flatT t).map (shN out.length)).length : Int) - 1]) h.2 hQ (fun x hx => by
      rcases List.mem_append.1 hx with hx | hx
      · exact (h1 x hx).mono (by omega)
      · obtain ⟨y, hy, rfl⟩ := List.mem_map.1 hx
        exact ((flatT_ok t h.1 hQ y hy).shift out.length (by omega)).mono (by omega)) fun k hk => by
      rcases List.mem_append.1 hk with hk | hk
      · have := h2 k hk; omega
      · have := sizeT_pos t
        rw [List.mem_singleton.1 hk]; omega
    refine ⟨fun x hx => (g1 x hx).mono (by rw [hlen]; omega), fun k hk => ?_, by rw [g3]; simp; omega⟩
    have := g2 k hk
    rw [hlen] at this
    omega
end
end Go.Proofs.YtmalhikcdideoaaGreatDoor

set_option linter.unusedVariables false
set_option linter.unusedSimpArgs false
namespace Go.Proofs.YtmalhikcdideoaaGreatDoor
open Go Sl
attribute [local irreducible] XRange LpQ XR XRo XRg XRQ putQ XFv XL XW2 wQ putW X XO XOp XH XHo XW SeqQ BlkQ XOQ XHQ NrmQ XC XM XG XHM XHG XD CallK
open Go.RowKit
theorem own_grow {h0 h h1 : Hp} {a : AV} {e : TypeId} {s n : Nat} {f : Nat → Nat → AV} (o : Own h0 h a e s n f) (hS : Sub h h1) : Own h0 h1 a e s n f := by
  refine ⟨o.1.trans hS, ?_⟩
  rcases o.2 with h | ⟨gb, og, h1, h2, h3, h4⟩
  · exact .inl h
  · exact .inr ⟨gb, og, h1, h2, hS _ _ h3, h4⟩
end Go.Proofs.YtmalhikcdideoaaGreatDoor

set_option linter.unusedVariables false
set_option linter.unusedSimpArgs false
namespace Go.Proofs.YtmalhikcdideoaaGreatDoor
open Go Sl
attribute [local irreducible] XRange LpQ XR XRo XRg XRQ putQ XFv XL XW2 wQ putW X XO XOp XH XHo XW SeqQ BlkQ XOQ XHQ NrmQ XC XM XG XHM XHG XD CallK
open Go.RowKit
theorem clone_big (l : List Int) (h0 : 0 < l.length) (h1 : l.length ≤ 1048576) (h : Hp) : CallK Tryz.prog h 171 [encL 1 cI l] fun r h' => Own h h' r 3 1 l.length (cellsL cI l) := by
  refine callK_body Tryz.func171 rfl (by rw [nt171]; simp) ?_; rw [nt171, rs171]
  (repeat' (first | simp [go_sem, X_region, *] | simp (disch := omega) only [om, *] | ((first | refine XC_split ?_ ?_ | refine XG_true ?_ ?_ | refine XG_false ?_ ?_ | refine XRg_true ?_ ?_ | refine XRg_false ?_ ?_) <;> intro hc <;> (try simp only [bl] at hc) <;> (try (exfalso; omega))) | refine XD_w [] [] [] (fun _ => none) mixed (by decide +kernel) (sub_none _) ?_ | fail))
  refine Own.append (h0 := h) (e := 3) (s := 1) (n := 0) (f := fun _ _ => .any) (m := l.length) (q := cellsL cI l) ⟨Sub.refl h, .inl ⟨rfl, .inr (by simp [go_sem])⟩⟩ und63 zr3 by3 (by simp [go_sem]) (by simp [go_sem]) (by omega) (by omega) fun a h' ho _ => ?_
  simp only [Nat.zero_add, Nat.not_lt_zero, if_false, Nat.sub_zero] at ho
  (repeat' (first | simp [go_sem, X_region, *] | simp (disch := omega) only [om, *] | ((first | refine XC_split ?_ ?_ | refine XG_true ?_ ?_ | refine XG_false ?_ ?_ | refine XRg_true ?_ ?_ | refine XRg_false ?_ ?_) <;> intro hc <;> (try simp only [bl] at hc) <;> (try (exfalso; omega))) | refine XD_w [] [] [] (fun _ => none) mixed (by decide +kernel) (sub_none _) ?_ | fail))
  exact ⟨_, _, Wk.refl _ _, ho⟩
/-- slices.Clone on kids, whatever they are: a slice of the call's own, or an empty one. -/
theorem clone_any (l : List Int) (h1 : l.length ≤ 1048576) (h : Hp) : CallK Tryz.prog h 171 [encL 1 cI l] fun r h' => (0 < l.length ∧ Own h h' r 3 1 l.length (cellsL cI l)) ∨ (l = [] ∧ r = encL 1 cI [] ∧ h' = h) := by
  rcases Nat.eq_zero_or_pos l.length with hz | hp
  · obtain rfl := List.length_eq_zero_iff.1 hz
    refine (clone_0 _ (cellsL cI []) h).mono ?_
    rintro r h' ⟨rfl, rfl⟩
    exact .inr ⟨rfl, rfl, rfl⟩
  · exact (clone_big l hp h1 h).mono fun r h' o => .inl ⟨hp, o⟩
theorem Kds.other {B g : Hp} {k : AV} {ks : List Int} {b : Nat} {o1 o2 : Ob} (o : Kds B g k ks) (hb : B b = some o1) : Kds (upd B b (some o2)) (upd g b (some o2)) k ks := by
  rcases o with o | rfl
  · exact .inl (own_other o hb)
  · exact .inr rfl
/-- A node's kids are cloned; the node lies in a block of its own. -/
theorem clone_call {g : Hp} {b : Nat} {ob : Ob} {x : Nd} {K : AV → Hp → Prop} (hl : x.kids.length ≤ 1048576) (p1 : ob.ty = 65) (p2 : ob.s = 5) (p3 : ob.n = 1) (f0 : ob.f 0 0 = I x.op) (f2 : ob.f 0 2 = I x.kd) (f3 : ob.f 0 3 = I x.n) (f4 : ob.f 0 4 = S x.nm)
    (hk : ∀ (ob : Ob) (r : AV) (g1 : Hp), ob.ty = 65 → ob.s = 5 → ob.n = 1 → ob.f 0 0 = I x.op → ob.f 0 2 = I x.kd → ob.f 0 3 = I x.n → ob.f 0 4 = S x.nm → Sub (upd g b (some ob)) g1 → Kds (upd g b (some ob)) g1 r x.kids → K r g1) : CallK Tryz.prog (upd g b (some ob)) 171 [encL 1 cI x.kids] K := by
  refine (clone_any x.kids hl _).mono fun r g1 hr => hk ob r g1 p1 p2 p3 f0 f2 f3 f4 ?_ ?_
  · rcases hr with ⟨_, o⟩ | ⟨_, _, rfl⟩
    · exact o.1
    · exact Sub.refl _
  · rcases hr with ⟨_, o⟩ | ⟨h1, h2, _⟩
    · exact .inl o
    · exact .inr (by rw [h1]; exact h2)
theorem Kds.up {B0 B g : Hp} {k : AV} {ks : List Int} (o : Kds B g k ks) (hS : Sub B0 B) : Kds B0 g k ks := by
  rcases o with o | rfl
  · exact .inl (own_up hS o)
  · exact .inr rfl
set_option maxHeartbeats 4000000 in
theorem copy_ok (e : List Nd) (he : e.length ≤ 1048576) (hk : ∀ x ∈ e, x.kids.length ≤ 1048576) : Pure Tryz.prog 130 [encL 5 cNd e] (encL 5 cNd e) := by
  intro h; refine CallK.lens fun hlen => ?_; have hlen := (hlen _ (by simp only [List.mem_cons, true_or, or_true] : (encL 5 cNd e) ∈ _)).encL; refine callK_body Tryz.func130 rfl (by rw [nt130]; simp) ?_; rw [nt130, rs130]
  (repeat' (first | simp [go_sem, X_region, *] | simp (disch := omega) only [om, *] | ((first | refine XC_split ?_ ?_ | refine XG_true ?_ ?_ | refine XG_false ?_ ?_ | refine XRg_true ?_ ?_ | refine XRg_false ?_ ?_) <;> intro hc <;> (try simp only [bl] at hc) <;> (try (exfalso; omega))) | refine XD_w [] [] [] (fun _ => none) mixed (by decide +kernel) (sub_none _) ?_ | fail))
  refine X_lpFW (fun i => i = 3 ∨ i = 5 ∨ (8 ≤ i ∧ i ≤ 20)) (fun n T g => ∃ (i : Nat) (r acc : List Nd), n = r.length ∧ i ≤ e.length ∧ e.drop i = r ∧ acc ++ r = e ∧ acc.length = i ∧ T 8 = I i ∧ Own h g (T 3) 65 5 acc.length (cellsL cNd acc)) e.length
    ⟨0, e, [], rfl, by omega, rfl, rfl, rfl, by simp [go_sem], by simpa [go_sem] using Own.none⟩ ?_
  rintro J hJ n T g hfr ⟨i, r, acc, rfl, hi, hd, hacc, hal, t8, own⟩
  rcases r with _ | ⟨x, r⟩
  · have hlt := drop_nil hd
    rw [List.append_nil] at hacc
    subst hacc
    have w4 := own.frozen (by omega)
    rw [hal] at w4
    (repeat' (first | simp [go_sem, X_region, *] | simp (disch := omega) only [om, *] | ((first | refine XC_split ?_ ?_ | refine XG_true ?_ ?_ | refine XG_false ?_ ?_ | refine XRg_true ?_ ?_ | refine XRg_false ?_ ?_) <;> intro hc <;> (try simp only [bl] at hc) <;> (try (exfalso; omega))) | refine XD_w [] [] [] (fun _ => none) mixed (by decide +kernel) (sub_none _) ?_ | fail))
    all_goals exact w4
  · obtain ⟨hlt, hx, hd2⟩ := drop_cons hd
    have hxk := hk x (by rw [← hx]; exact List.getElem_mem hlt)
    (repeat' (first | simp [go_sem, X_region, *] | simp (disch := omega) only [om, *] | ((first | refine XC_split ?_ ?_ | refine XG_true ?_ ?_ | refine XG_false ?_ ?_ | refine XRg_true ?_ ?_ | refine XRg_false ?_ ?_) <;> intro hc <;> (try simp only [bl] at hc) <;> (try (exfalso; omega))) | refine XD_w [] [] [] (fun _ => none) mixed (by decide +kernel) (sub_none _) ?_ | fail))
    intro b5 hb5
    (repeat' (first | simp [go_sem, X_region, *] | simp (disch := omega) only [om, *] | ((first | refine XC_split ?_ ?_ | refine XG_true ?_ ?_ | refine XG_false ?_ ?_ | refine XRg_true ?_ ?_ | refine XRg_false ?_ ?_) <;> intro hc <;> (try simp only [bl] at hc) <;> (try (exfalso; omega))) | refine XD_w [] [] [] (fun _ => none) mixed (by decide +kernel) (sub_none _) ?_ | fail))
    refine clone_call (x := x) hxk rfl rfl rfl (by simp) (by simp) (by simp) (by simp) fun ob r1 g1 p1 p2 p3 f0 f2 f3 f4 hs hr => ?_
    have e5 : g1 b5 = some ob := hs b5 _ (upd_same _ _ _)
    obtain ⟨H0, oH, sH, kH⟩ := own_hole own
    have h05 : H0 b5 = none := sub_none_of oH.1 hb5
    have o5 := own_grow (own_with (oc := ob) oH hb5) hs
    have oM := hr.up (own_with (oc := ob) oH hb5).1
    have hcM := hr.cells
    (repeat' (first | simp [go_sem, X_region, *] | simp (disch := omega) only [om, *] | ((first | refine XC_split ?_ ?_ | refine XG_true ?_ ?_ | refine XG_false ?_ ?_ | refine XRg_true ?_ ?_ | refine XRg_false ?_ ?_) <;> intro hc <;> (try simp only [bl] at hc) <;> (try (exfalso; omega))) | refine XD_w [] [] [] (fun _ => none) mixed (by decide +kernel) (sub_none _) ?_ | fail))
    intro bl hl1 hl2 hbl
    have w5 := own_other (o2 := ⟨65, 5, 1, fun i' j' => if i' = 0 ∧ 1 ≤ j' ∧ j' < 2 then r1 else ob.f i' j'⟩) o5 (upd_same _ _ _)
    have wM := oM.other (o2 := ⟨65, 5, 1, fun i' j' => if i' = 0 ∧ 1 ≤ j' ∧ j' < 2 then r1 else ob.f i' j'⟩) (upd_same _ _ _)
    rw [upd_upd] at w5 wM
    refine X_pushK (x := x) w5 wM (by simp [go_sem]) und47 zr65 by65 (by simp [go_sem]) (by rw [upd_ne _ _ hl1]; exact hbl) (by simp [go_sem]) rfl (Nat.le_refl _) (by simp [f0]) (by simp) (by simp [f2]) (by simp [f3]) (by simp [f4]) (by omega) (by omega) (by omega) fun a1 h1 h2 w1 w2 w3 => ?_
    have y5 := own_up (sH.trans (Sub.upd h05 (Sub.refl _))) w3
    (repeat' (first | simp [go_sem, X_region, *] | simp (disch := omega) only [om, *] | ((first | refine XC_split ?_ ?_ | refine XG_true ?_ ?_ | refine XG_false ?_ ?_ | refine XRg_true ?_ ?_ | refine XRg_false ?_ ?_) <;> intro hc <;> (try simp only [bl] at hc) <;> (try (exfalso; omega))) | refine XD_w [] [] [] (fun _ => none) mixed (by decide +kernel) (sub_none _) ?_ | fail))
    exact ⟨_, Nat.lt_succ_self _, hJ _ _ _ h2 (w1 _ _) (by (repeat (refine fr_upd (by decide) ?_)); exact hfr) ⟨i + 1, r, acc ++ [x], rfl, by omega, hd2, by rw [← hacc]; simp, by simp [hal], by simp [go_sem], by simpa [go_sem] using y5⟩⟩
end Go.Proofs.YtmalhikcdideoaaGreatDoor

set_option linter.unusedVariables false
set_option linter.unusedSimpArgs false
namespace Go.Proofs.YtmalhikcdideoaaGreatDoor
open Go Sl
attribute [local irreducible] XRange LpQ XR XRo XRg XRQ putQ XFv XL XW2 wQ putW X XO XOp XH XHo XW SeqQ BlkQ XOQ XHQ NrmQ XC XM XG XHM XHG XD CallK
open Go.RowKit
def dc (Ks : Nat → AV) (l : List Nd) (i j : Nat) : AV := if j = 1 then Ks i else cellsL cNd l i j
def ApA (x y : AV) : Prop := ∀ c n m, x = .row c 1 0 n → y = .row c 1 0 m → False
theorem ApA.symm {x y : AV} (h : ApA x y) : ApA y x := fun c n m h1 h2 => h c m n h2 h1
theorem ApA.nil (y : AV) : ApA (.v (.slice none 0 0)) y := fun c n m h1 => by cases h1
/-- A slice of nodes, and the slices of their kids, all of the call's own, each apart. -/
structure Deep (B h : Hp) (a : AV) (l : List Nd) (Ks : Nat → AV) : Prop where
  nds : Own B h a 65 5 l.length (dc Ks l)
  rows : ∀ i, i < l.length → Own B h (Ks i) 3 1 (ndAt l i).kids.length (cellsL cI (ndAt l i).kids)
  apart : ∀ i j, i < l.length → j < l.length → i ≠ j → ApA (Ks i) (Ks j)
theorem Deep.none {h : Hp} {Ks : Nat → AV} : Deep h h (.v (.slice none 0 0)) [] Ks := ⟨Own.none, fun i hi => absurd hi (Nat.not_lt_zero _), fun i j hi => absurd hi (Nat.not_lt_zero _)⟩
theorem Deep.up {B0 B h : Hp} {a : AV} {l : List Nd} {Ks : Nat → AV} (o : Deep B h a l Ks) (hS : Sub B0 B) : Deep B0 h a l Ks := ⟨own_up hS o.nds, fun i hi => own_up hS (o.rows i hi), o.apart⟩
theorem Deep.grow {B h h1 : Hp} {a : AV} {l : List Nd} {Ks : Nat → AV} (o : Deep B h a l Ks) (hS : Sub h h1) : Deep B h1 a l Ks := ⟨own_grow o.nds hS, fun i hi => own_grow (o.rows i hi) hS, o.apart⟩
theorem Deep.with {B h : Hp} {a : AV} {l : List Nd} {Ks : Nat → AV} {c : Nat} {oc : Ob} (o : Deep B h a l Ks) (hc : h c = Option.none) : Deep (upd B c (some oc)) (upd h c (some oc)) a l Ks := ⟨own_with o.nds hc, fun i hi => own_with (o.rows i hi) hc, o.apart⟩
theorem Deep.other {B h : Hp} {a : AV} {l : List Nd} {Ks : Nat → AV} {b : Nat} {o1 o2 : Ob} (o : Deep B h a l Ks) (hb : B b = some o1) : Deep (upd B b (some o2)) (upd h b (some o2)) a l Ks := ⟨own_other o.nds hb, fun i hi => own_other (o.rows i hi) hb, o.apart⟩
/-- A row of the call's own is none of the base. -/
theorem own_none {B h : Hp} {a : AV} {e : TypeId} {s n c m s' : Nat} {f : Nat → Nat → AV} (o : Own B h a e s n f) (ha : a = .row c s' 0 m) : B c = Option.none := by
  rcases o.2 with ⟨_, h1 | h1⟩ | ⟨b, ob, h1, h2, _⟩
  · rw [ha] at h1; cases h1
  · rw [ha] at h1; cases h1
  · rw [ha] at h1; cases h1; exact h2
open Classical in
theorem Deep.hole {B h : Hp} {a : AV} {l : List Nd} {Ks : Nat → AV} (o : Deep B h a l Ks) : ∃ H : Hp, Deep H h a l Ks ∧ Sub B H ∧ ∀ d od, h d = some od → a ≠ .row d 5 0 l.length → (∀ i, i < l.length → ∀ n, Ks i ≠ .row d 1 0 n) → H d = some od := by
  have key : ∀ (e : TypeId) (s n : Nat) (x : AV) (f : Nat → Nat → AV), Own B h x e s n f → (∀ c, x = .row c s 0 n → (a = .row c 5 0 l.length ∨ ∃ i, i < l.length ∧ ∃ n, Ks i = .row c 1 0 n)) →
      Own (fun c => if (a = .row c 5 0 l.length ∨ ∃ i, i < l.length ∧ ∃ n, Ks i = .row c 1 0 n) then Option.none else h c) h x e s n f := fun e s n x f ox hx => by
    refine ⟨fun c oc hc => ?_, ?_⟩
    · simp only at hc
      split at hc
      · cases hc
      · exact hc
    · rcases ox.2 with h1 | ⟨gb, og, h1, h2, h3⟩
      · exact .inl h1
      · exact .inr ⟨gb, og, h1, by simp only [if_pos (hx gb h1)], h3⟩
  refine ⟨_, ⟨key _ _ _ _ _ o.nds fun c hc => .inl hc, fun i hi => key _ _ _ _ _ (o.rows i hi) fun c hc => .inr ⟨i, hi, _, hc⟩, o.apart⟩, fun c oc hc => ?_, fun d od hd h1 h2 => ?_⟩
  · have hn : ¬ (a = .row c 5 0 l.length ∨ ∃ i, i < l.length ∧ ∃ n, Ks i = .row c 1 0 n) := by
      rintro (h1 | ⟨i, hi, n, h1⟩)
      · have := own_none o.nds h1; rw [hc] at this; cases this
      · have := own_none (o.rows i hi) h1; rw [hc] at this; cases this
    simp only [if_neg hn]
    exact o.nds.1 c oc hc
  · have hn : ¬ (a = .row d 5 0 l.length ∨ ∃ i, i < l.length ∧ ∃ n, Ks i = .row d 1 0 n) := by
      rintro (h3 | ⟨i, hi, n, h3⟩)
      · exact h1 h3
      · exact h2 i hi n h3
    simp only [if_neg hn]
    exact hd
/-- Another slice is written: what is told of nodes is kept. -/
theorem Deep.keep {B h H h1 : Hp} {a k : AV} {l : List Nd} {Ks : Nat → AV} {n : Nat} {f : Nat → Nat → AV} (o : Deep B h a l Ks) (ok : Own H h k 3 1 n f) (hS : Sub B H) (hk : ∀ d od, h d = some od → k ≠ .row d 1 0 n → H d = some od) (h01 : Sub H h1) (ha : ∀ i, i < l.length → ApA k (Ks i)) : Deep B h1 a l Ks :=
  ⟨own_keep hS hk h01 o.nds (own_apartT ok o.nds (by decide)), fun i hi => own_keep hS hk h01 (o.rows i hi) fun c h2 h3 => ha i hi c _ _ h2 h3, o.apart⟩
section
variable {P : Program} {N : Nat} {T : Nat → AV} {K : (Nat → AV) → Hp → Prop} {d : Option Tmp} {X Y : Operand} {t e : TypeId} {t' : TypeId} {p : String} {af : Array Edge} {gd : Option (Nat × Bool)} {by_ : Nat} {z : List Value} {B g : Hp} {a0 k : AV} {acc : List Nd} {x : Nd} {Ks : Nat → AV}
/-- A node is appended whose kids are a slice of the call's own. -/
theorem Deep.push {b : Nat} {ob : Ob} (o : Deep B g a0 acc Ks) (oK : Own B g k 3 1 x.kids.length (cellsL cI x.kids)) (hap : ∀ i, i < acc.length → ApA k (Ks i)) (ha : ev T X = a0) (hu : P.underlying t = some (.slice 65)) (hz : zeroA P 65 = some (5, z)) (hb : bytesT P 65 = some by_) (hd : dOk N d = true)
    (hbk : g b = Option.none) (hy : ev T Y = .row b 5 0 1) (h1 : ob.s = 5) (h2 : 1 ≤ ob.n) (f0 : ob.f 0 0 = I x.op) (f1 : ob.f 0 1 = k) (f2 : ob.f 0 2 = I x.kd) (f3 : ob.f 0 3 = I x.n) (f4 : ob.f 0 4 = S x.nm) (hm : (acc.length + 1) * by_ ≤ 140737488355328) (hm' : acc.length + 1 ≤ 140737488355328)
    (hK : ∀ a h1, Deep B h1 a (acc ++ [x]) (fun i => if i < acc.length then Ks i else k) → (∀ d od, g d = some od → a0 ≠ .row d 5 0 acc.length → h1 d = some od) → K (putD T d a) h1) : XW P N ⟨d, .call ⟨.builtin .append, #[X, Y], #[t, t]⟩, t', p, af, gd⟩ T (upd g b (some ob)) K := by
  obtain ⟨H, oH, sH, kH⟩ := own_hole o.nds
  refine pushN oH ha hu hz hb hd hbk hy h1 h2 hm hm' fun a h1 ho hkp => hK a h1 ⟨?_, fun i hi => ?_, fun i j hi hj hij => ?_⟩ hkp
  · rw [List.length_append, List.length_singleton]
    have o1 := own_up sH ho
    refine ⟨o1.1, ?_⟩
    rcases o1.2 with q | ⟨gb, og, q1, q2, q3, q4, q5, q6, q7, q8⟩
    · exact .inl q
    · refine .inr ⟨gb, og, q1, q2, q3, q4, q5, q6, q7, fun i hi j hj => ?_⟩
      rw [q8 i hi j hj]
      by_cases hil : i < acc.length
      · simp only [hil, if_true, dc]
        by_cases hj1 : j = 1
        · simp [hj1]
        · simp [hj1, cellsL, List.getElem?_append_left hil]
      · obtain rfl : i = acc.length := by omega
        simp only [Nat.lt_irrefl, if_false, Nat.sub_self, dc]
        rcases (show j = 0 ∨ j = 1 ∨ j = 2 ∨ j = 3 ∨ j = 4 by omega) with rfl | rfl | rfl | rfl | rfl
        · simp [f0, cellsL, cNd]
        · simp [f1]
        · simp [f2, cellsL, cNd]
        · simp [f3, cellsL, cNd]
        · simp [f4, cellsL, cNd]
  · rw [List.length_append, List.length_singleton] at hi
    by_cases hil : i < acc.length
    · have e1 : ndAt (acc ++ [x]) i = ndAt acc i := by simp [ndAt, List.getElem?_append_left hil]
      simp only [hil, if_true, e1]
      exact own_keep sH kH ho.1 (o.rows i hil) (own_apartT o.nds (o.rows i hil) (by decide))
    · obtain rfl : i = acc.length := by omega
      have e1 : ndAt (acc ++ [x]) acc.length = x := by simp [ndAt]
      simp only [Nat.lt_irrefl, if_false, e1]
      exact own_keep sH kH ho.1 oK (own_apartT o.nds oK (by decide))
  · rw [List.length_append, List.length_singleton] at hi hj
    by_cases hil : i < acc.length
    · by_cases hjl : j < acc.length
      · simp only [hil, hjl, if_true]; exact o.apart i j hil hjl hij
      · simp only [hil, hjl, if_true, if_false]; exact (hap i hil).symm
    · by_cases hjl : j < acc.length
      · simp only [hil, hjl, if_true, if_false]; exact hap j hjl
      · omega
end
theorem Deep.frozen {B h : Hp} {a : AV} {l : List Nd} {Ks : Nat → AV} (o : Deep B h a l Ks) (h1 : l.length ≤ 140737488355328) (h2 : ∀ i, i < l.length → (ndAt l i).kids.length ≤ 140737488355328) : Wk h a B (encL 5 cNd l) := by
  obtain ⟨H, oH, sH, kH⟩ := own_hole o.nds
  refine (oH.frozen h1).trans (Wk.slMap sH fun i hi j hj => ?_)
  have hc : ∀ j, cellsL cNd l i j = (cNd (ndAt l i)).getD j .any := fun j => by simp [cellsL, ndAt, List.getElem?_eq_getElem hi]
  change Wk H (dc Ks l i j) B (cellsL cNd l i j)
  by_cases hj1 : j = 1
  · subst hj1
    rw [hc]
    simp only [dc, if_true]
    exact (own_keep sH kH (Sub.refl _) (o.rows i hi) (own_apartT o.nds (o.rows i hi) (by decide))).frozen (h2 i hi)
  · simp only [dc, hj1, if_false]
    rw [hc]
    rcases (show j = 0 ∨ j = 2 ∨ j = 3 ∨ j = 4 by omega) with rfl | rfl | rfl | rfl
    all_goals exact Wk.drop _ sH
end Go.Proofs.YtmalhikcdideoaaGreatDoor

set_option linter.unusedVariables false
set_option linter.unusedSimpArgs false
namespace Go.Proofs.YtmalhikcdideoaaGreatDoor
open Go Sl
attribute [local irreducible] XRange LpQ XR XRo XRg XRQ putQ XFv XL XW2 wQ putW X XO XOp XH XHo XW SeqQ BlkQ XOQ XHQ NrmQ XC XM XG XHM XHG XD CallK
open Go.RowKit
theorem d_ptr : Tryz.prog.underlying 106 = some (.pointer 109) := by kernel_rfl
theorem d_uns : Tryz.prog.underlying 240 = some .unsafePointer := by kernel_rfl
theorem lies_self {P : Program} {e : TypeId} {s d count : Nat} (hc : P.cellsOf e = s) (hs : 0 < s) (hf : sameLayout P P.depth e e = true) (hd : P.depth = d + 1) (hn : 1 ≤ count) : liesAt P P.depth e count 0 e 1 = true := by
  have h1 : rowAt P (sameLayout P P.depth · e) P.depth e count 0 1 = true := by
    rw [show rowAt P (sameLayout P P.depth · e) P.depth = rowAt P (sameLayout P P.depth · e) (d + 1) by rw [hd]]
    unfold rowAt
    have hs0 : s ≠ 0 := by omega
    simp [hc, hs0, hf, hn]
  have h2 : liesAt P P.depth e count 0 e 1 = liesAt P (d + 1) e count 0 e 1 := by rw [hd]
  rw [h2]
  unfold liesAt
  rw [h1]
  rfl
set_option maxHeartbeats 1000000 in
set_option maxRecDepth 100000 in
theorem check_fresh (b n : Nat) (w : World) (h0 : w.cell? ⟨b, 0, none⟩ = some (.pointer none)) (hsh : w.shape? b = some (109, n)) (hn : 2 ≤ n) (hfz : w.frozen? ⟨b, 0, none⟩ = false) :
    Calls Tryz.prog 135 #[.pointer (some ⟨b, 0, none⟩)] w fun e w' => e = .returned (.tuple #[]) ∧ w' = w.setCell ⟨b, 0, none⟩ (.pointer (some ⟨b, 0, none⟩)) := by
  go_enter Tryz.func135, Tryz.ntmps135
  obtain ⟨j, hj, hjs⟩ : ∃ j, Tryz.prog.info? 109 = some j ∧ j.size = 2 := Option.map_eq_some_iff.1 (by kernel_rfl : (Tryz.prog.info? 109).map (·.size) = some 2)
  go_wp2
  rw [Lib.run_to_unsafe w ⟨b, 0, none⟩ d_ptr d_uns hj (by rw [hjs]; decide) hsh (show 0 < n by omega)]
  simp only [Result.andThen]
  rw [Oper.upon_value]
  go_wp2
  rw [run_callFunc_extern Tryz.func207 (by kernel_rfl) (by kernel_rfl) (by kernel_rfl) (e := Extern.AbiNoEscape.same) (by kernel_rfl)]
  rw [Lib.run_noEscape]
  simp only [Result.andThen]
  rw [Oper.upon_value]
  go_wp2
  rw [Lib.run_from_unsafe w ⟨b, 0, none⟩ d_uns d_ptr hj hsh (lies_self (s := 2) (by kernel_rfl) (by decide) (by kernel_rfl) (d := Tryz.prog.depth - 1) (by kernel_rfl) (show 1 ≤ n / Tryz.prog.cellsOf 109 by rw [(by kernel_rfl : Tryz.prog.cellsOf 109 = 2)]; omega))]
  simp only [Result.andThen]
  rw [Oper.upon_value]
  go_wp2
  go_end0
  exact ⟨rfl, rfl⟩
set_option maxHeartbeats 1000000 in
set_option maxRecDepth 100000 in
theorem check_used (b : Nat) (w : World) (h0 : w.cell? ⟨b, 0, none⟩ = some (.pointer (some ⟨b, 0, none⟩))) :
    Calls Tryz.prog 135 #[.pointer (some ⟨b, 0, none⟩)] w fun e w' => e = .returned (.tuple #[]) ∧ w' = w := by
  go_enter Tryz.func135, Tryz.ntmps135
  obtain ⟨j, hj, hjs⟩ : ∃ j, Tryz.prog.info? 109 = some j ∧ j.size = 2 := Option.map_eq_some_iff.1 (by kernel_rfl : (Tryz.prog.info? 109).map (·.size) = some 2)
  go_wp2
  rw [Lib.run_neq_ptr_same w _ d_ptr hj]
  go_wp2
  go_end0
  exact ⟨rfl, rfl⟩
set_option maxHeartbeats 2000000 in
set_option maxRecDepth 100000 in
theorem string_run (b g cap : Nat) (l : List UInt8) (cells : Nat) (w : World) (hl0 : l ≠ []) (hcap : l.length ≤ cap) (h63 : l.length ≤ 9223372036854775807) (c0 : w.cell? ⟨b, 1, none⟩ = some (.slice (some ⟨g, 0, none⟩) l.length cap))
    (hsh : w.shape? g = some (5, cells)) (hn : l.length ≤ cells) (hcell : ∀ j x, l[j]? = some x → w.cell? ((⟨g, 0, none⟩ : Addr).add j) = some (.int .u8 x.toNat)) :
    Calls Tryz.prog 66 #[.pointer (some ⟨b, 0, none⟩)] w fun e w' => e = .returned (.string ⟨l.toArray⟩) ∧ w' = w.drew.freeze ⟨g, 0, none⟩ l.length := by
  have hl : l.length ≠ 0 := by simpa using hl0
  have c1 : w.drew.cell? ⟨b, 1, none⟩ = some (.slice (some ⟨g, 0, none⟩) l.length cap) := c0
  have hSD : (Builtin.unsafeSliceData_ #[107] 184 #[.slice (some ⟨g, 0, none⟩) l.length cap]).run Tryz.prog w.drew = .ok (.pointer (some ⟨g, 0, none⟩)) w.drew :=
    Lib.run_unsafeSliceData_row _ _ _ _ _ _ (by omega)
  have hUS : (Builtin.unsafeString_ #[184, 3] 9 #[.pointer (some ⟨g, 0, none⟩), .int .i64 l.length]).run Tryz.prog w.drew = .ok (.string ⟨l.toArray⟩) (w.drew.freeze ⟨g, 0, none⟩ l.length) :=
    Lib.run_unsafeString_row w.drew 184 3 9 5 (by kernel_rfl) (by kernel_rfl) g cells hsh l hl0 hn h63 hcell
  have mixed := mixed
  go_enter Tryz.func66, Tryz.ntmps66
  go_wp2
  go_region_o
  all_goals (go_wp2; go_ret; exact ⟨rfl, rfl⟩)
set_option maxHeartbeats 2000000 in
set_option maxRecDepth 100000 in
theorem string_nil (b : Nat) (w : World) (c0 : w.cell? ⟨b, 1, none⟩ = some (.slice none 0 0)) :
    Calls Tryz.prog 66 #[.pointer (some ⟨b, 0, none⟩)] w fun e w' => e = .returned (.string ⟨#[]⟩) ∧ w' = w.drew := by
  have c1 : w.drew.cell? ⟨b, 1, none⟩ = some (.slice none 0 0) := c0
  have hSD : (Builtin.unsafeSliceData_ #[107] 184 #[.slice none 0 0]).run Tryz.prog w.drew = .ok (.pointer none) w.drew := rfl
  have hUS : (Builtin.unsafeString_ #[184, 3] 9 #[.pointer none, .int .i64 0]).run Tryz.prog w.drew = .ok (.string ⟨#[]⟩) w.drew := Lib.run_unsafeString_none w.drew _ _ _ none
  have mixed := mixed
  go_enter Tryz.func66, Tryz.ntmps66
  go_wp2
  go_region_o
  all_goals (go_wp2; go_ret; exact ⟨rfl, rfl⟩)
end Go.Proofs.YtmalhikcdideoaaGreatDoor

set_option linter.unusedVariables false
set_option linter.unusedSimpArgs false
namespace Go.Proofs.YtmalhikcdideoaaGreatDoor
open Go Sl
attribute [local irreducible] XRange LpQ XR XRo XRg XRQ putQ XFv XL XW2 wQ putW X XO XOp XH XHo XW SeqQ BlkQ XOQ XHQ NrmQ XC XM XG XHM XHG XD CallK
open Go.RowKit
abbrev ptrV (b : Nat) : AV := .v (.pointer (some ⟨b, 0, none⟩))
@[go_sem] def cB (c : UInt8) : List AV := [U8 c]
/-- A builder of the call's own, above the heap h0: what was written. -/
structure BldO (b : Nat) (o : Ob) : Prop where
  ty : o.ty = 109
  s : o.s = 2
  n : o.n = 1
  f : o.f 0 0 = .v (.pointer none) ∨ o.f 0 0 = ptrV b
def Bld (h0 h : Hp) (b : Nat) (l : List UInt8) : Prop := h0 b = none ∧ ∃ o, BldO b o ∧ (l = [] → o.f 0 1 = .v (.slice none 0 0)) ∧ Own (upd h0 b (some o)) h (o.f 0 1) 5 1 l.length (cellsL cB l)
theorem Bld.fresh {h : Hp} {b : Nat} (hb : h b = none) : Bld h (upd h b (some ⟨109, 2, 1, fun _ j => .v (([.pointer none, .slice none 0 0] : List Value).getD j undef)⟩)) b [] :=
  ⟨hb, _, ⟨rfl, rfl, rfl, .inl rfl⟩, fun _ => rfl, Own.none⟩
theorem Bld.sub {h0 h : Hp} {b : Nat} {l : List UInt8} (x : Bld h0 h b l) : Sub h0 h := by
  obtain ⟨hb, o, _, _, hown⟩ := x
  exact fun c oc hc => hown.1 c oc (by rw [upd_ne _ _ (ne_free hb hc).2]; exact hc)
theorem upd_id {h : Hp} {b : Nat} {o : Ob} (hb : h b = some o) : upd h b (some o) = h := by
  funext c
  by_cases hc : c = b
  · subst hc; rw [upd_same, hb]
  · rw [upd_ne _ _ hc]
def setP (b : Nat) (o : Ob) : Ob := ⟨o.ty, 2, 1, fun i j => if i = 0 ∧ j = 0 then ptrV b else o.f i j⟩
theorem check_ok {h : Hp} {b : Nat} {o : Ob} (hb : h b = some o) (ho : BldO b o) : CallK Tryz.prog h 135 [ptrV b] fun r h' => ∃ o', h' = upd h b (some o') ∧ BldO b o' ∧ o'.f 0 1 = o.f 0 1 := by
  unfold CallK
  intro w vals hh ha
  obtain rfl : vals = #[.pointer (some ⟨b, 0, none⟩)] := by
    obtain ⟨u, e, r⟩ := ha.2 0 _ rfl
    cases r
    have h1 := ha.1
    apply Array.ext
    · simpa using h1
    · intro i h2 h3
      match i, h3 with
      | 0, _ => rw [Array.getElem?_eq_getElem h2] at e; simpa using e
  obtain ⟨c, hc, hsz, _, hcell⟩ := hh.cells hb (.inl (by rw [ho.n]; omega))
  rw [ho.n, ho.s] at hsz
  obtain ⟨x0, hx0, _, hr0⟩ := hcell 0 (by rw [ho.n]; omega) 0 (by rw [ho.s]; omega)
  have hx0' : c[0]? = some x0 := by simpa using hx0
  rw [ho.ty] at hc
  have hcl : w.cell? ⟨b, 0, none⟩ = some x0 := by simp only [World.cell?, hc]; exact hx0'
  rcases ho.f with hf | hf
  · rw [hf] at hr0
    cases hr0
    refine (check_fresh b c.size w hcl (by simp [World.shape?, hc]) (by omega) (by simp [World.frozen?, hc])).mono ?_
    rintro e w' ⟨rfl, rfl⟩
    have hs : (w.setCell ⟨b, 0, none⟩ (.pointer (some ⟨b, 0, none⟩))).heap[b]? = some (.cells (c.setIfInBounds 0 (.pointer (some ⟨b, 0, none⟩))) o.ty (0, 0)) := by
      rw [ho.ty]
      simp [World.setCell, Array.getElem?_modify, hc]
    have hoth : ∀ k, k ≠ b → k < w.heap.size → (w.setCell ⟨b, 0, none⟩ (.pointer (some ⟨b, 0, none⟩))).heap[k]? = w.heap[k]? := fun k hk _ => by
      simp [World.setCell, Array.getElem?_modify, Ne.symm hk]
    have hsize : w.heap.size ≤ (w.setCell ⟨b, 0, none⟩ (.pointer (some ⟨b, 0, none⟩))).heap.size := by simp [World.setCell]
    have hc2 : w.heap[b]? = some (.cells c o.ty (0, 0)) := by rw [ho.ty]; exact hc
    have hrel := relH_set (o' := setP b o) hh hb hc2 hs (by simp) hoth hsize rfl (by simpa [setP] using hsz) (by show 0 < 2; decide) fun i hi j hj => by
      have hi : i < 1 := hi
      obtain rfl : i = 0 := by omega
      have hj : j < 2 := hj
      rcases (show j = 0 ∨ j = 1 by omega) with rfl | rfl
      · exact ⟨.pointer (some ⟨b, 0, none⟩), by simp [setP, show 0 < c.size by omega], rfl, rfl⟩
      · obtain ⟨x1, hx1, h1, hr1⟩ := hcell 0 (by rw [ho.n]; omega) 1 (by rw [ho.s]; omega)
        exact ⟨x1, by simpa [setP] using hx1, h1, by simpa [setP] using hr1⟩
    have hst := stp_set (o' := setP b o) hb hc2 hs (by simp) hoth hsize rfl
    exact ⟨_, .tup 0 fun _ => .any, upd h b (some (setP b o)), rfl, ⟨setP b o, rfl, ⟨ho.ty, rfl, rfl, .inr rfl⟩, rfl⟩, ⟨#[], rfl, rfl, fun j hj => absurd hj (by omega)⟩, hrel, ⟨rfl, rfl, rfl⟩, hst⟩
  · rw [hf] at hr0
    cases hr0
    refine (check_used b w hcl).mono ?_
    rintro e w' ⟨rfl, rfl⟩
    exact ⟨_, .tup 0 fun _ => .any, h, rfl, ⟨o, (upd_id hb).symm, ho, rfl⟩, ⟨#[], rfl, rfl, fun j hj => absurd hj (by omega)⟩, hh, Io.refl _, Stp.refl _ _⟩
/-- What is read of a builder; nothing of what was made since h0 is the call's own any more. -/
theorem string_ok {h0 h : Hp} {b : Nat} {l : List UInt8} (x : Bld h0 h b l) (hl : l.length ≤ 140737488355328) : CallK Tryz.prog h 66 [ptrV b] fun r h' => r = S (bOf l) ∧ h' = h0 := by
  have hsub := x.sub
  obtain ⟨hb0, o, ho, hnil, hown⟩ := x
  have hb := hown.1 b o (upd_same _ _ _)
  unfold CallK
  intro w vals hh ha
  obtain rfl : vals = #[.pointer (some ⟨b, 0, none⟩)] := by
    obtain ⟨u, e, r⟩ := ha.2 0 _ rfl
    cases r
    have h1 := ha.1
    apply Array.ext
    · simpa using h1
    · intro i h2 h3
      match i, h3 with
      | 0, _ => rw [Array.getElem?_eq_getElem h2] at e; simpa using e
  obtain ⟨c, hc, hsz, _, hcell⟩ := hh.cells hb (.inl (by rw [ho.n]; omega))
  rw [ho.n, ho.s] at hsz
  obtain ⟨x1, hx1, _, hr1⟩ := hcell 0 (by rw [ho.n]; omega) 1 (by rw [ho.s]; omega)
  have hx1' : c[1]? = some x1 := by simpa [ho.s] using hx1
  have hcl : w.cell? ⟨b, 1, none⟩ = some x1 := by simp only [World.cell?, hc]; exact hx1'
  rcases l with _ | ⟨c0, l⟩
  · rw [hnil rfl] at hr1
    cases hr1
    refine (string_nil b w hcl).mono ?_
    rintro e w' ⟨rfl, rfl⟩
    exact ⟨_, _, h0, rfl, ⟨rfl, rfl⟩, rfl, (relH_forget hh hsub).grow (Nat.le_refl _) (fun _ _ => rfl), ⟨rfl, rfl, rfl⟩, (stp_forget hsub).trans (Stp.grow (relH_forget hh hsub) (Nat.le_refl _) fun _ _ => rfl)⟩
  · rcases hown with ⟨_, ⟨hz, _⟩ | ⟨g, og, hrow, hg0, hg, s1, s2, s3, hpos, hf⟩⟩
    · cases hz
    rw [hrow] at hr1
    obtain ⟨cap, rfl, hcap, hlt, _, hsize⟩ := hr1
    obtain ⟨cg, hcg, hgsz, _, hgc⟩ := hh.cells hg (.inl (by omega))
    rw [s1, s3, Nat.mul_one] at hgsz
    rw [s2] at hcg
    have hw0 : ((0 : Nat) * 1) = 0 := rfl
    rw [hw0] at hcl
    refine (string_run b g cap (c0 :: l) cg.size w (by simp) hcap (by omega) hcl (by simp [World.shape?, hcg]) hgsz (fun j y hy => ?_)).mono ?_
    · have hj : j < (c0 :: l).length := (List.getElem?_eq_some_iff.1 hy).1
      obtain ⟨z, hz, _, hrz⟩ := hgc j (by omega) 0 (by omega)
      rw [hf j hj 0 (by omega), cellsL_at hy] at hrz
      cases hrz
      rw [s1] at hz
      have : ((⟨g, 0, none⟩ : Addr).add j) = ⟨g, j, none⟩ := by
        unfold Addr.add
        by_cases hj0 : j = 0 <;> simp [hj0]
      rw [this]
      simp only [World.cell?, hcg]
      simpa using hz
    · rintro e w' ⟨rfl, rfl⟩
      have hoth : ∀ k, k ≠ g → (w.drew.freeze ⟨g, 0, none⟩ (c0 :: l).length).heap[k]? = w.heap[k]? := fun k hk => by
        unfold World.freeze
        split
        · rfl
        · have e : w.drew.heap = w.heap := rfl
          simp [Array.getElem?_modify, Ne.symm hk, e]
      have hsz2 : w.heap.size ≤ (w.drew.freeze ⟨g, 0, none⟩ (c0 :: l).length).heap.size := by
        unfold World.freeze
        split
        · exact Nat.le_refl _
        · have e : w.drew.heap = w.heap := rfl
          simp [e]
      have h0g : h0 g = none := by
        rw [← hg0, upd_ne _ _ (fun e => by rw [e, upd_same] at hg0; cases hg0)]
      have st : Stp w h (w.drew.freeze ⟨g, 0, none⟩ (c0 :: l).length) h0 := by
        refine ⟨hsz2, fun k _ hk => hoth k (fun e => by rw [e, hg] at hk; cases hk), fun k _ hk => sub_none_of hsub hk, fun k o' _ hk => ?_⟩
        have hkg : k ≠ g := fun e => by rw [e, h0g] at hk; cases hk
        exact ⟨o', hsub k o' hk, rfl, fun c fr hcc => ⟨c, fr, (hoth k hkg).trans hcc, rfl⟩⟩
      have hrel : RelH (w.drew.freeze ⟨g, 0, none⟩ (c0 :: l).length) h0 := by
        refine ⟨fun k o' hk => ?_, hh.glob.step st⟩
        have hkg : k ≠ g := fun e => by rw [e, h0g] at hk; cases hk
        exact (hh.own k o' (hsub k o' hk)).step st (hoth k hkg)
      refine ⟨_, _, h0, rfl, ⟨rfl, rfl⟩, rfl, hrel, ?_, st⟩
      unfold World.freeze
      split
      · exact ⟨rfl, rfl, rfl⟩
      · exact ⟨rfl, rfl, rfl⟩
end Go.Proofs.YtmalhikcdideoaaGreatDoor

set_option linter.unusedVariables false
set_option linter.unusedSimpArgs false
namespace Go.Proofs.YtmalhikcdideoaaGreatDoor
open Go Sl
attribute [local irreducible] XRange LpQ XR XRo XRg XRQ putQ XFv XL XW2 wQ putW X XO XOp XH XHo XW SeqQ BlkQ XOQ XHQ NrmQ XC XM XG XHM XHG XD CallK
theorem Own.congr {h0 h : Hp} {a : AV} {e : TypeId} {s n : Nat} {f g : Nat → Nat → AV} (o : Own h0 h a e s n f) (hfg : ∀ i, i < n → ∀ j, j < s → f i j = g i j) : Own h0 h a e s n g := by
  obtain ⟨hs, ho⟩ := o
  refine ⟨hs, ho.imp id ?_⟩
  rintro ⟨b, o, h1, h2, h3, h4, h5, h6, h7, h8⟩
  exact ⟨b, o, h1, h2, h3, h4, h5, h6, h7, fun i hi j hj => (h8 i hi j hj).trans (hfg i hi j hj)⟩
/-- An append of a text, whatever block it gives. -/
theorem Own.appendStr {P : Program} {N : Nat} {T : Nat → AV} {h0 h : Hp} {K : (Nat → AV) → Hp → Prop} {d : Option Tmp} {x y : Operand} {t u e : TypeId} {t' : TypeId} {p : String} {af : Array Edge} {g : Option (Nat × Bool)} {n by_ : Nat} {z : List Value} {f : Nat → Nat → AV} {s : ByteArray} {a : AV}
    (o : Own h0 h a e 1 n f) (ha : ev T x = a) (hne : a ≠ .e0) (hu : P.underlying t = some (.slice e)) (hu' : P.underlying u = some .string) (hz : zeroA P e = some (1, z)) (hb : bytesT P e = some by_) (hd : dOk N d = true) (hs : ev T y = .v (.string s)) (hm : (n + s.size) * by_ ≤ 140737488355328) (hm' : n + s.size ≤ 140737488355328)
    (hk : ∀ a' h', Own h0 h' a' e 1 (n + s.size) (fun i j => if i < n then f i j else bytesF s (i - n) j) → (∀ c oc, h c = some oc → a ≠ .row c 1 0 n → h' c = some oc) → K (putD T d a') h') : XW P N ⟨d, .call ⟨.builtin .append, #[x, y], #[t, u]⟩, t', p, af, g⟩ T h K := by
  have hsub := o.1
  unfold XW
  refine ⟨hd, .inr ⟨e, z, by_, s, hu, hu', hz, hb, hs, ?_⟩⟩
  rcases o with ⟨_, ⟨hn, ha' | ha'⟩ | ⟨b, ob, ha', hb0, h1, h2, h4, h5, hpos, h6⟩⟩
  · subst hn
    refine .inl ⟨ha.trans ha', by simpa using hm, by omega, fun h => hk _ _ ⟨hsub, .inl ⟨by omega, .inl rfl⟩⟩ (fun c oc hc _ => hc), fun hpos b hbn => hk _ _ ⟨Sub.upd ?_ hsub, .inr ⟨b, _, by simp, ?_, upd_same _ _ _, rfl, rfl, by simp, by omega, fun i hi j hj => by simp [bytesF]⟩⟩ (fun c oc hc _ => by rw [upd_ne _ _ (fun e => by subst e; rw [hc] at hbn; cases hbn)]; exact hc)⟩
    · exact sub_none_of hsub hbn
    · exact sub_none_of hsub hbn
  · exact absurd ha' hne
  · refine .inr ⟨b, n, ob, ha.trans ha', h1, h2, h4, h5, hm, hm', fun b' hb' => hk _ _ ⟨?_, .inr ⟨b', _, rfl, ?_, upd_same _ _ _, rfl, rfl, rfl, by omega, fun i hi j hj => ?_⟩⟩ (fun c oc hc hne => ?_)⟩
    · have hb'0 : h0 b' = Option.none := by
        rcases hb' with rfl | hb'
        · exact hb0
        · exact sub_none_of hsub hb'
      exact Sub.upd hb'0 (Sub.upd hb0 hsub)
    · rcases hb' with rfl | hb'
      · exact hb0
      · exact sub_none_of hsub hb'
    · show (if i < n then ob.f i j else bytesF s (i - n) j) = (if i < n then f i j else bytesF s (i - n) j)
      split
      · rw [h6 i (by omega) j hj]
      · rfl
    · have hcb : c ≠ b := fun e => hne (by rw [ha', e])
      have hcb' : c ≠ b' := by
        rcases hb' with rfl | hb'
        · exact hcb
        · intro e; subst e; rw [hc] at hb'; cases hb'
      rw [upd_ne _ _ hcb', upd_ne _ _ hcb]; exact hc
theorem write_ok {h0 h : Hp} {b : Nat} {l : List UInt8} (x : Bld h0 h b l) (s : ByteArray) (hne : l ≠ [] ∨ s.data.toList ≠ []) (hlen : l.length + s.size ≤ 140737488355328) :
    CallK Tryz.prog h 62 [ptrV b, S s] fun r h' => Bld h0 h' b (l ++ s.data.toList) := by
  obtain ⟨hb0, o, ho, hnil, hown⟩ := x
  have hb := hown.1 b o (upd_same _ _ _)
  refine callK_body Tryz.func62 rfl (by rw [nt62]; simp) ?_; rw [nt62, rs62]
  (repeat' (first | simp [go_sem, X_region, *] | simp (disch := omega) only [om, *] | ((first | refine XC_split ?_ ?_ | refine XG_true ?_ ?_ | refine XG_false ?_ ?_ | refine XRg_true ?_ ?_ | refine XRg_false ?_ ?_) <;> intro hc <;> (try simp only [bl] at hc) <;> (try (exfalso; omega))) | refine XD_w [] [] [] (fun _ => none) mixed (by decide +kernel) (sub_none _) ?_ | fail))
  refine CallK.mono (check_ok hb ho) ?_
  rintro r1 h1 ⟨o1, rfl, ho1, hf1⟩
  have own1 : Own (upd h0 b (some o1)) (upd h b (some o1)) (o1.f 0 1) 5 1 l.length (cellsL cB l) := by
    rw [hf1]
    have := hown.other (o2 := o1) (upd_same _ _ _) fun c hc e => by
      rcases hown with ⟨_, ⟨_, h2 | h2⟩ | ⟨g, og, h2, h3, _⟩⟩
      · rw [hc] at h2; cases h2
      · rw [hc] at h2; cases h2
      · rw [hc] at h2
        cases h2
        subst e
        rw [upd_same] at h3
        cases h3
    rwa [upd_upd] at this
  have hne0 : o1.f 0 1 ≠ .e0 := by
    rw [hf1]
    intro e
    by_cases hl : l = []
    · rw [hnil hl] at e; cases e
    · rcases hown with ⟨_, ⟨h1, _⟩ | ⟨g, og, h2, _⟩⟩
      · exact hl (List.length_eq_zero_iff.1 h1)
      · rw [h2] at e; cases e
  clear hown hf1
  generalize hh1 : upd h b (some o1) = h1 at *
  have hb1 : h1 b = some o1 := by rw [← hh1, upd_same]
  clear hh1
  have e1 := ho1.s
  have e2 := ho1.n
  obtain ⟨a, ha⟩ : ∃ a, o1.f 0 1 = a := ⟨_, rfl⟩
  rw [ha] at own1 hne0
  (repeat' (first | simp [go_sem, X_region, *] | simp (disch := omega) only [om, *] | ((first | refine XC_split ?_ ?_ | refine XG_true ?_ ?_ | refine XG_false ?_ ?_ | refine XRg_true ?_ ?_ | refine XRg_false ?_ ?_) <;> intro hc <;> (try simp only [bl] at hc) <;> (try (exfalso; omega))) | refine XD_w [] [] [] (fun _ => none) mixed (by decide +kernel) (sub_none _) ?_ | fail))
  refine Own.appendStr own1 (by simp [go_sem]) hne0 und107 und9 zr5 by5 (by simp [go_sem]) (s := s) (by simp [go_sem]) (by omega) (by omega) ?_
  rintro a' h2 own2 hk2
  have hb2 : h2 b = some o1 := own2.1 b o1 (upd_same _ _ _)
  have hpos : 0 < l.length + s.size := by
    rcases hne with h | h
    · have := List.length_pos_iff.2 h
      omega
    · have : 0 < s.data.toList.length := List.length_pos_iff.2 h
      have : s.size = s.data.toList.length := rfl
      omega
  have hgb : ∀ c, a' = .row c 1 0 (l.length + s.size) → c ≠ b := by
    rintro c hc rfl
    rcases own2 with ⟨_, ⟨h1, _⟩ | ⟨g, og, h1, h3, _⟩⟩
    · omega
    · rw [h1] at hc
      cases hc
      rw [upd_same] at h3
      cases h3
  obtain ⟨g, hg⟩ : ∃ g, a' = .row g 1 0 (l.length + s.size) := by
    rcases own2 with ⟨_, ⟨h1, _⟩ | ⟨g, og, h1, _⟩⟩
    · omega
    · exact ⟨g, h1⟩
  have hf0 := ho1.f
  subst hg
  (repeat' (first | simp [go_sem, X_region, *] | simp (disch := omega) only [om, *] | ((first | refine XC_split ?_ ?_ | refine XG_true ?_ ?_ | refine XG_false ?_ ?_ | refine XRg_true ?_ ?_ | refine XRg_false ?_ ?_) <;> intro hc <;> (try simp only [bl] at hc) <;> (try (exfalso; omega))) | refine XD_w [] [] [] (fun _ => none) mixed (by decide +kernel) (sub_none _) ?_ | fail))
  refine ⟨_, _, Wk.refl _ _, hb0, ⟨o1.ty, 2, 1, fun i' j' => if i' = 0 ∧ 1 ≤ j' ∧ j' < 2 then AV.row g 1 0 (l.length + s.size) else o1.f i' j'⟩, ⟨ho1.ty, rfl, rfl, ?_⟩, fun h => ?_, ?_⟩
  · simpa using hf0
  · rw [List.append_eq_nil_iff] at h
    rcases hne with h' | h'
    · exact absurd h.1 h'
    · exact absurd h.2 h'
  · have e1 := own2.other (o2 := ⟨o1.ty, 2, 1, fun i' j' => if i' = 0 ∧ 1 ≤ j' ∧ j' < 2 then AV.row g 1 0 (l.length + s.size) else o1.f i' j'⟩) (upd_same _ _ _) fun c hc => hgb c hc
    rw [upd_upd] at e1
    have e2 : (l ++ s.data.toList).length = l.length + s.size := by rw [List.length_append]; rfl
    rw [e2]
    refine Own.congr e1 fun i hi j hj => ?_
    obtain rfl : j = 0 := by omega
    by_cases hil : i < l.length
    · rw [if_pos hil, cellsL_at (x := l[i]) (by simp [hil]), cellsL_at (x := l[i]) (by rw [List.getElem?_append_left hil]; simp)]
    · have h3 : i - l.length < s.data.toList.length := by have : s.size = s.data.toList.length := rfl; omega
      rw [if_neg hil, cellsL_at (x := s.data.toList[i - l.length]) (by rw [List.getElem?_append_right (by omega)]; simp)]
      unfold bytesF
      rw [List.getD_eq_getElem?_getD, List.getElem?_eq_getElem h3]
      rfl
end Go.Proofs.YtmalhikcdideoaaGreatDoor

set_option linter.unusedVariables false
set_option linter.unusedSimpArgs false
namespace Go.Proofs.YtmalhikcdideoaaGreatDoor
open Go Sl
attribute [local irreducible] XRange LpQ XR XRo XRg XRQ putQ XFv XL XW2 wQ putW X XO XOp XH XHo XW SeqQ BlkQ XOQ XHQ NrmQ XC XM XG XHM XHG XD CallK
open Go.RowKit
/-- A slice of the call's own, or an empty one of which nothing else is known. -/
def OwnE (B h : Hp) (a : AV) (e : TypeId) (s n : Nat) (f : Nat → Nat → AV) : Prop := Own B h a e s n f ∨ (Sub B h ∧ n = 0 ∧ a = .sl s n f)
section
variable {B B0 H h h1 g : Hp} {a t : AV} {e e' : TypeId} {s n s' n' : Nat} {f f' : Nat → Nat → AV}
theorem nil_own (hS : Sub B h) : Own B h (.v (.slice none 0 0)) e s 0 f := ⟨hS, .inl ⟨rfl, .inl rfl⟩⟩
theorem OwnE.sub (o : OwnE B h a e s n f) : Sub B h := by
  rcases o with o | o
  · exact o.1
  · exact o.1
theorem OwnE.up (o : OwnE B h a e s n f) (hS : Sub B0 B) : OwnE B0 h a e s n f := by
  rcases o with o | ⟨o1, o2⟩
  · exact .inl (own_up hS o)
  · exact .inr ⟨hS.trans o1, o2⟩
theorem OwnE.grow (o : OwnE B h a e s n f) (hS : Sub h h1) : OwnE B h1 a e s n f := by
  rcases o with o | ⟨o1, o2⟩
  · exact .inl (own_grow o hS)
  · exact .inr ⟨o1.trans hS, o2⟩
theorem sub_with {c : Nat} {o1 : Option Ob} (S : Sub B h) : Sub (upd B c o1) (upd h c o1) := fun b o hb => by
  by_cases hbc : b = c
  · subst hbc; rw [upd_same] at hb ⊢; exact hb
  · rw [upd_ne _ _ hbc] at hb ⊢; exact S b o hb
theorem OwnE.with {c : Nat} {oc : Ob} (o : OwnE B h a e s n f) (hc : h c = none) : OwnE (upd B c (some oc)) (upd h c (some oc)) a e s n f := by
  rcases o with o | ⟨o1, o2⟩
  · exact .inl (own_with o hc)
  · exact .inr ⟨sub_with o1, o2⟩
theorem OwnE.other {c : Nat} {o1 o2 : Ob} (o : OwnE B h a e s n f) (hc : B c = some o1) : OwnE (upd B c (some o2)) (upd h c (some o2)) a e s n f := by
  rcases o with o | ⟨q1, q2⟩
  · exact .inl (own_other o hc)
  · exact .inr ⟨sub_with q1, q2⟩
theorem OwnE.keep (hS : Sub B H) (hk : ∀ d od, h d = some od → a ≠ .row d s 0 n → H d = some od) (h01 : Sub H h1) (o : OwnE B h t e' s' n' f') (hd : ∀ c, a = .row c s 0 n → t = .row c s' 0 n' → False) : OwnE B h1 t e' s' n' f' := by
  rcases o with o | ⟨o1, o2⟩
  · exact .inl (own_keep hS hk h01 o hd)
  · exact .inr ⟨hS.trans h01, o2⟩
theorem OwnE.frozen (o : OwnE B h a e s n f) (hn : n ≤ 140737488355328) : Wk h a B (.sl s n f) := by
  rcases o with o | ⟨o1, _, rfl⟩
  · exact Own.frozen o hn
  · exact Wk.drop _ o1
theorem OwnE.hole (o : OwnE B h a e s n f) : ∃ H : Hp, OwnE H h a e s n f ∧ Sub B H ∧ ∀ d od, h d = some od → a ≠ .row d s 0 n → H d = some od := by
  rcases o with o | ⟨o1, o2⟩
  · obtain ⟨H, h1, h2, h3⟩ := own_hole o
    exact ⟨H, .inl h1, h2, h3⟩
  · exact ⟨h, .inr ⟨Sub.refl _, o2⟩, o1, fun _ _ h _ => h⟩
theorem OwnE.old (o : OwnE B g a e s n f) (o' : OwnE g h1 t e' s' n' f') : ∀ c, a = .row c s 0 n → t = .row c s' 0 n' → False := fun c h2 h3 => by
  rcases o with o | ⟨_, _, h4⟩
  · rcases o' with o' | ⟨_, _, h5⟩
    · rcases o.2 with ⟨_, h4 | h4⟩ | ⟨b, ob, h4, _, h5, _⟩
      · rw [h2] at h4; cases h4
      · rw [h2] at h4; cases h4
      · rw [h2] at h4
        cases h4
        rcases o'.2 with ⟨_, h6 | h6⟩ | ⟨b', ob', h6, h7, _⟩
        · rw [h3] at h6; cases h6
        · rw [h3] at h6; cases h6
        · rw [h3] at h6
          cases h6
          rw [h5] at h7
          cases h7
    · rw [h3] at h5; cases h5
  · rw [h2] at h4; cases h4
theorem OwnE.apart {a1 : AV} {n1 : Nat} {f1 : Nat → Nat → AV} (hk : ∀ d od, h d = some od → a ≠ .row d s 0 n → H d = some od) (o1 : OwnE H h1 a1 e s n1 f1) (o : OwnE B h t e' s' n' f') (hd : ∀ c, a = .row c s 0 n → t = .row c s' 0 n' → False) : ∀ c, a1 = .row c s 0 n1 → t = .row c s' 0 n' → False := by
  rcases o1 with o1 | ⟨_, _, h4⟩
  · rcases o with o | ⟨_, _, h4⟩
    · exact own_apart hk o1 o hd
    · intro c _ h2; rw [h2] at h4; cases h4
  · intro c h2; rw [h2] at h4; cases h4
theorem OwnE.cells (o : OwnE B h a e s n f) : cellsA a = some (1, fun _ => a) := by
  rcases o with o | ⟨_, _, rfl⟩
  · exact own_cells o
  · rfl
theorem OwnE.row (o : OwnE B h a e s n f) (hn : 0 < n) : Own B h a e s n f := by
  rcases o with o | ⟨_, h1, _⟩
  · exact o
  · omega
theorem OwnE.congr (o : OwnE B h a e s n f) (hfg : ∀ i, i < n → ∀ j, j < s → f i j = f' i j) (h0 : n = 0 → f = f') : OwnE B h a e s n f' := by
  rcases o with o | ⟨o1, o2, rfl⟩
  · exact .inl (Own.congr o hfg)
  · rw [h0 o2]; exact .inr ⟨o1, o2, rfl⟩
end
/-- A slice of the call's own: value, elements' type, cells of an element, length, cells. -/
structure Mem where
  a : AV
  e : TypeId
  s : Nat
  n : Nat
  f : Nat → Nat → AV
def Mem.own (B h : Hp) (m : Mem) : Prop := OwnE B h m.a m.e m.s m.n m.f
def Mem.ap (x y : Mem) : Prop := ∀ c, x.a = .row c x.s 0 x.n → y.a = .row c y.s 0 y.n → False
theorem Mem.ap.symm {x y : Mem} (h : x.ap y) : y.ap x := fun c h1 h2 => h c h2 h1
def nilM : Mem := ⟨.v (.slice none 0 0), 0, 1, 0, fun _ _ => .any⟩
structure Fam {ι : Type} (B h : Hp) (m : ι → Mem) : Prop where
  sub : Sub B h
  own : ∀ i, (m i).own B h
  apart : ∀ i j, i ≠ j → (m i).ap (m j)
section
variable {ι κ : Type} {B B0 h h1 g : Hp} {m m1 : ι → Mem} {m2 : κ → Mem}
theorem Fam.nil (hS : Sub B h) : Fam B h (fun _ : ι => nilM) := ⟨hS, fun _ => .inl (nil_own hS), fun _ _ _ c h1 => by cases h1⟩
theorem Fam.up (F : Fam B h m) (hS : Sub B0 B) : Fam B0 h m := ⟨hS.trans F.sub, fun i => OwnE.up (F.own i) hS, F.apart⟩
theorem Fam.grow (F : Fam B h m) (hS : Sub h h1) : Fam B h1 m := ⟨F.sub.trans hS, fun i => OwnE.grow (F.own i) hS, F.apart⟩
theorem Fam.with {c : Nat} {oc : Ob} (F : Fam B h m) (hc : h c = none) : Fam (upd B c (some oc)) (upd h c (some oc)) m := ⟨sub_with F.sub, fun i => OwnE.with (F.own i) hc, F.apart⟩
theorem Fam.other {c : Nat} {o1 o2 : Ob} (F : Fam B h m) (hc : B c = some o1) : Fam (upd B c (some o2)) (upd h c (some o2)) m := ⟨sub_with F.sub, fun i => OwnE.other (F.own i) hc, F.apart⟩
/-- The heap without one member. -/
theorem Fam.hole (F : Fam B h m) (i : ι) : ∃ H, (m i).own H h ∧ Sub B H ∧ Sub H h ∧ (∀ j, j ≠ i → (m j).own B H) ∧ ∀ d od, h d = some od → (m i).a ≠ .row d (m i).s 0 (m i).n → H d = some od := by
  obtain ⟨H, oH, sH, kH⟩ := OwnE.hole (F.own i)
  exact ⟨H, oH, sH, oH.sub, fun j hj => OwnE.keep sH kH (Sub.refl _) (F.own j) fun c h1 h2 => F.apart i j (Ne.symm hj) c h1 h2, kH⟩
open Classical in
/-- One member is another one now. -/
theorem Fam.set {i : ι} {H : Hp} {x : Mem} (F : Fam B h m) (sH : Sub B H) (kH : ∀ d od, h d = some od → (m i).a ≠ .row d (m i).s 0 (m i).n → H d = some od) (o : x.own H h1) (hs : x.s = (m i).s) : Fam B h1 (fun j => if j = i then x else m j) := by
  have ha : ∀ j, j ≠ i → x.ap (m j) := fun j hj => by
    obtain ⟨a, e, s, n, f⟩ := x
    simp only at hs
    subst hs
    exact OwnE.apart kH o (F.own j) fun c h1 h2 => F.apart i j (Ne.symm hj) c h1 h2
  refine ⟨sH.trans o.sub, fun j => ?_, fun j k hjk => ?_⟩
  · by_cases hj : j = i
    · simp only [hj, if_true]; exact OwnE.up o sH
    · simp only [hj, if_false]
      exact OwnE.keep sH kH o.sub (F.own j) fun c h1 h2 => F.apart i j (Ne.symm hj) c h1 h2
  · by_cases hj : j = i
    · subst hj
      simp only [if_true, Ne.symm hjk, if_false]
      exact ha k (Ne.symm hjk)
    · by_cases hk : k = i
      · subst hk
        simp only [if_true, hj, if_false]
        exact (ha j hj).symm
      · simp only [hj, hk, if_false]; exact F.apart j k hjk
/-- Two families side by side, the second one made later. -/
theorem Fam.join (F : Fam B g m) (G : Fam g h1 m2) : Fam B h1 (Sum.elim m m2) := by
  refine ⟨F.sub.trans G.sub, fun i => ?_, fun i j hij => ?_⟩
  · rcases i with i | i
    · exact OwnE.grow (F.own i) G.sub
    · exact OwnE.up (G.own i) F.sub
  · rcases i with i | i <;> rcases j with j | j
    · exact F.apart i j fun e => hij (by rw [e])
    · exact OwnE.old (F.own i) (G.own j)
    · exact Mem.ap.symm (OwnE.old (F.own j) (G.own i))
    · exact G.apart i j fun e => hij (by rw [e])
/-- Members by other names; what has no member is nil. -/
theorem Fam.re (F : Fam B h m) (φ : κ → Option ι) (hφ : ∀ a b i, φ a = some i → φ b = some i → a = b) (hm : ∀ k, (∃ i, φ k = some i ∧ m2 k = m i) ∨ (φ k = none ∧ (m2 k).n = 0 ∧ (m2 k).a = .v (.slice none 0 0))) : Fam B h m2 := by
  refine ⟨F.sub, fun k => ?_, fun k l hkl c h1 h2 => ?_⟩
  · rcases hm k with ⟨i, _, h1⟩ | ⟨_, h1, h2⟩
    · rw [h1]; exact F.own i
    · unfold Mem.own
      rw [h1, h2]
      exact .inl (nil_own F.sub)
  · rcases hm k with ⟨i, e1, h3⟩ | ⟨_, _, h3⟩
    · rcases hm l with ⟨j, e2, h4⟩ | ⟨_, _, h4⟩
      · refine F.apart i j (fun e => hkl (hφ k l i e1 (by rw [e2, e]))) c ?_ ?_
        · rw [← h3]; exact h1
        · rw [← h4]; exact h2
      · rw [h4] at h2; cases h2
    · rw [h3] at h1; cases h1
/-- A member that nobody writes any more; the others are kept. -/
theorem Fam.freeze (F : Fam B h m) (i : ι) (hn : (m i).n ≤ 140737488355328) : ∃ H, Wk h (m i).a H (.sl (m i).s (m i).n (m i).f) ∧ Sub B H ∧ Sub H h ∧ ∀ j, j ≠ i → (m j).own B H := by
  obtain ⟨H, oH, sH, sh, ko, _⟩ := F.hole i
  exact ⟨H, OwnE.frozen oH hn, sH, sh, ko⟩
end
end Go.Proofs.YtmalhikcdideoaaGreatDoor

set_option linter.unusedVariables false
set_option linter.unusedSimpArgs false
namespace Go.Proofs.YtmalhikcdideoaaGreatDoor
open Go Sl
attribute [local irreducible] XRange LpQ XR XRo XRg XRQ putQ XFv XL XW2 wQ putW X XO XOp XH XHo XW SeqQ BlkQ XOQ XHQ NrmQ XC XM XG XHM XHG XD CallK
/-- An attribute. -/
structure Atx where
  name : ByteArray
  kind : Int
  inp : Bool
  low : Int
  high : Int
  bk : Int
  bn : Int
@[go_sem] def cAtx (x : Atx) : List AV := [S x.name, I x.kind, B x.inp, I x.low, I x.high, I x.bk, I x.bn]
abbrev Rf := ByteArray × ByteArray
@[go_sem] def cRf (r : Rf) : List AV := [S r.1, S r.2]
/-- An article. -/
structure Arx where
  name : ByteArray
  target : ByteArray
  cond : List Nd
  thn : List Nd
  over : List Rf
  weight : Int
@[go_sem] def cArx (x : Arx) : List AV := [S x.name, S x.target, encL 5 cNd x.cond, encL 5 cNd x.thn, encL 2 cRf x.over, I x.weight]
/-- An act. -/
structure Acx where
  name : ByteArray
  level : Int
  date : Int
  attrs : List Atx
  tables : List Tb
  arts : List Arx
@[go_sem] def cAcx (a : Acx) : List AV := [S a.name, I a.level, I a.date, encL 7 cAtx a.attrs, encL 5 cTb a.tables, encL 6 cArx a.arts]
def attrN (b : List Acx) : List ByteArray := b.flatMap fun a => a.attrs.map (·.name)
def tabN (b : List Acx) : List ByteArray := b.flatMap fun a => a.tables.map (·.name)
def refN (b : List Acx) : List Rf := b.flatMap fun a => a.arts.map fun x => (a.name, x.name)
def nmR (what : Int) (fr to : ByteArray) (k : Int) (s : ByteArray) : ByteArray := if what = k ∧ s = fr then to else s
def ndR (what : Int) (fr to : ByteArray) (n : Nd) : Nd :=
  if n.op = 1 ∨ n.op = 2 ∨ n.op = 3 then { n with nm := nmR what fr to 1 n.nm } else if n.op = 16 then { n with nm := nmR what fr to 2 n.nm } else n
def attR (what : Int) (fr to : ByteArray) (x : Atx) : Atx := { x with name := nmR what fr to 1 x.name }
def tbR (what : Int) (fr to : ByteArray) (x : Tb) : Tb := { x with name := nmR what fr to 2 x.name }
def arR (what : Int) (fr to : ByteArray) (x : Arx) : Arx := { x with target := nmR what fr to 1 x.target, cond := x.cond.map (ndR what fr to), thn := x.thn.map (ndR what fr to) }
def acR (what : Int) (fr to : ByteArray) (a : Acx) : Acx := { a with attrs := a.attrs.map (attR what fr to), tables := a.tables.map (tbR what fr to), arts := a.arts.map (arR what fr to) }
def oldN (what : Int) (b : List Acx) : List ByteArray := if what = 2 then tabN b else attrN b
def hasB {α : Type} [DecidableEq α] (l : List α) (s : α) : Bool := l.any fun x => decide (s = x)
/-- What Rename answers. -/
def renF (nameB : ByteArray → Bool) (b : List Acx) (what : Int) (fr to : ByteArray) : List Acx × Int :=
  if what ≠ 1 ∧ what ≠ 2 then ([], 1) else if hasB (oldN what b) fr = false then ([], 4) else if nameB to = false then ([], 15) else if to ≠ fr ∧ hasB (oldN what b) to = true then ([], 5) else (b.map (acR what fr to), 0)
end Go.Proofs.YtmalhikcdideoaaGreatDoor

set_option linter.unusedVariables false
set_option linter.unusedSimpArgs false
namespace Go.Proofs.YtmalhikcdideoaaGreatDoor
open Go Sl
attribute [local irreducible] XRange LpQ XR XRo XRg XRQ putQ XFv XL XW2 wQ putW X XO XOp XH XHo XW SeqQ BlkQ XOQ XHQ NrmQ XC XM XG XHM XHG XD CallK
open Go.RowKit
section
variable {ι : Type} {B h : Hp} {m : ι → Mem}
theorem OwnE.own {B h : Hp} {a : AV} {e : TypeId} {s n : Nat} {f : Nat → Nat → AV} (o : OwnE B h a e s n f) (h0 : n = 0 → a = .v (.slice none 0 0)) : Own B h a e s n f := by
  rcases o with o | ⟨h1, h2, _⟩
  · exact o
  · exact ⟨h1, .inl ⟨h2, .inl (h0 h2)⟩⟩
open Classical in
/-- A member's block is written. -/
theorem Fam.write {i : ι} {c : Nat} {oc oc' : Ob} {x : Mem} (F : Fam B h m) (hrow : (m i).a = .row c (m i).s 0 (m i).n) (hc : h c = some oc) (e1 : oc'.s = oc.s) (e2 : oc'.ty = oc.ty) (e3 : oc'.n = oc.n) (x1 : x.a = (m i).a) (x2 : x.e = (m i).e) (x3 : x.s = (m i).s) (x4 : x.n = (m i).n)
    (hf : ∀ p, p < (m i).n → ∀ q, q < (m i).s → oc'.f p q = x.f p q) : Fam B (upd h c (some oc')) (fun j => if j = i then x else m j) := by
  obtain ⟨H, oH, sH, sh, ko, kH⟩ := F.hole i
  refine F.set sH kH ?_ x3
  unfold Mem.own
  rw [x1, x2, x3, x4]
  rcases oH with o | ⟨_, _, h3⟩
  · left
    rcases o.2 with ⟨_, h4 | h4⟩ | ⟨c', ob, h4, h5, h6, h7, h8, h9, h10, _⟩
    · rw [hrow] at h4; cases h4
    · rw [hrow] at h4; cases h4
    · rw [hrow] at h4
      cases h4
      rw [hc] at h6
      cases h6
      refine ⟨fun d od hd => ?_, .inr ⟨c, oc', hrow, h5, upd_same _ _ _, e1.trans h7, e2.trans h8, e3.trans h9, h10, hf⟩⟩
      have hdc : d ≠ c := fun e => by rw [e, h5] at hd; cases hd
      rw [upd_ne _ _ hdc]
      exact sh d od hd
  · rw [hrow] at h3; cases h3
end
/-- Labels of an act's slices: attributes, tables, articles; what an article is an exception to. -/
inductive La where
  | row (k : Nat)
  | ov (p : Nat)
inductive Lb where
  | root
  | inn (i : Nat) (l : La)
def arx0 : Arx := ⟨⟨#[]⟩, ⟨#[]⟩, [], [], [], 0⟩
def acx0 : Acx := ⟨⟨#[]⟩, 0, 0, [], [], []⟩
def arC (l : List Arx) (O : Nat → AV) (p j : Nat) : AV := if j = 4 then O p else (cArx (l.getD p arx0)).getD j .any
def actM (x : Acx) (R O : Nat → AV) : La → Mem
  | .row 0 => ⟨R 0, 99, 7, x.attrs.length, cellsL cAtx x.attrs⟩
  | .row 1 => ⟨R 1, 43, 5, x.tables.length, cellsL cTb x.tables⟩
  | .row 2 => ⟨R 2, 50, 6, x.arts.length, arC x.arts O⟩
  | .row _ => nilM
  | .ov p => ⟨O p, 25, 2, (x.arts.getD p arx0).over.length, cellsL cRf (x.arts.getD p arx0).over⟩
@[go_sem] def acL (x : Acx) (R : Nat → AV) : List AV := [S x.name, I x.level, I x.date, R 0, R 1, R 2]
def bodyM (n : Nat) (A : Nat → Acx) (a : AV) (R O : Nat → Nat → AV) : Lb → Mem
  | .root => ⟨a, 37, 6, n, fun i j => (acL (A i) (R i)).getD j .any⟩
  | .inn i l => actM (A i) (R i) (O i) l
/-- A body of the call's own: its acts by places; nothing is behind the last one. -/
structure Bdy (B h : Hp) (a : AV) (n : Nat) (A : Nat → Acx) (R O : Nat → Nat → AV) : Prop where
  fam : Fam B h (bodyM n A a R O)
  nil : n = 0 → a = .v (.slice none 0 0)
theorem Fam.ext {ι : Type} {B h : Hp} {m m' : ι → Mem} (F : Fam B h m) (e : ∀ i, m i = m' i) : Fam B h m' := by
  rw [← funext e]; exact F
def acts (n : Nat) (A : Nat → Acx) : List Acx := (List.range n).map A
theorem acts_at {n : Nat} {A : Nat → Acx} {i : Nat} (hi : i < n) : (acts n A)[i]? = some (A i) := by simp [acts, hi]
theorem cellsL_get {α : Type} {enc : α → List AV} {l : List α} {i : Nat} {x : α} (h : l[i]? = some x) (j : Nat) : cellsL enc l i j = (enc x).getD j .any := by
  rw [cellsL_at h]
/-- An act's articles, told by their data alone. -/
theorem arts_frozen {B h : Hp} {x : Acx} {R O : Nat → AV} (F : Fam B h (actM x R O)) (h1 : x.arts.length ≤ 140737488355328) (h2 : ∀ y ∈ x.arts, y.over.length ≤ 140737488355328) : Wk h (R 2) B (encL 6 cArx x.arts) := by
  obtain ⟨H, w, sB, sH, ko⟩ := F.freeze (.row 2) h1
  refine w.trans (Wk.slMap sB fun i hi j hj => ?_)
  have hx : x.arts[i]? = some (x.arts[i]'hi) := List.getElem?_eq_getElem hi
  change Wk H (arC x.arts O i j) B (cellsL cArx x.arts i j)
  rw [cellsL_get hx]
  have hg : x.arts.getD i arx0 = x.arts[i]'hi := by rw [List.getD_eq_getElem?_getD, hx]; rfl
  unfold arC
  rw [hg]
  by_cases hj4 : j = 4
  · subst hj4
    rw [if_pos rfl]
    have := ko (.ov i) (fun e => by cases e)
    have w2 := OwnE.frozen this (by show (x.arts.getD i arx0).over.length ≤ _; rw [hg]; exact h2 _ (List.getElem_mem hi))
    simp only [actM, hg] at w2
    exact w2
  · rw [if_neg hj4]
    exact Wk.drop _ sB
theorem actM_row {B h : Hp} {x : Acx} {R O : Nat → AV} (F : Fam B h (actM x R O)) (j : Nat) (hj : j < 6) (h1 : x.attrs.length ≤ 140737488355328) (h2 : x.tables.length ≤ 140737488355328) (h3 : x.arts.length ≤ 140737488355328) (h4 : ∀ y ∈ x.arts, y.over.length ≤ 140737488355328) : Wk h ((acL x R).getD j .any) B ((cAcx x).getD j .any) := by
  rcases (show j = 0 ∨ j = 1 ∨ j = 2 ∨ j = 3 ∨ j = 4 ∨ j = 5 by omega) with rfl | rfl | rfl | rfl | rfl | rfl
  · exact Wk.drop _ F.sub
  · exact Wk.drop _ F.sub
  · exact Wk.drop _ F.sub
  · exact OwnE.frozen (F.own (.row 0)) h1
  · exact OwnE.frozen (F.own (.row 1)) h2
  · exact arts_frozen F h3 h4
/-- A body that nobody writes any more. -/
theorem Bdy.frozen {B h : Hp} {a : AV} {n : Nat} {A : Nat → Acx} {R O : Nat → Nat → AV} (b : Bdy B h a n A R O) (hn : n ≤ 140737488355328) (h1 : ∀ i, i < n → (A i).attrs.length ≤ 140737488355328 ∧ (A i).tables.length ≤ 140737488355328 ∧ (A i).arts.length ≤ 140737488355328 ∧ ∀ y ∈ (A i).arts, y.over.length ≤ 140737488355328) : Wk h a B (encL 6 cAcx (acts n A)) := by
  obtain ⟨H, w, sB, sH, ko⟩ := b.fam.freeze .root hn
  have hl : (acts n A).length = n := by simp [acts]
  unfold encL
  rw [hl]
  refine w.trans (Wk.slMap sB fun i hi j hj => ?_)
  change Wk H ((acL (A i) (R i)).getD j .any) B (cellsL cAcx (acts n A) i j)
  rw [cellsL_get (acts_at (A := A) (show i < n from hi))]
  obtain ⟨q1, q2, q3, q4⟩ := h1 i hi
  exact actM_row (R := R i) (O := O i) ⟨sB, fun l => ko (.inn i l) (fun e => by cases e), fun l l' hl => b.fam.apart (.inn i l) (.inn i l') fun e => hl (by cases e; rfl)⟩ j hj q1 q2 q3 q4
theorem Bdy.up {B0 B h : Hp} {a : AV} {n : Nat} {A : Nat → Acx} {R O : Nat → Nat → AV} (b : Bdy B h a n A R O) (hS : Sub B0 B) : Bdy B0 h a n A R O := ⟨b.fam.up hS, b.nil⟩
theorem Bdy.grow {B h h1 : Hp} {a : AV} {n : Nat} {A : Nat → Acx} {R O : Nat → Nat → AV} (b : Bdy B h a n A R O) (hS : Sub h h1) : Bdy B h1 a n A R O := ⟨b.fam.grow hS, b.nil⟩
theorem Bdy.with {B h : Hp} {a : AV} {n : Nat} {A : Nat → Acx} {R O : Nat → Nat → AV} {c : Nat} {oc : Ob} (b : Bdy B h a n A R O) (hc : h c = none) : Bdy (upd B c (some oc)) (upd h c (some oc)) a n A R O := ⟨b.fam.with hc, b.nil⟩
theorem Bdy.other {B h : Hp} {a : AV} {n : Nat} {A : Nat → Acx} {R O : Nat → Nat → AV} {c : Nat} {o1 o2 : Ob} (b : Bdy B h a n A R O) (hc : B c = some o1) : Bdy (upd B c (some o2)) (upd h c (some o2)) a n A R O := ⟨b.fam.other hc, b.nil⟩
theorem Bdy.start {h : Hp} {A : Nat → Acx} (hA : ∀ i, A i = acx0) : Bdy h h (.v (.slice none 0 0)) 0 A (fun _ _ => .v (.slice none 0 0)) (fun _ _ => .v (.slice none 0 0)) := by
  refine ⟨⟨Sub.refl _, fun l => ?_, fun l l' hl c h1 => ?_⟩, fun _ => rfl⟩
  · have : ∀ (e : TypeId) (s : Nat) (f : Nat → Nat → AV), OwnE h h (.v (.slice none 0 0)) e s 0 f := fun e s f => .inl (nil_own (Sub.refl _))
    rcases l with _ | ⟨i, l⟩
    · exact this _ _ _
    · show Mem.own h h (actM (A i) _ _ l)
      rw [hA i]
      rcases l with k | p
      · match k with
        | 0 => exact this _ _ _
        | 1 => exact this _ _ _
        | 2 => exact this _ _ _
        | k + 3 => exact this _ _ _
      · exact this _ _ _
  · rcases l with _ | ⟨i, l⟩
    · cases h1
    · rcases l with k | p
      · match k, h1 with
        | 0, h1 => cases h1
        | 1, h1 => cases h1
        | 2, h1 => cases h1
        | k + 3, h1 => cases h1
      · cases h1
section
variable {P : Program} {N : Nat} {T : Nat → AV} {K : (Nat → AV) → Hp → Prop} {d : Option Tmp} {X Y : Operand} {t : TypeId} {t' : TypeId} {p : String} {af : Array Edge} {gd : Option (Nat × Bool)} {by_ : Nat} {z : List Value} {B g g1 : Hp} {a0 : AV} {n : Nat} {A : Nat → Acx} {R O : Nat → Nat → AV} {x : Acx} {R' O' : Nat → AV}
/-- An act is appended whose slices are of the call's own. -/
theorem Bdy.push {b : Nat} {ob : Ob} (o : Bdy B g a0 n A R O) (F : Fam g g1 (actM x R' O')) (ha : ev T X = a0) (hu : P.underlying t = some (.slice 37)) (hz : zeroA P 37 = some (6, z)) (hb : bytesT P 37 = some by_) (hd : dOk N d = true)
    (hbk : g1 b = Option.none) (hy : ev T Y = .row b 6 0 1) (h1 : ob.s = 6) (h2 : 1 ≤ ob.n) (f0 : ∀ j, j < 6 → ob.f 0 j = (acL x R').getD j .any) (hm : (n + 1) * by_ ≤ 140737488355328) (hm' : n + 1 ≤ 140737488355328)
    (hK : ∀ a h1, Bdy B h1 a (n + 1) (upd A n x) (upd R n R') (upd O n O') → K (putD T d a) h1) : XW P N ⟨d, .call ⟨.builtin .append, #[X, Y], #[t, t]⟩, t', p, af, gd⟩ T (upd g1 b (some ob)) K := by
  classical
  have F1 := o.fam.join F
  obtain ⟨H, oH, sH, _, _, kH⟩ := F1.hole (.inl .root)
  have oR : Own H g1 a0 37 6 n (fun i j => (acL (A i) (R i)).getD j .any) := OwnE.own oH o.nil
  refine pushN oR ha hu hz hb hd hbk hy h1 h2 hm hm' fun a h1 ho hkp => hK a h1 ⟨?_, fun e => by omega⟩
  have F2 := F1.set (i := .inl .root) (x := ⟨a, 37, 6, n + 1, fun i j => (acL (upd A n x i) (upd R n R' i)).getD j .any⟩) sH kH (.inl (Own.congr ho fun i hi j hj => by
    have hi : i < n + 1 := hi
    change _ = (acL (upd A n x i) (upd R n R' i)).getD j .any
    by_cases hin : i = n
    · subst hin
      simp only [Nat.lt_irrefl, if_false, Nat.sub_self, upd_same]
      exact f0 j hj
    · have h2 : i < n := by omega
      simp only [h2, if_true, upd_ne _ _ hin])) rfl
  refine F2.re (φ := fun k => match k with
    | .root => some (.inl .root)
    | .inn i l => if i = n then some (.inr l) else some (.inl (.inn i l))) (fun k l i h1 h2 => ?_) fun k => .inl ?_
  · rcases k with _ | ⟨i1, l1⟩ <;> rcases l with _ | ⟨i2, l2⟩
    · rfl
    · simp only [Option.some.injEq] at h1
      subst h1
      simp only at h2
      split at h2 <;> simp at h2
    · simp only [Option.some.injEq] at h2
      subst h2
      simp only at h1
      split at h1 <;> simp at h1
    · simp only at h1 h2
      split at h1 <;> split at h2
      · simp only [Option.some.injEq] at h1 h2
        subst h1
        simp only [Sum.inr.injEq] at h2
        subst h2
        simp [*]
      · simp only [Option.some.injEq] at h1 h2
        subst h1
        simp at h2
      · simp only [Option.some.injEq] at h1 h2
        subst h1
        simp at h2
      · simp only [Option.some.injEq] at h1 h2
        subst h1
        simp only [Sum.inl.injEq] at h2
        exact h2.symm
  · rcases k with _ | ⟨i, l⟩
    · exact ⟨_, rfl, by simp [bodyM]⟩
    · by_cases hin : i = n
      · subst hin
        exact ⟨.inr l, by simp, by simp [bodyM, upd_same]⟩
      · exact ⟨.inl (.inn i l), by simp [hin], by simp [bodyM, upd_ne _ _ hin]⟩
end
end Go.Proofs.YtmalhikcdideoaaGreatDoor

set_option linter.unusedVariables false
set_option linter.unusedSimpArgs false
namespace Go.Proofs.YtmalhikcdideoaaGreatDoor
open Go Sl
attribute [local irreducible] XRange LpQ XR XRo XRg XRQ putQ XFv XL XW2 wQ putW X XO XOp XH XHo XW SeqQ BlkQ XOQ XHQ NrmQ XC XM XG XHM XHG XD CallK
open Go.RowKit
section
variable {P : Program} {N : Nat} {T : Nat → AV} {h : Hp} {K : (Nat → AV) → Hp → Prop} {d : Option Tmp} {t : TypeId} {p : String} {af : Array Edge} {g : Option (Nat × Bool)}
theorem X_isNilM {t1 t2 e : TypeId} {x y : Operand} {s : Nat} {f : Nat → Nat → AV} (hd : dOk N d = true) (hu : P.underlying t1 = some (.slice e)) (hx : ev T x = .sl s 0 f) (hy : ev T y = .v (.slice none 0 0)) (hk : ∀ b, K (putD T d (.v (.bool b))) h) : XM P N (binR none none none) ⟨d, .binOp .eql t1 x y t2, t, p, af, g⟩ T h K := by
  unfold XM
  simp only [binR]
  rw [XW_binOp]
  exact ⟨hd, X_isNil hu hx hy hk⟩
end
theorem cloneAt_ok (l : List Atx) (h1 : l.length ≤ 1048576) (h : Hp) : CallK Tryz.prog h 148 [encL 7 cAtx l] fun r h' => Own h h' r 99 7 l.length (cellsL cAtx l) := by
  rcases Nat.eq_zero_or_pos l.length with hz | hp
  · obtain rfl := List.length_eq_zero_iff.1 hz
    refine callK_body Tryz.func148 rfl (by rw [nt148]; simp) ?_; rw [nt148, rs148]
    (repeat' (first | simp [go_sem, X_region, *] | simp (disch := omega) only [om, *] | ((first | refine XC_split ?_ ?_ | refine XG_true ?_ ?_ | refine XG_false ?_ ?_ | refine XRg_true ?_ ?_ | refine XRg_false ?_ ?_) <;> intro hc <;> (try simp only [bl] at hc) <;> (try (exfalso; omega))) | refine XD_w [] [] [] (fun _ => none) mixed (by decide +kernel) (sub_none _) ?_ | fail))
    refine X_isNilM (s := 7) (f := cellsL cAtx []) (by simp [go_sem]) und33 (by simp [go_sem]) (by simp [go_sem]) fun b => ?_
    cases b
    · (repeat' (first | simp [go_sem, X_region, *] | simp (disch := omega) only [om, *] | ((first | refine XC_split ?_ ?_ | refine XG_true ?_ ?_ | refine XG_false ?_ ?_ | refine XRg_true ?_ ?_ | refine XRg_false ?_ ?_) <;> intro hc <;> (try simp only [bl] at hc) <;> (try (exfalso; omega))) | refine XD_w [] [] [] (fun _ => none) mixed (by decide +kernel) (sub_none _) ?_ | fail))
      refine Own.append (h0 := h) (e := 99) (s := 7) (n := 0) (f := fun _ _ => .any) (m := 0) (q := cellsL cAtx []) ⟨Sub.refl h, .inl ⟨rfl, .inr (by simp [go_sem])⟩⟩ und33 zr99 by99 (by simp [go_sem]) (by simp [go_sem]) (by omega) (by omega) fun a h' ho _ => ?_
      simp only [Nat.zero_add, Nat.not_lt_zero, if_false, Nat.sub_zero] at ho
      (repeat' (first | simp [go_sem, X_region, *] | simp (disch := omega) only [om, *] | ((first | refine XC_split ?_ ?_ | refine XG_true ?_ ?_ | refine XG_false ?_ ?_ | refine XRg_true ?_ ?_ | refine XRg_false ?_ ?_) <;> intro hc <;> (try simp only [bl] at hc) <;> (try (exfalso; omega))) | refine XD_w [] [] [] (fun _ => none) mixed (by decide +kernel) (sub_none _) ?_ | fail))
      exact ⟨_, _, Wk.refl _ _, ho⟩
    · (repeat' (first | simp [go_sem, X_region, *] | simp (disch := omega) only [om, *] | ((first | refine XC_split ?_ ?_ | refine XG_true ?_ ?_ | refine XG_false ?_ ?_ | refine XRg_true ?_ ?_ | refine XRg_false ?_ ?_) <;> intro hc <;> (try simp only [bl] at hc) <;> (try (exfalso; omega))) | refine XD_w [] [] [] (fun _ => none) mixed (by decide +kernel) (sub_none _) ?_ | fail))
      exact ⟨_, _, Wk.refl _ _, Sub.refl _, .inl ⟨rfl, .inl rfl⟩⟩
  · refine callK_body Tryz.func148 rfl (by rw [nt148]; simp) ?_; rw [nt148, rs148]
    (repeat' (first | simp [go_sem, X_region, *] | simp (disch := omega) only [om, *] | ((first | refine XC_split ?_ ?_ | refine XG_true ?_ ?_ | refine XG_false ?_ ?_ | refine XRg_true ?_ ?_ | refine XRg_false ?_ ?_) <;> intro hc <;> (try simp only [bl] at hc) <;> (try (exfalso; omega))) | refine XD_w [] [] [] (fun _ => none) mixed (by decide +kernel) (sub_none _) ?_ | fail))
    refine Own.append (h0 := h) (e := 99) (s := 7) (n := 0) (f := fun _ _ => .any) (m := l.length) (q := cellsL cAtx l) ⟨Sub.refl h, .inl ⟨rfl, .inr (by simp [go_sem])⟩⟩ und33 zr99 by99 (by simp [go_sem]) (by simp [go_sem]) (by omega) (by omega) fun a h' ho _ => ?_
    simp only [Nat.zero_add, Nat.not_lt_zero, if_false, Nat.sub_zero] at ho
    (repeat' (first | simp [go_sem, X_region, *] | simp (disch := omega) only [om, *] | ((first | refine XC_split ?_ ?_ | refine XG_true ?_ ?_ | refine XG_false ?_ ?_ | refine XRg_true ?_ ?_ | refine XRg_false ?_ ?_) <;> intro hc <;> (try simp only [bl] at hc) <;> (try (exfalso; omega))) | refine XD_w [] [] [] (fun _ => none) mixed (by decide +kernel) (sub_none _) ?_ | fail))
    exact ⟨_, _, Wk.refl _ _, ho⟩
theorem cloneTb_ok (l : List Tb) (h1 : l.length ≤ 1048576) (h : Hp) : CallK Tryz.prog h 149 [encL 5 cTb l] fun r h' => Own h h' r 43 5 l.length (cellsL cTb l) := by
  rcases Nat.eq_zero_or_pos l.length with hz | hp
  · obtain rfl := List.length_eq_zero_iff.1 hz
    refine callK_body Tryz.func149 rfl (by rw [nt149]; simp) ?_; rw [nt149, rs149]
    (repeat' (first | simp [go_sem, X_region, *] | simp (disch := omega) only [om, *] | ((first | refine XC_split ?_ ?_ | refine XG_true ?_ ?_ | refine XG_false ?_ ?_ | refine XRg_true ?_ ?_ | refine XRg_false ?_ ?_) <;> intro hc <;> (try simp only [bl] at hc) <;> (try (exfalso; omega))) | refine XD_w [] [] [] (fun _ => none) mixed (by decide +kernel) (sub_none _) ?_ | fail))
    refine X_isNilM (s := 5) (f := cellsL cTb []) (by simp [go_sem]) und34 (by simp [go_sem]) (by simp [go_sem]) fun b => ?_
    cases b
    · (repeat' (first | simp [go_sem, X_region, *] | simp (disch := omega) only [om, *] | ((first | refine XC_split ?_ ?_ | refine XG_true ?_ ?_ | refine XG_false ?_ ?_ | refine XRg_true ?_ ?_ | refine XRg_false ?_ ?_) <;> intro hc <;> (try simp only [bl] at hc) <;> (try (exfalso; omega))) | refine XD_w [] [] [] (fun _ => none) mixed (by decide +kernel) (sub_none _) ?_ | fail))
      refine Own.append (h0 := h) (e := 43) (s := 5) (n := 0) (f := fun _ _ => .any) (m := 0) (q := cellsL cTb []) ⟨Sub.refl h, .inl ⟨rfl, .inr (by simp [go_sem])⟩⟩ und34 zr43 by43 (by simp [go_sem]) (by simp [go_sem]) (by omega) (by omega) fun a h' ho _ => ?_
      simp only [Nat.zero_add, Nat.not_lt_zero, if_false, Nat.sub_zero] at ho
      (repeat' (first | simp [go_sem, X_region, *] | simp (disch := omega) only [om, *] | ((first | refine XC_split ?_ ?_ | refine XG_true ?_ ?_ | refine XG_false ?_ ?_ | refine XRg_true ?_ ?_ | refine XRg_false ?_ ?_) <;> intro hc <;> (try simp only [bl] at hc) <;> (try (exfalso; omega))) | refine XD_w [] [] [] (fun _ => none) mixed (by decide +kernel) (sub_none _) ?_ | fail))
      exact ⟨_, _, Wk.refl _ _, ho⟩
    · (repeat' (first | simp [go_sem, X_region, *] | simp (disch := omega) only [om, *] | ((first | refine XC_split ?_ ?_ | refine XG_true ?_ ?_ | refine XG_false ?_ ?_ | refine XRg_true ?_ ?_ | refine XRg_false ?_ ?_) <;> intro hc <;> (try simp only [bl] at hc) <;> (try (exfalso; omega))) | refine XD_w [] [] [] (fun _ => none) mixed (by decide +kernel) (sub_none _) ?_ | fail))
      exact ⟨_, _, Wk.refl _ _, Sub.refl _, .inl ⟨rfl, .inl rfl⟩⟩
  · refine callK_body Tryz.func149 rfl (by rw [nt149]; simp) ?_; rw [nt149, rs149]
    (repeat' (first | simp [go_sem, X_region, *] | simp (disch := omega) only [om, *] | ((first | refine XC_split ?_ ?_ | refine XG_true ?_ ?_ | refine XG_false ?_ ?_ | refine XRg_true ?_ ?_ | refine XRg_false ?_ ?_) <;> intro hc <;> (try simp only [bl] at hc) <;> (try (exfalso; omega))) | refine XD_w [] [] [] (fun _ => none) mixed (by decide +kernel) (sub_none _) ?_ | fail))
    refine Own.append (h0 := h) (e := 43) (s := 5) (n := 0) (f := fun _ _ => .any) (m := l.length) (q := cellsL cTb l) ⟨Sub.refl h, .inl ⟨rfl, .inr (by simp [go_sem])⟩⟩ und34 zr43 by43 (by simp [go_sem]) (by simp [go_sem]) (by omega) (by omega) fun a h' ho _ => ?_
    simp only [Nat.zero_add, Nat.not_lt_zero, if_false, Nat.sub_zero] at ho
    (repeat' (first | simp [go_sem, X_region, *] | simp (disch := omega) only [om, *] | ((first | refine XC_split ?_ ?_ | refine XG_true ?_ ?_ | refine XG_false ?_ ?_ | refine XRg_true ?_ ?_ | refine XRg_false ?_ ?_) <;> intro hc <;> (try simp only [bl] at hc) <;> (try (exfalso; omega))) | refine XD_w [] [] [] (fun _ => none) mixed (by decide +kernel) (sub_none _) ?_ | fail))
    exact ⟨_, _, Wk.refl _ _, ho⟩
theorem cloneAr_ok (l : List Arx) (h1 : l.length ≤ 1048576) (h : Hp) : CallK Tryz.prog h 150 [encL 6 cArx l] fun r h' => Own h h' r 50 6 l.length (cellsL cArx l) := by
  rcases Nat.eq_zero_or_pos l.length with hz | hp
  · obtain rfl := List.length_eq_zero_iff.1 hz
    refine callK_body Tryz.func150 rfl (by rw [nt150]; simp) ?_; rw [nt150, rs150]
    (repeat' (first | simp [go_sem, X_region, *] | simp (disch := omega) only [om, *] | ((first | refine XC_split ?_ ?_ | refine XG_true ?_ ?_ | refine XG_false ?_ ?_ | refine XRg_true ?_ ?_ | refine XRg_false ?_ ?_) <;> intro hc <;> (try simp only [bl] at hc) <;> (try (exfalso; omega))) | refine XD_w [] [] [] (fun _ => none) mixed (by decide +kernel) (sub_none _) ?_ | fail))
    refine X_isNilM (s := 6) (f := cellsL cArx []) (by simp [go_sem]) und35 (by simp [go_sem]) (by simp [go_sem]) fun b => ?_
    cases b
    · (repeat' (first | simp [go_sem, X_region, *] | simp (disch := omega) only [om, *] | ((first | refine XC_split ?_ ?_ | refine XG_true ?_ ?_ | refine XG_false ?_ ?_ | refine XRg_true ?_ ?_ | refine XRg_false ?_ ?_) <;> intro hc <;> (try simp only [bl] at hc) <;> (try (exfalso; omega))) | refine XD_w [] [] [] (fun _ => none) mixed (by decide +kernel) (sub_none _) ?_ | fail))
      refine Own.append (h0 := h) (e := 50) (s := 6) (n := 0) (f := fun _ _ => .any) (m := 0) (q := cellsL cArx []) ⟨Sub.refl h, .inl ⟨rfl, .inr (by simp [go_sem])⟩⟩ und35 zr50 by50 (by simp [go_sem]) (by simp [go_sem]) (by omega) (by omega) fun a h' ho _ => ?_
      simp only [Nat.zero_add, Nat.not_lt_zero, if_false, Nat.sub_zero] at ho
      (repeat' (first | simp [go_sem, X_region, *] | simp (disch := omega) only [om, *] | ((first | refine XC_split ?_ ?_ | refine XG_true ?_ ?_ | refine XG_false ?_ ?_ | refine XRg_true ?_ ?_ | refine XRg_false ?_ ?_) <;> intro hc <;> (try simp only [bl] at hc) <;> (try (exfalso; omega))) | refine XD_w [] [] [] (fun _ => none) mixed (by decide +kernel) (sub_none _) ?_ | fail))
      exact ⟨_, _, Wk.refl _ _, ho⟩
    · (repeat' (first | simp [go_sem, X_region, *] | simp (disch := omega) only [om, *] | ((first | refine XC_split ?_ ?_ | refine XG_true ?_ ?_ | refine XG_false ?_ ?_ | refine XRg_true ?_ ?_ | refine XRg_false ?_ ?_) <;> intro hc <;> (try simp only [bl] at hc) <;> (try (exfalso; omega))) | refine XD_w [] [] [] (fun _ => none) mixed (by decide +kernel) (sub_none _) ?_ | fail))
      exact ⟨_, _, Wk.refl _ _, Sub.refl _, .inl ⟨rfl, .inl rfl⟩⟩
  · refine callK_body Tryz.func150 rfl (by rw [nt150]; simp) ?_; rw [nt150, rs150]
    (repeat' (first | simp [go_sem, X_region, *] | simp (disch := omega) only [om, *] | ((first | refine XC_split ?_ ?_ | refine XG_true ?_ ?_ | refine XG_false ?_ ?_ | refine XRg_true ?_ ?_ | refine XRg_false ?_ ?_) <;> intro hc <;> (try simp only [bl] at hc) <;> (try (exfalso; omega))) | refine XD_w [] [] [] (fun _ => none) mixed (by decide +kernel) (sub_none _) ?_ | fail))
    refine Own.append (h0 := h) (e := 50) (s := 6) (n := 0) (f := fun _ _ => .any) (m := l.length) (q := cellsL cArx l) ⟨Sub.refl h, .inl ⟨rfl, .inr (by simp [go_sem])⟩⟩ und35 zr50 by50 (by simp [go_sem]) (by simp [go_sem]) (by omega) (by omega) fun a h' ho _ => ?_
    simp only [Nat.zero_add, Nat.not_lt_zero, if_false, Nat.sub_zero] at ho
    (repeat' (first | simp [go_sem, X_region, *] | simp (disch := omega) only [om, *] | ((first | refine XC_split ?_ ?_ | refine XG_true ?_ ?_ | refine XG_false ?_ ?_ | refine XRg_true ?_ ?_ | refine XRg_false ?_ ?_) <;> intro hc <;> (try simp only [bl] at hc) <;> (try (exfalso; omega))) | refine XD_w [] [] [] (fun _ => none) mixed (by decide +kernel) (sub_none _) ?_ | fail))
    exact ⟨_, _, Wk.refl _ _, ho⟩
theorem cloneSt_ok (l : List (Int × Int)) (h1 : l.length ≤ 1048576) (h : Hp) : CallK Tryz.prog h 218 [encL 2 cSt l] fun r h' => Own h h' r 128 2 l.length (cellsL cSt l) := by
  rcases Nat.eq_zero_or_pos l.length with hz | hp
  · obtain rfl := List.length_eq_zero_iff.1 hz
    refine callK_body Tryz.func218 rfl (by rw [nt218]; simp) ?_; rw [nt218, rs218]
    (repeat' (first | simp [go_sem, X_region, *] | simp (disch := omega) only [om, *] | ((first | refine XC_split ?_ ?_ | refine XG_true ?_ ?_ | refine XG_false ?_ ?_ | refine XRg_true ?_ ?_ | refine XRg_false ?_ ?_) <;> intro hc <;> (try simp only [bl] at hc) <;> (try (exfalso; omega))) | refine XD_w [] [] [] (fun _ => none) mixed (by decide +kernel) (sub_none _) ?_ | fail))
    refine X_isNilM (s := 2) (f := cellsL cSt []) (by simp [go_sem]) und41 (by simp [go_sem]) (by simp [go_sem]) fun b => ?_
    cases b
    · (repeat' (first | simp [go_sem, X_region, *] | simp (disch := omega) only [om, *] | ((first | refine XC_split ?_ ?_ | refine XG_true ?_ ?_ | refine XG_false ?_ ?_ | refine XRg_true ?_ ?_ | refine XRg_false ?_ ?_) <;> intro hc <;> (try simp only [bl] at hc) <;> (try (exfalso; omega))) | refine XD_w [] [] [] (fun _ => none) mixed (by decide +kernel) (sub_none _) ?_ | fail))
      refine Own.append (h0 := h) (e := 128) (s := 2) (n := 0) (f := fun _ _ => .any) (m := 0) (q := cellsL cSt []) ⟨Sub.refl h, .inl ⟨rfl, .inr (by simp [go_sem])⟩⟩ und41 zr128 by128 (by simp [go_sem]) (by simp [go_sem]) (by omega) (by omega) fun a h' ho _ => ?_
      simp only [Nat.zero_add, Nat.not_lt_zero, if_false, Nat.sub_zero] at ho
      (repeat' (first | simp [go_sem, X_region, *] | simp (disch := omega) only [om, *] | ((first | refine XC_split ?_ ?_ | refine XG_true ?_ ?_ | refine XG_false ?_ ?_ | refine XRg_true ?_ ?_ | refine XRg_false ?_ ?_) <;> intro hc <;> (try simp only [bl] at hc) <;> (try (exfalso; omega))) | refine XD_w [] [] [] (fun _ => none) mixed (by decide +kernel) (sub_none _) ?_ | fail))
      exact ⟨_, _, Wk.refl _ _, ho⟩
    · (repeat' (first | simp [go_sem, X_region, *] | simp (disch := omega) only [om, *] | ((first | refine XC_split ?_ ?_ | refine XG_true ?_ ?_ | refine XG_false ?_ ?_ | refine XRg_true ?_ ?_ | refine XRg_false ?_ ?_) <;> intro hc <;> (try simp only [bl] at hc) <;> (try (exfalso; omega))) | refine XD_w [] [] [] (fun _ => none) mixed (by decide +kernel) (sub_none _) ?_ | fail))
      exact ⟨_, _, Wk.refl _ _, Sub.refl _, .inl ⟨rfl, .inl rfl⟩⟩
  · refine callK_body Tryz.func218 rfl (by rw [nt218]; simp) ?_; rw [nt218, rs218]
    (repeat' (first | simp [go_sem, X_region, *] | simp (disch := omega) only [om, *] | ((first | refine XC_split ?_ ?_ | refine XG_true ?_ ?_ | refine XG_false ?_ ?_ | refine XRg_true ?_ ?_ | refine XRg_false ?_ ?_) <;> intro hc <;> (try simp only [bl] at hc) <;> (try (exfalso; omega))) | refine XD_w [] [] [] (fun _ => none) mixed (by decide +kernel) (sub_none _) ?_ | fail))
    refine Own.append (h0 := h) (e := 128) (s := 2) (n := 0) (f := fun _ _ => .any) (m := l.length) (q := cellsL cSt l) ⟨Sub.refl h, .inl ⟨rfl, .inr (by simp [go_sem])⟩⟩ und41 zr128 by128 (by simp [go_sem]) (by simp [go_sem]) (by omega) (by omega) fun a h' ho _ => ?_
    simp only [Nat.zero_add, Nat.not_lt_zero, if_false, Nat.sub_zero] at ho
    (repeat' (first | simp [go_sem, X_region, *] | simp (disch := omega) only [om, *] | ((first | refine XC_split ?_ ?_ | refine XG_true ?_ ?_ | refine XG_false ?_ ?_ | refine XRg_true ?_ ?_ | refine XRg_false ?_ ?_) <;> intro hc <;> (try simp only [bl] at hc) <;> (try (exfalso; omega))) | refine XD_w [] [] [] (fun _ => none) mixed (by decide +kernel) (sub_none _) ?_ | fail))
    exact ⟨_, _, Wk.refl _ _, ho⟩
theorem cloneRf_ok (l : List Rf) (h1 : l.length ≤ 1048576) (h : Hp) : CallK Tryz.prog h 219 [encL 2 cRf l] fun r h' => Own h h' r 25 2 l.length (cellsL cRf l) := by
  rcases Nat.eq_zero_or_pos l.length with hz | hp
  · obtain rfl := List.length_eq_zero_iff.1 hz
    refine callK_body Tryz.func219 rfl (by rw [nt219]; simp) ?_; rw [nt219, rs219]
    (repeat' (first | simp [go_sem, X_region, *] | simp (disch := omega) only [om, *] | ((first | refine XC_split ?_ ?_ | refine XG_true ?_ ?_ | refine XG_false ?_ ?_ | refine XRg_true ?_ ?_ | refine XRg_false ?_ ?_) <;> intro hc <;> (try simp only [bl] at hc) <;> (try (exfalso; omega))) | refine XD_w [] [] [] (fun _ => none) mixed (by decide +kernel) (sub_none _) ?_ | fail))
    refine X_isNilM (s := 2) (f := cellsL cRf []) (by simp [go_sem]) und48 (by simp [go_sem]) (by simp [go_sem]) fun b => ?_
    cases b
    · (repeat' (first | simp [go_sem, X_region, *] | simp (disch := omega) only [om, *] | ((first | refine XC_split ?_ ?_ | refine XG_true ?_ ?_ | refine XG_false ?_ ?_ | refine XRg_true ?_ ?_ | refine XRg_false ?_ ?_) <;> intro hc <;> (try simp only [bl] at hc) <;> (try (exfalso; omega))) | refine XD_w [] [] [] (fun _ => none) mixed (by decide +kernel) (sub_none _) ?_ | fail))
      refine Own.append (h0 := h) (e := 25) (s := 2) (n := 0) (f := fun _ _ => .any) (m := 0) (q := cellsL cRf []) ⟨Sub.refl h, .inl ⟨rfl, .inr (by simp [go_sem])⟩⟩ und48 zr25 by25 (by simp [go_sem]) (by simp [go_sem]) (by omega) (by omega) fun a h' ho _ => ?_
      simp only [Nat.zero_add, Nat.not_lt_zero, if_false, Nat.sub_zero] at ho
      (repeat' (first | simp [go_sem, X_region, *] | simp (disch := omega) only [om, *] | ((first | refine XC_split ?_ ?_ | refine XG_true ?_ ?_ | refine XG_false ?_ ?_ | refine XRg_true ?_ ?_ | refine XRg_false ?_ ?_) <;> intro hc <;> (try simp only [bl] at hc) <;> (try (exfalso; omega))) | refine XD_w [] [] [] (fun _ => none) mixed (by decide +kernel) (sub_none _) ?_ | fail))
      exact ⟨_, _, Wk.refl _ _, ho⟩
    · (repeat' (first | simp [go_sem, X_region, *] | simp (disch := omega) only [om, *] | ((first | refine XC_split ?_ ?_ | refine XG_true ?_ ?_ | refine XG_false ?_ ?_ | refine XRg_true ?_ ?_ | refine XRg_false ?_ ?_) <;> intro hc <;> (try simp only [bl] at hc) <;> (try (exfalso; omega))) | refine XD_w [] [] [] (fun _ => none) mixed (by decide +kernel) (sub_none _) ?_ | fail))
      exact ⟨_, _, Wk.refl _ _, Sub.refl _, .inl ⟨rfl, .inl rfl⟩⟩
  · refine callK_body Tryz.func219 rfl (by rw [nt219]; simp) ?_; rw [nt219, rs219]
    (repeat' (first | simp [go_sem, X_region, *] | simp (disch := omega) only [om, *] | ((first | refine XC_split ?_ ?_ | refine XG_true ?_ ?_ | refine XG_false ?_ ?_ | refine XRg_true ?_ ?_ | refine XRg_false ?_ ?_) <;> intro hc <;> (try simp only [bl] at hc) <;> (try (exfalso; omega))) | refine XD_w [] [] [] (fun _ => none) mixed (by decide +kernel) (sub_none _) ?_ | fail))
    refine Own.append (h0 := h) (e := 25) (s := 2) (n := 0) (f := fun _ _ => .any) (m := l.length) (q := cellsL cRf l) ⟨Sub.refl h, .inl ⟨rfl, .inr (by simp [go_sem])⟩⟩ und48 zr25 by25 (by simp [go_sem]) (by simp [go_sem]) (by omega) (by omega) fun a h' ho _ => ?_
    simp only [Nat.zero_add, Nat.not_lt_zero, if_false, Nat.sub_zero] at ho
    (repeat' (first | simp [go_sem, X_region, *] | simp (disch := omega) only [om, *] | ((first | refine XC_split ?_ ?_ | refine XG_true ?_ ?_ | refine XG_false ?_ ?_ | refine XRg_true ?_ ?_ | refine XRg_false ?_ ?_) <;> intro hc <;> (try simp only [bl] at hc) <;> (try (exfalso; omega))) | refine XD_w [] [] [] (fun _ => none) mixed (by decide +kernel) (sub_none _) ?_ | fail))
    exact ⟨_, _, Wk.refl _ _, ho⟩
theorem copyTable_ok (t : Tb) (ht : t.steps.length ≤ 1048576) : Pure Tryz.prog 151 [encTbA t] (encTbA t) := by
  obtain ⟨nm, fr, to, sl, steps⟩ := t
  have hc := cloneSt_ok steps ht
  intro h; refine callK_body Tryz.func151 rfl (by rw [nt151]; simp) ?_; rw [nt151, rs151]
  (repeat' (first | simp [go_sem, X_region, *] | simp (disch := omega) only [om, *] | ((first | refine XC_split ?_ ?_ | refine XG_true ?_ ?_ | refine XG_false ?_ ?_ | refine XRg_true ?_ ?_ | refine XRg_false ?_ ?_) <;> intro hc <;> (try simp only [bl] at hc) <;> (try (exfalso; omega))) | refine XD_w [] [] [] (fun _ => none) mixed (by decide +kernel) (sub_none _) ?_ | fail))
  intro b1 hb1
  (repeat' (first | simp [go_sem, X_region, *] | simp (disch := omega) only [om, *] | ((first | refine XC_split ?_ ?_ | refine XG_true ?_ ?_ | refine XG_false ?_ ?_ | refine XRg_true ?_ ?_ | refine XRg_false ?_ ?_) <;> intro hc <;> (try simp only [bl] at hc) <;> (try (exfalso; omega))) | refine XD_w [] [] [] (fun _ => none) mixed (by decide +kernel) (sub_none _) ?_ | fail))
  intro b2 n1 n2 hb2
  (repeat' (first | simp [go_sem, X_region, *] | simp (disch := omega) only [om, *] | ((first | refine XC_split ?_ ?_ | refine XG_true ?_ ?_ | refine XG_false ?_ ?_ | refine XRg_true ?_ ?_ | refine XRg_false ?_ ?_) <;> intro hc <;> (try simp only [bl] at hc) <;> (try (exfalso; omega))) | refine XD_w [] [] [] (fun _ => none) mixed (by decide +kernel) (sub_none _) ?_ | fail))
  refine (hc _).mono fun r g o => ?_
  have e1 := o.1 b1 _ ((upd_ne _ _ n2).trans (upd_same _ _ _))
  have e2 := o.1 b2 _ (upd_same _ _ _)
  have hcM := own_cells o
  (repeat' (first | simp [go_sem, X_region, *] | simp (disch := omega) only [om, *] | ((first | refine XC_split ?_ ?_ | refine XG_true ?_ ?_ | refine XG_false ?_ ?_ | refine XRg_true ?_ ?_ | refine XRg_false ?_ ?_) <;> intro hc <;> (try simp only [bl] at hc) <;> (try (exfalso; omega))) | refine XD_w [] [] [] (fun _ => none) mixed (by decide +kernel) (sub_none _) ?_ | fail))
  have hS : ∀ o3 o4, Sub h (upd (upd g b1 (some o3)) b2 (some o4)) := fun o3 o4 => Sub.upd hb2 (Sub.upd hb1 (Sub.trans (Sub.upd hb2 (Sub.upd hb1 (Sub.refl _))) o.1))
  refine Wk.aggLM (hS _ _) rfl fun j hj => ?_
  have hj : j < 5 := hj
  rcases (show j = 0 ∨ j = 1 ∨ j = 2 ∨ j = 3 ∨ j = 4 by omega) with rfl | rfl | rfl | rfl | rfl
  · exact Wk.drop _ (hS _ _)
  · exact Wk.drop _ (hS _ _)
  · exact Wk.drop _ (hS _ _)
  · exact Wk.drop _ (hS _ _)
  · exact Own.frozen (own_up (Sub.upd hb2 (Sub.upd hb1 (Sub.upd hb2 (Sub.upd hb1 (Sub.refl _))))) (own_other (own_other o ((upd_ne _ _ n2).trans (upd_same _ _ _))) ((upd_ne _ _ n1).trans (upd_same _ _ _)))) (by have : steps.length ≤ 1048576 := ht; omega)
set_option maxHeartbeats 1000000 in
theorem copyArticle_ok (x : Arx) (hc : x.cond.length ≤ 1048576 ∧ ∀ y ∈ x.cond, y.kids.length ≤ 1048576) (ht : x.thn.length ≤ 1048576 ∧ ∀ y ∈ x.thn, y.kids.length ≤ 1048576) (ho : x.over.length ≤ 1048576) (h : Hp) :
    CallK Tryz.prog h 152 [aggL (cArx x)] fun r h' => ∃ o, r = aggL [S x.name, S x.target, encL 5 cNd x.cond, encL 5 cNd x.thn, o, I x.weight] ∧ Own h h' o 25 2 x.over.length (cellsL cRf x.over) := by
  have k1 := copy_ok x.cond hc.1 hc.2
  have k2 := copy_ok x.thn ht.1 ht.2
  have k3 := cloneRf_ok x.over ho
  obtain ⟨nm, tg, cond, thn, over, wt⟩ := x
  dsimp only at *
  refine callK_body Tryz.func152 rfl (by rw [nt152]; simp) ?_; rw [nt152, rs152]
  (repeat' (first | simp [go_sem, X_region, *] | simp (disch := omega) only [om, *] | ((first | refine XC_split ?_ ?_ | refine XG_true ?_ ?_ | refine XG_false ?_ ?_ | refine XRg_true ?_ ?_ | refine XRg_false ?_ ?_) <;> intro hc <;> (try simp only [bl] at hc) <;> (try (exfalso; omega))) | refine XD_w [] [] [] (fun _ => none) mixed (by decide +kernel) (sub_none _) ?_ | fail))
  intro b1 hb1
  (repeat' (first | simp [go_sem, X_region, *] | simp (disch := omega) only [om, *] | ((first | refine XC_split ?_ ?_ | refine XG_true ?_ ?_ | refine XG_false ?_ ?_ | refine XRg_true ?_ ?_ | refine XRg_false ?_ ?_) <;> intro hc <;> (try simp only [bl] at hc) <;> (try (exfalso; omega))) | refine XD_w [] [] [] (fun _ => none) mixed (by decide +kernel) (sub_none _) ?_ | fail))
  intro b2 n1 n2 hb2
  (repeat' (first | simp [go_sem, X_region, *] | simp (disch := omega) only [om, *] | ((first | refine XC_split ?_ ?_ | refine XG_true ?_ ?_ | refine XG_false ?_ ?_ | refine XRg_true ?_ ?_ | refine XRg_false ?_ ?_) <;> intro hc <;> (try simp only [bl] at hc) <;> (try (exfalso; omega))) | fail))
  (refine XD_p [] [1, 4, 7] [8] [0, 1, 2, 3, 4, 5, 6, 7, 9, 8, 10, 11, 12, 13, 14] _ mixed (by decide +kernel) (Sub.refl _) ?_; simp only [List.filterMap_cons, List.filterMap_nil, List.getElem?_cons_succ, List.getElem?_cons_zero, Option.map_some])
  (repeat' (first | simp [go_sem, X_region, *] | simp (disch := omega) only [om, *] | ((first | refine XC_split ?_ ?_ | refine XG_true ?_ ?_ | refine XG_false ?_ ?_ | refine XRg_true ?_ ?_ | refine XRg_false ?_ ?_) <;> intro hc <;> (try simp only [bl] at hc) <;> (try (exfalso; omega))) | refine XD_w [] [] [] (fun _ => none) mixed (by decide +kernel) (sub_none _) ?_ | refine Pure.call (k1) ?_ | refine ⟨_, Pure.at (k1), ?_⟩ | refine ⟨_, k1, ?_⟩ | refine PureAt.call (k1) ?_ | refine Pure.call (k2) ?_ | refine ⟨_, Pure.at (k2), ?_⟩ | refine ⟨_, k2, ?_⟩ | refine PureAt.call (k2) ?_ | fail))
  refine (k3 _).mono fun r g o => ?_
  have e1 := o.1 b1 _ ((upd_ne _ _ n2).trans (upd_same _ _ _))
  have e2 := o.1 b2 _ (upd_same _ _ _)
  have hcM := own_cells o
  refine ⟨o.1, ?_⟩
  (repeat' (first | simp [go_sem, X_region, *] | simp (disch := omega) only [om, *] | ((first | refine XC_split ?_ ?_ | refine XG_true ?_ ?_ | refine XG_false ?_ ?_ | refine XRg_true ?_ ?_ | refine XRg_false ?_ ?_) <;> intro hc <;> (try simp only [bl] at hc) <;> (try (exfalso; omega))) | refine XD_w [] [] [] (fun _ => none) mixed (by decide +kernel) (sub_none _) ?_ | fail))
  exact ⟨_, _, Wk.refl _ _, r, rfl, own_up (Sub.upd hb2 (Sub.upd hb1 (Sub.upd hb2 (Sub.upd hb1 (Sub.refl _))))) (own_other (own_other o ((upd_ne _ _ n2).trans (upd_same _ _ _))) ((upd_ne _ _ n1).trans (upd_same _ _ _)))⟩
end Go.Proofs.YtmalhikcdideoaaGreatDoor

set_option linter.unusedVariables false
set_option linter.unusedSimpArgs false
namespace Go.Proofs.YtmalhikcdideoaaGreatDoor
open Go Sl
attribute [local irreducible] XRange LpQ XR XRo XRg XRQ putQ XFv XL XW2 wQ putW X XO XOp XH XHo XW SeqQ BlkQ XOQ XHQ NrmQ XC XM XG XHM XHG XD CallK
open Go.RowKit
/-- What the parts of an act may have at most. -/
structure ActOk (x : Acx) : Prop where
  at_ : x.attrs.length ≤ 1048576
  tb : x.tables.length ≤ 1048576 ∧ ∀ t ∈ x.tables, t.steps.length ≤ 1048576
  ar : x.arts.length ≤ 1048576 ∧ ∀ y ∈ x.arts, (y.cond.length ≤ 1048576 ∧ ∀ z ∈ y.cond, z.kids.length ≤ 1048576) ∧ (y.thn.length ≤ 1048576 ∧ ∀ z ∈ y.thn, z.kids.length ≤ 1048576) ∧ y.over.length ≤ 1048576
/-- An act whose first k articles have slices of the call's own. -/
def midM (k : Nat) (x : Acx) (R O : Nat → AV) : La → Mem
  | .ov p => if p < k then actM x R O (.ov p) else nilM
  | .row j => actM x R O (.row j)
theorem Fam.one {B h : Hp} {a : AV} {e : TypeId} {s n : Nat} {f : Nat → Nat → AV} (o : Own B h a e s n f) : Fam B h (fun _ : Unit => ⟨a, e, s, n, f⟩) := ⟨o.1, fun _ => .inl o, fun i j hij => absurd rfl hij⟩
def rows3 (r1 r2 r3 : AV) (k : Nat) : AV := if k = 0 then r1 else if k = 1 then r2 else r3
def ovs (l : List Arx) (p : Nat) : AV := encL 2 cRf (l.getD p arx0).over
theorem arC_ovs {l : List Arx} {p : Nat} (hp : p < l.length) (j : Nat) : arC l (ovs l) p j = cellsL cArx l p j := by
  have hx : l[p]? = some (l[p]'hp) := List.getElem?_eq_getElem hp
  rw [cellsL_get hx]
  have hg : l.getD p arx0 = l[p]'hp := by rw [List.getD_eq_getElem?_getD, hx]; rfl
  unfold arC ovs
  rw [hg]
  by_cases h : j = 4
  · subst h; rfl
  · rw [if_neg h]
theorem mid_start {B g1 g2 g3 : Hp} {x : Acx} {r1 r2 r3 : AV} (q1 : Own B g1 r1 99 7 x.attrs.length (cellsL cAtx x.attrs)) (q2 : Own g1 g2 r2 43 5 x.tables.length (cellsL cTb x.tables)) (q3 : Own g2 g3 r3 50 6 x.arts.length (cellsL cArx x.arts)) :
    Fam B g3 (midM 0 x (rows3 r1 r2 r3) (ovs x.arts)) := by
  have q3' : Own g2 g3 r3 50 6 x.arts.length (arC x.arts (ovs x.arts)) := Own.congr q3 fun i hi j hj => (arC_ovs hi j).symm
  refine (((Fam.one q1).join (Fam.one q2)).join (Fam.one q3')).re (φ := fun l => match l with
    | .row 0 => some (.inl (.inl ()))
    | .row 1 => some (.inl (.inr ()))
    | .row 2 => some (.inr ())
    | _ => none) (fun a b i h1 h2 => ?_) fun l => ?_
  · rcases a with a | a <;> rcases b with b | b
    · match a, b, h1, h2 with
      | 0, 0, _, _ => rfl
      | 1, 1, _, _ => rfl
      | 2, 2, _, _ => rfl
      | 0, 1, h1, h2 => cases h1; cases h2
      | 0, 2, h1, h2 => cases h1; cases h2
      | 1, 0, h1, h2 => cases h1; cases h2
      | 1, 2, h1, h2 => cases h1; cases h2
      | 2, 0, h1, h2 => cases h1; cases h2
      | 2, 1, h1, h2 => cases h1; cases h2
      | 0, b + 3, _, h2 => cases h2
      | 1, b + 3, _, h2 => cases h2
      | 2, b + 3, _, h2 => cases h2
      | a + 3, _, h1, _ => cases h1
    · cases h2
    · cases h1
    · cases h1
  · rcases l with k | p
    · match k with
      | 0 => exact .inl ⟨_, rfl, rfl⟩
      | 1 => exact .inl ⟨_, rfl, rfl⟩
      | 2 => exact .inl ⟨_, rfl, rfl⟩
      | k + 3 => exact .inr ⟨rfl, rfl, rfl⟩
    · exact .inr ⟨rfl, by simp [midM, nilM], by simp [midM, nilM]⟩
open Classical in
theorem Fam.rewrite {ι : Type} {B h : Hp} {m : ι → Mem} {i : ι} {c : Nat} {oc oc' : Ob} (F : Fam B h m) (hrow : (m i).a = .row c (m i).s 0 (m i).n) (hc : h c = some oc) (e1 : oc'.s = oc.s) (e2 : oc'.ty = oc.ty) (e3 : oc'.n = oc.n)
    (hf : ∀ p, p < (m i).n → ∀ q, q < (m i).s → oc'.f p q = (m i).f p q) : Fam B (upd h c (some oc')) m :=
  (F.write (x := m i) hrow hc e1 e2 e3 rfl rfl rfl rfl hf).ext fun j => by
    by_cases h : j = i
    · rw [if_pos h, h]
    · rw [if_neg h]
/-- A member that is not empty: its block. -/
theorem Fam.at {ι : Type} {B h : Hp} {m : ι → Mem} (F : Fam B h m) (i : ι) (hn : 0 < (m i).n) : ∃ c oc, (m i).a = .row c (m i).s 0 (m i).n ∧ B c = none ∧ h c = some oc ∧ oc.s = (m i).s ∧ oc.ty = (m i).e ∧ oc.n = (m i).n ∧ ∀ p, p < (m i).n → ∀ q, q < (m i).s → oc.f p q = (m i).f p q := by
  rcases (OwnE.row (F.own i) hn).2 with ⟨h1, _⟩ | ⟨c, oc, h1, h2, h3, h4, h5, h6, _, h7⟩
  · omega
  · exact ⟨c, oc, h1, h2, h3, h4, h5, h6, h7⟩
theorem lenE {P : Program} {t e' e : TypeId} {B h : Hp} {a : AV} {s n : Nat} {f : Nat → Nat → AV} (hu : P.underlying t = some (.slice e')) (o : OwnE B h a e s n f) : lenA P t a = some (n : Int) := by
  rcases o with o | ⟨_, h0, h1⟩
  · rcases o.2 with ⟨h0, h1 | h1⟩ | ⟨b, ob, h1, _⟩
    · subst h0; rw [h1]; simp [lenA, hu]
    · subst h0; rw [h1]; simp [lenA, hu]
    · rw [h1]; simp [lenA, hu]
  · rw [h1]; simp [lenA, hu]
/-- An article's exceptions are of the call's own now. -/
theorem mid_step {B g g' : Hp} {k : Nat} {X : Acx} {R O : Nat → AV} {o : AV} {c : Nat} {oc oc' : Ob} (F : Fam B g (midM k X R O)) (q : Own g g' o 25 2 (X.arts.getD k arx0).over.length (cellsL cRf (X.arts.getD k arx0).over)) (hrow : R 2 = .row c 6 0 X.arts.length) (hc : g' c = some oc)
    (e1 : oc'.s = oc.s) (e2 : oc'.ty = oc.ty) (e3 : oc'.n = oc.n) (hf : ∀ p, p < X.arts.length → ∀ j, j < 6 → oc'.f p j = arC X.arts (upd O k o) p j) : Fam B (upd g' c (some oc')) (midM (k + 1) X R (upd O k o)) := by
  classical
  have F2 := Fam.write (i := Sum.inl (La.row 2)) (F.join (Fam.one q)) (x := ⟨R 2, 50, 6, X.arts.length, arC X.arts (upd O k o)⟩) hrow hc e1 e2 e3 rfl rfl rfl rfl hf
  refine F2.re (φ := fun l => match l with
    | .row j => some (.inl (.row j))
    | .ov p => if p = k then some (.inr ()) else if p < k then some (.inl (.ov p)) else none) (fun a b i h1 h2 => ?_) fun l => ?_
  · rcases a with a | a <;> rcases b with b | b <;> simp only at h1 h2
    · rw [← h2] at h1; simp at h1; rw [h1]
    · simp only [Option.some.injEq] at h1
      subst h1
      split at h2
      · simp at h2
      · split at h2 <;> simp at h2
    · simp only [Option.some.injEq] at h2
      subst h2
      split at h1
      · simp at h1
      · split at h1 <;> simp at h1
    · split at h1 <;> split at h2
      · rename_i ea eb; rw [ea, eb]
      · simp only [Option.some.injEq] at h1
        subst h1
        split at h2 <;> simp at h2
      · simp only [Option.some.injEq] at h2
        subst h2
        split at h1 <;> simp at h1
      · split at h1
        · split at h2
          · simp only [Option.some.injEq] at h1 h2
            rw [← h2] at h1
            simp at h1
            rw [h1]
          · cases h2
        · cases h1
  · rcases l with j | p
    · refine .inl ⟨_, rfl, ?_⟩
      match j with
      | 0 => simp [midM, actM]
      | 1 => simp [midM, actM]
      | 2 => simp [midM, actM]
      | j + 3 => simp [midM, actM]
    · by_cases hp : p = k
      · subst hp
        exact .inl ⟨.inr (), by simp, by simp [midM, actM, upd_same]⟩
      · by_cases hl : p < k
        · exact .inl ⟨.inl (.ov p), by simp [hp, hl], by simp [midM, actM, hl, show p < k + 1 by omega, upd_ne _ _ hp]⟩
        · exact .inr ⟨by simp [hp, hl], by simp [midM, nilM, show ¬ p < k + 1 by omega], by simp [midM, nilM, show ¬ p < k + 1 by omega]⟩
theorem mid_end {B g : Hp} {X : Acx} {R O : Nat → AV} (F : Fam B g (midM X.arts.length X R O)) (hO : ∀ p, X.arts.length ≤ p → O p = ovs X.arts p) : Fam B g (actM X R O) := by
  have big : ∀ p, X.arts.length ≤ p → actM X R O (.ov p) = ⟨.sl 2 0 (cellsL cRf []), 25, 2, 0, cellsL cRf []⟩ := fun p hp => by
    have hg : X.arts.getD p arx0 = arx0 := by rw [List.getD_eq_getElem?_getD, List.getElem?_eq_none hp]; rfl
    show (⟨O p, _, _, _, _⟩ : Mem) = _
    rw [hO p hp]
    unfold ovs
    rw [hg]
    rfl
  have small : ∀ l, (∃ p, l = .ov p ∧ X.arts.length ≤ p) ∨ actM X R O l = midM X.arts.length X R O l := fun l => by
    rcases l with j | p
    · exact .inr rfl
    · rcases Nat.lt_or_ge p X.arts.length with h | h
      · exact .inr (by simp [midM, h])
      · exact .inl ⟨p, rfl, h⟩
  refine ⟨F.sub, fun l => ?_, fun l l' hl c h1 h2 => ?_⟩
  · rcases small l with ⟨p, rfl, hp⟩ | h
    · rw [big p hp]; exact .inr ⟨F.sub, rfl, rfl⟩
    · rw [h]; exact F.own l
  · rcases small l with ⟨p, rfl, hp⟩ | h
    · rw [big p hp] at h1; cases h1
    · rcases small l' with ⟨p, rfl, hp⟩ | h'
      · rw [big p hp] at h2; cases h2
      · rw [h] at h1; rw [h'] at h2; exact F.apart l l' hl c h1 h2
set_option maxHeartbeats 4000000 in
theorem copyAct_ok (x : Acx) (hx : ActOk x) (h : Hp) :
    CallK Tryz.prog h 81 [aggL (cAcx x)] fun r h' => ∃ R O, r = aggL (acL x R) ∧ Fam h h' (actM x R O) := by
  have k1 := cloneAt_ok x.attrs hx.at_
  have k2 := cloneTb_ok x.tables hx.tb.1
  have k3 := cloneAr_ok x.arts hx.ar.1
  obtain ⟨nm, lv, dt, attrs, tables, arts⟩ := x
  obtain ⟨h1, ⟨h2, h3⟩, h4, h5⟩ := hx
  dsimp only at *
  obtain ⟨X, hX⟩ : ∃ X : Acx, X = ⟨nm, lv, dt, attrs, tables, arts⟩ := ⟨_, rfl⟩
  refine callK_body Tryz.func81 rfl (by rw [nt81]; simp) ?_; rw [nt81, rs81]
  (repeat' (first | simp [go_sem, X_region, *] | simp (disch := omega) only [om, *] | ((first | refine XC_split ?_ ?_ | refine XG_true ?_ ?_ | refine XG_false ?_ ?_ | refine XRg_true ?_ ?_ | refine XRg_false ?_ ?_) <;> intro hc <;> (try simp only [bl] at hc) <;> (try (exfalso; omega))) | refine XD_w [] [] [] (fun _ => none) mixed (by decide +kernel) (sub_none _) ?_ | fail))
  intro b1 hb1
  (repeat' (first | simp [go_sem, X_region, *] | simp (disch := omega) only [om, *] | ((first | refine XC_split ?_ ?_ | refine XG_true ?_ ?_ | refine XG_false ?_ ?_ | refine XRg_true ?_ ?_ | refine XRg_false ?_ ?_) <;> intro hc <;> (try simp only [bl] at hc) <;> (try (exfalso; omega))) | refine XD_w [] [] [] (fun _ => none) mixed (by decide +kernel) (sub_none _) ?_ | fail))
  intro b2 n1 n2 hb2
  (repeat' (first | simp [go_sem, X_region, *] | simp (disch := omega) only [om, *] | ((first | refine XC_split ?_ ?_ | refine XG_true ?_ ?_ | refine XG_false ?_ ?_ | refine XRg_true ?_ ?_ | refine XRg_false ?_ ?_) <;> intro hc <;> (try simp only [bl] at hc) <;> (try (exfalso; omega))) | fail))
  refine XD_abs (fun H => Sub h H ∧ (∃ ob, H b1 = some ob ∧ ob.ty = 37 ∧ ob.s = 6 ∧ ob.n = 1 ∧ ob.f 0 0 = S nm ∧ ob.f 0 1 = I lv ∧ ob.f 0 2 = I dt ∧ ob.f 0 3 = encL 7 cAtx attrs ∧ ob.f 0 4 = encL 5 cTb tables ∧ ob.f 0 5 = encL 6 cArx arts) ∧ ∃ ob, H b2 = some ob ∧ ob.ty = 37 ∧ ob.s = 6 ∧ ob.n = 1)
    ⟨Sub.upd hb2 (Sub.upd hb1 (Sub.refl _)), ⟨_, (upd_ne _ _ n2).trans (upd_same _ _ _), rfl, rfl, rfl, rfl, rfl, rfl, rfl, rfl, rfl⟩, _, upd_same _ _ _, rfl, rfl, rfl⟩ ?_
  rintro H0 ⟨sH, ⟨ob, u1, u2, u3, u4, f0, f1, f2, f3, f4, f5⟩, ob2, v1, v2, v3, v4⟩
  (refine XD_p [] [1, 4, 7] [2, 5, 8] [0, 3, 6, 1, 4, 7, 2, 9, 5, 8, 10, 11, 12, 13, 14] _ mixed (by decide +kernel) (Sub.refl _) ?_; simp only [List.filterMap_cons, List.filterMap_nil, List.getElem?_cons_succ, List.getElem?_cons_zero, Option.map_some])
  (repeat' (first | simp [go_sem, X_region, *] | simp (disch := omega) only [om, *] | ((first | refine XC_split ?_ ?_ | refine XG_true ?_ ?_ | refine XG_false ?_ ?_ | refine XRg_true ?_ ?_ | refine XRg_false ?_ ?_) <;> intro hc <;> (try simp only [bl] at hc) <;> (try (exfalso; omega))) | refine XD_w [] [] [] (fun _ => none) mixed (by decide +kernel) (sub_none _) ?_ | fail))
  refine (k1 _).mono fun r1 g1 q1 => ?_
  have c1 := own_cells q1
  refine ⟨q1.1, ?_⟩
  (repeat' (first | simp [go_sem, X_region, *] | simp (disch := omega) only [om, *] | ((first | refine XC_split ?_ ?_ | refine XG_true ?_ ?_ | refine XG_false ?_ ?_ | refine XRg_true ?_ ?_ | refine XRg_false ?_ ?_) <;> intro hc <;> (try simp only [bl] at hc) <;> (try (exfalso; omega))) | refine XD_w [] [] [] (fun _ => none) mixed (by decide +kernel) (sub_none _) ?_ | fail))
  refine (k2 _).mono fun r2 g2 q2 => ?_
  have c2 := own_cells q2
  refine ⟨fun h => h.trans q2.1, ?_⟩
  (repeat' (first | simp [go_sem, X_region, *] | simp (disch := omega) only [om, *] | ((first | refine XC_split ?_ ?_ | refine XG_true ?_ ?_ | refine XG_false ?_ ?_ | refine XRg_true ?_ ?_ | refine XRg_false ?_ ?_) <;> intro hc <;> (try simp only [bl] at hc) <;> (try (exfalso; omega))) | refine XD_w [] [] [] (fun _ => none) mixed (by decide +kernel) (sub_none _) ?_ | fail))
  refine (k3 _).mono fun r3 g3 q3 => ?_
  have c3 := own_cells q3
  refine ⟨fun h => h.trans q3.1, ?_⟩
  have e1 := q3.1 b1 _ (q2.1 b1 _ (q1.1 b1 _ u1))
  have F0 := fun ob' => Fam.other (o2 := ob') (mid_start (x := X) (by rw [hX]; exact q1) (by rw [hX]; exact q2) (by rw [hX]; exact q3)) u1
  have hl2 := lenE und34 (.inl q2)
  have hl3 := lenE und35 (.inl q3)
  simp only [go_sem] at hl2 hl3
  have ha : X.arts = arts := by rw [hX]
  rw [ha] at F0
  replace ha : Hid (X.arts = arts) := ⟨ha⟩
  have hb : Hid (X.tables = tables) := ⟨by rw [hX]⟩
  replace hX : Hid (X = ⟨nm, lv, dt, attrs, tables, arts⟩) := ⟨hX⟩
  have v5 : b2 ≠ b1 := n1
  (repeat' (first | simp [go_sem, X_region, *] | simp (disch := omega) only [om, *] | ((first | refine XC_split ?_ ?_ | refine XG_true ?_ ?_ | refine XG_false ?_ ?_ | refine XRg_true ?_ ?_ | refine XRg_false ?_ ?_) <;> intro hc <;> (try simp only [bl] at hc) <;> (try (exfalso; omega))) | refine XD_w [] [] [] (fun _ => none) mixed (by decide +kernel) (sub_none _) ?_ | fail))
  refine X_lpF (fun i => i = 3 ∨ (20 ≤ i ∧ i ≤ 33)) (fun n T g => ∃ (i : Nat) (ob : Ob), n + i = tables.length ∧ T 20 = I i ∧ Fam (upd H0 b1 (some ob)) g (midM 0 X (rows3 r1 r2 r3) (ovs arts)) ∧ ob.ty = 37 ∧ ob.s = 6 ∧ ob.n = 1 ∧ ob.f 0 0 = S nm ∧ ob.f 0 1 = I lv ∧ ob.f 0 2 = I dt ∧ ob.f 0 3 = r1 ∧ ob.f 0 4 = r2 ∧ ob.f 0 5 = r3) tables.length
    ⟨0, _, by omega, by simp [go_sem], F0 _, by first | exact u2 | rfl, by first | exact u3 | rfl, by first | exact u4 | rfl, by simp [f0], by simp [f1], by simp [f2], by simp, by simp, by simp⟩ ?_
  clear F0 e1 q1 q2 q3
  rintro J hJ n T g hfr ⟨i, ob', hn, t20, F, p2, p3, p4, d0, d1, d2, d3, d4, d5⟩
  have e1 := F.sub b1 _ (upd_same _ _ _)
  by_cases hlt : i < tables.length
  · obtain ⟨c, oc, w1, w2, w3, w4, w5, w6, w7⟩ := F.at (.row 1) (by show 0 < X.tables.length; rw [hb.out]; omega)
    replace w1 : r2 = .row c 5 0 tables.length := by rw [← hb.out]; exact w1
    replace w6 : oc.n = tables.length := by rw [← hb.out]; exact w6
    replace w4 : oc.s = 5 := w4
    replace w5 : oc.ty = 43 := w5
    have w8 : ∀ p, p < tables.length → ∀ q, q < 5 → oc.f p q = cellsL cTb tables p q := by rw [← hb.out]; exact w7
    clear w7
    obtain ⟨y, hy⟩ : ∃ y, tables[i]'hlt = y := ⟨_, rfl⟩
    have hy? : tables[i]? = some y := by rw [List.getElem?_eq_getElem hlt, hy]
    have hct := copyTable_ok y (h3 y (by rw [← hy]; exact List.getElem_mem hlt))
    have hcell : ∀ q, q < 5 → oc.f i q = (cTb y).getD q .any := fun q hq => by rw [w8 i hlt q hq, cellsL_get hy?]
    have z0 : oc.f i 0 = S y.name := hcell 0 (by decide)
    have z1 : oc.f i 1 = I y.fr := hcell 1 (by decide)
    have z2 : oc.f i 2 = I y.to := hcell 2 (by decide)
    have z3 : oc.f i 3 = B y.sl := hcell 3 (by decide)
    have z4 : oc.f i 4 = encL 2 cSt y.steps := hcell 4 (by decide)
    replace w8 : Hid (∀ p, p < tables.length → ∀ q, q < 5 → oc.f p q = cellsL cTb tables p q) := ⟨w8⟩
    clear hcell
    (repeat' (first | simp [go_sem, X_region, *] | simp (disch := omega) only [om, *] | ((first | refine XC_split ?_ ?_ | refine XG_true ?_ ?_ | refine XG_false ?_ ?_ | refine XRg_true ?_ ?_ | refine XRg_false ?_ ?_) <;> intro hc <;> (try simp only [bl] at hc) <;> (try (exfalso; omega))) | fail))
    refine XD_w [] [1, 4, 7] [] _ mixed (by decide +kernel) (Sub.refl _) ?_
    (repeat' (first | simp [go_sem, X_region, *] | simp (disch := omega) only [om, *] | ((first | refine XC_split ?_ ?_ | refine XG_true ?_ ?_ | refine XG_false ?_ ?_ | refine XRg_true ?_ ?_ | refine XRg_false ?_ ?_) <;> intro hc <;> (try simp only [bl] at hc) <;> (try (exfalso; omega))) | refine XD_w [] [] [] (fun _ => none) mixed (by decide +kernel) (sub_none _) ?_ | refine Pure.call (hct) ?_ | refine ⟨_, Pure.at (hct), ?_⟩ | refine ⟨_, hct, ?_⟩ | refine PureAt.call (hct) ?_ | fail))
    refine ⟨n - 1, by omega, hJ.out _ _ _ ⟨(by (repeat (refine fr_upd (by decide) ?_)); exact hfr), i + 1, ob', by omega, by simp [go_sem], F.rewrite (i := .row 1) (c := c) (oc := oc) (by show r2 = .row c 5 0 X.tables.length; rw [hb.out]; exact w1) w3 w4.symm w5.symm w6.symm fun p hp q hq => ?_, p2, p3, p4, d0, d1, d2, d3, d4, d5⟩⟩
    replace hp : p < tables.length := by rw [← hb.out]; exact hp
    show (if p = i ∧ q < 5 then [S y.name, I y.fr, I y.to, B y.sl, AV.sl 2 y.steps.length (cellsL cSt y.steps)][q]?.getD AV.any else oc.f p q) = cellsL cTb X.tables p q
    rw [hb.out]
    replace hq : q < 5 := hq
    by_cases hpi : p = i
    · subst hpi
      rw [if_pos ⟨rfl, hq⟩, cellsL_get hy?]
      rcases (show q = 0 ∨ q = 1 ∨ q = 2 ∨ q = 3 ∨ q = 4 by omega) with rfl | rfl | rfl | rfl | rfl
      all_goals rfl
    · rw [if_neg fun h => hpi h.1]
      exact w8.out p hp q hq
  (repeat' (first | simp [go_sem, X_region, *] | simp (disch := omega) only [om, *] | ((first | refine XC_split ?_ ?_ | refine XG_true ?_ ?_ | refine XG_false ?_ ?_ | refine XRg_true ?_ ?_ | refine XRg_false ?_ ?_) <;> intro hc <;> (try simp only [bl] at hc) <;> (try (exfalso; omega))) | refine XD_w [] [] [] (fun _ => none) mixed (by decide +kernel) (sub_none _) ?_ | fail))
  refine X_lpF (fun i => i = 4 ∨ (37 ≤ i ∧ i ≤ 50)) (fun n T g => ∃ (k : Nat) (ob : Ob) (O : Nat → AV), n + k = arts.length ∧ T 37 = I k ∧ Fam (upd H0 b1 (some ob)) g (midM k X (rows3 r1 r2 r3) O) ∧ Hid (∀ p, k ≤ p → O p = ovs arts p) ∧ ob.ty = 37 ∧ ob.s = 6 ∧ ob.n = 1 ∧ ob.f 0 0 = S nm ∧ ob.f 0 1 = I lv ∧ ob.f 0 2 = I dt ∧ ob.f 0 3 = r1 ∧ ob.f 0 4 = r2 ∧ ob.f 0 5 = r3) arts.length
    ⟨0, ob', _, by omega, by simp [go_sem], F, ⟨fun _ _ => rfl⟩, p2, p3, p4, d0, d1, d2, d3, d4, d5⟩ ?_
  clear F e1 p2 p3 p4 d0 d1 d2 d3 d4 d5
  rintro J2 hJ2 n2 T2 g2 hfr2 ⟨k, ob3, O, hn2, t37, F, hO, p2, p3, p4, d0, d1, d2, d3, d4, d5⟩
  have e1 := F.sub b1 _ (upd_same _ _ _)
  by_cases hlk : k < arts.length
  · obtain ⟨c, oc, w1, w2, w3, w4, w5, w6, w7⟩ := F.at (.row 2) (by show 0 < X.arts.length; rw [ha.out]; omega)
    replace w1 : r3 = .row c 6 0 arts.length := by rw [← ha.out]; exact w1
    replace w6 : oc.n = arts.length := by rw [← ha.out]; exact w6
    replace w4 : oc.s = 6 := w4
    replace w5 : oc.ty = 50 := w5
    have w8 : ∀ p, p < arts.length → ∀ q, q < 6 → oc.f p q = arC arts O p q := by rw [← ha.out]; exact w7
    clear w7
    obtain ⟨y, hy⟩ : ∃ y, arts[k]'hlk = y := ⟨_, rfl⟩
    have hy? : arts[k]? = some y := by rw [List.getElem?_eq_getElem hlk, hy]
    have hg : arts.getD k arx0 = y := by rw [List.getD_eq_getElem?_getD, hy?]; rfl
    obtain ⟨y1, y2, y3⟩ := h5 y (by rw [← hy]; exact List.getElem_mem hlk)
    have hct := copyArticle_ok y y1 y2 y3
    have hov : O k = encL 2 cRf y.over := by rw [hO.out k (Nat.le_refl _)]; unfold ovs; rw [hg]
    have hcell : ∀ q, q < 6 → oc.f k q = (cArx y).getD q .any := fun q hq => by
      rw [w8 k hlk q hq]
      unfold arC
      rw [hg]
      by_cases h4 : q = 4
      · subst h4; rw [if_pos rfl, hov]; rfl
      · rw [if_neg h4]
    have z0 : oc.f k 0 = S y.name := hcell 0 (by decide)
    have z1 : oc.f k 1 = S y.target := hcell 1 (by decide)
    have z2 : oc.f k 2 = encL 5 cNd y.cond := hcell 2 (by decide)
    have z3 : oc.f k 3 = encL 5 cNd y.thn := hcell 3 (by decide)
    have z4 : oc.f k 4 = encL 2 cRf y.over := hcell 4 (by decide)
    have z5 : oc.f k 5 = I y.weight := hcell 5 (by decide)
    replace w8 : Hid (∀ p, p < arts.length → ∀ q, q < 6 → oc.f p q = arC arts O p q) := ⟨w8⟩
    replace hg : Hid (arts.getD k arx0 = y) := ⟨hg⟩
    clear hcell hov
    (repeat' (first | simp [go_sem, X_region, *] | simp (disch := omega) only [om, *] | ((first | refine XC_split ?_ ?_ | refine XG_true ?_ ?_ | refine XG_false ?_ ?_ | refine XRg_true ?_ ?_ | refine XRg_false ?_ ?_) <;> intro hc <;> (try simp only [bl] at hc) <;> (try (exfalso; omega))) | fail))
    refine XD_w [] [1, 4, 7] [8] _ mixed (by decide +kernel) (Sub.refl _) ?_
    (repeat' (first | simp [go_sem, X_region, *] | simp (disch := omega) only [om, *] | ((first | refine XC_split ?_ ?_ | refine XG_true ?_ ?_ | refine XG_false ?_ ?_ | refine XRg_true ?_ ?_ | refine XRg_false ?_ ?_) <;> intro hc <;> (try simp only [bl] at hc) <;> (try (exfalso; omega))) | refine XD_w [] [] [] (fun _ => none) mixed (by decide +kernel) (sub_none _) ?_ | fail))
    refine (hct _).mono ?_
    rintro r g3 ⟨o, rfl, q⟩
    refine ⟨q.1, ?_⟩
    have w9 := q.1 c oc w3
    have e3 := q.1 b1 _ e1
    have co := own_cells q
    clear hct
    (repeat' (first | simp [go_sem, X_region, *] | simp (disch := omega) only [om, *] | ((first | refine XC_split ?_ ?_ | refine XG_true ?_ ?_ | refine XG_false ?_ ?_ | refine XRg_true ?_ ?_ | refine XRg_false ?_ ?_) <;> intro hc <;> (try simp only [bl] at hc) <;> (try (exfalso; omega))) | refine XD_w [] [] [] (fun _ => none) mixed (by decide +kernel) (sub_none _) ?_ | fail))
    have hgx : X.arts.getD k arx0 = y := by rw [ha.out]; exact hg.out
    refine ⟨n2 - 1, by omega, hJ2.out _ _ _ ⟨(by (repeat (refine fr_upd (by decide) ?_)); exact hfr2), k + 1, ob3, upd O k o, by omega, by simp [go_sem], mid_step F (by rw [hgx]; exact q) (by show r3 = .row c 6 0 X.arts.length; rw [ha.out]; exact w1) w9 w4.symm w5.symm w6.symm fun p hp j hj => ?_, ⟨fun p hp => by rw [upd_ne _ _ (by omega)]; exact hO.out p (by omega)⟩, p2, p3, p4, d0, d1, d2, d3, d4, d5⟩⟩
    replace hp : p < arts.length := by rw [← ha.out]; exact hp
    show (if p = k ∧ j < 6 then [S y.name, S y.target, AV.sl 5 y.cond.length (cellsL cNd y.cond), AV.sl 5 y.thn.length (cellsL cNd y.thn), o, I y.weight][j]?.getD AV.any else oc.f p j) = arC X.arts (upd O k o) p j
    rw [ha.out]
    by_cases hpk : p = k
    · subst hpk
      rw [if_pos ⟨rfl, hj⟩]
      unfold arC
      rw [hg.out, upd_same]
      rcases (show j = 0 ∨ j = 1 ∨ j = 2 ∨ j = 3 ∨ j = 4 ∨ j = 5 by omega) with rfl | rfl | rfl | rfl | rfl | rfl
      all_goals rfl
    · rw [if_neg fun h => hpk h.1, w8.out p hp j hj]
      unfold arC
      rw [upd_ne _ _ hpk]
  have hk : k = arts.length := by omega
  have hv1 : g2 b2 = some ob2 := F.sub b2 _ (by rw [upd_ne _ _ n1]; exact v1)
  subst hk
  have F2 := mid_end (by rw [ha.out]; exact F) (fun p hp => by rw [ha.out] at hp ⊢; exact hO.out p hp)
  (repeat' (first | simp [go_sem, X_region, *] | simp (disch := omega) only [om, *] | ((first | refine XC_split ?_ ?_ | refine XG_true ?_ ?_ | refine XG_false ?_ ?_ | refine XRg_true ?_ ?_ | refine XRg_false ?_ ?_) <;> intro hc <;> (try simp only [bl] at hc) <;> (try (exfalso; omega))) | refine XD_w [] [] [] (fun _ => none) mixed (by decide +kernel) (sub_none _) ?_ | fail))
  refine ⟨_, _, Wk.refl _ _, rows3 r1 r2 r3, rfl, O, ?_⟩
  rw [← hX.out]
  exact (F2.other ((upd_ne _ _ n1).trans v1)).up (Sub.upd hb2 (Sub.upd hb1 sH))
end Go.Proofs.YtmalhikcdideoaaGreatDoor

set_option linter.unusedVariables false
set_option linter.unusedSimpArgs false
namespace Go.Proofs.YtmalhikcdideoaaGreatDoor
open Go Sl
attribute [local irreducible] XRange LpQ XR XRo XRg XRQ putQ XFv XL XW2 wQ putW X XO XOp XH XHo XW SeqQ BlkQ XOQ XHQ NrmQ XC XM XG XHM XHG XD CallK
open Go.RowKit
def actAt (b : List Acx) (i : Nat) : Acx := b.getD i acx0
set_option maxHeartbeats 4000000 in
theorem scopy_ok (b : List Acx) (hb : b.length ≤ 1048576) (hx : ∀ x ∈ b, ActOk x) (h : Hp) :
    CallK Tryz.prog h 24 [encL 6 cAcx b] fun r h' => ∃ R O, Bdy h h' r b.length (actAt b) R O := by
  refine CallK.lens fun hlen => ?_; have hlen := (hlen _ (by simp only [List.mem_cons, true_or, or_true] : (encL 6 cAcx b) ∈ _)).encL
  refine callK_body Tryz.func24 rfl (by rw [nt24]; simp) ?_; rw [nt24, rs24]
  (repeat' (first | simp [go_sem, X_region, *] | simp (disch := omega) only [om, *] | ((first | refine XC_split ?_ ?_ | refine XG_true ?_ ?_ | refine XG_false ?_ ?_ | refine XRg_true ?_ ?_ | refine XRg_false ?_ ?_) <;> intro hc <;> (try simp only [bl] at hc) <;> (try (exfalso; omega))) | refine XD_w [] [] [] (fun _ => none) mixed (by decide +kernel) (sub_none _) ?_ | fail))
  refine X_lpF (fun i => i = 3 ∨ i = 5 ∨ (8 ≤ i ∧ i ≤ 17)) (fun n T g => ∃ (i : Nat) (A : Nat → Acx) (R O : Nat → Nat → AV), n + i = b.length ∧ T 8 = I i ∧ Bdy h g (T 3) i A R O ∧ Hid (∀ k, A k = if k < i then actAt b k else acx0)) b.length
    ⟨0, fun _ => acx0, _, _, by omega, by simp [go_sem], by simpa [go_sem] using Bdy.start (fun _ => rfl), ⟨fun k => by simp⟩⟩ ?_
  rintro J hJ n T g hfr ⟨i, A, R, O, hn, t8, B, hA⟩
  by_cases hlt : i < b.length
  · obtain ⟨y, hy⟩ : ∃ y, b[i]'hlt = y := ⟨_, rfl⟩
    have hy? : b[i]? = some y := by rw [List.getElem?_eq_getElem hlt, hy]
    have hca := copyAct_ok y (hx y (by rw [← hy]; exact List.getElem_mem hlt))
    (repeat' (first | simp [go_sem, X_region, *] | simp (disch := omega) only [om, *] | ((first | refine XC_split ?_ ?_ | refine XG_true ?_ ?_ | refine XG_false ?_ ?_ | refine XRg_true ?_ ?_ | refine XRg_false ?_ ?_) <;> intro hc <;> (try simp only [bl] at hc) <;> (try (exfalso; omega))) | refine XD_w [] [] [] (fun _ => none) mixed (by decide +kernel) (sub_none _) ?_ | fail))
    intro b5 hb5
    (repeat' (first | simp [go_sem, X_region, *] | simp (disch := omega) only [om, *] | ((first | refine XC_split ?_ ?_ | refine XG_true ?_ ?_ | refine XG_false ?_ ?_ | refine XRg_true ?_ ?_ | refine XRg_false ?_ ?_) <;> intro hc <;> (try simp only [bl] at hc) <;> (try (exfalso; omega))) | refine XD_w [] [] [] (fun _ => none) mixed (by decide +kernel) (sub_none _) ?_ | fail))
    refine (hca _).mono ?_
    rintro r g1 ⟨R', O', rfl, F⟩
    clear hca
    have B2 := fun oc => B.with (oc := oc) hb5
    (repeat' (first | simp [go_sem, X_region, *] | simp (disch := omega) only [om, *] | ((first | refine XC_split ?_ ?_ | refine XG_true ?_ ?_ | refine XG_false ?_ ?_ | refine XRg_true ?_ ?_ | refine XRg_false ?_ ?_) <;> intro hc <;> (try simp only [bl] at hc) <;> (try (exfalso; omega))) | refine XD_w [] [] [] (fun _ => none) mixed (by decide +kernel) (sub_none _) ?_ | fail))
    intro bl hbl
    refine Bdy.push (x := y) (R' := R') (O' := O') (B2 _) F (by simp [go_sem]) und23 zr37 by37 (by simp [go_sem]) hbl (by simp [go_sem]) rfl (Nat.le_refl _) (fun j hj => ?_) (by omega) (by omega) fun a1 h1 B3 => ?_
    · rcases (show j = 0 ∨ j = 1 ∨ j = 2 ∨ j = 3 ∨ j = 4 ∨ j = 5 by omega) with rfl | rfl | rfl | rfl | rfl | rfl
      all_goals rfl
    have B4 := B3.up (Sub.upd (sub_none_of B.fam.sub hb5) (Sub.refl _))
    (repeat' (first | simp [go_sem, X_region, *] | simp (disch := omega) only [om, *] | ((first | refine XC_split ?_ ?_ | refine XG_true ?_ ?_ | refine XG_false ?_ ?_ | refine XRg_true ?_ ?_ | refine XRg_false ?_ ?_) <;> intro hc <;> (try simp only [bl] at hc) <;> (try (exfalso; omega))) | refine XD_w [] [] [] (fun _ => none) mixed (by decide +kernel) (sub_none _) ?_ | fail))
    refine ⟨n - 1, by omega, hJ.out _ _ _ ⟨(by (repeat (refine fr_upd (by decide) ?_)); exact hfr), i + 1, upd A i y, upd R i R', upd O i O', by omega, by simp [go_sem], by simpa [go_sem] using B4, ⟨fun k => ?_⟩⟩⟩
    by_cases hk : k = i
    · subst hk
      rw [upd_same, if_pos (Nat.lt_succ_self _)]
      unfold actAt
      rw [List.getD_eq_getElem?_getD, hy?]
      rfl
    · rw [upd_ne _ _ hk, hA.out k]
      by_cases hki : k < i
      · rw [if_pos hki, if_pos (by omega)]
      · rw [if_neg hki, if_neg (by omega)]
  have hi : i = b.length := by omega
  subst hi
  have hAe : A = actAt b := by
    funext k
    rw [hA.out k]
    by_cases hk : k < b.length
    · rw [if_pos hk]
    · rw [if_neg hk]
      unfold actAt
      rw [List.getD_eq_getElem?_getD, List.getElem?_eq_none (by omega)]
      rfl
  rw [hAe] at B
  (repeat' (first | simp [go_sem, X_region, *] | simp (disch := omega) only [om, *] | ((first | refine XC_split ?_ ?_ | refine XG_true ?_ ?_ | refine XG_false ?_ ?_ | refine XRg_true ?_ ?_ | refine XRg_false ?_ ?_) <;> intro hc <;> (try simp only [bl] at hc) <;> (try (exfalso; omega))) | refine XD_w [] [] [] (fun _ => none) mixed (by decide +kernel) (sub_none _) ?_ | fail))
  exact ⟨_, _, Wk.refl _ _, R, O, B⟩
end Go.Proofs.YtmalhikcdideoaaGreatDoor
