/- PROVED: the law TreeCuts returns true for every two expressions and every integer, and all read behind the call as they read before (the second form's row, and its tied card). Conditions: what the row itself asks (the listed variables of Go's library read as listed; what is read is of bulk at most 1048576). -/
import Derived.Test.YtmalhikcdideoaaDoorN2
import Derived.Test.YtmalhikcdideoaaDoorN1
import Derived.Test.YtmalhikcdideoaaDoorSlS
import Derived.ChangeArms
import Derived.ChangeOld
import Derived.SizedLaws
import Derived.ChangeShapes
import Derived.WideShapes
import Derived.Test.YtmalhikcdideoaaDoorRows
import Derived.Test.YtmalhikcdideoaaDoorN0
import Derived.Test.YtmalhikcdideoaaDoorFactsB
import Derived.WalkKit
import Derived.ProofKit
import Derived.OpenShut
import Derived.KernelRfl
import Derived.MakeChecks
import Derived.Test.YtmalhikcdideoaaDoorCards
import Derived.Test.YtmalhikcdideoaaDoorTie
import Derived.LaidMore
import Derived.Lay
import Derived.ShutString
import Derived.Below
import Derived.SevenTiedAt
import Derived.Deep.DeepHandedRow
set_option linter.unusedVariables false
set_option linter.unusedSimpArgs false
namespace Go.Proofs.YtmalhikcdideoaaDoor
open Go Sl
attribute [local irreducible] XRange LpQ XR XRo XRg XRQ putQ XFv XL XW2 wQ putW X XO XOp XH XHo XW SeqQ BlkQ XOQ XHQ NrmQ XC XM XG XHM XHG XD CallK
open Go.RowKit
def shN (d : Int) (x : Nd) : Nd := { x with kids := x.kids.map (· + d) }
theorem shN_shN (a b : Int) (x : Nd) : shN a (shN b x) = shN (b + a) x := by
  unfold shN
  simp only [List.map_map]
  congr 1
  refine List.map_congr_left fun k _ => ?_
  show k + b + a = k + (b + a)
  omega
theorem shN_zero (x : Nd) : shN 0 x = x := by
  unfold shN
  simp
mutual
def flatT : Tr → List Nd
  | .mk x ks => (flatL ks [] []).1 ++ [{ x with kids := (flatL ks [] []).2 }]
def flatL : List Tr → List Nd → List Int → List Nd × List Int
  | [], out, kids => (out, kids)
  | t :: r, out, kids => flatL r (out ++ (flatT t).map (shN out.length)) (kids ++ [((out ++ (flatT t).map (shN out.length)).length : Int) - 1])
end
mutual
theorem flatT_len : ∀ t : Tr, ((flatT t).length : Int) = sizeT t
  | .mk x ks => by
    rw [flatT, sizeT, List.length_append, List.length_singleton]
    have := flatL_len ks [] []
    simp only [List.length_nil] at this
    omega
theorem flatL_len : ∀ (ts : List Tr) (out : List Nd) (kids : List Int), ((flatL ts out kids).1.length : Int) = out.length + sizeL ts
  | [], out, kids => by rw [flatL, sizeL]; simp
  | t :: r, out, kids => by
    rw [flatL, sizeL, flatL_len r]
    have := flatT_len t
    rw [List.length_append, List.length_map]
    omega
end
/-- tree.copied, the kids by another function. -/
def copL (c : List Nd → Nat → List Nd) : List Int → List Nd → List Int → List Nd × List Int
  | [], out, kids => (out, kids)
  | k :: r, out, kids => copL c r (c out k.toNat) (kids ++ [((c out k.toNat).length : Int) - 1])
def copF (e : List Nd) : Nat → List Nd → Nat → List Nd
  | 0, out, p => out ++ [bare (ndAt e p)]
  | f + 1, out, p => (copL (copF e f) (ndAt e p).kids out []).1 ++ [{ ndAt e p with kids := (copL (copF e f) (ndAt e p).kids out []).2 }]
theorem copL_flat (c : List Nd → Nat → List Nd) (tr : Nat → Tr) (hc : ∀ out p, c out p = out ++ (flatT (tr p)).map (shN out.length)) (out0 : List Nd) : ∀ (ks : List Int) (A : List Nd) (K : List Int),
    copL c ks (out0 ++ A.map (shN out0.length)) (K.map (· + (out0.length : Int))) = (out0 ++ (flatL (ks.map fun k => tr k.toNat) A K).1.map (shN out0.length), (flatL (ks.map fun k => tr k.toNat) A K).2.map (· + (out0.length : Int)))
  | [], A, K => by rw [copL, List.map_nil, flatL]
  | k :: r, A, K => by
    have h1 : c (out0 ++ A.map (shN out0.length)) k.toNat = out0 ++ (A ++ (flatT (tr k.toNat)).map (shN A.length)).map (shN out0.length) := by
      rw [hc, List.append_assoc, List.map_append, List.map_map]
      congr 2
      refine List.map_congr_left fun x _ => ?_
      have e : ((A.length : Nat) : Int) + (out0.length : Nat) = ((out0.length + A.length : Nat) : Int) := by omega
      rw [Function.comp_apply, shN_shN, List.length_append, List.length_map, e]
    rw [copL, List.map_cons, flatL, h1]
    have h2 : K.map (· + (out0.length : Int)) ++ [((out0 ++ (A ++ (flatT (tr k.toNat)).map (shN A.length)).map (shN out0.length)).length : Int) - 1] = (K ++ [((A ++ (flatT (tr k.toNat)).map (shN A.length)).length : Int) - 1]).map (· + (out0.length : Int)) := by
      have e : ((out0 ++ (A ++ (flatT (tr k.toNat)).map (shN A.length)).map (shN out0.length)).length : Int) - 1 = ((A ++ (flatT (tr k.toNat)).map (shN A.length)).length : Int) - 1 + (out0.length : Int) := by
        simp only [List.length_append, List.length_map]
        omega
      rw [e]
      simp only [List.map_append, List.map_cons, List.map_nil]
    rw [h2]
    exact copL_flat c tr hc out0 r _ _
theorem copF_flat (e : List Nd) : ∀ (f : Nat) (out : List Nd) (p : Nat), copF e f out p = out ++ (flatT (treeF e f p)).map (shN out.length)
  | 0, out, p => by
    rw [copF, treeF, flatT, flatL]
    simp [shN, bare]
  | f + 1, out, p => by
    have h := copL_flat (copF e f) (fun q => treeF e f q) (fun o q => copF_flat e f o q) out (ndAt e p).kids [] []
    simp only [List.map_nil, List.append_nil] at h
    rw [copF, treeF, flatT, h, List.map_append, List.append_assoc]
    congr 2
/-- What tree.Cut answers of a valid expression, below one of its nodes. -/
theorem copied_tree (e : List Nd) (p : Nat) : copF e (p + 1) [] p = flatT (treeAt e p) := by
  rw [copF_flat, treeAt, List.nil_append]
  have : (shN ((([] : List Nd).length : Nat) : Int)) = id := funext fun x => shN_zero x
  rw [this, List.map_id]
end Go.Proofs.YtmalhikcdideoaaDoor

set_option linter.unusedVariables false
set_option linter.unusedSimpArgs false
namespace Go.Proofs.YtmalhikcdideoaaDoor
open Go Sl
attribute [local irreducible] XRange LpQ XR XRo XRg XRQ putQ XFv XL XW2 wQ putW X XO XOp XH XHo XW SeqQ BlkQ XOQ XHQ NrmQ XC XM XG XHM XHG XD CallK
open Go.RowKit
mutual
/-- Each node of a tree, with how many kids it has. -/
def AllT (Q : Nd → Nat → Prop) : Tr → Prop
  | .mk x ks => Q x ks.length ∧ AllL Q ks
def AllL (Q : Nd → Nat → Prop) : List Tr → Prop
  | [] => True
  | t :: r => AllT Q t ∧ AllL Q r
end
theorem AllL_of {Q : Nd → Nat → Prop} : ∀ ts : List Tr, (∀ t ∈ ts, AllT Q t) → AllL Q ts
  | [], _ => by rw [AllL]; trivial
  | t :: r, h => by rw [AllL]; exact ⟨h t (List.mem_cons_self ..), AllL_of r fun u hu => h u (List.mem_cons_of_mem _ hu)⟩
theorem AllL_mem {Q : Nd → Nat → Prop} : ∀ ts : List Tr, AllL Q ts → ∀ t ∈ ts, AllT Q t
  | u :: r, h, t, ht => by
    rw [AllL] at h
    rcases List.mem_cons.1 ht with rfl | ht
    · exact h.1
    · exact AllL_mem r h.2 t ht
theorem treeAt_all {e : List Nd} (hv : Vd e) (Q : Nd → Nat → Prop) (hQ : ∀ (i : Nat) (x : Nd), e[i]? = some x → Q (bare x) x.kids.length) (p : Nat) (hp : p < e.length) : AllT Q (treeAt e p) := by
  induction p using Nat.strongRecOn with
  | ind p ih =>
    obtain ⟨x, hxe⟩ : ∃ x, e[p] = x := ⟨_, rfl⟩
    have hx : e[p]? = some x := by rw [List.getElem?_eq_getElem hp, hxe]
    have hnd : ndAt e p = x := by unfold ndAt; rw [List.getD_eq_getElem?_getD, hx]; rfl
    rw [treeAt_eq hv, AllT, hnd, List.length_map]
    refine ⟨hQ p x hx, AllL_of _ fun t ht => ?_⟩
    obtain ⟨k, hk, rfl⟩ := List.mem_map.1 ht
    have := hv.out p x hx k hk
    exact ih k.toNat (by omega) (by omega)
/-- What is asked of a node that is written down: its kids' number and size. -/
structure NdOk (Q : Nd → Nat → Prop) (m : Int) (x : Nd) : Prop where
  own : Q (bare x) x.kids.length
  kids : ∀ k ∈ x.kids, -1 ≤ k ∧ k ≤ m
theorem NdOk.mono {Q : Nd → Nat → Prop} {m m' : Int} {x : Nd} (h : NdOk Q m x) (hm : m ≤ m') : NdOk Q m' x := ⟨h.own, fun k hk => ⟨(h.kids k hk).1, by have := (h.kids k hk).2; omega⟩⟩
theorem NdOk.shift {Q : Nd → Nat → Prop} {m : Int} {x : Nd} (h : NdOk Q m x) (d : Int) (hd : 0 ≤ d) : NdOk Q (m + d) (shN d x) := by
  refine ⟨?_, fun k hk => ?_⟩
  · have := h.own
    unfold shN
    simp only [List.length_map]
    exact this
  · unfold shN at hk
    obtain ⟨q, hq, rfl⟩ := List.mem_map.1 hk
    have := h.kids q hq
    omega
mutual
theorem flatT_ok {Q : Nd → Nat → Prop} : ∀ t : Tr, AllT Q t → (∀ x n, Q x n ↔ Q (bare x) n) → ∀ x ∈ flatT t, NdOk Q (sizeT t) x
  | .mk y ks, h, hQ => by
    rw [AllT] at h
    rw [flatT, sizeT]
    have hp := sizeL_pos ks
    obtain ⟨h1, h2, h3⟩ := flatL_ok ks [] [] h.2 hQ (fun x hx => by cases hx) fun k hk => by cases hk
    intro x hx
    rcases List.mem_append.1 hx with hx | hx
    · exact (h1 x hx).mono (by simp; omega)
    · rw [List.mem_singleton.1 hx]
      refine ⟨?_, fun k hk => ?_⟩
      · simp only [h3, List.length_nil, Nat.zero_add]
        exact (hQ y ks.length).1 h.1
      · have := h2 k hk
        simp at this
        omega
theorem flatL_ok {Q : Nd → Nat → Prop} : ∀ (ts : List Tr) (out : List Nd) (kids : List Int), AllL Q ts → (∀ x n, Q x n ↔ Q (bare x) n) → (∀ x ∈ out, NdOk Q (out.length + sizeL ts) x) → (∀ k ∈ kids, -1 ≤ k ∧ k ≤ out.length + sizeL ts) →
    (∀ x ∈ (flatL ts out kids).1, NdOk Q (out.length + sizeL ts) x) ∧ (∀ k ∈ (flatL ts out kids).2, -1 ≤ k ∧ k ≤ out.length + sizeL ts) ∧ (flatL ts out kids).2.length = kids.length + ts.length
  | [], out, kids, _, _, h1, h2 => by rw [flatL]; exact ⟨h1, h2, by simp⟩
  | t :: r, out, kids, h, hQ, h1, h2 => by
    rw [AllL] at h
    rw [sizeL] at h1 h2 ⊢
    rw [flatL]
    have hp := sizeL_pos r
    have hl := flatT_len t
    have hlen : ((out ++ (flatT t).map (shN out.length)).length : Int) = out.length + sizeT t := by
      rw [List.length_append, List.length_map]; omega
    obtain ⟨g1, g2, g3⟩ := flatL_ok r (out ++ (flatT t).map (shN out.length)) (kids ++ [((out ++ (flatT t).map (shN out.length)).length : Int) - 1]) h.2 hQ (fun x hx => by
      rcases List.mem_append.1 hx with hx | hx
      · exact (h1 x hx).mono (by omega)
      · obtain ⟨y, hy, rfl⟩ := List.mem_map.1 hx
        exact ((flatT_ok t h.1 hQ y hy).shift out.length (by omega)).mono (by omega)) fun k hk => by
      rcases List.mem_append.1 hk with hk | hk
      · have := h2 k hk; omega
      · have := sizeT_pos t
        rw [List.mem_singleton.1 hk]; omega
    refine ⟨fun x hx => (g1 x hx).mono (by rw [hlen]; omega), fun k hk => ?_, by rw [g3]; simp; omega⟩
    have := g2 k hk
    rw [hlen] at this
    omega
end
end Go.Proofs.YtmalhikcdideoaaDoor

set_option linter.unusedVariables false
set_option linter.unusedSimpArgs false
namespace Go.Proofs.YtmalhikcdideoaaDoor
open Go Sl
attribute [local irreducible] XRange LpQ XR XRo XRg XRQ putQ XFv XL XW2 wQ putW X XO XOp XH XHo XW SeqQ BlkQ XOQ XHQ NrmQ XC XM XG XHM XHG XD CallK
open Go.RowKit
/-- What tree.copied appends. -/
def copA (e : List Nd) (out : List Nd) (p : Nat) : List Nd := out ++ (flatT (treeAt e p)).map (shN out.length)
theorem copA_len (e out : List Nd) (p : Nat) : ((copA e out p).length : Int) = out.length + sizeT (treeAt e p) := by
  unfold copA
  rw [List.length_append, List.length_map]
  have := flatT_len (treeAt e p)
  omega
/-- The kids are appended one after the other, then the node. -/
theorem copA_eq {e : List Nd} (hv : Vd e) (out : List Nd) (p : Nat) : copA e out p = (copL (copA e) (ndAt e p).kids out []).1 ++ [{ ndAt e p with kids := (copL (copA e) (ndAt e p).kids out []).2 }] := by
  have h := copL_flat (copA e) (fun q => treeAt e q) (fun o q => rfl) out (ndAt e p).kids [] []
  simp only [List.map_nil, List.append_nil] at h
  rw [h]
  unfold copA
  rw [treeAt_eq hv, flatT, List.map_append, List.append_assoc]
  congr 2
theorem copL_len (e : List Nd) : ∀ (ks : List Int) (out : List Nd) (kids : List Int), ((copL (copA e) ks out kids).1.length : Int) = out.length + sizeL (ks.map fun k => treeAt e k.toNat) ∧ (copL (copA e) ks out kids).2.length = kids.length + ks.length
  | [], out, kids => by rw [copL, List.map_nil, sizeL]; simp
  | k :: r, out, kids => by
    rw [copL, List.map_cons, sizeL]
    obtain ⟨h1, h2⟩ := copL_len e r (copA e out k.toNat) (kids ++ [((copA e out k.toNat).length : Int) - 1])
    have h3 := copA_len e out k.toNat
    refine ⟨by omega, ?_⟩
    rw [h2]
    simp
    omega
set_option maxHeartbeats 4000000 in
theorem copied_ok (e : List Nd) (hv : Vd e) (hk3 : ∀ (i : Nat) (x : Nd), e[i]? = some x → x.kids.length ≤ 3) (p : Nat) (hp : p < e.length) :
    ∀ (h0 h : Hp) (a : AV) (acc : List Nd), Own h0 h a 39 5 acc.length (cellsL cNd acc) → acc.length + sizeT (treeAt e p) ≤ 1000000 →
      CallK Tryd.prog h 70 [a, encL 5 cNd e, I p] fun r h' => Own h0 h' r 39 5 (copA e acc p).length (cellsL cNd (copA e acc p)) := by
  induction p using Nat.strongRecOn with
  | ind p ih =>
    intro h0 h a acc own hb
    obtain ⟨x, hxe⟩ : ∃ x, e[p] = x := ⟨_, rfl⟩
    have hx : e[p]? = some x := by rw [List.getElem?_eq_getElem hp, hxe]
    have hnd : ndAt e p = x := by unfold ndAt; rw [List.getD_eq_getElem?_getD, hx]; rfl
    have hkx := hv.out p x hx
    have hk3' := hk3 p x hx
    have hsz : sizeT (treeAt e p) = sizeL (x.kids.map fun k => treeAt e k.toNat) + 1 := by rw [treeAt_eq hv, sizeT, hnd]
    have hfin := copA_eq hv acc p
    rw [hnd] at hfin
    obtain ⟨R, hR⟩ : ∃ R, copL (copA e) x.kids acc [] = R := ⟨_, rfl⟩
    rw [hR] at hfin
    have hRl := copL_len e x.kids acc []
    rw [hR] at hRl
    rw [hfin]
    have ihk : ∀ k ∈ x.kids, ∀ (h0 h : Hp) (a : AV) (acc : List Nd), Own h0 h a 39 5 acc.length (cellsL cNd acc) → acc.length + sizeT (treeAt e k.toNat) ≤ 1000000 →
        CallK Tryd.prog h 70 [a, encL 5 cNd e, I k] fun r h' => Own h0 h' r 39 5 (copA e acc k.toNat).length (cellsL cNd (copA e acc k.toNat)) := fun k hk => by
      have h1 := hkx k hk
      obtain ⟨m, rfl⟩ : ∃ m : Nat, k = m := ⟨k.toNat, by omega⟩
      rw [Int.toNat_natCast]
      exact ih m (by omega) (by omega)
    clear ih
    refine callK_body Tryd.func70 rfl (by rw [nt70]; simp) ?_; rw [nt70, rs70]
    (repeat' (first | simp [go_sem, X_region, *] | simp (disch := omega) only [om, *] | ((first | refine XC_split ?_ ?_ | refine XG_true ?_ ?_ | refine XG_false ?_ ?_ | refine XRg_true ?_ ?_ | refine XRg_false ?_ ?_) <;> intro hc <;> (try simp only [bl] at hc) <;> (try (exfalso; omega))) | refine XD_w [] [] [] (fun _ => none) mixed (by decide +kernel) (sub_none _) ?_ | fail))
    intro b7 hb7
    have hb70 : h0 b7 = none := sub_none_of own.1 hb7
    (repeat' (first | simp [go_sem, X_region, *] | simp (disch := omega) only [om, *] | ((first | refine XC_split ?_ ?_ | refine XG_true ?_ ?_ | refine XG_false ?_ ?_ | refine XRg_true ?_ ?_ | refine XRg_false ?_ ?_) <;> intro hc <;> (try simp only [bl] at hc) <;> (try (exfalso; omega))) | refine XD_w [] [] [] (fun _ => none) mixed (by decide +kernel) (sub_none _) ?_ | fail))
    have hi5 := fun ob => own_with (oc := ob) own hb7
    refine X_lpF (fun i => i = 0 ∨ i = 8 ∨ i = 10 ∨ (18 ≤ i ∧ i ≤ 32)) (fun n T g => ∃ (j : Nat) (rk : List Int) (out : List Nd) (ks : List Int) (ob : Ob), n = rk.length ∧ j ≤ x.kids.length ∧ x.kids.drop j = rk ∧ copL (copA e) rk out ks = R ∧ T 18 = I j ∧ ks.length = j ∧ (out.length : Int) + sizeL (rk.map fun k => treeAt e k.toNat) + 1 ≤ 1000000 ∧
        Own (upd h0 b7 (some ob)) g (T 0) 39 5 out.length (cellsL cNd out) ∧ Own (upd h0 b7 (some ob)) g (T 8) 3 1 ks.length (cellsL cI ks) ∧ ob.ty = 39 ∧ ob.s = 5 ∧ ob.n = 1 ∧ ob.f 0 0 = I x.op ∧ ob.f 0 2 = I x.kd ∧ ob.f 0 3 = I x.n ∧ ob.f 0 4 = S x.nm) x.kids.length
      ⟨0, x.kids, acc, [], _, rfl, by omega, rfl, hR, by simp [go_sem], rfl, by omega, by simpa [go_sem] using hi5 _, by simp only [go_sem]; exact ⟨(hi5 _).1, .inl ⟨rfl, .inl (by simp [go_sem])⟩⟩, rfl, rfl, rfl, by simp, by simp, by simp, by simp⟩ ?_
    clear hi5
    rintro J hJ n T g hfr ⟨j, rk, out, ks, ob, rfl, hj, hdk, hRk, t18, hks, hbd, own5, ownK, p1, p2, p3, f0, f2, f3, f4⟩
    have e7 : g b7 = some ob := own5.1 b7 _ (upd_same _ _ _)
    rcases rk with _ | ⟨y, rk⟩
    · have hlt := drop_nil hdk
      rw [copL] at hRk
      subst hRk
      have hcK := own_cells ownK
      dsimp only at *
      (repeat' (first | simp [go_sem, X_region, *] | simp (disch := omega) only [om, *] | ((first | refine XC_split ?_ ?_ | refine XG_true ?_ ?_ | refine XG_false ?_ ?_ | refine XRg_true ?_ ?_ | refine XRg_false ?_ ?_) <;> intro hc <;> (try simp only [bl] at hc) <;> (try (exfalso; omega))) | refine XD_w [] [] [] (fun _ => none) mixed (by decide +kernel) (sub_none _) ?_ | fail))
      intro b hn1 hn2 hb
      have w5 := own_other (o2 := ⟨39, 5, 1, fun i' j' => if i' = 0 ∧ 1 ≤ j' ∧ j' < 2 then T 8 else ob.f i' j'⟩) own5 (upd_same _ _ _)
      have wK := own_other (o2 := ⟨39, 5, 1, fun i' j' => if i' = 0 ∧ 1 ≤ j' ∧ j' < 2 then T 8 else ob.f i' j'⟩) ownK (upd_same _ _ _)
      rw [upd_upd] at w5 wK
      refine X_pushK (x := { x with kids := ks }) w5 (.inl wK) (by simp [go_sem]) und42 zr39 by39 (by simp [go_sem]) (by rw [upd_ne _ _ hn1]; exact hb) (by simp [go_sem]) rfl (Nat.le_refl _) (by simp [f0]) (by simp) (by simp [f2]) (by simp [f3]) (by simp [f4]) (by omega) (by omega) (show ks.length ≤ 140737488355328 by omega) fun a1 h1 h2 w1 w2 w3 => ?_
      (repeat' (first | simp [go_sem, X_region, *] | simp (disch := omega) only [om, *] | ((first | refine XC_split ?_ ?_ | refine XG_true ?_ ?_ | refine XG_false ?_ ?_ | refine XRg_true ?_ ?_ | refine XRg_false ?_ ?_) <;> intro hc <;> (try simp only [bl] at hc) <;> (try (exfalso; omega))) | refine XD_w [] [] [] (fun _ => none) mixed (by decide +kernel) (sub_none _) ?_ | fail))
      exact ⟨_, h2, w2, by simpa only [List.length_append, List.length_singleton] using own_up (Sub.upd hb70 (Sub.refl _)) w3⟩
    · obtain ⟨hlt, hxk, hdk2⟩ := drop_cons hdk
      have hcall := ihk y (by rw [← hxk]; exact List.getElem_mem hlt)
      rw [List.map_cons, sizeL] at hbd
      have hrp := sizeL_pos (rk.map fun k => treeAt e k.toNat)
      have hcl := (copA_len e out y.toNat).symm
      have htp := sizeT_pos (treeAt e y.toNat)
      rw [copL] at hRk
      (repeat' (first | simp [go_sem, X_region, *] | simp (disch := omega) only [om, *] | ((first | refine XC_split ?_ ?_ | refine XG_true ?_ ?_ | refine XG_false ?_ ?_ | refine XRg_true ?_ ?_ | refine XRg_false ?_ ?_) <;> intro hc <;> (try simp only [bl] at hc) <;> (try (exfalso; omega))) | refine XD_w [] [] [] (fun _ => none) mixed (by decide +kernel) (sub_none _) ?_ | fail))
      obtain ⟨H, oH, sH, kH⟩ := own_hole own5
      refine (hcall _ _ _ out oH (by omega)).mono fun r g1 o1 => ?_
      have own51 := own_up sH o1
      have ownK1 := own_keep sH kH o1.1 ownK (own_apartT own5 ownK (by decide))
      clear hcall o1 kH sH oH H
      generalize copA e out y.toNat = out2 at *
      obtain ⟨d5, rfl⟩ := own_row own51 (by omega)
      (repeat' (first | simp [go_sem, X_region, *] | simp (disch := omega) only [om, *] | ((first | refine XC_split ?_ ?_ | refine XG_true ?_ ?_ | refine XG_false ?_ ?_ | refine XRg_true ?_ ?_ | refine XRg_false ?_ ?_) <;> intro hc <;> (try simp only [bl] at hc) <;> (try (exfalso; omega))) | refine XD_w [] [] [] (fun _ => none) mixed (by decide +kernel) (sub_none _) ?_ | fail))
      intro bl hbl
      obtain ⟨HK, oHK, sHK, kHK⟩ := own_hole ownK1
      refine Own.push (x := (out2.length : Int) - 1) (enc := cI) oHK (by simp [go_sem]) und37 zr3 by3 (by simp [go_sem]) hbl (by simp [go_sem]) rfl (Nat.le_refl _) (by simp [go_sem]) (by omega) (by omega) fun a1 h1 hown1 hk1 => ?_
      have own52 := own_keep sHK kHK hown1.1 own51 (own_apartT ownK1 own51 (by decide))
      have ownK2 := own_up sHK hown1
      (repeat' (first | simp [go_sem, X_region, *] | simp (disch := omega) only [om, *] | ((first | refine XC_split ?_ ?_ | refine XG_true ?_ ?_ | refine XG_false ?_ ?_ | refine XRg_true ?_ ?_ | refine XRg_false ?_ ?_) <;> intro hc <;> (try simp only [bl] at hc) <;> (try (exfalso; omega))) | refine XD_w [] [] [] (fun _ => none) mixed (by decide +kernel) (sub_none _) ?_ | fail))
      exact ⟨_, Nat.lt_succ_self _, hJ.out _ _ _ ⟨(by (repeat (refine fr_upd (by decide) ?_)); exact hfr), j + 1, rk, out2, ks ++ [(out2.length : Int) - 1], ob, rfl, by omega, hdk2, hRk, by simp [go_sem], by simp [hks], by omega, by simpa [go_sem] using own52, by simpa [go_sem] using ownK2, p1, p2, p3, f0, f2, f3, f4⟩⟩
/-- What tree.Cut answers. -/
def cutF (e : List Nd) (p : Int) : List Nd := if chkE (oneE nameF) e = 0 ∧ 0 ≤ p ∧ p < e.length then flatT (treeAt e p.toNat) else []
theorem copA_nil (e : List Nd) (p : Nat) : copA e [] p = flatT (treeAt e p) := by
  unfold copA
  rw [List.nil_append]
  have : (shN ((([] : List Nd).length : Nat) : Int)) = id := funext fun x => shN_zero x
  rw [this, List.map_id]
/-- What is known of a valid expression. -/
theorem chk_facts {e : List Nd} (q : chkE (oneE nameF) e = 0) : e.length ≤ 100 ∧ 0 < e.length ∧ Vd e ∧ (∀ (i : Nat) (x : Nd), e[i]? = some x → x.kids.length ≤ 3) ∧ ∀ p, p < e.length → sizeT (treeAt e p) ≤ p + 1 := by
  obtain ⟨a1, a2, a3⟩ := valid_facts (by rw [tree_chk]; exact q)
  have hv : Vd e := ⟨fun i x hx => (a3 i x hx).1⟩
  exact ⟨a1, List.length_pos_iff.2 a2, hv, fun i x hx => by have := (a3 i x hx).2.1; have := ar_le x.op; omega, chk_size (oneE nameF) e hv q⟩
theorem cut_ok (e : List Nd) (p : Int) (hn : ∀ x ∈ e, x.nm.size ≤ 140737488355328) (hel : e.length ≤ 1000000000) : Pure Tryd.prog 33 [encL 5 cNd e, I p] (encL 5 cNd (cutF e p)) := by
  have hc := tcheck_ok e hn
  unfold cutF
  by_cases q : chkE (oneE nameF) e = 0
  case neg =>
    rw [if_neg (fun h => q h.1)]
    generalize chkE (oneE nameF) e = c at *
    intro h; refine callK_body Tryd.func33 rfl (by rw [nt33]; simp) ?_; rw [nt33, rs33]
    (repeat' (first | simp [go_sem, X_region, *] | simp (disch := omega) only [om, *] | ((first | refine XC_split ?_ ?_ | refine XG_true ?_ ?_ | refine XG_false ?_ ?_ | refine XRg_true ?_ ?_ | refine XRg_false ?_ ?_) <;> intro hc <;> (try simp only [bl] at hc) <;> (try (exfalso; omega))) | refine XD_w [] [] [] (fun _ => none) mixed (by decide +kernel) (sub_none _) ?_ | refine Pure.call (hc) ?_ | refine ⟨_, Pure.at (hc), ?_⟩ | refine ⟨_, hc, ?_⟩ | refine PureAt.call (hc) ?_ | fail))
    exact Wk.nil
  by_cases q2 : 0 ≤ p ∧ p < e.length
  case neg =>
    rw [if_neg (fun h => q2 h.2)]
    rw [q] at hc
    intro h; refine callK_body Tryd.func33 rfl (by rw [nt33]; simp) ?_; rw [nt33, rs33]
    (repeat' (first | simp [go_sem, X_region, *] | simp (disch := omega) only [om, *] | ((first | refine XC_split ?_ ?_ | refine XG_true ?_ ?_ | refine XG_false ?_ ?_ | refine XRg_true ?_ ?_ | refine XRg_false ?_ ?_) <;> intro hc <;> (try simp only [bl] at hc) <;> (try (exfalso; omega))) | refine XD_w [] [] [] (fun _ => none) mixed (by decide +kernel) (sub_none _) ?_ | refine Pure.call (hc) ?_ | refine ⟨_, Pure.at (hc), ?_⟩ | refine ⟨_, hc, ?_⟩ | refine PureAt.call (hc) ?_ | fail))
    all_goals first | exact Wk.nil | (exfalso; omega)
  rw [if_pos ⟨q, q2⟩]
  obtain ⟨a1, a2, hv, hk3, hsz⟩ := chk_facts q
  rw [q] at hc
  obtain ⟨m, rfl⟩ : ∃ m : Nat, p = m := ⟨p.toNat, by omega⟩
  rw [Int.toNat_natCast]
  have hm := hsz m (by omega)
  have hcp := fun h : Hp => copied_ok e hv hk3 m (by omega) h h _ [] Own.none (by simp; omega)
  have hfl := flatT_len (treeAt e m)
  rw [copA_nil] at hcp
  generalize flatT (treeAt e m) = R at *
  intro h; refine callK_body Tryd.func33 rfl (by rw [nt33]; simp) ?_; rw [nt33, rs33]
  (repeat' (first | simp [go_sem, X_region, *] | simp (disch := omega) only [om, *] | ((first | refine XC_split ?_ ?_ | refine XG_true ?_ ?_ | refine XG_false ?_ ?_ | refine XRg_true ?_ ?_ | refine XRg_false ?_ ?_) <;> intro hc <;> (try simp only [bl] at hc) <;> (try (exfalso; omega))) | refine XD_w [] [] [] (fun _ => none) mixed (by decide +kernel) (sub_none _) ?_ | refine Pure.call (hc) ?_ | refine ⟨_, Pure.at (hc), ?_⟩ | refine ⟨_, hc, ?_⟩ | refine PureAt.call (hc) ?_ | fail))
  refine (hcp h).mono fun r g o => ?_
  (repeat' (first | simp [go_sem, X_region, *] | simp (disch := omega) only [om, *] | ((first | refine XC_split ?_ ?_ | refine XG_true ?_ ?_ | refine XG_false ?_ ?_ | refine XRg_true ?_ ?_ | refine XRg_false ?_ ?_) <;> intro hc <;> (try simp only [bl] at hc) <;> (try (exfalso; omega))) | refine XD_w [] [] [] (fun _ => none) mixed (by decide +kernel) (sub_none _) ?_ | fail))
  exact o.frozen (by omega)
theorem norm_ok (e : List Nd) (hn : ∀ x ∈ e, x.nm.size ≤ 140737488355328) (hel : e.length ≤ 1000000000) : Pure Tryd.prog 27 [encL 5 cNd e] (encL 5 cNd (cutF e (e.length - 1))) := by
  have hc := cut_ok e (e.length - 1) hn hel
  generalize cutF e (e.length - 1) = R at *
  intro h; refine callK_body Tryd.func27 rfl (by rw [nt27]; simp) ?_; rw [nt27, rs27]
  (repeat' (first | simp [go_sem, X_region, *] | simp (disch := omega) only [om, *] | ((first | refine XC_split ?_ ?_ | refine XG_true ?_ ?_ | refine XG_false ?_ ?_ | refine XRg_true ?_ ?_ | refine XRg_false ?_ ?_) <;> intro hc <;> (try simp only [bl] at hc) <;> (try (exfalso; omega))) | refine XD_w [] [] [] (fun _ => none) mixed (by decide +kernel) (sub_none _) ?_ | refine Pure.call (hc) ?_ | refine ⟨_, Pure.at (hc), ?_⟩ | refine ⟨_, hc, ?_⟩ | refine PureAt.call (hc) ?_ | fail))
end Go.Proofs.YtmalhikcdideoaaDoor

set_option linter.unusedVariables false
set_option linter.unusedSimpArgs false
namespace Go.Proofs.YtmalhikcdideoaaDoor
open Go Sl
attribute [local irreducible] XRange LpQ XR XRo XRg XRQ putQ XFv XL XW2 wQ putW X XO XOp XH XHo XW SeqQ BlkQ XOQ XHQ NrmQ XC XM XG XHM XHG XD CallK
open Go.RowKit
theorem flatL_len2 : ∀ (ts : List Tr) (out : List Nd) (kids : List Int), (flatL ts out kids).2.length = kids.length + ts.length
  | [], out, kids => by rw [flatL]; simp
  | t :: r, out, kids => by rw [flatL, flatL_len2 r]; simp; omega
theorem sub_over {h : Hp} {b1 b4 : Nat} {x y : Option Ob} (hb1 : h b1 = none) : Sub (upd h b4 y) (upd (upd h b1 x) b4 y) := fun c oc hc => by
  by_cases h4 : c = b4
  · subst h4; rw [upd_same] at hc ⊢; exact hc
  · rw [upd_ne _ _ h4] at hc ⊢
    rw [upd_ne _ _ (fun e => by rw [e, hb1] at hc; cases hc)]; exact hc
theorem len_own {h0 h : Hp} {a : AV} {s n : Nat} {f : Nat → Nat → AV} (o : Own h0 h a 39 s n f) : lenA Tryd.prog 42 a = some (n : Int) := by
  rcases o.2 with ⟨h0, h1 | h1⟩ | ⟨b, ob, h1, _⟩
  · subst h0; rw [h1]; simp [go_sem]
  · subst h0; rw [h1]; simp [go_sem]
  · rw [h1]; simp [go_sem]
theorem own_grow {h0 h h1 : Hp} {a : AV} {e : TypeId} {s n : Nat} {f : Nat → Nat → AV} (o : Own h0 h a e s n f) (hS : Sub h h1) : Own h0 h1 a e s n f := by
  refine ⟨o.1.trans hS, ?_⟩
  rcases o.2 with h | ⟨gb, og, h1, h2, h3, h4⟩
  · exact .inl h
  · exact .inr ⟨gb, og, h1, h2, hS _ _ h3, h4⟩
set_option maxHeartbeats 4000000 in
theorem flat_ok (t : Tr) (hs : sizeT t ≤ 1000000) (hk : AllT (fun x n => n ≤ 1000) t) : Pure Tryd.prog 23 [aggL (cTr t)] (encL 5 cNd (flatT t)) := by
  generalize hn : SizeOf.sizeOf t = n
  induction n using Nat.strongRecOn generalizing t with
  | ind n ih =>
    obtain ⟨x, ks⟩ := t
    rw [AllT] at hk
    have ihk : ∀ k ∈ ks, Pure Tryd.prog 23 [aggL (cTr k)] (encL 5 cNd (flatT k)) := fun k hk' => ih (SizeOf.sizeOf k) (by
      have := List.sizeOf_lt_of_mem hk'
      simp only [Tr.mk.sizeOf_spec] at hn
      omega) k (by
      have h1 := sizeL_mem ks k hk'
      rw [sizeT] at hs
      omega) (AllL_mem ks hk.2 k hk') rfl
    have hkf : ∀ k ∈ ks, ∀ y ∈ flatT k, y.kids.length ≤ 1000 ∧ ∀ i ∈ y.kids, -1 ≤ i ∧ i ≤ sizeT k := fun k hk' y hy => by
      have h1 := flatT_ok k (AllL_mem ks hk.2 k hk') (fun x n => Iff.rfl) y hy
      exact ⟨h1.own, h1.kids⟩
    clear ih hn
    have hks := hk.1
    rw [sizeT] at hs
    have hkl := sizeL_len ks
    rw [cTr_mk, flatT]
    obtain ⟨R, hR⟩ : ∃ R, flatL ks [] [] = R := ⟨_, rfl⟩
    have hRl := flatL_len ks [] []
    rw [hR] at hRl ⊢
    intro h; refine callK_body Tryd.func23 rfl (by rw [nt23]; simp) ?_; rw [nt23, rs23]
    (repeat' (first | simp [go_sem, X_region, *] | simp (disch := omega) only [om, *] | ((first | refine XC_split ?_ ?_ | refine XG_true ?_ ?_ | refine XG_false ?_ ?_ | refine XRg_true ?_ ?_ | refine XRg_false ?_ ?_) <;> intro hc <;> (try simp only [bl] at hc) <;> (try (exfalso; omega))) | refine XD_w [] [] [] (fun _ => none) mixed (by decide +kernel) (sub_none _) ?_ | fail))
    intro b1 hb1 b4 n1 n2 hb4
    (repeat' (first | simp [go_sem, X_region, *] | simp (disch := omega) only [om, *] | ((first | refine XC_split ?_ ?_ | refine XG_true ?_ ?_ | refine XG_false ?_ ?_ | refine XRg_true ?_ ?_ | refine XRg_false ?_ ?_) <;> intro hc <;> (try simp only [bl] at hc) <;> (try (exfalso; omega))) | refine XD_w [] [] [] (fun _ => none) mixed (by decide +kernel) (sub_none _) ?_ | fail))
    refine X_lpF (fun i => i = 3 ∨ (6 ≤ i ∧ i ≤ 7) ∨ (9 ≤ i ∧ i ≤ 10) ∨ i = 12 ∨ (19 ≤ i ∧ i ≤ 61)) (fun n T g => ∃ (i : Nat) (r : List Tr) (out : List Nd) (kids : List Int) (ob : Ob) (ka : AV), n = r.length ∧ i ≤ ks.length ∧ ks.drop i = r ∧ flatL r out kids = R ∧ T 19 = I i ∧ kids.length = i ∧ (out.length : Int) + sizeL r + 1 ≤ 1000000 ∧
        Own (upd h b4 (some ob)) g (T 3) 39 5 out.length (cellsL cNd out) ∧ Own (upd h b4 (some ob)) g ka 3 1 kids.length (cellsL cI kids) ∧ ob.ty = 39 ∧ ob.s = 5 ∧ ob.n = 1 ∧ ob.f 0 0 = I x.op ∧ ob.f 0 1 = ka ∧ ob.f 0 2 = I x.kd ∧ ob.f 0 3 = I x.n ∧ ob.f 0 4 = S x.nm) ks.length
      ⟨0, ks, [], [], _, .v (.slice none 0 0), rfl, by omega, rfl, hR, by simp [go_sem], rfl, by simp; omega, by simp only [go_sem]; exact ⟨sub_over hb1, .inl ⟨rfl, .inl (by simp [go_sem])⟩⟩, ⟨sub_over hb1, .inl ⟨rfl, .inl rfl⟩⟩, rfl, rfl, rfl, by simp, by simp, by simp, by simp, by simp⟩ ?_
    clear hR
    rintro J hJ n T g hfr ⟨i, r, out, kids, ob, ka, rfl, hi, hd, hR, t19, hkk, hbd, own5, ownK, p1, p2, p3, f0, f1, f2, f3, f4⟩
    have e4 : g b4 = some ob := own5.1 b4 _ (upd_same _ _ _)
    rcases r with _ | ⟨y, r⟩
    · have hlt := drop_nil hd
      rw [flatL] at hR
      rw [sizeL] at hbd
      subst hR
      dsimp only at *
      (repeat' (first | simp [go_sem, X_region, *] | simp (disch := omega) only [om, *] | ((first | refine XC_split ?_ ?_ | refine XG_true ?_ ?_ | refine XG_false ?_ ?_ | refine XRg_true ?_ ?_ | refine XRg_false ?_ ?_) <;> intro hc <;> (try simp only [bl] at hc) <;> (try (exfalso; omega))) | refine XD_w [] [] [] (fun _ => none) mixed (by decide +kernel) (sub_none _) ?_ | fail))
      intro b hb
      refine X_pushK (x := { x with kids := kids }) own5 (.inl ownK) (by simp [go_sem]) und42 zr39 by39 (by simp [go_sem]) hb (by simp [go_sem]) rfl (Nat.le_refl _) (by simp) (by simp) (by simp) (by simp) (by simp) (by omega) (by omega) (show kids.length ≤ 140737488355328 by omega) fun a1 h1 h2 w1 w2 w3 => ?_
      have w4 := w3.frozen (by simp; omega)
      simp only [List.length_append, List.length_singleton] at w4
      (repeat' (first | simp [go_sem, X_region, *] | simp (disch := omega) only [om, *] | ((first | refine XC_split ?_ ?_ | refine XG_true ?_ ?_ | refine XG_false ?_ ?_ | refine XRg_true ?_ ?_ | refine XRg_false ?_ ?_) <;> intro hc <;> (try simp only [bl] at hc) <;> (try (exfalso; omega))) | refine XD_w [] [] [] (fun _ => none) mixed (by decide +kernel) (sub_none _) ?_ | fail))
      exact (w2.trans w4).trans (Wk.drop _ (Sub.upd hb4 (Sub.refl _)))
    · obtain ⟨hlt, hx, hd2⟩ := drop_cons hd
      have hmem : y ∈ ks := by rw [← hx]; exact List.getElem_mem hlt
      have hcall := ihk y hmem
      have hky := hkf y hmem
      have hly := flatT_len y
      rw [sizeL] at hbd
      rw [flatL] at hR
      have hrp := sizeL_pos r
      generalize flatT y = Y at *
      obtain ⟨yx, yk⟩ := y
      rw [cTr_mk] at hcall
      generalize sizeT (Tr.mk yx yk) = sz at *
      have hlen := len_own own5
      simp only [go_sem] at hlen
      (repeat' (first | simp [go_sem, X_region, *] | simp (disch := omega) only [om, *] | ((first | refine XC_split ?_ ?_ | refine XG_true ?_ ?_ | refine XG_false ?_ ?_ | refine XRg_true ?_ ?_ | refine XRg_false ?_ ?_) <;> intro hc <;> (try simp only [bl] at hc) <;> (try (exfalso; omega))) | refine XD_w [] [] [] (fun _ => none) mixed (by decide +kernel) (sub_none _) ?_ | refine Pure.call (hcall) ?_ | refine ⟨_, Pure.at (hcall), ?_⟩ | refine ⟨_, hcall, ?_⟩ | refine PureAt.call (hcall) ?_ | fail))
      intro b6 hb6
      (repeat' (first | simp [go_sem, X_region, *] | simp (disch := omega) only [om, *] | ((first | refine XC_split ?_ ?_ | refine XG_true ?_ ?_ | refine XG_false ?_ ?_ | refine XRg_true ?_ ?_ | refine XRg_false ?_ ?_) <;> intro hc <;> (try simp only [bl] at hc) <;> (try (exfalso; omega))) | refine XD_w [] [] [] (fun _ => none) mixed (by decide +kernel) (sub_none _) ?_ | refine Pure.call (hcall) ?_ | refine ⟨_, Pure.at (hcall), ?_⟩ | refine ⟨_, hcall, ?_⟩ | refine PureAt.call (hcall) ?_ | fail))
      obtain ⟨OUT, hOUT⟩ : ∃ OUT, out ++ Y.map (shN out.length) = OUT := ⟨_, rfl⟩
      rw [hOUT] at hR
      have hOl : OUT.length = out.length + Y.length := by rw [← hOUT]; simp
      refine X_lpFW (fun i => i = 3 ∨ (9 ≤ i ∧ i ≤ 10) ∨ i = 12 ∨ (28 ≤ i ∧ i ≤ 52)) (fun n T g => ∃ (j : Nat) (r2 acc : List Nd), n = r2.length ∧ j ≤ Y.length ∧ Y.drop j = r2 ∧ acc ++ r2.map (shN out.length) = OUT ∧ T 28 = I j ∧ acc.length = out.length + j ∧
        Own (upd h b4 (some ob)) g (T 3) 39 5 acc.length (cellsL cNd acc) ∧ Own (upd h b4 (some ob)) g ka 3 1 kids.length (cellsL cI kids)) Y.length
        ⟨0, Y, out, rfl, by omega, rfl, hOUT, by simp [go_sem], rfl, by simpa [go_sem] using own5.alloc hb6, ownK.alloc hb6⟩ ?_
      clear hOUT own5 ownK hb6 e4 hlen
      rintro J2 hJ2 n2 T2 g2 hfr2 ⟨j, r2, acc, rfl, hj, hdj, hacc, t28, hal, own5, ownK⟩
      have e4 : g2 b4 = some ob := own5.1 b4 _ (upd_same _ _ _)
      rcases r2 with _ | ⟨z, r2⟩
      · have hltj := drop_nil hdj
        obtain rfl : acc = OUT := by simpa using hacc
        clear hacc
        have hol3 : (out.length : Int) + sz = (acc.length : Int) := by omega
        clear hOl hal
        have hlen := len_own own5
        simp only [go_sem] at hlen
        (repeat' (first | simp [go_sem, X_region, *] | simp (disch := omega) only [om, *] | ((first | refine XC_split ?_ ?_ | refine XG_true ?_ ?_ | refine XG_false ?_ ?_ | refine XRg_true ?_ ?_ | refine XRg_false ?_ ?_) <;> intro hc <;> (try simp only [bl] at hc) <;> (try (exfalso; omega))) | refine XD_w [] [] [] (fun _ => none) mixed (by decide +kernel) (sub_none _) ?_ | fail))
        intro bl hbl
        obtain ⟨HK, oHK, sHK, kHK⟩ := own_hole ownK
        refine Own.push (x := (acc.length : Int) - 1) (enc := cI) oHK (by simp [go_sem]) und37 zr3 by3 (by simp [go_sem]) hbl (by simp [go_sem]) rfl (Nat.le_refl _) (by simp [go_sem]) (by omega) (by omega) fun a1 h1 hown1 hk1 => ?_
        have own52 := own_keep sHK kHK hown1.1 own5 (own_apartT ownK own5 (by decide))
        have ownK2 := own_up sHK hown1
        rw [List.length_append, List.length_singleton, hkk] at ownK2
        obtain ⟨dk, rfl⟩ := own_row ownK2 (by omega)
        have e42 : h1 b4 = some ob := own52.1 b4 _ (upd_same _ _ _)
        (repeat' (first | simp [go_sem, X_region, *] | simp (disch := omega) only [om, *] | ((first | refine XC_split ?_ ?_ | refine XG_true ?_ ?_ | refine XG_false ?_ ?_ | refine XRg_true ?_ ?_ | refine XRg_false ?_ ?_) <;> intro hc <;> (try simp only [bl] at hc) <;> (try (exfalso; omega))) | refine XD_w [] [] [] (fun _ => none) mixed (by decide +kernel) (sub_none _) ?_ | fail))
        have w5 := own_other (o2 := ⟨39, 5, 1, fun i' j' => if i' = 0 ∧ 1 ≤ j' ∧ j' < 2 then .row dk 1 0 (i + 1) else ob.f i' j'⟩) own52 (upd_same _ _ _)
        have wK := own_other (o2 := ⟨39, 5, 1, fun i' j' => if i' = 0 ∧ 1 ≤ j' ∧ j' < 2 then .row dk 1 0 (i + 1) else ob.f i' j'⟩) ownK2 (upd_same _ _ _)
        rw [upd_upd] at w5 wK
        exact ⟨_, Nat.lt_succ_self _, hJ.out _ _ _ ⟨(by (repeat (refine fr_upd (by decide) ?_)); exact fr_in (by intro i; omega) hfr2 (by (repeat (refine fr_upd (by decide) ?_)); exact hfr)), i + 1, r, acc, kids ++ [(acc.length : Int) - 1], _, .row dk 1 0 (i + 1), rfl, by omega, hd2, hR, by simp [go_sem], by simp [hkk], by omega, by simpa [go_sem] using w5, by rw [List.length_append, List.length_singleton, hkk]; exact wK, rfl, rfl, rfl, by simp [f0], by simp, by simp [f2], by simp [f3], by simp [f4]⟩⟩
      · obtain ⟨hltj, hxj, hdj2⟩ := drop_cons hdj
        obtain ⟨hz1, hz2⟩ := hky z (by rw [← hxj]; exact List.getElem_mem hltj)
        (repeat' (first | simp [go_sem, X_region, *] | simp (disch := omega) only [om, *] | ((first | refine XC_split ?_ ?_ | refine XG_true ?_ ?_ | refine XG_false ?_ ?_ | refine XRg_true ?_ ?_ | refine XRg_false ?_ ?_) <;> intro hc <;> (try simp only [bl] at hc) <;> (try (exfalso; omega))) | refine XD_w [] [] [] (fun _ => none) mixed (by decide +kernel) (sub_none _) ?_ | fail))
        intro b9 hb9
        (repeat' (first | simp [go_sem, X_region, *] | simp (disch := omega) only [om, *] | ((first | refine XC_split ?_ ?_ | refine XG_true ?_ ?_ | refine XG_false ?_ ?_ | refine XRg_true ?_ ?_ | refine XRg_false ?_ ?_) <;> intro hc <;> (try simp only [bl] at hc) <;> (try (exfalso; omega))) | refine XD_w [] [] [] (fun _ => none) mixed (by decide +kernel) (sub_none _) ?_ | fail))
        refine X_lpH (fun i => i = 10 ∨ i = 12 ∨ (35 ≤ i ∧ i ≤ 45)) (fun hE n T g => ∃ (k : Nat) (r3 mv : List Int), n = r3.length ∧ k ≤ z.kids.length ∧ z.kids.drop k = r3 ∧ mv ++ r3.map (· + (out.length : Int)) = z.kids.map (· + (out.length : Int)) ∧ T 35 = I k ∧ mv.length = k ∧ Own hE g (T 10) 3 1 mv.length (cellsL cI mv)) z.kids.length
          ⟨0, z.kids, [], rfl, by omega, rfl, by simp, by simp [go_sem], rfl, by simpa [go_sem] using Own.none⟩ ?_
        rintro hE hEq J3 hJ3 n3 T3 g3 hfr3 ⟨k, r3, mv, rfl, hk3, hdk3, hmv, t35, hml, ownM⟩
        obtain ⟨ob9, hob, q1, q2, q3, u0, u1, u2, u3, u4⟩ : ∃ ob9 : Ob, hE = upd g2 b9 (some ob9) ∧ ob9.ty = 39 ∧ ob9.s = 5 ∧ ob9.n = 1 ∧ ob9.f 0 0 = I z.op ∧ ob9.f 0 1 = encL 1 cI z.kids ∧ ob9.f 0 2 = I z.kd ∧ ob9.f 0 3 = I z.n ∧ ob9.f 0 4 = S z.nm := ⟨_, hEq.symm, rfl, rfl, rfl, by simp, by simp [go_sem], by simp, by simp, by simp⟩
        clear hEq
        subst hob
        have e9 : g3 b9 = some ob9 := ownM.1 b9 _ (upd_same _ _ _)
        rcases r3 with _ | ⟨v, r3⟩
        · have hltk := drop_nil hdk3
          have hmv2 : mv = z.kids.map (· + (out.length : Int)) := by simpa using hmv
          clear hmv
          subst hmv2
          have hcM := own_cells ownM
          obtain ⟨H0, oH, sH, kH⟩ := own_hole own5
          have h09 : H0 b9 = none := sub_none_of oH.1 hb9
          have o5 := own_grow (own_with (oc := ob9) oH hb9) ownM.1
          have sM : Sub (upd H0 b9 (some ob9)) (upd g2 b9 (some ob9)) := (own_with (oc := ob9) oH hb9).1
          have oM := own_up sM ownM
          (repeat' (first | simp [go_sem, X_region, *] | simp (disch := omega) only [om, *] | ((first | refine XC_split ?_ ?_ | refine XG_true ?_ ?_ | refine XG_false ?_ ?_ | refine XRg_true ?_ ?_ | refine XRg_false ?_ ?_) <;> intro hc <;> (try simp only [bl] at hc) <;> (try (exfalso; omega))) | refine XD_w [] [] [] (fun _ => none) mixed (by decide +kernel) (sub_none _) ?_ | fail))
          intro bl hl1 hl2 hbl
          have w5 := own_other (o2 := ⟨39, 5, 1, fun i' j' => if i' = 0 ∧ 1 ≤ j' ∧ j' < 2 then T3 10 else ob9.f i' j'⟩) o5 (upd_same _ _ _)
          have wM := own_other (o2 := ⟨39, 5, 1, fun i' j' => if i' = 0 ∧ 1 ≤ j' ∧ j' < 2 then T3 10 else ob9.f i' j'⟩) oM (upd_same _ _ _)
          rw [upd_upd] at w5 wM
          refine X_pushK (x := shN out.length z) w5 (.inl wM) (by simp [go_sem]) und42 zr39 by39 (by simp [go_sem]) (by rw [upd_ne _ _ hl1]; exact hbl) (by simp [go_sem]) rfl (Nat.le_refl _) (by simp [shN, u0]) (by simp) (by simp [shN, u2]) (by simp [shN, u3]) (by simp [shN, u4]) (by omega) (by omega) (by simp [shN]; omega) fun a1 h1 h2 w1 w2 w3 => ?_
          have s9 : Sub H0 (upd H0 b9 (some ⟨39, 5, 1, fun i' j' => if i' = 0 ∧ 1 ≤ j' ∧ j' < 2 then T3 10 else ob9.f i' j'⟩)) := Sub.upd h09 (Sub.refl _)
          have y5 := own_up (sH.trans s9) w3
          have yK := own_keep sH kH (s9.trans w3.1) ownK (own_apartT own5 ownK (by decide))
          (repeat' (first | simp [go_sem, X_region, *] | simp (disch := omega) only [om, *] | ((first | refine XC_split ?_ ?_ | refine XG_true ?_ ?_ | refine XG_false ?_ ?_ | refine XRg_true ?_ ?_ | refine XRg_false ?_ ?_) <;> intro hc <;> (try simp only [bl] at hc) <;> (try (exfalso; omega))) | refine XD_w [] [] [] (fun _ => none) mixed (by decide +kernel) (sub_none _) ?_ | fail))
          refine ⟨_, Nat.lt_succ_self _, hJ2 _ _ _ h2 (w1 _ _) ?_ ⟨j + 1, r2, acc ++ [shN out.length z], rfl, by omega, hdj2, by rw [← hacc]; simp, by simp [go_sem], by simp; omega, by simpa [go_sem] using y5, yK⟩⟩
          repeat (refine fr_upd (by decide) ?_)
          refine fr_in (by intro i; omega) hfr3 ?_
          repeat (refine fr_upd (by decide) ?_)
          exact hfr2
        · obtain ⟨hltk, hxk, hdk4⟩ := drop_cons hdk3
          have hv := hz2 v (by rw [← hxk]; exact List.getElem_mem hltk)
          (repeat' (first | simp [go_sem, X_region, *] | simp (disch := omega) only [om, *] | ((first | refine XC_split ?_ ?_ | refine XG_true ?_ ?_ | refine XG_false ?_ ?_ | refine XRg_true ?_ ?_ | refine XRg_false ?_ ?_) <;> intro hc <;> (try simp only [bl] at hc) <;> (try (exfalso; omega))) | refine XD_w [] [] [] (fun _ => none) mixed (by decide +kernel) (sub_none _) ?_ | fail))
          intro bl hbl
          refine Own.push (x := v + (out.length : Int)) (enc := cI) ownM (by simp [go_sem]) und37 zr3 by3 (by simp [go_sem]) hbl (by simp [go_sem]) rfl (Nat.le_refl _) (by simp [go_sem]) (by omega) (by omega) fun a1 h1 hown1 hk1 => ?_
          (repeat' (first | simp [go_sem, X_region, *] | simp (disch := omega) only [om, *] | ((first | refine XC_split ?_ ?_ | refine XG_true ?_ ?_ | refine XG_false ?_ ?_ | refine XRg_true ?_ ?_ | refine XRg_false ?_ ?_) <;> intro hc <;> (try simp only [bl] at hc) <;> (try (exfalso; omega))) | refine XD_w [] [] [] (fun _ => none) mixed (by decide +kernel) (sub_none _) ?_ | fail))
          refine ⟨_, Nat.lt_succ_self _, hJ3.out _ _ _ ⟨?_, k + 1, r3, mv ++ [v + (out.length : Int)], rfl, by omega, hdk4, by rw [← hmv]; simp, by simp [go_sem], by simp [hml], by simpa [go_sem] using hown1⟩⟩
          repeat (refine fr_upd (by decide) ?_)
          exact hfr3
theorem flat_at {e : List Nd} (q : chkE (oneE nameF) e = 0) (p : Nat) (hp : p < e.length) : Pure Tryd.prog 23 [aggL (cTr (treeAt e p))] (encL 5 cNd (flatT (treeAt e p))) := by
  obtain ⟨a1, a2, hv, hk3, hsz⟩ := chk_facts q
  have h1 := hsz p hp
  exact flat_ok _ (by omega) (treeAt_all hv _ (fun i x hx => by have := hk3 i x hx; omega) p hp)
theorem tree_at {e : List Nd} (q : chkE (oneE nameF) e = 0) (p : Nat) (hp : p < e.length) : Pure Tryd.prog 21 [encL 5 cNd e, I p] (aggL (cTr (treeAt e p))) := by
  obtain ⟨a1, a2, hv, hk3, hsz⟩ := chk_facts q
  exact rtree_ok e hv hk3 p hp
theorem post_ok (e : List Nd) : Pure Tryd.prog 28 [encL 5 cNd e] (encL 5 cNd (cutF e (e.length - 1))) := by
  have hc := rerr_ok e
  rw [tree_chk] at hc
  unfold cutF
  by_cases q : chkE (oneE nameF) e = 0
  case neg =>
    rw [if_neg (fun h => q h.1)]
    generalize chkE (oneE nameF) e = c at *
    intro h; refine callK_body Tryd.func28 rfl (by rw [nt28]; simp) ?_; rw [nt28, rs28]
    (repeat' (first | simp [go_sem, X_region, *] | simp (disch := omega) only [om, *] | ((first | refine XC_split ?_ ?_ | refine XG_true ?_ ?_ | refine XG_false ?_ ?_ | refine XRg_true ?_ ?_ | refine XRg_false ?_ ?_) <;> intro hc <;> (try simp only [bl] at hc) <;> (try (exfalso; omega))) | refine XD_w [] [] [] (fun _ => none) mixed (by decide +kernel) (sub_none _) ?_ | refine Pure.call (hc) ?_ | refine ⟨_, Pure.at (hc), ?_⟩ | refine ⟨_, hc, ?_⟩ | refine PureAt.call (hc) ?_ | fail))
    exact Wk.nil
  obtain ⟨a1, a2, _⟩ := chk_facts q
  rw [if_pos ⟨q, by omega, by omega⟩]
  obtain ⟨m, hm⟩ : ∃ m, e.length = m + 1 := ⟨e.length - 1, by omega⟩
  have h1 := tree_at q m (by omega)
  have h2 := flat_at q m (by omega)
  have hm1 : ((e.length : Nat) : Int) - 1 = (m : Int) := by omega
  rw [q] at hc
  rw [hm1, Int.toNat_natCast]
  clear hm
  generalize flatT (treeAt e m) = F at *
  generalize treeAt e m = t at *
  obtain ⟨tx, tk⟩ := t
  rw [cTr_mk] at h1 h2
  intro h; refine callK_body Tryd.func28 rfl (by rw [nt28]; simp) ?_; rw [nt28, rs28]
  (repeat' (first | simp [go_sem, X_region, *] | simp (disch := omega) only [om, *] | ((first | refine XC_split ?_ ?_ | refine XG_true ?_ ?_ | refine XG_false ?_ ?_ | refine XRg_true ?_ ?_ | refine XRg_false ?_ ?_) <;> intro hc <;> (try simp only [bl] at hc) <;> (try (exfalso; omega))) | refine XD_w [] [] [] (fun _ => none) mixed (by decide +kernel) (sub_none _) ?_ | refine Pure.call (hc) ?_ | refine ⟨_, Pure.at (hc), ?_⟩ | refine ⟨_, hc, ?_⟩ | refine PureAt.call (hc) ?_ | refine Pure.call (h1) ?_ | refine ⟨_, Pure.at (h1), ?_⟩ | refine ⟨_, h1, ?_⟩ | refine PureAt.call (h1) ?_ | refine Pure.call (h2) ?_ | refine ⟨_, Pure.at (h2), ?_⟩ | refine ⟨_, h2, ?_⟩ | refine PureAt.call (h2) ?_ | fail))
end Go.Proofs.YtmalhikcdideoaaDoor

set_option linter.unusedVariables false
set_option linter.unusedSimpArgs false
namespace Go.Proofs.YtmalhikcdideoaaDoor
open Go Sl
attribute [local irreducible] XRange LpQ XR XRo XRg XRQ putQ XFv XL XW2 wQ putW X XO XOp XH XHo XW SeqQ BlkQ XOQ XHQ NrmQ XC XM XG XHM XHG XD CallK
open Go.RowKit
theorem clone_big (l : List Int) (h0 : 0 < l.length) (h1 : l.length ≤ 1048576) (h : Hp) : CallK Tryd.prog h 61 [encL 1 cI l] fun r h' => Own h h' r 3 1 l.length (cellsL cI l) := by
  refine callK_body Tryd.func61 rfl (by rw [nt61]; simp) ?_; rw [nt61, rs61]
  (repeat' (first | simp [go_sem, X_region, *] | simp (disch := omega) only [om, *] | ((first | refine XC_split ?_ ?_ | refine XG_true ?_ ?_ | refine XG_false ?_ ?_ | refine XRg_true ?_ ?_ | refine XRg_false ?_ ?_) <;> intro hc <;> (try simp only [bl] at hc) <;> (try (exfalso; omega))) | refine XD_w [] [] [] (fun _ => none) mixed (by decide +kernel) (sub_none _) ?_ | fail))
  refine Own.append (h0 := h) (e := 3) (s := 1) (n := 0) (f := fun _ _ => .any) (m := l.length) (q := cellsL cI l) ⟨Sub.refl h, .inl ⟨rfl, .inr (by simp [go_sem])⟩⟩ und37 zr3 by3 (by simp [go_sem]) (by simp [go_sem]) (by omega) (by omega) fun a h' ho _ => ?_
  simp only [Nat.zero_add, Nat.not_lt_zero, if_false, Nat.sub_zero] at ho
  (repeat' (first | simp [go_sem, X_region, *] | simp (disch := omega) only [om, *] | ((first | refine XC_split ?_ ?_ | refine XG_true ?_ ?_ | refine XG_false ?_ ?_ | refine XRg_true ?_ ?_ | refine XRg_false ?_ ?_) <;> intro hc <;> (try simp only [bl] at hc) <;> (try (exfalso; omega))) | refine XD_w [] [] [] (fun _ => none) mixed (by decide +kernel) (sub_none _) ?_ | fail))
  exact ⟨_, _, Wk.refl _ _, ho⟩
/-- slices.Clone on kids, whatever they are: a slice of the call's own, or an empty one. -/
theorem clone_any (l : List Int) (h1 : l.length ≤ 1048576) (h : Hp) : CallK Tryd.prog h 61 [encL 1 cI l] fun r h' => (0 < l.length ∧ Own h h' r 3 1 l.length (cellsL cI l)) ∨ (l = [] ∧ r = encL 1 cI [] ∧ h' = h) := by
  rcases Nat.eq_zero_or_pos l.length with hz | hp
  · obtain rfl := List.length_eq_zero_iff.1 hz
    refine (clone_0 _ (cellsL cI []) h).mono ?_
    rintro r h' ⟨rfl, rfl⟩
    exact .inr ⟨rfl, rfl, rfl⟩
  · exact (clone_big l hp h1 h).mono fun r h' o => .inl ⟨hp, o⟩
theorem Kds.other {B g : Hp} {k : AV} {ks : List Int} {b : Nat} {o1 o2 : Ob} (o : Kds B g k ks) (hb : B b = some o1) : Kds (upd B b (some o2)) (upd g b (some o2)) k ks := by
  rcases o with o | rfl
  · exact .inl (own_other o hb)
  · exact .inr rfl
/-- A node's kids are cloned; the node lies in a block of its own. -/
theorem clone_call {g : Hp} {b : Nat} {ob : Ob} {x : Nd} {K : AV → Hp → Prop} (hl : x.kids.length ≤ 1048576) (p1 : ob.ty = 39) (p2 : ob.s = 5) (p3 : ob.n = 1) (f0 : ob.f 0 0 = I x.op) (f2 : ob.f 0 2 = I x.kd) (f3 : ob.f 0 3 = I x.n) (f4 : ob.f 0 4 = S x.nm)
    (hk : ∀ (ob : Ob) (r : AV) (g1 : Hp), ob.ty = 39 → ob.s = 5 → ob.n = 1 → ob.f 0 0 = I x.op → ob.f 0 2 = I x.kd → ob.f 0 3 = I x.n → ob.f 0 4 = S x.nm → Sub (upd g b (some ob)) g1 → Kds (upd g b (some ob)) g1 r x.kids → K r g1) : CallK Tryd.prog (upd g b (some ob)) 61 [encL 1 cI x.kids] K := by
  refine (clone_any x.kids hl _).mono fun r g1 hr => hk ob r g1 p1 p2 p3 f0 f2 f3 f4 ?_ ?_
  · rcases hr with ⟨_, o⟩ | ⟨_, _, rfl⟩
    · exact o.1
    · exact Sub.refl _
  · rcases hr with ⟨_, o⟩ | ⟨h1, h2, _⟩
    · exact .inl o
    · exact .inr (by rw [h1]; exact h2)
theorem Kds.up {B0 B g : Hp} {k : AV} {ks : List Int} (o : Kds B g k ks) (hS : Sub B0 B) : Kds B0 g k ks := by
  rcases o with o | rfl
  · exact .inl (own_up hS o)
  · exact .inr rfl
set_option maxHeartbeats 4000000 in
theorem copy_ok (e : List Nd) (he : e.length ≤ 1048576) (hk : ∀ x ∈ e, x.kids.length ≤ 1048576) : Pure Tryd.prog 29 [encL 5 cNd e] (encL 5 cNd e) := by
  intro h; refine CallK.lens fun hlen => ?_; have hlen := (hlen _ (by simp only [List.mem_cons, true_or, or_true] : (encL 5 cNd e) ∈ _)).encL; refine callK_body Tryd.func29 rfl (by rw [nt29]; simp) ?_; rw [nt29, rs29]
  (repeat' (first | simp [go_sem, X_region, *] | simp (disch := omega) only [om, *] | ((first | refine XC_split ?_ ?_ | refine XG_true ?_ ?_ | refine XG_false ?_ ?_ | refine XRg_true ?_ ?_ | refine XRg_false ?_ ?_) <;> intro hc <;> (try simp only [bl] at hc) <;> (try (exfalso; omega))) | refine XD_w [] [] [] (fun _ => none) mixed (by decide +kernel) (sub_none _) ?_ | fail))
  refine X_lpFW (fun i => i = 3 ∨ i = 5 ∨ (8 ≤ i ∧ i ≤ 20)) (fun n T g => ∃ (i : Nat) (r acc : List Nd), n = r.length ∧ i ≤ e.length ∧ e.drop i = r ∧ acc ++ r = e ∧ acc.length = i ∧ T 8 = I i ∧ Own h g (T 3) 39 5 acc.length (cellsL cNd acc)) e.length
    ⟨0, e, [], rfl, by omega, rfl, rfl, rfl, by simp [go_sem], by simpa [go_sem] using Own.none⟩ ?_
  rintro J hJ n T g hfr ⟨i, r, acc, rfl, hi, hd, hacc, hal, t8, own⟩
  rcases r with _ | ⟨x, r⟩
  · have hlt := drop_nil hd
    rw [List.append_nil] at hacc
    subst hacc
    have w4 := own.frozen (by omega)
    rw [hal] at w4
    (repeat' (first | simp [go_sem, X_region, *] | simp (disch := omega) only [om, *] | ((first | refine XC_split ?_ ?_ | refine XG_true ?_ ?_ | refine XG_false ?_ ?_ | refine XRg_true ?_ ?_ | refine XRg_false ?_ ?_) <;> intro hc <;> (try simp only [bl] at hc) <;> (try (exfalso; omega))) | refine XD_w [] [] [] (fun _ => none) mixed (by decide +kernel) (sub_none _) ?_ | fail))
    all_goals exact w4
  · obtain ⟨hlt, hx, hd2⟩ := drop_cons hd
    have hxk := hk x (by rw [← hx]; exact List.getElem_mem hlt)
    (repeat' (first | simp [go_sem, X_region, *] | simp (disch := omega) only [om, *] | ((first | refine XC_split ?_ ?_ | refine XG_true ?_ ?_ | refine XG_false ?_ ?_ | refine XRg_true ?_ ?_ | refine XRg_false ?_ ?_) <;> intro hc <;> (try simp only [bl] at hc) <;> (try (exfalso; omega))) | refine XD_w [] [] [] (fun _ => none) mixed (by decide +kernel) (sub_none _) ?_ | fail))
    intro b5 hb5
    (repeat' (first | simp [go_sem, X_region, *] | simp (disch := omega) only [om, *] | ((first | refine XC_split ?_ ?_ | refine XG_true ?_ ?_ | refine XG_false ?_ ?_ | refine XRg_true ?_ ?_ | refine XRg_false ?_ ?_) <;> intro hc <;> (try simp only [bl] at hc) <;> (try (exfalso; omega))) | refine XD_w [] [] [] (fun _ => none) mixed (by decide +kernel) (sub_none _) ?_ | fail))
    refine clone_call (x := x) hxk rfl rfl rfl (by simp) (by simp) (by simp) (by simp) fun ob r1 g1 p1 p2 p3 f0 f2 f3 f4 hs hr => ?_
    have e5 : g1 b5 = some ob := hs b5 _ (upd_same _ _ _)
    obtain ⟨H0, oH, sH, kH⟩ := own_hole own
    have h05 : H0 b5 = none := sub_none_of oH.1 hb5
    have o5 := own_grow (own_with (oc := ob) oH hb5) hs
    have oM := hr.up (own_with (oc := ob) oH hb5).1
    have hcM := hr.cells
    (repeat' (first | simp [go_sem, X_region, *] | simp (disch := omega) only [om, *] | ((first | refine XC_split ?_ ?_ | refine XG_true ?_ ?_ | refine XG_false ?_ ?_ | refine XRg_true ?_ ?_ | refine XRg_false ?_ ?_) <;> intro hc <;> (try simp only [bl] at hc) <;> (try (exfalso; omega))) | refine XD_w [] [] [] (fun _ => none) mixed (by decide +kernel) (sub_none _) ?_ | fail))
    intro bl hl1 hl2 hbl
    have w5 := own_other (o2 := ⟨39, 5, 1, fun i' j' => if i' = 0 ∧ 1 ≤ j' ∧ j' < 2 then r1 else ob.f i' j'⟩) o5 (upd_same _ _ _)
    have wM := oM.other (o2 := ⟨39, 5, 1, fun i' j' => if i' = 0 ∧ 1 ≤ j' ∧ j' < 2 then r1 else ob.f i' j'⟩) (upd_same _ _ _)
    rw [upd_upd] at w5 wM
    refine X_pushK (x := x) w5 wM (by simp [go_sem]) und42 zr39 by39 (by simp [go_sem]) (by rw [upd_ne _ _ hl1]; exact hbl) (by simp [go_sem]) rfl (Nat.le_refl _) (by simp [f0]) (by simp) (by simp [f2]) (by simp [f3]) (by simp [f4]) (by omega) (by omega) (by omega) fun a1 h1 h2 w1 w2 w3 => ?_
    have y5 := own_up (sH.trans (Sub.upd h05 (Sub.refl _))) w3
    (repeat' (first | simp [go_sem, X_region, *] | simp (disch := omega) only [om, *] | ((first | refine XC_split ?_ ?_ | refine XG_true ?_ ?_ | refine XG_false ?_ ?_ | refine XRg_true ?_ ?_ | refine XRg_false ?_ ?_) <;> intro hc <;> (try simp only [bl] at hc) <;> (try (exfalso; omega))) | refine XD_w [] [] [] (fun _ => none) mixed (by decide +kernel) (sub_none _) ?_ | fail))
    exact ⟨_, Nat.lt_succ_self _, hJ _ _ _ h2 (w1 _ _) (by (repeat (refine fr_upd (by decide) ?_)); exact hfr) ⟨i + 1, r, acc ++ [x], rfl, by omega, hd2, by rw [← hacc]; simp, by simp [hal], by simp [go_sem], by simpa [go_sem] using y5⟩⟩
end Go.Proofs.YtmalhikcdideoaaDoor

set_option linter.unusedVariables false
set_option linter.unusedSimpArgs false
namespace Go.Proofs.YtmalhikcdideoaaDoor
open Go Sl
attribute [local irreducible] XRange LpQ XR XRo XRg XRQ putQ XFv XL XW2 wQ putW X XO XOp XH XHo XW SeqQ BlkQ XOQ XHQ NrmQ XC XM XG XHM XHG XD CallK
open Go.RowKit
/-- What a text of an expression wants. -/
def okS (e : List Nd) : Prop := e.length ≤ 1048576 ∧ ∀ x ∈ e, x.nm.size ≤ 1048576 ∧ x.kids.length ≤ 1048576 ∧ i64B x.op ∧ i64B x.kd ∧ i64B x.n ∧ ∀ k ∈ x.kids, i64B k
theorem okS.nm {e : List Nd} (h : okS e) : ∀ x ∈ e, x.nm.size ≤ 140737488355328 := fun x hx => by have := (h.2 x hx).1; omega
theorem cutF_ok {e : List Nd} (h : okS e) (p : Int) : okS (cutF e p) := by
  unfold cutF
  split
  · rename_i q
    obtain ⟨a1, a2, hv, hk3, hsz⟩ := chk_facts q.1
    have h1 := hsz p.toNat (by omega)
    have h2 := flatT_len (treeAt e p.toNat)
    have h3 := treeAt_all hv (fun x n => x.nm.size ≤ 1048576 ∧ n ≤ 1048576 ∧ i64B x.op ∧ i64B x.kd ∧ i64B x.n) (fun i x hx => by
      obtain ⟨b1, b2, b3, b4, b5, _⟩ := h.2 x (List.mem_of_getElem? hx)
      exact ⟨b1, b2, b3, b4, b5⟩) p.toNat (by omega)
    refine ⟨by omega, fun x hx => ?_⟩
    have h4 := flatT_ok _ h3 (fun x n => Iff.rfl) x hx
    obtain ⟨b1, b2, b3, b4, b5⟩ := h4.own
    exact ⟨b1, b2, b3, b4, b5, fun k hk => by have := h4.kids k hk; exact ⟨by omega, by omega⟩⟩
  · exact ⟨Nat.zero_le _, fun x hx => by cases hx⟩
theorem eqE_show (a b : List Nd) : eqE a b = decide (bOf (showE a) = bOf (showE b)) := by
  rw [Bool.eq_iff_iff, eqE_iff, decide_eq_true_eq]
  exact ⟨fun h => by rw [h], fun h => showE_inj _ _ (bOf_inj h)⟩
/-- Do two expressions say the same. -/
def sameF (a b : List Nd) : Bool := if chkE (oneE nameF) a = 0 ∧ chkE (oneE nameF) b = 0 then eqE (cutF a (a.length - 1)) (cutF b (b.length - 1)) else eqE a b
theorem same_ok (a b : List Nd) (ha : okS a) (hb : okS b) : Pure Tryd.prog 31 [encL 5 cNd a, encL 5 cNd b] (B (sameF a b)) := by
  have h1 := tcheck_ok a ha.nm
  have h2 := tcheck_ok b hb.nm
  have h3 := norm_ok a ha.nm (by have := ha.1; omega)
  have h4 := norm_ok b hb.nm (by have := hb.1; omega)
  have h5 := trequal_ok (cutF a (a.length - 1)) (cutF b (b.length - 1))
  have h6 := trequal_ok a b
  generalize hR : sameF a b = R
  unfold sameF at hR
  generalize cutF a (a.length - 1) = A at *
  generalize cutF b (b.length - 1) = A' at *
  by_cases qa : chkE (oneE nameF) a = 0
  · rw [qa] at h1 hR
    by_cases qb : chkE (oneE nameF) b = 0
    · rw [qb] at h2 hR
      rw [if_pos ⟨rfl, rfl⟩] at hR
      rw [hR] at h5
      clear hR
      intro h; refine callK_body Tryd.func31 rfl (by rw [nt31]; simp) ?_; rw [nt31, rs31]
      (repeat' (first | simp [go_sem, X_region, *] | simp (disch := omega) only [om, *] | ((first | refine XC_split ?_ ?_ | refine XG_true ?_ ?_ | refine XG_false ?_ ?_ | refine XRg_true ?_ ?_ | refine XRg_false ?_ ?_) <;> intro hc <;> (try simp only [bl] at hc) <;> (try (exfalso; omega))) | refine XD_w [] [] [] (fun _ => none) mixed (by decide +kernel) (sub_none _) ?_ | refine Pure.call (h1) ?_ | refine ⟨_, Pure.at (h1), ?_⟩ | refine ⟨_, h1, ?_⟩ | refine PureAt.call (h1) ?_ | refine Pure.call (h2) ?_ | refine ⟨_, Pure.at (h2), ?_⟩ | refine ⟨_, h2, ?_⟩ | refine PureAt.call (h2) ?_ | refine Pure.call (h3) ?_ | refine ⟨_, Pure.at (h3), ?_⟩ | refine ⟨_, h3, ?_⟩ | refine PureAt.call (h3) ?_ | refine Pure.call (h4) ?_ | refine ⟨_, Pure.at (h4), ?_⟩ | refine ⟨_, h4, ?_⟩ | refine PureAt.call (h4) ?_ | refine Pure.call (h5) ?_ | refine ⟨_, Pure.at (h5), ?_⟩ | refine ⟨_, h5, ?_⟩ | refine PureAt.call (h5) ?_ | fail))
    · rw [if_neg (fun h => qb h.2)] at hR
      rw [hR] at h6
      clear hR
      generalize chkE (oneE nameF) b = cb at *
      intro h; refine callK_body Tryd.func31 rfl (by rw [nt31]; simp) ?_; rw [nt31, rs31]
      (repeat' (first | simp [go_sem, X_region, *] | simp (disch := omega) only [om, *] | ((first | refine XC_split ?_ ?_ | refine XG_true ?_ ?_ | refine XG_false ?_ ?_ | refine XRg_true ?_ ?_ | refine XRg_false ?_ ?_) <;> intro hc <;> (try simp only [bl] at hc) <;> (try (exfalso; omega))) | refine XD_w [] [] [] (fun _ => none) mixed (by decide +kernel) (sub_none _) ?_ | refine Pure.call (h1) ?_ | refine ⟨_, Pure.at (h1), ?_⟩ | refine ⟨_, h1, ?_⟩ | refine PureAt.call (h1) ?_ | refine Pure.call (h2) ?_ | refine ⟨_, Pure.at (h2), ?_⟩ | refine ⟨_, h2, ?_⟩ | refine PureAt.call (h2) ?_ | refine Pure.call (h6) ?_ | refine ⟨_, Pure.at (h6), ?_⟩ | refine ⟨_, h6, ?_⟩ | refine PureAt.call (h6) ?_ | fail))
  · rw [if_neg (fun h => qa h.1)] at hR
    rw [hR] at h6
    clear hR
    generalize chkE (oneE nameF) a = ca at *
    intro h; refine callK_body Tryd.func31 rfl (by rw [nt31]; simp) ?_; rw [nt31, rs31]
    (repeat' (first | simp [go_sem, X_region, *] | simp (disch := omega) only [om, *] | ((first | refine XC_split ?_ ?_ | refine XG_true ?_ ?_ | refine XG_false ?_ ?_ | refine XRg_true ?_ ?_ | refine XRg_false ?_ ?_) <;> intro hc <;> (try simp only [bl] at hc) <;> (try (exfalso; omega))) | refine XD_w [] [] [] (fun _ => none) mixed (by decide +kernel) (sub_none _) ?_ | refine Pure.call (h1) ?_ | refine ⟨_, Pure.at (h1), ?_⟩ | refine ⟨_, h1, ?_⟩ | refine PureAt.call (h1) ?_ | refine Pure.call (h6) ?_ | refine ⟨_, Pure.at (h6), ?_⟩ | refine ⟨_, h6, ?_⟩ | refine PureAt.call (h6) ?_ | fail))
theorem sametree_ok (a b : List Nd) (ha : okS a) (hb : okS b) : Pure Tryd.prog 32 [encL 5 cNd a, encL 5 cNd b] (B (sameF a b)) := by
  have h1 := rerr_ok a
  have h2 := rerr_ok b
  rw [tree_chk] at h1 h2
  have h3 := post_ok a
  have h4 := post_ok b
  have h5 := shown_ok _ (cutF_ok ha (a.length - 1)).1 (cutF_ok ha (a.length - 1)).2
  have h6 := shown_ok _ (cutF_ok hb (b.length - 1)).1 (cutF_ok hb (b.length - 1)).2
  have h7 := shown_ok a ha.1 ha.2
  have h8 := shown_ok b hb.1 hb.2
  generalize hR : sameF a b = R
  unfold sameF at hR
  rw [eqE_show, eqE_show] at hR
  generalize cutF a (a.length - 1) = A at *
  generalize cutF b (b.length - 1) = A' at *
  generalize bOf (showE A) = s1 at *
  generalize bOf (showE A') = s2 at *
  generalize bOf (showE a) = s3 at *
  generalize bOf (showE b) = s4 at *
  by_cases qa : chkE (oneE nameF) a = 0
  · rw [qa] at h1 hR
    by_cases qb : chkE (oneE nameF) b = 0
    · rw [qb] at h2 hR
      rw [if_pos ⟨rfl, rfl⟩] at hR
      subst hR
      intro h; refine callK_body Tryd.func32 rfl (by rw [nt32]; simp) ?_; rw [nt32, rs32]
      (repeat' (first | simp [go_sem, X_region, *] | simp (disch := omega) only [om, *] | ((first | refine XC_split ?_ ?_ | refine XG_true ?_ ?_ | refine XG_false ?_ ?_ | refine XRg_true ?_ ?_ | refine XRg_false ?_ ?_) <;> intro hc <;> (try simp only [bl] at hc) <;> (try (exfalso; omega))) | refine XD_w [] [] [] (fun _ => none) mixed (by decide +kernel) (sub_none _) ?_ | refine Pure.call (h1) ?_ | refine ⟨_, Pure.at (h1), ?_⟩ | refine ⟨_, h1, ?_⟩ | refine PureAt.call (h1) ?_ | refine Pure.call (h2) ?_ | refine ⟨_, Pure.at (h2), ?_⟩ | refine ⟨_, h2, ?_⟩ | refine PureAt.call (h2) ?_ | refine Pure.call (h3) ?_ | refine ⟨_, Pure.at (h3), ?_⟩ | refine ⟨_, h3, ?_⟩ | refine PureAt.call (h3) ?_ | refine Pure.call (h4) ?_ | refine ⟨_, Pure.at (h4), ?_⟩ | refine ⟨_, h4, ?_⟩ | refine PureAt.call (h4) ?_ | refine Pure.call (h5) ?_ | refine ⟨_, Pure.at (h5), ?_⟩ | refine ⟨_, h5, ?_⟩ | refine PureAt.call (h5) ?_ | refine Pure.call (h6) ?_ | refine ⟨_, Pure.at (h6), ?_⟩ | refine ⟨_, h6, ?_⟩ | refine PureAt.call (h6) ?_ | fail))
    · rw [if_neg (fun h => qb h.2)] at hR
      subst hR
      generalize chkE (oneE nameF) b = cb at *
      intro h; refine callK_body Tryd.func32 rfl (by rw [nt32]; simp) ?_; rw [nt32, rs32]
      (repeat' (first | simp [go_sem, X_region, *] | simp (disch := omega) only [om, *] | ((first | refine XC_split ?_ ?_ | refine XG_true ?_ ?_ | refine XG_false ?_ ?_ | refine XRg_true ?_ ?_ | refine XRg_false ?_ ?_) <;> intro hc <;> (try simp only [bl] at hc) <;> (try (exfalso; omega))) | refine XD_w [] [] [] (fun _ => none) mixed (by decide +kernel) (sub_none _) ?_ | refine Pure.call (h1) ?_ | refine ⟨_, Pure.at (h1), ?_⟩ | refine ⟨_, h1, ?_⟩ | refine PureAt.call (h1) ?_ | refine Pure.call (h2) ?_ | refine ⟨_, Pure.at (h2), ?_⟩ | refine ⟨_, h2, ?_⟩ | refine PureAt.call (h2) ?_ | refine Pure.call (h7) ?_ | refine ⟨_, Pure.at (h7), ?_⟩ | refine ⟨_, h7, ?_⟩ | refine PureAt.call (h7) ?_ | refine Pure.call (h8) ?_ | refine ⟨_, Pure.at (h8), ?_⟩ | refine ⟨_, h8, ?_⟩ | refine PureAt.call (h8) ?_ | fail))
  · rw [if_neg (fun h => qa h.1)] at hR
    subst hR
    generalize chkE (oneE nameF) a = ca at *
    intro h; refine callK_body Tryd.func32 rfl (by rw [nt32]; simp) ?_; rw [nt32, rs32]
    (repeat' (first | simp [go_sem, X_region, *] | simp (disch := omega) only [om, *] | ((first | refine XC_split ?_ ?_ | refine XG_true ?_ ?_ | refine XG_false ?_ ?_ | refine XRg_true ?_ ?_ | refine XRg_false ?_ ?_) <;> intro hc <;> (try simp only [bl] at hc) <;> (try (exfalso; omega))) | refine XD_w [] [] [] (fun _ => none) mixed (by decide +kernel) (sub_none _) ?_ | refine Pure.call (h1) ?_ | refine ⟨_, Pure.at (h1), ?_⟩ | refine ⟨_, h1, ?_⟩ | refine PureAt.call (h1) ?_ | refine Pure.call (h7) ?_ | refine ⟨_, Pure.at (h7), ?_⟩ | refine ⟨_, h7, ?_⟩ | refine PureAt.call (h7) ?_ | refine Pure.call (h8) ?_ | refine ⟨_, Pure.at (h8), ?_⟩ | refine ⟨_, h8, ?_⟩ | refine PureAt.call (h8) ?_ | fail))
end Go.Proofs.YtmalhikcdideoaaDoor

set_option linter.unusedVariables false
set_option linter.unusedSimpArgs false
namespace Go.Proofs.YtmalhikcdideoaaDoor
open Go Sl
attribute [local irreducible] XRange LpQ XR XRo XRg XRQ putQ XFv XL XW2 wQ putW X XO XOp XH XHo XW SeqQ BlkQ XOQ XHQ NrmQ XC XM XG XHM XHG XD CallK
open Go.RowKit
set_option maxHeartbeats 8000000 in
theorem cuts_ok (e f : List Nd) (p : Int) (he : okS e) (hf : okS f) : Pure Tryd.prog 6 [encL 5 cNd e, encL 5 cNd f, I p] (B true) := by
  have hbg := trbegun_ok
  have h1 := norm_ok e he.nm (by have := he.1; omega)
  have h2 := post_ok e
  have h3 := shown_ok _ (cutF_ok he (e.length - 1)).1 (cutF_ok he (e.length - 1)).2
  have h4 := copy_ok e he.1 fun x hx => (he.2 x hx).2.1
  have h5 := shown_ok e he.1 he.2
  have h6 := shown_ok f hf.1 hf.2
  have h7 := trequal_ok e f
  have h8 := same_ok e f he hf
  have h9 := sametree_ok e f he hf
  have h10 := cut_ok e p he.nm (by have := he.1; omega)
  have h11 := shown_ok _ (cutF_ok he p).1 (cutF_ok he p).2
  have h12 := rerr_ok e
  rw [tree_chk] at h12
  rw [eqE_show] at h7
  generalize sameF e f = sm at *
  generalize cutF e (e.length - 1) = N at *
  generalize bOf (showE N) = sN at *
  generalize bOf (showE e) = sE at *
  generalize bOf (showE f) = sF at *
  by_cases q : chkE (oneE nameF) e = 0 ∧ 0 ≤ p ∧ p < e.length
  case neg =>
    have hC : cutF e p = [] := by unfold cutF; rw [if_neg q]
    rw [hC] at h10
    clear h11 hC
    by_cases qa : chkE (oneE nameF) e = 0
    · have q2 : ¬ (0 ≤ p ∧ p < e.length) := fun h => q ⟨qa, h⟩
      rw [qa] at h12
      clear q
      intro h; refine callK_body Tryd.func6 rfl (by rw [nt6]; simp) ?_; rw [nt6, rs6]
      (repeat' (first | simp [go_sem, X_region, *] | simp (disch := omega) only [om, *] | ((first | refine XC_split ?_ ?_ | refine XG_true ?_ ?_ | refine XG_false ?_ ?_ | refine XRg_true ?_ ?_ | refine XRg_false ?_ ?_) <;> intro hc <;> (try simp only [bl] at hc) <;> (try (exfalso; omega))) | refine XD_w [] [] [] (fun _ => none) mixed (by decide +kernel) (sub_none _) ?_ | refine Pure.call (hbg) ?_ | refine ⟨_, Pure.at (hbg), ?_⟩ | refine ⟨_, hbg, ?_⟩ | refine PureAt.call (hbg) ?_ | refine Pure.call (h1) ?_ | refine ⟨_, Pure.at (h1), ?_⟩ | refine ⟨_, h1, ?_⟩ | refine PureAt.call (h1) ?_ | refine Pure.call (h2) ?_ | refine ⟨_, Pure.at (h2), ?_⟩ | refine ⟨_, h2, ?_⟩ | refine PureAt.call (h2) ?_ | refine Pure.call (h3) ?_ | refine ⟨_, Pure.at (h3), ?_⟩ | refine ⟨_, h3, ?_⟩ | refine PureAt.call (h3) ?_ | refine Pure.call (h4) ?_ | refine ⟨_, Pure.at (h4), ?_⟩ | refine ⟨_, h4, ?_⟩ | refine PureAt.call (h4) ?_ | refine Pure.call (h5) ?_ | refine ⟨_, Pure.at (h5), ?_⟩ | refine ⟨_, h5, ?_⟩ | refine PureAt.call (h5) ?_ | refine Pure.call (h6) ?_ | refine ⟨_, Pure.at (h6), ?_⟩ | refine ⟨_, h6, ?_⟩ | refine PureAt.call (h6) ?_ | refine Pure.call (h7) ?_ | refine ⟨_, Pure.at (h7), ?_⟩ | refine ⟨_, h7, ?_⟩ | refine PureAt.call (h7) ?_ | refine Pure.call (h8) ?_ | refine ⟨_, Pure.at (h8), ?_⟩ | refine ⟨_, h8, ?_⟩ | refine PureAt.call (h8) ?_ | refine Pure.call (h9) ?_ | refine ⟨_, Pure.at (h9), ?_⟩ | refine ⟨_, h9, ?_⟩ | refine PureAt.call (h9) ?_ | refine Pure.call (h10) ?_ | refine ⟨_, Pure.at (h10), ?_⟩ | refine ⟨_, h10, ?_⟩ | refine PureAt.call (h10) ?_ | refine Pure.call (h12) ?_ | refine ⟨_, Pure.at (h12), ?_⟩ | refine ⟨_, h12, ?_⟩ | refine PureAt.call (h12) ?_ | fail))
      all_goals trace_state
    · clear q
      generalize chkE (oneE nameF) e = c at *
      intro h; refine callK_body Tryd.func6 rfl (by rw [nt6]; simp) ?_; rw [nt6, rs6]
      (repeat' (first | simp [go_sem, X_region, *] | simp (disch := omega) only [om, *] | ((first | refine XC_split ?_ ?_ | refine XG_true ?_ ?_ | refine XG_false ?_ ?_ | refine XRg_true ?_ ?_ | refine XRg_false ?_ ?_) <;> intro hc <;> (try simp only [bl] at hc) <;> (try (exfalso; omega))) | refine XD_w [] [] [] (fun _ => none) mixed (by decide +kernel) (sub_none _) ?_ | refine Pure.call (hbg) ?_ | refine ⟨_, Pure.at (hbg), ?_⟩ | refine ⟨_, hbg, ?_⟩ | refine PureAt.call (hbg) ?_ | refine Pure.call (h1) ?_ | refine ⟨_, Pure.at (h1), ?_⟩ | refine ⟨_, h1, ?_⟩ | refine PureAt.call (h1) ?_ | refine Pure.call (h2) ?_ | refine ⟨_, Pure.at (h2), ?_⟩ | refine ⟨_, h2, ?_⟩ | refine PureAt.call (h2) ?_ | refine Pure.call (h3) ?_ | refine ⟨_, Pure.at (h3), ?_⟩ | refine ⟨_, h3, ?_⟩ | refine PureAt.call (h3) ?_ | refine Pure.call (h4) ?_ | refine ⟨_, Pure.at (h4), ?_⟩ | refine ⟨_, h4, ?_⟩ | refine PureAt.call (h4) ?_ | refine Pure.call (h5) ?_ | refine ⟨_, Pure.at (h5), ?_⟩ | refine ⟨_, h5, ?_⟩ | refine PureAt.call (h5) ?_ | refine Pure.call (h6) ?_ | refine ⟨_, Pure.at (h6), ?_⟩ | refine ⟨_, h6, ?_⟩ | refine PureAt.call (h6) ?_ | refine Pure.call (h7) ?_ | refine ⟨_, Pure.at (h7), ?_⟩ | refine ⟨_, h7, ?_⟩ | refine PureAt.call (h7) ?_ | refine Pure.call (h8) ?_ | refine ⟨_, Pure.at (h8), ?_⟩ | refine ⟨_, h8, ?_⟩ | refine PureAt.call (h8) ?_ | refine Pure.call (h9) ?_ | refine ⟨_, Pure.at (h9), ?_⟩ | refine ⟨_, h9, ?_⟩ | refine PureAt.call (h9) ?_ | refine Pure.call (h10) ?_ | refine ⟨_, Pure.at (h10), ?_⟩ | refine ⟨_, h10, ?_⟩ | refine PureAt.call (h10) ?_ | refine Pure.call (h12) ?_ | refine ⟨_, Pure.at (h12), ?_⟩ | refine ⟨_, h12, ?_⟩ | refine PureAt.call (h12) ?_ | fail))
  obtain ⟨qa, q2, q3⟩ := q
  obtain ⟨m, rfl⟩ : ∃ m : Nat, p = m := ⟨p.toNat, by omega⟩
  have h13 := tree_at qa m (by omega)
  have h14 := flat_at qa m (by omega)
  have hC : cutF e m = flatT (treeAt e m) := by unfold cutF; rw [if_pos ⟨qa, by omega, by omega⟩, Int.toNat_natCast]
  rw [hC] at h10 h11
  rw [qa] at h12
  clear hC
  generalize flatT (treeAt e m) = F at *
  generalize treeAt e m = t at *
  generalize bOf (showE F) = sC at *
  obtain ⟨tx, tk⟩ := t
  rw [cTr_mk] at h13 h14
  intro h; refine callK_body Tryd.func6 rfl (by rw [nt6]; simp) ?_; rw [nt6, rs6]
  (repeat' (first | simp [go_sem, X_region, *] | simp (disch := omega) only [om, *] | ((first | refine XC_split ?_ ?_ | refine XG_true ?_ ?_ | refine XG_false ?_ ?_ | refine XRg_true ?_ ?_ | refine XRg_false ?_ ?_) <;> intro hc <;> (try simp only [bl] at hc) <;> (try (exfalso; omega))) | refine XD_w [] [] [] (fun _ => none) mixed (by decide +kernel) (sub_none _) ?_ | refine Pure.call (hbg) ?_ | refine ⟨_, Pure.at (hbg), ?_⟩ | refine ⟨_, hbg, ?_⟩ | refine PureAt.call (hbg) ?_ | refine Pure.call (h1) ?_ | refine ⟨_, Pure.at (h1), ?_⟩ | refine ⟨_, h1, ?_⟩ | refine PureAt.call (h1) ?_ | refine Pure.call (h2) ?_ | refine ⟨_, Pure.at (h2), ?_⟩ | refine ⟨_, h2, ?_⟩ | refine PureAt.call (h2) ?_ | refine Pure.call (h3) ?_ | refine ⟨_, Pure.at (h3), ?_⟩ | refine ⟨_, h3, ?_⟩ | refine PureAt.call (h3) ?_ | refine Pure.call (h4) ?_ | refine ⟨_, Pure.at (h4), ?_⟩ | refine ⟨_, h4, ?_⟩ | refine PureAt.call (h4) ?_ | refine Pure.call (h5) ?_ | refine ⟨_, Pure.at (h5), ?_⟩ | refine ⟨_, h5, ?_⟩ | refine PureAt.call (h5) ?_ | refine Pure.call (h6) ?_ | refine ⟨_, Pure.at (h6), ?_⟩ | refine ⟨_, h6, ?_⟩ | refine PureAt.call (h6) ?_ | refine Pure.call (h7) ?_ | refine ⟨_, Pure.at (h7), ?_⟩ | refine ⟨_, h7, ?_⟩ | refine PureAt.call (h7) ?_ | refine Pure.call (h8) ?_ | refine ⟨_, Pure.at (h8), ?_⟩ | refine ⟨_, h8, ?_⟩ | refine PureAt.call (h8) ?_ | refine Pure.call (h9) ?_ | refine ⟨_, Pure.at (h9), ?_⟩ | refine ⟨_, h9, ?_⟩ | refine PureAt.call (h9) ?_ | refine Pure.call (h10) ?_ | refine ⟨_, Pure.at (h10), ?_⟩ | refine ⟨_, h10, ?_⟩ | refine PureAt.call (h10) ?_ | refine Pure.call (h11) ?_ | refine ⟨_, Pure.at (h11), ?_⟩ | refine ⟨_, h11, ?_⟩ | refine PureAt.call (h11) ?_ | refine Pure.call (h12) ?_ | refine ⟨_, Pure.at (h12), ?_⟩ | refine ⟨_, h12, ?_⟩ | refine PureAt.call (h12) ?_ | refine Pure.call (h13) ?_ | refine ⟨_, Pure.at (h13), ?_⟩ | refine ⟨_, h13, ?_⟩ | refine PureAt.call (h13) ?_ | refine Pure.call (h14) ?_ | refine ⟨_, Pure.at (h14), ?_⟩ | refine ⟨_, h14, ?_⟩ | refine PureAt.call (h14) ?_ | fail))
end Go.Proofs.YtmalhikcdideoaaDoor

set_option linter.unusedVariables false
namespace Go.Proofs.YtmalhikcdideoaaDoor
open Go Go.ChangeShapes Go.WideShapes Sl
/-- These cells, told. -/
def CellsR (w : World) (cs : List Value) (l : List AV) : Prop := cs.length = l.length ∧ ∀ j, j < l.length → ∃ x, cs[j]? = some x ∧ x.oneCell' = true ∧ Rd w (fun _ => none) (l.getD j .any) x
theorem CellsR.nil (w : World) : CellsR w [] [] := ⟨rfl, fun j hj => absurd hj (Nat.not_lt_zero j)⟩
theorem CellsR.one {w : World} {x : Value} {a : AV} (h1 : x.oneCell' = true) (h2 : Rd w (fun _ => none) a x) : CellsR w [x] [a] := ⟨rfl, fun j hj => by
  obtain rfl : j = 0 := by simp at hj; omega
  exact ⟨x, rfl, h1, h2⟩⟩
theorem CellsR.append {w : World} {cs cs' : List Value} {l l' : List AV} (a : CellsR w cs l) (b : CellsR w cs' l') : CellsR w (cs ++ cs') (l ++ l') := by
  refine ⟨by simp [a.1, b.1], fun j hj => ?_⟩
  by_cases hl : j < l.length
  · obtain ⟨x, h1, h2, h3⟩ := a.2 j hl
    refine ⟨x, ?_, h2, ?_⟩
    · rw [List.getElem?_append_left (by rw [a.1]; exact hl)]; exact h1
    · rw [List.getD_eq_getElem?_getD] at h3 ⊢
      rw [List.getElem?_append_left hl]; exact h3
  · obtain ⟨x, h1, h2, h3⟩ := b.2 (j - l.length) (by simp at hj; omega)
    refine ⟨x, ?_, h2, ?_⟩
    · rw [List.getElem?_append_right (by rw [a.1]; omega), a.1]; exact h1
    · rw [List.getD_eq_getElem?_getD] at h3 ⊢
      rw [List.getElem?_append_right (by omega)]; exact h3
/-- Of each value of this type that can be read: it is told by cells of which Q speaks. -/
def OpensQ (P : Program) (w : World) (t : TypeId) (Q : List AV → Prop) : Prop :=
  ∀ (H : Type) (enc : TypeId × Value → H) (base : Nat) (sp : Nat → Bool) (held : Bool) (fuel : Nat) (cs : List Value) (d : DataW H) (p : List MemPlace),
    DataW.trod enc P w base sp held fuel t cs = some (d, p) → (∀ n ∈ d.weights P t, n ≤ reachBytes) → ∃ l, Q l ∧ CellsR w cs l
section
variable {P : Program} {w : World} {t e : TypeId}
theorem OpensQ.mono {Q Q' : List AV → Prop} (o : OpensQ P w t Q) (h : ∀ l, Q l → Q' l) : OpensQ P w t Q' := fun H enc base sp held fuel cs d p ht hw =>
  let ⟨l, h1, h2⟩ := o H enc base sp held fuel cs d p ht hw
  ⟨l, h l h1, h2⟩
theorem opens_int {k : IntKind} (hu : P.underlying t = some (.int k)) : OpensQ P w t fun l => ∃ n : Int, (Lit.int k n).wf = true ∧ l = [.v (.int k n)] := by
  intro H enc base sp held fuel cs d p ht hw
  obtain ⟨n, rfl, _, hwf⟩ := DataW.trod_int hu ht
  exact ⟨_, ⟨n, hwf, rfl⟩, CellsR.one rfl rfl⟩
theorem opens_bool (hu : P.underlying t = some .bool) : OpensQ P w t fun l => ∃ b : Bool, l = [.v (.bool b)] := by
  intro H enc base sp held fuel cs d p ht hw
  obtain ⟨b, rfl, _⟩ := DataW.trod_bool hu ht
  exact ⟨_, ⟨b, rfl⟩, CellsR.one rfl rfl⟩
theorem opens_string (hu : P.underlying t = some .string) : OpensQ P w t fun l => ∃ s : ByteArray, s.size ≤ reachBytes ∧ l = [.v (.string s)] := by
  intro H enc base sp held fuel cs d p ht hw
  obtain ⟨s, rfl, hd, _⟩ := DataW.trod_string hu ht
  simp only [Prod.mk.injEq] at hd
  obtain ⟨rfl, _⟩ := hd
  have := hw s.data.toList.length (by simp [DataW.weights])
  exact ⟨_, ⟨s, by simpa using this, rfl⟩, CellsR.one rfl rfl⟩
theorem list_of {α : Type} {Q : Nat → α → Prop} : ∀ n : Nat, (∀ i, i < n → ∃ x, Q i x) → ∃ l : List α, l.length = n ∧ ∀ i x, l[i]? = some x → Q i x
  | 0, _ => ⟨[], rfl, fun i x h => by simp at h⟩
  | n + 1, h => by
    obtain ⟨l, h1, h2⟩ := list_of n fun i hi => h i (by omega)
    obtain ⟨x, hx⟩ := h n (by omega)
    refine ⟨l ++ [x], by simp [h1], fun i y hy => ?_⟩
    by_cases hi : i < l.length
    · rw [List.getElem?_append_left hi] at hy; exact h2 i y hy
    · rw [List.getElem?_append_right (by omega)] at hy
      obtain rfl : i = n := by
        have := (List.getElem?_eq_some_iff.1 hy).1
        simp at this; omega
      simp [h1] at hy
      exact hy ▸ hx
theorem weightsAll_mem {H : Type} : ∀ (l : List (DataW H)) (d : DataW H), d ∈ l → ∀ n ∈ d.weights P e, n ∈ DataW.weightsAll P e l
  | [], _, h, _, _ => by simp at h
  | a :: l, d, h, n, hn => by
    simp only [DataW.weightsAll, List.mem_append]
    rcases List.mem_cons.1 h with rfl | h
    · exact .inl hn
    · exact .inr (weightsAll_mem l d h n hn)
theorem opens_slice {s : Nat} {Q : List AV → Prop} (hu : P.underlying t = some (.slice e)) (hs : P.cellsOf e = s) (hs0 : 0 < s) (hb : 0 < P.bytesOf e) (ho : OpensQ P w e Q) :
    OpensQ P w t fun l => ∃ ls : List (List AV), l = [.sl s ls.length fun i j => (ls.getD i []).getD j .any] ∧ ls.length * P.bytesOf e ≤ reachBytes ∧ ∀ x ∈ ls, x.length = s ∧ Q x := by
  intro H enc base sp held fuel cs d p ht hw
  rcases DataW.trod_slice hu ht with ⟨rfl, _⟩ | ⟨a, len, cap, elems, rest, n, _, rfl, hx, hbase, hlc, hcap, hlen, hel, _⟩
  · exact ⟨_, ⟨[], rfl, by simp, fun x hx => by simp at hx⟩, CellsR.one rfl ⟨none, 0, rfl, Nat.le_refl _, by simp, fun h => absurd h (by simp)⟩⟩
  · simp only [Prod.mk.injEq] at hx
    obtain ⟨rfl, _⟩ := hx
    have hwt : (len + rest.length) * P.bytesOf e ≤ reachBytes := by
      have := hw ((elems.length + rest.length) * P.bytesOf e) (by simp [DataW.weights, hu])
      rwa [hlen] at this
    have hlb : len * P.bytesOf e ≤ reachBytes := Nat.le_trans (Nat.mul_le_mul_right _ (by omega)) hwt
    have hln : len ≤ reachBytes := Nat.le_trans (Nat.le_mul_of_pos_right _ hb) hlb
    have each : ∀ i, i < len → ∃ x : List AV, (x.length = s ∧ Q x) ∧ ∃ ci, w.cells? base (a.add (i * s)) s = some ci ∧ CellsR w ci x := fun i hi => by
      have h1 := hel i hi
      rw [hs, List.getElem?_eq_getElem (by omega)] at h1
      cases hc : w.cells? base (a.add (i * s)) s with
      | none => rw [hc] at h1; simp at h1
      | some ci =>
        rw [hc] at h1
        simp only [Option.bind_some] at h1
        have hmem : elems[i].1 ∈ elems.map (·.1) := List.mem_map.2 ⟨elems[i], List.getElem_mem _, rfl⟩
        obtain ⟨x, hq, hr⟩ := ho H enc base sp held n ci elems[i].1 elems[i].2 h1 fun m hm => hw m (by
          simp only [DataW.weights, hu, List.mem_cons, List.mem_append]
          exact .inr (.inl (weightsAll_mem _ _ hmem m hm)))
        have hl := (World.cells?_some hc).2.1
        exact ⟨x, ⟨by rw [← hr.1, hl], hq⟩, ci, rfl, hr⟩
    obtain ⟨ls, hll, hls⟩ := list_of len each
    refine ⟨_, ⟨ls, rfl, by rw [hll]; exact hlb, fun x hx => ?_⟩, CellsR.one rfl ⟨some a, cap, by rw [hll], by omega, ?_, fun h0 => ?_⟩⟩
    · obtain ⟨i, hi, rfl⟩ := List.mem_iff_getElem.1 hx
      exact (hls i _ (List.getElem?_eq_getElem hi)).1
    · rw [hll]; exact Nat.le_trans hln (by decide)
    · rw [hll] at h0
      obtain ⟨c0, hc0, _⟩ := (hls 0 _ (List.getElem?_eq_getElem (by omega))).2
      have hblk := World.cells?_block hc0 hs0
      rw [Nat.zero_mul] at hc0 hblk
      have hadd : a.add 0 = a := rfl
      rw [hadd] at hc0 hblk
      have hsp : a.spot = none := by
        have h2 := (World.cells?_some hc0).2.2 0 hs0
        rw [hadd, List.getElem?_eq_getElem (by rw [(World.cells?_some hc0).2.1]; exact hs0)] at h2
        exact World.cell?_spot h2
      refine ⟨a.block, a.off, by cases a; simp_all, rfl, hblk, fun i hi j hj => ?_⟩
      rw [hll] at hi
      obtain ⟨⟨hxl, _⟩, ci, hci, hr⟩ := hls i _ (List.getElem?_eq_getElem (by omega))
      obtain ⟨x, h1, h2, h3⟩ := hr.2 j (by rw [hxl]; exact hj)
      refine ⟨x, ?_, h2, ?_⟩
      · have h4 := (World.cells?_some hci).2.2 j hj
        rw [← h1, ← h4]
        congr 1
        unfold Addr.add
        cases a with
        | mk b o sp' =>
          simp only at hsp
          subst hsp
          by_cases hi0 : i * s = 0
          · simp only [hi0, if_true]
            by_cases hj0 : j = 0
            · simp [hj0]
            · simp [hj0]
          · simp only [hi0, if_false]
            by_cases hj0 : j = 0
            · simp [hj0]
            · simp [hj0, Nat.add_assoc]
      · show Rd w _ ((ls.getD i []).getD j .any) x
        rw [List.getD_eq_getElem?_getD (l := ls), List.getElem?_eq_getElem (by omega)]
        exact h3
theorem typed {α : Type} {enc : α → List AV} {ok : α → Prop} : ∀ ls : List (List AV), (∀ x ∈ ls, ∃ y, ok y ∧ x = enc y) → ∃ ys : List α, ls = ys.map enc ∧ ∀ y ∈ ys, ok y
  | [], _ => ⟨[], rfl, fun y hy => by simp at hy⟩
  | x :: ls, h => by
    obtain ⟨y, hy, rfl⟩ := h x (by simp)
    obtain ⟨ys, rfl, hys⟩ := typed ls fun z hz => h z (by simp [hz])
    exact ⟨y :: ys, rfl, fun z hz => by
      rcases List.mem_cons.1 hz with rfl | hz
      · exact hy
      · exact hys z hz⟩
theorem opens_list {α : Type} {enc : α → List AV} {ok : α → Prop} {s : Nat} (hu : P.underlying t = some (.slice e)) (hs : P.cellsOf e = s) (hs0 : 0 < s) (hb : 0 < P.bytesOf e) (ho : OpensQ P w e fun l => ∃ y, ok y ∧ l = enc y) :
    OpensQ P w t fun l => ∃ ys : List α, (ys.length * P.bytesOf e ≤ reachBytes ∧ ∀ y ∈ ys, ok y) ∧ l = [encL s enc ys] := by
  refine (opens_slice hu hs hs0 hb ho).mono ?_
  rintro l ⟨ls, rfl, h1, h2⟩
  obtain ⟨ys, rfl, hys⟩ := typed ls fun x hx => (h2 x hx).2
  refine ⟨ys, ⟨by simpa using h1, hys⟩, ?_⟩
  congr 1
  unfold encL
  rw [List.length_map]
  congr 1
  funext i j
  cases hy : ys[i]? <;> simp [List.getD_eq_getElem?_getD, hy]
/-- Fields, one behind the other. -/
def catQ : List (List AV → Prop) → List AV → Prop
  | [], l => l = []
  | Q :: Qs, l => ∃ a b, Q a ∧ catQ Qs b ∧ l = a ++ b
def fieldsQ (P : Program) (w : World) : List Field → List (List AV → Prop) → Nat → Nat → Prop
  | [], [], off, tot => off = tot
  | f :: fs, Q :: Qs, off, tot => f.offset = off ∧ OpensQ P w f.type Q ∧ fieldsQ P w fs Qs (off + P.cellsOf f.type) tot
  | _, _, _, _ => False
theorem fieldsQ_le : ∀ (fs : List Field) (Qs : List (List AV → Prop)) (off tot : Nat), fieldsQ P w fs Qs off tot → off ≤ tot
  | [], [], _, _, h => Nat.le_of_eq h
  | f :: fs, Q :: Qs, off, tot, h => Nat.le_trans (Nat.le_add_right _ _) (fieldsQ_le fs Qs _ tot h.2.2)
  | [], _ :: _, _, _, h => h.elim
  | _ :: _, [], _, _, h => h.elim
theorem fields_open {H : Type} {enc : TypeId × Value → H} {base : Nat} {sp : Nat → Bool} {held : Bool} {n : Nat} {cs : List Value} : ∀ (fs : List Field) (Qs : List (List AV → Prop)) (off : Nat) (xs : List (DataW H × List MemPlace)),
    fieldsQ P w fs Qs off cs.length → xs.length = fs.length → (∀ (i : Nat) (f : Field), fs[i]? = some f → DataW.trod enc P w base sp held n f.type ((cs.drop f.offset).take (P.cellsOf f.type)) = xs[i]?) →
    (∀ m ∈ DataW.weightsEach P (fs.map (·.type)) (xs.map (·.1)), m ≤ reachBytes) → ∃ l, catQ Qs l ∧ CellsR w (cs.drop off) l
  | [], [], off, xs, h, _, _, _ => ⟨[], rfl, by rw [show off = cs.length from h, List.drop_length]; exact CellsR.nil w⟩
  | f :: fs, Q :: Qs, off, x :: xs, h, hl, hf, hw => by
    obtain ⟨rfl, ho, h⟩ := h
    have h0 := hf 0 f rfl
    simp only [List.getElem?_cons_zero] at h0
    obtain ⟨a, ha, hra⟩ := ho H enc base sp held n _ x.1 x.2 h0 fun m hm => hw m (by simp only [List.map_cons, DataW.weightsEach, List.mem_append]; exact .inl hm)
    obtain ⟨b, hb, hrb⟩ := fields_open fs Qs _ xs h (by simpa using hl) (fun i g hg => by simpa using hf (i + 1) g (by simpa using hg)) fun m hm => hw m (by simp only [List.map_cons, DataW.weightsEach, List.mem_append]; exact .inr hm)
    refine ⟨a ++ b, ⟨a, b, ha, hb, rfl⟩, ?_⟩
    have := hra.append hrb
    rwa [← List.drop_drop, List.take_append_drop] at this
  | [], _ :: _, _, _, h, _, _, _ => h.elim
  | _ :: _, [], _, _, h, _, _, _ => h.elim
  | _ :: _, _ :: _, _, [], _, hl, _, _ => by simp at hl
theorem opens_struct {fs : Array Field} {Qs : List (List AV → Prop)} (hu : P.underlying t = some (.struct fs)) (h : fieldsQ P w fs.toList Qs 0 (P.cellsOf t)) : OpensQ P w t (catQ Qs) := by
  intro H enc base sp held fuel cs d p ht hw
  obtain ⟨xs, n, rfl, hx, hl, hlen, hf⟩ := DataW.trod_struct hu ht
  simp only [Prod.mk.injEq] at hx
  obtain ⟨rfl, _⟩ := hx
  rw [← hl] at h
  have := fields_open fs.toList Qs 0 xs h (by simpa using hlen) (fun i f hi => hf i f (by simpa using hi)) fun m hm => hw m (by simpa only [DataW.weights, hu] using hm)
  simpa using this
/-- An argument of one cell; one that is a struct. -/
theorem arg_one {Q : List AV → Prop} {H : Type} {enc : TypeId × Value → H} {base : Nat} {sp : Nat → Bool} {held : Bool} {d : DataW H} {p : List MemPlace} {v : Value} (ho : OpensQ P w t Q) (h : DataW.Trod enc P w base sp held t v d p) (hw : ∀ n ∈ d.weights P t, n ≤ reachBytes) (hv : v.oneCell' = true) :
    ∃ a, Q [a] ∧ Rd w (fun _ => none) a v := by
  obtain ⟨fuel, h⟩ := h
  obtain ⟨l, hq, hl, hr⟩ := ho H enc base sp held fuel _ d p h hw
  have hc : v.cells.toList = [v] := by cases v <;> first | rfl | cases hv
  rw [hc] at hl hr
  match l, hl with
  | [a], _ =>
    obtain ⟨x, h1, _, h3⟩ := hr 0 (by simp)
    simp at h1
    subst h1
    exact ⟨a, hq, h3⟩
theorem arg_agg {Q : List AV → Prop} {H : Type} {enc : TypeId × Value → H} {base : Nat} {sp : Nat → Bool} {held : Bool} {d : DataW H} {p : List MemPlace} {cs : Array Value} (ho : OpensQ P w t Q) (h : DataW.Trod enc P w base sp held t (.agg cs) d p) (hw : ∀ n ∈ d.weights P t, n ≤ reachBytes) :
    ∃ l, Q l ∧ Rd w (fun _ => none) (aggL l) (.agg cs) := by
  obtain ⟨fuel, h⟩ := h
  obtain ⟨l, hq, hl, hr⟩ := ho H enc base sp held fuel _ d p h hw
  refine ⟨l, hq, cs, rfl, by simpa [Value.cells] using hl, fun j hj => ?_⟩
  obtain ⟨x, h1, h2, h3⟩ := hr j hj
  exact ⟨x, by simpa [Value.cells] using h1, h2, h3⟩
end
end Go.Proofs.YtmalhikcdideoaaDoor

set_option linter.unusedVariables false
namespace Go.Proofs.YtmalhikcdideoaaDoor
open Go Go.ChangeShapes Go.WideShapes Sl
def sumL {α : Type} (f : α → Nat) : List α → Nat
  | [] => 0
  | x :: r => f x + sumL f r
theorem sumL_mem {α : Type} {f : α → Nat} : ∀ {l : List α} {x : α}, x ∈ l → f x ≤ sumL f l
  | y :: r, x, h => by
    rw [sumL]
    rcases List.mem_cons.1 h with rfl | h
    · omega
    · have := sumL_mem (f := f) h; omega
theorem sumL_len {α : Type} {f : α → Nat} (hf : ∀ x, 1 ≤ f x) : ∀ l : List α, l.length ≤ sumL f l
  | [] => Nat.le_refl _
  | x :: r => by
    rw [sumL, List.length_cons]
    have := sumL_len hf r
    have := hf x
    omega
theorem bulk_pos {H : Type} (d : DataW H) : 1 ≤ Rows.uptoBulk d := by
  cases d with
  | lit l => cases l <;> simp [Rows.uptoBulk]
  | nil => simp [Rows.uptoBulk]
  | ptr d => simp [Rows.uptoBulk]
  | slice elems spare => simp [Rows.uptoBulk]
  | agg parts => simp [Rows.uptoBulk]
  | iface t d => simp [Rows.uptoBulk]
  | map entries => simp [Rows.uptoBulk]
  | held h => simp [Rows.uptoBulk]
/-- Of each value of this type that can be read: it is told by cells of which Q speaks, and of the value's bulk. -/
def OpensB (P : Program) (w : World) (t : TypeId) (Q : Nat → List AV → Prop) : Prop :=
  ∀ (H : Type) (enc : TypeId × Value → H) (base : Nat) (sp : Nat → Bool) (held : Bool) (fuel : Nat) (cs : List Value) (d : DataW H) (p : List MemPlace),
    DataW.trod enc P w base sp held fuel t cs = some (d, p) → (∀ n ∈ d.weights P t, n ≤ reachBytes) → ∃ l, Q (Rows.uptoBulk d) l ∧ CellsR w cs l
section
variable {P : Program} {w : World} {t e : TypeId}
theorem OpensB.mono {Q Q' : Nat → List AV → Prop} (o : OpensB P w t Q) (h : ∀ n l, Q n l → Q' n l) : OpensB P w t Q' := fun H enc base sp held fuel cs d p ht hw =>
  let ⟨l, h1, h2⟩ := o H enc base sp held fuel cs d p ht hw
  ⟨l, h _ l h1, h2⟩
theorem OpensB.of {Q : List AV → Prop} (o : OpensQ P w t Q) : OpensB P w t fun n l => 1 ≤ n ∧ Q l := fun H enc base sp held fuel cs d p ht hw =>
  let ⟨l, h1, h2⟩ := o H enc base sp held fuel cs d p ht hw
  ⟨l, ⟨bulk_pos d, h1⟩, h2⟩
theorem OpensB.weak {Q Q' : Nat → List AV → Prop} (o : OpensB P w t Q) (h : ∀ n l, Q n l → ∃ l', Q' n l' ∧ l'.length = l.length ∧ ∀ j, l'.getD j .any = l.getD j .any ∨ l'.getD j .any = .any) : OpensB P w t Q' := by
  intro H enc base sp held fuel cs d p ht hw
  obtain ⟨l, h1, h2, h3⟩ := o H enc base sp held fuel cs d p ht hw
  obtain ⟨l', e1, e2, e3⟩ := h _ l h1
  refine ⟨l', e1, by rw [h2, e2], fun j hj => ?_⟩
  obtain ⟨x, f1, f2, f3⟩ := h3 j (by omega)
  refine ⟨x, f1, f2, ?_⟩
  rcases e3 j with e | e
  · rw [e]; exact f3
  · rw [e]; trivial
/-- A slice that is not read. -/
theorem opens_sliceAny (hu : P.underlying t = some (.slice e)) : OpensQ P w t fun l => l = [.any] := by
  intro H enc base sp held fuel cs d p ht hw
  rcases DataW.trod_slice hu ht with ⟨rfl, _⟩ | ⟨a, len, cap, elems, rest, n, _, rfl, _⟩
  · exact ⟨_, rfl, CellsR.one rfl trivial⟩
  · exact ⟨_, rfl, CellsR.one rfl trivial⟩
theorem opensB_string (hu : P.underlying t = some .string) : OpensB P w t fun n l => ∃ s : ByteArray, s.size + 1 ≤ n ∧ l = [.v (.string s)] := by
  intro H enc base sp held fuel cs d p ht hw
  obtain ⟨s, rfl, hd, _⟩ := DataW.trod_string hu ht
  simp only [Prod.mk.injEq] at hd
  obtain ⟨rfl, _⟩ := hd
  refine ⟨_, ⟨s, ?_, rfl⟩, CellsR.one rfl rfl⟩
  have : s.data.toList.length = s.size := Array.length_toList
  simp only [Rows.uptoBulk]
  omega
theorem opensB_i64 (hu : P.underlying t = some (.int .i64)) : OpensB P w t fun n l => ∃ x : Int, (-9223372036854775808 ≤ x ∧ x ≤ 9223372036854775807) ∧ 1 ≤ n ∧ l = [.v (.int .i64 x)] := by
  refine (OpensB.of (opens_int hu)).mono ?_
  rintro n l ⟨h1, x, hw, rfl⟩
  refine ⟨x, ?_, h1, rfl⟩
  have h2 : (IntKind.i64.min ≤ x) ∧ x ≤ IntKind.i64.max := by simpa [Lit.wf] using hw
  have e1 : IntKind.i64.min = -9223372036854775808 := by decide
  have e2 : IntKind.i64.max = 9223372036854775807 := by decide
  omega
theorem typedB {α H : Type} {enc : α → List AV} {ok : α → Prop} {μ : α → Nat} : ∀ (ls : List (List AV)) (ds : List (DataW H)), ls.length = ds.length → (∀ i x, ls[i]? = some x → ∃ y, μ y ≤ Rows.uptoBulk (ds.getD i .nil) ∧ ok y ∧ x = enc y) →
    ∃ ys : List α, ls = ys.map enc ∧ (∀ y ∈ ys, ok y) ∧ sumL μ ys ≤ Rows.uptoBulkAll ds
  | [], _, _, _ => ⟨[], rfl, fun y hy => by simp at hy, by simp [sumL]⟩
  | x :: ls, [], h, _ => by simp at h
  | x :: ls, d :: ds, hl, h => by
    obtain ⟨y, hm, hy, rfl⟩ := h 0 x rfl
    obtain ⟨ys, rfl, hys, hs⟩ := typedB (μ := μ) (ok := ok) (enc := enc) ls ds (by simpa using hl) fun i z hz => h (i + 1) z (by simpa using hz)
    refine ⟨y :: ys, rfl, fun z hz => ?_, ?_⟩
    · rcases List.mem_cons.1 hz with rfl | hz
      · exact hy
      · exact hys z hz
    · simp only [sumL, Rows.uptoBulkAll]
      have : μ y ≤ Rows.uptoBulk d := hm
      omega
theorem opensB_list {α : Type} {enc : α → List AV} {ok : α → Prop} {μ : α → Nat} {s : Nat} (hu : P.underlying t = some (.slice e)) (hs : P.cellsOf e = s) (hs0 : 0 < s) (hb : 0 < P.bytesOf e) (ho : OpensB P w e fun n l => ∃ y, μ y ≤ n ∧ ok y ∧ l = enc y) :
    OpensB P w t fun n l => ∃ ys : List α, sumL μ ys + 1 ≤ n ∧ (∀ y ∈ ys, ok y) ∧ l = [encL s enc ys] := by
  intro H enc' base sp held fuel cs d p ht hw
  rcases DataW.trod_slice hu ht with ⟨rfl, h1, h2⟩ | ⟨a, len, cap, elems, rest, n, _, rfl, hx, hbase, hlc, hcap, hlen, hel, _⟩
  · exact ⟨_, ⟨[], by rw [sumL]; exact bulk_pos _, fun y hy => by simp at hy, rfl⟩, CellsR.one rfl ⟨none, 0, rfl, Nat.le_refl _, by simp, fun h => absurd h (by simp)⟩⟩
  · simp only [Prod.mk.injEq] at hx
    obtain ⟨rfl, _⟩ := hx
    have hwt : (len + rest.length) * P.bytesOf e ≤ reachBytes := by
      have := hw ((elems.length + rest.length) * P.bytesOf e) (by simp [DataW.weights, hu])
      rwa [hlen] at this
    have hlb : len * P.bytesOf e ≤ reachBytes := Nat.le_trans (Nat.mul_le_mul_right _ (by omega)) hwt
    have hln : len ≤ reachBytes := Nat.le_trans (Nat.le_mul_of_pos_right _ hb) hlb
    have each : ∀ i, i < len → ∃ x : List AV, (x.length = s ∧ ∃ y, μ y ≤ Rows.uptoBulk ((elems.map (·.1)).getD i .nil) ∧ ok y ∧ x = enc y) ∧ ∃ ci, w.cells? base (a.add (i * s)) s = some ci ∧ CellsR w ci x := fun i hi => by
      have h1 := hel i hi
      rw [hs, List.getElem?_eq_getElem (by omega)] at h1
      cases hc : w.cells? base (a.add (i * s)) s with
      | none => rw [hc] at h1; simp at h1
      | some ci =>
        rw [hc] at h1
        simp only [Option.bind_some] at h1
        have hmem : elems[i].1 ∈ elems.map (·.1) := List.mem_map.2 ⟨elems[i], List.getElem_mem _, rfl⟩
        obtain ⟨x, hq, hr⟩ := ho H enc' base sp held n ci elems[i].1 elems[i].2 h1 fun m hm => hw m (by
          simp only [DataW.weights, hu, List.mem_cons, List.mem_append]
          exact .inr (.inl (weightsAll_mem _ _ hmem m hm)))
        have hl := (World.cells?_some hc).2.1
        have hg : (elems.map (·.1)).getD i .nil = elems[i].1 := by
          rw [List.getD_eq_getElem?_getD, List.getElem?_map, List.getElem?_eq_getElem (by omega)]; rfl
        exact ⟨x, ⟨by rw [← hr.1, hl], by rw [hg]; exact hq⟩, ci, rfl, hr⟩
    obtain ⟨ls, hll, hls⟩ := list_of len each
    obtain ⟨ys, hy1, hy2, hy3⟩ := typedB (μ := μ) (ok := ok) (enc := enc) ls (elems.map (·.1)) (by rw [List.length_map]; omega) fun i x hx => (hls i x hx).1.2
    have henc : encL s enc ys = .sl s ls.length fun i j => (ls.getD i []).getD j .any := by
      subst hy1
      unfold encL
      rw [List.length_map]
      congr 1
      funext i j
      cases hy : ys[i]? <;> simp [List.getD_eq_getElem?_getD, hy]
    refine ⟨_, ⟨ys, ?_, hy2, rfl⟩, ?_⟩
    · simp only [Rows.uptoBulk]
      omega
    rw [henc]
    refine CellsR.one rfl ⟨some a, cap, by rw [hll], by omega, ?_, fun h0 => ?_⟩
    · rw [hll]; exact Nat.le_trans hln (by decide)
    · rw [hll] at h0
      obtain ⟨c0, hc0, _⟩ := (hls 0 _ (List.getElem?_eq_getElem (by omega))).2
      have hblk := World.cells?_block hc0 hs0
      rw [Nat.zero_mul] at hc0 hblk
      have hadd : a.add 0 = a := rfl
      rw [hadd] at hc0 hblk
      have hsp : a.spot = none := by
        have h2 := (World.cells?_some hc0).2.2 0 hs0
        rw [hadd, List.getElem?_eq_getElem (by rw [(World.cells?_some hc0).2.1]; exact hs0)] at h2
        exact World.cell?_spot h2
      refine ⟨a.block, a.off, by cases a; simp_all, rfl, hblk, fun i hi j hj => ?_⟩
      rw [hll] at hi
      obtain ⟨⟨hxl, _⟩, ci, hci, hr⟩ := hls i _ (List.getElem?_eq_getElem (by omega))
      obtain ⟨x, h1, h2, h3⟩ := hr.2 j (by rw [hxl]; exact hj)
      refine ⟨x, ?_, h2, ?_⟩
      · have h4 := (World.cells?_some hci).2.2 j hj
        rw [← h1, ← h4]
        congr 1
        unfold Addr.add
        cases a with
        | mk b o sp' =>
          simp only at hsp
          subst hsp
          by_cases hi0 : i * s = 0
          · simp only [hi0, if_true]
            by_cases hj0 : j = 0
            · simp [hj0]
            · simp [hj0]
          · simp only [hi0, if_false]
            by_cases hj0 : j = 0
            · simp [hj0]
            · simp [hj0, Nat.add_assoc]
      · show Rd w _ ((ls.getD i []).getD j .any) x
        rw [List.getD_eq_getElem?_getD (l := ls), List.getElem?_eq_getElem (by omega)]
        exact h3
/-- Fields, one behind the other. -/
def catB : List (Nat → List AV → Prop) → Nat → List AV → Prop
  | [], _, l => l = []
  | Q :: Qs, n, l => ∃ a b n1 n2, n1 + n2 ≤ n ∧ Q n1 a ∧ catB Qs n2 b ∧ l = a ++ b
def fieldsB (P : Program) (w : World) : List Field → List (Nat → List AV → Prop) → Nat → Nat → Prop
  | [], [], off, tot => off = tot
  | f :: fs, Q :: Qs, off, tot => f.offset = off ∧ OpensB P w f.type Q ∧ fieldsB P w fs Qs (off + P.cellsOf f.type) tot
  | _, _, _, _ => False
theorem fields_openB {H : Type} {enc : TypeId × Value → H} {base : Nat} {sp : Nat → Bool} {held : Bool} {n : Nat} {cs : List Value} : ∀ (fs : List Field) (Qs : List (Nat → List AV → Prop)) (off : Nat) (xs : List (DataW H × List MemPlace)),
    fieldsB P w fs Qs off cs.length → xs.length = fs.length → (∀ (i : Nat) (f : Field), fs[i]? = some f → DataW.trod enc P w base sp held n f.type ((cs.drop f.offset).take (P.cellsOf f.type)) = xs[i]?) →
    (∀ m ∈ DataW.weightsEach P (fs.map (·.type)) (xs.map (·.1)), m ≤ reachBytes) → ∃ l, catB Qs (Rows.uptoBulkAll (xs.map (·.1))) l ∧ CellsR w (cs.drop off) l
  | [], [], off, xs, h, _, _, _ => ⟨[], rfl, by rw [show off = cs.length from h, List.drop_length]; exact CellsR.nil w⟩
  | f :: fs, Q :: Qs, off, x :: xs, h, hl, hf, hw => by
    obtain ⟨rfl, ho, h⟩ := h
    have h0 := hf 0 f rfl
    simp only [List.getElem?_cons_zero] at h0
    obtain ⟨a, ha, hra⟩ := ho H enc base sp held n _ x.1 x.2 h0 fun m hm => hw m (by simp only [List.map_cons, DataW.weightsEach, List.mem_append]; exact .inl hm)
    obtain ⟨b, hb, hrb⟩ := fields_openB fs Qs _ xs h (by simpa using hl) (fun i g hg => by simpa using hf (i + 1) g (by simpa using hg)) fun m hm => hw m (by simp only [List.map_cons, DataW.weightsEach, List.mem_append]; exact .inr hm)
    refine ⟨a ++ b, ⟨a, b, _, _, Nat.le_refl _, ha, hb, rfl⟩, ?_⟩
    have := hra.append hrb
    rwa [← List.drop_drop, List.take_append_drop] at this
  | [], _ :: _, _, _, h, _, _, _ => h.elim
  | _ :: _, [], _, _, h, _, _, _ => h.elim
  | _ :: _, _ :: _, _, [], _, hl, _, _ => by simp at hl
theorem opensB_struct {fs : Array Field} {Qs : List (Nat → List AV → Prop)} (hu : P.underlying t = some (.struct fs)) (h : fieldsB P w fs.toList Qs 0 (P.cellsOf t)) : OpensB P w t (fun n l => ∃ m, m + 1 = n ∧ catB Qs m l) := by
  intro H enc base sp held fuel cs d p ht hw
  obtain ⟨xs, n, rfl, hx, hl, hlen, hf⟩ := DataW.trod_struct hu ht
  simp only [Prod.mk.injEq] at hx
  obtain ⟨rfl, _⟩ := hx
  rw [← hl] at h
  obtain ⟨l, h1, h2⟩ := fields_openB fs.toList Qs 0 xs h (by simpa using hlen) (fun i f hi => hf i f (by simpa using hi)) fun m hm => hw m (by simpa only [DataW.weights, hu] using hm)
  exact ⟨l, ⟨_, by simp only [Rows.uptoBulk], h1⟩, by simpa using h2⟩
/-- An argument of one cell; one that is a struct. -/
theorem argB_one {Q : Nat → List AV → Prop} {H : Type} {enc : TypeId × Value → H} {base : Nat} {sp : Nat → Bool} {held : Bool} {d : DataW H} {p : List MemPlace} {v : Value} (ho : OpensB P w t Q) (h : DataW.Trod enc P w base sp held t v d p) (hw : ∀ n ∈ d.weights P t, n ≤ reachBytes) (hv : v.oneCell' = true) :
    ∃ a, Q (Rows.uptoBulk d) [a] ∧ Rd w (fun _ => none) a v := by
  obtain ⟨fuel, h⟩ := h
  obtain ⟨l, hq, hl, hr⟩ := ho H enc base sp held fuel _ d p h hw
  have hc : v.cells.toList = [v] := by cases v <;> first | rfl | cases hv
  rw [hc] at hl hr
  match l, hl with
  | [a], _ =>
    obtain ⟨x, h1, _, h3⟩ := hr 0 (by simp)
    simp at h1
    subst h1
    exact ⟨a, hq, h3⟩
theorem argB_agg {Q : Nat → List AV → Prop} {H : Type} {enc : TypeId × Value → H} {base : Nat} {sp : Nat → Bool} {held : Bool} {d : DataW H} {p : List MemPlace} {cs : Array Value} (ho : OpensB P w t Q) (h : DataW.Trod enc P w base sp held t (.agg cs) d p) (hw : ∀ n ∈ d.weights P t, n ≤ reachBytes) :
    ∃ l, Q (Rows.uptoBulk d) l ∧ Rd w (fun _ => none) (aggL l) (.agg cs) := by
  obtain ⟨fuel, h⟩ := h
  obtain ⟨l, hq, hl, hr⟩ := ho H enc base sp held fuel _ d p h hw
  refine ⟨l, hq, cs, rfl, by simpa [Value.cells] using hl, fun j hj => ?_⟩
  obtain ⟨x, h1, h2, h3⟩ := hr j hj
  exact ⟨x, by simpa [Value.cells] using h1, h2, h3⟩
end
end Go.Proofs.YtmalhikcdideoaaDoor

set_option linter.unusedVariables false
set_option linter.unusedSimpArgs false
namespace Go.Proofs.YtmalhikcdideoaaDoor
open Go Sl
attribute [local irreducible] XRange LpQ XR XRo XRg XRQ putQ XFv XL XW2 wQ putW X XO XOp XH XHo XW SeqQ BlkQ XOQ XHQ NrmQ XC XM XG XHM XHG XD CallK
section
variable (w : World)
abbrev BI (n : Nat) (l : List AV) : Prop := ∃ x : Int, i64B x ∧ 1 ≤ n ∧ l = [I x]
abbrev BB (n : Nat) (l : List AV) : Prop := 1 ≤ n ∧ ∃ b : Bool, l = [B b]
abbrev BS (n : Nat) (l : List AV) : Prop := ∃ s : ByteArray, s.size + 1 ≤ n ∧ l = [S s]
theorem c_int : Tryd.prog.cellsOf 3 = 1 := by kernel_rfl
theorem c_bool : Tryd.prog.cellsOf 4 = 1 := by kernel_rfl
theorem c_str : Tryd.prog.cellsOf 9 = 1 := by kernel_rfl
theorem b_int : 0 < Tryd.prog.bytesOf 3 := Nat.lt_of_lt_of_eq (by decide : 0 < 8) (by kernel_rfl)
theorem o_int : OpensB Tryd.prog w 3 BI := opensB_i64 Tryd.underlying3
theorem o_bool : OpensB Tryd.prog w 4 BB := OpensB.of (opens_bool Tryd.underlying4)
theorem o_str : OpensB Tryd.prog w 9 BS := opensB_string Tryd.underlying9
def one1 {α : Type} (_ : α) : Nat := 1
abbrev Bints (n : Nat) (l : List AV) : Prop := ∃ k : List Int, sumL one1 k + 1 ≤ n ∧ (∀ x ∈ k, i64B x) ∧ l = [encL 1 cI k]
theorem c_ints : Tryd.prog.cellsOf 37 = 1 := by kernel_rfl
theorem o_ints : OpensB Tryd.prog w 37 Bints :=
  opensB_list (enc := cI) (μ := one1) (ok := i64B) Tryd.underlying37 c_int (by decide) b_int ((o_int w).mono fun n l ⟨x, h1, h2, h3⟩ => ⟨x, h2, h1, h3⟩)
theorem c_val : Tryd.prog.cellsOf 123 = 2 := by kernel_rfl
theorem o_val : OpensB Tryd.prog w 123 fun n l => ∃ a b : Int, 1 ≤ n ∧ l = [I a, I b] := by
  refine (opensB_struct (w := w) Tryd.underlying123 (Qs := [BI, BI]) (by
    simp only [fieldsB, c_int, c_val]
    exact ⟨trivial, o_int w, trivial, o_int w, trivial⟩)).mono ?_
  rintro n l ⟨m, hm, _, _, n1, n2, hn, ⟨a, _, _, rfl⟩, ⟨_, _, n3, n4, hn2, ⟨b, _, _, rfl⟩, rfl, rfl⟩, rfl⟩
  exact ⟨a, b, by omega, rfl⟩
theorem c_step : Tryd.prog.cellsOf 114 = 2 := by kernel_rfl
theorem b_step : 0 < Tryd.prog.bytesOf 114 := Nat.lt_of_lt_of_eq (by decide : 0 < 16) (by kernel_rfl)
def okSt (x : Int × Int) : Prop := i64B x.1 ∧ i64B x.2
theorem o_step : OpensB Tryd.prog w 114 fun n l => ∃ x : Int × Int, one1 x ≤ n ∧ okSt x ∧ l = cSt x := by
  refine (opensB_struct (w := w) Tryd.underlying114 (Qs := [BI, BI]) (by
    simp only [fieldsB, c_int, c_step]
    exact ⟨trivial, o_int w, trivial, o_int w, trivial⟩)).mono ?_
  rintro n l ⟨m, hm, _, _, n1, n2, hn, ⟨a, ha, _, rfl⟩, ⟨_, _, n3, n4, hn2, ⟨b, hb, _, rfl⟩, rfl, rfl⟩, rfl⟩
  exact ⟨(a, b), by unfold one1; omega, ⟨ha, hb⟩, rfl⟩
abbrev Bsteps (n : Nat) (l : List AV) : Prop := ∃ k : List (Int × Int), sumL one1 k + 1 ≤ n ∧ (∀ x ∈ k, okSt x) ∧ l = [encL 2 cSt k]
theorem c_steps : Tryd.prog.cellsOf 66 = 1 := by kernel_rfl
theorem o_steps : OpensB Tryd.prog w 66 Bsteps :=
  opensB_list (enc := cSt) (μ := one1) (ok := okSt) Tryd.underlying66 c_step (by decide) b_step (o_step w)
theorem c_node : Tryd.prog.cellsOf 39 = 5 := by kernel_rfl
theorem b_node : 0 < Tryd.prog.bytesOf 39 := Nat.lt_of_lt_of_eq (by decide : 0 < 64) (by kernel_rfl)
def muNd (x : Nd) : Nat := x.nm.size + x.kids.length + 1
def okNd (x : Nd) : Prop := i64B x.op ∧ (∀ k ∈ x.kids, i64B k) ∧ i64B x.kd ∧ i64B x.n
theorem sum_one {α : Type} : ∀ l : List α, sumL one1 l = l.length
  | [] => rfl
  | x :: r => by rw [sumL, sum_one r, List.length_cons]; unfold one1; omega
theorem o_node : OpensB Tryd.prog w 39 fun n l => ∃ x : Nd, muNd x ≤ n ∧ okNd x ∧ l = cNd x := by
  refine (opensB_struct (w := w) Tryd.underlying39 (Qs := [BI, Bints, BI, BI, BS]) (by
    simp only [fieldsB, c_int, c_ints, c_str, c_node]
    exact ⟨trivial, o_int w, trivial, o_ints w, trivial, o_int w, trivial, o_int w, trivial, o_str w, trivial⟩)).mono ?_
  rintro n l ⟨m, hm, _, _, n1, n2, hn, ⟨a, ha, _, rfl⟩, ⟨_, _, n3, n4, hn2, ⟨k, hk, hkb, rfl⟩, ⟨_, _, n5, n6, hn3, ⟨c, hc, _, rfl⟩, ⟨_, _, n7, n8, hn4, ⟨d, hd, _, rfl⟩, ⟨_, _, n9, n10, hn5, ⟨s, hs, rfl⟩, rfl, rfl⟩, rfl⟩, rfl⟩, rfl⟩, rfl⟩
  rw [sum_one] at hk
  exact ⟨⟨a, k, c, d, s⟩, by unfold muNd; simp only; omega, ⟨ha, hkb, hc, hd⟩, rfl⟩
theorem o_expr : OpensB Tryd.prog w 42 fun n l => ∃ k : List Nd, sumL muNd k + 1 ≤ n ∧ (∀ x ∈ k, okNd x) ∧ l = [encL 5 cNd k] :=
  opensB_list (enc := cNd) (μ := muNd) (ok := okNd) Tryd.underlying42 c_node (by decide) b_node (o_node w)
theorem c_table : Tryd.prog.cellsOf 68 = 5 := by kernel_rfl
theorem b_table : 0 < Tryd.prog.bytesOf 68 := Nat.lt_of_lt_of_eq (by decide : 0 < 64) (by kernel_rfl)
def muTb (t : Tb) : Nat := t.name.size + t.steps.length + 1
def okTb (t : Tb) : Prop := i64B t.fr ∧ i64B t.to ∧ ∀ x ∈ t.steps, okSt x
theorem o_table : OpensB Tryd.prog w 68 fun n l => ∃ x : Tb, muTb x ≤ n ∧ okTb x ∧ l = cTb x := by
  refine (opensB_struct (w := w) Tryd.underlying68 (Qs := [BS, BI, BI, BB, Bsteps]) (by
    simp only [fieldsB, c_bool, c_int, c_steps, c_str, c_table]
    exact ⟨trivial, o_str w, trivial, o_int w, trivial, o_int w, trivial, o_bool w, trivial, o_steps w, trivial⟩)).mono ?_
  rintro n l ⟨m, hm, _, _, n1, n2, hn, ⟨s, hs, rfl⟩, ⟨_, _, n3, n4, hn2, ⟨a, ha, _, rfl⟩, ⟨_, _, n5, n6, hn3, ⟨b, hb, _, rfl⟩, ⟨_, _, n7, n8, hn4, ⟨_, c, rfl⟩, ⟨_, _, n9, n10, hn5, ⟨k, hk, hkb, rfl⟩, rfl, rfl⟩, rfl⟩, rfl⟩, rfl⟩, rfl⟩
  rw [sum_one] at hk
  exact ⟨⟨s, a, b, c, k⟩, by unfold muTb; simp only; omega, ⟨ha, hb, hkb⟩, rfl⟩
abbrev Btables (n : Nat) (l : List AV) : Prop := ∃ k : List Tb, sumL muTb k + 1 ≤ n ∧ (∀ x ∈ k, okTb x) ∧ l = [encL 5 cTb k]
theorem c_tables : Tryd.prog.cellsOf 60 = 1 := by kernel_rfl
theorem o_tables : OpensB Tryd.prog w 60 Btables :=
  opensB_list (enc := cTb) (μ := muTb) (ok := okTb) Tryd.underlying60 c_table (by decide) b_table (o_table w)
theorem c_attr : Tryd.prog.cellsOf 125 = 7 := by kernel_rfl
theorem b_attr : 0 < Tryd.prog.bytesOf 125 := Nat.lt_of_lt_of_eq (by decide : 0 < 64) (by kernel_rfl)
theorem o_attr : OpensB Tryd.prog w 125 fun n l => ∃ x : At, one1 x ≤ n ∧ True ∧ l = cAt x := by
  refine OpensB.weak (opensB_struct (w := w) Tryd.underlying125 (Qs := [BS, BI, BB, BI, BI, fun n l => ∃ a b : Int, 1 ≤ n ∧ l = [I a, I b]]) (by
    simp only [fieldsB, c_bool, c_int, c_val, c_str, c_attr]
    exact ⟨trivial, o_str w, trivial, o_int w, trivial, o_bool w, trivial, o_int w, trivial, o_int w, trivial, o_val w, trivial⟩)) ?_
  rintro n l ⟨m, hm, _, _, n1, n2, hn, ⟨s, hs, rfl⟩, ⟨_, _, n3, n4, hn2, ⟨a, ha, _, rfl⟩, ⟨_, _, n5, n6, hn3, ⟨_, b, rfl⟩, ⟨_, _, n7, n8, hn4, ⟨c, hc, _, rfl⟩, ⟨_, _, n9, n10, hn5, ⟨d, hd, _, rfl⟩, ⟨_, _, n11, n12, hn6, ⟨v1, v2, _, rfl⟩, rfl, rfl⟩, rfl⟩, rfl⟩, rfl⟩, rfl⟩, rfl⟩
  refine ⟨_, ⟨⟨s, a⟩, by unfold one1; omega, trivial, rfl⟩, rfl, fun j => ?_⟩
  rcases j with _ | _ | _ | _ | _ | _ | _ | j <;> simp [cAt]
theorem c_attrs : Tryd.prog.cellsOf 62 = 1 := by kernel_rfl
abbrev Battrs (n : Nat) (l : List AV) : Prop := ∃ k : List At, sumL one1 k + 1 ≤ n ∧ (∀ x ∈ k, True) ∧ l = [encL 7 cAt k]
theorem o_attrs : OpensB Tryd.prog w 62 Battrs :=
  opensB_list (enc := cAt) (μ := one1) (ok := fun _ => True) Tryd.underlying62 c_attr (by decide) b_attr (o_attr w)
theorem c_articles : Tryd.prog.cellsOf 63 = 1 := by kernel_rfl
theorem c_act : Tryd.prog.cellsOf 65 = 6 := by kernel_rfl
theorem b_act : 0 < Tryd.prog.bytesOf 65 := Nat.lt_of_lt_of_eq (by decide : 0 < 104) (by kernel_rfl)
def muAc (a : Ac) : Nat := a.attrs.length + sumL muTb a.tables + 1
def okAc (a : Ac) : Prop := ∀ t ∈ a.tables, okTb t
theorem o_act : OpensB Tryd.prog w 65 fun n l => ∃ x : Ac, muAc x ≤ n ∧ okAc x ∧ l = cAc x := by
  refine OpensB.weak (opensB_struct (w := w) Tryd.underlying65 (Qs := [BS, BI, BI, Battrs, Btables, fun n l => 1 ≤ n ∧ l = [.any]]) (by
    simp only [fieldsB, c_int, c_str, c_attrs, c_tables, c_articles, c_act]
    exact ⟨trivial, o_str w, trivial, o_int w, trivial, o_int w, trivial, o_attrs w, trivial, o_tables w, trivial, OpensB.of (opens_sliceAny Tryd.underlying63), trivial⟩)) ?_
  rintro n l ⟨m, hm, _, _, n1, n2, hn, ⟨s, hs, rfl⟩, ⟨_, _, n3, n4, hn2, ⟨a, ha, _, rfl⟩, ⟨_, _, n5, n6, hn3, ⟨b, hb, _, rfl⟩, ⟨_, _, n7, n8, hn4, ⟨k, hk, _, rfl⟩, ⟨_, _, n9, n10, hn5, ⟨q, hq, hqb, rfl⟩, ⟨_, _, n11, n12, hn6, ⟨_, rfl⟩, rfl, rfl⟩, rfl⟩, rfl⟩, rfl⟩, rfl⟩, rfl⟩
  rw [sum_one] at hk
  refine ⟨_, ⟨⟨k, q⟩, by unfold muAc; simp only; omega, hqb, rfl⟩, rfl, fun j => ?_⟩
  rcases j with _ | _ | _ | _ | _ | _ | j <;> simp [cAc]
theorem o_acts : OpensB Tryd.prog w 59 fun n l => ∃ k : List Ac, sumL muAc k + 1 ≤ n ∧ (∀ x ∈ k, okAc x) ∧ l = [encL 6 cAc k] :=
  opensB_list (enc := cAc) (μ := muAc) (ok := okAc) Tryd.underlying59 c_act (by decide) b_act (o_act w)
end
end Go.Proofs.YtmalhikcdideoaaDoor

namespace Go.Proofs.YtmalhikcdideoaaDoor
open Go Go.ChangeShapes Go.WideShapes Go.ChangeAt Go.RowKit Sl
theorem own : ownKnob Tryd.prog.godebug = none := by kernel_rfl
theorem laidOut : laidOutB Tryd.prog = true := by kernel_rfl
theorem cells5 : Tryd.prog.cellsOf 5 = 1 := by kernel_rfl
theorem cells188 : Tryd.prog.cellsOf 188 = 1 := by kernel_rfl
theorem cells85 : Tryd.prog.cellsOf 85 = 256 := by kernel_rfl
theorem cells210 : Tryd.prog.cellsOf 210 = 20 := by kernel_rfl
theorem space_agg : (Rows.laid_strings_asciiSpace : DataW Unit) = .agg ((List.range 256).map fun i => .lit (.int .u8 (if (9 ≤ i ∧ i ≤ 13) ∨ i = 32 then 1 else 0))) := by kernel_rfl
theorem pow_agg : (Rows.laid_internal_strconv_uint64pow10 : DataW Unit) = .agg ((List.range 20).map fun i => .lit (.int .u64 ((10 : Nat) ^ i : Nat))) := by kernel_rfl
theorem pow_eq : ((List.range 20).map fun i => Value.int .u64 ((10 : Nat) ^ i : Nat)) = powL := by kernel_rfl
theorem lits_of {H : Type} {enc : TypeId × Value → H} {P : Program} {w : World} {base : Nat} {sp : Nat → Bool} {held : Bool} {n m : Nat} {e t : TypeId} {cs : List Value} {f : Nat → Int} {p : List MemPlace} {k : IntKind}
    (ht : P.underlying t = some (.array n e)) (he : P.underlying e = some (.int k)) (hc : P.cellsOf e = 1) (hct : P.cellsOf t = n) (h : DataW.trod enc P w base sp held m t cs = some (.agg ((List.range n).map fun i => .lit (.int k (f i))), p)) :
    cs = (List.range n).map fun i => .int k (f i) := by
  obtain ⟨xs, m1, rfl, hx, hlen, hn, hel⟩ := DataW.trod_array ht h
  simp only [Prod.mk.injEq, DataW.agg.injEq] at hx
  rw [hct] at hlen
  refine List.ext_getElem (by simp [hlen]) fun i h1 h2 => ?_
  have hi : i < n := by omega
  have hE := hel i hi
  rw [hc, Nat.mul_one] at hE
  obtain ⟨x, hxi⟩ : ∃ x, xs[i]? = some x := ⟨_, List.getElem?_eq_getElem (by omega)⟩
  rw [hxi] at hE
  have hd : (cs.drop i).take 1 = [cs[i]] := by
    rw [List.drop_eq_getElem_cons h1]; rfl
  rw [hd] at hE
  obtain ⟨v, e1, e2, _⟩ := DataW.trod_int he hE
  have e3 : (xs.map (·.1))[i]? = some (.lit (.int k (f i))) := by rw [← hx.1]; simp [hi]
  rw [List.getElem?_map, hxi, e2] at e3
  simp only [Option.map_some, Option.some.injEq, DataW.lit.injEq, Lit.int.injEq, true_and] at e3
  simp only [List.cons.injEq, and_true] at e1
  rw [e1]
  simp [e3]
/-- A variable that reads as listed: its block. -/
theorem var_heap {W : World} {name : String} {g : Nat} {cs : Array Value} {L : List Value} (hg : Tryd.prog.globalNamed name = some g) (hv : W.var? Tryd.prog name = some cs) (hcs : cs.toList = L) : ∃ ty fr, W.heap[g]? = some (.cells L.toArray ty fr) := by
  simp only [World.var?, hg, Option.bind_some] at hv
  split at hv
  · rename_i cs' ty fr hw
    simp only [Option.some.injEq] at hv
    subst hv
    refine ⟨ty, fr, ?_⟩
    rw [hw]
    congr 2
    apply Array.toList_inj.1
    rw [hcs]
  · cases hv
theorem gSpace : Tryd.prog.globalNamed "strings.asciiSpace" = some 0 := by kernel_rfl
theorem tSpace : (Tryd.prog.globals[0]?).map (·.type) = some 85 := by kernel_rfl
theorem gPow : Tryd.prog.globalNamed "internal/strconv.uint64pow10" = some 5 := by kernel_rfl
theorem tPow : (Tryd.prog.globals[5]?).map (·.type) = some 210 := by kernel_rfl
theorem space_heap {enc : TypeId × Value → Unit} {W : World} {base : Nat} {sp : Nat → Bool} {held : Bool} {g m : Nat} {t : TypeId} {cs : Array Value} {p : List MemPlace} (hg : Tryd.prog.globalNamed "strings.asciiSpace" = some g)
    (ht : (Tryd.prog.globals[g]?).map (·.type) = some t) (hv : W.var? Tryd.prog "strings.asciiSpace" = some cs) (hd : DataW.trod enc Tryd.prog W base sp held m t cs.toList = some (Rows.laid_strings_asciiSpace, p)) : ∃ ty fr, W.heap[0]? = some (.cells spaceL.toArray ty fr) := by
  obtain rfl := Option.some.inj (gSpace.symm.trans hg)
  obtain rfl := Option.some.inj (tSpace.symm.trans ht)
  rw [space_agg] at hd
  exact var_heap gSpace hv (lits_of Tryd.underlying85 Tryd.underlying5 cells5 cells85 hd)
theorem pow_heap {enc : TypeId × Value → Unit} {W : World} {base : Nat} {sp : Nat → Bool} {held : Bool} {g m : Nat} {t : TypeId} {cs : Array Value} {p : List MemPlace} (hg : Tryd.prog.globalNamed "internal/strconv.uint64pow10" = some g)
    (ht : (Tryd.prog.globals[g]?).map (·.type) = some t) (hv : W.var? Tryd.prog "internal/strconv.uint64pow10" = some cs) (hd : DataW.trod enc Tryd.prog W base sp held m t cs.toList = some (Rows.laid_internal_strconv_uint64pow10, p)) : ∃ ty fr, W.heap[5]? = some (.cells powL.toArray ty fr) := by
  obtain rfl := Option.some.inj (gPow.symm.trans hg)
  obtain rfl := Option.some.inj (tPow.symm.trans ht)
  rw [pow_agg] at hd
  exact var_heap gPow hv ((lits_of Tryd.underlying210 Tryd.underlying188 cells188 cells210 hd).trans pow_eq)
theorem mem_all {l : List Nat} (h : l.all (· ≤ reachBytes) = true) : ∀ n ∈ l, n ≤ reachBytes := fun n hn => by simpa using List.all_eq_true.1 h n hn
end Go.Proofs.YtmalhikcdideoaaDoor

set_option linter.unusedVariables false
namespace Go.Proofs.YtmalhikcdideoaaDoor.cuts
open Go Go.ChangeShapes Go.WideShapes Go.ChangeAt Go.RowKit Sl
theorem plain : (Rows.treeCutsUptoRow.laid.all fun x => x.2.handleName?.isNone) = true := by kernel_rfl
theorem glob_both {W : World} (h1 : ∃ ty fr, W.heap[0]? = some (.cells spaceL.toArray ty fr)) (h2 : ∃ ty fr, W.heap[5]? = some (.cells powL.toArray ty fr)) : GlobH W fun _ => none := by
  rintro x hx
  simp only [gl, List.mem_cons, List.not_mem_nil, or_false] at hx
  rcases hx with rfl | rfl
  · refine ⟨rfl, h1, fun y hy => ?_⟩
    simp only [spaceL, List.mem_map] at hy
    obtain ⟨i, _, rfl⟩ := hy
    rfl
  · refine ⟨rfl, h2, fun y hy => ?_⟩
    simp only [powL, List.mem_map] at hy
    obtain ⟨i, _, rfl⟩ := hy
    rfl
theorem glob_of_laid {W : World} (h : laidMetH Tryd.prog Rows.treeCutsUptoRow.laid W) : GlobH W fun _ => none := by
  rw [MakeChecks.laidMetH_plain _ _ _ plain] at h
  obtain ⟨ps, ⟨_, _, _, _, _, _, _, _, _, _, ⟨_, _, _, _, _, _, _, _, _, _, ⟨g3, t3, c3, _, p3, _, hg3, ht3, hv3, hd3, ⟨_, _, _, _, _, _, _, _, _, _, ⟨_, _, _, _, _, _, _, _, _, _, ⟨g6, t6, c6, _, p6, _, hg6, ht6, hv6, hd6, _⟩, _⟩, _⟩, _⟩, _⟩, _⟩, _, _⟩ := h
  exact glob_both (space_heap hg6 ht6 hv6 hd6) (pow_heap hg3 ht3 hv3 hd3)
theorem okS_of (e : List Nd) (hb : sumL muNd e ≤ 1048576) (ho : ∀ x ∈ e, okNd x) : okS e := by
  refine ⟨by have := sumL_len (f := muNd) (fun a => by unfold muNd; omega) e; omega, fun x hx => ?_⟩
  have h1 := sumL_mem (f := muNd) hx
  have h2 : muNd x = x.nm.size + x.kids.length + 1 := rfl
  obtain ⟨o1, o2, o3, o4⟩ := ho x hx
  exact ⟨by omega, by omega, o1, o3, o4, o2⟩
theorem walk (e : List Nd) (f : List Nd) (op : Int) (hb : sumL muNd e + sumL muNd f ≤ 1048576) (hoe : ∀ x ∈ e, okNd x) (hof : ∀ x ∈ f, okNd x) (W : World) (hg : GlobH W fun _ => none) {v0 v1 v2 : Value} (h0 : Rd W (fun _ => none) (encL 5 cNd e) v0) (h1 : Rd W (fun _ => none) (encL 5 cNd f) v1) (h2 : Rd W (fun _ => none) (I op) v2) :
    Calls Tryd.prog 6 #[v0, v1, v2] W fun e w' => e = .returned (.bool true) ∧ Below W.heap.size W w' := by
  have hk := cuts_ok e f op (okS_of e (by omega) hoe) (okS_of f (by omega) hof)
  refine (hk (fun _ => none) W #[v0, v1, v2] ⟨fun b o hb => (by cases hb), hg⟩ ⟨rfl, fun i a hi => ?_⟩).mono ?_
  · match i, hi with
    | 0, hi => cases hi; exact ⟨_, rfl, h0⟩
    | 1, hi => cases hi; exact ⟨_, rfl, h1⟩
    | 2, hi => cases hi; exact ⟨_, rfl, h2⟩
    | n + 3, hi => simp at hi
  · rintro e w' ⟨u, r, h', rfl, ⟨rfl, rfl⟩, hr, _, hio, hst⟩
    exact ⟨by rw [show u = .bool true from hr], hst.below hio⟩
theorem reads (os : Os) {H : Type} (enc : TypeId × Value → H) : ∃ places, DataW.whole enc Tryd.prog ((World.laidAll Tryd.prog os Rows.treeCutsUptoRow.laid).forCall (fun _ _ => 0) ⟨#[], #[.slice none 0 0, .slice none 0 0, .int .i64 0], []⟩).memory Tryd.f6.params.toList Rows.treeCutsSpec.vars false #[Value.slice none 0 0, .slice none 0 0, .int .i64 0].toList 8 = some ([.nil, .nil, .lit (.int .i64 0)], [], places) :=
  ⟨[], by kernel_rfl⟩
set_option maxRecDepth 100000 in
theorem lifted (os : Os) (started : os.Started) (H : Type) (enc : TypeId × Value → H) (F : Stop.Interp) :
    ReturnsInHanded {} Tryd.checked os 6 .any ((Rows.OpenSpec.upto Rows.treeCutsSpec).preRow enc Tryd.prog Tryd.f6 Rows.treeCutsUptoRow.domain false Rows.treeCutsUptoRow.laid) (((Rows.OpenSpec.upto Rows.treeCutsSpec).at F).post enc Tryd.prog Tryd.f6 false true false false) := by
  obtain ⟨places, hx⟩ := reads os enc
  have hok : Input.okWideB Tryd.prog ((World.laidAll Tryd.prog os Rows.treeCutsUptoRow.laid).forCall (fun _ _ => 0) ⟨#[], #[.slice none 0 0, .slice none 0 0, .int .i64 0], []⟩) 6 ⟨#[], #[.slice none 0 0, .slice none 0 0, .int .i64 0], []⟩ = true := by kernel_rfl
  refine returnsInHanded_of_row (C := Tryd.checked) (s := Rows.OpenSpec.upto Rows.treeCutsSpec) own started (by kernel_rfl) Tryd.func6
    ⟨World.laidAll Tryd.prog os Rows.treeCutsUptoRow.laid, fun _ _ => 0, ⟨#[], #[.slice none 0 0, .slice none 0 0, .int .i64 0], []⟩, World.laidAll_os _ _ _, World.shaped_of_ZipB (by kernel_rfl) (by kernel_rfl), (Input.okWide_of_okWideB (base := 0) hok).1, (Input.okWide_of_okWideB hok).2,
      OpenSpec.preRow_of_cond 8 hx (by kernel_rfl) (fun k hk => by cases hk; kernel_rfl) (by kernel_rfl) (by rw [MakeChecks.laidMetH_plain _ _ _ plain]; exact laidMet_laidAll _ (by kernel_rfl) (by kernel_rfl)), by simp [Assume.holds]⟩ ?_
  intro W base args ds gs before hval0 hW _ hcond hsz0 hL _ _
  have hsz : (DataW.weightsEach Tryd.prog (Tryd.f6.params.toList ++ Rows.treeCutsSpec.plain.varTypes Tryd.prog) (ds ++ gs)).all (· ≤ reachBytes) = true := hsz0
  have hval : ∀ (j : Nat) t v, Tryd.f6.params[j]? = some t → args[j]? = some v → Value.okWide Tryd.prog W .any base t v := hval0
  have hbulk : Rows.uptoBulkAll (ds ++ gs) ≤ 1048576 := of_decide_eq_true (hcond _ rfl)
  have hW' := hW
  obtain ⟨p, q, hA0, hV, rfl, hfz, hnd⟩ := hW
  have hA : DataW.TrodAll enc Tryd.prog W 0 (fun _ => true) true Tryd.f6.params.toList args.toList ds p := hA0
  rw [Tryd.params6] at hA hval hsz
  obtain ⟨v0, vs0, d0, ds0, p0, q0, hargs, rfl, rfl, t0, r0⟩ := trodAll_cons hA
  obtain ⟨v1, vs1, d1, ds1, p1, q1, rfl, rfl, rfl, t1, r1⟩ := trodAll_cons r0
  obtain ⟨v2, vs2, d2, ds2, p2, q2, rfl, rfl, rfl, t2, r2⟩ := trodAll_cons r1
  obtain ⟨rfl, rfl, rfl⟩ := trodAll_nil r2
  obtain rfl : args = #[v0, v1, v2] := by cases args; simp_all
  obtain ⟨rfl, rfl⟩ := trodVars_none hV
  have hs := mem_all hsz
  have w0 : ∀ n ∈ d0.weights Tryd.prog 42, n ≤ reachBytes := fun n hn => hs n (by simp only [List.cons_append, List.nil_append, DataW.weightsEach, List.mem_append]; exact .inl hn)
  have w1 : ∀ n ∈ d1.weights Tryd.prog 42, n ≤ reachBytes := fun n hn => hs n (by simp only [List.cons_append, List.nil_append, DataW.weightsEach, List.mem_append]; exact .inr (.inl hn))
  have w2 : ∀ n ∈ d2.weights Tryd.prog 3, n ≤ reachBytes := fun n hn => hs n (by simp only [List.cons_append, List.nil_append, DataW.weightsEach, List.mem_append]; exact .inr (.inr (.inl hn)))
  have hb2 : Rows.uptoBulk d0 + Rows.uptoBulk d1 + Rows.uptoBulk d2 ≤ 1048576 := by
    simp only [List.append_nil, Rows.uptoBulkAll] at hbulk
    omega
  obtain ⟨a0, l0, b0, e0⟩ := okWide_slice Tryd.underlying42 (hval 0 _ v0 rfl rfl)
  obtain ⟨a1, l1, b1, e1⟩ := okWide_slice Tryd.underlying42 (hval 1 _ v1 rfl rfl)
  obtain ⟨n2, e2⟩ := okWide_int Tryd.underlying3 (hval 2 3 v2 rfl rfl)
  obtain ⟨x0, ⟨e, m0, o0, y0⟩, z0⟩ := argB_one (o_expr W) t0 w0 (by rw [e0]; rfl)
  obtain ⟨x1, ⟨f, m1, o1, y1⟩, z1⟩ := argB_one (o_expr W) t1 w1 (by rw [e1]; rfl)
  obtain ⟨x2, ⟨op, o2, m2, y2⟩, z2⟩ := argB_one (o_int W) t2 w2 (by rw [e2]; rfl)
  obtain rfl : x0 = encL 5 cNd e := by simpa using y0
  obtain rfl : x1 = encL 5 cNd f := by simpa using y1
  obtain rfl : x2 = I op := by simpa using y2
  clear hA0 hval0 hsz0 hsz hbulk
  have lt : ∀ {t : TypeId} {v : Value} {d : DataW H} {p : List MemPlace}, DataW.Trod enc Tryd.prog W 0 (fun _ => true) true t v d p → ∀ x ∈ p, x.block < W.heap.size := fun k => by obtain ⟨m, hm⟩ := k; exact DataW.trod_lt m _ _ _ hm
  refine (walk e f op (by omega) o0 o1 W (glob_of_laid hL) z0 z1 z2).mono fun r W' ⟨he, bel⟩ => ?_
  subst he
  exact ⟨_, rfl, _, _, _, [], _, [], hW', trodAll_mk1 (shut_bool Tryd.underlying4 _), (trodAll_cons_mk (Below.trod laidOut (by kernel_rfl) (of_decide_eq_true (by kernel_rfl)) t0 bel (lt t0)) (trodAll_cons_mk (Below.trod laidOut (by kernel_rfl) (of_decide_eq_true (by kernel_rfl)) t1 bel (lt t1)) (trodAll_cons_mk (Below.trod laidOut (by kernel_rfl) (of_decide_eq_true (by kernel_rfl)) t2 bel (lt t2)) trodAll_mk0))), rfl, bel.frame _, fun h => by cases h⟩
theorem holds : Rows.TreeCutsUptoSaid :=
  OpenClaim.holds_of_cond 6 Tryd.f6 rfl rfl rfl rfl rfl rfl rfl ⟨rfl, rfl, rfl, rfl, rfl⟩ rfl rfl rfl rfl rfl (by kernel_rfl) Tryd.func6 (by kernel_rfl)
    (of_decide_eq_true (by kernel_rfl)) (by unfold Func.isWrapper; first | (rw [if_pos (by decide +kernel)]; kernel_rfl) | (rw [if_neg (by decide +kernel)]; exact ⟨rfl, rfl⟩))
    (fun os started H enc _ F => by rw [OpenClaim.pre_eq_preRow]; exact lifted os started H enc F)
end Go.Proofs.YtmalhikcdideoaaDoor.cuts
namespace Go.Proofs.YtmalhikcdideoaaDoor
open Go
theorem treeCuts_card : Rows.TreeCutsUptoCardSaid :=
  Claim7.holds_tied_plain_at .later [] _ _ _ _ cuts.holds (fun _ h => by cases h) (by kernel_rfl) (fun _ h => by cases h) treeCutsUpto_row_tie rfl ⟨rfl, rfl⟩ (by kernel_rfl) rfl
    (fun f fn hf hfn => by
      obtain rfl : f = 6 := Option.some.inj ((show Tryd.prog.funcNamed "moothall/mootlaw2.TreeCuts" = some 6 by kernel_rfl).symm.trans hf) |>.symm
      obtain rfl : fn = Tryd.f6 := (Option.some.inj (Tryd.func6.symm.trans hfn)).symm
      exact ⟨by kernel_rfl, fun j t ht => by
        rw [Tryd.params6] at ht
        have hm : t ∈ [42, 42, 3] := by simpa using Array.mem_of_getElem? ht
        have hall : ([42, 42, 3].all fun u => !Tryd.prog.wantsStandIn u) = true := by kernel_rfl
        exact (show Tryd.prog.wantsStandIn t = false by simpa using List.all_eq_true.1 hall t hm)⟩)
    (by kernel_rfl)
end Go.Proofs.YtmalhikcdideoaaDoor
