/- Trees: what mootref2.Tree answers, and how deep trees are. In a valid expression the part below a node is no larger than the node's place. Trees written down in post-order; what tree.copied appends. mootref2.Tree, its Depth; tree.Deep. Names: what is sorted and bare of repetitions is one list, however it was made. DERIVED: THE SHELF's CONTRACTS AT THIS DUMP, IN PLAIN WORDS (tools/lay-plain.mjs out -/
import Derived.Test.YtmalhikcdideoaaDoorJ1
import Derived.Lib.SlicesCompact
import Derived.Shelf.Strconv.Itoa3
import Derived.Shelf.Strings.Builder1
import Derived.Shelf.Sort.Plain
import Derived.Test.YtmalhikcdideoaaDoorProg
import Derived.Shelf.Slices.CompactS
import Derived.Test.YtmalhikcdideoaaDoorJ0
import Derived.Shelf.Slices.Clone
set_option linter.unusedVariables false
set_option linter.unusedSimpArgs false
namespace Go.Proofs.YtmalhikcdideoaaDoor
open Go Sl
attribute [local irreducible] XRange LpQ XR XRo XRg XRQ putQ XFv XL XW2 wQ putW X XO XOp XH XHo XW SeqQ BlkQ XOQ XHQ NrmQ XC XM XG XHM XHG XD CallK
open Go.RowKit
inductive Tr where
  | mk (x : Nd) (kids : List Tr)
mutual
def cTr : Tr → List AV
  | .mk x ks => [I x.op, .v (.slice none 0 0), I x.kd, I x.n, S x.nm, .sl 6 ks.length (cTrL ks)]
def cTrL : List Tr → Nat → Nat → AV
  | [] => fun _ _ => .any
  | t :: r => fun i j => if i = 0 then (cTr t).getD j .any else cTrL r (i - 1) j
end
theorem cTrL_eq : ∀ ks : List Tr, cTrL ks = cellsL cTr ks
  | [] => by funext i j; simp [cTrL, cellsL]
  | t :: r => by
    funext i j
    rw [cTrL, cTrL_eq r]
    rcases i with _ | i
    · simp [cellsL]
    · simp [cellsL]
@[go_sem] theorem cTr_mk (x : Nd) (ks : List Tr) : cTr (.mk x ks) = [I x.op, .v (.slice none 0 0), I x.kd, I x.n, S x.nm, encL 6 cTr ks] := by
  rw [cTr, cTrL_eq]; rfl
@[go_sem] theorem cTr_len (t : Tr) : (cTr t).length = 6 := by
  obtain ⟨x, ks⟩ := t
  rw [cTr_mk]; rfl
mutual
def depthT : Tr → Int
  | .mk _ ks => depthL ks 0 + 1
def depthL : List Tr → Int → Int
  | [], m => m
  | t :: r, m => depthL r (max m (depthT t))
end
def nd0 : Nd := ⟨0, [], 0, 0, ⟨#[]⟩⟩
def bare (x : Nd) : Nd := { x with kids := [] }
def ndAt (e : List Nd) (p : Nat) : Nd := e.getD p nd0
/-- The part of an expression below a node, as a tree; the first number is how far one may go down. -/
def treeF (e : List Nd) : Nat → Nat → Tr
  | 0, p => .mk (bare (ndAt e p)) []
  | f + 1, p => .mk (bare (ndAt e p)) ((ndAt e p).kids.map fun k => treeF e f k.toNat)
/-- Kids stand ahead of their nodes. -/
structure Vd (e : List Nd) : Prop where
  out : ∀ (i : Nat) (x : Nd), e[i]? = some x → ∀ k ∈ x.kids, 0 ≤ k ∧ k < (i : Int)
theorem Vd.at {e : List Nd} (h : Vd e) (p : Nat) : ∀ k ∈ (ndAt e p).kids, 0 ≤ k ∧ k < (p : Int) := by
  unfold ndAt
  rw [List.getD_eq_getElem?_getD]
  cases hx : e[p]? with
  | none => intro k hk; cases hk
  | some x => exact h.out p x hx
theorem treeF_fuel {e : List Nd} (h : Vd e) : ∀ (f f' p : Nat), p < f → p < f' → treeF e f p = treeF e f' p
  | 0, _, _, h1, _ => absurd h1 (Nat.not_lt_zero _)
  | _, 0, _, _, h2 => absurd h2 (Nat.not_lt_zero _)
  | f + 1, f' + 1, p, h1, h2 => by
    unfold treeF
    congr 1
    refine List.map_congr_left fun k hk => ?_
    have := h.at p k hk
    exact treeF_fuel h f f' k.toNat (by omega) (by omega)
/-- The tree below node p. -/
def treeAt (e : List Nd) (p : Nat) : Tr := treeF e (p + 1) p
theorem treeAt_eq {e : List Nd} (h : Vd e) (p : Nat) : treeAt e p = .mk (bare (ndAt e p)) ((ndAt e p).kids.map fun k => treeAt e k.toNat) := by
  unfold treeAt
  rw [treeF]
  congr 1
  refine List.map_congr_left fun k hk => ?_
  have := h.at p k hk
  exact treeF_fuel h _ _ _ (by omega) (by omega)
/-- How deep nodes are: what tree.Deep writes down. -/
def maxF (acc : List Int) : List Int → Int → Int
  | [], m => m
  | k :: r, m => maxF acc r (max m (acc.getD k.toNat 0))
def deepsF : List Nd → List Int → List Int
  | [], acc => acc
  | x :: r, acc => deepsF r (acc ++ [maxF acc x.kids 0 + 1])
theorem maxF_depth (e : List Nd) (acc : List Int) : ∀ (ks : List Int) (m : Int), (∀ k ∈ ks, acc.getD k.toNat 0 = depthT (treeAt e k.toNat)) → maxF acc ks m = depthL (ks.map fun k => treeAt e k.toNat) m
  | [], m, _ => by rw [maxF, List.map_nil, depthL]
  | k :: r, m, h => by
    rw [maxF, List.map_cons, depthL, h k (List.mem_cons_self ..)]
    exact maxF_depth e acc r _ fun j hj => h j (List.mem_cons_of_mem _ hj)
theorem deepsF_depth {e : List Nd} (hv : Vd e) : ∀ (r : List Nd) (i : Nat) (acc : List Int), e.drop i = r → acc.length = i → (∀ j, j < i → acc.getD j 0 = depthT (treeAt e j)) →
    (deepsF r acc).length = i + r.length ∧ ∀ j, j < i + r.length → (deepsF r acc).getD j 0 = depthT (treeAt e j)
  | [], i, acc, _, hl, ha => by rw [deepsF]; simpa [hl] using ha
  | x :: r, i, acc, hd, hl, ha => by
    rw [deepsF]
    have hlt : i < e.length := by
      rcases Nat.lt_or_ge i e.length with h | h
      · exact h
      · rw [List.drop_of_length_le h] at hd; cases hd
    rw [List.drop_eq_getElem_cons hlt] at hd
    simp only [List.cons.injEq] at hd
    have hx : e[i]? = some x := by rw [List.getElem?_eq_getElem hlt, hd.1]
    have hnd : ndAt e i = x := by unfold ndAt; rw [List.getD_eq_getElem?_getD, hx]; rfl
    have h1 : maxF acc x.kids 0 + 1 = depthT (treeAt e i) := by
      rw [treeAt_eq hv, depthT, hnd, maxF_depth e acc x.kids 0 fun k hk => by have := hv.out i x hx k hk; exact ha k.toNat (by omega)]
    obtain ⟨h2, h3⟩ := deepsF_depth hv r (i + 1) (acc ++ [maxF acc x.kids 0 + 1]) hd.2 (by simp [hl]) fun j hj => by
      by_cases hji : j < i
      · rw [List.getD_eq_getElem?_getD, List.getElem?_append_left (by omega), ← List.getD_eq_getElem?_getD]; exact ha j hji
      · obtain rfl : j = i := by omega
        rw [List.getD_eq_getElem?_getD, List.getElem?_append_right (by omega), hl, Nat.sub_self, ← h1]; rfl
    rw [List.length_cons]
    exact ⟨by omega, fun j hj => h3 j (by omega)⟩
/-- What tree.Deep answers of an expression that is valid. -/
def deepF (e : List Nd) : Int := (deepsF e []).getD (e.length - 1) 0
theorem deep_depth {e : List Nd} (hv : Vd e) (hne : e ≠ []) : deepF e = depthT (treeAt e (e.length - 1)) := by
  have hl : 0 < e.length := List.length_pos_iff.2 hne
  obtain ⟨_, h2⟩ := deepsF_depth hv e 0 [] rfl rfl fun j hj => absurd hj (Nat.not_lt_zero j)
  exact h2 _ (by omega)
end Go.Proofs.YtmalhikcdideoaaDoor

set_option linter.unusedVariables false
set_option linter.unusedSimpArgs false
namespace Go.Proofs.YtmalhikcdideoaaDoor
open Go Sl
attribute [local irreducible] XRange LpQ XR XRo XRg XRQ putQ XFv XL XW2 wQ putW X XO XOp XH XHo XW SeqQ BlkQ XOQ XHQ NrmQ XC XM XG XHM XHG XD CallK
open Go.RowKit
mutual
def sizeT : Tr → Int
  | .mk _ ks => sizeL ks + 1
def sizeL : List Tr → Int
  | [] => 0
  | t :: r => sizeT t + sizeL r
end
mutual
theorem sizeT_pos : ∀ t : Tr, 1 ≤ sizeT t
  | .mk _ ks => by rw [sizeT]; have := sizeL_pos ks; omega
theorem sizeL_pos : ∀ ts : List Tr, 0 ≤ sizeL ts
  | [] => by rw [sizeL]; omega
  | t :: r => by rw [sizeL]; have := sizeT_pos t; have := sizeL_pos r; omega
end
theorem sizeL_len : ∀ ts : List Tr, (ts.length : Int) ≤ sizeL ts
  | [] => by rw [sizeL]; simp
  | t :: r => by rw [sizeL, List.length_cons]; have := sizeT_pos t; have := sizeL_len r; omega
theorem sizeL_mem : ∀ (ts : List Tr) (t : Tr), t ∈ ts → sizeT t ≤ sizeL ts
  | u :: r, t, h => by
    rw [sizeL]
    have h1 := sizeT_pos u
    have h2 := sizeL_pos r
    rcases List.mem_cons.1 h with rfl | h
    · omega
    · have := sizeL_mem r t h; omega
mutual
theorem depthT_le : ∀ t : Tr, 1 ≤ depthT t ∧ depthT t ≤ sizeT t
  | .mk _ ks => by
    rw [depthT, sizeT]
    have := depthL_le ks 0 (Int.le_refl _)
    have := sizeL_pos ks
    omega
theorem depthL_le : ∀ (ts : List Tr) (m : Int), 0 ≤ m → m ≤ depthL ts m ∧ depthL ts m ≤ max m (sizeL ts)
  | [], m, h => by rw [depthL, sizeL]; omega
  | t :: r, m, h => by
    rw [depthL, sizeL]
    have h1 := depthT_le t
    have h2 := depthL_le r (max m (depthT t)) (by omega)
    have h3 := sizeL_pos r
    omega
end
def rootSum (s : Nat → Int) (u : List Int) : Nat → Int
  | 0 => 0
  | i + 1 => rootSum s u i + if u.getD i 0 = 0 then s i else 0
theorem rootSum_nonneg {s : Nat → Int} (hs : ∀ p, 0 ≤ s p) (u : List Int) : ∀ i, 0 ≤ rootSum s u i
  | 0 => Int.le_refl _
  | i + 1 => by
    have h1 := rootSum_nonneg hs u i
    have h2 := hs i
    unfold rootSum
    split <;> omega
theorem getD_set (u : List Int) (k j : Nat) (v : Int) (hk : k < u.length) : (u.set k v).getD j 0 = if k = j then v else u.getD j 0 := by
  rw [List.getD_eq_getElem?_getD, List.getElem?_set, List.getD_eq_getElem?_getD]
  by_cases h : k = j
  · rw [if_pos h, if_pos h]; subst h; rw [if_pos hk]; rfl
  · rw [if_neg h, if_neg h]
theorem rootSum_far {s : Nat → Int} (u : List Int) (k : Nat) (v : Int) (hk : k < u.length) : ∀ i, i ≤ k → rootSum s (u.set k v) i = rootSum s u i
  | 0, _ => rfl
  | i + 1, h => by
    unfold rootSum
    have e : ¬ (k = i) := by omega
    rw [rootSum_far u k v hk i (by omega), getD_set u k i v hk, if_neg e]
theorem rootSum_set {s : Nat → Int} (u : List Int) (k : Nat) (hk : k < u.length) (h0 : u.getD k 0 = 0) : ∀ i, k < i → rootSum s (u.set k 1) i = rootSum s u i - s k
  | 0, h => absurd h (Nat.not_lt_zero _)
  | i + 1, h => by
    unfold rootSum
    rw [getD_set u k i 1 hk]
    by_cases hki : k = i
    · subst hki
      rw [rootSum_far u k 1 hk k (Nat.le_refl _), if_pos rfl, if_neg (by decide), if_pos h0]
      omega
    · rw [rootSum_set u k hk h0 i (by omega), if_neg hki]
      omega
def kidSum (s : Nat → Int) : List Int → Int
  | [] => 0
  | k :: r => s k.toNat + kidSum s r
theorem rootSum_use {s : Nat → Int} (i : Nat) : ∀ (ks u u' : List Int), useF u ks = some u' → (∀ k ∈ ks, 0 ≤ k ∧ k < (i : Int)) → i ≤ u.length → (∀ j, 0 ≤ u.getD j 0) →
    rootSum s u' i = rootSum s u i - kidSum s ks ∧ (∀ j, 0 ≤ u'.getD j 0) ∧ ∀ j, i ≤ j → u'.getD j 0 = u.getD j 0
  | [], u, u', h, _, _, h0 => by
    cases h
    exact ⟨by rw [kidSum]; omega, h0, fun _ _ => rfl⟩
  | k :: r, u, u', h, hk, hl, h0 => by
    have h1 := hk k (List.mem_cons_self ..)
    have h2 := h0 k.toNat
    unfold useF at h
    split at h
    · cases h
    · rename_i hle
      have h3 : u.getD k.toNat 0 = 0 := by omega
      rw [h3] at h
      have hkl : k.toNat < u.length := by omega
      obtain ⟨e1, e2, e3⟩ := rootSum_use i r (u.set k.toNat (0 + 1)) u' h (fun j hj => hk j (List.mem_cons_of_mem _ hj)) (by simpa using hl) fun j => by
        rw [getD_set u k.toNat j _ hkl]
        split
        · omega
        · exact h0 j
      refine ⟨?_, e2, fun j hj => ?_⟩
      · rw [e1, kidSum, show ((0 : Int) + 1) = 1 from rfl, rootSum_set u k.toNat hkl h3 i (by omega)]
        omega
      · rw [e3 j hj, getD_set u k.toNat j _ hkl, if_neg (by omega)]
theorem kidSum_size (e : List Nd) : ∀ ks : List Int, kidSum (fun p => sizeT (treeAt e p)) ks = sizeL (ks.map fun k => treeAt e k.toNat)
  | [] => by rw [kidSum, List.map_nil, sizeL]
  | k :: r => by rw [kidSum, List.map_cons, sizeL, kidSum_size e r]
theorem nodes_size (oneE : Nd → Nat → Int) (e : List Nd) (hv : Vd e) : ∀ (r : List Nd) (i : Nat) (u : List Int), e.drop i = r → u.length = e.length → (∀ j, 0 ≤ u.getD j 0) → (∀ j, i ≤ j → u.getD j 0 = 0) → rootSum (fun p => sizeT (treeAt e p)) u i = i → (nodesF oneE r i u).1 = 0 →
    ∀ p, i ≤ p → p < e.length → sizeT (treeAt e p) ≤ p + 1
  | [], i, u, hd, _, _, _, _, _, p, h1, h2 => by
    have := congrArg List.length hd
    simp at this
    omega
  | x :: r, i, u, hd, hl, h0, hz, hs, hn, p, h1, h2 => by
    have hlt : i < e.length := by omega
    rw [List.drop_eq_getElem_cons hlt] at hd
    simp only [List.cons.injEq] at hd
    have hx : e[i]? = some x := by rw [List.getElem?_eq_getElem hlt, hd.1]
    have hnd : ndAt e i = x := by unfold ndAt; rw [List.getD_eq_getElem?_getD, hx]; rfl
    unfold nodesF at hn
    by_cases q : oneE x i = 0
    case neg => rw [if_pos q] at hn; exact absurd hn q
    rw [if_neg (fun h => h q)] at hn
    cases hU : useF u x.kids with
    | none => rw [hU] at hn; cases hn
    | some u' =>
      rw [hU] at hn
      obtain ⟨e1, e2, e3⟩ := rootSum_use (s := fun p => sizeT (treeAt e p)) i x.kids u u' hU (hv.out i x hx) (by omega) h0
      have hsz : sizeT (treeAt e i) = kidSum (fun p => sizeT (treeAt e p)) x.kids + 1 := by
        rw [treeAt_eq hv, sizeT, hnd, kidSum_size]
      have hge := rootSum_nonneg (s := fun p => sizeT (treeAt e p)) (fun p => Int.le_trans (by decide) (sizeT_pos _)) u' i
      by_cases hpi : p = i
      · subst hpi
        omega
      · refine nodes_size oneE e hv r (i + 1) u' hd.2 (by rw [useF_len _ _ _ hU, hl]) e2 (fun j hj => by rw [e3 j (by omega)]; exact hz j (by omega)) ?_ hn p (by omega) h2
        unfold rootSum
        rw [if_pos (by rw [e3 i (Nat.le_refl _)]; exact hz i (Nat.le_refl _)), e1, hs, hsz]
        omega
theorem chk_size (oneE : Nd → Nat → Int) (e : List Nd) (hv : Vd e) (h : chkE oneE e = 0) (p : Nat) (hp : p < e.length) : sizeT (treeAt e p) ≤ p + 1 := by
  unfold chkE at h
  by_cases q1 : 100 < e.length
  · rw [if_pos q1] at h; cases h
  rw [if_neg q1] at h
  by_cases q2 : e.length = 0
  · rw [if_pos q2] at h; cases h
  rw [if_neg q2] at h
  by_cases q3 : (nodesF oneE e 0 (List.replicate e.length 0)).1 = 0
  · have hz : ∀ j, (List.replicate e.length (0 : Int)).getD j 0 = 0 := fun j => by
      rw [List.getD_eq_getElem?_getD, List.getElem?_replicate]
      split <;> rfl
    exact nodes_size oneE e hv e 0 _ rfl (by simp) (fun j => by rw [hz j]; exact Int.le_refl _) (fun j _ => hz j) rfl q3 p (Nat.zero_le _) hp
  · rw [if_pos q3] at h; exact absurd h q3
end Go.Proofs.YtmalhikcdideoaaDoor

set_option linter.unusedVariables false
set_option linter.unusedSimpArgs false
namespace Go.Proofs.YtmalhikcdideoaaDoor
open Go Sl
attribute [local irreducible] XRange LpQ XR XRo XRg XRQ putQ XFv XL XW2 wQ putW X XO XOp XH XHo XW SeqQ BlkQ XOQ XHQ NrmQ XC XM XG XHM XHG XD CallK
open Go.RowKit
def shN (d : Int) (x : Nd) : Nd := { x with kids := x.kids.map (· + d) }
theorem shN_shN (a b : Int) (x : Nd) : shN a (shN b x) = shN (b + a) x := by
  unfold shN
  simp only [List.map_map]
  congr 1
  refine List.map_congr_left fun k _ => ?_
  show k + b + a = k + (b + a)
  omega
theorem shN_zero (x : Nd) : shN 0 x = x := by
  unfold shN
  simp
mutual
def flatT : Tr → List Nd
  | .mk x ks => (flatL ks [] []).1 ++ [{ x with kids := (flatL ks [] []).2 }]
def flatL : List Tr → List Nd → List Int → List Nd × List Int
  | [], out, kids => (out, kids)
  | t :: r, out, kids => flatL r (out ++ (flatT t).map (shN out.length)) (kids ++ [((out ++ (flatT t).map (shN out.length)).length : Int) - 1])
end
mutual
theorem flatT_len : ∀ t : Tr, ((flatT t).length : Int) = sizeT t
  | .mk x ks => by
    rw [flatT, sizeT, List.length_append, List.length_singleton]
    have := flatL_len ks [] []
    simp only [List.length_nil] at this
    omega
theorem flatL_len : ∀ (ts : List Tr) (out : List Nd) (kids : List Int), ((flatL ts out kids).1.length : Int) = out.length + sizeL ts
  | [], out, kids => by rw [flatL, sizeL]; simp
  | t :: r, out, kids => by
    rw [flatL, sizeL, flatL_len r]
    have := flatT_len t
    rw [List.length_append, List.length_map]
    omega
end
/-- tree.copied, the kids by another function. -/
def copL (c : List Nd → Nat → List Nd) : List Int → List Nd → List Int → List Nd × List Int
  | [], out, kids => (out, kids)
  | k :: r, out, kids => copL c r (c out k.toNat) (kids ++ [((c out k.toNat).length : Int) - 1])
def copF (e : List Nd) : Nat → List Nd → Nat → List Nd
  | 0, out, p => out ++ [bare (ndAt e p)]
  | f + 1, out, p => (copL (copF e f) (ndAt e p).kids out []).1 ++ [{ ndAt e p with kids := (copL (copF e f) (ndAt e p).kids out []).2 }]
theorem copL_flat (c : List Nd → Nat → List Nd) (tr : Nat → Tr) (hc : ∀ out p, c out p = out ++ (flatT (tr p)).map (shN out.length)) (out0 : List Nd) : ∀ (ks : List Int) (A : List Nd) (K : List Int),
    copL c ks (out0 ++ A.map (shN out0.length)) (K.map (· + (out0.length : Int))) = (out0 ++ (flatL (ks.map fun k => tr k.toNat) A K).1.map (shN out0.length), (flatL (ks.map fun k => tr k.toNat) A K).2.map (· + (out0.length : Int)))
  | [], A, K => by rw [copL, List.map_nil, flatL]
  | k :: r, A, K => by
    have h1 : c (out0 ++ A.map (shN out0.length)) k.toNat = out0 ++ (A ++ (flatT (tr k.toNat)).map (shN A.length)).map (shN out0.length) := by
      rw [hc, List.append_assoc, List.map_append, List.map_map]
      congr 2
      refine List.map_congr_left fun x _ => ?_
      have e : ((A.length : Nat) : Int) + (out0.length : Nat) = ((out0.length + A.length : Nat) : Int) := by omega
      rw [Function.comp_apply, shN_shN, List.length_append, List.length_map, e]
    rw [copL, List.map_cons, flatL, h1]
    have h2 : K.map (· + (out0.length : Int)) ++ [((out0 ++ (A ++ (flatT (tr k.toNat)).map (shN A.length)).map (shN out0.length)).length : Int) - 1] = (K ++ [((A ++ (flatT (tr k.toNat)).map (shN A.length)).length : Int) - 1]).map (· + (out0.length : Int)) := by
      have e : ((out0 ++ (A ++ (flatT (tr k.toNat)).map (shN A.length)).map (shN out0.length)).length : Int) - 1 = ((A ++ (flatT (tr k.toNat)).map (shN A.length)).length : Int) - 1 + (out0.length : Int) := by
        simp only [List.length_append, List.length_map]
        omega
      rw [e]
      simp only [List.map_append, List.map_cons, List.map_nil]
    rw [h2]
    exact copL_flat c tr hc out0 r _ _
theorem copF_flat (e : List Nd) : ∀ (f : Nat) (out : List Nd) (p : Nat), copF e f out p = out ++ (flatT (treeF e f p)).map (shN out.length)
  | 0, out, p => by
    rw [copF, treeF, flatT, flatL]
    simp [shN, bare]
  | f + 1, out, p => by
    have h := copL_flat (copF e f) (fun q => treeF e f q) (fun o q => copF_flat e f o q) out (ndAt e p).kids [] []
    simp only [List.map_nil, List.append_nil] at h
    rw [copF, treeF, flatT, h, List.map_append, List.append_assoc]
    congr 2
/-- What tree.Cut answers of a valid expression, below one of its nodes. -/
theorem copied_tree (e : List Nd) (p : Nat) : copF e (p + 1) [] p = flatT (treeAt e p) := by
  rw [copF_flat, treeAt, List.nil_append]
  have : (shN ((([] : List Nd).length : Nat) : Int)) = id := funext fun x => shN_zero x
  rw [this, List.map_id]
end Go.Proofs.YtmalhikcdideoaaDoor

set_option linter.unusedVariables false
set_option linter.unusedSimpArgs false
namespace Go.Proofs.YtmalhikcdideoaaDoor
open Go Sl
attribute [local irreducible] XRange LpQ XR XRo XRg XRQ putQ XFv XL XW2 wQ putW X XO XOp XH XHo XW SeqQ BlkQ XOQ XHQ NrmQ XC XM XG XHM XHG XD CallK
open Go.RowKit
theorem depth_ok (t : Tr) (hs : sizeT t ≤ 1000000) : Pure Tryd.prog 45 [aggL (cTr t)] (I (depthT t)) := by
  generalize hn : SizeOf.sizeOf t = n
  induction n using Nat.strongRecOn generalizing t with
  | ind n ih =>
    obtain ⟨x, ks⟩ := t
    have ihk : ∀ k ∈ ks, Pure Tryd.prog 45 [aggL (cTr k)] (I (depthT k)) := fun k hk => ih (SizeOf.sizeOf k) (by
      have := List.sizeOf_lt_of_mem hk
      simp only [Tr.mk.sizeOf_spec] at hn
      omega) k (by
      have h1 := sizeL_mem ks k hk
      rw [sizeT] at hs
      omega) rfl
    clear ih hn
    rw [sizeT] at hs
    have hkl := sizeL_len ks
    have hdl := depthL_le ks 0 (Int.le_refl _)
    rw [cTr_mk, depthT]
    generalize hR : depthL ks 0 = R
    intro h; refine callK_body Tryd.func45 rfl (by rw [nt45]; simp) ?_; rw [nt45, rs45]
    (repeat' (first | simp [go_sem, X_region, *] | simp (disch := omega) only [om, *] | ((first | refine XC_split ?_ ?_ | refine XG_true ?_ ?_ | refine XG_false ?_ ?_ | refine XRg_true ?_ ?_ | refine XRg_false ?_ ?_) <;> intro hc <;> (try simp only [bl] at hc) <;> (try (exfalso; omega))) | refine XD_w [] [] [] (fun _ => none) mixed (by decide +kernel) (sub_none _) ?_ | fail))
    intro b1 hb1
    (repeat' (first | simp [go_sem, X_region, *] | simp (disch := omega) only [om, *] | ((first | refine XC_split ?_ ?_ | refine XG_true ?_ ?_ | refine XG_false ?_ ?_ | refine XRg_true ?_ ?_ | refine XRg_false ?_ ?_) <;> intro hc <;> (try simp only [bl] at hc) <;> (try (exfalso; omega))) | refine XD_w [] [] [] (fun _ => none) mixed (by decide +kernel) (sub_none _) ?_ | fail))
    refine X_lpF (fun i => i = 3 ∨ i = 5 ∨ (9 ≤ i ∧ i ≤ 17)) (fun n T g => ∃ (i : Nat) (r : List Tr) (m : Int), n = r.length ∧ i ≤ ks.length ∧ ks.drop i = r ∧ depthL r m = R ∧ 0 ≤ m ∧ T 9 = I i ∧ T 3 = I m ∧ Sub h g) ks.length ⟨0, ks, 0, rfl, by omega, rfl, hR, Int.le_refl _, by simp [go_sem], by simp [go_sem], Sub.upd hb1 (Sub.refl _)⟩ ?_
    rw [hR] at hdl
    clear hR
    rintro J hJ n T g hfr ⟨i, r, m, rfl, hi, hd, hR, hm0, t9, t3, hsub⟩
    rcases r with _ | ⟨y, r⟩
    · have hlt := drop_nil hd
      rw [depthL] at hR
      subst hR
      (repeat' (first | simp [go_sem, X_region, *] | simp (disch := omega) only [om, *] | ((first | refine XC_split ?_ ?_ | refine XG_true ?_ ?_ | refine XG_false ?_ ?_ | refine XRg_true ?_ ?_ | refine XRg_false ?_ ?_) <;> intro hc <;> (try simp only [bl] at hc) <;> (try (exfalso; omega))) | refine XD_w [] [] [] (fun _ => none) mixed (by decide +kernel) (sub_none _) ?_ | fail))
      exact Wk.drop _ hsub
    · obtain ⟨hlt, hx, hd2⟩ := drop_cons hd
      have hk := ihk y (by rw [← hx]; exact List.getElem_mem hlt)
      rw [depthL] at hR
      obtain ⟨y, kk⟩ := y
      rw [cTr_mk] at hk
      have hdv := depthT_le (Tr.mk y kk)
      generalize depthT (Tr.mk y kk) = dv at *
      (repeat' (first | simp [go_sem, X_region, *] | simp (disch := omega) only [om, *] | ((first | refine XC_split ?_ ?_ | refine XG_true ?_ ?_ | refine XG_false ?_ ?_ | refine XRg_true ?_ ?_ | refine XRg_false ?_ ?_) <;> intro hc <;> (try simp only [bl] at hc) <;> (try (exfalso; omega))) | refine XD_w [] [] [] (fun _ => none) mixed (by decide +kernel) (sub_none _) ?_ | refine Pure.call (hk) ?_ | refine ⟨_, Pure.at (hk), ?_⟩ | refine ⟨_, hk, ?_⟩ | refine PureAt.call (hk) ?_ | fail))
      intro b5 hb5
      (repeat' (first | simp [go_sem, X_region, *] | simp (disch := omega) only [om, *] | ((first | refine XC_split ?_ ?_ | refine XG_true ?_ ?_ | refine XG_false ?_ ?_ | refine XRg_true ?_ ?_ | refine XRg_false ?_ ?_) <;> intro hc <;> (try simp only [bl] at hc) <;> (try (exfalso; omega))) | refine XD_w [] [] [] (fun _ => none) mixed (by decide +kernel) (sub_none _) ?_ | refine Pure.call (hk) ?_ | refine ⟨_, Pure.at (hk), ?_⟩ | refine ⟨_, hk, ?_⟩ | refine PureAt.call (hk) ?_ | fail))
      exact ⟨_, Nat.lt_succ_self _, hJ.out _ _ _ ⟨(by (repeat (refine fr_upd (by decide) ?_)); exact hfr), i + 1, r, max m dv, rfl, by omega, hd2, hR, by omega, by simp [go_sem], by simp [go_sem], Sub.upd (sub_free hsub hb5) hsub⟩⟩
theorem own_other {h0 h : Hp} {a : AV} {e : TypeId} {s n b : Nat} {f : Nat → Nat → AV} {o1 o2 : Ob} (o : Own h0 h a e s n f) (hb : h0 b = some o1) : Own (upd h0 b (some o2)) (upd h b (some o2)) a e s n f := by
  refine o.other hb fun c hc hcb => ?_
  rcases o.2 with ⟨_, h1 | h1⟩ | ⟨gb, og, h1, h2, _⟩
  · rw [hc] at h1; cases h1
  · rw [hc] at h1; cases h1
  · rw [hc] at h1
    cases h1
    rw [hcb, hb] at h2
    cases h2
theorem upd_upd {α : Type} (T : Nat → α) (d : Nat) (x y : α) : upd (upd T d x) d y = upd T d y := by
  funext i
  by_cases h : i = d <;> simp [upd, h]
theorem rtree_ok (e : List Nd) (hv : Vd e) (hk3 : ∀ (i : Nat) (x : Nd), e[i]? = some x → x.kids.length ≤ 3) (p : Nat) (hp : p < e.length) : Pure Tryd.prog 21 [encL 5 cNd e, I p] (aggL (cTr (treeAt e p))) := by
  induction p using Nat.strongRecOn with
  | ind p ih =>
    obtain ⟨x, hxe⟩ : ∃ x, e[p] = x := ⟨_, rfl⟩
    have hx : e[p]? = some x := by rw [List.getElem?_eq_getElem hp, hxe]
    have hnd : ndAt e p = x := by unfold ndAt; rw [List.getD_eq_getElem?_getD, hx]; rfl
    have hkx := hv.out p x hx
    have hk3 := hk3 p x hx
    have ihk : ∀ k ∈ x.kids, Pure Tryd.prog 21 [encL 5 cNd e, I k] (aggL (cTr (treeAt e k.toNat))) := fun k hk => by
      have h1 := hkx k hk
      obtain ⟨m, rfl⟩ : ∃ m : Nat, k = m := ⟨k.toNat, by omega⟩
      rw [Int.toNat_natCast]
      exact ih m (by omega) (by omega)
    clear ih
    rw [treeAt_eq hv, hnd, cTr_mk]
    generalize hR : x.kids.map (fun k => treeAt e k.toNat) = R
    intro h; refine callK_body Tryd.func21 rfl (by rw [nt21]; simp) ?_; rw [nt21, rs21]
    (repeat' (first | simp [go_sem, X_region, *] | simp (disch := omega) only [om, *] | ((first | refine XC_split ?_ ?_ | refine XG_true ?_ ?_ | refine XG_false ?_ ?_ | refine XRg_true ?_ ?_ | refine XRg_false ?_ ?_) <;> intro hc <;> (try simp only [bl] at hc) <;> (try (exfalso; omega))) | refine XD_w [] [] [] (fun _ => none) mixed (by decide +kernel) (sub_none _) ?_ | fail))
    intro b4 hb4 b5 n1 n2 hb5
    refine X_lpF (fun i => i = 7 ∨ (19 ≤ i ∧ i ≤ 31)) (fun n T g => ∃ (i : Nat) (rk : List Int) (acc : List Tr) (ob4 ob : Ob) (a : AV), n = rk.length ∧ i ≤ x.kids.length ∧ x.kids.drop i = rk ∧ acc ++ rk.map (fun k => treeAt e k.toNat) = R ∧ T 19 = I i ∧ acc.length = i ∧
        Own (upd (upd h b4 (some ob4)) b5 (some ob)) g a 45 6 acc.length (cellsL cTr acc) ∧ ob4.s = 6 ∧ ob4.n = 1 ∧ ob4.ty = 45 ∧ ob.s = 6 ∧ ob.n = 1 ∧ ob.ty = 45 ∧ ob.f 0 0 = I x.op ∧ ob.f 0 2 = I x.kd ∧ ob.f 0 3 = I x.n ∧ ob.f 0 4 = S x.nm ∧ ob.f 0 5 = a) x.kids.length
      ⟨0, x.kids, [], _, _, .v (.slice none 0 0), rfl, by omega, rfl, hR, by simp [go_sem], rfl, by simpa [go_sem] using Own.none, rfl, rfl, rfl, rfl, rfl, rfl, by simp [go_sem], by simp [go_sem], by simp [go_sem], by simp [go_sem], by simp [go_sem]⟩ ?_
    clear hR
    rintro J hJ n T g hfr ⟨i, rk, acc, ob4, ob, a, rfl, hi, hd, hR, t19, hacc, hown, p1, p2, p3, q1, q2, q3, f0, f2, f3, f4, f5⟩
    have e5 : g b5 = some ob := hown.1 b5 _ (upd_same _ _ _)
    have e4 : g b4 = some ob4 := hown.1 b4 _ (by rw [upd_ne _ _ n2]; exact upd_same _ _ _)
    rcases rk with _ | ⟨y, rk⟩
    · have hlt := drop_nil hd
      rw [List.map_nil, List.append_nil] at hR
      subst hR
      (repeat' (first | simp [go_sem, X_region, *] | simp (disch := omega) only [om, *] | ((first | refine XC_split ?_ ?_ | refine XG_true ?_ ?_ | refine XG_false ?_ ?_ | refine XRg_true ?_ ?_ | refine XRg_false ?_ ?_) <;> intro hc <;> (try simp only [bl] at hc) <;> (try (exfalso; omega))) | refine XD_w [] [] [] (fun _ => none) mixed (by decide +kernel) (sub_none _) ?_ | fail))
      have w5 := own_other (o2 := ⟨45, 6, 1, fun i' j' => if i' = 0 ∧ 1 ≤ j' ∧ j' < 2 then AV.v (Value.slice none 0 0) else ob.f i' j'⟩) hown (upd_same _ _ _)
      rw [upd_upd] at w5
      have w4 := own_other (o2 := ⟨45, 6, 1, fun i' j' => if i' = 0 ∧ j' < 6 then [I x.op, AV.v (Value.slice none 0 0), I x.kd, I x.n, S x.nm, a][j']?.getD AV.any else ob4.f i' j'⟩) w5 (b := b4) (by rw [upd_ne _ _ n2]; exact upd_same _ _ _)
      have hsb : Sub h (upd (upd (upd h b4 (some ob4)) b5 (some ⟨45, 6, 1, fun i' j' => if i' = 0 ∧ 1 ≤ j' ∧ j' < 2 then AV.v (Value.slice none 0 0) else ob.f i' j'⟩)) b4 (some ⟨45, 6, 1, fun i' j' => if i' = 0 ∧ j' < 6 then [I x.op, AV.v (Value.slice none 0 0), I x.kd, I x.n, S x.nm, a][j']?.getD AV.any else ob4.f i' j'⟩)) := Sub.upd hb4 (Sub.upd hb5 (Sub.upd hb4 (Sub.refl _)))
      refine Wk.aggLM (hsb.trans w4.1) rfl fun j hj => ?_
      have hj : j < 6 := hj
      rcases (show j = 0 ∨ j = 1 ∨ j = 2 ∨ j = 3 ∨ j = 4 ∨ j = 5 by omega) with rfl | rfl | rfl | rfl | rfl | rfl
      · exact Wk.drop _ (hsb.trans w4.1)
      · exact Wk.drop _ (hsb.trans w4.1)
      · exact Wk.drop _ (hsb.trans w4.1)
      · exact Wk.drop _ (hsb.trans w4.1)
      · exact Wk.drop _ (hsb.trans w4.1)
      · rw [hacc] at w4
        exact (w4.frozen (by omega)).trans (Wk.drop _ hsb)
    · obtain ⟨hlt, hxk, hd2⟩ := drop_cons hd
      have hk := ihk y (by rw [← hxk]; exact List.getElem_mem hlt)
      rw [List.map_cons] at hR
      generalize treeAt e y.toNat = tr at *
      (repeat' (first | simp [go_sem, X_region, *] | simp (disch := omega) only [om, *] | ((first | refine XC_split ?_ ?_ | refine XG_true ?_ ?_ | refine XG_false ?_ ?_ | refine XRg_true ?_ ?_ | refine XRg_false ?_ ?_) <;> intro hc <;> (try simp only [bl] at hc) <;> (try (exfalso; omega))) | refine XD_w [] [] [] (fun _ => none) mixed (by decide +kernel) (sub_none _) ?_ | refine Pure.call (hk) ?_ | refine ⟨_, Pure.at (hk), ?_⟩ | refine ⟨_, hk, ?_⟩ | refine PureAt.call (hk) ?_ | fail))
      refine Own.push2 (x := tr) (enc := cTr) hown (by simp [go_sem]) und43 zr45 by45 (by simp [go_sem]) (by simp [go_sem]; rfl) ?_ (by omega) (by omega) fun a1 h1 hown1 hkeep1 => ?_
      · obtain ⟨yy, kk⟩ := tr
        rw [cTr_mk]
        rfl
      have k5 := hown1.1 b5 _ (upd_same _ _ _)
      have hl1 : (acc ++ [tr]).length = i + 1 := by simp [hacc]
      rw [hl1] at hown1
      obtain ⟨gb, rfl⟩ : ∃ gb, a1 = .row gb 6 0 (i + 1) := by
        rcases hown1.2 with ⟨h0, _⟩ | ⟨gb, og, h0, _⟩
        · omega
        · exact ⟨gb, h0⟩
      (repeat' (first | simp [go_sem, X_region, *] | simp (disch := omega) only [om, *] | ((first | refine XC_split ?_ ?_ | refine XG_true ?_ ?_ | refine XG_false ?_ ?_ | refine XRg_true ?_ ?_ | refine XRg_false ?_ ?_) <;> intro hc <;> (try simp only [bl] at hc) <;> (try (exfalso; omega))) | refine XD_w [] [] [] (fun _ => none) mixed (by decide +kernel) (sub_none _) ?_ | fail))
      have w5 := own_other (o2 := ⟨45, 6, 1, fun i' j' => if i' = 0 ∧ 5 ≤ j' ∧ j' < 6 then .row gb 6 0 (i + 1) else ob.f i' j'⟩) hown1 (upd_same _ _ _)
      rw [upd_upd] at w5
      exact ⟨_, Nat.lt_succ_self _, hJ.out _ _ _ ⟨(by (repeat (refine fr_upd (by decide) ?_)); exact hfr), i + 1, rk, acc ++ [tr], ob4, _, .row gb 6 0 (i + 1), rfl, by omega, hd2, by rw [← hR]; simp, by simp [go_sem, *], hl1, by rw [hl1]; exact w5, p1, p2, p3, rfl, rfl, rfl, by simp [f0], by simp [f2], by simp [f3], by simp [f4], by simp⟩⟩
/-- Numbers in a block of the call's own; behind those that are told, 0. -/
structure KndZ (h : Hp) (b n : Nat) (acc : List Int) : Prop where
  out : ∃ o, h b = some o ∧ o.ty = 3 ∧ o.s = 1 ∧ o.n = n ∧ Hid (∀ k, k < n → o.f k 0 = I (acc.getD k 0))
theorem kz_next {acc : List Int} {f : Nat → Nat → AV} {i n : Nat} (v : Int) (hi : acc.length = i) (h : ∀ k, k < n → k ≠ i → f k 0 = I (acc.getD k 0)) :
    ∀ k, k < n → (if k = i ∧ 0 = 0 then AV.v (Value.int IntKind.i64 v) else f k 0) = I ((acc ++ [v]).getD k 0) := by
  intro k hk
  rw [List.getD_eq_getElem?_getD]
  rcases Nat.lt_trichotomy k i with hki | hki | hki
  · rw [if_neg (fun h => by omega), h k hk (by omega), List.getElem?_append_left (by omega), List.getD_eq_getElem?_getD]
  · rw [if_pos ⟨hki, rfl⟩, List.getElem?_append_right (by omega), show k - acc.length = 0 by omega]
    rfl
  · rw [if_neg (fun h => by omega), h k hk (by omega), List.getElem?_eq_none (by simp; omega), List.getD_eq_getElem?_getD, List.getElem?_eq_none (by omega)]
set_option maxHeartbeats 4000000 in
theorem deep_ok (cE : List Nd → Int) (e : List Nd) (hc : Pure Tryd.prog 41 [encL 5 cNd e] (I (cE e)))
    (hke : cE e = 0 → e.length ≤ 100 ∧ e ≠ [] ∧ ∀ (i : Nat) (x : Nd), e[i]? = some x → (∀ k ∈ x.kids, 0 ≤ k ∧ k < i) ∧ x.kids.length ≤ 3) :
    Pure Tryd.prog 44 [encL 5 cNd e] (I (if cE e ≠ 0 then 0 else deepF e)) := by
  generalize hR : (if cE e ≠ 0 then 0 else deepF e) = R
  intro h
  by_cases q1 : cE e = 0
  case neg =>
    rw [if_pos q1] at hR
    subst hR
    refine callK_body Tryd.func44 rfl (by rw [nt44]; simp) ?_; rw [nt44, rs44]
    ((repeat' (first | simp [go_sem, X_region, *] | simp (disch := omega) only [om, *] | ((first | refine XC_split ?_ ?_ | refine XG_true ?_ ?_ | refine XG_false ?_ ?_ | refine XRg_true ?_ ?_ | refine XRg_false ?_ ?_) <;> intro hc <;> (try simp only [bl] at hc) <;> (try (exfalso; omega))) | refine XD_w [] [] [] (fun _ => none) mixed (by decide +kernel) (sub_none _) ?_ | refine Pure.call (hc) ?_ | refine ⟨_, Pure.at (hc), ?_⟩ | refine ⟨_, hc, ?_⟩ | refine PureAt.call (hc) ?_ | (intro bk hbk; (try simp only [go_sem] at hbk)))); all_goals (refine Wk.fin (by repeat (first | exact Sub.refl _ | refine Sub.upd (by simp [*]) ?_)) ?_; first | (simp [*]; done) | (simp only []; (repeat' (first | split | rfl | omega | (simp_all; done))); done) | (simp [*]; (repeat' (first | split | omega | (rw [Bool.eq_iff_iff]; simp; omega))); done) | (simp [*])))
  rw [if_neg (fun h => h q1)] at hR
  rw [q1] at hc
  obtain ⟨hel, hne, hke⟩ := hke q1
  have hne : 0 < e.length := List.length_pos_iff.2 hne
  refine callK_body Tryd.func44 rfl (by rw [nt44]; simp) ?_; rw [nt44, rs44]
  (repeat' (first | simp [go_sem, X_region, *] | simp (disch := omega) only [om, *] | ((first | refine XC_split ?_ ?_ | refine XG_true ?_ ?_ | refine XG_false ?_ ?_ | refine XRg_true ?_ ?_ | refine XRg_false ?_ ?_) <;> intro hc <;> (try simp only [bl] at hc) <;> (try (exfalso; omega))) | refine XD_w [] [] [] (fun _ => none) mixed (by decide +kernel) (sub_none _) ?_ | refine Pure.call (hc) ?_ | refine ⟨_, Pure.at (hc), ?_⟩ | refine ⟨_, hc, ?_⟩ | refine PureAt.call (hc) ?_ | fail))
  refine X_makeSlice (s := 1) (by_ := 8) e.length e.length und37 zr3 by3 (by simp [go_sem]) (by simp [go_sem]) (by omega) (by omega) (by omega) fun b hb => ?_
  (repeat' (first | simp [go_sem, X_region, *] | simp (disch := omega) only [om, *] | ((first | refine XC_split ?_ ?_ | refine XG_true ?_ ?_ | refine XG_false ?_ ?_ | refine XRg_true ?_ ?_ | refine XRg_false ?_ ?_) <;> intro hc <;> (try simp only [bl] at hc) <;> (try (exfalso; omega))) | refine XD_w [] [] [] (fun _ => none) mixed (by decide +kernel) (sub_none _) ?_ | fail))
  refine X_lpF (fun i => (4 ≤ i ∧ i ≤ 5) ∨ i = 7 ∨ (16 ≤ i ∧ i ≤ 47)) (fun k T g => ∃ (i : Nat) (r : List Nd) (acc : List Int), k = r.length ∧ i ≤ e.length ∧ e.drop i = r ∧ (deepsF r acc).getD (e.length - 1) 0 = R ∧ T 16 = I i ∧ acc.length = i ∧ (∀ v ∈ acc, 0 ≤ v ∧ v ≤ i) ∧ Sub h g ∧ KndZ g b e.length acc) e.length ⟨0, e, [], rfl, by omega, rfl, hR, by simp [go_sem], rfl, (fun v hv => by cases hv), Sub.upd hb (Sub.refl _), ⟨_, upd_same _ _ _, rfl, rfl, rfl, ⟨fun k hk => by simp [go_sem]⟩⟩⟩ ?_
  clear hR
  rintro J hJ k T g hfr ⟨i, r, acc, rfl, hi, hd, hR, t16, hacc, hav, hsub, ⟨o, ho, o1, o2, o3, ⟨o4⟩⟩⟩
  rcases r with _ | ⟨x, r⟩
  · have hlt := drop_nil hd
    rw [deepsF] at hR
    subst hR
    obtain ⟨m, hm⟩ : ∃ m, e.length = m + 1 := ⟨e.length - 1, by omega⟩
    have hfm := o4 m (by omega)
    rw [hm, Nat.add_sub_cancel]
    generalize acc.getD m 0 = v at *
    clear o4
    have hm1 : ((e.length : Nat) : Int) - 1 = (m : Int) := by omega
    (repeat' (first | simp [go_sem, X_region, *] | simp (disch := omega) only [om, *] | ((first | refine XC_split ?_ ?_ | refine XG_true ?_ ?_ | refine XG_false ?_ ?_ | refine XRg_true ?_ ?_ | refine XRg_false ?_ ?_) <;> intro hc <;> (try simp only [bl] at hc) <;> (try (exfalso; omega))) | refine XD_w [] [] [] (fun _ => none) mixed (by decide +kernel) (sub_none _) ?_ | fail))
    exact Wk.drop _ hsub
  · obtain ⟨hlt, hx, hd2⟩ := drop_cons hd
    have hxi : e[i]? = some x := List.getElem?_eq_some_iff.2 ⟨hlt, hx⟩
    obtain ⟨hk1, hk2⟩ := hke i x hxi
    rw [deepsF] at hR
    (repeat' (first | simp [go_sem, X_region, *] | simp (disch := omega) only [om, *] | ((first | refine XC_split ?_ ?_ | refine XG_true ?_ ?_ | refine XG_false ?_ ?_ | refine XRg_true ?_ ?_ | refine XRg_false ?_ ?_) <;> intro hc <;> (try simp only [bl] at hc) <;> (try (exfalso; omega))) | refine XD_w [] [] [] (fun _ => none) mixed (by decide +kernel) (sub_none _) ?_ | fail))
    intro b9 hb9
    have n9 := ne_free hb9 ho
    (repeat' (first | simp [go_sem, X_region, *] | simp (disch := omega) only [om, *] | ((first | refine XC_split ?_ ?_ | refine XG_true ?_ ?_ | refine XG_false ?_ ?_ | refine XRg_true ?_ ?_ | refine XRg_false ?_ ?_) <;> intro hc <;> (try simp only [bl] at hc) <;> (try (exfalso; omega))) | refine XD_w [] [] [] (fun _ => none) mixed (by decide +kernel) (sub_none _) ?_ | fail))
    refine X_lpF (fun i => i = 7 ∨ (24 ≤ i ∧ i ≤ 40)) (fun k T g2 => ∃ (j : Nat) (rk : List Int) (o : Ob) (m : Int), k = rk.length ∧ j ≤ x.kids.length ∧ x.kids.drop j = rk ∧ T 24 = I j ∧ Sub h g2 ∧ g2 b = some o ∧ o.ty = 3 ∧ o.s = 1 ∧ o.n = e.length ∧ Hid (∀ k, k < e.length → k ≠ i → o.f k 0 = I (acc.getD k 0)) ∧ o.f i 0 = I m ∧ 0 ≤ m ∧ m ≤ i ∧ maxF acc rk m = maxF acc x.kids 0) x.kids.length
      ⟨0, x.kids, o, 0, rfl, by omega, rfl, by simp [go_sem], Sub.upd (sub_free hsub hb9) hsub, by rw [upd_ne _ _ n9.2]; exact ho, o1, o2, o3, ⟨fun k hk _ => o4 k hk⟩, by rw [o4 i hlt, List.getD_eq_getElem?_getD, List.getElem?_eq_none (by omega)]; rfl, Int.le_refl _, by omega, rfl⟩ ?_
    clear ho o1 o2 o3 o4 hsub n9
    rintro J2 hJ2 n2 T2 g2 hfr2 ⟨j, rk, o', m, rfl, hj, hdj, t24, hsub, ho', p1, p2, p3, ⟨p4⟩, p5, hm0, hmi, hm⟩
    rcases rk with _ | ⟨y, rk⟩
    · have hltk := drop_nil hdj
      rw [maxF] at hm
      subst hm
      generalize maxF acc x.kids 0 = m at *
      (repeat' (first | simp [go_sem, X_region, *] | simp (disch := omega) only [om, *] | ((first | refine XC_split ?_ ?_ | refine XG_true ?_ ?_ | refine XG_false ?_ ?_ | refine XRg_true ?_ ?_ | refine XRg_false ?_ ?_) <;> intro hc <;> (try simp only [bl] at hc) <;> (try (exfalso; omega))) | refine XD_w [] [] [] (fun _ => none) mixed (by decide +kernel) (sub_none _) ?_ | fail))
      exact ⟨_, Nat.lt_succ_self _, hJ.out _ _ _ ⟨(by (repeat (refine fr_upd (by decide) ?_)); exact fr_in (by intro i; omega) hfr2 (by (repeat (refine fr_upd (by decide) ?_)); exact hfr)), i + 1, r, acc ++ [m + 1], rfl, by omega, hd2, hR, by simp [go_sem, *], by simp [hacc], fun v hv => by
        rcases List.mem_append.1 hv with hv | hv
        · have := hav v hv; omega
        · rw [List.mem_singleton.1 hv]; omega, Sub.upd hb hsub, ⟨_, upd_same _ _ _, rfl, rfl, rfl, ⟨kz_next _ hacc p4⟩⟩⟩⟩
    · obtain ⟨hltk, hxk, hdj2⟩ := drop_cons hdj
      have hy := hk1 y (by rw [← hxk]; exact List.getElem_mem hltk)
      obtain ⟨yn, rfl⟩ : ∃ yn : Nat, y = yn := ⟨y.toNat, by omega⟩
      have hyf := p4 yn (by omega) (by omega)
      rw [maxF, Int.toNat_natCast] at hm
      have hva : 0 ≤ acc.getD yn 0 ∧ acc.getD yn 0 ≤ i := hav _ (by
        rw [List.getD_eq_getElem?_getD, List.getElem?_eq_getElem (by omega)]
        exact List.getElem_mem _)
      have hp4 : Hid (∀ k, k < e.length → k ≠ i → o'.f k 0 = I (acc.getD k 0)) := ⟨p4⟩
      clear p4 hav
      generalize acc.getD yn 0 = v at hm hva hyf
      (repeat' (first | simp [go_sem, X_region, *] | simp (disch := omega) only [om, *] | ((first | refine XC_split ?_ ?_ | refine XG_true ?_ ?_ | refine XG_false ?_ ?_ | refine XRg_true ?_ ?_ | refine XRg_false ?_ ?_) <;> intro hc <;> (try simp only [bl] at hc) <;> (try (exfalso; omega))) | refine XD_w [] [] [] (fun _ => none) mixed (by decide +kernel) (sub_none _) ?_ | fail))
      exact ⟨_, Nat.lt_succ_self _, hJ2.out _ _ _ ⟨(by (repeat (refine fr_upd (by decide) ?_)); exact hfr2), j + 1, rk, _, max m v, rfl, by omega, hdj2, by simp [go_sem, *], Sub.upd hb hsub, upd_same _ _ _, rfl, rfl, rfl, ⟨fun k hk hki => by simp only [hki, false_and, if_false]; exact hp4.out k hk hki⟩, by simp, by omega, by omega, hm⟩⟩
end Go.Proofs.YtmalhikcdideoaaDoor

set_option linter.unusedVariables false
set_option linter.unusedSimpArgs false
namespace Go.Proofs.YtmalhikcdideoaaDoor
open Go Sl
attribute [local irreducible] XRange LpQ XR XRo XRg XRQ putQ XFv XL XW2 wQ putW X XO XOp XH XHo XW SeqQ BlkQ XOQ XHQ NrmQ XC XM XG XHM XHG XD CallK
open Go.RowKit
theorem strict_unique {α : Type} (lt : α → α → Prop) (irr : ∀ a, ¬ lt a a) (tr : ∀ a b c, lt a b → lt b c → lt a c) : ∀ l m : List α, l.Pairwise lt → m.Pairwise lt → (∀ x, x ∈ l ↔ x ∈ m) → l = m
  | [], [], _, _, _ => rfl
  | [], y :: m, _, _, h => by have := (h y).2 (List.mem_cons_self ..); cases this
  | x :: l, [], _, _, h => by have := (h x).1 (List.mem_cons_self ..); cases this
  | x :: l, y :: m, hl, hm, h => by
    obtain ⟨l1, l2⟩ := List.pairwise_cons.1 hl
    obtain ⟨m1, m2⟩ := List.pairwise_cons.1 hm
    have hxy : x = y := by
      rcases List.mem_cons.1 ((h x).1 (List.mem_cons_self ..)) with e | e
      · exact e
      · rcases List.mem_cons.1 ((h y).2 (List.mem_cons_self ..)) with f | f
        · exact f.symm
        · exact absurd (tr _ _ _ (m1 x e) (l1 y f)) (irr _)
    subst hxy
    congr 1
    refine strict_unique lt irr tr l m l2 m2 fun z => ⟨fun hz => ?_, fun hz => ?_⟩
    · rcases List.mem_cons.1 ((h z).1 (List.mem_cons_of_mem _ hz)) with e | e
      · exact absurd (e ▸ l1 z hz) (irr _)
      · exact e
    · rcases List.mem_cons.1 ((h z).2 (List.mem_cons_of_mem _ hz)) with e | e
      · exact absurd (e ▸ m1 z hz) (irr _)
      · exact e
abbrev Bs := List UInt8
def leB (x y : Bs) : Bool := decide (x ≤ y)
def ltB (x y : Bs) : Prop := x ≤ y ∧ x ≠ y
theorem leB_trans (a b c : Bs) (h1 : leB a b = true) (h2 : leB b c = true) : leB a c = true := by
  simp only [leB, decide_eq_true_eq] at *
  exact List.le_trans h1 h2
theorem leB_total (a b : Bs) : (leB a b || leB b a) = true := by
  simp only [leB, Bool.or_eq_true, decide_eq_true_eq]
  exact List.le_total a b
theorem ltB_trans (a b c : Bs) (h1 : ltB a b) (h2 : ltB b c) : ltB a c := by
  refine ⟨List.le_trans h1.1 h2.1, fun e => ?_⟩
  subst e
  exact h1.2 (List.le_antisymm h1.1 h2.1)
theorem ltB_irr (a : Bs) : ¬ ltB a a := fun h => h.2 rfl
theorem sorted_of (zs : List Bs) : (zs.mergeSort fun x y => decide (x ≤ y)).Pairwise fun x y => x ≤ y := by
  have := List.pairwise_mergeSort (le := leB) leB_trans leB_total zs
  refine List.Pairwise.imp (fun {a b} h => ?_) this
  simpa [leB] using h
theorem sort_nodup {zs : List Bs} (h : zs.Nodup) : (zs.mergeSort fun x y => decide (x ≤ y)).Pairwise ltB := by
  have h1 := sorted_of zs
  have h2 : (zs.mergeSort fun x y => decide (x ≤ y)).Nodup := (List.mergeSort_perm zs _).symm.nodup h
  exact (List.Pairwise.and h1 h2)
theorem compact_mem (zs : List Bs) (s : Bs) : s ∈ Lib.compact zs ↔ s ∈ zs := by
  unfold Lib.compact Lib.compactUpTo
  rw [List.mem_map]
  constructor
  · rintro ⟨j, hj, rfl⟩
    rw [List.mem_filter, List.mem_range] at hj
    have h1 : j < zs.toArray.size := by simpa using hj.1
    rw [getElem!_pos zs.toArray j h1]
    simp
  · intro hs
    obtain ⟨j, hj, hjs⟩ := List.getElem_of_mem hs
    have key : ∀ n : Nat, ∀ hn : n < zs.length, zs[n] = s → ∃ a, a ∈ List.filter (Lib.keeps zs.toArray) (List.range zs.length) ∧ zs.toArray[a]! = s := by
      intro n
      induction n with
      | zero =>
        intro hn hns
        refine ⟨0, ?_, ?_⟩
        · rw [List.mem_filter, List.mem_range]; exact ⟨hn, by simp [Lib.keeps]⟩
        · rw [getElem!_pos zs.toArray 0 (by simpa using hn)]; simpa using hns
      | succ n ih =>
        intro hn hns
        by_cases hk : Lib.keeps zs.toArray (n + 1) = true
        · refine ⟨n + 1, ?_, ?_⟩
          · rw [List.mem_filter, List.mem_range]; exact ⟨hn, hk⟩
          · rw [getElem!_pos zs.toArray (n + 1) (by simpa using hn)]; simpa using hns
        · refine ih (by omega) ?_
          unfold Lib.keeps at hk
          rw [getElem!_pos zs.toArray (n + 1) (by simpa using hn), getElem!_pos zs.toArray (n + 1 - 1) (by simp; omega)] at hk
          simp at hk
          rw [← hk]; exact hns
    exact key j hj hjs
theorem compact_strict (zs : List Bs) (h : zs.Pairwise fun x y => x ≤ y) : (Lib.compact zs).Pairwise ltB := by
  unfold Lib.compact Lib.compactUpTo
  rw [List.pairwise_map]
  have h1 : (List.filter (Lib.keeps zs.toArray) (List.range zs.length)).Pairwise fun i j => i < j ∧ j < zs.length ∧ Lib.keeps zs.toArray j = true := by
    have h2 : (List.filter (Lib.keeps zs.toArray) (List.range zs.length)).Pairwise (· < ·) := List.Pairwise.filter _ List.pairwise_lt_range
    refine List.Pairwise.imp_of_mem (fun {a b} _ hb hab => ?_) h2
    rw [List.mem_filter, List.mem_range] at hb
    exact ⟨hab, hb.1, hb.2⟩
  refine List.Pairwise.imp (fun {i j} hij => ?_) h1
  obtain ⟨hij, hj, hk⟩ := hij
  have hle : ∀ a b, a ≤ b → ∀ hb : b < zs.length, ∀ ha : a < zs.length, zs[a] ≤ zs[b] := fun a b hab hb ha => by
    rcases Nat.lt_or_ge a b with hlt | hge
    · exact List.pairwise_iff_getElem.1 h a b ha hb hlt
    · obtain rfl : a = b := by omega
      exact List.le_refl _
  rw [getElem!_pos zs.toArray i (by simp; omega), getElem!_pos zs.toArray j (by simpa using hj)]
  unfold Lib.keeps at hk
  rw [getElem!_pos zs.toArray j (by simpa using hj), getElem!_pos zs.toArray (j - 1) (by simp; omega)] at hk
  simp only [List.getElem_toArray, decide_eq_true_eq] at hk ⊢
  have hk' : zs[j] ≠ zs[j - 1] := hk.resolve_left (by omega)
  refine ⟨hle i j (by omega) hj (by omega), fun e => hk' ?_⟩
  have a1 := hle i (j - 1) (by omega) (by omega) (by omega)
  have a2 := hle (j - 1) j (by omega) hj (by omega)
  rw [e] at a1
  exact List.le_antisymm a1 a2
/-- The names of a set, sorted, are those of a list, sorted, without repetitions. -/
theorem sort_compact (O L : List Bs) (hO : O.Nodup) (h : ∀ s, s ∈ O ↔ s ∈ L) : (O.mergeSort fun x y => decide (x ≤ y)) = Lib.compact (L.mergeSort fun x y => decide (x ≤ y)) := by
  refine strict_unique ltB ltB_irr ltB_trans _ _ (sort_nodup hO) (compact_strict _ (sorted_of L)) fun x => ?_
  rw [compact_mem, List.mem_mergeSort, List.mem_mergeSort]
  exact h x
def tB (b : ByteArray) : Bs := b.data.toList
theorem tB_inj {a b : ByteArray} (h : tB a = tB b) : a = b := by
  apply ByteArray.ext
  exact Array.toList_inj.1 h
def sortB (l : List ByteArray) : List ByteArray := ((l.map tB).mergeSort fun x y => decide (x ≤ y)).map bOf
def compB (l : List ByteArray) : List ByteArray := (Lib.compact (l.map tB)).map bOf
theorem tB_bOf (l : Bs) : tB (bOf l) = l := rfl
theorem names_same (O L : List ByteArray) (hO : O.Nodup) (h : ∀ s, s ∈ O ↔ s ∈ L) : sortB O = compB (sortB L) := by
  unfold sortB compB
  rw [List.map_map, show (tB ∘ bOf) = id from funext tB_bOf, List.map_id]
  congr 1
  refine sort_compact _ _ ?_ fun s => ?_
  · rw [List.nodup_iff_pairwise_ne, List.pairwise_map]
    exact List.Pairwise.imp (fun {a b} hab e => hab (tB_inj e)) (List.nodup_iff_pairwise_ne.1 hO)
  · simp only [List.mem_map]
    exact ⟨fun ⟨a, ha, e⟩ => ⟨a, (h a).1 ha, e⟩, fun ⟨a, ha, e⟩ => ⟨a, (h a).2 ha, e⟩⟩
/-- The names of nodes with operations. -/
def namesF (p : Int → Bool) (e : List Nd) : List ByteArray := (e.filter fun x => p x.op).map (·.nm)
end Go.Proofs.YtmalhikcdideoaaDoor

namespace Go.Proofs
open Go.Shelf
def Tryd.laysM171_ren : Go.Shelf.Ren := ⟨fun | 171 => 98 | 243 => 124 | 246 => 140 | 283 => 149 | 284 => 150 | 285 => 151 | 286 => 152 | 129 => 136 | 317 => 154 | 318 => 155 | 319 => 156 | 320 => 157 | 337 => 158 | 338 => 159 | n => n, fun | 3 => 3 | 9 => 9 | 2 => 2 | 4 => 4 | 171 => 203 | 0 => 0 | 53 => 188 | 37 => 97 | 5 => 5 | 173 => 205 | 212 => 210 | 51 => 136 | 20 => 20 | 213 => 211 | 46 => 139 | 232 => 212 | 233 => 213 | n => n, fun | 17 => 5 | 18 => 6 | 19 => 7 | n => n⟩
theorem Tryd.laysM171 : Go.Proofs.LaysM.n171 Tryd.prog Tryd.laysM171_ren := {
  mixed := by kernel_rfl
  f129 := Tryd.func136.trans (congrArg some (by kernel_rfl))
  f171 := Tryd.func98.trans (congrArg some (by kernel_rfl))
  f243 := Tryd.func124.trans (congrArg some (by kernel_rfl))
  f246 := Tryd.func140.trans (congrArg some (by kernel_rfl))
  f283 := Tryd.func149.trans (congrArg some (by kernel_rfl))
  f284 := Tryd.func150.trans (congrArg some (by kernel_rfl))
  f285 := Tryd.func151.trans (congrArg some (by kernel_rfl))
  f286 := Tryd.func152.trans (congrArg some (by kernel_rfl))
  f317 := Tryd.func154.trans (congrArg some (by kernel_rfl))
  f318 := Tryd.func155.trans (congrArg some (by kernel_rfl))
  f319 := Tryd.func156.trans (congrArg some (by kernel_rfl))
  f320 := Tryd.func157.trans (congrArg some (by kernel_rfl))
  f337 := Tryd.func158.trans (congrArg some (by kernel_rfl))
  f338 := Tryd.func159.trans (congrArg some (by kernel_rfl))
  t0 := Tryd.underlying0
  a0 := Tryd.isAgg0
  z0 := Tryd.sizeOf0
  v0 := Tryd.zeroValue0
  t2 := Tryd.underlying2
  a2 := Tryd.isAgg2
  z2 := Tryd.sizeOf2
  v2 := Tryd.zeroValue2
  t3 := Tryd.underlying3
  a3 := Tryd.isAgg3
  z3 := Tryd.sizeOf3
  v3 := Tryd.zeroValue3
  t4 := Tryd.underlying4
  a4 := Tryd.isAgg4
  z4 := Tryd.sizeOf4
  v4 := Tryd.zeroValue4
  t5 := Tryd.underlying5
  a5 := Tryd.isAgg5
  z5 := Tryd.sizeOf5
  v5 := Tryd.zeroValue5
  t9 := Tryd.underlying9
  a9 := Tryd.isAgg9
  z9 := Tryd.sizeOf9
  v9 := Tryd.zeroValue9
  t20 := Tryd.underlying20
  a20 := Tryd.isAgg20
  z20 := Tryd.sizeOf20
  v20 := Tryd.zeroValue20
  t37 := Tryd.underlying97
  a37 := Tryd.isAgg97
  z37 := Tryd.sizeOf97
  v37 := Tryd.zeroValue97
  t46 := Tryd.underlying139
  a46 := Tryd.isAgg139
  z46 := Tryd.sizeOf139
  v46 := Tryd.zeroValue139
  t51 := Tryd.underlying136
  a51 := Tryd.isAgg136
  z51 := Tryd.sizeOf136
  v51 := Tryd.zeroValue136
  t53 := Tryd.underlying188
  a53 := Tryd.isAgg188
  z53 := Tryd.sizeOf188
  v53 := Tryd.zeroValue188
  t171 := Tryd.underlying203
  a171 := Tryd.isAgg203
  z171 := Tryd.sizeOf203
  v171 := Tryd.zeroValue203
  t173 := Tryd.underlying205
  a173 := Tryd.isAgg205
  z173 := Tryd.sizeOf205
  v173 := Tryd.zeroValue205
  t212 := Tryd.underlying210
  a212 := Tryd.isAgg210
  z212 := Tryd.sizeOf210
  v212 := Tryd.zeroValue210
  t213 := Tryd.underlying211
  a213 := Tryd.isAgg211
  z213 := Tryd.sizeOf211
  t232 := Tryd.underlying212
  a232 := Tryd.isAgg212
  z232 := Tryd.sizeOf212
  v232 := Tryd.zeroValue212
  t233 := Tryd.underlying213
  a233 := Tryd.isAgg213
  z233 := Tryd.sizeOf213
  v233 := Tryd.zeroValue213
  g17 := by kernel_rfl
  g18 := by kernel_rfl
  g19 := by kernel_rfl
  i0 := by kernel_rfl
  i2 := by kernel_rfl
  i3 := by kernel_rfl
  i4 := by kernel_rfl
  i5 := by kernel_rfl
  i9 := by kernel_rfl
  i20 := by kernel_rfl
  i37 := by kernel_rfl
  i46 := by kernel_rfl
  i51 := by kernel_rfl
  i53 := by kernel_rfl
  i171 := by kernel_rfl
  i173 := by kernel_rfl
  i212 := by kernel_rfl
  i232 := by kernel_rfl
  i233 := by kernel_rfl
  m17 := by kernel_rfl
  m18 := by kernel_rfl
  m19 := by kernel_rfl }
def Tryd.lays190_ren : Go.Shelf.Ren := ⟨fun | 190 => 79 | 125 => 112 | 258 => 111 | 128 => 135 | 129 => 136 | 302 => 127 | 303 => 128 | 304 => 129 | 305 => 130 | 306 => 131 | 307 => 132 | 308 => 87 | 309 => 133 | 310 => 134 | 333 => 141 | 329 => 142 | 330 => 143 | 334 => 144 | 335 => 145 | 336 => 116 | 344 => 153 | n => n, fun | 31 => 33 | 9 => 9 | 3 => 3 | 46 => 139 | 0 => 0 | 51 => 136 | 53 => 188 | 4 => 4 | 183 => 181 | 182 => 180 | 131 => 89 | 5 => 5 | 218 => 193 | 222 => 197 | 228 => 207 | 229 => 80 | n => n, fun | n => n⟩
theorem Tryd.lays190 : Go.Proofs.Lays.n190 Tryd.prog Tryd.lays190_ren := {
  mixed := by kernel_rfl
  f125 := Tryd.func112.trans (congrArg some (by kernel_rfl))
  f128 := Tryd.func135.trans (congrArg some (by kernel_rfl))
  f129 := Tryd.func136.trans (congrArg some (by kernel_rfl))
  f190 := Tryd.func79.trans (congrArg some (by kernel_rfl))
  f258 := Tryd.func111.trans (congrArg some (by kernel_rfl))
  f302 := Tryd.func127.trans (congrArg some (by kernel_rfl))
  f303 := Tryd.func128.trans (congrArg some (by kernel_rfl))
  f304 := Tryd.func129.trans (congrArg some (by kernel_rfl))
  f305 := Tryd.func130.trans (congrArg some (by kernel_rfl))
  f306 := Tryd.func131.trans (congrArg some (by kernel_rfl))
  f307 := Tryd.func132.trans (congrArg some (by kernel_rfl))
  f308 := Tryd.func87.trans (congrArg some (by kernel_rfl))
  f309 := Tryd.func133.trans (congrArg some (by kernel_rfl))
  f310 := Tryd.func134.trans (congrArg some (by kernel_rfl))
  f329 := Tryd.func142.trans (congrArg some (by kernel_rfl))
  f330 := Tryd.func143.trans (congrArg some (by kernel_rfl))
  f333 := Tryd.func141.trans (congrArg some (by kernel_rfl))
  f334 := Tryd.func144.trans (congrArg some (by kernel_rfl))
  f335 := Tryd.func145.trans (congrArg some (by kernel_rfl))
  f336 := Tryd.func116.trans (congrArg some (by kernel_rfl))
  f344 := Tryd.func153.trans (congrArg some (by kernel_rfl))
  t0 := Tryd.underlying0
  a0 := Tryd.isAgg0
  z0 := Tryd.sizeOf0
  v0 := Tryd.zeroValue0
  t3 := Tryd.underlying3
  a3 := Tryd.isAgg3
  z3 := Tryd.sizeOf3
  v3 := Tryd.zeroValue3
  t4 := Tryd.underlying4
  a4 := Tryd.isAgg4
  z4 := Tryd.sizeOf4
  v4 := Tryd.zeroValue4
  t5 := Tryd.underlying5
  a5 := Tryd.isAgg5
  z5 := Tryd.sizeOf5
  v5 := Tryd.zeroValue5
  t9 := Tryd.underlying9
  a9 := Tryd.isAgg9
  z9 := Tryd.sizeOf9
  v9 := Tryd.zeroValue9
  t31 := Tryd.underlying33
  a31 := Tryd.isAgg33
  z31 := Tryd.sizeOf33
  v31 := Tryd.zeroValue33
  t46 := Tryd.underlying139
  a46 := Tryd.isAgg139
  z46 := Tryd.sizeOf139
  v46 := Tryd.zeroValue139
  t51 := Tryd.underlying136
  a51 := Tryd.isAgg136
  z51 := Tryd.sizeOf136
  v51 := Tryd.zeroValue136
  t53 := Tryd.underlying188
  a53 := Tryd.isAgg188
  z53 := Tryd.sizeOf188
  v53 := Tryd.zeroValue188
  t131 := Tryd.underlying89
  a131 := Tryd.isAgg89
  z131 := Tryd.sizeOf89
  v131 := Tryd.zeroValue89
  t182 := Tryd.underlying180
  a182 := Tryd.isAgg180
  z182 := Tryd.sizeOf180
  v182 := Tryd.zeroValue180
  t183 := Tryd.underlying181
  a183 := Tryd.isAgg181
  z183 := Tryd.sizeOf181
  v183 := Tryd.zeroValue181
  t218 := Tryd.underlying193
  a218 := Tryd.isAgg193
  z218 := Tryd.sizeOf193
  v218 := Tryd.zeroValue193
  t222 := Tryd.underlying197
  a222 := Tryd.isAgg197
  z222 := Tryd.sizeOf197
  v222 := Tryd.zeroValue197
  t228 := Tryd.underlying207
  a228 := Tryd.isAgg207
  z228 := Tryd.sizeOf207
  v228 := Tryd.zeroValue207
  t229 := Tryd.underlying80
  a229 := Tryd.isAgg80
  z229 := Tryd.sizeOf80
  v229 := Tryd.zeroValue80 }
end Go.Proofs

namespace Go.Proofs
open Go.Shelf
def Tryd.lays194_ren : Go.Shelf.Ren := ⟨fun | 194 => 80 | n => n, fun | 31 => 33 | 9 => 9 | 3 => 3 | 4 => 4 | 0 => 0 | n => n, fun | n => n⟩
theorem Tryd.lays194 : Go.Proofs.Lays.n194 Tryd.prog Tryd.lays194_ren := {
  mixed := by kernel_rfl
  f194 := Tryd.func80.trans (congrArg some (by kernel_rfl))
  t0 := Tryd.underlying0
  a0 := Tryd.isAgg0
  z0 := Tryd.sizeOf0
  v0 := Tryd.zeroValue0
  t3 := Tryd.underlying3
  a3 := Tryd.isAgg3
  z3 := Tryd.sizeOf3
  v3 := Tryd.zeroValue3
  t4 := Tryd.underlying4
  a4 := Tryd.isAgg4
  z4 := Tryd.sizeOf4
  v4 := Tryd.zeroValue4
  t9 := Tryd.underlying9
  a9 := Tryd.isAgg9
  z9 := Tryd.sizeOf9
  v9 := Tryd.zeroValue9
  t31 := Tryd.underlying33
  a31 := Tryd.isAgg33
  z31 := Tryd.sizeOf33
  v31 := Tryd.zeroValue33 }
end Go.Proofs

set_option linter.unusedVariables false
set_option linter.unusedSimpArgs false
namespace Go.Proofs.YtmalhikcdideoaaDoor
open Go Sl
attribute [local irreducible] XRange LpQ XR XRo XRg XRQ putQ XFv XL XW2 wQ putW X XO XOp XH XHo XW SeqQ BlkQ XOQ XHQ NrmQ XC XM XG XHM XHG XD CallK
open Go.RowKit
theorem vals_a {w : World} {h : Hp} {a : AV} {vals : Array Value} (ha : RdL w h [a] vals) : ∃ u, vals = #[u] ∧ Rd w h a u := by
  obtain ⟨u, e, r⟩ := ha.2 0 _ rfl
  refine ⟨u, ?_, r⟩
  have h1 := ha.1
  apply Array.ext
  · simpa using h1
  · intro i h2 h3
    match i, h3 with
    | 0, _ => rw [Array.getElem?_eq_getElem h2] at e; simpa using e
/-- An own row is written by a callee that is not of this layer. -/
theorem put_rel {w w' : World} {h : Hp} {b : Nat} {o : Ob} {c c' : Array Value} (hh : RelH w h) (hb : h b = some o) (hs : 0 < o.s) (hc : w.heap[b]? = some (.cells c o.ty (0, 0))) (hsz : w.heap.size ≤ w'.heap.size)
    (hoth : ∀ k, k < w.heap.size → k ≠ b → w'.heap[k]? = w.heap[k]?) (hb' : w'.heap[b]? = some (.cells c' o.ty (0, 0))) (hcs : c'.size = c.size) (hn : o.n * o.s ≤ c.size) (f' : Nat → Nat → AV)
    (hf : ∀ i, i < o.n → ∀ j, j < o.s → ∃ x, c'[i * o.s + j]? = some x ∧ x.oneCell' = true ∧ ∀ (w'' : World) (h'' : Hp), Rd w'' h'' (f' i j) x) :
    Stp w h w' (upd h b (some { o with f := f' })) ∧ RelH w' (upd h b (some { o with f := f' })) := by
  have st : Stp w h w' (upd h b (some { o with f := f' })) := by
    refine ⟨hsz, fun k hk hn => hoth k hk (fun e => by subst e; rw [hb] at hn; cases hn), fun k hk hn => ?_, fun k o' hk ho' => ?_⟩
    · rw [upd_ne _ _ (fun e => by subst e; rw [hb] at hn; cases hn)]; exact hn
    · by_cases hkb : k = b
      · subst hkb
        rw [upd_same] at ho'
        cases ho'
        exact ⟨o, hb, rfl, fun c2 fr h2 => by rw [hc] at h2; cases h2; exact ⟨c', (0, 0), hb', hcs⟩⟩
      · rw [upd_ne _ _ hkb] at ho'
        exact ⟨o', ho', rfl, fun c2 fr h2 => ⟨c2, fr, (hoth k hk hkb).trans h2, rfl⟩⟩
  refine ⟨st, fun k ok hk => ?_, hh.glob.step st⟩
  by_cases hkb : k = b
  · subst hkb
    rw [upd_same] at hk
    cases hk
    unfold HeldH
    rw [if_neg (by simp; omega)]
    exact ⟨c', hb', by rw [hcs]; exact hn, hs, fun i hi j hj => by obtain ⟨x, h1, h2, h3⟩ := hf i hi j hj; exact ⟨x, h1, h2, h3 _ _⟩⟩
  · rw [upd_ne _ _ hkb] at hk
    exact (hh.own k ok hk).step st (hoth k (hh.lt hk) hkb)
/-- The cells of a row of texts. -/
theorem row_holds {w : World} {h : Hp} {b : Nat} {o : Ob} {l : List ByteArray} (hh : RelH w h) (hb : h b = some o) (o1 : o.s = 1) (on : o.n = l.length) (hf : ∀ i, i < l.length → o.f i 0 = cellsL cS l i 0) :
    ∃ c, w.heap[b]? = some (.cells c o.ty (0, 0)) ∧ l.length ≤ c.size ∧ Go.Sort.Holds encStr w b 0 (l.map tB).toArray := by
  have hx := hh.own b o hb
  unfold HeldH at hx
  rw [if_neg (by omega)] at hx
  obtain ⟨c, hc, hn, _, hcell⟩ := hx
  rw [o1, on, Nat.mul_one] at hn
  refine ⟨c, hc, hn, fun j hj => ?_⟩
  have hj' : j < l.length := by simpa using hj
  have hlj : l[j]? = some l[j] := List.getElem?_eq_getElem hj'
  obtain ⟨x, h1, _, h3⟩ := hcell j (by omega) 0 (by omega)
  rw [hf j hj', cellsL_at hlj] at h3
  obtain rfl : x = .string l[j] := h3
  rw [o1, Nat.mul_one, Nat.add_zero] at h1
  refine ⟨?_, ?_⟩
  · rw [Nat.zero_add]
    unfold World.cell?
    simp only [hc]
    rw [h1, getElem!_pos _ j hj]
    simp [tB, encStr]
  · unfold World.frozen?
    simp only [hc]
    simp
theorem put_heap {w : World} {b q : Nat} {c : Array Value} {ty : TypeId} {d : Array Bs} (hc : w.heap[b]? = some (.cells c ty (0, 0))) (os : Array Obj) :
    (Go.Sort.grow (Go.Sort.putRow encStr (Go.Sort.ahead w q) b 0 d) os).heap[b]? = some (.cells (Go.Sort.putCells encStr 0 d c) ty (0, 0)) ∧
    w.heap.size ≤ (Go.Sort.grow (Go.Sort.putRow encStr (Go.Sort.ahead w q) b 0 d) os).heap.size ∧
    ∀ k, k < w.heap.size → k ≠ b → (Go.Sort.grow (Go.Sort.putRow encStr (Go.Sort.ahead w q) b 0 d) os).heap[k]? = w.heap[k]? := by
  have hblt : b < w.heap.size := (Array.getElem?_eq_some_iff.1 hc).1
  have hsz : (Go.Sort.putRow encStr (Go.Sort.ahead w q) b 0 d).heap.size = w.heap.size := by rw [Go.Sort.size_putRow]; rfl
  have hold : ∀ k, k < w.heap.size → (Go.Sort.grow (Go.Sort.putRow encStr (Go.Sort.ahead w q) b 0 d) os).heap[k]? = (Go.Sort.putRow encStr (Go.Sort.ahead w q) b 0 d).heap[k]? := fun k hk => by
    unfold Go.Sort.grow
    rw [Array.getElem?_append_left (by rw [hsz]; exact hk)]
  have hah : (Go.Sort.ahead w q).heap = w.heap := rfl
  refine ⟨?_, ?_, fun k hk hkb => ?_⟩
  · rw [hold b hblt]
    unfold Go.Sort.putRow Go.Sort.mapBlock
    simp only [hah, Array.getElem?_modify, if_true, hc, Option.map_some, Go.Sort.onCells]
  · unfold Go.Sort.grow
    simp only [Array.size_append]
    rw [hsz]; omega
  · rw [hold k hk]
    unfold Go.Sort.putRow Go.Sort.mapBlock
    simp only [hah, Array.getElem?_modify, if_neg (Ne.symm hkb)]
theorem putCells_at {c : Array Value} {d : Array Bs} {j : Nat} (h1 : j < d.size) (h2 : d.size ≤ c.size) : (Go.Sort.putCells encStr 0 d c)[j]? = some (encStr d[j]) := by
  unfold Go.Sort.putCells
  rw [Array.getElem?_mapIdx, Array.getElem?_eq_getElem (by omega), Option.map_some, if_pos (by omega), Nat.sub_zero, getElem!_pos d j h1]
set_option maxHeartbeats 2000000 in
/-- slices.Sort on an own row of texts. -/
theorem sort_row {h : Hp} {b : Nat} {o : Ob} (l : List ByteArray) (hl : l.length ≤ 1000000000000) (hb : h b = some o) (o1 : o.s = 1) (on : o.n = l.length) (hf : ∀ i, i < l.length → o.f i 0 = cellsL cS l i 0) :
    CallK Tryd.prog h 79 [.row b 1 0 l.length] fun r h' => r = un ∧ h' = upd h b (some { o with f := cellsL cS (sortB l) }) := by
  unfold CallK
  intro w vals hh ha
  obtain ⟨u, rfl, cap, rfl, hcap, hblt, hmx, hrow⟩ := vals_a ha
  obtain ⟨c, hc, hn, hH⟩ := row_holds hh hb o1 on hf
  have hlen : (l.map tB).length = l.length := by simp
  have hg := Any.slices_Sort_string Tryd.lays190 b 0 cap (l.map tB) w hH hblt (by rw [hlen]; omega)
  rw [hlen] at hg
  rw [Nat.zero_mul]
  refine hg.mono ?_
  rintro e w' ⟨rfl, q, os, rfl⟩
  obtain ⟨p1, p2, p3⟩ := put_heap (q := q) (d := ((l.map tB).mergeSort fun x y => decide (x ≤ y)).toArray) hc os
  have hds : ((l.map tB).mergeSort fun x y => decide (x ≤ y)).toArray.size = l.length := by simp
  obtain ⟨st, rh⟩ := put_rel hh hb (by omega) hc p2 p3 p1 (by simp [Go.Sort.putCells]) (by rw [o1, on]; omega) (cellsL cS (sortB l)) (fun i hi j hj => by
    obtain rfl : j = 0 := by omega
    rw [on] at hi
    have hsl : (sortB l).length = l.length := by simp [sortB]
    have hx : (sortB l)[i]? = some (sortB l)[i] := List.getElem?_eq_getElem (by omega)
    refine ⟨_, by rw [o1, Nat.mul_one, Nat.add_zero]; exact putCells_at (by omega) (by omega), rfl, fun w'' h'' => ?_⟩
    rw [cellsL_at hx]
    show _ = Value.string (sortB l)[i]
    simp [sortB, encStr, bOf])
  exact ⟨_, _, _, rfl, ⟨rfl, rfl⟩, rfl, rh, ⟨rfl, rfl, rfl⟩, st⟩
set_option maxHeartbeats 2000000 in
/-- slices.Compact on an own row of texts: the first part of the row. -/
theorem compact_row {h : Hp} {b : Nat} {o : Ob} (l : List ByteArray) (hl : l.length ≤ 1000000000000) (hb : h b = some o) (o1 : o.s = 1) (on : o.n = l.length) (hf : ∀ i, i < l.length → o.f i 0 = cellsL cS l i 0) :
    CallK Tryd.prog h 80 [.row b 1 0 l.length] fun r h' => r = .row b 1 0 (compB l).length ∧ ∃ f', h' = upd h b (some { o with f := f' }) ∧ (compB l).length ≤ o.n ∧ ∀ i, i < (compB l).length → f' i 0 = cellsL cS (compB l) i 0 := by
  unfold CallK
  intro w vals hh ha
  obtain ⟨u, rfl, cap, rfl, hcap, hblt, hmx, hrow⟩ := vals_a ha
  obtain ⟨c, hc, hn, hH⟩ := row_holds hh hb o1 on hf
  have hlen : (l.map tB).length = l.length := by simp
  have hg := Any.slices_Compact_string Tryd.lays194 b 0 cap (l.map tB) w hH (by rw [hlen]; omega) (by rw [hlen]; exact hcap)
  rw [hlen] at hg
  rw [Nat.zero_mul]
  refine hg.mono ?_
  rintro e w' ⟨rfl, q, rfl⟩
  have hcl : (Lib.compact (l.map tB)).length ≤ l.length := by
    unfold Lib.compact Lib.compactUpTo
    rw [List.length_map, hlen]
    exact Nat.le_trans (List.length_filter_le ..) (by simp)
  have hcb : (compB l).length = (Lib.compact (l.map tB)).length := by simp [compB]
  have hgr : ∀ W : World, W = Go.Sort.grow W #[] := fun W => (Go.Sort.grow_empty W).symm
  obtain ⟨p1, p2, p3⟩ := put_heap (q := q) (d := (Lib.compact (l.map tB) ++ List.replicate (l.length - (Lib.compact (l.map tB)).length) []).toArray) hc #[]
  rw [← hgr] at p1 p2 p3
  have hds : (Lib.compact (l.map tB) ++ List.replicate (l.length - (Lib.compact (l.map tB)).length) []).toArray.size = l.length := by simp; omega
  obtain ⟨st, rh⟩ := put_rel hh hb (by omega) hc p2 p3 p1 (by simp [Go.Sort.putCells]) (by rw [o1, on]; omega) (fun i _ => S (bOf ((Lib.compact (l.map tB) ++ List.replicate (l.length - (Lib.compact (l.map tB)).length) []).getD i []))) (fun i hi j hj => by
    obtain rfl : j = 0 := by omega
    rw [on] at hi
    refine ⟨_, by rw [o1, Nat.mul_one, Nat.add_zero]; exact putCells_at (by omega) (by omega), rfl, fun w'' h'' => ?_⟩
    show _ = Value.string (bOf _)
    rw [List.getD_eq_getElem?_getD, List.getElem?_eq_getElem (by rw [List.size_toArray] at hds; omega)]
    simp [encStr, bOf])
  refine ⟨_, _, _, rfl, ⟨rfl, _, rfl, by omega, fun i hi => ?_⟩, ?_, rh, ⟨rfl, rfl, rfl⟩, st⟩
  · have hx : (compB l)[i]? = some (compB l)[i] := List.getElem?_eq_getElem hi
    rw [cellsL_at hx]
    simp only [compB, List.length_map] at hi
    show S (bOf _) = S _
    rw [List.getD_eq_getElem?_getD, List.getElem?_append_left hi, List.getElem?_eq_getElem hi]
    simp [compB]
  · refine ⟨cap, by rw [hcb, Nat.zero_mul], by omega, Nat.lt_of_lt_of_le hblt p2, hmx, fun o' ho' => ?_⟩
    rw [upd_same] at ho'
    cases ho'
    obtain ⟨c2, fr2, e1, e2⟩ := hrow o hb
    rw [hc] at e1
    cases e1
    exact ⟨_, _, p1, by rw [← e2]; simp [Go.Sort.putCells]⟩
/-- slices.Compact on an empty slice. -/
theorem compact_none (h : Hp) : CallK Tryd.prog h 80 [.v (.slice none 0 0)] fun r h' => r = .v (.slice none 0 0) ∧ h' = h := by
  unfold CallK
  intro w vals hh ha
  obtain ⟨_, rfl, rfl⟩ := vals_a ha
  refine (Any.slices_Compact_string_empty Tryd.lays194 none 0 w).mono ?_
  rintro e w' ⟨rfl, rfl⟩
  exact ⟨_, _, h, rfl, ⟨rfl, rfl⟩, rfl, hh, ⟨rfl, rfl, rfl⟩, Stp.refl _ _⟩
theorem compact_e0 (h : Hp) : CallK Tryd.prog h 80 [.e0] fun r h' => r = .e0 ∧ h' = h := by
  unfold CallK
  intro w vals hh ha
  obtain ⟨u, rfl, A, rfl⟩ := vals_a ha
  refine (Any.slices_Compact_string_empty Tryd.lays194 A 0 w).mono ?_
  rintro e w' ⟨rfl, rfl⟩
  exact ⟨_, _, h, rfl, ⟨rfl, rfl⟩, ⟨A, rfl⟩, hh, ⟨rfl, rfl, rfl⟩, Stp.refl _ _⟩
end Go.Proofs.YtmalhikcdideoaaDoor

set_option linter.unusedVariables false
set_option linter.unusedSimpArgs false
namespace Go.Proofs.YtmalhikcdideoaaDoor
open Go Sl
attribute [local irreducible] XRange LpQ XR XRo XRg XRQ putQ XFv XL XW2 wQ putW X XO XOp XH XHo XW SeqQ BlkQ XOQ XHQ NrmQ XC XM XG XHM XHG XD CallK
open Go.RowKit
open Classical in
/-- The heap without a slice of the call's own. -/
theorem own_hole {h0 h : Hp} {a : AV} {e : TypeId} {s n : Nat} {f : Nat → Nat → AV} (oa : Own h0 h a e s n f) : ∃ H : Hp, Own H h a e s n f ∧ Sub h0 H ∧ ∀ d od, h d = some od → a ≠ .row d s 0 n → H d = some od := by
  have hH : ∀ c oc, h0 c = some oc → ¬ a = .row c s 0 n := fun c oc hc ha => by
    rcases oa.2 with ⟨_, h1 | h1⟩ | ⟨gb, og, h1, h2, _⟩
    · rw [ha] at h1; cases h1
    · rw [ha] at h1; cases h1
    · rw [ha] at h1; cases h1; rw [hc] at h2; cases h2
  refine ⟨fun c => if a = .row c s 0 n then Option.none else h c, ⟨fun c oc hc => ?_, ?_⟩, fun c oc hc => ?_, fun d od hd hne => ?_⟩
  · simp only at hc
    split at hc
    · cases hc
    · exact hc
  · rcases oa.2 with h1 | ⟨gb, og, h1, h2, h3⟩
    · exact .inl h1
    · exact .inr ⟨gb, og, h1, by simp only [h1, if_true], h3⟩
  · simp only [if_neg (hH c oc hc)]
    exact oa.1 c oc hc
  · simp only [if_neg hne]
    exact hd
theorem own_up {h0 H h1 : Hp} {a : AV} {e : TypeId} {s n : Nat} {f : Nat → Nat → AV} (hS : Sub h0 H) (o : Own H h1 a e s n f) : Own h0 h1 a e s n f := by
  refine ⟨hS.trans o.1, ?_⟩
  rcases o.2 with h1 | ⟨gb, og, h1, h2, h3⟩
  · exact .inl h1
  · refine .inr ⟨gb, og, h1, ?_, h3⟩
    cases hx : h0 gb with
    | none => rfl
    | some oc => have := hS gb oc hx; rw [h2] at this; cases this
/-- Another slice is left alone. -/
theorem own_keep {h0 H h h1 : Hp} {a t : AV} {e' : TypeId} {s n s' m : Nat} {q : Nat → Nat → AV} (hS : Sub h0 H) (hk : ∀ d od, h d = some od → a ≠ .row d s 0 n → H d = some od) (h01 : Sub H h1) (o : Own h0 h t e' s' m q) (hd : ∀ c, a = .row c s 0 n → t = .row c s' 0 m → False) : Own h0 h1 t e' s' m q := by
  refine ⟨hS.trans h01, ?_⟩
  rcases o.2 with h1 | ⟨gb, og, h1, h2, h3, h4⟩
  · exact .inl h1
  · exact .inr ⟨gb, og, h1, h2, h01 _ _ (hk gb og h3 fun ha => hd gb ha h1), h4⟩
theorem own_apart {h0 H h h1 : Hp} {a a1 t : AV} {e e' : TypeId} {s n n1 s' m : Nat} {f1 q : Nat → Nat → AV} (hk : ∀ d od, h d = some od → a ≠ .row d s 0 n → H d = some od) (o1 : Own H h1 a1 e s n1 f1) (o : Own h0 h t e' s' m q) (hd : ∀ c, a = .row c s 0 n → t = .row c s' 0 m → False) : ∀ c, a1 = .row c s 0 n1 → t = .row c s' 0 m → False := by
  intro c hc hc'
  rcases o.2 with ⟨_, h1 | h1⟩ | ⟨gb, og, h1, h2, h3, h4⟩
  · rw [hc'] at h1; cases h1
  · rw [hc'] at h1; cases h1
  · rw [hc'] at h1
    cases h1
    have h5 := hk c og h3 fun ha => hd c ha hc'
    rcases o1.2 with ⟨_, h6 | h6⟩ | ⟨gb, og', h6, h7, _⟩
    · rw [hc] at h6; cases h6
    · rw [hc] at h6; cases h6
    · rw [hc] at h6
      cases h6
      rw [h7] at h5
      cases h5
/-- Slices of other elements are apart. -/
theorem own_apartT {h0 h0' h : Hp} {a t : AV} {e e' : TypeId} {s n s' m : Nat} {f q : Nat → Nat → AV} (oa : Own h0 h a e s n f) (ot : Own h0' h t e' s' m q) (hne : s ≠ s') : ∀ c, a = .row c s 0 n → t = .row c s' 0 m → False := by
  intro c hc hc'
  rcases oa.2 with ⟨_, h1 | h1⟩ | ⟨gb, og, h1, h2, h3, h4, _⟩
  · rw [hc] at h1; cases h1
  · rw [hc] at h1; cases h1
  · rcases ot.2 with ⟨_, h6 | h6⟩ | ⟨gb', og', h6, h7, h8, h9, _⟩
    · rw [hc'] at h6; cases h6
    · rw [hc'] at h6; cases h6
    · rw [hc] at h1
      rw [hc'] at h6
      cases h1
      cases h6
      rw [h3] at h8
      cases h8
      exact hne (h4.symm.trans h9)
/-- A slice of the call's own, perhaps a part of its block. -/
def OwnC (h0 h : Hp) (r : AV) (e : TypeId) (s n : Nat) (f : Nat → Nat → AV) : Prop :=
  Sub h0 h ∧ ((n = 0 ∧ (r = .v (.slice none 0 0) ∨ r = .e0)) ∨ ∃ b o, r = .row b s 0 n ∧ h0 b = none ∧ h b = some o ∧ o.s = s ∧ o.ty = e ∧ n ≤ o.n ∧ ∀ i, i < n → ∀ j, j < s → o.f i j = f i j)
theorem ownC_up {h0 H h1 : Hp} {a : AV} {e : TypeId} {s n : Nat} {f : Nat → Nat → AV} (hS : Sub h0 H) (o : OwnC H h1 a e s n f) : OwnC h0 h1 a e s n f := by
  refine ⟨hS.trans o.1, ?_⟩
  rcases o.2 with h1 | ⟨gb, og, h1, h2, h3⟩
  · exact .inl h1
  · refine .inr ⟨gb, og, h1, ?_, h3⟩
    cases hx : h0 gb with
    | none => rfl
    | some oc => have := hS gb oc hx; rw [h2] at this; cases this
theorem ownC_frozen {h0 h : Hp} {a : AV} {e : TypeId} {s n : Nat} {f : Nat → Nat → AV} (o : OwnC h0 h a e s n f) (h3 : n ≤ 140737488355328) : Wk h a h0 (.sl s n f) := by
  rcases o with ⟨hs, ⟨rfl, h1 | h1⟩ | ⟨b, ob, rfl, h2, h4, h5, h6, h7, h8⟩⟩
  · subst h1
    exact Own.frozen (e := e) ⟨hs, .inl ⟨rfl, .inl rfl⟩⟩ h3
  · subst h1
    exact Own.frozen (e := e) ⟨hs, .inl ⟨rfl, .inr rfl⟩⟩ h3
  · exact Wk.rowF h4 hs h2 h5 h7 h3 h8
theorem ownC_keep {h0 H h h1 : Hp} {a t : AV} {e' : TypeId} {s n s' m : Nat} {q : Nat → Nat → AV} (hS : Sub h0 H) (hk : ∀ d od, h d = some od → a ≠ .row d s 0 n → H d = some od) (h01 : Sub H h1) (o : OwnC h0 h t e' s' m q) (hd : ∀ c, a = .row c s 0 n → t = .row c s' 0 m → False) : OwnC h0 h1 t e' s' m q := by
  refine ⟨hS.trans h01, ?_⟩
  rcases o.2 with h1 | ⟨gb, og, h1, h2, h3, h4⟩
  · exact .inl h1
  · exact .inr ⟨gb, og, h1, h2, h01 _ _ (hk gb og h3 fun ha => hd gb ha h1), h4⟩
theorem own_apartC {h0 H h h1 : Hp} {a a1 t : AV} {e e' : TypeId} {s n n1 s' m : Nat} {f1 q : Nat → Nat → AV} (hk : ∀ d od, h d = some od → a ≠ .row d s 0 n → H d = some od) (o1 : OwnC H h1 a1 e s n1 f1) (o : Own h0 h t e' s' m q) (hd : ∀ c, a = .row c s 0 n → t = .row c s' 0 m → False) : ∀ c, a1 = .row c s 0 n1 → t = .row c s' 0 m → False := by
  intro c hc hc'
  rcases o.2 with ⟨_, h1 | h1⟩ | ⟨gb, og, h1, h2, h3, h4⟩
  · rw [hc'] at h1; cases h1
  · rw [hc'] at h1; cases h1
  · rw [hc'] at h1
    cases h1
    have h5 := hk c og h3 fun ha => hd c ha hc'
    rcases o1.2 with ⟨_, h6 | h6⟩ | ⟨gb, og', h6, h7, _⟩
    · rw [hc] at h6; cases h6
    · rw [hc] at h6; cases h6
    · rw [hc] at h6
      cases h6
      rw [h7] at h5
      cases h5
theorem own_row {h0 h : Hp} {a : AV} {e : TypeId} {s n : Nat} {f : Nat → Nat → AV} (o : Own h0 h a e s n f) (hn : 0 < n) : ∃ d, a = .row d s 0 n := by
  rcases o.2 with ⟨h1, _⟩ | ⟨d, od, h1, _⟩
  · omega
  · exact ⟨d, h1⟩
end Go.Proofs.YtmalhikcdideoaaDoor

set_option linter.unusedVariables false
set_option linter.unusedSimpArgs false
namespace Go.Proofs.YtmalhikcdideoaaDoor
open Go Sl
attribute [local irreducible] XRange LpQ XR XRo XRg XRQ putQ XFv XL XW2 wQ putW X XO XOp XH XHo XW SeqQ BlkQ XOQ XHQ NrmQ XC XM XG XHM XHG XD CallK
open Go.RowKit
theorem retell {w : World} {h h1 : Hp} {d : Nat} {od : Ob} {f' : Nat → Nat → AV} (hh : RelH w h) (hs : Sub h1 h) (hd : h1 d = some od) (h0 : 0 < od.s) (hf : ∀ i, i < od.n → ∀ j, j < od.s → Wk h (od.f i j) h1 (f' i j)) :
    Stp w h w (upd h1 d (some { od with f := f' })) ∧ RelH w (upd h1 d (some { od with f := f' })) := by
  have st1 : Stp w h w h1 := stp_forget hs
  have hh1 : RelH w h1 := relH_forget hh hs
  have st2 : Stp w h1 w (upd h1 d (some { od with f := f' })) := by
    refine ⟨Nat.le_refl _, fun _ _ _ => rfl, fun b hb hn => ?_, fun b o' hb ho => ?_⟩
    · rw [upd_ne _ _ (fun e => by rw [e, hd] at hn; cases hn)]; exact hn
    · by_cases hbd : b = d
      · subst hbd
        rw [upd_same] at ho
        cases ho
        exact ⟨od, hd, rfl, fun c fr hc => ⟨c, fr, hc, rfl⟩⟩
      · rw [upd_ne _ _ hbd] at ho
        exact ⟨o', ho, rfl, fun c fr hc => ⟨c, fr, hc, rfl⟩⟩
  refine ⟨st1.trans st2, fun b o hb => ?_, hh1.glob.step st2⟩
  by_cases hbd : b = d
  · subst hbd
    rw [upd_same] at hb
    cases hb
    have hx := hh.own b od (hs b od hd)
    unfold HeldH at hx ⊢
    rw [if_neg (by omega)] at hx
    rw [if_neg (by simp; omega)]
    obtain ⟨c, e1, e2, e3, e4⟩ := hx
    refine ⟨c, e1, e2, e3, fun i hi j hj => ?_⟩
    obtain ⟨x, f1, f2, f3⟩ := e4 i hi j hj
    exact ⟨x, f1, f2, (((hf i hi j hj).out w x hh f3).2.2).step st2⟩
  · rw [upd_ne _ _ hbd] at hb
    exact (hh1.own b o hb).step st2 rfl
theorem retell_S {N : Nat} {T : Nat → AV} {h h1 : Hp} {d : Nat} {od : Ob} {f' : Nat → Nat → AV} (hs : Sub h1 h) (hd : h1 d = some od) (h0 : 0 < od.s) (hf : ∀ i, i < od.n → ∀ j, j < od.s → Wk h (od.f i j) h1 (f' i j)) :
    WkS N T h T (upd h1 d (some { od with f := f' })) := fun _ _ a w r => by
  obtain ⟨st, rh⟩ := retell r.heap hs hd h0 hf
  exact ⟨r.size, r.defers, fun i => (r.slots i).step st, rh, r.io, r.stp.trans st⟩
theorem retell_W {h h1 : Hp} {d : Nat} {od : Ob} {f' : Nat → Nat → AV} (x : AV) (hs : Sub h1 h) (hd : h1 d = some od) (h0 : 0 < od.s) (hf : ∀ i, i < od.n → ∀ j, j < od.s → Wk h (od.f i j) h1 (f' i j)) :
    Wk h x (upd h1 d (some { od with f := f' })) x := ⟨fun w u hh hr => by
  obtain ⟨st, rh⟩ := retell hh hs hd h0 hf
  exact ⟨st, rh, hr.step st⟩⟩
theorem upd_twice {α : Type} (T : Nat → α) (d : Nat) (x y : α) : upd (upd T d x) d y = upd T d y := by
  funext i
  by_cases h : i = d <;> simp [upd, h]
/-- A loop that writes the slots D alone; at the end of a round less may be told. -/
theorem X_lpFW {P : Program} {N : Nat} {T : Nat → AV} {h : Hp} {Q : Exit → (Nat → AV) → Hp → Prop} {c : Code} (D : Nat → Prop) (I : Nat → (Nat → AV) → Hp → Prop) (n : Nat) (hi : I n T h)
    (hs : ∀ J', (∀ n T' h' h2, WkS N T' h' T' h2 → (∀ i, ¬ D i → T' i = T i) → I n T' h2 → J' n T' h') → ∀ n T' h', (∀ i, ¬ D i → T' i = T i) → I n T' h' → X P N c T' h' (LpQ J' n Q)) : X P N (.loop c) T h Q :=
  X_lpW (fun n T' h' => (∀ i, ¬ D i → T' i = T i) ∧ I n T' h') n ⟨fun _ _ => rfl, hi⟩ fun J' hJ hW n T' h' ⟨h1, h2⟩ => hs J' (fun n T1 h1 h2 w f i => hW n T1 h1 T1 h2 w ⟨f, i⟩) n T' h' h1 h2
section
variable {P : Program} {N : Nat} {T : Nat → AV} {K : (Nat → AV) → Hp → Prop} {d : Option Tmp} {X Y : Operand} {t e : TypeId} {t' : TypeId} {p : String} {af : Array Edge} {g : Option (Nat × Bool)} {s by_ n : Nat} {z : List Value} {h0 h : Hp} {f : Nat → Nat → AV} {a0 : AV}
/-- 'append(l, x)', the literal a new block, its cells whatever they are. -/
theorem pushN {b : Nat} {ob : Ob} (o : Own h0 h a0 e s n f) (ha : ev T X = a0) (hu : P.underlying t = some (.slice e)) (hz : zeroA P e = some (s, z)) (hb : bytesT P e = some by_) (hd : dOk N d = true)
    (hbk : h b = none) (hy : ev T Y = .row b s 0 1) (h1 : ob.s = s) (h2 : 1 ≤ ob.n) (hm : (n + 1) * by_ ≤ 140737488355328) (hm' : n + 1 ≤ 140737488355328)
    (hK : ∀ a h', Own h0 h' a e s (n + 1) (fun i j => if i < n then f i j else ob.f (i - n) j) → (∀ c oc, h c = some oc → a0 ≠ .row c s 0 n → h' c = some oc) → K (putD T d a) h') : XW P N ⟨d, .call ⟨.builtin .append, #[X, Y], #[t, t]⟩, t', p, af, g⟩ T (upd h b (some ob)) K := by
  subst ha
  refine Own.append (q := ob.f) (o.alloc hbk) hu hz hb hd ?_ hm hm' fun a h' ho hkp => hK a h' ho fun c oc hc hne => hkp c oc (by rw [upd_ne _ _ (ne_free hbk hc).2]; exact hc) hne
  subst h1
  rw [hy]
  simp only [srcA, upd_same]
  rw [if_pos ⟨trivial, trivial, by omega⟩]
  simp
end
/-- A finished slice of kids, seen from a heap that knows one block of nodes more than the base. -/
theorem kids_wk {h0 h1 : Hp} {k : AV} {m : Nat} {f : Nat → Nat → AV} (o : Own h0 h1 k 3 1 m f) (hm : m ≤ 140737488355328) {d : Nat} {od : Ob} (hd : h1 d = some od) (hs : od.s = 5) : Wk h1 k (upd h0 d (some od)) (.sl 1 m f) := by
  refine Own.frozen (e := 3) ⟨fun c oc hc => ?_, ?_⟩ hm
  · by_cases hcd : c = d
    · subst hcd; rw [upd_same] at hc; cases hc; exact hd
    · rw [upd_ne _ _ hcd] at hc; exact o.1 c oc hc
  · rcases o.2 with h2 | ⟨c, oc, h2, h3, h4, h5, h6⟩
    · exact .inl h2
    · refine .inr ⟨c, oc, h2, ?_, h4, h5, h6⟩
      rw [upd_ne _ _ (fun e => by rw [e, hd] at h4; cases h4; omega)]
      exact h3
/-- A slice of nodes whose last one has kids that are finished: from here on it is told by its nodes alone. -/
theorem freeze_last {h0 h1 : Hp} {a : AV} {f : Nat → Nat → AV} {acc : List Nd} {x : Nd} (o : Own h0 h1 a 39 5 (acc.length + 1) f) (hf : ∀ i, i < acc.length → ∀ j, j < 5 → f i j = cellsL cNd acc i j)
    (l0 : f acc.length 0 = I x.op) (l2 : f acc.length 2 = I x.kd) (l3 : f acc.length 3 = I x.n) (l4 : f acc.length 4 = S x.nm)
    (hk : ∀ d od, h1 d = some od → od.s = 5 → h0 d = none → Wk h1 (f acc.length 1) (upd h0 d (some od)) (encL 1 cI x.kids)) :
    ∃ h2, (∀ N T, WkS N T h1 T h2) ∧ (∀ y, Wk h1 y h2 y) ∧ Own h0 h2 a 39 5 (acc ++ [x]).length (cellsL cNd (acc ++ [x])) := by
  rcases o with ⟨hs, ⟨h3, _⟩ | ⟨d, od, rfl, hd0, hd1, p1, p2, p3, p4, p5⟩⟩
  · omega
  have hb : Sub (upd h0 d (some od)) h1 := fun c oc hc => by
    by_cases hcd : c = d
    · subst hcd; rw [upd_same] at hc; cases hc; exact hd1
    · rw [upd_ne _ _ hcd] at hc; exact hs c oc hc
  have hw : ∀ i, i < od.n → ∀ j, j < od.s → Wk h1 (od.f i j) (upd h0 d (some od)) (cellsL cNd (acc ++ [x]) i j) := fun i hi j hj => by
    rw [p3] at hi
    rw [p1] at hj
    rw [p5 i hi j hj]
    by_cases hil : i < acc.length
    · rw [hf i hil j hj]
      have : cellsL cNd (acc ++ [x]) i j = cellsL cNd acc i j := by simp [cellsL, List.getElem?_append_left hil]
      rw [this]
      exact Wk.drop _ hb
    · obtain rfl : i = acc.length := by omega
      have hc : ∀ j, cellsL cNd (acc ++ [x]) acc.length j = (cNd x).getD j .any := fun j => by simp [cellsL]
      rw [hc]
      rcases (show j = 0 ∨ j = 1 ∨ j = 2 ∨ j = 3 ∨ j = 4 by omega) with rfl | rfl | rfl | rfl | rfl
      · rw [l0]; exact Wk.drop _ hb
      · exact hk d od hd1 p1 hd0
      · rw [l2]; exact Wk.drop _ hb
      · rw [l3]; exact Wk.drop _ hb
      · rw [l4]; exact Wk.drop _ hb
  refine ⟨upd (upd h0 d (some od)) d (some { od with f := cellsL cNd (acc ++ [x]) }), fun N T => retell_S hb (upd_same _ _ _) (by omega) hw, fun y => retell_W y hb (upd_same _ _ _) (by omega) hw, ?_⟩
  rw [upd_twice]
  refine ⟨Sub.upd hd0 (Sub.refl _), .inr ⟨d, _, by simp, hd0, upd_same _ _ _, p1, p2, by simp [p3], by simp, fun i hi j hj => rfl⟩⟩
theorem own_cells {h0 h : Hp} {a : AV} {e : TypeId} {s n : Nat} {f : Nat → Nat → AV} (o : Own h0 h a e s n f) : cellsA a = some (1, fun _ => a) := by
  rcases o.2 with ⟨_, h1 | h1⟩ | ⟨b, ob, h1, _⟩ <;> rw [h1] <;> rfl
/-- Kids that may go into a node: a slice of the call's own, or one that nobody writes any more. -/
def Kds (B g : Hp) (k : AV) (ks : List Int) : Prop := Own B g k 3 1 ks.length (cellsL cI ks) ∨ k = encL 1 cI ks
theorem Kds.cells {B g : Hp} {k : AV} {ks : List Int} (o : Kds B g k ks) : cellsA k = some (1, fun _ => k) := by
  rcases o with o | rfl
  · exact own_cells o
  · rfl
section
variable {P : Program} {N : Nat} {T : Nat → AV} {K : (Nat → AV) → Hp → Prop} {d : Option Tmp} {X Y : Operand} {t e : TypeId} {t' : TypeId} {p : String} {af : Array Edge} {gd : Option (Nat × Bool)} {by_ : Nat} {z : List Value} {B g : Hp} {a0 k : AV} {acc : List Nd} {x : Nd}
/-- A node is appended to nodes, its kids finished now: what is told behind it. -/
theorem X_pushK {b : Nat} {ob : Ob} (o5 : Own B g a0 39 5 acc.length (cellsL cNd acc)) (oK : Kds B g k x.kids) (ha : ev T X = a0) (hu : P.underlying t = some (.slice 39)) (hz : zeroA P 39 = some (5, z)) (hb : bytesT P 39 = some by_) (hd : dOk N d = true)
    (hbk : g b = none) (hy : ev T Y = .row b 5 0 1) (h1 : ob.s = 5) (h2 : 1 ≤ ob.n) (f0 : ob.f 0 0 = I x.op) (f1 : ob.f 0 1 = k) (f2 : ob.f 0 2 = I x.kd) (f3 : ob.f 0 3 = I x.n) (f4 : ob.f 0 4 = S x.nm) (hm : (acc.length + 1) * by_ ≤ 140737488355328) (hm' : acc.length + 1 ≤ 140737488355328) (hkl : x.kids.length ≤ 140737488355328)
    (hK : ∀ a h1 h2, (∀ N T, WkS N T h1 T h2) → (∀ y, Wk h1 y h2 y) → Own B h2 a 39 5 (acc ++ [x]).length (cellsL cNd (acc ++ [x])) → K (putD T d a) h1) : XW P N ⟨d, .call ⟨.builtin .append, #[X, Y], #[t, t]⟩, t', p, af, gd⟩ T (upd g b (some ob)) K := by
  obtain ⟨H, oH, sH, kH⟩ := own_hole o5
  refine pushN oH ha hu hz hb hd hbk hy h1 h2 hm hm' fun a h1 ho hkp => ?_
  have o51 := own_up sH ho
  have oK1 : ∀ d od, h1 d = some od → od.s = 5 → B d = none → Wk h1 k (upd B d (some od)) (encL 1 cI x.kids) := fun d od e1 e2 e3 => by
    rcases oK with oK | rfl
    · exact kids_wk (own_keep sH kH ho.1 oK (own_apartT o5 oK (by decide))) hkl e1 e2
    · exact Wk.drop _ fun c oc hc => by
        by_cases hcd : c = d
        · subst hcd; rw [upd_same] at hc; cases hc; exact e1
        · rw [upd_ne _ _ hcd] at hc; exact o51.1 c oc hc
  obtain ⟨h2, w1, w2, w3⟩ := freeze_last (x := x) (acc := acc) o51 (fun i hi j hj => by simp only [hi, if_true]) (by simp [f0]) (by simp [f2]) (by simp [f3]) (by simp [f4]) (fun d od e1 e2 e3 => by simpa [f1] using oK1 d od e1 e2 e3)
  exact hK a h1 h2 w1 w2 w3
end
end Go.Proofs.YtmalhikcdideoaaDoor

set_option linter.unusedVariables false
set_option linter.unusedSimpArgs false
namespace Go.Proofs.YtmalhikcdideoaaDoor
open Go Sl
attribute [local irreducible] XRange LpQ XR XRo XRg XRQ putQ XFv XL XW2 wQ putW X XO XOp XH XHo XW SeqQ BlkQ XOQ XHQ NrmQ XC XM XG XHM XHG XD CallK
open Go.RowKit
/-- What tree.copied appends. -/
def copA (e : List Nd) (out : List Nd) (p : Nat) : List Nd := out ++ (flatT (treeAt e p)).map (shN out.length)
theorem copA_len (e out : List Nd) (p : Nat) : ((copA e out p).length : Int) = out.length + sizeT (treeAt e p) := by
  unfold copA
  rw [List.length_append, List.length_map]
  have := flatT_len (treeAt e p)
  omega
/-- The kids are appended one after the other, then the node. -/
theorem copA_eq {e : List Nd} (hv : Vd e) (out : List Nd) (p : Nat) : copA e out p = (copL (copA e) (ndAt e p).kids out []).1 ++ [{ ndAt e p with kids := (copL (copA e) (ndAt e p).kids out []).2 }] := by
  have h := copL_flat (copA e) (fun q => treeAt e q) (fun o q => rfl) out (ndAt e p).kids [] []
  simp only [List.map_nil, List.append_nil] at h
  rw [h]
  unfold copA
  rw [treeAt_eq hv, flatT, List.map_append, List.append_assoc]
  congr 2
theorem copL_len (e : List Nd) : ∀ (ks : List Int) (out : List Nd) (kids : List Int), ((copL (copA e) ks out kids).1.length : Int) = out.length + sizeL (ks.map fun k => treeAt e k.toNat) ∧ (copL (copA e) ks out kids).2.length = kids.length + ks.length
  | [], out, kids => by rw [copL, List.map_nil, sizeL]; simp
  | k :: r, out, kids => by
    rw [copL, List.map_cons, sizeL]
    obtain ⟨h1, h2⟩ := copL_len e r (copA e out k.toNat) (kids ++ [((copA e out k.toNat).length : Int) - 1])
    have h3 := copA_len e out k.toNat
    refine ⟨by omega, ?_⟩
    rw [h2]
    simp
    omega
set_option maxHeartbeats 4000000 in
theorem copied_ok (e : List Nd) (hv : Vd e) (hk3 : ∀ (i : Nat) (x : Nd), e[i]? = some x → x.kids.length ≤ 3) (p : Nat) (hp : p < e.length) :
    ∀ (h0 h : Hp) (a : AV) (acc : List Nd), Own h0 h a 39 5 acc.length (cellsL cNd acc) → acc.length + sizeT (treeAt e p) ≤ 1000000 →
      CallK Tryd.prog h 70 [a, encL 5 cNd e, I p] fun r h' => Own h0 h' r 39 5 (copA e acc p).length (cellsL cNd (copA e acc p)) := by
  induction p using Nat.strongRecOn with
  | ind p ih =>
    intro h0 h a acc own hb
    obtain ⟨x, hxe⟩ : ∃ x, e[p] = x := ⟨_, rfl⟩
    have hx : e[p]? = some x := by rw [List.getElem?_eq_getElem hp, hxe]
    have hnd : ndAt e p = x := by unfold ndAt; rw [List.getD_eq_getElem?_getD, hx]; rfl
    have hkx := hv.out p x hx
    have hk3' := hk3 p x hx
    have hsz : sizeT (treeAt e p) = sizeL (x.kids.map fun k => treeAt e k.toNat) + 1 := by rw [treeAt_eq hv, sizeT, hnd]
    have hfin := copA_eq hv acc p
    rw [hnd] at hfin
    obtain ⟨R, hR⟩ : ∃ R, copL (copA e) x.kids acc [] = R := ⟨_, rfl⟩
    rw [hR] at hfin
    have hRl := copL_len e x.kids acc []
    rw [hR] at hRl
    rw [hfin]
    have ihk : ∀ k ∈ x.kids, ∀ (h0 h : Hp) (a : AV) (acc : List Nd), Own h0 h a 39 5 acc.length (cellsL cNd acc) → acc.length + sizeT (treeAt e k.toNat) ≤ 1000000 →
        CallK Tryd.prog h 70 [a, encL 5 cNd e, I k] fun r h' => Own h0 h' r 39 5 (copA e acc k.toNat).length (cellsL cNd (copA e acc k.toNat)) := fun k hk => by
      have h1 := hkx k hk
      obtain ⟨m, rfl⟩ : ∃ m : Nat, k = m := ⟨k.toNat, by omega⟩
      rw [Int.toNat_natCast]
      exact ih m (by omega) (by omega)
    clear ih
    refine callK_body Tryd.func70 rfl (by rw [nt70]; simp) ?_; rw [nt70, rs70]
    (repeat' (first | simp [go_sem, X_region, *] | simp (disch := omega) only [om, *] | ((first | refine XC_split ?_ ?_ | refine XG_true ?_ ?_ | refine XG_false ?_ ?_ | refine XRg_true ?_ ?_ | refine XRg_false ?_ ?_) <;> intro hc <;> (try simp only [bl] at hc) <;> (try (exfalso; omega))) | refine XD_w [] [] [] (fun _ => none) mixed (by decide +kernel) (sub_none _) ?_ | fail))
    intro b7 hb7
    have hb70 : h0 b7 = none := sub_none_of own.1 hb7
    (repeat' (first | simp [go_sem, X_region, *] | simp (disch := omega) only [om, *] | ((first | refine XC_split ?_ ?_ | refine XG_true ?_ ?_ | refine XG_false ?_ ?_ | refine XRg_true ?_ ?_ | refine XRg_false ?_ ?_) <;> intro hc <;> (try simp only [bl] at hc) <;> (try (exfalso; omega))) | refine XD_w [] [] [] (fun _ => none) mixed (by decide +kernel) (sub_none _) ?_ | fail))
    have hi5 := fun ob => own_with (oc := ob) own hb7
    refine X_lpF (fun i => i = 0 ∨ i = 8 ∨ i = 10 ∨ (18 ≤ i ∧ i ≤ 32)) (fun n T g => ∃ (j : Nat) (rk : List Int) (out : List Nd) (ks : List Int) (ob : Ob), n = rk.length ∧ j ≤ x.kids.length ∧ x.kids.drop j = rk ∧ copL (copA e) rk out ks = R ∧ T 18 = I j ∧ ks.length = j ∧ (out.length : Int) + sizeL (rk.map fun k => treeAt e k.toNat) + 1 ≤ 1000000 ∧
        Own (upd h0 b7 (some ob)) g (T 0) 39 5 out.length (cellsL cNd out) ∧ Own (upd h0 b7 (some ob)) g (T 8) 3 1 ks.length (cellsL cI ks) ∧ ob.ty = 39 ∧ ob.s = 5 ∧ ob.n = 1 ∧ ob.f 0 0 = I x.op ∧ ob.f 0 2 = I x.kd ∧ ob.f 0 3 = I x.n ∧ ob.f 0 4 = S x.nm) x.kids.length
      ⟨0, x.kids, acc, [], _, rfl, by omega, rfl, hR, by simp [go_sem], rfl, by omega, by simpa [go_sem] using hi5 _, by simp only [go_sem]; exact ⟨(hi5 _).1, .inl ⟨rfl, .inl (by simp [go_sem])⟩⟩, rfl, rfl, rfl, by simp, by simp, by simp, by simp⟩ ?_
    clear hi5
    rintro J hJ n T g hfr ⟨j, rk, out, ks, ob, rfl, hj, hdk, hRk, t18, hks, hbd, own5, ownK, p1, p2, p3, f0, f2, f3, f4⟩
    have e7 : g b7 = some ob := own5.1 b7 _ (upd_same _ _ _)
    rcases rk with _ | ⟨y, rk⟩
    · have hlt := drop_nil hdk
      rw [copL] at hRk
      subst hRk
      have hcK := own_cells ownK
      dsimp only at *
      (repeat' (first | simp [go_sem, X_region, *] | simp (disch := omega) only [om, *] | ((first | refine XC_split ?_ ?_ | refine XG_true ?_ ?_ | refine XG_false ?_ ?_ | refine XRg_true ?_ ?_ | refine XRg_false ?_ ?_) <;> intro hc <;> (try simp only [bl] at hc) <;> (try (exfalso; omega))) | refine XD_w [] [] [] (fun _ => none) mixed (by decide +kernel) (sub_none _) ?_ | fail))
      intro b hn1 hn2 hb
      have w5 := own_other (o2 := ⟨39, 5, 1, fun i' j' => if i' = 0 ∧ 1 ≤ j' ∧ j' < 2 then T 8 else ob.f i' j'⟩) own5 (upd_same _ _ _)
      have wK := own_other (o2 := ⟨39, 5, 1, fun i' j' => if i' = 0 ∧ 1 ≤ j' ∧ j' < 2 then T 8 else ob.f i' j'⟩) ownK (upd_same _ _ _)
      rw [upd_upd] at w5 wK
      refine X_pushK (x := { x with kids := ks }) w5 (.inl wK) (by simp [go_sem]) und42 zr39 by39 (by simp [go_sem]) (by rw [upd_ne _ _ hn1]; exact hb) (by simp [go_sem]) rfl (Nat.le_refl _) (by simp [f0]) (by simp) (by simp [f2]) (by simp [f3]) (by simp [f4]) (by omega) (by omega) (show ks.length ≤ 140737488355328 by omega) fun a1 h1 h2 w1 w2 w3 => ?_
      (repeat' (first | simp [go_sem, X_region, *] | simp (disch := omega) only [om, *] | ((first | refine XC_split ?_ ?_ | refine XG_true ?_ ?_ | refine XG_false ?_ ?_ | refine XRg_true ?_ ?_ | refine XRg_false ?_ ?_) <;> intro hc <;> (try simp only [bl] at hc) <;> (try (exfalso; omega))) | refine XD_w [] [] [] (fun _ => none) mixed (by decide +kernel) (sub_none _) ?_ | fail))
      exact ⟨_, h2, w2 _, by simpa only [List.length_append, List.length_singleton] using own_up (Sub.upd hb70 (Sub.refl _)) w3⟩
    · obtain ⟨hlt, hxk, hdk2⟩ := drop_cons hdk
      have hcall := ihk y (by rw [← hxk]; exact List.getElem_mem hlt)
      rw [List.map_cons, sizeL] at hbd
      have hrp := sizeL_pos (rk.map fun k => treeAt e k.toNat)
      have hcl := (copA_len e out y.toNat).symm
      have htp := sizeT_pos (treeAt e y.toNat)
      rw [copL] at hRk
      (repeat' (first | simp [go_sem, X_region, *] | simp (disch := omega) only [om, *] | ((first | refine XC_split ?_ ?_ | refine XG_true ?_ ?_ | refine XG_false ?_ ?_ | refine XRg_true ?_ ?_ | refine XRg_false ?_ ?_) <;> intro hc <;> (try simp only [bl] at hc) <;> (try (exfalso; omega))) | refine XD_w [] [] [] (fun _ => none) mixed (by decide +kernel) (sub_none _) ?_ | fail))
      obtain ⟨H, oH, sH, kH⟩ := own_hole own5
      refine (hcall _ _ _ out oH (by omega)).mono fun r g1 o1 => ?_
      have own51 := own_up sH o1
      have ownK1 := own_keep sH kH o1.1 ownK (own_apartT own5 ownK (by decide))
      clear hcall o1 kH sH oH H
      generalize copA e out y.toNat = out2 at *
      obtain ⟨d5, rfl⟩ := own_row own51 (by omega)
      (repeat' (first | simp [go_sem, X_region, *] | simp (disch := omega) only [om, *] | ((first | refine XC_split ?_ ?_ | refine XG_true ?_ ?_ | refine XG_false ?_ ?_ | refine XRg_true ?_ ?_ | refine XRg_false ?_ ?_) <;> intro hc <;> (try simp only [bl] at hc) <;> (try (exfalso; omega))) | refine XD_w [] [] [] (fun _ => none) mixed (by decide +kernel) (sub_none _) ?_ | fail))
      intro bl hbl
      obtain ⟨HK, oHK, sHK, kHK⟩ := own_hole ownK1
      refine Own.push (x := (out2.length : Int) - 1) (enc := cI) oHK (by simp [go_sem]) und37 zr3 by3 (by simp [go_sem]) hbl (by simp [go_sem]) rfl (Nat.le_refl _) (by simp [go_sem]) (by omega) (by omega) fun a1 h1 hown1 hk1 => ?_
      have own52 := own_keep sHK kHK hown1.1 own51 (own_apartT ownK1 own51 (by decide))
      have ownK2 := own_up sHK hown1
      (repeat' (first | simp [go_sem, X_region, *] | simp (disch := omega) only [om, *] | ((first | refine XC_split ?_ ?_ | refine XG_true ?_ ?_ | refine XG_false ?_ ?_ | refine XRg_true ?_ ?_ | refine XRg_false ?_ ?_) <;> intro hc <;> (try simp only [bl] at hc) <;> (try (exfalso; omega))) | refine XD_w [] [] [] (fun _ => none) mixed (by decide +kernel) (sub_none _) ?_ | fail))
      exact ⟨_, Nat.lt_succ_self _, hJ.out _ _ _ ⟨(by (repeat (refine fr_upd (by decide) ?_)); exact hfr), j + 1, rk, out2, ks ++ [(out2.length : Int) - 1], ob, rfl, by omega, hdk2, hRk, by simp [go_sem], by simp [hks], by omega, by simpa [go_sem] using own52, by simpa [go_sem] using ownK2, p1, p2, p3, f0, f2, f3, f4⟩⟩
/-- What tree.Cut answers. -/
def cutF (e : List Nd) (p : Int) : List Nd := if chkE (oneE nameF) e = 0 ∧ 0 ≤ p ∧ p < e.length then flatT (treeAt e p.toNat) else []
theorem copA_nil (e : List Nd) (p : Nat) : copA e [] p = flatT (treeAt e p) := by
  unfold copA
  rw [List.nil_append]
  have : (shN ((([] : List Nd).length : Nat) : Int)) = id := funext fun x => shN_zero x
  rw [this, List.map_id]
/-- What is known of a valid expression. -/
theorem chk_facts {e : List Nd} (q : chkE (oneE nameF) e = 0) : e.length ≤ 100 ∧ 0 < e.length ∧ Vd e ∧ (∀ (i : Nat) (x : Nd), e[i]? = some x → x.kids.length ≤ 3) ∧ ∀ p, p < e.length → sizeT (treeAt e p) ≤ p + 1 := by
  obtain ⟨a1, a2, a3⟩ := valid_facts (by rw [tree_chk]; exact q)
  have hv : Vd e := ⟨fun i x hx => (a3 i x hx).1⟩
  exact ⟨a1, List.length_pos_iff.2 a2, hv, fun i x hx => by have := (a3 i x hx).2.1; have := ar_le x.op; omega, chk_size (oneE nameF) e hv q⟩
theorem cut_ok (e : List Nd) (p : Int) (hn : ∀ x ∈ e, x.nm.size ≤ 140737488355328) (hel : e.length ≤ 1000000000) : Pure Tryd.prog 33 [encL 5 cNd e, I p] (encL 5 cNd (cutF e p)) := by
  have hc := tcheck_ok e hn
  unfold cutF
  by_cases q : chkE (oneE nameF) e = 0
  case neg =>
    rw [if_neg (fun h => q h.1)]
    generalize chkE (oneE nameF) e = c at *
    intro h; refine callK_body Tryd.func33 rfl (by rw [nt33]; simp) ?_; rw [nt33, rs33]
    (repeat' (first | simp [go_sem, X_region, *] | simp (disch := omega) only [om, *] | ((first | refine XC_split ?_ ?_ | refine XG_true ?_ ?_ | refine XG_false ?_ ?_ | refine XRg_true ?_ ?_ | refine XRg_false ?_ ?_) <;> intro hc <;> (try simp only [bl] at hc) <;> (try (exfalso; omega))) | refine XD_w [] [] [] (fun _ => none) mixed (by decide +kernel) (sub_none _) ?_ | refine Pure.call (hc) ?_ | refine ⟨_, Pure.at (hc), ?_⟩ | refine ⟨_, hc, ?_⟩ | refine PureAt.call (hc) ?_ | fail))
    exact Wk.nil
  by_cases q2 : 0 ≤ p ∧ p < e.length
  case neg =>
    rw [if_neg (fun h => q2 h.2)]
    rw [q] at hc
    intro h; refine callK_body Tryd.func33 rfl (by rw [nt33]; simp) ?_; rw [nt33, rs33]
    (repeat' (first | simp [go_sem, X_region, *] | simp (disch := omega) only [om, *] | ((first | refine XC_split ?_ ?_ | refine XG_true ?_ ?_ | refine XG_false ?_ ?_ | refine XRg_true ?_ ?_ | refine XRg_false ?_ ?_) <;> intro hc <;> (try simp only [bl] at hc) <;> (try (exfalso; omega))) | refine XD_w [] [] [] (fun _ => none) mixed (by decide +kernel) (sub_none _) ?_ | refine Pure.call (hc) ?_ | refine ⟨_, Pure.at (hc), ?_⟩ | refine ⟨_, hc, ?_⟩ | refine PureAt.call (hc) ?_ | fail))
    all_goals first | exact Wk.nil | (exfalso; omega)
  rw [if_pos ⟨q, q2⟩]
  obtain ⟨a1, a2, hv, hk3, hsz⟩ := chk_facts q
  rw [q] at hc
  obtain ⟨m, rfl⟩ : ∃ m : Nat, p = m := ⟨p.toNat, by omega⟩
  rw [Int.toNat_natCast]
  have hm := hsz m (by omega)
  have hcp := fun h : Hp => copied_ok e hv hk3 m (by omega) h h _ [] Own.none (by simp; omega)
  have hfl := flatT_len (treeAt e m)
  rw [copA_nil] at hcp
  generalize flatT (treeAt e m) = R at *
  intro h; refine callK_body Tryd.func33 rfl (by rw [nt33]; simp) ?_; rw [nt33, rs33]
  (repeat' (first | simp [go_sem, X_region, *] | simp (disch := omega) only [om, *] | ((first | refine XC_split ?_ ?_ | refine XG_true ?_ ?_ | refine XG_false ?_ ?_ | refine XRg_true ?_ ?_ | refine XRg_false ?_ ?_) <;> intro hc <;> (try simp only [bl] at hc) <;> (try (exfalso; omega))) | refine XD_w [] [] [] (fun _ => none) mixed (by decide +kernel) (sub_none _) ?_ | refine Pure.call (hc) ?_ | refine ⟨_, Pure.at (hc), ?_⟩ | refine ⟨_, hc, ?_⟩ | refine PureAt.call (hc) ?_ | fail))
  refine (hcp h).mono fun r g o => ?_
  (repeat' (first | simp [go_sem, X_region, *] | simp (disch := omega) only [om, *] | ((first | refine XC_split ?_ ?_ | refine XG_true ?_ ?_ | refine XG_false ?_ ?_ | refine XRg_true ?_ ?_ | refine XRg_false ?_ ?_) <;> intro hc <;> (try simp only [bl] at hc) <;> (try (exfalso; omega))) | refine XD_w [] [] [] (fun _ => none) mixed (by decide +kernel) (sub_none _) ?_ | fail))
  exact o.frozen (by omega)
theorem norm_ok (e : List Nd) (hn : ∀ x ∈ e, x.nm.size ≤ 140737488355328) (hel : e.length ≤ 1000000000) : Pure Tryd.prog 27 [encL 5 cNd e] (encL 5 cNd (cutF e (e.length - 1))) := by
  have hc := cut_ok e (e.length - 1) hn hel
  generalize cutF e (e.length - 1) = R at *
  intro h; refine callK_body Tryd.func27 rfl (by rw [nt27]; simp) ?_; rw [nt27, rs27]
  (repeat' (first | simp [go_sem, X_region, *] | simp (disch := omega) only [om, *] | ((first | refine XC_split ?_ ?_ | refine XG_true ?_ ?_ | refine XG_false ?_ ?_ | refine XRg_true ?_ ?_ | refine XRg_false ?_ ?_) <;> intro hc <;> (try simp only [bl] at hc) <;> (try (exfalso; omega))) | refine XD_w [] [] [] (fun _ => none) mixed (by decide +kernel) (sub_none _) ?_ | refine Pure.call (hc) ?_ | refine ⟨_, Pure.at (hc), ?_⟩ | refine ⟨_, hc, ?_⟩ | refine PureAt.call (hc) ?_ | fail))
end Go.Proofs.YtmalhikcdideoaaDoor

namespace Go.Proofs
open Go.Shelf
def Tryd.lays2n15_ren : Go.Shelf.Ren := ⟨fun | 15 => 61 | n => n, fun | 22 => 37 | 3 => 3 | 4 => 4 | n => n, fun | n => n⟩
theorem Tryd.lays2n15 : Go.Proofs.Lays2.n15 Tryd.prog Tryd.lays2n15_ren := {
  mixed := by kernel_rfl
  f15 := Tryd.func61.trans (congrArg some (by kernel_rfl))
  t3 := Tryd.underlying3
  a3 := Tryd.isAgg3
  z3 := Tryd.sizeOf3
  v3 := Tryd.zeroValue3
  t4 := Tryd.underlying4
  a4 := Tryd.isAgg4
  z4 := Tryd.sizeOf4
  v4 := Tryd.zeroValue4
  t22 := Tryd.underlying37
  a22 := Tryd.isAgg37
  z22 := Tryd.sizeOf37
  v22 := Tryd.zeroValue37
  i3 := by kernel_rfl }
end Go.Proofs

set_option linter.unusedVariables false
set_option linter.unusedSimpArgs false
namespace Go.Proofs.YtmalhikcdideoaaDoor
open Go Sl
attribute [local irreducible] XRange LpQ XR XRo XRg XRQ putQ XFv XL XW2 wQ putW X XO XOp XH XHo XW SeqQ BlkQ XOQ XHQ NrmQ XC XM XG XHM XHG XD CallK
open Go.RowKit
@[go_sem] theorem lit1_op : lit1.op = 0 := rfl
@[go_sem] theorem lit1_kids : lit1.kids = [] := rfl
@[go_sem] theorem lit1_kd : lit1.kd = 5 := rfl
@[go_sem] theorem lit1_n : lit1.n = 1 := rfl
@[go_sem] theorem lit1_nm : lit1.nm = ⟨#[]⟩ := rfl
theorem lit1_chk : chkE (oneE nameF) [lit1] = 0 := by
  have h1 : oneE nameF lit1 0 = 0 := by
    simp [oneE, lit1, ar, namedB, checkV, lo, hi]
  have hk : lit1.kids = [] := rfl
  simp [chkE, nodesF, h1, useF, hk]
theorem copied_lit : Pure Tryd.prog 70 [.v (.slice none 0 0), encL 5 cNd [lit1], I 0] (encL 5 cNd [lit1]) := by
  have hx : ([lit1] : List Nd)[0]? = some lit1 := rfl
  intro h
  refine callK_body Tryd.func70 rfl (by rw [nt70]; simp) ?_; rw [nt70, rs70]
  (repeat' (first | simp [go_sem, X_region, *] | simp (disch := omega) only [om, *] | ((first | refine XC_split ?_ ?_ | refine XG_true ?_ ?_ | refine XG_false ?_ ?_ | refine XRg_true ?_ ?_ | refine XRg_false ?_ ?_) <;> intro hc <;> (try simp only [bl] at hc) <;> (try (exfalso; omega))) | refine XD_w [] [] [] (fun _ => none) mixed (by decide +kernel) (sub_none _) ?_ | fail))
  intro b7 hb7
  (repeat' (first | simp [go_sem, X_region, *] | simp (disch := omega) only [om, *] | ((first | refine XC_split ?_ ?_ | refine XG_true ?_ ?_ | refine XG_false ?_ ?_ | refine XRg_true ?_ ?_ | refine XRg_false ?_ ?_) <;> intro hc <;> (try simp only [bl] at hc) <;> (try (exfalso; omega))) | refine XD_w [] [] [] (fun _ => none) mixed (by decide +kernel) (sub_none _) ?_ | fail))
  refine X_lpF (fun i => i = 0 ∨ i = 8 ∨ i = 10 ∨ (18 ≤ i ∧ i ≤ 32)) (fun n T g => ∃ ob : Ob, T 18 = I 0 ∧ T 8 = .v (.slice none 0 0) ∧ T 0 = .v (.slice none 0 0) ∧ g = upd h b7 (some ob) ∧ ob.ty = 39 ∧ ob.s = 5 ∧ ob.n = 1 ∧ ob.f 0 0 = I 0 ∧ ob.f 0 2 = I 5 ∧ ob.f 0 3 = I 1 ∧ ob.f 0 4 = S ⟨#[]⟩) 0
    ⟨_, by simp [go_sem], by simp [go_sem], by simp [go_sem], rfl, rfl, rfl, rfl, by simp [lit1], by simp [lit1], by simp [lit1], by simp [lit1]⟩ ?_
  rintro J hJ n T g hfr ⟨ob, t18, t8, t0, rfl, p1, p2, p3, f0, f2, f3, f4⟩
  (repeat' (first | simp [go_sem, X_region, *] | simp (disch := omega) only [om, *] | ((first | refine XC_split ?_ ?_ | refine XG_true ?_ ?_ | refine XG_false ?_ ?_ | refine XRg_true ?_ ?_ | refine XRg_false ?_ ?_) <;> intro hc <;> (try simp only [bl] at hc) <;> (try (exfalso; omega))) | refine XD_w [] [] [] (fun _ => none) mixed (by decide +kernel) (sub_none _) ?_ | fail))
  intro b hn1 hn2 hb
  refine OwnD.push (x := lit1) (enc := cNd) (l := []) (f := fun _ _ => .any) (hk := h) (h0 := h) ⟨Sub.upd hb7 (Sub.refl _), .inl ⟨rfl, .inl rfl⟩⟩ (Sub.refl _) (fun i hi => absurd hi (Nat.not_lt_zero _)) (by simp [go_sem]) und42 zr39 by39 (by simp [go_sem]) (by rw [upd_ne _ _ hn1]; exact hb) (by simp [go_sem]) rfl (Nat.le_refl _) (fun q hq => ?_) (by simp) (by simp) fun a' g9 own9 hk9 => ?_
  · rcases (show q = 0 ∨ q = 1 ∨ q = 2 ∨ q = 3 ∨ q = 4 by omega) with rfl | rfl | rfl | rfl | rfl
    · exact Wk.refl _ _
    · exact Wk.nil
    · exact Wk.refl _ _
    · exact Wk.refl _ _
    · exact Wk.refl _ _
  · (repeat' (first | simp [go_sem, X_region, *] | simp (disch := omega) only [om, *] | ((first | refine XC_split ?_ ?_ | refine XG_true ?_ ?_ | refine XG_false ?_ ?_ | refine XRg_true ?_ ?_ | refine XRg_false ?_ ?_) <;> intro hc <;> (try simp only [bl] at hc) <;> (try (exfalso; omega))) | refine XD_w [] [] [] (fun _ => none) mixed (by decide +kernel) (sub_none _) ?_ | fail))
    exact own9.frozen (by simp)
theorem norm_lit : Pure Tryd.prog 27 [encL 5 cNd [lit1]] (encL 5 cNd [lit1]) := by
  have hc := tcheck_ok [lit1] fun x hx => by rw [List.mem_singleton.1 hx]; decide
  rw [lit1_chk] at hc
  have hcut : Pure Tryd.prog 33 [encL 5 cNd [lit1], I 0] (encL 5 cNd [lit1]) := by
    intro h
    refine callK_body Tryd.func33 rfl (by rw [nt33]; simp) ?_; rw [nt33, rs33]
    (repeat' (first | simp [go_sem, X_region, *] | simp (disch := omega) only [om, *] | ((first | refine XC_split ?_ ?_ | refine XG_true ?_ ?_ | refine XG_false ?_ ?_ | refine XRg_true ?_ ?_ | refine XRg_false ?_ ?_) <;> intro hc <;> (try simp only [bl] at hc) <;> (try (exfalso; omega))) | refine XD_w [] [] [] (fun _ => none) mixed (by decide +kernel) (sub_none _) ?_ | refine Pure.call (hc) ?_ | refine ⟨_, Pure.at (hc), ?_⟩ | refine ⟨_, hc, ?_⟩ | refine PureAt.call (hc) ?_ | refine Pure.call (copied_lit) ?_ | refine ⟨_, Pure.at (copied_lit), ?_⟩ | refine ⟨_, copied_lit, ?_⟩ | refine PureAt.call (copied_lit) ?_ | fail))
  intro h
  refine callK_body Tryd.func27 rfl (by rw [nt27]; simp) ?_; rw [nt27, rs27]
  (repeat' (first | simp [go_sem, X_region, *] | simp (disch := omega) only [om, *] | ((first | refine XC_split ?_ ?_ | refine XG_true ?_ ?_ | refine XG_false ?_ ?_ | refine XRg_true ?_ ?_ | refine XRg_false ?_ ?_) <;> intro hc <;> (try simp only [bl] at hc) <;> (try (exfalso; omega))) | refine XD_w [] [] [] (fun _ => none) mixed (by decide +kernel) (sub_none _) ?_ | refine Pure.call (hcut) ?_ | refine ⟨_, Pure.at (hcut), ?_⟩ | refine ⟨_, hcut, ?_⟩ | refine PureAt.call (hcut) ?_ | fail))
theorem clone_0 (f f' : Nat → Nat → AV) : Pure Tryd.prog 61 [.sl 1 0 f] (.sl 1 0 f') := by
  intro h
  unfold CallK
  intro w vals hh ha
  obtain ⟨u, rfl, A, c, rfl, _⟩ := vals_a ha
  have fin : ∀ (w' : World) (A' : Option Addr) (c' : Nat), Rd w' h (.sl 1 0 f') (.slice A' 0 c') := fun w' A' c' => ⟨A', c', rfl, Nat.zero_le _, by decide, fun h0 => absurd h0 (Nat.lt_irrefl _)⟩
  cases A with
  | none =>
    refine (Any.slices_Clone_int_nil Tryd.lays2n15 0 c w).mono ?_
    rintro e w' ⟨rfl, rfl⟩
    exact ⟨_, _, h, rfl, ⟨rfl, rfl⟩, fin _ _ _, hh, ⟨rfl, rfl, rfl⟩, Stp.refl _ _⟩
  | some a =>
    refine (Any.slices_Clone_int_zero Tryd.lays2n15 a c w).mono ?_
    rintro e w' ⟨v', rfl, ⟨_, hown⟩, _, hbel⟩
    have hv : ∃ A' c', v' = .slice A' 0 c' := by
      rcases hown with ⟨e1, _⟩ | ⟨g, cap, cur, e1, _⟩
      · exact ⟨_, _, e1⟩
      · exact ⟨_, _, e1⟩
    obtain ⟨A', c', rfl⟩ := hv
    exact ⟨_, _, h, rfl, ⟨rfl, rfl⟩, fin _ _ _, hh.grow hbel.size hbel.block, ⟨hbel.os, hbel.tape, hbel.output⟩, Stp.grow hh hbel.size hbel.block⟩
@[go_sem] def cE (k : List Nd) : List AV := [encL 5 cNd k]
def addN : Nd := ⟨10, [], 0, 0, ⟨#[]⟩⟩
@[go_sem] theorem addN_op : addN.op = 10 := rfl
@[go_sem] theorem addN_kids : addN.kids = [] := rfl
@[go_sem] theorem addN_kd : addN.kd = 0 := rfl
@[go_sem] theorem addN_n : addN.n = 0 := rfl
@[go_sem] theorem addN_nm : addN.nm = ⟨#[]⟩ := rfl
def sumE : List Nd := [lit1, lit1, ⟨10, [0, 1], 0, 0, ⟨#[]⟩⟩]
theorem sum_chk : chkE (oneE nameF) sumE = 0 := by
  have h1 : ∀ i, oneE nameF lit1 i = 0 := fun i => by
    simp [oneE, lit1, ar, namedB, checkV, lo, hi]
  have h2 : oneE nameF ⟨10, [0, 1], 0, 0, ⟨#[]⟩⟩ 2 = 0 := by
    simp [oneE, ar, namedB]
  simp [chkE, sumE, nodesF, h1, h2, useF, lit1_kids]
theorem lend_wk {h h1 : Hp} {a b : AV} (x : Wk h a h1 b) : Lend h a b := fun w u hh hr => ((x.out w u hh hr).2.2).step (stp_forget (sub_none _))
set_option maxHeartbeats 4000000 in
theorem join_lit : Pure Tryd.prog 22 [aggL [I 10, .v (.slice none 0 0), I 0, I 0, S ⟨#[]⟩], encL 1 cE [[lit1], [lit1]]] (encL 5 cNd sumE) := by
  have hc1 := tcheck_ok [lit1] fun x hx => by rw [List.mem_singleton.1 hx]; decide
  rw [lit1_chk] at hc1
  have hc2 := tcheck_ok sumE fun x hx => by
    rcases List.mem_cons.1 hx with rfl | hx
    · decide
    · rcases List.mem_cons.1 hx with rfl | hx
      · decide
      · rw [List.mem_singleton.1 hx]; decide
  rw [sum_chk] at hc2
  have hn := norm_lit
  intro h
  refine callK_body Tryd.func22 rfl (by rw [nt22]; simp) ?_; rw [nt22, rs22]
  (repeat' (first | simp [go_sem, X_region, *] | simp (disch := omega) only [om, *] | ((first | refine XC_split ?_ ?_ | refine XG_true ?_ ?_ | refine XG_false ?_ ?_ | refine XRg_true ?_ ?_ | refine XRg_false ?_ ?_) <;> intro hc <;> (try simp only [bl] at hc) <;> (try (exfalso; omega))) | refine XD_w [] [] [] (fun _ => none) mixed (by decide +kernel) (sub_none _) ?_ | fail))
  intro b2 hb2
  refine X_lpF (fun i => (4 ≤ i ∧ i ≤ 5) ∨ (7 ≤ i ∧ i ≤ 8) ∨ (10 ≤ i ∧ i ≤ 11) ∨ (15 ≤ i ∧ i ≤ 63)) (fun n T g => ∃ (i : Nat) (ob2 : Ob) (ka : AV), n = 2 - i ∧ i ≤ 2 ∧ T 15 = I i ∧
      Own (upd h b2 (some ob2)) g (T 5) 39 5 i (cellsL cNd (List.replicate i lit1)) ∧ Own (upd h b2 (some ob2)) g ka 3 1 i (cellsL cI ((List.range i).map fun k : Nat => (k : Int))) ∧ ob2.ty = 39 ∧ ob2.s = 5 ∧ ob2.n = 1 ∧ ob2.f 0 0 = I 10 ∧ ob2.f 0 1 = ka ∧ ob2.f 0 2 = I 0 ∧ ob2.f 0 3 = I 0 ∧ ob2.f 0 4 = S ⟨#[]⟩ ∧ (i = 0 → T 5 = .v (.slice none 0 0) ∧ ka = .v (.slice none 0 0))) 2
    ⟨0, _, .v (.slice none 0 0), rfl, by omega, by simp [go_sem], by simpa [go_sem] using Own.none, by simpa [go_sem] using Own.none, rfl, rfl, rfl, by simp [go_sem], by simp [go_sem], by simp [go_sem], by simp [go_sem], by simp [go_sem], fun _ => ⟨by simp [go_sem], rfl⟩⟩ ?_
  rintro J hJ n T g hfr ⟨i, ob2, ka, rfl, hi, t15, own5, ownK, p1, p2, p3, f0, f1, f2, f3, f4, hz⟩
  have e2 : g b2 = some ob2 := own5.1 b2 _ (upd_same _ _ _)
  rcases (show i = 0 ∨ i = 1 ∨ i = 2 by omega) with rfl | rfl | rfl
  · have t5 := (hz rfl).1
    (repeat' (first | simp [go_sem, X_region, *] | simp (disch := omega) only [om, *] | ((first | refine XC_split ?_ ?_ | refine XG_true ?_ ?_ | refine XG_false ?_ ?_ | refine XRg_true ?_ ?_ | refine XRg_false ?_ ?_) <;> intro hc <;> (try simp only [bl] at hc) <;> (try (exfalso; omega))) | refine XD_w [] [] [] (fun _ => none) mixed (by decide +kernel) (sub_none _) ?_ | refine Pure.call (hc1) ?_ | refine ⟨_, Pure.at (hc1), ?_⟩ | refine ⟨_, hc1, ?_⟩ | refine PureAt.call (hc1) ?_ | refine Pure.call (hn) ?_ | refine ⟨_, Pure.at (hn), ?_⟩ | refine ⟨_, hn, ?_⟩ | refine PureAt.call (hn) ?_ | fail))
    refine X_lpF (fun i => i = 5 ∨ (10 ≤ i ∧ i ≤ 11) ∨ (27 ≤ i ∧ i ≤ 54)) (fun n T g => ∃ (j : Nat), n = 1 - j ∧ j ≤ 1 ∧ T 27 = I j ∧ Own (upd h b2 (some ob2)) g (T 5) 39 5 (0 + j) (cellsL cNd (List.replicate (0 + j) lit1)) ∧ Own (upd h b2 (some ob2)) g ka 3 1 0 (cellsL cI ((List.range 0).map fun k : Nat => (k : Int)))) 1
      ⟨0, rfl, by omega, by simp [go_sem], by simpa [go_sem] using own5, by simpa [go_sem] using ownK⟩ ?_
    clear own5 ownK e2 t5
    rintro J2 hJ2 n2 T2 g2 hfr2 ⟨j, rfl, hj, t27, own5, ownK⟩
    have e2 : g2 b2 = some ob2 := own5.1 b2 _ (upd_same _ _ _)
    rcases (show j = 0 ∨ j = 1 by omega) with rfl | rfl
    · (repeat' (first | simp [go_sem, X_region, *] | simp (disch := omega) only [om, *] | ((first | refine XC_split ?_ ?_ | refine XG_true ?_ ?_ | refine XG_false ?_ ?_ | refine XRg_true ?_ ?_ | refine XRg_false ?_ ?_) <;> intro hc <;> (try simp only [bl] at hc) <;> (try (exfalso; omega))) | refine XD_w [] [] [] (fun _ => none) mixed (by decide +kernel) (sub_none _) ?_ | fail))
      intro b10 hb10
      have m2 := ne_free hb10 e2
      have hcl := clone_0 (cellsL cI []) (cellsL cI [])
      (repeat' (first | simp [go_sem, X_region, *] | simp (disch := omega) only [om, *] | ((first | refine XC_split ?_ ?_ | refine XG_true ?_ ?_ | refine XG_false ?_ ?_ | refine XRg_true ?_ ?_ | refine XRg_false ?_ ?_) <;> intro hc <;> (try simp only [bl] at hc) <;> (try (exfalso; omega))) | refine XD_w [] [] [] (fun _ => none) mixed (by decide +kernel) (sub_none _) ?_ | refine Pure.call (hcl) ?_ | refine ⟨_, Pure.at (hcl), ?_⟩ | refine ⟨_, hcl, ?_⟩ | refine PureAt.call (hcl) ?_ | fail))
      refine X_lpH (fun i => i = 11 ∨ (38 ≤ i ∧ i ≤ 49)) (fun hE n T g => T 38 = I 0 ∧ g = hE) 0 ⟨by simp [go_sem], rfl⟩ ?_
      rintro hE hEq J3 hJ3 n3 T3 g3 hfr3 ⟨t38, rfl⟩
      obtain ⟨ob10, hob, q1, q2, q3, u0, u1, u2, u3, u4⟩ : ∃ ob10 : Ob, g3 = upd g2 b10 (some ob10) ∧ ob10.ty = 39 ∧ ob10.s = 5 ∧ ob10.n = 1 ∧ ob10.f 0 0 = I 0 ∧ ob10.f 0 1 = AV.sl 1 0 (cellsL cI []) ∧ ob10.f 0 2 = I 5 ∧ ob10.f 0 3 = I 1 ∧ ob10.f 0 4 = S ⟨#[]⟩ := ⟨_, hEq.symm, rfl, rfl, rfl, by simp, by simp, by simp, by simp, by simp⟩
      clear hEq
      subst hob
      have own5' : Own (upd h b2 (some ob2)) (upd g2 b10 (some ob10)) (T2 5) 39 5 (List.replicate 0 lit1).length (cellsL cNd (List.replicate 0 lit1)) := own5.alloc hb10
      have ownK' := ownK.alloc (ob := ob10) hb10
      (repeat' (first | simp [go_sem, X_region, *] | simp (disch := omega) only [om, *] | ((first | refine XC_split ?_ ?_ | refine XG_true ?_ ?_ | refine XG_false ?_ ?_ | refine XRg_true ?_ ?_ | refine XRg_false ?_ ?_) <;> intro hc <;> (try simp only [bl] at hc) <;> (try (exfalso; omega))) | refine XD_w [] [] [] (fun _ => none) mixed (by decide +kernel) (sub_none _) ?_ | fail))
      intro bl hl1 hl2 hbl
      obtain ⟨H, oH, sH, kH⟩ := own_hole own5'
      refine Own.push (x := lit1) (enc := cNd) oH (by simp [go_sem]) und42 zr39 by39 (by simp [go_sem]) (by rw [upd_ne _ _ hl1]; exact hbl) (by simp [go_sem]) rfl (Nat.le_refl _) (by simp [go_sem]) (by decide) (by decide) fun a1 h1 hown1 hk1 => ?_
      have ownK2 := own_keep sH kH hown1.1 ownK' (own_apartT own5' ownK' (by decide))
      have own52 : Own (upd h b2 (some ob2)) h1 a1 39 5 (0 + 1) (cellsL cNd (List.replicate (0 + 1) lit1)) := own_up sH hown1
      (repeat' (first | simp [go_sem, X_region, *] | simp (disch := omega) only [om, *] | ((first | refine XC_split ?_ ?_ | refine XG_true ?_ ?_ | refine XG_false ?_ ?_ | refine XRg_true ?_ ?_ | refine XRg_false ?_ ?_) <;> intro hc <;> (try simp only [bl] at hc) <;> (try (exfalso; omega))) | refine XD_w [] [] [] (fun _ => none) mixed (by decide +kernel) (sub_none _) ?_ | fail))
      refine hJ2.out _ _ _ ⟨?_, 1, rfl, by omega, by simp [go_sem], by simpa [go_sem] using own52, ownK2⟩
      repeat (refine fr_upd (by decide) ?_)
      refine fr_in (by intro i; omega) hfr3 ?_
      repeat (refine fr_upd (by decide) ?_)
      exact hfr2
    · obtain ⟨d5, t5⟩ := own_row own5 (by decide)
      have ownKx : Own (upd h b2 (some ob2)) g2 ka 3 1 ((List.range 0).map fun k : Nat => (k : Int)).length (cellsL cI ((List.range 0).map fun k : Nat => (k : Int))) := ownK
      (repeat' (first | simp [go_sem, X_region, *] | simp (disch := omega) only [om, *] | ((first | refine XC_split ?_ ?_ | refine XG_true ?_ ?_ | refine XG_false ?_ ?_ | refine XRg_true ?_ ?_ | refine XRg_false ?_ ?_) <;> intro hc <;> (try simp only [bl] at hc) <;> (try (exfalso; omega))) | refine XD_w [] [] [] (fun _ => none) mixed (by decide +kernel) (sub_none _) ?_ | fail))
      intro bl hbl
      obtain ⟨H, oH, sH, kH⟩ := own_hole ownKx
      refine Own.push (x := (0 : Int)) (enc := cI) oH (by simp [go_sem, *]) und37 zr3 by3 (by simp [go_sem]) hbl (by simp [go_sem]) rfl (Nat.le_refl _) (by simp [go_sem]) (by decide) (by decide) fun a1 h1 hown1 hk1 => ?_
      have own52 := own_keep sH kH hown1.1 own5 (own_apartT ownKx own5 (by decide))
      have ownK2 := own_up sH hown1
      obtain ⟨dk, rfl⟩ : ∃ dk, a1 = .row dk 1 0 (0 + 1) := own_row ownK2 (by decide)
      have e22 : h1 b2 = some ob2 := own52.1 b2 _ (upd_same _ _ _)
      (repeat' (first | simp [go_sem, X_region, *] | simp (disch := omega) only [om, *] | ((first | refine XC_split ?_ ?_ | refine XG_true ?_ ?_ | refine XG_false ?_ ?_ | refine XRg_true ?_ ?_ | refine XRg_false ?_ ?_) <;> intro hc <;> (try simp only [bl] at hc) <;> (try (exfalso; omega))) | refine XD_w [] [] [] (fun _ => none) mixed (by decide +kernel) (sub_none _) ?_ | fail))
      have w5 := own_other (o2 := ⟨39, 5, 1, fun i' j' => if i' = 0 ∧ 1 ≤ j' ∧ j' < 2 then AV.row dk 1 0 (0 + 1) else ob2.f i' j'⟩) own52 (upd_same _ _ _)
      have wK := own_other (o2 := ⟨39, 5, 1, fun i' j' => if i' = 0 ∧ 1 ≤ j' ∧ j' < 2 then AV.row dk 1 0 (0 + 1) else ob2.f i' j'⟩) ownK2 (upd_same _ _ _)
      rw [upd_upd] at w5 wK
      first
        | refine ⟨1, by decide, hJ.out _ _ _ ⟨?_, 0 + 1, _, .row dk 1 0 (0 + 1), rfl, by omega, by simp [go_sem], by simpa [go_sem] using w5, wK, rfl, rfl, rfl, by simp [f0], by simp, by simp [f2], by simp [f3], by simp [f4], fun h => absurd h (by decide)⟩⟩
        | refine hJ.out _ _ _ ⟨?_, 0 + 1, _, .row dk 1 0 (0 + 1), rfl, by omega, by simp [go_sem], by simpa [go_sem] using w5, wK, rfl, rfl, rfl, by simp [f0], by simp, by simp [f2], by simp [f3], by simp [f4], fun h => absurd h (by decide)⟩
      repeat (refine fr_upd (by decide) ?_)
      refine fr_in (by intro i; omega) hfr2 ?_
      repeat (refine fr_upd (by decide) ?_)
      exact hfr
  · clear hz
    obtain ⟨d5, t5⟩ := own_row own5 (by decide)
    (repeat' (first | simp [go_sem, X_region, *] | simp (disch := omega) only [om, *] | ((first | refine XC_split ?_ ?_ | refine XG_true ?_ ?_ | refine XG_false ?_ ?_ | refine XRg_true ?_ ?_ | refine XRg_false ?_ ?_) <;> intro hc <;> (try simp only [bl] at hc) <;> (try (exfalso; omega))) | refine XD_w [] [] [] (fun _ => none) mixed (by decide +kernel) (sub_none _) ?_ | refine Pure.call (hc1) ?_ | refine ⟨_, Pure.at (hc1), ?_⟩ | refine ⟨_, hc1, ?_⟩ | refine PureAt.call (hc1) ?_ | refine Pure.call (hn) ?_ | refine ⟨_, Pure.at (hn), ?_⟩ | refine ⟨_, hn, ?_⟩ | refine PureAt.call (hn) ?_ | fail))
    refine X_lpF (fun i => i = 5 ∨ (10 ≤ i ∧ i ≤ 11) ∨ (27 ≤ i ∧ i ≤ 54)) (fun n T g => ∃ (j : Nat), n = 1 - j ∧ j ≤ 1 ∧ T 27 = I j ∧ Own (upd h b2 (some ob2)) g (T 5) 39 5 (1 + j) (cellsL cNd (List.replicate (1 + j) lit1)) ∧ Own (upd h b2 (some ob2)) g ka 3 1 1 (cellsL cI ((List.range 1).map fun k : Nat => (k : Int)))) 1
      ⟨0, rfl, by omega, by simp [go_sem], by simpa [go_sem] using own5, by simpa [go_sem] using ownK⟩ ?_
    clear own5 ownK e2 t5
    rintro J2 hJ2 n2 T2 g2 hfr2 ⟨j, rfl, hj, t27, own5, ownK⟩
    have e2 : g2 b2 = some ob2 := own5.1 b2 _ (upd_same _ _ _)
    rcases (show j = 0 ∨ j = 1 by omega) with rfl | rfl
    · (repeat' (first | simp [go_sem, X_region, *] | simp (disch := omega) only [om, *] | ((first | refine XC_split ?_ ?_ | refine XG_true ?_ ?_ | refine XG_false ?_ ?_ | refine XRg_true ?_ ?_ | refine XRg_false ?_ ?_) <;> intro hc <;> (try simp only [bl] at hc) <;> (try (exfalso; omega))) | refine XD_w [] [] [] (fun _ => none) mixed (by decide +kernel) (sub_none _) ?_ | fail))
      intro b10 hb10
      have m2 := ne_free hb10 e2
      have hcl := clone_0 (cellsL cI []) (cellsL cI [])
      (repeat' (first | simp [go_sem, X_region, *] | simp (disch := omega) only [om, *] | ((first | refine XC_split ?_ ?_ | refine XG_true ?_ ?_ | refine XG_false ?_ ?_ | refine XRg_true ?_ ?_ | refine XRg_false ?_ ?_) <;> intro hc <;> (try simp only [bl] at hc) <;> (try (exfalso; omega))) | refine XD_w [] [] [] (fun _ => none) mixed (by decide +kernel) (sub_none _) ?_ | refine Pure.call (hcl) ?_ | refine ⟨_, Pure.at (hcl), ?_⟩ | refine ⟨_, hcl, ?_⟩ | refine PureAt.call (hcl) ?_ | fail))
      refine X_lpH (fun i => i = 11 ∨ (38 ≤ i ∧ i ≤ 49)) (fun hE n T g => T 38 = I 0 ∧ g = hE) 0 ⟨by simp [go_sem], rfl⟩ ?_
      rintro hE hEq J3 hJ3 n3 T3 g3 hfr3 ⟨t38, rfl⟩
      obtain ⟨ob10, hob, q1, q2, q3, u0, u1, u2, u3, u4⟩ : ∃ ob10 : Ob, g3 = upd g2 b10 (some ob10) ∧ ob10.ty = 39 ∧ ob10.s = 5 ∧ ob10.n = 1 ∧ ob10.f 0 0 = I 0 ∧ ob10.f 0 1 = AV.sl 1 0 (cellsL cI []) ∧ ob10.f 0 2 = I 5 ∧ ob10.f 0 3 = I 1 ∧ ob10.f 0 4 = S ⟨#[]⟩ := ⟨_, hEq.symm, rfl, rfl, rfl, by simp, by simp, by simp, by simp, by simp⟩
      clear hEq
      subst hob
      have own5' : Own (upd h b2 (some ob2)) (upd g2 b10 (some ob10)) (T2 5) 39 5 (List.replicate 1 lit1).length (cellsL cNd (List.replicate 1 lit1)) := own5.alloc hb10
      have ownK' := ownK.alloc (ob := ob10) hb10
      (repeat' (first | simp [go_sem, X_region, *] | simp (disch := omega) only [om, *] | ((first | refine XC_split ?_ ?_ | refine XG_true ?_ ?_ | refine XG_false ?_ ?_ | refine XRg_true ?_ ?_ | refine XRg_false ?_ ?_) <;> intro hc <;> (try simp only [bl] at hc) <;> (try (exfalso; omega))) | refine XD_w [] [] [] (fun _ => none) mixed (by decide +kernel) (sub_none _) ?_ | fail))
      intro bl hl1 hl2 hbl
      obtain ⟨H, oH, sH, kH⟩ := own_hole own5'
      refine Own.push (x := lit1) (enc := cNd) oH (by simp [go_sem]) und42 zr39 by39 (by simp [go_sem]) (by rw [upd_ne _ _ hl1]; exact hbl) (by simp [go_sem]) rfl (Nat.le_refl _) (by simp [go_sem]) (by decide) (by decide) fun a1 h1 hown1 hk1 => ?_
      have ownK2 := own_keep sH kH hown1.1 ownK' (own_apartT own5' ownK' (by decide))
      have own52 : Own (upd h b2 (some ob2)) h1 a1 39 5 (1 + 1) (cellsL cNd (List.replicate (1 + 1) lit1)) := own_up sH hown1
      (repeat' (first | simp [go_sem, X_region, *] | simp (disch := omega) only [om, *] | ((first | refine XC_split ?_ ?_ | refine XG_true ?_ ?_ | refine XG_false ?_ ?_ | refine XRg_true ?_ ?_ | refine XRg_false ?_ ?_) <;> intro hc <;> (try simp only [bl] at hc) <;> (try (exfalso; omega))) | refine XD_w [] [] [] (fun _ => none) mixed (by decide +kernel) (sub_none _) ?_ | fail))
      refine hJ2.out _ _ _ ⟨?_, 1, rfl, by omega, by simp [go_sem], by simpa [go_sem] using own52, ownK2⟩
      repeat (refine fr_upd (by decide) ?_)
      refine fr_in (by intro i; omega) hfr3 ?_
      repeat (refine fr_upd (by decide) ?_)
      exact hfr2
    · obtain ⟨d5, t5⟩ := own_row own5 (by decide)
      have ownKx : Own (upd h b2 (some ob2)) g2 ka 3 1 ((List.range 1).map fun k : Nat => (k : Int)).length (cellsL cI ((List.range 1).map fun k : Nat => (k : Int))) := ownK
      (repeat' (first | simp [go_sem, X_region, *] | simp (disch := omega) only [om, *] | ((first | refine XC_split ?_ ?_ | refine XG_true ?_ ?_ | refine XG_false ?_ ?_ | refine XRg_true ?_ ?_ | refine XRg_false ?_ ?_) <;> intro hc <;> (try simp only [bl] at hc) <;> (try (exfalso; omega))) | refine XD_w [] [] [] (fun _ => none) mixed (by decide +kernel) (sub_none _) ?_ | fail))
      intro bl hbl
      obtain ⟨H, oH, sH, kH⟩ := own_hole ownKx
      refine Own.push (x := (1 : Int)) (enc := cI) oH (by simp [go_sem, *]) und37 zr3 by3 (by simp [go_sem]) hbl (by simp [go_sem]) rfl (Nat.le_refl _) (by simp [go_sem]) (by decide) (by decide) fun a1 h1 hown1 hk1 => ?_
      have own52 := own_keep sH kH hown1.1 own5 (own_apartT ownKx own5 (by decide))
      have ownK2 := own_up sH hown1
      obtain ⟨dk, rfl⟩ : ∃ dk, a1 = .row dk 1 0 (1 + 1) := own_row ownK2 (by decide)
      have e22 : h1 b2 = some ob2 := own52.1 b2 _ (upd_same _ _ _)
      (repeat' (first | simp [go_sem, X_region, *] | simp (disch := omega) only [om, *] | ((first | refine XC_split ?_ ?_ | refine XG_true ?_ ?_ | refine XG_false ?_ ?_ | refine XRg_true ?_ ?_ | refine XRg_false ?_ ?_) <;> intro hc <;> (try simp only [bl] at hc) <;> (try (exfalso; omega))) | refine XD_w [] [] [] (fun _ => none) mixed (by decide +kernel) (sub_none _) ?_ | fail))
      have w5 := own_other (o2 := ⟨39, 5, 1, fun i' j' => if i' = 0 ∧ 1 ≤ j' ∧ j' < 2 then AV.row dk 1 0 (1 + 1) else ob2.f i' j'⟩) own52 (upd_same _ _ _)
      have wK := own_other (o2 := ⟨39, 5, 1, fun i' j' => if i' = 0 ∧ 1 ≤ j' ∧ j' < 2 then AV.row dk 1 0 (1 + 1) else ob2.f i' j'⟩) ownK2 (upd_same _ _ _)
      rw [upd_upd] at w5 wK
      first
        | refine ⟨1, by decide, hJ.out _ _ _ ⟨?_, 1 + 1, _, .row dk 1 0 (1 + 1), rfl, by omega, by simp [go_sem], by simpa [go_sem] using w5, wK, rfl, rfl, rfl, by simp [f0], by simp, by simp [f2], by simp [f3], by simp [f4], fun h => absurd h (by decide)⟩⟩
        | refine hJ.out _ _ _ ⟨?_, 1 + 1, _, .row dk 1 0 (1 + 1), rfl, by omega, by simp [go_sem], by simpa [go_sem] using w5, wK, rfl, rfl, rfl, by simp [f0], by simp, by simp [f2], by simp [f3], by simp [f4], fun h => absurd h (by decide)⟩
      repeat (refine fr_upd (by decide) ?_)
      refine fr_in (by intro i; omega) hfr2 ?_
      repeat (refine fr_upd (by decide) ?_)
      exact hfr
  · clear hz
    obtain ⟨d5, t5⟩ := own_row own5 (by decide)
    obtain ⟨dk, rfl⟩ := own_row ownK (by decide)
    have hap := own_apartT own5 ownK (by decide) dk
    obtain ⟨obk, ek0, ek, es, en, ef⟩ : ∃ obk, (upd h b2 (some ob2)) dk = none ∧ g dk = some obk ∧ obk.s = 1 ∧ 2 ≤ obk.n ∧ ∀ i, i < 2 → obk.f i 0 = cellsL cI ((List.range 2).map fun k : Nat => (k : Int)) i 0 := by
      rcases ownK.2 with ⟨h0, _⟩ | ⟨c, oc, hc, r1, r2, r3, r4, r5, r6, r7⟩
      · omega
      · cases hc
        exact ⟨oc, r1, r2, r3, by omega, fun i hi => r7 i hi 0 (by decide)⟩
    obtain ⟨f, hk, oD, sD, kD, wD⟩ := own5.deep.with ek fun e => hap e rfl
    (repeat' (first | simp [go_sem, X_region, *] | simp (disch := omega) only [om, *] | ((first | refine XC_split ?_ ?_ | refine XG_true ?_ ?_ | refine XG_false ?_ ?_ | refine XRg_true ?_ ?_ | refine XRg_false ?_ ?_) <;> intro hc <;> (try simp only [bl] at hc) <;> (try (exfalso; omega))) | refine XD_w [] [] [] (fun _ => none) mixed (by decide +kernel) (sub_none _) ?_ | fail))
    intro bl hbl
    refine OwnD.push (x := (⟨10, [0, 1], 0, 0, ⟨#[]⟩⟩ : Nd)) (enc := cNd) (l := List.replicate 2 lit1) oD sD wD (by simp [go_sem, t5]) und42 zr39 by39 (by simp [go_sem]) hbl (by simp [go_sem]) rfl (Nat.le_refl _) (fun q hq => ?_) (by decide) (by decide) fun a' g9 own9 hk9 => ?_
    · rcases (show q = 0 ∨ q = 1 ∨ q = 2 ∨ q = 3 ∨ q = 4 by omega) with rfl | rfl | rfl | rfl | rfl
      · exact Wk.drop _ sD
      · exact Wk.rowF kD sD ek0 es en (by decide) fun i hi j hj => by
          obtain rfl : j = 0 := by omega
          rw [ef i hi]
          rcases (show i = 0 ∨ i = 1 by omega) with rfl | rfl <;> rfl
      · exact Wk.drop _ sD
      · exact Wk.drop _ sD
      · exact Wk.drop _ sD
    · have ht9 : OwnD (upd h b2 (some ob2)) g9 a' 39 5 3 (cellsL cNd sumE) := own9
      have hfz := ht9.frozen (by decide)
      have hck : PureAt Tryd.prog g9 41 [a'] (I 0) := Pure.lend hc2 (.cons (lend_wk hfz) .nil) (Flat.v _)
      (repeat' (first | simp [go_sem, X_region, *] | simp (disch := omega) only [om, *] | ((first | refine XC_split ?_ ?_ | refine XG_true ?_ ?_ | refine XG_false ?_ ?_ | refine XRg_true ?_ ?_ | refine XRg_false ?_ ?_) <;> intro hc <;> (try simp only [bl] at hc) <;> (try (exfalso; omega))) | refine XD_w [] [] [] (fun _ => none) mixed (by decide +kernel) (sub_none _) ?_ | refine Pure.call (hck) ?_ | refine ⟨_, Pure.at (hck), ?_⟩ | refine ⟨_, hck, ?_⟩ | refine PureAt.call (hck) ?_ | fail))
      exact hfz.trans (Wk.drop _ (Sub.upd hb2 (Sub.refl _)))
theorem rd_row_tz {w : World} {h hF : Hp} {b s n : Nat} {o : Ob} {f : Nat → Nat → AV} {u : Value} (hs : Sub hF h) (hF0 : hF b = none) (hb : h b = some o) (h1 : o.s = s) (h2 : n ≤ o.n) (h3 : n ≤ 140737488355328) (hf : ∀ i, i < n → ∀ j, j < s → o.f i j = f i j) (hh : RelH w h) (hr : Rd w h (.row b s 0 n) u) : Rd w hF (.sl s n f) u := by
  obtain ⟨cap, hu, hle, hlt, _⟩ := hr
  subst h1
  refine ⟨some ⟨b, 0 * o.s, none⟩, cap, hu, hle, h3, fun _ => ⟨b, 0 * o.s, rfl, hF0, hlt, fun i hi j hj => ?_⟩⟩
  obtain ⟨c, hc, hn, hp, hcell⟩ := hh.cells hb (.inl (by omega))
  obtain ⟨y, hy, hy1, hyr⟩ := hcell i (by omega) j hj
  exact ⟨y, by simp only [World.cell?, hc]; simpa using hy, hy1, by rw [← hf i hi j hj]; exact hyr.step (stp_forget hs)⟩
theorem row2g {h : Hp} {f : FuncId} {k s n : Nat} {ob : Ob} {g : Nat → Nat → AV} {x : AV} {K : AV → Hp → Prop} (hk : h k = none) (h1 : ob.s = s) (h2 : ob.n = n) (h3 : n ≤ 140737488355328) (hf : ∀ i, i < n → ∀ j, j < s → ob.f i j = g i j)
    (c : CallK Tryd.prog h f [x, .sl s n g] K) : CallK Tryd.prog (upd h k (some ob)) f [x, .row k s 0 n] K := by
  have hs : Sub h (upd h k (some ob)) := fun c oc hc => by rw [upd_ne _ _ (fun e => by rw [e, hk] at hc; cases hc)]; exact hc
  unfold CallK at c ⊢
  intro w vals hh ha
  refine (c w vals (relH_forget hh hs) ⟨ha.1, fun i a hi => ?_⟩).mono ?_
  · match i, hi with
    | 0, hi =>
      obtain ⟨u, e, r⟩ := ha.2 0 _ rfl
      cases hi
      exact ⟨u, e, r.step (stp_forget hs)⟩
    | 1, hi =>
      obtain ⟨u, e, r⟩ := ha.2 1 _ rfl
      cases hi
      exact ⟨u, e, rd_row_tz hs hk (upd_same _ _ _) h1 (by omega) h3 hf hh r⟩
  · rintro e w' ⟨u, r, h', k1, k2, k3, k4, k5, k6⟩
    exact ⟨u, r, h', k1, k2, k3, k4, k5, (stp_forget hs).trans k6⟩
theorem sum_deep : deepF sumE = 2 := by
  simp [deepF, deepsF, maxF, sumE, lit1]
  rfl
theorem trbegun_ok : Pure Tryd.prog 19 [] (B true) := by
  have hck := tcheck_ok sumE fun x hx => by
    rcases List.mem_cons.1 hx with rfl | hx
    · decide
    · rcases List.mem_cons.1 hx with rfl | hx
      · decide
      · rw [List.mem_singleton.1 hx]; decide
  have hd := deep_ok (chkE (oneE nameF)) sumE hck fun hz => by
    obtain ⟨a1, a2, a3⟩ := valid_facts (by rw [tree_chk]; exact hz)
    refine ⟨a1, a2, fun i x hx => ?_⟩
    obtain ⟨b1, b2, _⟩ := a3 i x hx
    have := ar_le x.op
    exact ⟨b1, by omega⟩
  rw [sum_chk, if_neg (by decide), sum_deep] at hd
  rw [sum_chk] at hck
  have hsl : sumE.length = 3 := rfl
  have hj := join_lit
  intro h
  refine callK_body Tryd.func19 rfl (by rw [nt19]; simp) ?_; rw [nt19, rs19]
  (repeat' (first | simp [go_sem, X_region, *] | simp (disch := omega) only [om, *] | ((first | refine XC_split ?_ ?_ | refine XG_true ?_ ?_ | refine XG_false ?_ ?_ | refine XRg_true ?_ ?_ | refine XRg_false ?_ ?_) <;> intro hc <;> (try simp only [bl] at hc) <;> (try (exfalso; omega))) | refine XD_w [] [] [] (fun _ => none) mixed (by decide +kernel) (sub_none _) ?_ | refine Pure.call (one_begun) ?_ | refine ⟨_, Pure.at (one_begun), ?_⟩ | refine ⟨_, one_begun, ?_⟩ | refine PureAt.call (one_begun) ?_ | fail))
  intro b hb
  refine row2g (g := cellsL cE [[lit1], [lit1]]) hb rfl rfl (by decide) (fun i hi j hj => ?_) ((hj h).mono ?_)
  · obtain rfl : j = 0 := by omega
    rcases (show i = 0 ∨ i = 1 by omega) with rfl | rfl <;> rfl
  · rintro r h' ⟨rfl, rfl⟩
    (repeat' (first | simp [go_sem, X_region, *] | simp (disch := omega) only [om, *] | ((first | refine XC_split ?_ ?_ | refine XG_true ?_ ?_ | refine XG_false ?_ ?_ | refine XRg_true ?_ ?_ | refine XRg_false ?_ ?_) <;> intro hc <;> (try simp only [bl] at hc) <;> (try (exfalso; omega))) | refine XD_w [] [] [] (fun _ => none) mixed (by decide +kernel) (sub_none _) ?_ | refine Pure.call (hck) ?_ | refine ⟨_, Pure.at (hck), ?_⟩ | refine ⟨_, hck, ?_⟩ | refine PureAt.call (hck) ?_ | refine Pure.call (hd) ?_ | refine ⟨_, Pure.at (hd), ?_⟩ | refine ⟨_, hd, ?_⟩ | refine PureAt.call (hd) ?_ | fail))
end Go.Proofs.YtmalhikcdideoaaDoor

set_option linter.unusedVariables false
set_option linter.unusedSimpArgs false
namespace Go.Proofs.YtmalhikcdideoaaDoor
open Go Sl
attribute [local irreducible] XRange LpQ XR XRo XRg XRQ putQ XFv XL XW2 wQ putW X XO XOp XH XHo XW SeqQ BlkQ XOQ XHQ NrmQ XC XM XG XHM XHG XD CallK
open Go.RowKit
mutual
/-- Each node of a tree, with how many kids it has. -/
def AllT (Q : Nd → Nat → Prop) : Tr → Prop
  | .mk x ks => Q x ks.length ∧ AllL Q ks
def AllL (Q : Nd → Nat → Prop) : List Tr → Prop
  | [] => True
  | t :: r => AllT Q t ∧ AllL Q r
end
theorem AllL_of {Q : Nd → Nat → Prop} : ∀ ts : List Tr, (∀ t ∈ ts, AllT Q t) → AllL Q ts
  | [], _ => by rw [AllL]; trivial
  | t :: r, h => by rw [AllL]; exact ⟨h t (List.mem_cons_self ..), AllL_of r fun u hu => h u (List.mem_cons_of_mem _ hu)⟩
theorem AllL_mem {Q : Nd → Nat → Prop} : ∀ ts : List Tr, AllL Q ts → ∀ t ∈ ts, AllT Q t
  | u :: r, h, t, ht => by
    rw [AllL] at h
    rcases List.mem_cons.1 ht with rfl | ht
    · exact h.1
    · exact AllL_mem r h.2 t ht
theorem treeAt_all {e : List Nd} (hv : Vd e) (Q : Nd → Nat → Prop) (hQ : ∀ (i : Nat) (x : Nd), e[i]? = some x → Q (bare x) x.kids.length) (p : Nat) (hp : p < e.length) : AllT Q (treeAt e p) := by
  induction p using Nat.strongRecOn with
  | ind p ih =>
    obtain ⟨x, hxe⟩ : ∃ x, e[p] = x := ⟨_, rfl⟩
    have hx : e[p]? = some x := by rw [List.getElem?_eq_getElem hp, hxe]
    have hnd : ndAt e p = x := by unfold ndAt; rw [List.getD_eq_getElem?_getD, hx]; rfl
    rw [treeAt_eq hv, AllT, hnd, List.length_map]
    refine ⟨hQ p x hx, AllL_of _ fun t ht => ?_⟩
    obtain ⟨k, hk, rfl⟩ := List.mem_map.1 ht
    have := hv.out p x hx k hk
    exact ih k.toNat (by omega) (by omega)
/-- What is asked of a node that is written down: its kids' number and size. -/
structure NdOk (Q : Nd → Nat → Prop) (m : Int) (x : Nd) : Prop where
  own : Q (bare x) x.kids.length
  kids : ∀ k ∈ x.kids, -1 ≤ k ∧ k ≤ m
theorem NdOk.mono {Q : Nd → Nat → Prop} {m m' : Int} {x : Nd} (h : NdOk Q m x) (hm : m ≤ m') : NdOk Q m' x := ⟨h.own, fun k hk => ⟨(h.kids k hk).1, by have := (h.kids k hk).2; omega⟩⟩
theorem NdOk.shift {Q : Nd → Nat → Prop} {m : Int} {x : Nd} (h : NdOk Q m x) (d : Int) (hd : 0 ≤ d) : NdOk Q (m + d) (shN d x) := by
  refine ⟨?_, fun k hk => ?_⟩
  · have := h.own
    unfold shN
    simp only [List.length_map]
    exact this
  · unfold shN at hk
    obtain ⟨q, hq, rfl⟩ := List.mem_map.1 hk
    have := h.kids q hq
    omega
mutual
theorem flatT_ok {Q : Nd → Nat → Prop} : ∀ t : Tr, AllT Q t → (∀ x n, Q x n ↔ Q (bare x) n) → ∀ x ∈ flatT t, NdOk Q (sizeT t) x
  | .mk y ks, h, hQ => by
    rw [AllT] at h
    rw [flatT, sizeT]
    have hp := sizeL_pos ks
    obtain ⟨h1, h2, h3⟩ := flatL_ok ks [] [] h.2 hQ (fun x hx => by cases hx) fun k hk => by cases hk
    intro x hx
    rcases List.mem_append.1 hx with hx | hx
    · exact (h1 x hx).mono (by simp; omega)
    · rw [List.mem_singleton.1 hx]
      refine ⟨?_, fun k hk => ?_⟩
      · simp only [h3, List.length_nil, Nat.zero_add]
        exact (hQ y ks.length).1 h.1
      · have := h2 k hk
        simp at this
        omega
theorem flatL_ok {Q : Nd → Nat → Prop} : ∀ (ts : List Tr) (out : List Nd) (kids : List Int), AllL Q ts → (∀ x n, Q x n ↔ Q (bare x) n) → (∀ x ∈ out, NdOk Q (out.length + sizeL ts) x) → (∀ k ∈ kids, -1 ≤ k ∧ k ≤ out.length + sizeL ts) →
    (∀ x ∈ (flatL ts out kids).1, NdOk Q (out.length + sizeL ts) x) ∧ (∀ k ∈ (flatL ts out kids).2, -1 ≤ k ∧ k ≤ out.length + sizeL ts) ∧ (flatL ts out kids).2.length = kids.length + ts.length
  | [], out, kids, _, _, h1, h2 => by rw [flatL]; exact ⟨h1, h2, by simp⟩
  | t :: r, out, kids, h, hQ, h1, h2 => by
    rw [AllL] at h
    rw [sizeL] at h1 h2 ⊢
    rw [flatL]
    have hp := sizeL_pos r
    have hl := flatT_len t
    have hlen : ((out ++ (flatT t).map (shN out.length)).length : Int) = out.length + sizeT t := by
      rw [List.length_append, List.length_map]; omega
    obtain ⟨g1, g2, g3⟩ := flatL_ok r (out ++ (flatT t).map (shN out.length)) (kids ++ [((out ++ (flatT t).map (shN out.length)).length : Int) - 1]) h.2 hQ (fun x hx => by
      rcases List.mem_append.1 hx with hx | hx
      · exact (h1 x hx).mono (by omega)
      · obtain ⟨y, hy, rfl⟩ := List.mem_map.1 hx
        exact ((flatT_ok t h.1 hQ y hy).shift out.length (by omega)).mono (by omega)) fun k hk => by
      rcases List.mem_append.1 hk with hk | hk
      · have := h2 k hk; omega
      · have := sizeT_pos t
        rw [List.mem_singleton.1 hk]; omega
    refine ⟨fun x hx => (g1 x hx).mono (by rw [hlen]; omega), fun k hk => ?_, by rw [g3]; simp; omega⟩
    have := g2 k hk
    rw [hlen] at this
    omega
end
end Go.Proofs.YtmalhikcdideoaaDoor

set_option linter.unusedVariables false
set_option linter.unusedSimpArgs false
namespace Go.Proofs.YtmalhikcdideoaaDoor
open Go Sl
attribute [local irreducible] XRange LpQ XR XRo XRg XRQ putQ XFv XL XW2 wQ putW X XO XOp XH XHo XW SeqQ BlkQ XOQ XHQ NrmQ XC XM XG XHM XHG XD CallK
open Go.RowKit
theorem flatL_len2 : ∀ (ts : List Tr) (out : List Nd) (kids : List Int), (flatL ts out kids).2.length = kids.length + ts.length
  | [], out, kids => by rw [flatL]; simp
  | t :: r, out, kids => by rw [flatL, flatL_len2 r]; simp; omega
theorem sub_over {h : Hp} {b1 b4 : Nat} {x y : Option Ob} (hb1 : h b1 = none) : Sub (upd h b4 y) (upd (upd h b1 x) b4 y) := fun c oc hc => by
  by_cases h4 : c = b4
  · subst h4; rw [upd_same] at hc ⊢; exact hc
  · rw [upd_ne _ _ h4] at hc ⊢
    rw [upd_ne _ _ (fun e => by rw [e, hb1] at hc; cases hc)]; exact hc
theorem len_own {h0 h : Hp} {a : AV} {s n : Nat} {f : Nat → Nat → AV} (o : Own h0 h a 39 s n f) : lenA Tryd.prog 42 a = some (n : Int) := by
  rcases o.2 with ⟨h0, h1 | h1⟩ | ⟨b, ob, h1, _⟩
  · subst h0; rw [h1]; simp [go_sem]
  · subst h0; rw [h1]; simp [go_sem]
  · rw [h1]; simp [go_sem]
theorem own_grow {h0 h h1 : Hp} {a : AV} {e : TypeId} {s n : Nat} {f : Nat → Nat → AV} (o : Own h0 h a e s n f) (hS : Sub h h1) : Own h0 h1 a e s n f := by
  refine ⟨o.1.trans hS, ?_⟩
  rcases o.2 with h | ⟨gb, og, h1, h2, h3, h4⟩
  · exact .inl h
  · exact .inr ⟨gb, og, h1, h2, hS _ _ h3, h4⟩
set_option maxHeartbeats 4000000 in
theorem flat_ok (t : Tr) (hs : sizeT t ≤ 1000000000) (hk : AllT (fun x n => n ≤ 1000000000) t) : Pure Tryd.prog 23 [aggL (cTr t)] (encL 5 cNd (flatT t)) := by
  generalize hn : SizeOf.sizeOf t = n
  induction n using Nat.strongRecOn generalizing t with
  | ind n ih =>
    obtain ⟨x, ks⟩ := t
    rw [AllT] at hk
    have ihk : ∀ k ∈ ks, Pure Tryd.prog 23 [aggL (cTr k)] (encL 5 cNd (flatT k)) := fun k hk' => ih (SizeOf.sizeOf k) (by
      have := List.sizeOf_lt_of_mem hk'
      simp only [Tr.mk.sizeOf_spec] at hn
      omega) k (by
      have h1 := sizeL_mem ks k hk'
      rw [sizeT] at hs
      omega) (AllL_mem ks hk.2 k hk') rfl
    have hkf : ∀ k ∈ ks, ∀ y ∈ flatT k, y.kids.length ≤ 1000000000 ∧ ∀ i ∈ y.kids, -1 ≤ i ∧ i ≤ sizeT k := fun k hk' y hy => by
      have h1 := flatT_ok k (AllL_mem ks hk.2 k hk') (fun x n => Iff.rfl) y hy
      exact ⟨h1.own, h1.kids⟩
    clear ih hn
    rw [cTr_mk]
    have hks := hk.1
    rw [sizeT] at hs
    have hkl := sizeL_len ks
    rw [flatT]
    obtain ⟨R, hR⟩ : ∃ R, flatL ks [] [] = R := ⟨_, rfl⟩
    have hRl := flatL_len ks [] []
    rw [hR] at hRl ⊢
    intro h; refine callK_body Tryd.func23 rfl (by rw [nt23]; simp) ?_; rw [nt23, rs23]
    (repeat' (first | simp [go_sem, X_region, *] | simp (disch := omega) only [om, *] | ((first | refine XC_split ?_ ?_ | refine XG_true ?_ ?_ | refine XG_false ?_ ?_ | refine XRg_true ?_ ?_ | refine XRg_false ?_ ?_) <;> intro hc <;> (try simp only [bl] at hc) <;> (try (exfalso; omega))) | refine XD_w [] [] [] (fun _ => none) mixed (by decide +kernel) (sub_none _) ?_ | fail))
    intro b1 hb1 b4 n1 n2 hb4
    (repeat' (first | simp [go_sem, X_region, *] | simp (disch := omega) only [om, *] | ((first | refine XC_split ?_ ?_ | refine XG_true ?_ ?_ | refine XG_false ?_ ?_ | refine XRg_true ?_ ?_ | refine XRg_false ?_ ?_) <;> intro hc <;> (try simp only [bl] at hc) <;> (try (exfalso; omega))) | refine XD_w [] [] [] (fun _ => none) mixed (by decide +kernel) (sub_none _) ?_ | fail))
    refine X_lpF (fun i => i = 3 ∨ (6 ≤ i ∧ i ≤ 7) ∨ (9 ≤ i ∧ i ≤ 10) ∨ i = 12 ∨ (19 ≤ i ∧ i ≤ 61)) (fun n T g => ∃ (i : Nat) (r : List Tr) (out : List Nd) (kids : List Int) (ob : Ob) (ka : AV), n = r.length ∧ i ≤ ks.length ∧ ks.drop i = r ∧ flatL r out kids = R ∧ T 19 = I i ∧ kids.length = i ∧ (out.length : Int) + sizeL r + 1 ≤ 1000000000 ∧
        Own (upd h b4 (some ob)) g (T 3) 39 5 out.length (cellsL cNd out) ∧ Own (upd h b4 (some ob)) g ka 3 1 kids.length (cellsL cI kids) ∧ ob.ty = 39 ∧ ob.s = 5 ∧ ob.n = 1 ∧ ob.f 0 0 = I x.op ∧ ob.f 0 1 = ka ∧ ob.f 0 2 = I x.kd ∧ ob.f 0 3 = I x.n ∧ ob.f 0 4 = S x.nm) ks.length
      ⟨0, ks, [], [], _, .v (.slice none 0 0), rfl, by omega, rfl, hR, by simp [go_sem], rfl, by simp; omega, by simp only [go_sem]; exact ⟨sub_over hb1, .inl ⟨rfl, .inl (by simp [go_sem])⟩⟩, ⟨sub_over hb1, .inl ⟨rfl, .inl rfl⟩⟩, rfl, rfl, rfl, by simp, by simp, by simp, by simp, by simp⟩ ?_
    clear hR
    rintro J hJ n T g hfr ⟨i, r, out, kids, ob, ka, rfl, hi, hd, hR, t19, hkk, hbd, own5, ownK, p1, p2, p3, f0, f1, f2, f3, f4⟩
    have e4 : g b4 = some ob := own5.1 b4 _ (upd_same _ _ _)
    rcases r with _ | ⟨y, r⟩
    · have hlt := drop_nil hd
      rw [flatL] at hR
      rw [sizeL] at hbd
      subst hR
      dsimp only at *
      (repeat' (first | simp [go_sem, X_region, *] | simp (disch := omega) only [om, *] | ((first | refine XC_split ?_ ?_ | refine XG_true ?_ ?_ | refine XG_false ?_ ?_ | refine XRg_true ?_ ?_ | refine XRg_false ?_ ?_) <;> intro hc <;> (try simp only [bl] at hc) <;> (try (exfalso; omega))) | refine XD_w [] [] [] (fun _ => none) mixed (by decide +kernel) (sub_none _) ?_ | fail))
      intro b hb
      refine X_pushK (x := { x with kids := kids }) own5 (.inl ownK) (by simp [go_sem]) und42 zr39 by39 (by simp [go_sem]) hb (by simp [go_sem]) rfl (Nat.le_refl _) (by simp) (by simp) (by simp) (by simp) (by simp) (by omega) (by omega) (show kids.length ≤ 140737488355328 by omega) fun a1 h1 h2 w1 w2 w3 => ?_
      have w4 := w3.frozen (by simp; omega)
      simp only [List.length_append, List.length_singleton] at w4
      (repeat' (first | simp [go_sem, X_region, *] | simp (disch := omega) only [om, *] | ((first | refine XC_split ?_ ?_ | refine XG_true ?_ ?_ | refine XG_false ?_ ?_ | refine XRg_true ?_ ?_ | refine XRg_false ?_ ?_) <;> intro hc <;> (try simp only [bl] at hc) <;> (try (exfalso; omega))) | refine XD_w [] [] [] (fun _ => none) mixed (by decide +kernel) (sub_none _) ?_ | fail))
      exact ((w2 _).trans w4).trans (Wk.drop _ (Sub.upd hb4 (Sub.refl _)))
    · obtain ⟨hlt, hx, hd2⟩ := drop_cons hd
      have hmem : y ∈ ks := by rw [← hx]; exact List.getElem_mem hlt
      have hcall := ihk y hmem
      have hky := hkf y hmem
      have hly := flatT_len y
      rw [sizeL] at hbd
      rw [flatL] at hR
      have hrp := sizeL_pos r
      generalize flatT y = Y at *
      obtain ⟨yx, yk⟩ := y
      rw [cTr_mk] at hcall
      generalize sizeT (Tr.mk yx yk) = sz at *
      have hlen := len_own own5
      simp only [go_sem] at hlen
      (repeat' (first | simp [go_sem, X_region, *] | simp (disch := omega) only [om, *] | ((first | refine XC_split ?_ ?_ | refine XG_true ?_ ?_ | refine XG_false ?_ ?_ | refine XRg_true ?_ ?_ | refine XRg_false ?_ ?_) <;> intro hc <;> (try simp only [bl] at hc) <;> (try (exfalso; omega))) | refine XD_w [] [] [] (fun _ => none) mixed (by decide +kernel) (sub_none _) ?_ | refine Pure.call (hcall) ?_ | refine ⟨_, Pure.at (hcall), ?_⟩ | refine ⟨_, hcall, ?_⟩ | refine PureAt.call (hcall) ?_ | fail))
      intro b6 hb6
      (repeat' (first | simp [go_sem, X_region, *] | simp (disch := omega) only [om, *] | ((first | refine XC_split ?_ ?_ | refine XG_true ?_ ?_ | refine XG_false ?_ ?_ | refine XRg_true ?_ ?_ | refine XRg_false ?_ ?_) <;> intro hc <;> (try simp only [bl] at hc) <;> (try (exfalso; omega))) | refine XD_w [] [] [] (fun _ => none) mixed (by decide +kernel) (sub_none _) ?_ | refine Pure.call (hcall) ?_ | refine ⟨_, Pure.at (hcall), ?_⟩ | refine ⟨_, hcall, ?_⟩ | refine PureAt.call (hcall) ?_ | fail))
      obtain ⟨OUT, hOUT⟩ : ∃ OUT, out ++ Y.map (shN out.length) = OUT := ⟨_, rfl⟩
      rw [hOUT] at hR
      have hOl : OUT.length = out.length + Y.length := by rw [← hOUT]; simp
      refine X_lpFW (fun i => i = 3 ∨ (9 ≤ i ∧ i ≤ 10) ∨ i = 12 ∨ (28 ≤ i ∧ i ≤ 52)) (fun n T g => ∃ (j : Nat) (r2 acc : List Nd), n = r2.length ∧ j ≤ Y.length ∧ Y.drop j = r2 ∧ acc ++ r2.map (shN out.length) = OUT ∧ T 28 = I j ∧ acc.length = out.length + j ∧
        Own (upd h b4 (some ob)) g (T 3) 39 5 acc.length (cellsL cNd acc) ∧ Own (upd h b4 (some ob)) g ka 3 1 kids.length (cellsL cI kids)) Y.length
        ⟨0, Y, out, rfl, by omega, rfl, hOUT, by simp [go_sem], rfl, by simpa [go_sem] using own5.alloc hb6, ownK.alloc hb6⟩ ?_
      clear hOUT own5 ownK hb6 e4 hlen
      rintro J2 hJ2 n2 T2 g2 hfr2 ⟨j, r2, acc, rfl, hj, hdj, hacc, t28, hal, own5, ownK⟩
      have e4 : g2 b4 = some ob := own5.1 b4 _ (upd_same _ _ _)
      rcases r2 with _ | ⟨z, r2⟩
      · have hltj := drop_nil hdj
        obtain rfl : acc = OUT := by simpa using hacc
        clear hacc
        have hol3 : (out.length : Int) + sz = (acc.length : Int) := by omega
        clear hOl hal
        have hlen := len_own own5
        simp only [go_sem] at hlen
        (repeat' (first | simp [go_sem, X_region, *] | simp (disch := omega) only [om, *] | ((first | refine XC_split ?_ ?_ | refine XG_true ?_ ?_ | refine XG_false ?_ ?_ | refine XRg_true ?_ ?_ | refine XRg_false ?_ ?_) <;> intro hc <;> (try simp only [bl] at hc) <;> (try (exfalso; omega))) | refine XD_w [] [] [] (fun _ => none) mixed (by decide +kernel) (sub_none _) ?_ | fail))
        intro bl hbl
        obtain ⟨HK, oHK, sHK, kHK⟩ := own_hole ownK
        refine Own.push (x := (acc.length : Int) - 1) (enc := cI) oHK (by simp [go_sem]) und37 zr3 by3 (by simp [go_sem]) hbl (by simp [go_sem]) rfl (Nat.le_refl _) (by simp [go_sem]) (by omega) (by omega) fun a1 h1 hown1 hk1 => ?_
        have own52 := own_keep sHK kHK hown1.1 own5 (own_apartT ownK own5 (by decide))
        have ownK2 := own_up sHK hown1
        rw [List.length_append, List.length_singleton, hkk] at ownK2
        obtain ⟨dk, rfl⟩ := own_row ownK2 (by omega)
        have e42 : h1 b4 = some ob := own52.1 b4 _ (upd_same _ _ _)
        (repeat' (first | simp [go_sem, X_region, *] | simp (disch := omega) only [om, *] | ((first | refine XC_split ?_ ?_ | refine XG_true ?_ ?_ | refine XG_false ?_ ?_ | refine XRg_true ?_ ?_ | refine XRg_false ?_ ?_) <;> intro hc <;> (try simp only [bl] at hc) <;> (try (exfalso; omega))) | refine XD_w [] [] [] (fun _ => none) mixed (by decide +kernel) (sub_none _) ?_ | fail))
        have w5 := own_other (o2 := ⟨39, 5, 1, fun i' j' => if i' = 0 ∧ 1 ≤ j' ∧ j' < 2 then .row dk 1 0 (i + 1) else ob.f i' j'⟩) own52 (upd_same _ _ _)
        have wK := own_other (o2 := ⟨39, 5, 1, fun i' j' => if i' = 0 ∧ 1 ≤ j' ∧ j' < 2 then .row dk 1 0 (i + 1) else ob.f i' j'⟩) ownK2 (upd_same _ _ _)
        rw [upd_upd] at w5 wK
        exact ⟨_, Nat.lt_succ_self _, hJ.out _ _ _ ⟨(by (repeat (refine fr_upd (by decide) ?_)); exact fr_in (by intro i; omega) hfr2 (by (repeat (refine fr_upd (by decide) ?_)); exact hfr)), i + 1, r, acc, kids ++ [(acc.length : Int) - 1], _, .row dk 1 0 (i + 1), rfl, by omega, hd2, hR, by simp [go_sem], by simp [hkk], by omega, by simpa [go_sem] using w5, by rw [List.length_append, List.length_singleton, hkk]; exact wK, rfl, rfl, rfl, by simp [f0], by simp, by simp [f2], by simp [f3], by simp [f4]⟩⟩
      · obtain ⟨hltj, hxj, hdj2⟩ := drop_cons hdj
        obtain ⟨hz1, hz2⟩ := hky z (by rw [← hxj]; exact List.getElem_mem hltj)
        (repeat' (first | simp [go_sem, X_region, *] | simp (disch := omega) only [om, *] | ((first | refine XC_split ?_ ?_ | refine XG_true ?_ ?_ | refine XG_false ?_ ?_ | refine XRg_true ?_ ?_ | refine XRg_false ?_ ?_) <;> intro hc <;> (try simp only [bl] at hc) <;> (try (exfalso; omega))) | refine XD_w [] [] [] (fun _ => none) mixed (by decide +kernel) (sub_none _) ?_ | fail))
        intro b9 hb9
        (repeat' (first | simp [go_sem, X_region, *] | simp (disch := omega) only [om, *] | ((first | refine XC_split ?_ ?_ | refine XG_true ?_ ?_ | refine XG_false ?_ ?_ | refine XRg_true ?_ ?_ | refine XRg_false ?_ ?_) <;> intro hc <;> (try simp only [bl] at hc) <;> (try (exfalso; omega))) | refine XD_w [] [] [] (fun _ => none) mixed (by decide +kernel) (sub_none _) ?_ | fail))
        refine X_lpH (fun i => i = 10 ∨ i = 12 ∨ (35 ≤ i ∧ i ≤ 45)) (fun hE n T g => ∃ (k : Nat) (r3 mv : List Int), n = r3.length ∧ k ≤ z.kids.length ∧ z.kids.drop k = r3 ∧ mv ++ r3.map (· + (out.length : Int)) = z.kids.map (· + (out.length : Int)) ∧ T 35 = I k ∧ mv.length = k ∧ Own hE g (T 10) 3 1 mv.length (cellsL cI mv)) z.kids.length
          ⟨0, z.kids, [], rfl, by omega, rfl, by simp, by simp [go_sem], rfl, by simpa [go_sem] using Own.none⟩ ?_
        rintro hE hEq J3 hJ3 n3 T3 g3 hfr3 ⟨k, r3, mv, rfl, hk3, hdk3, hmv, t35, hml, ownM⟩
        obtain ⟨ob9, hob, q1, q2, q3, u0, u1, u2, u3, u4⟩ : ∃ ob9 : Ob, hE = upd g2 b9 (some ob9) ∧ ob9.ty = 39 ∧ ob9.s = 5 ∧ ob9.n = 1 ∧ ob9.f 0 0 = I z.op ∧ ob9.f 0 1 = encL 1 cI z.kids ∧ ob9.f 0 2 = I z.kd ∧ ob9.f 0 3 = I z.n ∧ ob9.f 0 4 = S z.nm := ⟨_, hEq.symm, rfl, rfl, rfl, by simp, by simp [go_sem], by simp, by simp, by simp⟩
        clear hEq
        subst hob
        have e9 : g3 b9 = some ob9 := ownM.1 b9 _ (upd_same _ _ _)
        rcases r3 with _ | ⟨v, r3⟩
        · have hltk := drop_nil hdk3
          have hmv2 : mv = z.kids.map (· + (out.length : Int)) := by simpa using hmv
          clear hmv
          subst hmv2
          have hcM := own_cells ownM
          obtain ⟨H0, oH, sH, kH⟩ := own_hole own5
          have h09 : H0 b9 = none := sub_none_of oH.1 hb9
          have o5 := own_grow (own_with (oc := ob9) oH hb9) ownM.1
          have sM : Sub (upd H0 b9 (some ob9)) (upd g2 b9 (some ob9)) := (own_with (oc := ob9) oH hb9).1
          have oM := own_up sM ownM
          (repeat' (first | simp [go_sem, X_region, *] | simp (disch := omega) only [om, *] | ((first | refine XC_split ?_ ?_ | refine XG_true ?_ ?_ | refine XG_false ?_ ?_ | refine XRg_true ?_ ?_ | refine XRg_false ?_ ?_) <;> intro hc <;> (try simp only [bl] at hc) <;> (try (exfalso; omega))) | refine XD_w [] [] [] (fun _ => none) mixed (by decide +kernel) (sub_none _) ?_ | fail))
          intro bl hl1 hl2 hbl
          have w5 := own_other (o2 := ⟨39, 5, 1, fun i' j' => if i' = 0 ∧ 1 ≤ j' ∧ j' < 2 then T3 10 else ob9.f i' j'⟩) o5 (upd_same _ _ _)
          have wM := own_other (o2 := ⟨39, 5, 1, fun i' j' => if i' = 0 ∧ 1 ≤ j' ∧ j' < 2 then T3 10 else ob9.f i' j'⟩) oM (upd_same _ _ _)
          rw [upd_upd] at w5 wM
          refine X_pushK (x := shN out.length z) w5 (.inl wM) (by simp [go_sem]) und42 zr39 by39 (by simp [go_sem]) (by rw [upd_ne _ _ hl1]; exact hbl) (by simp [go_sem]) rfl (Nat.le_refl _) (by simp [shN, u0]) (by simp) (by simp [shN, u2]) (by simp [shN, u3]) (by simp [shN, u4]) (by omega) (by omega) (by simp [shN]; omega) fun a1 h1 h2 w1 w2 w3 => ?_
          have s9 : Sub H0 (upd H0 b9 (some ⟨39, 5, 1, fun i' j' => if i' = 0 ∧ 1 ≤ j' ∧ j' < 2 then T3 10 else ob9.f i' j'⟩)) := Sub.upd h09 (Sub.refl _)
          have y5 := own_up (sH.trans s9) w3
          have yK := own_keep sH kH (s9.trans w3.1) ownK (own_apartT own5 ownK (by decide))
          (repeat' (first | simp [go_sem, X_region, *] | simp (disch := omega) only [om, *] | ((first | refine XC_split ?_ ?_ | refine XG_true ?_ ?_ | refine XG_false ?_ ?_ | refine XRg_true ?_ ?_ | refine XRg_false ?_ ?_) <;> intro hc <;> (try simp only [bl] at hc) <;> (try (exfalso; omega))) | refine XD_w [] [] [] (fun _ => none) mixed (by decide +kernel) (sub_none _) ?_ | fail))
          refine ⟨_, Nat.lt_succ_self _, hJ2 _ _ _ h2 (w1 _ _) ?_ ⟨j + 1, r2, acc ++ [shN out.length z], rfl, by omega, hdj2, by rw [← hacc]; simp, by simp [go_sem], by simp; omega, by simpa [go_sem] using y5, yK⟩⟩
          repeat (refine fr_upd (by decide) ?_)
          refine fr_in (by intro i; omega) hfr3 ?_
          repeat (refine fr_upd (by decide) ?_)
          exact hfr2
        · obtain ⟨hltk, hxk, hdk4⟩ := drop_cons hdk3
          have hv := hz2 v (by rw [← hxk]; exact List.getElem_mem hltk)
          (repeat' (first | simp [go_sem, X_region, *] | simp (disch := omega) only [om, *] | ((first | refine XC_split ?_ ?_ | refine XG_true ?_ ?_ | refine XG_false ?_ ?_ | refine XRg_true ?_ ?_ | refine XRg_false ?_ ?_) <;> intro hc <;> (try simp only [bl] at hc) <;> (try (exfalso; omega))) | refine XD_w [] [] [] (fun _ => none) mixed (by decide +kernel) (sub_none _) ?_ | fail))
          intro bl hbl
          refine Own.push (x := v + (out.length : Int)) (enc := cI) ownM (by simp [go_sem]) und37 zr3 by3 (by simp [go_sem]) hbl (by simp [go_sem]) rfl (Nat.le_refl _) (by simp [go_sem]) (by omega) (by omega) fun a1 h1 hown1 hk1 => ?_
          (repeat' (first | simp [go_sem, X_region, *] | simp (disch := omega) only [om, *] | ((first | refine XC_split ?_ ?_ | refine XG_true ?_ ?_ | refine XG_false ?_ ?_ | refine XRg_true ?_ ?_ | refine XRg_false ?_ ?_) <;> intro hc <;> (try simp only [bl] at hc) <;> (try (exfalso; omega))) | refine XD_w [] [] [] (fun _ => none) mixed (by decide +kernel) (sub_none _) ?_ | fail))
          refine ⟨_, Nat.lt_succ_self _, hJ3.out _ _ _ ⟨?_, k + 1, r3, mv ++ [v + (out.length : Int)], rfl, by omega, hdk4, by rw [← hmv]; simp, by simp [go_sem], by simp [hml], by simpa [go_sem] using hown1⟩⟩
          repeat (refine fr_upd (by decide) ?_)
          exact hfr3
set_option maxHeartbeats 4000000 in
/-- The kids in the node of a tree are not looked at. -/
theorem flat_gen (x : Nd) (ks : List Tr) (c : AV) (hs : sizeT (.mk x ks) ≤ 1000000000) (hk : AllT (fun x n => n ≤ 1000000000) (.mk x ks)) : Pure Tryd.prog 23 [aggL [I x.op, c, I x.kd, I x.n, S x.nm, encL 6 cTr ks]] (encL 5 cNd (flatT (.mk x ks))) := by
  rw [AllT] at hk
  have ihk : ∀ k ∈ ks, Pure Tryd.prog 23 [aggL (cTr k)] (encL 5 cNd (flatT k)) := fun k hk' => flat_ok k (by
    have h1 := sizeL_mem ks k hk'
    rw [sizeT] at hs
    omega) (AllL_mem ks hk.2 k hk')
  have hkf : ∀ k ∈ ks, ∀ y ∈ flatT k, y.kids.length ≤ 1000000000 ∧ ∀ i ∈ y.kids, -1 ≤ i ∧ i ≤ sizeT k := fun k hk' y hy => by
    have h1 := flatT_ok k (AllL_mem ks hk.2 k hk') (fun x n => Iff.rfl) y hy
    exact ⟨h1.own, h1.kids⟩
  have hks := hk.1
  rw [sizeT] at hs
  have hkl := sizeL_len ks
  rw [flatT]
  obtain ⟨R, hR⟩ : ∃ R, flatL ks [] [] = R := ⟨_, rfl⟩
  have hRl := flatL_len ks [] []
  rw [hR] at hRl ⊢
  intro h; refine callK_body Tryd.func23 rfl (by rw [nt23]; simp) ?_; rw [nt23, rs23]
  (repeat' (first | simp [go_sem, X_region, *] | simp (disch := omega) only [om, *] | ((first | refine XC_split ?_ ?_ | refine XG_true ?_ ?_ | refine XG_false ?_ ?_ | refine XRg_true ?_ ?_ | refine XRg_false ?_ ?_) <;> intro hc <;> (try simp only [bl] at hc) <;> (try (exfalso; omega))) | refine XD_w [] [] [] (fun _ => none) mixed (by decide +kernel) (sub_none _) ?_ | fail))
  intro b1 hb1 b4 n1 n2 hb4
  (repeat' (first | simp [go_sem, X_region, *] | simp (disch := omega) only [om, *] | ((first | refine XC_split ?_ ?_ | refine XG_true ?_ ?_ | refine XG_false ?_ ?_ | refine XRg_true ?_ ?_ | refine XRg_false ?_ ?_) <;> intro hc <;> (try simp only [bl] at hc) <;> (try (exfalso; omega))) | refine XD_w [] [] [] (fun _ => none) mixed (by decide +kernel) (sub_none _) ?_ | fail))
  refine X_lpF (fun i => i = 3 ∨ (6 ≤ i ∧ i ≤ 7) ∨ (9 ≤ i ∧ i ≤ 10) ∨ i = 12 ∨ (19 ≤ i ∧ i ≤ 61)) (fun n T g => ∃ (i : Nat) (r : List Tr) (out : List Nd) (kids : List Int) (ob : Ob) (ka : AV), n = r.length ∧ i ≤ ks.length ∧ ks.drop i = r ∧ flatL r out kids = R ∧ T 19 = I i ∧ kids.length = i ∧ (out.length : Int) + sizeL r + 1 ≤ 1000000000 ∧
      Own (upd h b4 (some ob)) g (T 3) 39 5 out.length (cellsL cNd out) ∧ Own (upd h b4 (some ob)) g ka 3 1 kids.length (cellsL cI kids) ∧ ob.ty = 39 ∧ ob.s = 5 ∧ ob.n = 1 ∧ ob.f 0 0 = I x.op ∧ ob.f 0 1 = ka ∧ ob.f 0 2 = I x.kd ∧ ob.f 0 3 = I x.n ∧ ob.f 0 4 = S x.nm) ks.length
    ⟨0, ks, [], [], _, .v (.slice none 0 0), rfl, by omega, rfl, hR, by simp [go_sem], rfl, by simp; omega, by simp only [go_sem]; exact ⟨sub_over hb1, .inl ⟨rfl, .inl (by simp [go_sem])⟩⟩, ⟨sub_over hb1, .inl ⟨rfl, .inl rfl⟩⟩, rfl, rfl, rfl, by simp, by simp, by simp, by simp, by simp⟩ ?_
  clear hR
  rintro J hJ n T g hfr ⟨i, r, out, kids, ob, ka, rfl, hi, hd, hR, t19, hkk, hbd, own5, ownK, p1, p2, p3, f0, f1, f2, f3, f4⟩
  have e4 : g b4 = some ob := own5.1 b4 _ (upd_same _ _ _)
  rcases r with _ | ⟨y, r⟩
  · have hlt := drop_nil hd
    rw [flatL] at hR
    rw [sizeL] at hbd
    subst hR
    dsimp only at *
    (repeat' (first | simp [go_sem, X_region, *] | simp (disch := omega) only [om, *] | ((first | refine XC_split ?_ ?_ | refine XG_true ?_ ?_ | refine XG_false ?_ ?_ | refine XRg_true ?_ ?_ | refine XRg_false ?_ ?_) <;> intro hc <;> (try simp only [bl] at hc) <;> (try (exfalso; omega))) | refine XD_w [] [] [] (fun _ => none) mixed (by decide +kernel) (sub_none _) ?_ | fail))
    intro b hb
    refine X_pushK (x := { x with kids := kids }) own5 (.inl ownK) (by simp [go_sem]) und42 zr39 by39 (by simp [go_sem]) hb (by simp [go_sem]) rfl (Nat.le_refl _) (by simp) (by simp) (by simp) (by simp) (by simp) (by omega) (by omega) (show kids.length ≤ 140737488355328 by omega) fun a1 h1 h2 w1 w2 w3 => ?_
    have w4 := w3.frozen (by simp; omega)
    simp only [List.length_append, List.length_singleton] at w4
    (repeat' (first | simp [go_sem, X_region, *] | simp (disch := omega) only [om, *] | ((first | refine XC_split ?_ ?_ | refine XG_true ?_ ?_ | refine XG_false ?_ ?_ | refine XRg_true ?_ ?_ | refine XRg_false ?_ ?_) <;> intro hc <;> (try simp only [bl] at hc) <;> (try (exfalso; omega))) | refine XD_w [] [] [] (fun _ => none) mixed (by decide +kernel) (sub_none _) ?_ | fail))
    exact ((w2 _).trans w4).trans (Wk.drop _ (Sub.upd hb4 (Sub.refl _)))
  · obtain ⟨hlt, hx, hd2⟩ := drop_cons hd
    have hmem : y ∈ ks := by rw [← hx]; exact List.getElem_mem hlt
    have hcall := ihk y hmem
    have hky := hkf y hmem
    have hly := flatT_len y
    rw [sizeL] at hbd
    rw [flatL] at hR
    have hrp := sizeL_pos r
    generalize flatT y = Y at *
    obtain ⟨yx, yk⟩ := y
    rw [cTr_mk] at hcall
    generalize sizeT (Tr.mk yx yk) = sz at *
    have hlen := len_own own5
    simp only [go_sem] at hlen
    (repeat' (first | simp [go_sem, X_region, *] | simp (disch := omega) only [om, *] | ((first | refine XC_split ?_ ?_ | refine XG_true ?_ ?_ | refine XG_false ?_ ?_ | refine XRg_true ?_ ?_ | refine XRg_false ?_ ?_) <;> intro hc <;> (try simp only [bl] at hc) <;> (try (exfalso; omega))) | refine XD_w [] [] [] (fun _ => none) mixed (by decide +kernel) (sub_none _) ?_ | refine Pure.call (hcall) ?_ | refine ⟨_, Pure.at (hcall), ?_⟩ | refine ⟨_, hcall, ?_⟩ | refine PureAt.call (hcall) ?_ | fail))
    intro b6 hb6
    (repeat' (first | simp [go_sem, X_region, *] | simp (disch := omega) only [om, *] | ((first | refine XC_split ?_ ?_ | refine XG_true ?_ ?_ | refine XG_false ?_ ?_ | refine XRg_true ?_ ?_ | refine XRg_false ?_ ?_) <;> intro hc <;> (try simp only [bl] at hc) <;> (try (exfalso; omega))) | refine XD_w [] [] [] (fun _ => none) mixed (by decide +kernel) (sub_none _) ?_ | refine Pure.call (hcall) ?_ | refine ⟨_, Pure.at (hcall), ?_⟩ | refine ⟨_, hcall, ?_⟩ | refine PureAt.call (hcall) ?_ | fail))
    obtain ⟨OUT, hOUT⟩ : ∃ OUT, out ++ Y.map (shN out.length) = OUT := ⟨_, rfl⟩
    rw [hOUT] at hR
    have hOl : OUT.length = out.length + Y.length := by rw [← hOUT]; simp
    refine X_lpFW (fun i => i = 3 ∨ (9 ≤ i ∧ i ≤ 10) ∨ i = 12 ∨ (28 ≤ i ∧ i ≤ 52)) (fun n T g => ∃ (j : Nat) (r2 acc : List Nd), n = r2.length ∧ j ≤ Y.length ∧ Y.drop j = r2 ∧ acc ++ r2.map (shN out.length) = OUT ∧ T 28 = I j ∧ acc.length = out.length + j ∧
      Own (upd h b4 (some ob)) g (T 3) 39 5 acc.length (cellsL cNd acc) ∧ Own (upd h b4 (some ob)) g ka 3 1 kids.length (cellsL cI kids)) Y.length
      ⟨0, Y, out, rfl, by omega, rfl, hOUT, by simp [go_sem], rfl, by simpa [go_sem] using own5.alloc hb6, ownK.alloc hb6⟩ ?_
    clear hOUT own5 ownK hb6 e4 hlen
    rintro J2 hJ2 n2 T2 g2 hfr2 ⟨j, r2, acc, rfl, hj, hdj, hacc, t28, hal, own5, ownK⟩
    have e4 : g2 b4 = some ob := own5.1 b4 _ (upd_same _ _ _)
    rcases r2 with _ | ⟨z, r2⟩
    · have hltj := drop_nil hdj
      obtain rfl : acc = OUT := by simpa using hacc
      clear hacc
      have hol3 : (out.length : Int) + sz = (acc.length : Int) := by omega
      clear hOl hal
      have hlen := len_own own5
      simp only [go_sem] at hlen
      (repeat' (first | simp [go_sem, X_region, *] | simp (disch := omega) only [om, *] | ((first | refine XC_split ?_ ?_ | refine XG_true ?_ ?_ | refine XG_false ?_ ?_ | refine XRg_true ?_ ?_ | refine XRg_false ?_ ?_) <;> intro hc <;> (try simp only [bl] at hc) <;> (try (exfalso; omega))) | refine XD_w [] [] [] (fun _ => none) mixed (by decide +kernel) (sub_none _) ?_ | fail))
      intro bl hbl
      obtain ⟨HK, oHK, sHK, kHK⟩ := own_hole ownK
      refine Own.push (x := (acc.length : Int) - 1) (enc := cI) oHK (by simp [go_sem]) und37 zr3 by3 (by simp [go_sem]) hbl (by simp [go_sem]) rfl (Nat.le_refl _) (by simp [go_sem]) (by omega) (by omega) fun a1 h1 hown1 hk1 => ?_
      have own52 := own_keep sHK kHK hown1.1 own5 (own_apartT ownK own5 (by decide))
      have ownK2 := own_up sHK hown1
      rw [List.length_append, List.length_singleton, hkk] at ownK2
      obtain ⟨dk, rfl⟩ := own_row ownK2 (by omega)
      have e42 : h1 b4 = some ob := own52.1 b4 _ (upd_same _ _ _)
      (repeat' (first | simp [go_sem, X_region, *] | simp (disch := omega) only [om, *] | ((first | refine XC_split ?_ ?_ | refine XG_true ?_ ?_ | refine XG_false ?_ ?_ | refine XRg_true ?_ ?_ | refine XRg_false ?_ ?_) <;> intro hc <;> (try simp only [bl] at hc) <;> (try (exfalso; omega))) | refine XD_w [] [] [] (fun _ => none) mixed (by decide +kernel) (sub_none _) ?_ | fail))
      have w5 := own_other (o2 := ⟨39, 5, 1, fun i' j' => if i' = 0 ∧ 1 ≤ j' ∧ j' < 2 then .row dk 1 0 (i + 1) else ob.f i' j'⟩) own52 (upd_same _ _ _)
      have wK := own_other (o2 := ⟨39, 5, 1, fun i' j' => if i' = 0 ∧ 1 ≤ j' ∧ j' < 2 then .row dk 1 0 (i + 1) else ob.f i' j'⟩) ownK2 (upd_same _ _ _)
      rw [upd_upd] at w5 wK
      exact ⟨_, Nat.lt_succ_self _, hJ.out _ _ _ ⟨(by (repeat (refine fr_upd (by decide) ?_)); exact fr_in (by intro i; omega) hfr2 (by (repeat (refine fr_upd (by decide) ?_)); exact hfr)), i + 1, r, acc, kids ++ [(acc.length : Int) - 1], _, .row dk 1 0 (i + 1), rfl, by omega, hd2, hR, by simp [go_sem], by simp [hkk], by omega, by simpa [go_sem] using w5, by rw [List.length_append, List.length_singleton, hkk]; exact wK, rfl, rfl, rfl, by simp [f0], by simp, by simp [f2], by simp [f3], by simp [f4]⟩⟩
    · obtain ⟨hltj, hxj, hdj2⟩ := drop_cons hdj
      obtain ⟨hz1, hz2⟩ := hky z (by rw [← hxj]; exact List.getElem_mem hltj)
      (repeat' (first | simp [go_sem, X_region, *] | simp (disch := omega) only [om, *] | ((first | refine XC_split ?_ ?_ | refine XG_true ?_ ?_ | refine XG_false ?_ ?_ | refine XRg_true ?_ ?_ | refine XRg_false ?_ ?_) <;> intro hc <;> (try simp only [bl] at hc) <;> (try (exfalso; omega))) | refine XD_w [] [] [] (fun _ => none) mixed (by decide +kernel) (sub_none _) ?_ | fail))
      intro b9 hb9
      (repeat' (first | simp [go_sem, X_region, *] | simp (disch := omega) only [om, *] | ((first | refine XC_split ?_ ?_ | refine XG_true ?_ ?_ | refine XG_false ?_ ?_ | refine XRg_true ?_ ?_ | refine XRg_false ?_ ?_) <;> intro hc <;> (try simp only [bl] at hc) <;> (try (exfalso; omega))) | refine XD_w [] [] [] (fun _ => none) mixed (by decide +kernel) (sub_none _) ?_ | fail))
      refine X_lpH (fun i => i = 10 ∨ i = 12 ∨ (35 ≤ i ∧ i ≤ 45)) (fun hE n T g => ∃ (k : Nat) (r3 mv : List Int), n = r3.length ∧ k ≤ z.kids.length ∧ z.kids.drop k = r3 ∧ mv ++ r3.map (· + (out.length : Int)) = z.kids.map (· + (out.length : Int)) ∧ T 35 = I k ∧ mv.length = k ∧ Own hE g (T 10) 3 1 mv.length (cellsL cI mv)) z.kids.length
        ⟨0, z.kids, [], rfl, by omega, rfl, by simp, by simp [go_sem], rfl, by simpa [go_sem] using Own.none⟩ ?_
      rintro hE hEq J3 hJ3 n3 T3 g3 hfr3 ⟨k, r3, mv, rfl, hk3, hdk3, hmv, t35, hml, ownM⟩
      obtain ⟨ob9, hob, q1, q2, q3, u0, u1, u2, u3, u4⟩ : ∃ ob9 : Ob, hE = upd g2 b9 (some ob9) ∧ ob9.ty = 39 ∧ ob9.s = 5 ∧ ob9.n = 1 ∧ ob9.f 0 0 = I z.op ∧ ob9.f 0 1 = encL 1 cI z.kids ∧ ob9.f 0 2 = I z.kd ∧ ob9.f 0 3 = I z.n ∧ ob9.f 0 4 = S z.nm := ⟨_, hEq.symm, rfl, rfl, rfl, by simp, by simp [go_sem], by simp, by simp, by simp⟩
      clear hEq
      subst hob
      have e9 : g3 b9 = some ob9 := ownM.1 b9 _ (upd_same _ _ _)
      rcases r3 with _ | ⟨v, r3⟩
      · have hltk := drop_nil hdk3
        have hmv2 : mv = z.kids.map (· + (out.length : Int)) := by simpa using hmv
        clear hmv
        subst hmv2
        have hcM := own_cells ownM
        obtain ⟨H0, oH, sH, kH⟩ := own_hole own5
        have h09 : H0 b9 = none := sub_none_of oH.1 hb9
        have o5 := own_grow (own_with (oc := ob9) oH hb9) ownM.1
        have sM : Sub (upd H0 b9 (some ob9)) (upd g2 b9 (some ob9)) := (own_with (oc := ob9) oH hb9).1
        have oM := own_up sM ownM
        (repeat' (first | simp [go_sem, X_region, *] | simp (disch := omega) only [om, *] | ((first | refine XC_split ?_ ?_ | refine XG_true ?_ ?_ | refine XG_false ?_ ?_ | refine XRg_true ?_ ?_ | refine XRg_false ?_ ?_) <;> intro hc <;> (try simp only [bl] at hc) <;> (try (exfalso; omega))) | refine XD_w [] [] [] (fun _ => none) mixed (by decide +kernel) (sub_none _) ?_ | fail))
        intro bl hl1 hl2 hbl
        have w5 := own_other (o2 := ⟨39, 5, 1, fun i' j' => if i' = 0 ∧ 1 ≤ j' ∧ j' < 2 then T3 10 else ob9.f i' j'⟩) o5 (upd_same _ _ _)
        have wM := own_other (o2 := ⟨39, 5, 1, fun i' j' => if i' = 0 ∧ 1 ≤ j' ∧ j' < 2 then T3 10 else ob9.f i' j'⟩) oM (upd_same _ _ _)
        rw [upd_upd] at w5 wM
        refine X_pushK (x := shN out.length z) w5 (.inl wM) (by simp [go_sem]) und42 zr39 by39 (by simp [go_sem]) (by rw [upd_ne _ _ hl1]; exact hbl) (by simp [go_sem]) rfl (Nat.le_refl _) (by simp [shN, u0]) (by simp) (by simp [shN, u2]) (by simp [shN, u3]) (by simp [shN, u4]) (by omega) (by omega) (by simp [shN]; omega) fun a1 h1 h2 w1 w2 w3 => ?_
        have s9 : Sub H0 (upd H0 b9 (some ⟨39, 5, 1, fun i' j' => if i' = 0 ∧ 1 ≤ j' ∧ j' < 2 then T3 10 else ob9.f i' j'⟩)) := Sub.upd h09 (Sub.refl _)
        have y5 := own_up (sH.trans s9) w3
        have yK := own_keep sH kH (s9.trans w3.1) ownK (own_apartT own5 ownK (by decide))
        (repeat' (first | simp [go_sem, X_region, *] | simp (disch := omega) only [om, *] | ((first | refine XC_split ?_ ?_ | refine XG_true ?_ ?_ | refine XG_false ?_ ?_ | refine XRg_true ?_ ?_ | refine XRg_false ?_ ?_) <;> intro hc <;> (try simp only [bl] at hc) <;> (try (exfalso; omega))) | refine XD_w [] [] [] (fun _ => none) mixed (by decide +kernel) (sub_none _) ?_ | fail))
        refine ⟨_, Nat.lt_succ_self _, hJ2 _ _ _ h2 (w1 _ _) ?_ ⟨j + 1, r2, acc ++ [shN out.length z], rfl, by omega, hdj2, by rw [← hacc]; simp, by simp [go_sem], by simp; omega, by simpa [go_sem] using y5, yK⟩⟩
        repeat (refine fr_upd (by decide) ?_)
        refine fr_in (by intro i; omega) hfr3 ?_
        repeat (refine fr_upd (by decide) ?_)
        exact hfr2
      · obtain ⟨hltk, hxk, hdk4⟩ := drop_cons hdk3
        have hv := hz2 v (by rw [← hxk]; exact List.getElem_mem hltk)
        (repeat' (first | simp [go_sem, X_region, *] | simp (disch := omega) only [om, *] | ((first | refine XC_split ?_ ?_ | refine XG_true ?_ ?_ | refine XG_false ?_ ?_ | refine XRg_true ?_ ?_ | refine XRg_false ?_ ?_) <;> intro hc <;> (try simp only [bl] at hc) <;> (try (exfalso; omega))) | refine XD_w [] [] [] (fun _ => none) mixed (by decide +kernel) (sub_none _) ?_ | fail))
        intro bl hbl
        refine Own.push (x := v + (out.length : Int)) (enc := cI) ownM (by simp [go_sem]) und37 zr3 by3 (by simp [go_sem]) hbl (by simp [go_sem]) rfl (Nat.le_refl _) (by simp [go_sem]) (by omega) (by omega) fun a1 h1 hown1 hk1 => ?_
        (repeat' (first | simp [go_sem, X_region, *] | simp (disch := omega) only [om, *] | ((first | refine XC_split ?_ ?_ | refine XG_true ?_ ?_ | refine XG_false ?_ ?_ | refine XRg_true ?_ ?_ | refine XRg_false ?_ ?_) <;> intro hc <;> (try simp only [bl] at hc) <;> (try (exfalso; omega))) | refine XD_w [] [] [] (fun _ => none) mixed (by decide +kernel) (sub_none _) ?_ | fail))
        refine ⟨_, Nat.lt_succ_self _, hJ3.out _ _ _ ⟨?_, k + 1, r3, mv ++ [v + (out.length : Int)], rfl, by omega, hdk4, by rw [← hmv]; simp, by simp [go_sem], by simp [hml], by simpa [go_sem] using hown1⟩⟩
        repeat (refine fr_upd (by decide) ?_)
        exact hfr3
theorem flat_at {e : List Nd} (q : chkE (oneE nameF) e = 0) (p : Nat) (hp : p < e.length) : Pure Tryd.prog 23 [aggL (cTr (treeAt e p))] (encL 5 cNd (flatT (treeAt e p))) := by
  obtain ⟨a1, a2, hv, hk3, hsz⟩ := chk_facts q
  have h1 := hsz p hp
  exact flat_ok _ (by omega) (treeAt_all hv _ (fun i x hx => by have := hk3 i x hx; omega) p hp)
theorem tree_at {e : List Nd} (q : chkE (oneE nameF) e = 0) (p : Nat) (hp : p < e.length) : Pure Tryd.prog 21 [encL 5 cNd e, I p] (aggL (cTr (treeAt e p))) := by
  obtain ⟨a1, a2, hv, hk3, hsz⟩ := chk_facts q
  exact rtree_ok e hv hk3 p hp
theorem post_ok (e : List Nd) : Pure Tryd.prog 28 [encL 5 cNd e] (encL 5 cNd (cutF e (e.length - 1))) := by
  have hc := rerr_ok e
  rw [tree_chk] at hc
  unfold cutF
  by_cases q : chkE (oneE nameF) e = 0
  case neg =>
    rw [if_neg (fun h => q h.1)]
    generalize chkE (oneE nameF) e = c at *
    intro h; refine callK_body Tryd.func28 rfl (by rw [nt28]; simp) ?_; rw [nt28, rs28]
    (repeat' (first | simp [go_sem, X_region, *] | simp (disch := omega) only [om, *] | ((first | refine XC_split ?_ ?_ | refine XG_true ?_ ?_ | refine XG_false ?_ ?_ | refine XRg_true ?_ ?_ | refine XRg_false ?_ ?_) <;> intro hc <;> (try simp only [bl] at hc) <;> (try (exfalso; omega))) | refine XD_w [] [] [] (fun _ => none) mixed (by decide +kernel) (sub_none _) ?_ | refine Pure.call (hc) ?_ | refine ⟨_, Pure.at (hc), ?_⟩ | refine ⟨_, hc, ?_⟩ | refine PureAt.call (hc) ?_ | fail))
    exact Wk.nil
  obtain ⟨a1, a2, _⟩ := chk_facts q
  rw [if_pos ⟨q, by omega, by omega⟩]
  obtain ⟨m, hm⟩ : ∃ m, e.length = m + 1 := ⟨e.length - 1, by omega⟩
  have h1 := tree_at q m (by omega)
  have h2 := flat_at q m (by omega)
  have hm1 : ((e.length : Nat) : Int) - 1 = (m : Int) := by omega
  rw [q] at hc
  rw [hm1, Int.toNat_natCast]
  clear hm
  generalize flatT (treeAt e m) = F at *
  generalize treeAt e m = t at *
  obtain ⟨tx, tk⟩ := t
  rw [cTr_mk] at h1 h2
  intro h; refine callK_body Tryd.func28 rfl (by rw [nt28]; simp) ?_; rw [nt28, rs28]
  (repeat' (first | simp [go_sem, X_region, *] | simp (disch := omega) only [om, *] | ((first | refine XC_split ?_ ?_ | refine XG_true ?_ ?_ | refine XG_false ?_ ?_ | refine XRg_true ?_ ?_ | refine XRg_false ?_ ?_) <;> intro hc <;> (try simp only [bl] at hc) <;> (try (exfalso; omega))) | refine XD_w [] [] [] (fun _ => none) mixed (by decide +kernel) (sub_none _) ?_ | refine Pure.call (hc) ?_ | refine ⟨_, Pure.at (hc), ?_⟩ | refine ⟨_, hc, ?_⟩ | refine PureAt.call (hc) ?_ | refine Pure.call (h1) ?_ | refine ⟨_, Pure.at (h1), ?_⟩ | refine ⟨_, h1, ?_⟩ | refine PureAt.call (h1) ?_ | refine Pure.call (h2) ?_ | refine ⟨_, Pure.at (h2), ?_⟩ | refine ⟨_, h2, ?_⟩ | refine PureAt.call (h2) ?_ | fail))
end Go.Proofs.YtmalhikcdideoaaDoor

set_option linter.unusedVariables false
set_option linter.unusedSimpArgs false
namespace Go.Proofs.YtmalhikcdideoaaDoor
open Go Sl
attribute [local irreducible] XRange LpQ XR XRo XRg XRQ putQ XFv XL XW2 wQ putW X XO XOp XH XHo XW SeqQ BlkQ XOQ XHQ NrmQ XC XM XG XHM XHG XD CallK
open Go.RowKit
theorem clone_big (l : List Int) (h0 : 0 < l.length) (h1 : l.length ≤ 1048576) (h : Hp) : CallK Tryd.prog h 61 [encL 1 cI l] fun r h' => Own h h' r 3 1 l.length (cellsL cI l) := by
  refine callK_body Tryd.func61 rfl (by rw [nt61]; simp) ?_; rw [nt61, rs61]
  (repeat' (first | simp [go_sem, X_region, *] | simp (disch := omega) only [om, *] | ((first | refine XC_split ?_ ?_ | refine XG_true ?_ ?_ | refine XG_false ?_ ?_ | refine XRg_true ?_ ?_ | refine XRg_false ?_ ?_) <;> intro hc <;> (try simp only [bl] at hc) <;> (try (exfalso; omega))) | refine XD_w [] [] [] (fun _ => none) mixed (by decide +kernel) (sub_none _) ?_ | fail))
  refine Own.append (h0 := h) (e := 3) (s := 1) (n := 0) (f := fun _ _ => .any) (m := l.length) (q := cellsL cI l) ⟨Sub.refl h, .inl ⟨rfl, .inr (by simp [go_sem])⟩⟩ und37 zr3 by3 (by simp [go_sem]) (by simp [go_sem]) (by omega) (by omega) fun a h' ho _ => ?_
  simp only [Nat.zero_add, Nat.not_lt_zero, if_false, Nat.sub_zero] at ho
  (repeat' (first | simp [go_sem, X_region, *] | simp (disch := omega) only [om, *] | ((first | refine XC_split ?_ ?_ | refine XG_true ?_ ?_ | refine XG_false ?_ ?_ | refine XRg_true ?_ ?_ | refine XRg_false ?_ ?_) <;> intro hc <;> (try simp only [bl] at hc) <;> (try (exfalso; omega))) | refine XD_w [] [] [] (fun _ => none) mixed (by decide +kernel) (sub_none _) ?_ | fail))
  exact ⟨_, _, Wk.refl _ _, ho⟩
/-- slices.Clone on kids, whatever they are: a slice of the call's own, or an empty one. -/
theorem clone_any (l : List Int) (h1 : l.length ≤ 1048576) (h : Hp) : CallK Tryd.prog h 61 [encL 1 cI l] fun r h' => (0 < l.length ∧ Own h h' r 3 1 l.length (cellsL cI l)) ∨ (l = [] ∧ r = encL 1 cI [] ∧ h' = h) := by
  rcases Nat.eq_zero_or_pos l.length with hz | hp
  · obtain rfl := List.length_eq_zero_iff.1 hz
    refine (clone_0 _ (cellsL cI []) h).mono ?_
    rintro r h' ⟨rfl, rfl⟩
    exact .inr ⟨rfl, rfl, rfl⟩
  · exact (clone_big l hp h1 h).mono fun r h' o => .inl ⟨hp, o⟩
theorem Kds.other {B g : Hp} {k : AV} {ks : List Int} {b : Nat} {o1 o2 : Ob} (o : Kds B g k ks) (hb : B b = some o1) : Kds (upd B b (some o2)) (upd g b (some o2)) k ks := by
  rcases o with o | rfl
  · exact .inl (own_other o hb)
  · exact .inr rfl
/-- A node's kids are cloned; the node lies in a block of its own. -/
theorem clone_call {g : Hp} {b : Nat} {ob : Ob} {x : Nd} {K : AV → Hp → Prop} (hl : x.kids.length ≤ 1048576) (p1 : ob.ty = 39) (p2 : ob.s = 5) (p3 : ob.n = 1) (f0 : ob.f 0 0 = I x.op) (f2 : ob.f 0 2 = I x.kd) (f3 : ob.f 0 3 = I x.n) (f4 : ob.f 0 4 = S x.nm)
    (hk : ∀ (ob : Ob) (r : AV) (g1 : Hp), ob.ty = 39 → ob.s = 5 → ob.n = 1 → ob.f 0 0 = I x.op → ob.f 0 2 = I x.kd → ob.f 0 3 = I x.n → ob.f 0 4 = S x.nm → Sub (upd g b (some ob)) g1 → Kds (upd g b (some ob)) g1 r x.kids → K r g1) : CallK Tryd.prog (upd g b (some ob)) 61 [encL 1 cI x.kids] K := by
  refine (clone_any x.kids hl _).mono fun r g1 hr => hk ob r g1 p1 p2 p3 f0 f2 f3 f4 ?_ ?_
  · rcases hr with ⟨_, o⟩ | ⟨_, _, rfl⟩
    · exact o.1
    · exact Sub.refl _
  · rcases hr with ⟨_, o⟩ | ⟨h1, h2, _⟩
    · exact .inl o
    · exact .inr (by rw [h1]; exact h2)
theorem Kds.up {B0 B g : Hp} {k : AV} {ks : List Int} (o : Kds B g k ks) (hS : Sub B0 B) : Kds B0 g k ks := by
  rcases o with o | rfl
  · exact .inl (own_up hS o)
  · exact .inr rfl
set_option maxHeartbeats 4000000 in
theorem copy_ok (e : List Nd) (he : e.length ≤ 1048576) (hk : ∀ x ∈ e, x.kids.length ≤ 1048576) : Pure Tryd.prog 29 [encL 5 cNd e] (encL 5 cNd e) := by
  intro h; refine CallK.lens fun hlen => ?_; have hlen := (hlen _ (by simp only [List.mem_cons, true_or, or_true] : (encL 5 cNd e) ∈ _)).encL; refine callK_body Tryd.func29 rfl (by rw [nt29]; simp) ?_; rw [nt29, rs29]
  (repeat' (first | simp [go_sem, X_region, *] | simp (disch := omega) only [om, *] | ((first | refine XC_split ?_ ?_ | refine XG_true ?_ ?_ | refine XG_false ?_ ?_ | refine XRg_true ?_ ?_ | refine XRg_false ?_ ?_) <;> intro hc <;> (try simp only [bl] at hc) <;> (try (exfalso; omega))) | refine XD_w [] [] [] (fun _ => none) mixed (by decide +kernel) (sub_none _) ?_ | fail))
  refine X_lpFW (fun i => i = 3 ∨ i = 5 ∨ (8 ≤ i ∧ i ≤ 20)) (fun n T g => ∃ (i : Nat) (r acc : List Nd), n = r.length ∧ i ≤ e.length ∧ e.drop i = r ∧ acc ++ r = e ∧ acc.length = i ∧ T 8 = I i ∧ Own h g (T 3) 39 5 acc.length (cellsL cNd acc)) e.length
    ⟨0, e, [], rfl, by omega, rfl, rfl, rfl, by simp [go_sem], by simpa [go_sem] using Own.none⟩ ?_
  rintro J hJ n T g hfr ⟨i, r, acc, rfl, hi, hd, hacc, hal, t8, own⟩
  rcases r with _ | ⟨x, r⟩
  · have hlt := drop_nil hd
    rw [List.append_nil] at hacc
    subst hacc
    have w4 := own.frozen (by omega)
    rw [hal] at w4
    (repeat' (first | simp [go_sem, X_region, *] | simp (disch := omega) only [om, *] | ((first | refine XC_split ?_ ?_ | refine XG_true ?_ ?_ | refine XG_false ?_ ?_ | refine XRg_true ?_ ?_ | refine XRg_false ?_ ?_) <;> intro hc <;> (try simp only [bl] at hc) <;> (try (exfalso; omega))) | refine XD_w [] [] [] (fun _ => none) mixed (by decide +kernel) (sub_none _) ?_ | fail))
    all_goals exact w4
  · obtain ⟨hlt, hx, hd2⟩ := drop_cons hd
    have hxk := hk x (by rw [← hx]; exact List.getElem_mem hlt)
    (repeat' (first | simp [go_sem, X_region, *] | simp (disch := omega) only [om, *] | ((first | refine XC_split ?_ ?_ | refine XG_true ?_ ?_ | refine XG_false ?_ ?_ | refine XRg_true ?_ ?_ | refine XRg_false ?_ ?_) <;> intro hc <;> (try simp only [bl] at hc) <;> (try (exfalso; omega))) | refine XD_w [] [] [] (fun _ => none) mixed (by decide +kernel) (sub_none _) ?_ | fail))
    intro b5 hb5
    (repeat' (first | simp [go_sem, X_region, *] | simp (disch := omega) only [om, *] | ((first | refine XC_split ?_ ?_ | refine XG_true ?_ ?_ | refine XG_false ?_ ?_ | refine XRg_true ?_ ?_ | refine XRg_false ?_ ?_) <;> intro hc <;> (try simp only [bl] at hc) <;> (try (exfalso; omega))) | refine XD_w [] [] [] (fun _ => none) mixed (by decide +kernel) (sub_none _) ?_ | fail))
    refine clone_call (x := x) hxk rfl rfl rfl (by simp) (by simp) (by simp) (by simp) fun ob r1 g1 p1 p2 p3 f0 f2 f3 f4 hs hr => ?_
    have e5 : g1 b5 = some ob := hs b5 _ (upd_same _ _ _)
    obtain ⟨H0, oH, sH, kH⟩ := own_hole own
    have h05 : H0 b5 = none := sub_none_of oH.1 hb5
    have o5 := own_grow (own_with (oc := ob) oH hb5) hs
    have oM := hr.up (own_with (oc := ob) oH hb5).1
    have hcM := hr.cells
    (repeat' (first | simp [go_sem, X_region, *] | simp (disch := omega) only [om, *] | ((first | refine XC_split ?_ ?_ | refine XG_true ?_ ?_ | refine XG_false ?_ ?_ | refine XRg_true ?_ ?_ | refine XRg_false ?_ ?_) <;> intro hc <;> (try simp only [bl] at hc) <;> (try (exfalso; omega))) | refine XD_w [] [] [] (fun _ => none) mixed (by decide +kernel) (sub_none _) ?_ | fail))
    intro bl hl1 hl2 hbl
    have w5 := own_other (o2 := ⟨39, 5, 1, fun i' j' => if i' = 0 ∧ 1 ≤ j' ∧ j' < 2 then r1 else ob.f i' j'⟩) o5 (upd_same _ _ _)
    have wM := oM.other (o2 := ⟨39, 5, 1, fun i' j' => if i' = 0 ∧ 1 ≤ j' ∧ j' < 2 then r1 else ob.f i' j'⟩) (upd_same _ _ _)
    rw [upd_upd] at w5 wM
    refine X_pushK (x := x) w5 wM (by simp [go_sem]) und42 zr39 by39 (by simp [go_sem]) (by rw [upd_ne _ _ hl1]; exact hbl) (by simp [go_sem]) rfl (Nat.le_refl _) (by simp [f0]) (by simp) (by simp [f2]) (by simp [f3]) (by simp [f4]) (by omega) (by omega) (by omega) fun a1 h1 h2 w1 w2 w3 => ?_
    have y5 := own_up (sH.trans (Sub.upd h05 (Sub.refl _))) w3
    (repeat' (first | simp [go_sem, X_region, *] | simp (disch := omega) only [om, *] | ((first | refine XC_split ?_ ?_ | refine XG_true ?_ ?_ | refine XG_false ?_ ?_ | refine XRg_true ?_ ?_ | refine XRg_false ?_ ?_) <;> intro hc <;> (try simp only [bl] at hc) <;> (try (exfalso; omega))) | refine XD_w [] [] [] (fun _ => none) mixed (by decide +kernel) (sub_none _) ?_ | fail))
    exact ⟨_, Nat.lt_succ_self _, hJ _ _ _ h2 (w1 _ _) (by (repeat (refine fr_upd (by decide) ?_)); exact hfr) ⟨i + 1, r, acc ++ [x], rfl, by omega, hd2, by rw [← hacc]; simp, by simp [hal], by simp [go_sem], by simpa [go_sem] using y5⟩⟩
end Go.Proofs.YtmalhikcdideoaaDoor
