/- Trees: what mootref2.Tree answers, and how deep trees are. In a valid expression the part below a node is no larger than the node's place. mootref2.Tree, its Depth; tree.Deep. Names: what is sorted and bare of repetitions is one list, however it was made. DERIVED: THE SHELF's CONTRACTS AT THIS DUMP, IN PLAIN WORDS (tools/lay-plain.mjs out of 'RedShelf.lean', which tools/lay-shelf.mjs wrote): THE S -/
import Derived.Test.YtmalhikcdideoaaDoorM1
import Derived.Lib.SlicesCompact
import Derived.Shelf.Strconv.Itoa3
import Derived.Shelf.Strings.Builder1
import Derived.Shelf.Sort.Plain
import Derived.Test.YtmalhikcdideoaaDoorProg
import Derived.Shelf.Slices.CompactS
import Derived.Shelf.Slices.Clone
import Derived.Test.YtmalhikcdideoaaDoorSlS
import Derived.ChangeArms
import Derived.ChangeOld
import Derived.SizedLaws
import Derived.ChangeShapes
import Derived.WideShapes
import Derived.Test.YtmalhikcdideoaaDoorRows
import Derived.Test.YtmalhikcdideoaaDoorM0
import Derived.Test.YtmalhikcdideoaaDoorFactsB
import Derived.WalkKit
import Derived.ProofKit
import Derived.OpenShut
import Derived.KernelRfl
import Derived.MakeChecks
set_option linter.unusedVariables false
set_option linter.unusedSimpArgs false
namespace Go.Proofs.YtmalhikcdideoaaDoor
open Go Sl
attribute [local irreducible] XRange LpQ XR XRo XRg XRQ putQ XFv XL XW2 wQ putW X XO XOp XH XHo XW SeqQ BlkQ XOQ XHQ NrmQ XC XM XG XHM XHG XD CallK
open Go.RowKit
inductive Tr where
  | mk (x : Nd) (kids : List Tr)
mutual
def cTr : Tr → List AV
  | .mk x ks => [I x.op, .v (.slice none 0 0), I x.kd, I x.n, S x.nm, .sl 6 ks.length (cTrL ks)]
def cTrL : List Tr → Nat → Nat → AV
  | [] => fun _ _ => .any
  | t :: r => fun i j => if i = 0 then (cTr t).getD j .any else cTrL r (i - 1) j
end
theorem cTrL_eq : ∀ ks : List Tr, cTrL ks = cellsL cTr ks
  | [] => by funext i j; simp [cTrL, cellsL]
  | t :: r => by
    funext i j
    rw [cTrL, cTrL_eq r]
    rcases i with _ | i
    · simp [cellsL]
    · simp [cellsL]
@[go_sem] theorem cTr_mk (x : Nd) (ks : List Tr) : cTr (.mk x ks) = [I x.op, .v (.slice none 0 0), I x.kd, I x.n, S x.nm, encL 6 cTr ks] := by
  rw [cTr, cTrL_eq]; rfl
@[go_sem] theorem cTr_len (t : Tr) : (cTr t).length = 6 := by
  obtain ⟨x, ks⟩ := t
  rw [cTr_mk]; rfl
mutual
def depthT : Tr → Int
  | .mk _ ks => depthL ks 0 + 1
def depthL : List Tr → Int → Int
  | [], m => m
  | t :: r, m => depthL r (max m (depthT t))
end
def nd0 : Nd := ⟨0, [], 0, 0, ⟨#[]⟩⟩
def bare (x : Nd) : Nd := { x with kids := [] }
def ndAt (e : List Nd) (p : Nat) : Nd := e.getD p nd0
/-- The part of an expression below a node, as a tree; the first number is how far one may go down. -/
def treeF (e : List Nd) : Nat → Nat → Tr
  | 0, p => .mk (bare (ndAt e p)) []
  | f + 1, p => .mk (bare (ndAt e p)) ((ndAt e p).kids.map fun k => treeF e f k.toNat)
/-- Kids stand ahead of their nodes. -/
structure Vd (e : List Nd) : Prop where
  out : ∀ (i : Nat) (x : Nd), e[i]? = some x → ∀ k ∈ x.kids, 0 ≤ k ∧ k < (i : Int)
theorem Vd.at {e : List Nd} (h : Vd e) (p : Nat) : ∀ k ∈ (ndAt e p).kids, 0 ≤ k ∧ k < (p : Int) := by
  unfold ndAt
  rw [List.getD_eq_getElem?_getD]
  cases hx : e[p]? with
  | none => intro k hk; cases hk
  | some x => exact h.out p x hx
theorem treeF_fuel {e : List Nd} (h : Vd e) : ∀ (f f' p : Nat), p < f → p < f' → treeF e f p = treeF e f' p
  | 0, _, _, h1, _ => absurd h1 (Nat.not_lt_zero _)
  | _, 0, _, _, h2 => absurd h2 (Nat.not_lt_zero _)
  | f + 1, f' + 1, p, h1, h2 => by
    unfold treeF
    congr 1
    refine List.map_congr_left fun k hk => ?_
    have := h.at p k hk
    exact treeF_fuel h f f' k.toNat (by omega) (by omega)
/-- The tree below node p. -/
def treeAt (e : List Nd) (p : Nat) : Tr := treeF e (p + 1) p
theorem treeAt_eq {e : List Nd} (h : Vd e) (p : Nat) : treeAt e p = .mk (bare (ndAt e p)) ((ndAt e p).kids.map fun k => treeAt e k.toNat) := by
  unfold treeAt
  rw [treeF]
  congr 1
  refine List.map_congr_left fun k hk => ?_
  have := h.at p k hk
  exact treeF_fuel h _ _ _ (by omega) (by omega)
/-- How deep nodes are: what tree.Deep writes down. -/
def maxF (acc : List Int) : List Int → Int → Int
  | [], m => m
  | k :: r, m => maxF acc r (max m (acc.getD k.toNat 0))
def deepsF : List Nd → List Int → List Int
  | [], acc => acc
  | x :: r, acc => deepsF r (acc ++ [maxF acc x.kids 0 + 1])
theorem maxF_depth (e : List Nd) (acc : List Int) : ∀ (ks : List Int) (m : Int), (∀ k ∈ ks, acc.getD k.toNat 0 = depthT (treeAt e k.toNat)) → maxF acc ks m = depthL (ks.map fun k => treeAt e k.toNat) m
  | [], m, _ => by rw [maxF, List.map_nil, depthL]
  | k :: r, m, h => by
    rw [maxF, List.map_cons, depthL, h k (List.mem_cons_self ..)]
    exact maxF_depth e acc r _ fun j hj => h j (List.mem_cons_of_mem _ hj)
theorem deepsF_depth {e : List Nd} (hv : Vd e) : ∀ (r : List Nd) (i : Nat) (acc : List Int), e.drop i = r → acc.length = i → (∀ j, j < i → acc.getD j 0 = depthT (treeAt e j)) →
    (deepsF r acc).length = i + r.length ∧ ∀ j, j < i + r.length → (deepsF r acc).getD j 0 = depthT (treeAt e j)
  | [], i, acc, _, hl, ha => by rw [deepsF]; simpa [hl] using ha
  | x :: r, i, acc, hd, hl, ha => by
    rw [deepsF]
    have hlt : i < e.length := by
      rcases Nat.lt_or_ge i e.length with h | h
      · exact h
      · rw [List.drop_of_length_le h] at hd; cases hd
    rw [List.drop_eq_getElem_cons hlt] at hd
    simp only [List.cons.injEq] at hd
    have hx : e[i]? = some x := by rw [List.getElem?_eq_getElem hlt, hd.1]
    have hnd : ndAt e i = x := by unfold ndAt; rw [List.getD_eq_getElem?_getD, hx]; rfl
    have h1 : maxF acc x.kids 0 + 1 = depthT (treeAt e i) := by
      rw [treeAt_eq hv, depthT, hnd, maxF_depth e acc x.kids 0 fun k hk => by have := hv.out i x hx k hk; exact ha k.toNat (by omega)]
    obtain ⟨h2, h3⟩ := deepsF_depth hv r (i + 1) (acc ++ [maxF acc x.kids 0 + 1]) hd.2 (by simp [hl]) fun j hj => by
      by_cases hji : j < i
      · rw [List.getD_eq_getElem?_getD, List.getElem?_append_left (by omega), ← List.getD_eq_getElem?_getD]; exact ha j hji
      · obtain rfl : j = i := by omega
        rw [List.getD_eq_getElem?_getD, List.getElem?_append_right (by omega), hl, Nat.sub_self, ← h1]; rfl
    rw [List.length_cons]
    exact ⟨by omega, fun j hj => h3 j (by omega)⟩
/-- What tree.Deep answers of an expression that is valid. -/
def deepF (e : List Nd) : Int := (deepsF e []).getD (e.length - 1) 0
theorem deep_depth {e : List Nd} (hv : Vd e) (hne : e ≠ []) : deepF e = depthT (treeAt e (e.length - 1)) := by
  have hl : 0 < e.length := List.length_pos_iff.2 hne
  obtain ⟨_, h2⟩ := deepsF_depth hv e 0 [] rfl rfl fun j hj => absurd hj (Nat.not_lt_zero j)
  exact h2 _ (by omega)
end Go.Proofs.YtmalhikcdideoaaDoor

set_option linter.unusedVariables false
set_option linter.unusedSimpArgs false
namespace Go.Proofs.YtmalhikcdideoaaDoor
open Go Sl
attribute [local irreducible] XRange LpQ XR XRo XRg XRQ putQ XFv XL XW2 wQ putW X XO XOp XH XHo XW SeqQ BlkQ XOQ XHQ NrmQ XC XM XG XHM XHG XD CallK
open Go.RowKit
mutual
def sizeT : Tr → Int
  | .mk _ ks => sizeL ks + 1
def sizeL : List Tr → Int
  | [] => 0
  | t :: r => sizeT t + sizeL r
end
mutual
theorem sizeT_pos : ∀ t : Tr, 1 ≤ sizeT t
  | .mk _ ks => by rw [sizeT]; have := sizeL_pos ks; omega
theorem sizeL_pos : ∀ ts : List Tr, 0 ≤ sizeL ts
  | [] => by rw [sizeL]; omega
  | t :: r => by rw [sizeL]; have := sizeT_pos t; have := sizeL_pos r; omega
end
theorem sizeL_len : ∀ ts : List Tr, (ts.length : Int) ≤ sizeL ts
  | [] => by rw [sizeL]; simp
  | t :: r => by rw [sizeL, List.length_cons]; have := sizeT_pos t; have := sizeL_len r; omega
theorem sizeL_mem : ∀ (ts : List Tr) (t : Tr), t ∈ ts → sizeT t ≤ sizeL ts
  | u :: r, t, h => by
    rw [sizeL]
    have h1 := sizeT_pos u
    have h2 := sizeL_pos r
    rcases List.mem_cons.1 h with rfl | h
    · omega
    · have := sizeL_mem r t h; omega
mutual
theorem depthT_le : ∀ t : Tr, 1 ≤ depthT t ∧ depthT t ≤ sizeT t
  | .mk _ ks => by
    rw [depthT, sizeT]
    have := depthL_le ks 0 (Int.le_refl _)
    have := sizeL_pos ks
    omega
theorem depthL_le : ∀ (ts : List Tr) (m : Int), 0 ≤ m → m ≤ depthL ts m ∧ depthL ts m ≤ max m (sizeL ts)
  | [], m, h => by rw [depthL, sizeL]; omega
  | t :: r, m, h => by
    rw [depthL, sizeL]
    have h1 := depthT_le t
    have h2 := depthL_le r (max m (depthT t)) (by omega)
    have h3 := sizeL_pos r
    omega
end
def rootSum (s : Nat → Int) (u : List Int) : Nat → Int
  | 0 => 0
  | i + 1 => rootSum s u i + if u.getD i 0 = 0 then s i else 0
theorem rootSum_nonneg {s : Nat → Int} (hs : ∀ p, 0 ≤ s p) (u : List Int) : ∀ i, 0 ≤ rootSum s u i
  | 0 => Int.le_refl _
  | i + 1 => by
    have h1 := rootSum_nonneg hs u i
    have h2 := hs i
    unfold rootSum
    split <;> omega
theorem getD_set (u : List Int) (k j : Nat) (v : Int) (hk : k < u.length) : (u.set k v).getD j 0 = if k = j then v else u.getD j 0 := by
  rw [List.getD_eq_getElem?_getD, List.getElem?_set, List.getD_eq_getElem?_getD]
  by_cases h : k = j
  · rw [if_pos h, if_pos h]; subst h; rw [if_pos hk]; rfl
  · rw [if_neg h, if_neg h]
theorem rootSum_far {s : Nat → Int} (u : List Int) (k : Nat) (v : Int) (hk : k < u.length) : ∀ i, i ≤ k → rootSum s (u.set k v) i = rootSum s u i
  | 0, _ => rfl
  | i + 1, h => by
    unfold rootSum
    have e : ¬ (k = i) := by omega
    rw [rootSum_far u k v hk i (by omega), getD_set u k i v hk, if_neg e]
theorem rootSum_set {s : Nat → Int} (u : List Int) (k : Nat) (hk : k < u.length) (h0 : u.getD k 0 = 0) : ∀ i, k < i → rootSum s (u.set k 1) i = rootSum s u i - s k
  | 0, h => absurd h (Nat.not_lt_zero _)
  | i + 1, h => by
    unfold rootSum
    rw [getD_set u k i 1 hk]
    by_cases hki : k = i
    · subst hki
      rw [rootSum_far u k 1 hk k (Nat.le_refl _), if_pos rfl, if_neg (by decide), if_pos h0]
      omega
    · rw [rootSum_set u k hk h0 i (by omega), if_neg hki]
      omega
def kidSum (s : Nat → Int) : List Int → Int
  | [] => 0
  | k :: r => s k.toNat + kidSum s r
theorem rootSum_use {s : Nat → Int} (i : Nat) : ∀ (ks u u' : List Int), useF u ks = some u' → (∀ k ∈ ks, 0 ≤ k ∧ k < (i : Int)) → i ≤ u.length → (∀ j, 0 ≤ u.getD j 0) →
    rootSum s u' i = rootSum s u i - kidSum s ks ∧ (∀ j, 0 ≤ u'.getD j 0) ∧ ∀ j, i ≤ j → u'.getD j 0 = u.getD j 0
  | [], u, u', h, _, _, h0 => by
    cases h
    exact ⟨by rw [kidSum]; omega, h0, fun _ _ => rfl⟩
  | k :: r, u, u', h, hk, hl, h0 => by
    have h1 := hk k (List.mem_cons_self ..)
    have h2 := h0 k.toNat
    unfold useF at h
    split at h
    · cases h
    · rename_i hle
      have h3 : u.getD k.toNat 0 = 0 := by omega
      rw [h3] at h
      have hkl : k.toNat < u.length := by omega
      obtain ⟨e1, e2, e3⟩ := rootSum_use i r (u.set k.toNat (0 + 1)) u' h (fun j hj => hk j (List.mem_cons_of_mem _ hj)) (by simpa using hl) fun j => by
        rw [getD_set u k.toNat j _ hkl]
        split
        · omega
        · exact h0 j
      refine ⟨?_, e2, fun j hj => ?_⟩
      · rw [e1, kidSum, show ((0 : Int) + 1) = 1 from rfl, rootSum_set u k.toNat hkl h3 i (by omega)]
        omega
      · rw [e3 j hj, getD_set u k.toNat j _ hkl, if_neg (by omega)]
theorem kidSum_size (e : List Nd) : ∀ ks : List Int, kidSum (fun p => sizeT (treeAt e p)) ks = sizeL (ks.map fun k => treeAt e k.toNat)
  | [] => by rw [kidSum, List.map_nil, sizeL]
  | k :: r => by rw [kidSum, List.map_cons, sizeL, kidSum_size e r]
theorem nodes_size (oneE : Nd → Nat → Int) (e : List Nd) (hv : Vd e) : ∀ (r : List Nd) (i : Nat) (u : List Int), e.drop i = r → u.length = e.length → (∀ j, 0 ≤ u.getD j 0) → (∀ j, i ≤ j → u.getD j 0 = 0) → rootSum (fun p => sizeT (treeAt e p)) u i = i → (nodesF oneE r i u).1 = 0 →
    ∀ p, i ≤ p → p < e.length → sizeT (treeAt e p) ≤ p + 1
  | [], i, u, hd, _, _, _, _, _, p, h1, h2 => by
    have := congrArg List.length hd
    simp at this
    omega
  | x :: r, i, u, hd, hl, h0, hz, hs, hn, p, h1, h2 => by
    have hlt : i < e.length := by omega
    rw [List.drop_eq_getElem_cons hlt] at hd
    simp only [List.cons.injEq] at hd
    have hx : e[i]? = some x := by rw [List.getElem?_eq_getElem hlt, hd.1]
    have hnd : ndAt e i = x := by unfold ndAt; rw [List.getD_eq_getElem?_getD, hx]; rfl
    unfold nodesF at hn
    by_cases q : oneE x i = 0
    case neg => rw [if_pos q] at hn; exact absurd hn q
    rw [if_neg (fun h => h q)] at hn
    cases hU : useF u x.kids with
    | none => rw [hU] at hn; cases hn
    | some u' =>
      rw [hU] at hn
      obtain ⟨e1, e2, e3⟩ := rootSum_use (s := fun p => sizeT (treeAt e p)) i x.kids u u' hU (hv.out i x hx) (by omega) h0
      have hsz : sizeT (treeAt e i) = kidSum (fun p => sizeT (treeAt e p)) x.kids + 1 := by
        rw [treeAt_eq hv, sizeT, hnd, kidSum_size]
      have hge := rootSum_nonneg (s := fun p => sizeT (treeAt e p)) (fun p => Int.le_trans (by decide) (sizeT_pos _)) u' i
      by_cases hpi : p = i
      · subst hpi
        omega
      · refine nodes_size oneE e hv r (i + 1) u' hd.2 (by rw [useF_len _ _ _ hU, hl]) e2 (fun j hj => by rw [e3 j (by omega)]; exact hz j (by omega)) ?_ hn p (by omega) h2
        unfold rootSum
        rw [if_pos (by rw [e3 i (Nat.le_refl _)]; exact hz i (Nat.le_refl _)), e1, hs, hsz]
        omega
theorem chk_size (oneE : Nd → Nat → Int) (e : List Nd) (hv : Vd e) (h : chkE oneE e = 0) (p : Nat) (hp : p < e.length) : sizeT (treeAt e p) ≤ p + 1 := by
  unfold chkE at h
  by_cases q1 : 100 < e.length
  · rw [if_pos q1] at h; cases h
  rw [if_neg q1] at h
  by_cases q2 : e.length = 0
  · rw [if_pos q2] at h; cases h
  rw [if_neg q2] at h
  by_cases q3 : (nodesF oneE e 0 (List.replicate e.length 0)).1 = 0
  · have hz : ∀ j, (List.replicate e.length (0 : Int)).getD j 0 = 0 := fun j => by
      rw [List.getD_eq_getElem?_getD, List.getElem?_replicate]
      split <;> rfl
    exact nodes_size oneE e hv e 0 _ rfl (by simp) (fun j => by rw [hz j]; exact Int.le_refl _) (fun j _ => hz j) rfl q3 p (Nat.zero_le _) hp
  · rw [if_pos q3] at h; exact absurd h q3
end Go.Proofs.YtmalhikcdideoaaDoor

set_option linter.unusedVariables false
set_option linter.unusedSimpArgs false
namespace Go.Proofs.YtmalhikcdideoaaDoor
open Go Sl
attribute [local irreducible] XRange LpQ XR XRo XRg XRQ putQ XFv XL XW2 wQ putW X XO XOp XH XHo XW SeqQ BlkQ XOQ XHQ NrmQ XC XM XG XHM XHG XD CallK
open Go.RowKit
theorem depth_ok (t : Tr) (hs : sizeT t ≤ 1000000) : Pure Tryd.prog 45 [aggL (cTr t)] (I (depthT t)) := by
  generalize hn : SizeOf.sizeOf t = n
  induction n using Nat.strongRecOn generalizing t with
  | ind n ih =>
    obtain ⟨x, ks⟩ := t
    have ihk : ∀ k ∈ ks, Pure Tryd.prog 45 [aggL (cTr k)] (I (depthT k)) := fun k hk => ih (SizeOf.sizeOf k) (by
      have := List.sizeOf_lt_of_mem hk
      simp only [Tr.mk.sizeOf_spec] at hn
      omega) k (by
      have h1 := sizeL_mem ks k hk
      rw [sizeT] at hs
      omega) rfl
    clear ih hn
    rw [sizeT] at hs
    have hkl := sizeL_len ks
    have hdl := depthL_le ks 0 (Int.le_refl _)
    rw [cTr_mk, depthT]
    generalize hR : depthL ks 0 = R
    intro h; refine callK_body Tryd.func45 rfl (by rw [nt45]; simp) ?_; rw [nt45, rs45]
    (repeat' (first | simp [go_sem, X_region, *] | simp (disch := omega) only [om, *] | ((first | refine XC_split ?_ ?_ | refine XG_true ?_ ?_ | refine XG_false ?_ ?_ | refine XRg_true ?_ ?_ | refine XRg_false ?_ ?_) <;> intro hc <;> (try simp only [bl] at hc) <;> (try (exfalso; omega))) | refine XD_w [] [] [] (fun _ => none) mixed (by decide +kernel) (sub_none _) ?_ | fail))
    intro b1 hb1
    (repeat' (first | simp [go_sem, X_region, *] | simp (disch := omega) only [om, *] | ((first | refine XC_split ?_ ?_ | refine XG_true ?_ ?_ | refine XG_false ?_ ?_ | refine XRg_true ?_ ?_ | refine XRg_false ?_ ?_) <;> intro hc <;> (try simp only [bl] at hc) <;> (try (exfalso; omega))) | refine XD_w [] [] [] (fun _ => none) mixed (by decide +kernel) (sub_none _) ?_ | fail))
    refine X_lpF (fun i => i = 3 ∨ i = 5 ∨ (9 ≤ i ∧ i ≤ 17)) (fun n T g => ∃ (i : Nat) (r : List Tr) (m : Int), n = r.length ∧ i ≤ ks.length ∧ ks.drop i = r ∧ depthL r m = R ∧ 0 ≤ m ∧ T 9 = I i ∧ T 3 = I m ∧ Sub h g) ks.length ⟨0, ks, 0, rfl, by omega, rfl, hR, Int.le_refl _, by simp [go_sem], by simp [go_sem], Sub.upd hb1 (Sub.refl _)⟩ ?_
    rw [hR] at hdl
    clear hR
    rintro J hJ n T g hfr ⟨i, r, m, rfl, hi, hd, hR, hm0, t9, t3, hsub⟩
    rcases r with _ | ⟨y, r⟩
    · have hlt := drop_nil hd
      rw [depthL] at hR
      subst hR
      (repeat' (first | simp [go_sem, X_region, *] | simp (disch := omega) only [om, *] | ((first | refine XC_split ?_ ?_ | refine XG_true ?_ ?_ | refine XG_false ?_ ?_ | refine XRg_true ?_ ?_ | refine XRg_false ?_ ?_) <;> intro hc <;> (try simp only [bl] at hc) <;> (try (exfalso; omega))) | refine XD_w [] [] [] (fun _ => none) mixed (by decide +kernel) (sub_none _) ?_ | fail))
      exact Wk.drop _ hsub
    · obtain ⟨hlt, hx, hd2⟩ := drop_cons hd
      have hk := ihk y (by rw [← hx]; exact List.getElem_mem hlt)
      rw [depthL] at hR
      obtain ⟨y, kk⟩ := y
      rw [cTr_mk] at hk
      have hdv := depthT_le (Tr.mk y kk)
      generalize depthT (Tr.mk y kk) = dv at *
      (repeat' (first | simp [go_sem, X_region, *] | simp (disch := omega) only [om, *] | ((first | refine XC_split ?_ ?_ | refine XG_true ?_ ?_ | refine XG_false ?_ ?_ | refine XRg_true ?_ ?_ | refine XRg_false ?_ ?_) <;> intro hc <;> (try simp only [bl] at hc) <;> (try (exfalso; omega))) | refine XD_w [] [] [] (fun _ => none) mixed (by decide +kernel) (sub_none _) ?_ | refine Pure.call (hk) ?_ | refine ⟨_, Pure.at (hk), ?_⟩ | refine ⟨_, hk, ?_⟩ | refine PureAt.call (hk) ?_ | fail))
      intro b5 hb5
      (repeat' (first | simp [go_sem, X_region, *] | simp (disch := omega) only [om, *] | ((first | refine XC_split ?_ ?_ | refine XG_true ?_ ?_ | refine XG_false ?_ ?_ | refine XRg_true ?_ ?_ | refine XRg_false ?_ ?_) <;> intro hc <;> (try simp only [bl] at hc) <;> (try (exfalso; omega))) | refine XD_w [] [] [] (fun _ => none) mixed (by decide +kernel) (sub_none _) ?_ | refine Pure.call (hk) ?_ | refine ⟨_, Pure.at (hk), ?_⟩ | refine ⟨_, hk, ?_⟩ | refine PureAt.call (hk) ?_ | fail))
      exact ⟨_, Nat.lt_succ_self _, hJ.out _ _ _ ⟨(by (repeat (refine fr_upd (by decide) ?_)); exact hfr), i + 1, r, max m dv, rfl, by omega, hd2, hR, by omega, by simp [go_sem], by simp [go_sem], Sub.upd (sub_free hsub hb5) hsub⟩⟩
theorem own_other {h0 h : Hp} {a : AV} {e : TypeId} {s n b : Nat} {f : Nat → Nat → AV} {o1 o2 : Ob} (o : Own h0 h a e s n f) (hb : h0 b = some o1) : Own (upd h0 b (some o2)) (upd h b (some o2)) a e s n f := by
  refine o.other hb fun c hc hcb => ?_
  rcases o.2 with ⟨_, h1 | h1⟩ | ⟨gb, og, h1, h2, _⟩
  · rw [hc] at h1; cases h1
  · rw [hc] at h1; cases h1
  · rw [hc] at h1
    cases h1
    rw [hcb, hb] at h2
    cases h2
theorem upd_upd {α : Type} (T : Nat → α) (d : Nat) (x y : α) : upd (upd T d x) d y = upd T d y := by
  funext i
  by_cases h : i = d <;> simp [upd, h]
theorem rtree_ok (e : List Nd) (hv : Vd e) (hk3 : ∀ (i : Nat) (x : Nd), e[i]? = some x → x.kids.length ≤ 3) (p : Nat) (hp : p < e.length) : Pure Tryd.prog 21 [encL 5 cNd e, I p] (aggL (cTr (treeAt e p))) := by
  induction p using Nat.strongRecOn with
  | ind p ih =>
    obtain ⟨x, hxe⟩ : ∃ x, e[p] = x := ⟨_, rfl⟩
    have hx : e[p]? = some x := by rw [List.getElem?_eq_getElem hp, hxe]
    have hnd : ndAt e p = x := by unfold ndAt; rw [List.getD_eq_getElem?_getD, hx]; rfl
    have hkx := hv.out p x hx
    have hk3 := hk3 p x hx
    have ihk : ∀ k ∈ x.kids, Pure Tryd.prog 21 [encL 5 cNd e, I k] (aggL (cTr (treeAt e k.toNat))) := fun k hk => by
      have h1 := hkx k hk
      obtain ⟨m, rfl⟩ : ∃ m : Nat, k = m := ⟨k.toNat, by omega⟩
      rw [Int.toNat_natCast]
      exact ih m (by omega) (by omega)
    clear ih
    rw [treeAt_eq hv, hnd, cTr_mk]
    generalize hR : x.kids.map (fun k => treeAt e k.toNat) = R
    intro h; refine callK_body Tryd.func21 rfl (by rw [nt21]; simp) ?_; rw [nt21, rs21]
    (repeat' (first | simp [go_sem, X_region, *] | simp (disch := omega) only [om, *] | ((first | refine XC_split ?_ ?_ | refine XG_true ?_ ?_ | refine XG_false ?_ ?_ | refine XRg_true ?_ ?_ | refine XRg_false ?_ ?_) <;> intro hc <;> (try simp only [bl] at hc) <;> (try (exfalso; omega))) | refine XD_w [] [] [] (fun _ => none) mixed (by decide +kernel) (sub_none _) ?_ | fail))
    intro b4 hb4 b5 n1 n2 hb5
    refine X_lpF (fun i => i = 7 ∨ (19 ≤ i ∧ i ≤ 31)) (fun n T g => ∃ (i : Nat) (rk : List Int) (acc : List Tr) (ob4 ob : Ob) (a : AV), n = rk.length ∧ i ≤ x.kids.length ∧ x.kids.drop i = rk ∧ acc ++ rk.map (fun k => treeAt e k.toNat) = R ∧ T 19 = I i ∧ acc.length = i ∧
        Own (upd (upd h b4 (some ob4)) b5 (some ob)) g a 45 6 acc.length (cellsL cTr acc) ∧ ob4.s = 6 ∧ ob4.n = 1 ∧ ob4.ty = 45 ∧ ob.s = 6 ∧ ob.n = 1 ∧ ob.ty = 45 ∧ ob.f 0 0 = I x.op ∧ ob.f 0 2 = I x.kd ∧ ob.f 0 3 = I x.n ∧ ob.f 0 4 = S x.nm ∧ ob.f 0 5 = a) x.kids.length
      ⟨0, x.kids, [], _, _, .v (.slice none 0 0), rfl, by omega, rfl, hR, by simp [go_sem], rfl, by simpa [go_sem] using Own.none, rfl, rfl, rfl, rfl, rfl, rfl, by simp [go_sem], by simp [go_sem], by simp [go_sem], by simp [go_sem], by simp [go_sem]⟩ ?_
    clear hR
    rintro J hJ n T g hfr ⟨i, rk, acc, ob4, ob, a, rfl, hi, hd, hR, t19, hacc, hown, p1, p2, p3, q1, q2, q3, f0, f2, f3, f4, f5⟩
    have e5 : g b5 = some ob := hown.1 b5 _ (upd_same _ _ _)
    have e4 : g b4 = some ob4 := hown.1 b4 _ (by rw [upd_ne _ _ n2]; exact upd_same _ _ _)
    rcases rk with _ | ⟨y, rk⟩
    · have hlt := drop_nil hd
      rw [List.map_nil, List.append_nil] at hR
      subst hR
      (repeat' (first | simp [go_sem, X_region, *] | simp (disch := omega) only [om, *] | ((first | refine XC_split ?_ ?_ | refine XG_true ?_ ?_ | refine XG_false ?_ ?_ | refine XRg_true ?_ ?_ | refine XRg_false ?_ ?_) <;> intro hc <;> (try simp only [bl] at hc) <;> (try (exfalso; omega))) | refine XD_w [] [] [] (fun _ => none) mixed (by decide +kernel) (sub_none _) ?_ | fail))
      have w5 := own_other (o2 := ⟨45, 6, 1, fun i' j' => if i' = 0 ∧ 1 ≤ j' ∧ j' < 2 then AV.v (Value.slice none 0 0) else ob.f i' j'⟩) hown (upd_same _ _ _)
      rw [upd_upd] at w5
      have w4 := own_other (o2 := ⟨45, 6, 1, fun i' j' => if i' = 0 ∧ j' < 6 then [I x.op, AV.v (Value.slice none 0 0), I x.kd, I x.n, S x.nm, a][j']?.getD AV.any else ob4.f i' j'⟩) w5 (b := b4) (by rw [upd_ne _ _ n2]; exact upd_same _ _ _)
      have hsb : Sub h (upd (upd (upd h b4 (some ob4)) b5 (some ⟨45, 6, 1, fun i' j' => if i' = 0 ∧ 1 ≤ j' ∧ j' < 2 then AV.v (Value.slice none 0 0) else ob.f i' j'⟩)) b4 (some ⟨45, 6, 1, fun i' j' => if i' = 0 ∧ j' < 6 then [I x.op, AV.v (Value.slice none 0 0), I x.kd, I x.n, S x.nm, a][j']?.getD AV.any else ob4.f i' j'⟩)) := Sub.upd hb4 (Sub.upd hb5 (Sub.upd hb4 (Sub.refl _)))
      refine Wk.aggLM (hsb.trans w4.1) rfl fun j hj => ?_
      have hj : j < 6 := hj
      rcases (show j = 0 ∨ j = 1 ∨ j = 2 ∨ j = 3 ∨ j = 4 ∨ j = 5 by omega) with rfl | rfl | rfl | rfl | rfl | rfl
      · exact Wk.drop _ (hsb.trans w4.1)
      · exact Wk.drop _ (hsb.trans w4.1)
      · exact Wk.drop _ (hsb.trans w4.1)
      · exact Wk.drop _ (hsb.trans w4.1)
      · exact Wk.drop _ (hsb.trans w4.1)
      · rw [hacc] at w4
        exact (w4.frozen (by omega)).trans (Wk.drop _ hsb)
    · obtain ⟨hlt, hxk, hd2⟩ := drop_cons hd
      have hk := ihk y (by rw [← hxk]; exact List.getElem_mem hlt)
      rw [List.map_cons] at hR
      generalize treeAt e y.toNat = tr at *
      (repeat' (first | simp [go_sem, X_region, *] | simp (disch := omega) only [om, *] | ((first | refine XC_split ?_ ?_ | refine XG_true ?_ ?_ | refine XG_false ?_ ?_ | refine XRg_true ?_ ?_ | refine XRg_false ?_ ?_) <;> intro hc <;> (try simp only [bl] at hc) <;> (try (exfalso; omega))) | refine XD_w [] [] [] (fun _ => none) mixed (by decide +kernel) (sub_none _) ?_ | refine Pure.call (hk) ?_ | refine ⟨_, Pure.at (hk), ?_⟩ | refine ⟨_, hk, ?_⟩ | refine PureAt.call (hk) ?_ | fail))
      refine Own.push2 (x := tr) (enc := cTr) hown (by simp [go_sem]) und43 zr45 by45 (by simp [go_sem]) (by simp [go_sem]; rfl) ?_ (by omega) (by omega) fun a1 h1 hown1 hkeep1 => ?_
      · obtain ⟨yy, kk⟩ := tr
        rw [cTr_mk]
        rfl
      have k5 := hown1.1 b5 _ (upd_same _ _ _)
      have hl1 : (acc ++ [tr]).length = i + 1 := by simp [hacc]
      rw [hl1] at hown1
      obtain ⟨gb, rfl⟩ : ∃ gb, a1 = .row gb 6 0 (i + 1) := by
        rcases hown1.2 with ⟨h0, _⟩ | ⟨gb, og, h0, _⟩
        · omega
        · exact ⟨gb, h0⟩
      (repeat' (first | simp [go_sem, X_region, *] | simp (disch := omega) only [om, *] | ((first | refine XC_split ?_ ?_ | refine XG_true ?_ ?_ | refine XG_false ?_ ?_ | refine XRg_true ?_ ?_ | refine XRg_false ?_ ?_) <;> intro hc <;> (try simp only [bl] at hc) <;> (try (exfalso; omega))) | refine XD_w [] [] [] (fun _ => none) mixed (by decide +kernel) (sub_none _) ?_ | fail))
      have w5 := own_other (o2 := ⟨45, 6, 1, fun i' j' => if i' = 0 ∧ 5 ≤ j' ∧ j' < 6 then .row gb 6 0 (i + 1) else ob.f i' j'⟩) hown1 (upd_same _ _ _)
      rw [upd_upd] at w5
      exact ⟨_, Nat.lt_succ_self _, hJ.out _ _ _ ⟨(by (repeat (refine fr_upd (by decide) ?_)); exact hfr), i + 1, rk, acc ++ [tr], ob4, _, .row gb 6 0 (i + 1), rfl, by omega, hd2, by rw [← hR]; simp, by simp [go_sem, *], hl1, by rw [hl1]; exact w5, p1, p2, p3, rfl, rfl, rfl, by simp [f0], by simp [f2], by simp [f3], by simp [f4], by simp⟩⟩
/-- Numbers in a block of the call's own; behind those that are told, 0. -/
structure KndZ (h : Hp) (b n : Nat) (acc : List Int) : Prop where
  out : ∃ o, h b = some o ∧ o.ty = 3 ∧ o.s = 1 ∧ o.n = n ∧ Hid (∀ k, k < n → o.f k 0 = I (acc.getD k 0))
theorem kz_next {acc : List Int} {f : Nat → Nat → AV} {i n : Nat} (v : Int) (hi : acc.length = i) (h : ∀ k, k < n → k ≠ i → f k 0 = I (acc.getD k 0)) :
    ∀ k, k < n → (if k = i ∧ 0 = 0 then AV.v (Value.int IntKind.i64 v) else f k 0) = I ((acc ++ [v]).getD k 0) := by
  intro k hk
  rw [List.getD_eq_getElem?_getD]
  rcases Nat.lt_trichotomy k i with hki | hki | hki
  · rw [if_neg (fun h => by omega), h k hk (by omega), List.getElem?_append_left (by omega), List.getD_eq_getElem?_getD]
  · rw [if_pos ⟨hki, rfl⟩, List.getElem?_append_right (by omega), show k - acc.length = 0 by omega]
    rfl
  · rw [if_neg (fun h => by omega), h k hk (by omega), List.getElem?_eq_none (by simp; omega), List.getD_eq_getElem?_getD, List.getElem?_eq_none (by omega)]
set_option maxHeartbeats 4000000 in
theorem deep_ok (cE : List Nd → Int) (e : List Nd) (hc : Pure Tryd.prog 41 [encL 5 cNd e] (I (cE e)))
    (hke : cE e = 0 → e.length ≤ 100 ∧ e ≠ [] ∧ ∀ (i : Nat) (x : Nd), e[i]? = some x → (∀ k ∈ x.kids, 0 ≤ k ∧ k < i) ∧ x.kids.length ≤ 3) :
    Pure Tryd.prog 44 [encL 5 cNd e] (I (if cE e ≠ 0 then 0 else deepF e)) := by
  generalize hR : (if cE e ≠ 0 then 0 else deepF e) = R
  intro h
  by_cases q1 : cE e = 0
  case neg =>
    rw [if_pos q1] at hR
    subst hR
    refine callK_body Tryd.func44 rfl (by rw [nt44]; simp) ?_; rw [nt44, rs44]
    ((repeat' (first | simp [go_sem, X_region, *] | simp (disch := omega) only [om, *] | ((first | refine XC_split ?_ ?_ | refine XG_true ?_ ?_ | refine XG_false ?_ ?_ | refine XRg_true ?_ ?_ | refine XRg_false ?_ ?_) <;> intro hc <;> (try simp only [bl] at hc) <;> (try (exfalso; omega))) | refine XD_w [] [] [] (fun _ => none) mixed (by decide +kernel) (sub_none _) ?_ | refine Pure.call (hc) ?_ | refine ⟨_, Pure.at (hc), ?_⟩ | refine ⟨_, hc, ?_⟩ | refine PureAt.call (hc) ?_ | (intro bk hbk; (try simp only [go_sem] at hbk)))); all_goals (refine Wk.fin (by repeat (first | exact Sub.refl _ | refine Sub.upd (by simp [*]) ?_)) ?_; first | (simp [*]; done) | (simp only []; (repeat' (first | split | rfl | omega | (simp_all; done))); done) | (simp [*]; (repeat' (first | split | omega | (rw [Bool.eq_iff_iff]; simp; omega))); done) | (simp [*])))
  rw [if_neg (fun h => h q1)] at hR
  rw [q1] at hc
  obtain ⟨hel, hne, hke⟩ := hke q1
  have hne : 0 < e.length := List.length_pos_iff.2 hne
  refine callK_body Tryd.func44 rfl (by rw [nt44]; simp) ?_; rw [nt44, rs44]
  (repeat' (first | simp [go_sem, X_region, *] | simp (disch := omega) only [om, *] | ((first | refine XC_split ?_ ?_ | refine XG_true ?_ ?_ | refine XG_false ?_ ?_ | refine XRg_true ?_ ?_ | refine XRg_false ?_ ?_) <;> intro hc <;> (try simp only [bl] at hc) <;> (try (exfalso; omega))) | refine XD_w [] [] [] (fun _ => none) mixed (by decide +kernel) (sub_none _) ?_ | refine Pure.call (hc) ?_ | refine ⟨_, Pure.at (hc), ?_⟩ | refine ⟨_, hc, ?_⟩ | refine PureAt.call (hc) ?_ | fail))
  refine X_makeSlice (s := 1) (by_ := 8) e.length e.length und37 zr3 by3 (by simp [go_sem]) (by simp [go_sem]) (by omega) (by omega) (by omega) fun b hb => ?_
  (repeat' (first | simp [go_sem, X_region, *] | simp (disch := omega) only [om, *] | ((first | refine XC_split ?_ ?_ | refine XG_true ?_ ?_ | refine XG_false ?_ ?_ | refine XRg_true ?_ ?_ | refine XRg_false ?_ ?_) <;> intro hc <;> (try simp only [bl] at hc) <;> (try (exfalso; omega))) | refine XD_w [] [] [] (fun _ => none) mixed (by decide +kernel) (sub_none _) ?_ | fail))
  refine X_lpF (fun i => (4 ≤ i ∧ i ≤ 5) ∨ i = 7 ∨ (16 ≤ i ∧ i ≤ 47)) (fun k T g => ∃ (i : Nat) (r : List Nd) (acc : List Int), k = r.length ∧ i ≤ e.length ∧ e.drop i = r ∧ (deepsF r acc).getD (e.length - 1) 0 = R ∧ T 16 = I i ∧ acc.length = i ∧ (∀ v ∈ acc, 0 ≤ v ∧ v ≤ i) ∧ Sub h g ∧ KndZ g b e.length acc) e.length ⟨0, e, [], rfl, by omega, rfl, hR, by simp [go_sem], rfl, (fun v hv => by cases hv), Sub.upd hb (Sub.refl _), ⟨_, upd_same _ _ _, rfl, rfl, rfl, ⟨fun k hk => by simp [go_sem]⟩⟩⟩ ?_
  clear hR
  rintro J hJ k T g hfr ⟨i, r, acc, rfl, hi, hd, hR, t16, hacc, hav, hsub, ⟨o, ho, o1, o2, o3, ⟨o4⟩⟩⟩
  rcases r with _ | ⟨x, r⟩
  · have hlt := drop_nil hd
    rw [deepsF] at hR
    subst hR
    obtain ⟨m, hm⟩ : ∃ m, e.length = m + 1 := ⟨e.length - 1, by omega⟩
    have hfm := o4 m (by omega)
    rw [hm, Nat.add_sub_cancel]
    generalize acc.getD m 0 = v at *
    clear o4
    have hm1 : ((e.length : Nat) : Int) - 1 = (m : Int) := by omega
    (repeat' (first | simp [go_sem, X_region, *] | simp (disch := omega) only [om, *] | ((first | refine XC_split ?_ ?_ | refine XG_true ?_ ?_ | refine XG_false ?_ ?_ | refine XRg_true ?_ ?_ | refine XRg_false ?_ ?_) <;> intro hc <;> (try simp only [bl] at hc) <;> (try (exfalso; omega))) | refine XD_w [] [] [] (fun _ => none) mixed (by decide +kernel) (sub_none _) ?_ | fail))
    exact Wk.drop _ hsub
  · obtain ⟨hlt, hx, hd2⟩ := drop_cons hd
    have hxi : e[i]? = some x := List.getElem?_eq_some_iff.2 ⟨hlt, hx⟩
    obtain ⟨hk1, hk2⟩ := hke i x hxi
    rw [deepsF] at hR
    (repeat' (first | simp [go_sem, X_region, *] | simp (disch := omega) only [om, *] | ((first | refine XC_split ?_ ?_ | refine XG_true ?_ ?_ | refine XG_false ?_ ?_ | refine XRg_true ?_ ?_ | refine XRg_false ?_ ?_) <;> intro hc <;> (try simp only [bl] at hc) <;> (try (exfalso; omega))) | refine XD_w [] [] [] (fun _ => none) mixed (by decide +kernel) (sub_none _) ?_ | fail))
    intro b9 hb9
    have n9 := ne_free hb9 ho
    (repeat' (first | simp [go_sem, X_region, *] | simp (disch := omega) only [om, *] | ((first | refine XC_split ?_ ?_ | refine XG_true ?_ ?_ | refine XG_false ?_ ?_ | refine XRg_true ?_ ?_ | refine XRg_false ?_ ?_) <;> intro hc <;> (try simp only [bl] at hc) <;> (try (exfalso; omega))) | refine XD_w [] [] [] (fun _ => none) mixed (by decide +kernel) (sub_none _) ?_ | fail))
    refine X_lpF (fun i => i = 7 ∨ (24 ≤ i ∧ i ≤ 40)) (fun k T g2 => ∃ (j : Nat) (rk : List Int) (o : Ob) (m : Int), k = rk.length ∧ j ≤ x.kids.length ∧ x.kids.drop j = rk ∧ T 24 = I j ∧ Sub h g2 ∧ g2 b = some o ∧ o.ty = 3 ∧ o.s = 1 ∧ o.n = e.length ∧ Hid (∀ k, k < e.length → k ≠ i → o.f k 0 = I (acc.getD k 0)) ∧ o.f i 0 = I m ∧ 0 ≤ m ∧ m ≤ i ∧ maxF acc rk m = maxF acc x.kids 0) x.kids.length
      ⟨0, x.kids, o, 0, rfl, by omega, rfl, by simp [go_sem], Sub.upd (sub_free hsub hb9) hsub, by rw [upd_ne _ _ n9.2]; exact ho, o1, o2, o3, ⟨fun k hk _ => o4 k hk⟩, by rw [o4 i hlt, List.getD_eq_getElem?_getD, List.getElem?_eq_none (by omega)]; rfl, Int.le_refl _, by omega, rfl⟩ ?_
    clear ho o1 o2 o3 o4 hsub n9
    rintro J2 hJ2 n2 T2 g2 hfr2 ⟨j, rk, o', m, rfl, hj, hdj, t24, hsub, ho', p1, p2, p3, ⟨p4⟩, p5, hm0, hmi, hm⟩
    rcases rk with _ | ⟨y, rk⟩
    · have hltk := drop_nil hdj
      rw [maxF] at hm
      subst hm
      generalize maxF acc x.kids 0 = m at *
      (repeat' (first | simp [go_sem, X_region, *] | simp (disch := omega) only [om, *] | ((first | refine XC_split ?_ ?_ | refine XG_true ?_ ?_ | refine XG_false ?_ ?_ | refine XRg_true ?_ ?_ | refine XRg_false ?_ ?_) <;> intro hc <;> (try simp only [bl] at hc) <;> (try (exfalso; omega))) | refine XD_w [] [] [] (fun _ => none) mixed (by decide +kernel) (sub_none _) ?_ | fail))
      exact ⟨_, Nat.lt_succ_self _, hJ.out _ _ _ ⟨(by (repeat (refine fr_upd (by decide) ?_)); exact fr_in (by intro i; omega) hfr2 (by (repeat (refine fr_upd (by decide) ?_)); exact hfr)), i + 1, r, acc ++ [m + 1], rfl, by omega, hd2, hR, by simp [go_sem, *], by simp [hacc], fun v hv => by
        rcases List.mem_append.1 hv with hv | hv
        · have := hav v hv; omega
        · rw [List.mem_singleton.1 hv]; omega, Sub.upd hb hsub, ⟨_, upd_same _ _ _, rfl, rfl, rfl, ⟨kz_next _ hacc p4⟩⟩⟩⟩
    · obtain ⟨hltk, hxk, hdj2⟩ := drop_cons hdj
      have hy := hk1 y (by rw [← hxk]; exact List.getElem_mem hltk)
      obtain ⟨yn, rfl⟩ : ∃ yn : Nat, y = yn := ⟨y.toNat, by omega⟩
      have hyf := p4 yn (by omega) (by omega)
      rw [maxF, Int.toNat_natCast] at hm
      have hva : 0 ≤ acc.getD yn 0 ∧ acc.getD yn 0 ≤ i := hav _ (by
        rw [List.getD_eq_getElem?_getD, List.getElem?_eq_getElem (by omega)]
        exact List.getElem_mem _)
      have hp4 : Hid (∀ k, k < e.length → k ≠ i → o'.f k 0 = I (acc.getD k 0)) := ⟨p4⟩
      clear p4 hav
      generalize acc.getD yn 0 = v at hm hva hyf
      (repeat' (first | simp [go_sem, X_region, *] | simp (disch := omega) only [om, *] | ((first | refine XC_split ?_ ?_ | refine XG_true ?_ ?_ | refine XG_false ?_ ?_ | refine XRg_true ?_ ?_ | refine XRg_false ?_ ?_) <;> intro hc <;> (try simp only [bl] at hc) <;> (try (exfalso; omega))) | refine XD_w [] [] [] (fun _ => none) mixed (by decide +kernel) (sub_none _) ?_ | fail))
      exact ⟨_, Nat.lt_succ_self _, hJ2.out _ _ _ ⟨(by (repeat (refine fr_upd (by decide) ?_)); exact hfr2), j + 1, rk, _, max m v, rfl, by omega, hdj2, by simp [go_sem, *], Sub.upd hb hsub, upd_same _ _ _, rfl, rfl, rfl, ⟨fun k hk hki => by simp only [hki, false_and, if_false]; exact hp4.out k hk hki⟩, by simp, by omega, by omega, hm⟩⟩
end Go.Proofs.YtmalhikcdideoaaDoor

set_option linter.unusedVariables false
set_option linter.unusedSimpArgs false
namespace Go.Proofs.YtmalhikcdideoaaDoor
open Go Sl
attribute [local irreducible] XRange LpQ XR XRo XRg XRQ putQ XFv XL XW2 wQ putW X XO XOp XH XHo XW SeqQ BlkQ XOQ XHQ NrmQ XC XM XG XHM XHG XD CallK
open Go.RowKit
theorem strict_unique {α : Type} (lt : α → α → Prop) (irr : ∀ a, ¬ lt a a) (tr : ∀ a b c, lt a b → lt b c → lt a c) : ∀ l m : List α, l.Pairwise lt → m.Pairwise lt → (∀ x, x ∈ l ↔ x ∈ m) → l = m
  | [], [], _, _, _ => rfl
  | [], y :: m, _, _, h => by have := (h y).2 (List.mem_cons_self ..); cases this
  | x :: l, [], _, _, h => by have := (h x).1 (List.mem_cons_self ..); cases this
  | x :: l, y :: m, hl, hm, h => by
    obtain ⟨l1, l2⟩ := List.pairwise_cons.1 hl
    obtain ⟨m1, m2⟩ := List.pairwise_cons.1 hm
    have hxy : x = y := by
      rcases List.mem_cons.1 ((h x).1 (List.mem_cons_self ..)) with e | e
      · exact e
      · rcases List.mem_cons.1 ((h y).2 (List.mem_cons_self ..)) with f | f
        · exact f.symm
        · exact absurd (tr _ _ _ (m1 x e) (l1 y f)) (irr _)
    subst hxy
    congr 1
    refine strict_unique lt irr tr l m l2 m2 fun z => ⟨fun hz => ?_, fun hz => ?_⟩
    · rcases List.mem_cons.1 ((h z).1 (List.mem_cons_of_mem _ hz)) with e | e
      · exact absurd (e ▸ l1 z hz) (irr _)
      · exact e
    · rcases List.mem_cons.1 ((h z).2 (List.mem_cons_of_mem _ hz)) with e | e
      · exact absurd (e ▸ m1 z hz) (irr _)
      · exact e
abbrev Bs := List UInt8
def leB (x y : Bs) : Bool := decide (x ≤ y)
def ltB (x y : Bs) : Prop := x ≤ y ∧ x ≠ y
theorem leB_trans (a b c : Bs) (h1 : leB a b = true) (h2 : leB b c = true) : leB a c = true := by
  simp only [leB, decide_eq_true_eq] at *
  exact List.le_trans h1 h2
theorem leB_total (a b : Bs) : (leB a b || leB b a) = true := by
  simp only [leB, Bool.or_eq_true, decide_eq_true_eq]
  exact List.le_total a b
theorem ltB_trans (a b c : Bs) (h1 : ltB a b) (h2 : ltB b c) : ltB a c := by
  refine ⟨List.le_trans h1.1 h2.1, fun e => ?_⟩
  subst e
  exact h1.2 (List.le_antisymm h1.1 h2.1)
theorem ltB_irr (a : Bs) : ¬ ltB a a := fun h => h.2 rfl
theorem sorted_of (zs : List Bs) : (zs.mergeSort fun x y => decide (x ≤ y)).Pairwise fun x y => x ≤ y := by
  have := List.pairwise_mergeSort (le := leB) leB_trans leB_total zs
  refine List.Pairwise.imp (fun {a b} h => ?_) this
  simpa [leB] using h
theorem sort_nodup {zs : List Bs} (h : zs.Nodup) : (zs.mergeSort fun x y => decide (x ≤ y)).Pairwise ltB := by
  have h1 := sorted_of zs
  have h2 : (zs.mergeSort fun x y => decide (x ≤ y)).Nodup := (List.mergeSort_perm zs _).symm.nodup h
  exact (List.Pairwise.and h1 h2)
theorem compact_mem (zs : List Bs) (s : Bs) : s ∈ Lib.compact zs ↔ s ∈ zs := by
  unfold Lib.compact Lib.compactUpTo
  rw [List.mem_map]
  constructor
  · rintro ⟨j, hj, rfl⟩
    rw [List.mem_filter, List.mem_range] at hj
    have h1 : j < zs.toArray.size := by simpa using hj.1
    rw [getElem!_pos zs.toArray j h1]
    simp
  · intro hs
    obtain ⟨j, hj, hjs⟩ := List.getElem_of_mem hs
    have key : ∀ n : Nat, ∀ hn : n < zs.length, zs[n] = s → ∃ a, a ∈ List.filter (Lib.keeps zs.toArray) (List.range zs.length) ∧ zs.toArray[a]! = s := by
      intro n
      induction n with
      | zero =>
        intro hn hns
        refine ⟨0, ?_, ?_⟩
        · rw [List.mem_filter, List.mem_range]; exact ⟨hn, by simp [Lib.keeps]⟩
        · rw [getElem!_pos zs.toArray 0 (by simpa using hn)]; simpa using hns
      | succ n ih =>
        intro hn hns
        by_cases hk : Lib.keeps zs.toArray (n + 1) = true
        · refine ⟨n + 1, ?_, ?_⟩
          · rw [List.mem_filter, List.mem_range]; exact ⟨hn, hk⟩
          · rw [getElem!_pos zs.toArray (n + 1) (by simpa using hn)]; simpa using hns
        · refine ih (by omega) ?_
          unfold Lib.keeps at hk
          rw [getElem!_pos zs.toArray (n + 1) (by simpa using hn), getElem!_pos zs.toArray (n + 1 - 1) (by simp; omega)] at hk
          simp at hk
          rw [← hk]; exact hns
    exact key j hj hjs
theorem compact_strict (zs : List Bs) (h : zs.Pairwise fun x y => x ≤ y) : (Lib.compact zs).Pairwise ltB := by
  unfold Lib.compact Lib.compactUpTo
  rw [List.pairwise_map]
  have h1 : (List.filter (Lib.keeps zs.toArray) (List.range zs.length)).Pairwise fun i j => i < j ∧ j < zs.length ∧ Lib.keeps zs.toArray j = true := by
    have h2 : (List.filter (Lib.keeps zs.toArray) (List.range zs.length)).Pairwise (· < ·) := List.Pairwise.filter _ List.pairwise_lt_range
    refine List.Pairwise.imp_of_mem (fun {a b} _ hb hab => ?_) h2
    rw [List.mem_filter, List.mem_range] at hb
    exact ⟨hab, hb.1, hb.2⟩
  refine List.Pairwise.imp (fun {i j} hij => ?_) h1
  obtain ⟨hij, hj, hk⟩ := hij
  have hle : ∀ a b, a ≤ b → ∀ hb : b < zs.length, ∀ ha : a < zs.length, zs[a] ≤ zs[b] := fun a b hab hb ha => by
    rcases Nat.lt_or_ge a b with hlt | hge
    · exact List.pairwise_iff_getElem.1 h a b ha hb hlt
    · obtain rfl : a = b := by omega
      exact List.le_refl _
  rw [getElem!_pos zs.toArray i (by simp; omega), getElem!_pos zs.toArray j (by simpa using hj)]
  unfold Lib.keeps at hk
  rw [getElem!_pos zs.toArray j (by simpa using hj), getElem!_pos zs.toArray (j - 1) (by simp; omega)] at hk
  simp only [List.getElem_toArray, decide_eq_true_eq] at hk ⊢
  have hk' : zs[j] ≠ zs[j - 1] := hk.resolve_left (by omega)
  refine ⟨hle i j (by omega) hj (by omega), fun e => hk' ?_⟩
  have a1 := hle i (j - 1) (by omega) (by omega) (by omega)
  have a2 := hle (j - 1) j (by omega) hj (by omega)
  rw [e] at a1
  exact List.le_antisymm a1 a2
/-- The names of a set, sorted, are those of a list, sorted, without repetitions. -/
theorem sort_compact (O L : List Bs) (hO : O.Nodup) (h : ∀ s, s ∈ O ↔ s ∈ L) : (O.mergeSort fun x y => decide (x ≤ y)) = Lib.compact (L.mergeSort fun x y => decide (x ≤ y)) := by
  refine strict_unique ltB ltB_irr ltB_trans _ _ (sort_nodup hO) (compact_strict _ (sorted_of L)) fun x => ?_
  rw [compact_mem, List.mem_mergeSort, List.mem_mergeSort]
  exact h x
def tB (b : ByteArray) : Bs := b.data.toList
theorem tB_inj {a b : ByteArray} (h : tB a = tB b) : a = b := by
  apply ByteArray.ext
  exact Array.toList_inj.1 h
def sortB (l : List ByteArray) : List ByteArray := ((l.map tB).mergeSort fun x y => decide (x ≤ y)).map bOf
def compB (l : List ByteArray) : List ByteArray := (Lib.compact (l.map tB)).map bOf
theorem tB_bOf (l : Bs) : tB (bOf l) = l := rfl
theorem names_same (O L : List ByteArray) (hO : O.Nodup) (h : ∀ s, s ∈ O ↔ s ∈ L) : sortB O = compB (sortB L) := by
  unfold sortB compB
  rw [List.map_map, show (tB ∘ bOf) = id from funext tB_bOf, List.map_id]
  congr 1
  refine sort_compact _ _ ?_ fun s => ?_
  · rw [List.nodup_iff_pairwise_ne, List.pairwise_map]
    exact List.Pairwise.imp (fun {a b} hab e => hab (tB_inj e)) (List.nodup_iff_pairwise_ne.1 hO)
  · simp only [List.mem_map]
    exact ⟨fun ⟨a, ha, e⟩ => ⟨a, (h a).1 ha, e⟩, fun ⟨a, ha, e⟩ => ⟨a, (h a).2 ha, e⟩⟩
/-- The names of nodes with operations. -/
def namesF (p : Int → Bool) (e : List Nd) : List ByteArray := (e.filter fun x => p x.op).map (·.nm)
end Go.Proofs.YtmalhikcdideoaaDoor

namespace Go.Proofs
open Go.Shelf
def Tryd.laysM171_ren : Go.Shelf.Ren := ⟨fun | 171 => 98 | 243 => 124 | 246 => 140 | 283 => 149 | 284 => 150 | 285 => 151 | 286 => 152 | 129 => 136 | 317 => 154 | 318 => 155 | 319 => 156 | 320 => 157 | 337 => 158 | 338 => 159 | n => n, fun | 3 => 3 | 9 => 9 | 2 => 2 | 4 => 4 | 171 => 203 | 0 => 0 | 53 => 188 | 37 => 97 | 5 => 5 | 173 => 205 | 212 => 210 | 51 => 136 | 20 => 20 | 213 => 211 | 46 => 139 | 232 => 212 | 233 => 213 | n => n, fun | 17 => 5 | 18 => 6 | 19 => 7 | n => n⟩
theorem Tryd.laysM171 : Go.Proofs.LaysM.n171 Tryd.prog Tryd.laysM171_ren := {
  mixed := by kernel_rfl
  f129 := Tryd.func136.trans (congrArg some (by kernel_rfl))
  f171 := Tryd.func98.trans (congrArg some (by kernel_rfl))
  f243 := Tryd.func124.trans (congrArg some (by kernel_rfl))
  f246 := Tryd.func140.trans (congrArg some (by kernel_rfl))
  f283 := Tryd.func149.trans (congrArg some (by kernel_rfl))
  f284 := Tryd.func150.trans (congrArg some (by kernel_rfl))
  f285 := Tryd.func151.trans (congrArg some (by kernel_rfl))
  f286 := Tryd.func152.trans (congrArg some (by kernel_rfl))
  f317 := Tryd.func154.trans (congrArg some (by kernel_rfl))
  f318 := Tryd.func155.trans (congrArg some (by kernel_rfl))
  f319 := Tryd.func156.trans (congrArg some (by kernel_rfl))
  f320 := Tryd.func157.trans (congrArg some (by kernel_rfl))
  f337 := Tryd.func158.trans (congrArg some (by kernel_rfl))
  f338 := Tryd.func159.trans (congrArg some (by kernel_rfl))
  t0 := Tryd.underlying0
  a0 := Tryd.isAgg0
  z0 := Tryd.sizeOf0
  v0 := Tryd.zeroValue0
  t2 := Tryd.underlying2
  a2 := Tryd.isAgg2
  z2 := Tryd.sizeOf2
  v2 := Tryd.zeroValue2
  t3 := Tryd.underlying3
  a3 := Tryd.isAgg3
  z3 := Tryd.sizeOf3
  v3 := Tryd.zeroValue3
  t4 := Tryd.underlying4
  a4 := Tryd.isAgg4
  z4 := Tryd.sizeOf4
  v4 := Tryd.zeroValue4
  t5 := Tryd.underlying5
  a5 := Tryd.isAgg5
  z5 := Tryd.sizeOf5
  v5 := Tryd.zeroValue5
  t9 := Tryd.underlying9
  a9 := Tryd.isAgg9
  z9 := Tryd.sizeOf9
  v9 := Tryd.zeroValue9
  t20 := Tryd.underlying20
  a20 := Tryd.isAgg20
  z20 := Tryd.sizeOf20
  v20 := Tryd.zeroValue20
  t37 := Tryd.underlying97
  a37 := Tryd.isAgg97
  z37 := Tryd.sizeOf97
  v37 := Tryd.zeroValue97
  t46 := Tryd.underlying139
  a46 := Tryd.isAgg139
  z46 := Tryd.sizeOf139
  v46 := Tryd.zeroValue139
  t51 := Tryd.underlying136
  a51 := Tryd.isAgg136
  z51 := Tryd.sizeOf136
  v51 := Tryd.zeroValue136
  t53 := Tryd.underlying188
  a53 := Tryd.isAgg188
  z53 := Tryd.sizeOf188
  v53 := Tryd.zeroValue188
  t171 := Tryd.underlying203
  a171 := Tryd.isAgg203
  z171 := Tryd.sizeOf203
  v171 := Tryd.zeroValue203
  t173 := Tryd.underlying205
  a173 := Tryd.isAgg205
  z173 := Tryd.sizeOf205
  v173 := Tryd.zeroValue205
  t212 := Tryd.underlying210
  a212 := Tryd.isAgg210
  z212 := Tryd.sizeOf210
  v212 := Tryd.zeroValue210
  t213 := Tryd.underlying211
  a213 := Tryd.isAgg211
  z213 := Tryd.sizeOf211
  t232 := Tryd.underlying212
  a232 := Tryd.isAgg212
  z232 := Tryd.sizeOf212
  v232 := Tryd.zeroValue212
  t233 := Tryd.underlying213
  a233 := Tryd.isAgg213
  z233 := Tryd.sizeOf213
  v233 := Tryd.zeroValue213
  g17 := by kernel_rfl
  g18 := by kernel_rfl
  g19 := by kernel_rfl
  i0 := by kernel_rfl
  i2 := by kernel_rfl
  i3 := by kernel_rfl
  i4 := by kernel_rfl
  i5 := by kernel_rfl
  i9 := by kernel_rfl
  i20 := by kernel_rfl
  i37 := by kernel_rfl
  i46 := by kernel_rfl
  i51 := by kernel_rfl
  i53 := by kernel_rfl
  i171 := by kernel_rfl
  i173 := by kernel_rfl
  i212 := by kernel_rfl
  i232 := by kernel_rfl
  i233 := by kernel_rfl
  m17 := by kernel_rfl
  m18 := by kernel_rfl
  m19 := by kernel_rfl }
def Tryd.lays190_ren : Go.Shelf.Ren := ⟨fun | 190 => 79 | 125 => 112 | 258 => 111 | 128 => 135 | 129 => 136 | 302 => 127 | 303 => 128 | 304 => 129 | 305 => 130 | 306 => 131 | 307 => 132 | 308 => 87 | 309 => 133 | 310 => 134 | 333 => 141 | 329 => 142 | 330 => 143 | 334 => 144 | 335 => 145 | 336 => 116 | 344 => 153 | n => n, fun | 31 => 33 | 9 => 9 | 3 => 3 | 46 => 139 | 0 => 0 | 51 => 136 | 53 => 188 | 4 => 4 | 183 => 181 | 182 => 180 | 131 => 89 | 5 => 5 | 218 => 193 | 222 => 197 | 228 => 207 | 229 => 80 | n => n, fun | n => n⟩
theorem Tryd.lays190 : Go.Proofs.Lays.n190 Tryd.prog Tryd.lays190_ren := {
  mixed := by kernel_rfl
  f125 := Tryd.func112.trans (congrArg some (by kernel_rfl))
  f128 := Tryd.func135.trans (congrArg some (by kernel_rfl))
  f129 := Tryd.func136.trans (congrArg some (by kernel_rfl))
  f190 := Tryd.func79.trans (congrArg some (by kernel_rfl))
  f258 := Tryd.func111.trans (congrArg some (by kernel_rfl))
  f302 := Tryd.func127.trans (congrArg some (by kernel_rfl))
  f303 := Tryd.func128.trans (congrArg some (by kernel_rfl))
  f304 := Tryd.func129.trans (congrArg some (by kernel_rfl))
  f305 := Tryd.func130.trans (congrArg some (by kernel_rfl))
  f306 := Tryd.func131.trans (congrArg some (by kernel_rfl))
  f307 := Tryd.func132.trans (congrArg some (by kernel_rfl))
  f308 := Tryd.func87.trans (congrArg some (by kernel_rfl))
  f309 := Tryd.func133.trans (congrArg some (by kernel_rfl))
  f310 := Tryd.func134.trans (congrArg some (by kernel_rfl))
  f329 := Tryd.func142.trans (congrArg some (by kernel_rfl))
  f330 := Tryd.func143.trans (congrArg some (by kernel_rfl))
  f333 := Tryd.func141.trans (congrArg some (by kernel_rfl))
  f334 := Tryd.func144.trans (congrArg some (by kernel_rfl))
  f335 := Tryd.func145.trans (congrArg some (by kernel_rfl))
  f336 := Tryd.func116.trans (congrArg some (by kernel_rfl))
  f344 := Tryd.func153.trans (congrArg some (by kernel_rfl))
  t0 := Tryd.underlying0
  a0 := Tryd.isAgg0
  z0 := Tryd.sizeOf0
  v0 := Tryd.zeroValue0
  t3 := Tryd.underlying3
  a3 := Tryd.isAgg3
  z3 := Tryd.sizeOf3
  v3 := Tryd.zeroValue3
  t4 := Tryd.underlying4
  a4 := Tryd.isAgg4
  z4 := Tryd.sizeOf4
  v4 := Tryd.zeroValue4
  t5 := Tryd.underlying5
  a5 := Tryd.isAgg5
  z5 := Tryd.sizeOf5
  v5 := Tryd.zeroValue5
  t9 := Tryd.underlying9
  a9 := Tryd.isAgg9
  z9 := Tryd.sizeOf9
  v9 := Tryd.zeroValue9
  t31 := Tryd.underlying33
  a31 := Tryd.isAgg33
  z31 := Tryd.sizeOf33
  v31 := Tryd.zeroValue33
  t46 := Tryd.underlying139
  a46 := Tryd.isAgg139
  z46 := Tryd.sizeOf139
  v46 := Tryd.zeroValue139
  t51 := Tryd.underlying136
  a51 := Tryd.isAgg136
  z51 := Tryd.sizeOf136
  v51 := Tryd.zeroValue136
  t53 := Tryd.underlying188
  a53 := Tryd.isAgg188
  z53 := Tryd.sizeOf188
  v53 := Tryd.zeroValue188
  t131 := Tryd.underlying89
  a131 := Tryd.isAgg89
  z131 := Tryd.sizeOf89
  v131 := Tryd.zeroValue89
  t182 := Tryd.underlying180
  a182 := Tryd.isAgg180
  z182 := Tryd.sizeOf180
  v182 := Tryd.zeroValue180
  t183 := Tryd.underlying181
  a183 := Tryd.isAgg181
  z183 := Tryd.sizeOf181
  v183 := Tryd.zeroValue181
  t218 := Tryd.underlying193
  a218 := Tryd.isAgg193
  z218 := Tryd.sizeOf193
  v218 := Tryd.zeroValue193
  t222 := Tryd.underlying197
  a222 := Tryd.isAgg197
  z222 := Tryd.sizeOf197
  v222 := Tryd.zeroValue197
  t228 := Tryd.underlying207
  a228 := Tryd.isAgg207
  z228 := Tryd.sizeOf207
  v228 := Tryd.zeroValue207
  t229 := Tryd.underlying80
  a229 := Tryd.isAgg80
  z229 := Tryd.sizeOf80
  v229 := Tryd.zeroValue80 }
end Go.Proofs

namespace Go.Proofs
open Go.Shelf
def Tryd.lays194_ren : Go.Shelf.Ren := ⟨fun | 194 => 80 | n => n, fun | 31 => 33 | 9 => 9 | 3 => 3 | 4 => 4 | 0 => 0 | n => n, fun | n => n⟩
theorem Tryd.lays194 : Go.Proofs.Lays.n194 Tryd.prog Tryd.lays194_ren := {
  mixed := by kernel_rfl
  f194 := Tryd.func80.trans (congrArg some (by kernel_rfl))
  t0 := Tryd.underlying0
  a0 := Tryd.isAgg0
  z0 := Tryd.sizeOf0
  v0 := Tryd.zeroValue0
  t3 := Tryd.underlying3
  a3 := Tryd.isAgg3
  z3 := Tryd.sizeOf3
  v3 := Tryd.zeroValue3
  t4 := Tryd.underlying4
  a4 := Tryd.isAgg4
  z4 := Tryd.sizeOf4
  v4 := Tryd.zeroValue4
  t9 := Tryd.underlying9
  a9 := Tryd.isAgg9
  z9 := Tryd.sizeOf9
  v9 := Tryd.zeroValue9
  t31 := Tryd.underlying33
  a31 := Tryd.isAgg33
  z31 := Tryd.sizeOf33
  v31 := Tryd.zeroValue33 }
end Go.Proofs

set_option linter.unusedVariables false
set_option linter.unusedSimpArgs false
namespace Go.Proofs.YtmalhikcdideoaaDoor
open Go Sl
attribute [local irreducible] XRange LpQ XR XRo XRg XRQ putQ XFv XL XW2 wQ putW X XO XOp XH XHo XW SeqQ BlkQ XOQ XHQ NrmQ XC XM XG XHM XHG XD CallK
open Go.RowKit
theorem vals_a {w : World} {h : Hp} {a : AV} {vals : Array Value} (ha : RdL w h [a] vals) : ∃ u, vals = #[u] ∧ Rd w h a u := by
  obtain ⟨u, e, r⟩ := ha.2 0 _ rfl
  refine ⟨u, ?_, r⟩
  have h1 := ha.1
  apply Array.ext
  · simpa using h1
  · intro i h2 h3
    match i, h3 with
    | 0, _ => rw [Array.getElem?_eq_getElem h2] at e; simpa using e
/-- An own row is written by a callee that is not of this layer. -/
theorem put_rel {w w' : World} {h : Hp} {b : Nat} {o : Ob} {c c' : Array Value} (hh : RelH w h) (hb : h b = some o) (hs : 0 < o.s) (hc : w.heap[b]? = some (.cells c o.ty (0, 0))) (hsz : w.heap.size ≤ w'.heap.size)
    (hoth : ∀ k, k < w.heap.size → k ≠ b → w'.heap[k]? = w.heap[k]?) (hb' : w'.heap[b]? = some (.cells c' o.ty (0, 0))) (hcs : c'.size = c.size) (hn : o.n * o.s ≤ c.size) (f' : Nat → Nat → AV)
    (hf : ∀ i, i < o.n → ∀ j, j < o.s → ∃ x, c'[i * o.s + j]? = some x ∧ x.oneCell' = true ∧ ∀ (w'' : World) (h'' : Hp), Rd w'' h'' (f' i j) x) :
    Stp w h w' (upd h b (some { o with f := f' })) ∧ RelH w' (upd h b (some { o with f := f' })) := by
  have st : Stp w h w' (upd h b (some { o with f := f' })) := by
    refine ⟨hsz, fun k hk hn => hoth k hk (fun e => by subst e; rw [hb] at hn; cases hn), fun k hk hn => ?_, fun k o' hk ho' => ?_⟩
    · rw [upd_ne _ _ (fun e => by subst e; rw [hb] at hn; cases hn)]; exact hn
    · by_cases hkb : k = b
      · subst hkb
        rw [upd_same] at ho'
        cases ho'
        exact ⟨o, hb, rfl, fun c2 fr h2 => by rw [hc] at h2; cases h2; exact ⟨c', (0, 0), hb', hcs⟩⟩
      · rw [upd_ne _ _ hkb] at ho'
        exact ⟨o', ho', rfl, fun c2 fr h2 => ⟨c2, fr, (hoth k hk hkb).trans h2, rfl⟩⟩
  refine ⟨st, fun k ok hk => ?_, hh.glob.step st⟩
  by_cases hkb : k = b
  · subst hkb
    rw [upd_same] at hk
    cases hk
    unfold HeldH
    rw [if_neg (by simp; omega)]
    exact ⟨c', hb', by rw [hcs]; exact hn, hs, fun i hi j hj => by obtain ⟨x, h1, h2, h3⟩ := hf i hi j hj; exact ⟨x, h1, h2, h3 _ _⟩⟩
  · rw [upd_ne _ _ hkb] at hk
    exact (hh.own k ok hk).step st (hoth k (hh.lt hk) hkb)
/-- The cells of a row of texts. -/
theorem row_holds {w : World} {h : Hp} {b : Nat} {o : Ob} {l : List ByteArray} (hh : RelH w h) (hb : h b = some o) (o1 : o.s = 1) (on : o.n = l.length) (hf : ∀ i, i < l.length → o.f i 0 = cellsL cS l i 0) :
    ∃ c, w.heap[b]? = some (.cells c o.ty (0, 0)) ∧ l.length ≤ c.size ∧ Go.Sort.Holds encStr w b 0 (l.map tB).toArray := by
  have hx := hh.own b o hb
  unfold HeldH at hx
  rw [if_neg (by omega)] at hx
  obtain ⟨c, hc, hn, _, hcell⟩ := hx
  rw [o1, on, Nat.mul_one] at hn
  refine ⟨c, hc, hn, fun j hj => ?_⟩
  have hj' : j < l.length := by simpa using hj
  have hlj : l[j]? = some l[j] := List.getElem?_eq_getElem hj'
  obtain ⟨x, h1, _, h3⟩ := hcell j (by omega) 0 (by omega)
  rw [hf j hj', cellsL_at hlj] at h3
  obtain rfl : x = .string l[j] := h3
  rw [o1, Nat.mul_one, Nat.add_zero] at h1
  refine ⟨?_, ?_⟩
  · rw [Nat.zero_add]
    unfold World.cell?
    simp only [hc]
    rw [h1, getElem!_pos _ j hj]
    simp [tB, encStr]
  · unfold World.frozen?
    simp only [hc]
    simp
theorem put_heap {w : World} {b q : Nat} {c : Array Value} {ty : TypeId} {d : Array Bs} (hc : w.heap[b]? = some (.cells c ty (0, 0))) (os : Array Obj) :
    (Go.Sort.grow (Go.Sort.putRow encStr (Go.Sort.ahead w q) b 0 d) os).heap[b]? = some (.cells (Go.Sort.putCells encStr 0 d c) ty (0, 0)) ∧
    w.heap.size ≤ (Go.Sort.grow (Go.Sort.putRow encStr (Go.Sort.ahead w q) b 0 d) os).heap.size ∧
    ∀ k, k < w.heap.size → k ≠ b → (Go.Sort.grow (Go.Sort.putRow encStr (Go.Sort.ahead w q) b 0 d) os).heap[k]? = w.heap[k]? := by
  have hblt : b < w.heap.size := (Array.getElem?_eq_some_iff.1 hc).1
  have hsz : (Go.Sort.putRow encStr (Go.Sort.ahead w q) b 0 d).heap.size = w.heap.size := by rw [Go.Sort.size_putRow]; rfl
  have hold : ∀ k, k < w.heap.size → (Go.Sort.grow (Go.Sort.putRow encStr (Go.Sort.ahead w q) b 0 d) os).heap[k]? = (Go.Sort.putRow encStr (Go.Sort.ahead w q) b 0 d).heap[k]? := fun k hk => by
    unfold Go.Sort.grow
    rw [Array.getElem?_append_left (by rw [hsz]; exact hk)]
  have hah : (Go.Sort.ahead w q).heap = w.heap := rfl
  refine ⟨?_, ?_, fun k hk hkb => ?_⟩
  · rw [hold b hblt]
    unfold Go.Sort.putRow Go.Sort.mapBlock
    simp only [hah, Array.getElem?_modify, if_true, hc, Option.map_some, Go.Sort.onCells]
  · unfold Go.Sort.grow
    simp only [Array.size_append]
    rw [hsz]; omega
  · rw [hold k hk]
    unfold Go.Sort.putRow Go.Sort.mapBlock
    simp only [hah, Array.getElem?_modify, if_neg (Ne.symm hkb)]
theorem putCells_at {c : Array Value} {d : Array Bs} {j : Nat} (h1 : j < d.size) (h2 : d.size ≤ c.size) : (Go.Sort.putCells encStr 0 d c)[j]? = some (encStr d[j]) := by
  unfold Go.Sort.putCells
  rw [Array.getElem?_mapIdx, Array.getElem?_eq_getElem (by omega), Option.map_some, if_pos (by omega), Nat.sub_zero, getElem!_pos d j h1]
set_option maxHeartbeats 2000000 in
/-- slices.Sort on an own row of texts. -/
theorem sort_row {h : Hp} {b : Nat} {o : Ob} (l : List ByteArray) (hl : l.length ≤ 1000000000000) (hb : h b = some o) (o1 : o.s = 1) (on : o.n = l.length) (hf : ∀ i, i < l.length → o.f i 0 = cellsL cS l i 0) :
    CallK Tryd.prog h 79 [.row b 1 0 l.length] fun r h' => r = un ∧ h' = upd h b (some { o with f := cellsL cS (sortB l) }) := by
  unfold CallK
  intro w vals hh ha
  obtain ⟨u, rfl, cap, rfl, hcap, hblt, hmx, hrow⟩ := vals_a ha
  obtain ⟨c, hc, hn, hH⟩ := row_holds hh hb o1 on hf
  have hlen : (l.map tB).length = l.length := by simp
  have hg := Any.slices_Sort_string Tryd.lays190 b 0 cap (l.map tB) w hH hblt (by rw [hlen]; omega)
  rw [hlen] at hg
  rw [Nat.zero_mul]
  refine hg.mono ?_
  rintro e w' ⟨rfl, q, os, rfl⟩
  obtain ⟨p1, p2, p3⟩ := put_heap (q := q) (d := ((l.map tB).mergeSort fun x y => decide (x ≤ y)).toArray) hc os
  have hds : ((l.map tB).mergeSort fun x y => decide (x ≤ y)).toArray.size = l.length := by simp
  obtain ⟨st, rh⟩ := put_rel hh hb (by omega) hc p2 p3 p1 (by simp [Go.Sort.putCells]) (by rw [o1, on]; omega) (cellsL cS (sortB l)) (fun i hi j hj => by
    obtain rfl : j = 0 := by omega
    rw [on] at hi
    have hsl : (sortB l).length = l.length := by simp [sortB]
    have hx : (sortB l)[i]? = some (sortB l)[i] := List.getElem?_eq_getElem (by omega)
    refine ⟨_, by rw [o1, Nat.mul_one, Nat.add_zero]; exact putCells_at (by omega) (by omega), rfl, fun w'' h'' => ?_⟩
    rw [cellsL_at hx]
    show _ = Value.string (sortB l)[i]
    simp [sortB, encStr, bOf])
  exact ⟨_, _, _, rfl, ⟨rfl, rfl⟩, rfl, rh, ⟨rfl, rfl, rfl⟩, st⟩
set_option maxHeartbeats 2000000 in
/-- slices.Compact on an own row of texts: the first part of the row. -/
theorem compact_row {h : Hp} {b : Nat} {o : Ob} (l : List ByteArray) (hl : l.length ≤ 1000000000000) (hb : h b = some o) (o1 : o.s = 1) (on : o.n = l.length) (hf : ∀ i, i < l.length → o.f i 0 = cellsL cS l i 0) :
    CallK Tryd.prog h 80 [.row b 1 0 l.length] fun r h' => r = .row b 1 0 (compB l).length ∧ ∃ f', h' = upd h b (some { o with f := f' }) ∧ (compB l).length ≤ o.n ∧ ∀ i, i < (compB l).length → f' i 0 = cellsL cS (compB l) i 0 := by
  unfold CallK
  intro w vals hh ha
  obtain ⟨u, rfl, cap, rfl, hcap, hblt, hmx, hrow⟩ := vals_a ha
  obtain ⟨c, hc, hn, hH⟩ := row_holds hh hb o1 on hf
  have hlen : (l.map tB).length = l.length := by simp
  have hg := Any.slices_Compact_string Tryd.lays194 b 0 cap (l.map tB) w hH (by rw [hlen]; omega) (by rw [hlen]; exact hcap)
  rw [hlen] at hg
  rw [Nat.zero_mul]
  refine hg.mono ?_
  rintro e w' ⟨rfl, q, rfl⟩
  have hcl : (Lib.compact (l.map tB)).length ≤ l.length := by
    unfold Lib.compact Lib.compactUpTo
    rw [List.length_map, hlen]
    exact Nat.le_trans (List.length_filter_le ..) (by simp)
  have hcb : (compB l).length = (Lib.compact (l.map tB)).length := by simp [compB]
  have hgr : ∀ W : World, W = Go.Sort.grow W #[] := fun W => (Go.Sort.grow_empty W).symm
  obtain ⟨p1, p2, p3⟩ := put_heap (q := q) (d := (Lib.compact (l.map tB) ++ List.replicate (l.length - (Lib.compact (l.map tB)).length) []).toArray) hc #[]
  rw [← hgr] at p1 p2 p3
  have hds : (Lib.compact (l.map tB) ++ List.replicate (l.length - (Lib.compact (l.map tB)).length) []).toArray.size = l.length := by simp; omega
  obtain ⟨st, rh⟩ := put_rel hh hb (by omega) hc p2 p3 p1 (by simp [Go.Sort.putCells]) (by rw [o1, on]; omega) (fun i _ => S (bOf ((Lib.compact (l.map tB) ++ List.replicate (l.length - (Lib.compact (l.map tB)).length) []).getD i []))) (fun i hi j hj => by
    obtain rfl : j = 0 := by omega
    rw [on] at hi
    refine ⟨_, by rw [o1, Nat.mul_one, Nat.add_zero]; exact putCells_at (by omega) (by omega), rfl, fun w'' h'' => ?_⟩
    show _ = Value.string (bOf _)
    rw [List.getD_eq_getElem?_getD, List.getElem?_eq_getElem (by rw [List.size_toArray] at hds; omega)]
    simp [encStr, bOf])
  refine ⟨_, _, _, rfl, ⟨rfl, _, rfl, by omega, fun i hi => ?_⟩, ?_, rh, ⟨rfl, rfl, rfl⟩, st⟩
  · have hx : (compB l)[i]? = some (compB l)[i] := List.getElem?_eq_getElem hi
    rw [cellsL_at hx]
    simp only [compB, List.length_map] at hi
    show S (bOf _) = S _
    rw [List.getD_eq_getElem?_getD, List.getElem?_append_left hi, List.getElem?_eq_getElem hi]
    simp [compB]
  · refine ⟨cap, by rw [hcb, Nat.zero_mul], by omega, Nat.lt_of_lt_of_le hblt p2, hmx, fun o' ho' => ?_⟩
    rw [upd_same] at ho'
    cases ho'
    obtain ⟨c2, fr2, e1, e2⟩ := hrow o hb
    rw [hc] at e1
    cases e1
    exact ⟨_, _, p1, by rw [← e2]; simp [Go.Sort.putCells]⟩
/-- slices.Compact on an empty slice. -/
theorem compact_none (h : Hp) : CallK Tryd.prog h 80 [.v (.slice none 0 0)] fun r h' => r = .v (.slice none 0 0) ∧ h' = h := by
  unfold CallK
  intro w vals hh ha
  obtain ⟨_, rfl, rfl⟩ := vals_a ha
  refine (Any.slices_Compact_string_empty Tryd.lays194 none 0 w).mono ?_
  rintro e w' ⟨rfl, rfl⟩
  exact ⟨_, _, h, rfl, ⟨rfl, rfl⟩, rfl, hh, ⟨rfl, rfl, rfl⟩, Stp.refl _ _⟩
theorem compact_e0 (h : Hp) : CallK Tryd.prog h 80 [.e0] fun r h' => r = .e0 ∧ h' = h := by
  unfold CallK
  intro w vals hh ha
  obtain ⟨u, rfl, A, rfl⟩ := vals_a ha
  refine (Any.slices_Compact_string_empty Tryd.lays194 A 0 w).mono ?_
  rintro e w' ⟨rfl, rfl⟩
  exact ⟨_, _, h, rfl, ⟨rfl, rfl⟩, ⟨A, rfl⟩, hh, ⟨rfl, rfl, rfl⟩, Stp.refl _ _⟩
end Go.Proofs.YtmalhikcdideoaaDoor

set_option linter.unusedVariables false
set_option linter.unusedSimpArgs false
namespace Go.Proofs.YtmalhikcdideoaaDoor
open Go Sl
attribute [local irreducible] XRange LpQ XR XRo XRg XRQ putQ XFv XL XW2 wQ putW X XO XOp XH XHo XW SeqQ BlkQ XOQ XHQ NrmQ XC XM XG XHM XHG XD CallK
open Go.RowKit
open Classical in
/-- The heap without a slice of the call's own. -/
theorem own_hole {h0 h : Hp} {a : AV} {e : TypeId} {s n : Nat} {f : Nat → Nat → AV} (oa : Own h0 h a e s n f) : ∃ H : Hp, Own H h a e s n f ∧ Sub h0 H ∧ ∀ d od, h d = some od → a ≠ .row d s 0 n → H d = some od := by
  have hH : ∀ c oc, h0 c = some oc → ¬ a = .row c s 0 n := fun c oc hc ha => by
    rcases oa.2 with ⟨_, h1 | h1⟩ | ⟨gb, og, h1, h2, _⟩
    · rw [ha] at h1; cases h1
    · rw [ha] at h1; cases h1
    · rw [ha] at h1; cases h1; rw [hc] at h2; cases h2
  refine ⟨fun c => if a = .row c s 0 n then Option.none else h c, ⟨fun c oc hc => ?_, ?_⟩, fun c oc hc => ?_, fun d od hd hne => ?_⟩
  · simp only at hc
    split at hc
    · cases hc
    · exact hc
  · rcases oa.2 with h1 | ⟨gb, og, h1, h2, h3⟩
    · exact .inl h1
    · exact .inr ⟨gb, og, h1, by simp only [h1, if_true], h3⟩
  · simp only [if_neg (hH c oc hc)]
    exact oa.1 c oc hc
  · simp only [if_neg hne]
    exact hd
theorem own_up {h0 H h1 : Hp} {a : AV} {e : TypeId} {s n : Nat} {f : Nat → Nat → AV} (hS : Sub h0 H) (o : Own H h1 a e s n f) : Own h0 h1 a e s n f := by
  refine ⟨hS.trans o.1, ?_⟩
  rcases o.2 with h1 | ⟨gb, og, h1, h2, h3⟩
  · exact .inl h1
  · refine .inr ⟨gb, og, h1, ?_, h3⟩
    cases hx : h0 gb with
    | none => rfl
    | some oc => have := hS gb oc hx; rw [h2] at this; cases this
/-- Another slice is left alone. -/
theorem own_keep {h0 H h h1 : Hp} {a t : AV} {e' : TypeId} {s n s' m : Nat} {q : Nat → Nat → AV} (hS : Sub h0 H) (hk : ∀ d od, h d = some od → a ≠ .row d s 0 n → H d = some od) (h01 : Sub H h1) (o : Own h0 h t e' s' m q) (hd : ∀ c, a = .row c s 0 n → t = .row c s' 0 m → False) : Own h0 h1 t e' s' m q := by
  refine ⟨hS.trans h01, ?_⟩
  rcases o.2 with h1 | ⟨gb, og, h1, h2, h3, h4⟩
  · exact .inl h1
  · exact .inr ⟨gb, og, h1, h2, h01 _ _ (hk gb og h3 fun ha => hd gb ha h1), h4⟩
theorem own_apart {h0 H h h1 : Hp} {a a1 t : AV} {e e' : TypeId} {s n n1 s' m : Nat} {f1 q : Nat → Nat → AV} (hk : ∀ d od, h d = some od → a ≠ .row d s 0 n → H d = some od) (o1 : Own H h1 a1 e s n1 f1) (o : Own h0 h t e' s' m q) (hd : ∀ c, a = .row c s 0 n → t = .row c s' 0 m → False) : ∀ c, a1 = .row c s 0 n1 → t = .row c s' 0 m → False := by
  intro c hc hc'
  rcases o.2 with ⟨_, h1 | h1⟩ | ⟨gb, og, h1, h2, h3, h4⟩
  · rw [hc'] at h1; cases h1
  · rw [hc'] at h1; cases h1
  · rw [hc'] at h1
    cases h1
    have h5 := hk c og h3 fun ha => hd c ha hc'
    rcases o1.2 with ⟨_, h6 | h6⟩ | ⟨gb, og', h6, h7, _⟩
    · rw [hc] at h6; cases h6
    · rw [hc] at h6; cases h6
    · rw [hc] at h6
      cases h6
      rw [h7] at h5
      cases h5
/-- Slices of other elements are apart. -/
theorem own_apartT {h0 h0' h : Hp} {a t : AV} {e e' : TypeId} {s n s' m : Nat} {f q : Nat → Nat → AV} (oa : Own h0 h a e s n f) (ot : Own h0' h t e' s' m q) (hne : s ≠ s') : ∀ c, a = .row c s 0 n → t = .row c s' 0 m → False := by
  intro c hc hc'
  rcases oa.2 with ⟨_, h1 | h1⟩ | ⟨gb, og, h1, h2, h3, h4, _⟩
  · rw [hc] at h1; cases h1
  · rw [hc] at h1; cases h1
  · rcases ot.2 with ⟨_, h6 | h6⟩ | ⟨gb', og', h6, h7, h8, h9, _⟩
    · rw [hc'] at h6; cases h6
    · rw [hc'] at h6; cases h6
    · rw [hc] at h1
      rw [hc'] at h6
      cases h1
      cases h6
      rw [h3] at h8
      cases h8
      exact hne (h4.symm.trans h9)
/-- A slice of the call's own, perhaps a part of its block. -/
def OwnC (h0 h : Hp) (r : AV) (e : TypeId) (s n : Nat) (f : Nat → Nat → AV) : Prop :=
  Sub h0 h ∧ ((n = 0 ∧ (r = .v (.slice none 0 0) ∨ r = .e0)) ∨ ∃ b o, r = .row b s 0 n ∧ h0 b = none ∧ h b = some o ∧ o.s = s ∧ o.ty = e ∧ n ≤ o.n ∧ ∀ i, i < n → ∀ j, j < s → o.f i j = f i j)
theorem ownC_up {h0 H h1 : Hp} {a : AV} {e : TypeId} {s n : Nat} {f : Nat → Nat → AV} (hS : Sub h0 H) (o : OwnC H h1 a e s n f) : OwnC h0 h1 a e s n f := by
  refine ⟨hS.trans o.1, ?_⟩
  rcases o.2 with h1 | ⟨gb, og, h1, h2, h3⟩
  · exact .inl h1
  · refine .inr ⟨gb, og, h1, ?_, h3⟩
    cases hx : h0 gb with
    | none => rfl
    | some oc => have := hS gb oc hx; rw [h2] at this; cases this
theorem ownC_frozen {h0 h : Hp} {a : AV} {e : TypeId} {s n : Nat} {f : Nat → Nat → AV} (o : OwnC h0 h a e s n f) (h3 : n ≤ 140737488355328) : Wk h a h0 (.sl s n f) := by
  rcases o with ⟨hs, ⟨rfl, h1 | h1⟩ | ⟨b, ob, rfl, h2, h4, h5, h6, h7, h8⟩⟩
  · subst h1
    exact Own.frozen (e := e) ⟨hs, .inl ⟨rfl, .inl rfl⟩⟩ h3
  · subst h1
    exact Own.frozen (e := e) ⟨hs, .inl ⟨rfl, .inr rfl⟩⟩ h3
  · exact Wk.rowF h4 hs h2 h5 h7 h3 h8
theorem ownC_keep {h0 H h h1 : Hp} {a t : AV} {e' : TypeId} {s n s' m : Nat} {q : Nat → Nat → AV} (hS : Sub h0 H) (hk : ∀ d od, h d = some od → a ≠ .row d s 0 n → H d = some od) (h01 : Sub H h1) (o : OwnC h0 h t e' s' m q) (hd : ∀ c, a = .row c s 0 n → t = .row c s' 0 m → False) : OwnC h0 h1 t e' s' m q := by
  refine ⟨hS.trans h01, ?_⟩
  rcases o.2 with h1 | ⟨gb, og, h1, h2, h3, h4⟩
  · exact .inl h1
  · exact .inr ⟨gb, og, h1, h2, h01 _ _ (hk gb og h3 fun ha => hd gb ha h1), h4⟩
theorem own_apartC {h0 H h h1 : Hp} {a a1 t : AV} {e e' : TypeId} {s n n1 s' m : Nat} {f1 q : Nat → Nat → AV} (hk : ∀ d od, h d = some od → a ≠ .row d s 0 n → H d = some od) (o1 : OwnC H h1 a1 e s n1 f1) (o : Own h0 h t e' s' m q) (hd : ∀ c, a = .row c s 0 n → t = .row c s' 0 m → False) : ∀ c, a1 = .row c s 0 n1 → t = .row c s' 0 m → False := by
  intro c hc hc'
  rcases o.2 with ⟨_, h1 | h1⟩ | ⟨gb, og, h1, h2, h3, h4⟩
  · rw [hc'] at h1; cases h1
  · rw [hc'] at h1; cases h1
  · rw [hc'] at h1
    cases h1
    have h5 := hk c og h3 fun ha => hd c ha hc'
    rcases o1.2 with ⟨_, h6 | h6⟩ | ⟨gb, og', h6, h7, _⟩
    · rw [hc] at h6; cases h6
    · rw [hc] at h6; cases h6
    · rw [hc] at h6
      cases h6
      rw [h7] at h5
      cases h5
end Go.Proofs.YtmalhikcdideoaaDoor

namespace Go.Proofs
open Go.Shelf
def Tryd.lays2n15_ren : Go.Shelf.Ren := ⟨fun | 15 => 61 | n => n, fun | 22 => 37 | 3 => 3 | 4 => 4 | n => n, fun | n => n⟩
theorem Tryd.lays2n15 : Go.Proofs.Lays2.n15 Tryd.prog Tryd.lays2n15_ren := {
  mixed := by kernel_rfl
  f15 := Tryd.func61.trans (congrArg some (by kernel_rfl))
  t3 := Tryd.underlying3
  a3 := Tryd.isAgg3
  z3 := Tryd.sizeOf3
  v3 := Tryd.zeroValue3
  t4 := Tryd.underlying4
  a4 := Tryd.isAgg4
  z4 := Tryd.sizeOf4
  v4 := Tryd.zeroValue4
  t22 := Tryd.underlying37
  a22 := Tryd.isAgg37
  z22 := Tryd.sizeOf37
  v22 := Tryd.zeroValue37
  i3 := by kernel_rfl }
end Go.Proofs

set_option linter.unusedVariables false
set_option linter.unusedSimpArgs false
namespace Go.Proofs.YtmalhikcdideoaaDoor
open Go Sl
attribute [local irreducible] XRange LpQ XR XRo XRg XRQ putQ XFv XL XW2 wQ putW X XO XOp XH XHo XW SeqQ BlkQ XOQ XHQ NrmQ XC XM XG XHM XHG XD CallK
open Go.RowKit
@[go_sem] theorem lit1_op : lit1.op = 0 := rfl
@[go_sem] theorem lit1_kids : lit1.kids = [] := rfl
@[go_sem] theorem lit1_kd : lit1.kd = 5 := rfl
@[go_sem] theorem lit1_n : lit1.n = 1 := rfl
@[go_sem] theorem lit1_nm : lit1.nm = ⟨#[]⟩ := rfl
theorem lit1_chk : chkE (oneE nameF) [lit1] = 0 := by
  have h1 : oneE nameF lit1 0 = 0 := by
    simp [oneE, lit1, ar, namedB, checkV, lo, hi]
  have hk : lit1.kids = [] := rfl
  simp [chkE, nodesF, h1, useF, hk]
theorem copied_lit : Pure Tryd.prog 70 [.v (.slice none 0 0), encL 5 cNd [lit1], I 0] (encL 5 cNd [lit1]) := by
  have hx : ([lit1] : List Nd)[0]? = some lit1 := rfl
  intro h
  refine callK_body Tryd.func70 rfl (by rw [nt70]; simp) ?_; rw [nt70, rs70]
  (repeat' (first | simp [go_sem, X_region, *] | simp (disch := omega) only [om, *] | ((first | refine XC_split ?_ ?_ | refine XG_true ?_ ?_ | refine XG_false ?_ ?_ | refine XRg_true ?_ ?_ | refine XRg_false ?_ ?_) <;> intro hc <;> (try simp only [bl] at hc) <;> (try (exfalso; omega))) | refine XD_w [] [] [] (fun _ => none) mixed (by decide +kernel) (sub_none _) ?_ | fail))
  intro b7 hb7
  (repeat' (first | simp [go_sem, X_region, *] | simp (disch := omega) only [om, *] | ((first | refine XC_split ?_ ?_ | refine XG_true ?_ ?_ | refine XG_false ?_ ?_ | refine XRg_true ?_ ?_ | refine XRg_false ?_ ?_) <;> intro hc <;> (try simp only [bl] at hc) <;> (try (exfalso; omega))) | refine XD_w [] [] [] (fun _ => none) mixed (by decide +kernel) (sub_none _) ?_ | fail))
  refine X_lpF (fun i => i = 0 ∨ i = 8 ∨ i = 10 ∨ (18 ≤ i ∧ i ≤ 32)) (fun n T g => ∃ ob : Ob, T 18 = I 0 ∧ T 8 = .v (.slice none 0 0) ∧ T 0 = .v (.slice none 0 0) ∧ g = upd h b7 (some ob) ∧ ob.ty = 39 ∧ ob.s = 5 ∧ ob.n = 1 ∧ ob.f 0 0 = I 0 ∧ ob.f 0 2 = I 5 ∧ ob.f 0 3 = I 1 ∧ ob.f 0 4 = S ⟨#[]⟩) 0
    ⟨_, by simp [go_sem], by simp [go_sem], by simp [go_sem], rfl, rfl, rfl, rfl, by simp [lit1], by simp [lit1], by simp [lit1], by simp [lit1]⟩ ?_
  rintro J hJ n T g hfr ⟨ob, t18, t8, t0, rfl, p1, p2, p3, f0, f2, f3, f4⟩
  (repeat' (first | simp [go_sem, X_region, *] | simp (disch := omega) only [om, *] | ((first | refine XC_split ?_ ?_ | refine XG_true ?_ ?_ | refine XG_false ?_ ?_ | refine XRg_true ?_ ?_ | refine XRg_false ?_ ?_) <;> intro hc <;> (try simp only [bl] at hc) <;> (try (exfalso; omega))) | refine XD_w [] [] [] (fun _ => none) mixed (by decide +kernel) (sub_none _) ?_ | fail))
  intro b hn1 hn2 hb
  refine OwnD.push (x := lit1) (enc := cNd) (l := []) (f := fun _ _ => .any) (hk := h) (h0 := h) ⟨Sub.upd hb7 (Sub.refl _), .inl ⟨rfl, .inl rfl⟩⟩ (Sub.refl _) (fun i hi => absurd hi (Nat.not_lt_zero _)) (by simp [go_sem]) und42 zr39 by39 (by simp [go_sem]) (by rw [upd_ne _ _ hn1]; exact hb) (by simp [go_sem]) rfl (Nat.le_refl _) (fun q hq => ?_) (by simp) (by simp) fun a' g9 own9 hk9 => ?_
  · rcases (show q = 0 ∨ q = 1 ∨ q = 2 ∨ q = 3 ∨ q = 4 by omega) with rfl | rfl | rfl | rfl | rfl
    · exact Wk.refl _ _
    · exact Wk.nil
    · exact Wk.refl _ _
    · exact Wk.refl _ _
    · exact Wk.refl _ _
  · (repeat' (first | simp [go_sem, X_region, *] | simp (disch := omega) only [om, *] | ((first | refine XC_split ?_ ?_ | refine XG_true ?_ ?_ | refine XG_false ?_ ?_ | refine XRg_true ?_ ?_ | refine XRg_false ?_ ?_) <;> intro hc <;> (try simp only [bl] at hc) <;> (try (exfalso; omega))) | refine XD_w [] [] [] (fun _ => none) mixed (by decide +kernel) (sub_none _) ?_ | fail))
    exact own9.frozen (by simp)
theorem norm_lit : Pure Tryd.prog 27 [encL 5 cNd [lit1]] (encL 5 cNd [lit1]) := by
  have hc := tcheck_ok [lit1] fun x hx => by rw [List.mem_singleton.1 hx]; decide
  rw [lit1_chk] at hc
  have hcut : Pure Tryd.prog 33 [encL 5 cNd [lit1], I 0] (encL 5 cNd [lit1]) := by
    intro h
    refine callK_body Tryd.func33 rfl (by rw [nt33]; simp) ?_; rw [nt33, rs33]
    (repeat' (first | simp [go_sem, X_region, *] | simp (disch := omega) only [om, *] | ((first | refine XC_split ?_ ?_ | refine XG_true ?_ ?_ | refine XG_false ?_ ?_ | refine XRg_true ?_ ?_ | refine XRg_false ?_ ?_) <;> intro hc <;> (try simp only [bl] at hc) <;> (try (exfalso; omega))) | refine XD_w [] [] [] (fun _ => none) mixed (by decide +kernel) (sub_none _) ?_ | refine Pure.call (hc) ?_ | refine ⟨_, Pure.at (hc), ?_⟩ | refine ⟨_, hc, ?_⟩ | refine PureAt.call (hc) ?_ | refine Pure.call (copied_lit) ?_ | refine ⟨_, Pure.at (copied_lit), ?_⟩ | refine ⟨_, copied_lit, ?_⟩ | refine PureAt.call (copied_lit) ?_ | fail))
  intro h
  refine callK_body Tryd.func27 rfl (by rw [nt27]; simp) ?_; rw [nt27, rs27]
  (repeat' (first | simp [go_sem, X_region, *] | simp (disch := omega) only [om, *] | ((first | refine XC_split ?_ ?_ | refine XG_true ?_ ?_ | refine XG_false ?_ ?_ | refine XRg_true ?_ ?_ | refine XRg_false ?_ ?_) <;> intro hc <;> (try simp only [bl] at hc) <;> (try (exfalso; omega))) | refine XD_w [] [] [] (fun _ => none) mixed (by decide +kernel) (sub_none _) ?_ | refine Pure.call (hcut) ?_ | refine ⟨_, Pure.at (hcut), ?_⟩ | refine ⟨_, hcut, ?_⟩ | refine PureAt.call (hcut) ?_ | fail))
theorem clone_0 (f f' : Nat → Nat → AV) : Pure Tryd.prog 61 [.sl 1 0 f] (.sl 1 0 f') := by
  intro h
  unfold CallK
  intro w vals hh ha
  obtain ⟨u, rfl, A, c, rfl, _⟩ := vals_a ha
  have fin : ∀ (w' : World) (A' : Option Addr) (c' : Nat), Rd w' h (.sl 1 0 f') (.slice A' 0 c') := fun w' A' c' => ⟨A', c', rfl, Nat.zero_le _, by decide, fun h0 => absurd h0 (Nat.lt_irrefl _)⟩
  cases A with
  | none =>
    refine (Any.slices_Clone_int_nil Tryd.lays2n15 0 c w).mono ?_
    rintro e w' ⟨rfl, rfl⟩
    exact ⟨_, _, h, rfl, ⟨rfl, rfl⟩, fin _ _ _, hh, ⟨rfl, rfl, rfl⟩, Stp.refl _ _⟩
  | some a =>
    refine (Any.slices_Clone_int_zero Tryd.lays2n15 a c w).mono ?_
    rintro e w' ⟨v', rfl, ⟨_, hown⟩, _, hbel⟩
    have hv : ∃ A' c', v' = .slice A' 0 c' := by
      rcases hown with ⟨e1, _⟩ | ⟨g, cap, cur, e1, _⟩
      · exact ⟨_, _, e1⟩
      · exact ⟨_, _, e1⟩
    obtain ⟨A', c', rfl⟩ := hv
    exact ⟨_, _, h, rfl, ⟨rfl, rfl⟩, fin _ _ _, hh.grow hbel.size hbel.block, ⟨hbel.os, hbel.tape, hbel.output⟩, Stp.grow hh hbel.size hbel.block⟩
@[go_sem] def cE (k : List Nd) : List AV := [encL 5 cNd k]
def addN : Nd := ⟨10, [], 0, 0, ⟨#[]⟩⟩
@[go_sem] theorem addN_op : addN.op = 10 := rfl
@[go_sem] theorem addN_kids : addN.kids = [] := rfl
@[go_sem] theorem addN_kd : addN.kd = 0 := rfl
@[go_sem] theorem addN_n : addN.n = 0 := rfl
@[go_sem] theorem addN_nm : addN.nm = ⟨#[]⟩ := rfl
def sumE : List Nd := [lit1, lit1, ⟨10, [0, 1], 0, 0, ⟨#[]⟩⟩]
theorem sum_chk : chkE (oneE nameF) sumE = 0 := by
  have h1 : ∀ i, oneE nameF lit1 i = 0 := fun i => by
    simp [oneE, lit1, ar, namedB, checkV, lo, hi]
  have h2 : oneE nameF ⟨10, [0, 1], 0, 0, ⟨#[]⟩⟩ 2 = 0 := by
    simp [oneE, ar, namedB]
  simp [chkE, sumE, nodesF, h1, h2, useF, lit1_kids]
theorem lend_wk {h h1 : Hp} {a b : AV} (x : Wk h a h1 b) : Lend h a b := fun w u hh hr => ((x.out w u hh hr).2.2).step (stp_forget (sub_none _))
theorem own_row {h0 h : Hp} {a : AV} {e : TypeId} {s n : Nat} {f : Nat → Nat → AV} (o : Own h0 h a e s n f) (hn : 0 < n) : ∃ d, a = .row d s 0 n := by
  rcases o.2 with ⟨h1, _⟩ | ⟨d, od, h1, _⟩
  · omega
  · exact ⟨d, h1⟩
set_option maxHeartbeats 4000000 in
theorem join_lit : Pure Tryd.prog 22 [aggL [I 10, .v (.slice none 0 0), I 0, I 0, S ⟨#[]⟩], encL 1 cE [[lit1], [lit1]]] (encL 5 cNd sumE) := by
  have hc1 := tcheck_ok [lit1] fun x hx => by rw [List.mem_singleton.1 hx]; decide
  rw [lit1_chk] at hc1
  have hc2 := tcheck_ok sumE fun x hx => by
    rcases List.mem_cons.1 hx with rfl | hx
    · decide
    · rcases List.mem_cons.1 hx with rfl | hx
      · decide
      · rw [List.mem_singleton.1 hx]; decide
  rw [sum_chk] at hc2
  have hn := norm_lit
  intro h
  refine callK_body Tryd.func22 rfl (by rw [nt22]; simp) ?_; rw [nt22, rs22]
  (repeat' (first | simp [go_sem, X_region, *] | simp (disch := omega) only [om, *] | ((first | refine XC_split ?_ ?_ | refine XG_true ?_ ?_ | refine XG_false ?_ ?_ | refine XRg_true ?_ ?_ | refine XRg_false ?_ ?_) <;> intro hc <;> (try simp only [bl] at hc) <;> (try (exfalso; omega))) | refine XD_w [] [] [] (fun _ => none) mixed (by decide +kernel) (sub_none _) ?_ | fail))
  intro b2 hb2
  refine X_lpF (fun i => (4 ≤ i ∧ i ≤ 5) ∨ (7 ≤ i ∧ i ≤ 8) ∨ (10 ≤ i ∧ i ≤ 11) ∨ (15 ≤ i ∧ i ≤ 63)) (fun n T g => ∃ (i : Nat) (ob2 : Ob) (ka : AV), n = 2 - i ∧ i ≤ 2 ∧ T 15 = I i ∧
      Own (upd h b2 (some ob2)) g (T 5) 39 5 i (cellsL cNd (List.replicate i lit1)) ∧ Own (upd h b2 (some ob2)) g ka 3 1 i (cellsL cI ((List.range i).map fun k : Nat => (k : Int))) ∧ ob2.ty = 39 ∧ ob2.s = 5 ∧ ob2.n = 1 ∧ ob2.f 0 0 = I 10 ∧ ob2.f 0 1 = ka ∧ ob2.f 0 2 = I 0 ∧ ob2.f 0 3 = I 0 ∧ ob2.f 0 4 = S ⟨#[]⟩ ∧ (i = 0 → T 5 = .v (.slice none 0 0) ∧ ka = .v (.slice none 0 0))) 2
    ⟨0, _, .v (.slice none 0 0), rfl, by omega, by simp [go_sem], by simpa [go_sem] using Own.none, by simpa [go_sem] using Own.none, rfl, rfl, rfl, by simp [go_sem], by simp [go_sem], by simp [go_sem], by simp [go_sem], by simp [go_sem], fun _ => ⟨by simp [go_sem], rfl⟩⟩ ?_
  rintro J hJ n T g hfr ⟨i, ob2, ka, rfl, hi, t15, own5, ownK, p1, p2, p3, f0, f1, f2, f3, f4, hz⟩
  have e2 : g b2 = some ob2 := own5.1 b2 _ (upd_same _ _ _)
  rcases (show i = 0 ∨ i = 1 ∨ i = 2 by omega) with rfl | rfl | rfl
  · have t5 := (hz rfl).1
    (repeat' (first | simp [go_sem, X_region, *] | simp (disch := omega) only [om, *] | ((first | refine XC_split ?_ ?_ | refine XG_true ?_ ?_ | refine XG_false ?_ ?_ | refine XRg_true ?_ ?_ | refine XRg_false ?_ ?_) <;> intro hc <;> (try simp only [bl] at hc) <;> (try (exfalso; omega))) | refine XD_w [] [] [] (fun _ => none) mixed (by decide +kernel) (sub_none _) ?_ | refine Pure.call (hc1) ?_ | refine ⟨_, Pure.at (hc1), ?_⟩ | refine ⟨_, hc1, ?_⟩ | refine PureAt.call (hc1) ?_ | refine Pure.call (hn) ?_ | refine ⟨_, Pure.at (hn), ?_⟩ | refine ⟨_, hn, ?_⟩ | refine PureAt.call (hn) ?_ | fail))
    refine X_lpF (fun i => i = 5 ∨ (10 ≤ i ∧ i ≤ 11) ∨ (27 ≤ i ∧ i ≤ 54)) (fun n T g => ∃ (j : Nat), n = 1 - j ∧ j ≤ 1 ∧ T 27 = I j ∧ Own (upd h b2 (some ob2)) g (T 5) 39 5 (0 + j) (cellsL cNd (List.replicate (0 + j) lit1)) ∧ Own (upd h b2 (some ob2)) g ka 3 1 0 (cellsL cI ((List.range 0).map fun k : Nat => (k : Int)))) 1
      ⟨0, rfl, by omega, by simp [go_sem], by simpa [go_sem] using own5, by simpa [go_sem] using ownK⟩ ?_
    clear own5 ownK e2 t5
    rintro J2 hJ2 n2 T2 g2 hfr2 ⟨j, rfl, hj, t27, own5, ownK⟩
    have e2 : g2 b2 = some ob2 := own5.1 b2 _ (upd_same _ _ _)
    rcases (show j = 0 ∨ j = 1 by omega) with rfl | rfl
    · (repeat' (first | simp [go_sem, X_region, *] | simp (disch := omega) only [om, *] | ((first | refine XC_split ?_ ?_ | refine XG_true ?_ ?_ | refine XG_false ?_ ?_ | refine XRg_true ?_ ?_ | refine XRg_false ?_ ?_) <;> intro hc <;> (try simp only [bl] at hc) <;> (try (exfalso; omega))) | refine XD_w [] [] [] (fun _ => none) mixed (by decide +kernel) (sub_none _) ?_ | fail))
      intro b10 hb10
      have m2 := ne_free hb10 e2
      have hcl := clone_0 (cellsL cI []) (cellsL cI [])
      (repeat' (first | simp [go_sem, X_region, *] | simp (disch := omega) only [om, *] | ((first | refine XC_split ?_ ?_ | refine XG_true ?_ ?_ | refine XG_false ?_ ?_ | refine XRg_true ?_ ?_ | refine XRg_false ?_ ?_) <;> intro hc <;> (try simp only [bl] at hc) <;> (try (exfalso; omega))) | refine XD_w [] [] [] (fun _ => none) mixed (by decide +kernel) (sub_none _) ?_ | refine Pure.call (hcl) ?_ | refine ⟨_, Pure.at (hcl), ?_⟩ | refine ⟨_, hcl, ?_⟩ | refine PureAt.call (hcl) ?_ | fail))
      refine X_lpH (fun i => i = 11 ∨ (38 ≤ i ∧ i ≤ 49)) (fun hE n T g => T 38 = I 0 ∧ g = hE) 0 ⟨by simp [go_sem], rfl⟩ ?_
      rintro hE hEq J3 hJ3 n3 T3 g3 hfr3 ⟨t38, rfl⟩
      obtain ⟨ob10, hob, q1, q2, q3, u0, u1, u2, u3, u4⟩ : ∃ ob10 : Ob, g3 = upd g2 b10 (some ob10) ∧ ob10.ty = 39 ∧ ob10.s = 5 ∧ ob10.n = 1 ∧ ob10.f 0 0 = I 0 ∧ ob10.f 0 1 = AV.sl 1 0 (cellsL cI []) ∧ ob10.f 0 2 = I 5 ∧ ob10.f 0 3 = I 1 ∧ ob10.f 0 4 = S ⟨#[]⟩ := ⟨_, hEq.symm, rfl, rfl, rfl, by simp, by simp, by simp, by simp, by simp⟩
      clear hEq
      subst hob
      have own5' : Own (upd h b2 (some ob2)) (upd g2 b10 (some ob10)) (T2 5) 39 5 (List.replicate 0 lit1).length (cellsL cNd (List.replicate 0 lit1)) := own5.alloc hb10
      have ownK' := ownK.alloc (ob := ob10) hb10
      (repeat' (first | simp [go_sem, X_region, *] | simp (disch := omega) only [om, *] | ((first | refine XC_split ?_ ?_ | refine XG_true ?_ ?_ | refine XG_false ?_ ?_ | refine XRg_true ?_ ?_ | refine XRg_false ?_ ?_) <;> intro hc <;> (try simp only [bl] at hc) <;> (try (exfalso; omega))) | refine XD_w [] [] [] (fun _ => none) mixed (by decide +kernel) (sub_none _) ?_ | fail))
      intro bl hl1 hl2 hbl
      obtain ⟨H, oH, sH, kH⟩ := own_hole own5'
      refine Own.push (x := lit1) (enc := cNd) oH (by simp [go_sem]) und42 zr39 by39 (by simp [go_sem]) (by rw [upd_ne _ _ hl1]; exact hbl) (by simp [go_sem]) rfl (Nat.le_refl _) (by simp [go_sem]) (by decide) (by decide) fun a1 h1 hown1 hk1 => ?_
      have ownK2 := own_keep sH kH hown1.1 ownK' (own_apartT own5' ownK' (by decide))
      have own52 : Own (upd h b2 (some ob2)) h1 a1 39 5 (0 + 1) (cellsL cNd (List.replicate (0 + 1) lit1)) := own_up sH hown1
      (repeat' (first | simp [go_sem, X_region, *] | simp (disch := omega) only [om, *] | ((first | refine XC_split ?_ ?_ | refine XG_true ?_ ?_ | refine XG_false ?_ ?_ | refine XRg_true ?_ ?_ | refine XRg_false ?_ ?_) <;> intro hc <;> (try simp only [bl] at hc) <;> (try (exfalso; omega))) | refine XD_w [] [] [] (fun _ => none) mixed (by decide +kernel) (sub_none _) ?_ | fail))
      refine hJ2.out _ _ _ ⟨?_, 1, rfl, by omega, by simp [go_sem], by simpa [go_sem] using own52, ownK2⟩
      repeat (refine fr_upd (by decide) ?_)
      refine fr_in (by intro i; omega) hfr3 ?_
      repeat (refine fr_upd (by decide) ?_)
      exact hfr2
    · obtain ⟨d5, t5⟩ := own_row own5 (by decide)
      have ownKx : Own (upd h b2 (some ob2)) g2 ka 3 1 ((List.range 0).map fun k : Nat => (k : Int)).length (cellsL cI ((List.range 0).map fun k : Nat => (k : Int))) := ownK
      (repeat' (first | simp [go_sem, X_region, *] | simp (disch := omega) only [om, *] | ((first | refine XC_split ?_ ?_ | refine XG_true ?_ ?_ | refine XG_false ?_ ?_ | refine XRg_true ?_ ?_ | refine XRg_false ?_ ?_) <;> intro hc <;> (try simp only [bl] at hc) <;> (try (exfalso; omega))) | refine XD_w [] [] [] (fun _ => none) mixed (by decide +kernel) (sub_none _) ?_ | fail))
      intro bl hbl
      obtain ⟨H, oH, sH, kH⟩ := own_hole ownKx
      refine Own.push (x := (0 : Int)) (enc := cI) oH (by simp [go_sem, *]) und37 zr3 by3 (by simp [go_sem]) hbl (by simp [go_sem]) rfl (Nat.le_refl _) (by simp [go_sem]) (by decide) (by decide) fun a1 h1 hown1 hk1 => ?_
      have own52 := own_keep sH kH hown1.1 own5 (own_apartT ownKx own5 (by decide))
      have ownK2 := own_up sH hown1
      obtain ⟨dk, rfl⟩ : ∃ dk, a1 = .row dk 1 0 (0 + 1) := own_row ownK2 (by decide)
      have e22 : h1 b2 = some ob2 := own52.1 b2 _ (upd_same _ _ _)
      (repeat' (first | simp [go_sem, X_region, *] | simp (disch := omega) only [om, *] | ((first | refine XC_split ?_ ?_ | refine XG_true ?_ ?_ | refine XG_false ?_ ?_ | refine XRg_true ?_ ?_ | refine XRg_false ?_ ?_) <;> intro hc <;> (try simp only [bl] at hc) <;> (try (exfalso; omega))) | refine XD_w [] [] [] (fun _ => none) mixed (by decide +kernel) (sub_none _) ?_ | fail))
      have w5 := own_other (o2 := ⟨39, 5, 1, fun i' j' => if i' = 0 ∧ 1 ≤ j' ∧ j' < 2 then AV.row dk 1 0 (0 + 1) else ob2.f i' j'⟩) own52 (upd_same _ _ _)
      have wK := own_other (o2 := ⟨39, 5, 1, fun i' j' => if i' = 0 ∧ 1 ≤ j' ∧ j' < 2 then AV.row dk 1 0 (0 + 1) else ob2.f i' j'⟩) ownK2 (upd_same _ _ _)
      rw [upd_upd] at w5 wK
      first
        | refine ⟨1, by decide, hJ.out _ _ _ ⟨?_, 0 + 1, _, .row dk 1 0 (0 + 1), rfl, by omega, by simp [go_sem], by simpa [go_sem] using w5, wK, rfl, rfl, rfl, by simp [f0], by simp, by simp [f2], by simp [f3], by simp [f4], fun h => absurd h (by decide)⟩⟩
        | refine hJ.out _ _ _ ⟨?_, 0 + 1, _, .row dk 1 0 (0 + 1), rfl, by omega, by simp [go_sem], by simpa [go_sem] using w5, wK, rfl, rfl, rfl, by simp [f0], by simp, by simp [f2], by simp [f3], by simp [f4], fun h => absurd h (by decide)⟩
      repeat (refine fr_upd (by decide) ?_)
      refine fr_in (by intro i; omega) hfr2 ?_
      repeat (refine fr_upd (by decide) ?_)
      exact hfr
  · clear hz
    obtain ⟨d5, t5⟩ := own_row own5 (by decide)
    (repeat' (first | simp [go_sem, X_region, *] | simp (disch := omega) only [om, *] | ((first | refine XC_split ?_ ?_ | refine XG_true ?_ ?_ | refine XG_false ?_ ?_ | refine XRg_true ?_ ?_ | refine XRg_false ?_ ?_) <;> intro hc <;> (try simp only [bl] at hc) <;> (try (exfalso; omega))) | refine XD_w [] [] [] (fun _ => none) mixed (by decide +kernel) (sub_none _) ?_ | refine Pure.call (hc1) ?_ | refine ⟨_, Pure.at (hc1), ?_⟩ | refine ⟨_, hc1, ?_⟩ | refine PureAt.call (hc1) ?_ | refine Pure.call (hn) ?_ | refine ⟨_, Pure.at (hn), ?_⟩ | refine ⟨_, hn, ?_⟩ | refine PureAt.call (hn) ?_ | fail))
    refine X_lpF (fun i => i = 5 ∨ (10 ≤ i ∧ i ≤ 11) ∨ (27 ≤ i ∧ i ≤ 54)) (fun n T g => ∃ (j : Nat), n = 1 - j ∧ j ≤ 1 ∧ T 27 = I j ∧ Own (upd h b2 (some ob2)) g (T 5) 39 5 (1 + j) (cellsL cNd (List.replicate (1 + j) lit1)) ∧ Own (upd h b2 (some ob2)) g ka 3 1 1 (cellsL cI ((List.range 1).map fun k : Nat => (k : Int)))) 1
      ⟨0, rfl, by omega, by simp [go_sem], by simpa [go_sem] using own5, by simpa [go_sem] using ownK⟩ ?_
    clear own5 ownK e2 t5
    rintro J2 hJ2 n2 T2 g2 hfr2 ⟨j, rfl, hj, t27, own5, ownK⟩
    have e2 : g2 b2 = some ob2 := own5.1 b2 _ (upd_same _ _ _)
    rcases (show j = 0 ∨ j = 1 by omega) with rfl | rfl
    · (repeat' (first | simp [go_sem, X_region, *] | simp (disch := omega) only [om, *] | ((first | refine XC_split ?_ ?_ | refine XG_true ?_ ?_ | refine XG_false ?_ ?_ | refine XRg_true ?_ ?_ | refine XRg_false ?_ ?_) <;> intro hc <;> (try simp only [bl] at hc) <;> (try (exfalso; omega))) | refine XD_w [] [] [] (fun _ => none) mixed (by decide +kernel) (sub_none _) ?_ | fail))
      intro b10 hb10
      have m2 := ne_free hb10 e2
      have hcl := clone_0 (cellsL cI []) (cellsL cI [])
      (repeat' (first | simp [go_sem, X_region, *] | simp (disch := omega) only [om, *] | ((first | refine XC_split ?_ ?_ | refine XG_true ?_ ?_ | refine XG_false ?_ ?_ | refine XRg_true ?_ ?_ | refine XRg_false ?_ ?_) <;> intro hc <;> (try simp only [bl] at hc) <;> (try (exfalso; omega))) | refine XD_w [] [] [] (fun _ => none) mixed (by decide +kernel) (sub_none _) ?_ | refine Pure.call (hcl) ?_ | refine ⟨_, Pure.at (hcl), ?_⟩ | refine ⟨_, hcl, ?_⟩ | refine PureAt.call (hcl) ?_ | fail))
      refine X_lpH (fun i => i = 11 ∨ (38 ≤ i ∧ i ≤ 49)) (fun hE n T g => T 38 = I 0 ∧ g = hE) 0 ⟨by simp [go_sem], rfl⟩ ?_
      rintro hE hEq J3 hJ3 n3 T3 g3 hfr3 ⟨t38, rfl⟩
      obtain ⟨ob10, hob, q1, q2, q3, u0, u1, u2, u3, u4⟩ : ∃ ob10 : Ob, g3 = upd g2 b10 (some ob10) ∧ ob10.ty = 39 ∧ ob10.s = 5 ∧ ob10.n = 1 ∧ ob10.f 0 0 = I 0 ∧ ob10.f 0 1 = AV.sl 1 0 (cellsL cI []) ∧ ob10.f 0 2 = I 5 ∧ ob10.f 0 3 = I 1 ∧ ob10.f 0 4 = S ⟨#[]⟩ := ⟨_, hEq.symm, rfl, rfl, rfl, by simp, by simp, by simp, by simp, by simp⟩
      clear hEq
      subst hob
      have own5' : Own (upd h b2 (some ob2)) (upd g2 b10 (some ob10)) (T2 5) 39 5 (List.replicate 1 lit1).length (cellsL cNd (List.replicate 1 lit1)) := own5.alloc hb10
      have ownK' := ownK.alloc (ob := ob10) hb10
      (repeat' (first | simp [go_sem, X_region, *] | simp (disch := omega) only [om, *] | ((first | refine XC_split ?_ ?_ | refine XG_true ?_ ?_ | refine XG_false ?_ ?_ | refine XRg_true ?_ ?_ | refine XRg_false ?_ ?_) <;> intro hc <;> (try simp only [bl] at hc) <;> (try (exfalso; omega))) | refine XD_w [] [] [] (fun _ => none) mixed (by decide +kernel) (sub_none _) ?_ | fail))
      intro bl hl1 hl2 hbl
      obtain ⟨H, oH, sH, kH⟩ := own_hole own5'
      refine Own.push (x := lit1) (enc := cNd) oH (by simp [go_sem]) und42 zr39 by39 (by simp [go_sem]) (by rw [upd_ne _ _ hl1]; exact hbl) (by simp [go_sem]) rfl (Nat.le_refl _) (by simp [go_sem]) (by decide) (by decide) fun a1 h1 hown1 hk1 => ?_
      have ownK2 := own_keep sH kH hown1.1 ownK' (own_apartT own5' ownK' (by decide))
      have own52 : Own (upd h b2 (some ob2)) h1 a1 39 5 (1 + 1) (cellsL cNd (List.replicate (1 + 1) lit1)) := own_up sH hown1
      (repeat' (first | simp [go_sem, X_region, *] | simp (disch := omega) only [om, *] | ((first | refine XC_split ?_ ?_ | refine XG_true ?_ ?_ | refine XG_false ?_ ?_ | refine XRg_true ?_ ?_ | refine XRg_false ?_ ?_) <;> intro hc <;> (try simp only [bl] at hc) <;> (try (exfalso; omega))) | refine XD_w [] [] [] (fun _ => none) mixed (by decide +kernel) (sub_none _) ?_ | fail))
      refine hJ2.out _ _ _ ⟨?_, 1, rfl, by omega, by simp [go_sem], by simpa [go_sem] using own52, ownK2⟩
      repeat (refine fr_upd (by decide) ?_)
      refine fr_in (by intro i; omega) hfr3 ?_
      repeat (refine fr_upd (by decide) ?_)
      exact hfr2
    · obtain ⟨d5, t5⟩ := own_row own5 (by decide)
      have ownKx : Own (upd h b2 (some ob2)) g2 ka 3 1 ((List.range 1).map fun k : Nat => (k : Int)).length (cellsL cI ((List.range 1).map fun k : Nat => (k : Int))) := ownK
      (repeat' (first | simp [go_sem, X_region, *] | simp (disch := omega) only [om, *] | ((first | refine XC_split ?_ ?_ | refine XG_true ?_ ?_ | refine XG_false ?_ ?_ | refine XRg_true ?_ ?_ | refine XRg_false ?_ ?_) <;> intro hc <;> (try simp only [bl] at hc) <;> (try (exfalso; omega))) | refine XD_w [] [] [] (fun _ => none) mixed (by decide +kernel) (sub_none _) ?_ | fail))
      intro bl hbl
      obtain ⟨H, oH, sH, kH⟩ := own_hole ownKx
      refine Own.push (x := (1 : Int)) (enc := cI) oH (by simp [go_sem, *]) und37 zr3 by3 (by simp [go_sem]) hbl (by simp [go_sem]) rfl (Nat.le_refl _) (by simp [go_sem]) (by decide) (by decide) fun a1 h1 hown1 hk1 => ?_
      have own52 := own_keep sH kH hown1.1 own5 (own_apartT ownKx own5 (by decide))
      have ownK2 := own_up sH hown1
      obtain ⟨dk, rfl⟩ : ∃ dk, a1 = .row dk 1 0 (1 + 1) := own_row ownK2 (by decide)
      have e22 : h1 b2 = some ob2 := own52.1 b2 _ (upd_same _ _ _)
      (repeat' (first | simp [go_sem, X_region, *] | simp (disch := omega) only [om, *] | ((first | refine XC_split ?_ ?_ | refine XG_true ?_ ?_ | refine XG_false ?_ ?_ | refine XRg_true ?_ ?_ | refine XRg_false ?_ ?_) <;> intro hc <;> (try simp only [bl] at hc) <;> (try (exfalso; omega))) | refine XD_w [] [] [] (fun _ => none) mixed (by decide +kernel) (sub_none _) ?_ | fail))
      have w5 := own_other (o2 := ⟨39, 5, 1, fun i' j' => if i' = 0 ∧ 1 ≤ j' ∧ j' < 2 then AV.row dk 1 0 (1 + 1) else ob2.f i' j'⟩) own52 (upd_same _ _ _)
      have wK := own_other (o2 := ⟨39, 5, 1, fun i' j' => if i' = 0 ∧ 1 ≤ j' ∧ j' < 2 then AV.row dk 1 0 (1 + 1) else ob2.f i' j'⟩) ownK2 (upd_same _ _ _)
      rw [upd_upd] at w5 wK
      first
        | refine ⟨1, by decide, hJ.out _ _ _ ⟨?_, 1 + 1, _, .row dk 1 0 (1 + 1), rfl, by omega, by simp [go_sem], by simpa [go_sem] using w5, wK, rfl, rfl, rfl, by simp [f0], by simp, by simp [f2], by simp [f3], by simp [f4], fun h => absurd h (by decide)⟩⟩
        | refine hJ.out _ _ _ ⟨?_, 1 + 1, _, .row dk 1 0 (1 + 1), rfl, by omega, by simp [go_sem], by simpa [go_sem] using w5, wK, rfl, rfl, rfl, by simp [f0], by simp, by simp [f2], by simp [f3], by simp [f4], fun h => absurd h (by decide)⟩
      repeat (refine fr_upd (by decide) ?_)
      refine fr_in (by intro i; omega) hfr2 ?_
      repeat (refine fr_upd (by decide) ?_)
      exact hfr
  · clear hz
    obtain ⟨d5, t5⟩ := own_row own5 (by decide)
    obtain ⟨dk, rfl⟩ := own_row ownK (by decide)
    have hap := own_apartT own5 ownK (by decide) dk
    obtain ⟨obk, ek0, ek, es, en, ef⟩ : ∃ obk, (upd h b2 (some ob2)) dk = none ∧ g dk = some obk ∧ obk.s = 1 ∧ 2 ≤ obk.n ∧ ∀ i, i < 2 → obk.f i 0 = cellsL cI ((List.range 2).map fun k : Nat => (k : Int)) i 0 := by
      rcases ownK.2 with ⟨h0, _⟩ | ⟨c, oc, hc, r1, r2, r3, r4, r5, r6, r7⟩
      · omega
      · cases hc
        exact ⟨oc, r1, r2, r3, by omega, fun i hi => r7 i hi 0 (by decide)⟩
    obtain ⟨f, hk, oD, sD, kD, wD⟩ := own5.deep.with ek fun e => hap e rfl
    (repeat' (first | simp [go_sem, X_region, *] | simp (disch := omega) only [om, *] | ((first | refine XC_split ?_ ?_ | refine XG_true ?_ ?_ | refine XG_false ?_ ?_ | refine XRg_true ?_ ?_ | refine XRg_false ?_ ?_) <;> intro hc <;> (try simp only [bl] at hc) <;> (try (exfalso; omega))) | refine XD_w [] [] [] (fun _ => none) mixed (by decide +kernel) (sub_none _) ?_ | fail))
    intro bl hbl
    refine OwnD.push (x := (⟨10, [0, 1], 0, 0, ⟨#[]⟩⟩ : Nd)) (enc := cNd) (l := List.replicate 2 lit1) oD sD wD (by simp [go_sem, t5]) und42 zr39 by39 (by simp [go_sem]) hbl (by simp [go_sem]) rfl (Nat.le_refl _) (fun q hq => ?_) (by decide) (by decide) fun a' g9 own9 hk9 => ?_
    · rcases (show q = 0 ∨ q = 1 ∨ q = 2 ∨ q = 3 ∨ q = 4 by omega) with rfl | rfl | rfl | rfl | rfl
      · exact Wk.drop _ sD
      · exact Wk.rowF kD sD ek0 es en (by decide) fun i hi j hj => by
          obtain rfl : j = 0 := by omega
          rw [ef i hi]
          rcases (show i = 0 ∨ i = 1 by omega) with rfl | rfl <;> rfl
      · exact Wk.drop _ sD
      · exact Wk.drop _ sD
      · exact Wk.drop _ sD
    · have ht9 : OwnD (upd h b2 (some ob2)) g9 a' 39 5 3 (cellsL cNd sumE) := own9
      have hfz := ht9.frozen (by decide)
      have hck : PureAt Tryd.prog g9 41 [a'] (I 0) := Pure.lend hc2 (.cons (lend_wk hfz) .nil) (Flat.v _)
      (repeat' (first | simp [go_sem, X_region, *] | simp (disch := omega) only [om, *] | ((first | refine XC_split ?_ ?_ | refine XG_true ?_ ?_ | refine XG_false ?_ ?_ | refine XRg_true ?_ ?_ | refine XRg_false ?_ ?_) <;> intro hc <;> (try simp only [bl] at hc) <;> (try (exfalso; omega))) | refine XD_w [] [] [] (fun _ => none) mixed (by decide +kernel) (sub_none _) ?_ | refine Pure.call (hck) ?_ | refine ⟨_, Pure.at (hck), ?_⟩ | refine ⟨_, hck, ?_⟩ | refine PureAt.call (hck) ?_ | fail))
      exact hfz.trans (Wk.drop _ (Sub.upd hb2 (Sub.refl _)))
theorem rd_row_tz {w : World} {h hF : Hp} {b s n : Nat} {o : Ob} {f : Nat → Nat → AV} {u : Value} (hs : Sub hF h) (hF0 : hF b = none) (hb : h b = some o) (h1 : o.s = s) (h2 : n ≤ o.n) (h3 : n ≤ 140737488355328) (hf : ∀ i, i < n → ∀ j, j < s → o.f i j = f i j) (hh : RelH w h) (hr : Rd w h (.row b s 0 n) u) : Rd w hF (.sl s n f) u := by
  obtain ⟨cap, hu, hle, hlt, _⟩ := hr
  subst h1
  refine ⟨some ⟨b, 0 * o.s, none⟩, cap, hu, hle, h3, fun _ => ⟨b, 0 * o.s, rfl, hF0, hlt, fun i hi j hj => ?_⟩⟩
  obtain ⟨c, hc, hn, hp, hcell⟩ := hh.cells hb (.inl (by omega))
  obtain ⟨y, hy, hy1, hyr⟩ := hcell i (by omega) j hj
  exact ⟨y, by simp only [World.cell?, hc]; simpa using hy, hy1, by rw [← hf i hi j hj]; exact hyr.step (stp_forget hs)⟩
theorem row2g {h : Hp} {f : FuncId} {k s n : Nat} {ob : Ob} {g : Nat → Nat → AV} {x : AV} {K : AV → Hp → Prop} (hk : h k = none) (h1 : ob.s = s) (h2 : ob.n = n) (h3 : n ≤ 140737488355328) (hf : ∀ i, i < n → ∀ j, j < s → ob.f i j = g i j)
    (c : CallK Tryd.prog h f [x, .sl s n g] K) : CallK Tryd.prog (upd h k (some ob)) f [x, .row k s 0 n] K := by
  have hs : Sub h (upd h k (some ob)) := fun c oc hc => by rw [upd_ne _ _ (fun e => by rw [e, hk] at hc; cases hc)]; exact hc
  unfold CallK at c ⊢
  intro w vals hh ha
  refine (c w vals (relH_forget hh hs) ⟨ha.1, fun i a hi => ?_⟩).mono ?_
  · match i, hi with
    | 0, hi =>
      obtain ⟨u, e, r⟩ := ha.2 0 _ rfl
      cases hi
      exact ⟨u, e, r.step (stp_forget hs)⟩
    | 1, hi =>
      obtain ⟨u, e, r⟩ := ha.2 1 _ rfl
      cases hi
      exact ⟨u, e, rd_row_tz hs hk (upd_same _ _ _) h1 (by omega) h3 hf hh r⟩
  · rintro e w' ⟨u, r, h', k1, k2, k3, k4, k5, k6⟩
    exact ⟨u, r, h', k1, k2, k3, k4, k5, (stp_forget hs).trans k6⟩
theorem sum_deep : deepF sumE = 2 := by
  simp [deepF, deepsF, maxF, sumE, lit1]
  rfl
theorem trbegun_ok : Pure Tryd.prog 19 [] (B true) := by
  have hck := tcheck_ok sumE fun x hx => by
    rcases List.mem_cons.1 hx with rfl | hx
    · decide
    · rcases List.mem_cons.1 hx with rfl | hx
      · decide
      · rw [List.mem_singleton.1 hx]; decide
  have hd := deep_ok (chkE (oneE nameF)) sumE hck fun hz => by
    obtain ⟨a1, a2, a3⟩ := valid_facts (by rw [tree_chk]; exact hz)
    refine ⟨a1, a2, fun i x hx => ?_⟩
    obtain ⟨b1, b2, _⟩ := a3 i x hx
    have := ar_le x.op
    exact ⟨b1, by omega⟩
  rw [sum_chk, if_neg (by decide), sum_deep] at hd
  rw [sum_chk] at hck
  have hsl : sumE.length = 3 := rfl
  have hj := join_lit
  intro h
  refine callK_body Tryd.func19 rfl (by rw [nt19]; simp) ?_; rw [nt19, rs19]
  (repeat' (first | simp [go_sem, X_region, *] | simp (disch := omega) only [om, *] | ((first | refine XC_split ?_ ?_ | refine XG_true ?_ ?_ | refine XG_false ?_ ?_ | refine XRg_true ?_ ?_ | refine XRg_false ?_ ?_) <;> intro hc <;> (try simp only [bl] at hc) <;> (try (exfalso; omega))) | refine XD_w [] [] [] (fun _ => none) mixed (by decide +kernel) (sub_none _) ?_ | refine Pure.call (one_begun) ?_ | refine ⟨_, Pure.at (one_begun), ?_⟩ | refine ⟨_, one_begun, ?_⟩ | refine PureAt.call (one_begun) ?_ | fail))
  intro b hb
  refine row2g (g := cellsL cE [[lit1], [lit1]]) hb rfl rfl (by decide) (fun i hi j hj => ?_) ((hj h).mono ?_)
  · obtain rfl : j = 0 := by omega
    rcases (show i = 0 ∨ i = 1 by omega) with rfl | rfl <;> rfl
  · rintro r h' ⟨rfl, rfl⟩
    (repeat' (first | simp [go_sem, X_region, *] | simp (disch := omega) only [om, *] | ((first | refine XC_split ?_ ?_ | refine XG_true ?_ ?_ | refine XG_false ?_ ?_ | refine XRg_true ?_ ?_ | refine XRg_false ?_ ?_) <;> intro hc <;> (try simp only [bl] at hc) <;> (try (exfalso; omega))) | refine XD_w [] [] [] (fun _ => none) mixed (by decide +kernel) (sub_none _) ?_ | refine Pure.call (hck) ?_ | refine ⟨_, Pure.at (hck), ?_⟩ | refine ⟨_, hck, ?_⟩ | refine PureAt.call (hck) ?_ | refine Pure.call (hd) ?_ | refine ⟨_, Pure.at (hd), ?_⟩ | refine ⟨_, hd, ?_⟩ | refine PureAt.call (hd) ?_ | fail))
end Go.Proofs.YtmalhikcdideoaaDoor

set_option linter.unusedVariables false
set_option linter.unusedSimpArgs false
namespace Go.Proofs.YtmalhikcdideoaaDoor
open Go Sl
attribute [local irreducible] XRange LpQ XR XRo XRg XRQ putQ XFv XL XW2 wQ putW X XO XOp XH XHo XW SeqQ BlkQ XOQ XHQ NrmQ XC XM XG XHM XHG XD CallK
open Go.RowKit
/-- slices.Sort on a slice without elements. -/
theorem len64_0 : Pure Tryd.prog 136 [.v (.int .u64 0)] (I 0) := by
  intro h; refine callK_body Tryd.func136 rfl (by rw [nt136]; simp) ?_; rw [nt136, rs136]
  have e8 : IntKind.u8.wrap 0 = 0 := by decide
  have e9 : (0 : Nat) < Lib.len8tab.size := by decide +kernel
  have e10 : (gb Lib.len8tab 0).toNat = 0 := by decide +kernel
  ((repeat' (first | simp [go_sem, X_region, *] | simp (disch := omega) only [om, *] | ((first | refine XC_split ?_ ?_ | refine XG_true ?_ ?_ | refine XG_false ?_ ?_ | refine XRg_true ?_ ?_ | refine XRg_false ?_ ?_) <;> intro hc <;> (try simp only [bl] at hc) <;> (try (exfalso; omega))) | refine XD_w [] [] [] (fun _ => none) mixed (by decide +kernel) (sub_none _) ?_ | (intro bk hbk; (try simp only [go_sem] at hbk)))); all_goals (refine Wk.fin (by repeat (first | exact Sub.refl _ | refine Sub.upd (by simp [*]) ?_)) ?_; first | (simp [*]; done) | (simp only []; (repeat' (first | split | rfl | omega | (simp_all; done))); done) | (simp [*]; (repeat' (first | split | omega | (rw [Bool.eq_iff_iff]; simp; omega))); done) | (simp [*])))
theorem len_0 : Pure Tryd.prog 112 [.v (.int .u64 0)] (I 0) := by
  intro h; refine callK_body Tryd.func112 rfl (by rw [nt112]; simp) ?_; rw [nt112, rs112]
  ((repeat' (first | simp [go_sem, X_region, *] | simp (disch := omega) only [om, *] | ((first | refine XC_split ?_ ?_ | refine XG_true ?_ ?_ | refine XG_false ?_ ?_ | refine XRg_true ?_ ?_ | refine XRg_false ?_ ?_) <;> intro hc <;> (try simp only [bl] at hc) <;> (try (exfalso; omega))) | refine XD_w [] [] [] (fun _ => none) mixed (by decide +kernel) (sub_none _) ?_ | refine Pure.call (len64_0) ?_ | refine ⟨_, Pure.at (len64_0), ?_⟩ | refine ⟨_, len64_0, ?_⟩ | refine PureAt.call (len64_0) ?_ | (intro bk hbk; (try simp only [go_sem] at hbk)))); all_goals (refine Wk.fin (by repeat (first | exact Sub.refl _ | refine Sub.upd (by simp [*]) ?_)) ?_; first | (simp [*]; done) | (simp only []; (repeat' (first | split | rfl | omega | (simp_all; done))); done) | (simp [*]; (repeat' (first | split | omega | (rw [Bool.eq_iff_iff]; simp; omega))); done) | (simp [*])))
abbrev noR : AV := .tup 0 fun _ => .any
theorem ins_0 {a : AV} : Pure Tryd.prog 127 [a, I 0, I 0] noR := by
  intro h
  refine callK_body Tryd.func127 rfl (by rw [nt127]; simp) ?_; rw [nt127, rs127]
  (repeat' (first | simp [go_sem, X_region, *] | simp (disch := omega) only [om, *] | ((first | refine XC_split ?_ ?_ | refine XG_true ?_ ?_ | refine XG_false ?_ ?_ | refine XRg_true ?_ ?_ | refine XRg_false ?_ ?_) <;> intro hc <;> (try simp only [bl] at hc) <;> (try (exfalso; omega))) | refine XD_w [] [] [] (fun _ => none) mixed (by decide +kernel) (sub_none _) ?_ | fail))
  refine X_lpF (fun i => (6 ≤ i ∧ i ≤ 7) ∨ (10 ≤ i ∧ i ≤ 48)) (fun n T g => T 6 = I 1 ∧ g = h) 0 ⟨by simp [go_sem], rfl⟩ ?_
  rintro J hJ n T g hfr ⟨t6, rfl⟩
  (repeat' (first | simp [go_sem, X_region, *] | simp (disch := omega) only [om, *] | ((first | refine XC_split ?_ ?_ | refine XG_true ?_ ?_ | refine XG_false ?_ ?_ | refine XRg_true ?_ ?_ | refine XRg_false ?_ ?_) <;> intro hc <;> (try simp only [bl] at hc) <;> (try (exfalso; omega))) | refine XD_w [] [] [] (fun _ => none) mixed (by decide +kernel) (sub_none _) ?_ | fail))
theorem pdq_0 {a : AV} : Pure Tryd.prog 111 [a, I 0, I 0, I 0] noR := by
  intro h
  refine callK_body Tryd.func111 rfl (by rw [nt111]; simp) ?_; rw [nt111, rs111]
  (repeat' (first | simp [go_sem, X_region, *] | simp (disch := omega) only [om, *] | ((first | refine XC_split ?_ ?_ | refine XG_true ?_ ?_ | refine XG_false ?_ ?_ | refine XRg_true ?_ ?_ | refine XRg_false ?_ ?_) <;> intro hc <;> (try simp only [bl] at hc) <;> (try (exfalso; omega))) | refine XD_w [] [] [] (fun _ => none) mixed (by decide +kernel) (sub_none _) ?_ | fail))
  refine X_lpF (fun i => (1 ≤ i ∧ i ≤ 3) ∨ (8 ≤ i ∧ i ≤ 133)) (fun n T g => T 0 = a ∧ T 1 = I 0 ∧ T 2 = I 0 ∧ g = h) 0 ⟨by simp [go_sem], by simp [go_sem], by simp [go_sem], rfl⟩ ?_
  rintro J hJ n T g hfr ⟨t0, t1, t2, rfl⟩
  (repeat' (first | simp [go_sem, X_region, *] | simp (disch := omega) only [om, *] | ((first | refine XC_split ?_ ?_ | refine XG_true ?_ ?_ | refine XG_false ?_ ?_ | refine XRg_true ?_ ?_ | refine XRg_false ?_ ?_) <;> intro hc <;> (try simp only [bl] at hc) <;> (try (exfalso; omega))) | refine XD_w [] [] [] (fun _ => none) mixed (by decide +kernel) (sub_none _) ?_ | refine Pure.call (ins_0) ?_ | refine ⟨_, Pure.at (ins_0), ?_⟩ | refine ⟨_, ins_0, ?_⟩ | refine PureAt.call (ins_0) ?_ | fail))
theorem sort_0 {a : AV} (ha : a = .v (.slice none 0 0) ∨ a = .e0) : Pure Tryd.prog 79 [a] noR := by
  intro h
  rcases ha with rfl | rfl
  · refine callK_body Tryd.func79 rfl (by rw [nt79]; simp) ?_; rw [nt79, rs79]
    (repeat' (first | simp [go_sem, X_region, *] | simp (disch := omega) only [om, *] | ((first | refine XC_split ?_ ?_ | refine XG_true ?_ ?_ | refine XG_false ?_ ?_ | refine XRg_true ?_ ?_ | refine XRg_false ?_ ?_) <;> intro hc <;> (try simp only [bl] at hc) <;> (try (exfalso; omega))) | refine XD_w [] [] [] (fun _ => none) mixed (by decide +kernel) (sub_none _) ?_ | refine Pure.call (len_0) ?_ | refine ⟨_, Pure.at (len_0), ?_⟩ | refine ⟨_, len_0, ?_⟩ | refine PureAt.call (len_0) ?_ | refine Pure.call (pdq_0) ?_ | refine ⟨_, Pure.at (pdq_0), ?_⟩ | refine ⟨_, pdq_0, ?_⟩ | refine PureAt.call (pdq_0) ?_ | fail))
  · refine callK_body Tryd.func79 rfl (by rw [nt79]; simp) ?_; rw [nt79, rs79]
    (repeat' (first | simp [go_sem, X_region, *] | simp (disch := omega) only [om, *] | ((first | refine XC_split ?_ ?_ | refine XG_true ?_ ?_ | refine XG_false ?_ ?_ | refine XRg_true ?_ ?_ | refine XRg_false ?_ ?_) <;> intro hc <;> (try simp only [bl] at hc) <;> (try (exfalso; omega))) | refine XD_w [] [] [] (fun _ => none) mixed (by decide +kernel) (sub_none _) ?_ | refine Pure.call (len_0) ?_ | refine ⟨_, Pure.at (len_0), ?_⟩ | refine ⟨_, len_0, ?_⟩ | refine PureAt.call (len_0) ?_ | refine Pure.call (pdq_0) ?_ | refine ⟨_, Pure.at (pdq_0), ?_⟩ | refine ⟨_, pdq_0, ?_⟩ | refine PureAt.call (pdq_0) ?_ | fail))
/-- slices.Sort on a slice made by appending. -/
theorem sort_own {h0 h : Hp} {a : AV} (l : List ByteArray) (hl : l.length ≤ 1000000000000) (o : Own h0 h a 9 1 l.length (cellsL cS l)) :
    CallK Tryd.prog h 79 [a] fun _ h' => Own h0 h' a 9 1 (sortB l).length (cellsL cS (sortB l)) := by
  have hsl : (sortB l).length = l.length := by simp [sortB]
  rcases o with ⟨hs, ⟨h1, h2⟩ | ⟨b, ob, rfl, hb0, hb, p2, p1, p3, p4, p5⟩⟩
  · have h3 : l = [] := List.length_eq_zero_iff.1 h1
    subst h3
    refine (sort_0 h2 h).mono ?_
    rintro r h' ⟨rfl, rfl⟩
    exact ⟨hs, .inl ⟨hsl, h2⟩⟩
  · refine (sort_row l hl hb p2 p3 (fun i hi => p5 i hi 0 (by omega))).mono ?_
    rintro r h' ⟨rfl, rfl⟩
    refine ⟨fun c oc hc => ?_, .inr ⟨b, _, by rw [hsl], hb0, upd_same _ _ _, p2, p1, by rw [hsl]; exact p3, by omega, fun i hi j hj => rfl⟩⟩
    rw [upd_ne _ _ (fun e => by rw [e, hb0] at hc; cases hc)]
    exact hs c oc hc
theorem compact_own {h0 h : Hp} {a : AV} (l : List ByteArray) (hl : l.length ≤ 1000000000000) (o : Own h0 h a 9 1 l.length (cellsL cS l)) :
    CallK Tryd.prog h 80 [a] fun r h' => OwnC h0 h' r 9 1 (compB l).length (cellsL cS (compB l)) := by
  rcases o with ⟨hs, ⟨h1, h2⟩ | ⟨b, ob, rfl, hb0, hb, p2, p1, p3, p4, p5⟩⟩
  · have h3 : l = [] := List.length_eq_zero_iff.1 h1
    subst h3
    rcases h2 with rfl | rfl
    · refine (compact_none h).mono ?_
      rintro r h' ⟨rfl, rfl⟩
      exact ⟨hs, .inl ⟨rfl, .inl rfl⟩⟩
    · refine (compact_e0 h).mono ?_
      rintro r h' ⟨rfl, rfl⟩
      exact ⟨hs, .inl ⟨rfl, .inr rfl⟩⟩
  · refine (compact_row l hl hb p2 p3 (fun i hi => p5 i hi 0 (by omega))).mono ?_
    rintro r h' ⟨rfl, f', rfl, q1, q2⟩
    refine ⟨fun c oc hc => ?_, .inr ⟨b, _, rfl, hb0, upd_same _ _ _, p2, p1, q1, fun i hi j hj => ?_⟩⟩
    · rw [upd_ne _ _ (fun e => by rw [e, hb0] at hc; cases hc)]
      exact hs c oc hc
    · obtain rfl : j = 0 := by omega
      exact q2 i hi
theorem compB_len (l : List ByteArray) : (compB l).length ≤ l.length := by
  unfold compB Lib.compact Lib.compactUpTo
  rw [List.length_map, List.length_map]
  exact Nat.le_trans (List.length_filter_le ..) (by simp)
def isAttr (op : Int) : Bool := decide (op = 1 ∨ op = 2 ∨ op = 3)
def isTab (op : Int) : Bool := decide (op = 16)
theorem namesF_cons (p : Int → Bool) (x : Nd) (r : List Nd) : namesF p (x :: r) = if p x.op = true then x.nm :: namesF p r else namesF p r := by
  unfold namesF
  rw [List.filter_cons]
  split <;> rfl
set_option maxHeartbeats 4000000 in
theorem tnames_ok (e : List Nd) (hl : e.length ≤ 1000000000) : Pure Tryd.prog 42 [encL 5 cNd e] (tup2 (encL 1 cS (compB (sortB (namesF isAttr e)))) (encL 1 cS (compB (sortB (namesF isTab e))))) := by
  obtain ⟨N1, hN1⟩ : ∃ N1, namesF isAttr e = N1 := ⟨_, rfl⟩
  obtain ⟨N2, hN2⟩ : ∃ N2, namesF isTab e = N2 := ⟨_, rfl⟩
  have hl1 : N1.length ≤ 1000000000 := by rw [← hN1]; unfold namesF; rw [List.length_map]; exact Nat.le_trans (List.length_filter_le ..) hl
  have hl2 : N2.length ≤ 1000000000 := by rw [← hN2]; unfold namesF; rw [List.length_map]; exact Nat.le_trans (List.length_filter_le ..) hl
  rw [hN1, hN2]
  intro h; refine CallK.lens fun hlen => ?_; have hlen := (hlen _ (by simp only [List.mem_cons, true_or, or_true] : (encL 5 cNd e) ∈ _)).encL; refine callK_body Tryd.func42 rfl (by rw [nt42]; simp) ?_; rw [nt42, rs42]
  (repeat' (first | simp [go_sem, X_region, *] | simp (disch := omega) only [om, *] | ((first | refine XC_split ?_ ?_ | refine XG_true ?_ ?_ | refine XG_false ?_ ?_ | refine XRg_true ?_ ?_ | refine XRg_false ?_ ?_) <;> intro hc <;> (try simp only [bl] at hc) <;> (try (exfalso; omega))) | refine XD_w [] [] [] (fun _ => none) mixed (by decide +kernel) (sub_none _) ?_ | fail))
  refine X_lpF (fun i => (4 ≤ i ∧ i ≤ 5) ∨ i = 7 ∨ (10 ≤ i ∧ i ≤ 32)) (fun n T g => ∃ (i : Nat) (r : List Nd) (a1 a2 : List ByteArray), n = r.length ∧ i ≤ e.length ∧ e.drop i = r ∧ a1 ++ namesF isAttr r = N1 ∧ a2 ++ namesF isTab r = N2 ∧ T 10 = I i ∧ Own h g (T 4) 9 1 a1.length (cellsL cS a1) ∧ Own h g (T 5) 9 1 a2.length (cellsL cS a2) ∧ ∀ c, T 4 = .row c 1 0 a1.length → T 5 = .row c 1 0 a2.length → False) e.length
    ⟨0, e, [], [], rfl, by omega, rfl, hN1, hN2, by simp [go_sem], by simpa [go_sem] using Own.none, by simpa [go_sem] using Own.none, fun c hc => by simp [go_sem] at hc⟩ ?_
  clear hN1 hN2
  rintro J hJ n T g hfr ⟨i, r, a1, a2, rfl, hi, hd, hN1, hN2, t10, own1, own2, hdj⟩
  rcases r with _ | ⟨x, r⟩
  · have hlt := drop_nil hd
    have e1 : a1 = N1 := by rw [← hN1]; simp [namesF]
    have e2 : a2 = N2 := by rw [← hN2]; simp [namesF]
    subst e1 e2
    (repeat' (first | simp [go_sem, X_region, *] | simp (disch := omega) only [om, *] | ((first | refine XC_split ?_ ?_ | refine XG_true ?_ ?_ | refine XG_false ?_ ?_ | refine XRg_true ?_ ?_ | refine XRg_false ?_ ?_) <;> intro hc <;> (try simp only [bl] at hc) <;> (try (exfalso; omega))) | refine XD_w [] [] [] (fun _ => none) mixed (by decide +kernel) (sub_none _) ?_ | fail))
    obtain ⟨H1, oH1, s1, k1⟩ := own_hole own1
    refine (sort_own a1 (by omega) oH1).mono fun _ g1 o1 => ?_
    have q2 := own_keep s1 k1 o1.1 own2 hdj
    have hl1' : (sortB a1).length = a1.length := by simp [sortB]
    have hl2' : (sortB a2).length = a2.length := by simp [sortB]
    have hdj := own_apart k1 o1 own2 hdj
    have q1 := own_up s1 o1
    obtain ⟨H2, oH2, s2, k2⟩ := own_hole q2
    refine (sort_own a2 (by omega) oH2).mono fun _ g2 o2 => ?_
    have r1 := own_keep s2 k2 o2.1 q1 fun c hc hc' => hdj c hc' hc
    have hdj := own_apart k2 o2 q1 fun c hc hc' => hdj c hc' hc
    have r2 := own_up s2 o2
    obtain ⟨H3, oH3, s3, k3⟩ := own_hole r1
    refine (compact_own (sortB a1) (by omega) oH3).mono fun u1 g3 o3 => ?_
    have t2 := own_keep s3 k3 o3.1 r2 fun c hc hc' => hdj c hc' hc
    have hdj3 := own_apartC k3 o3 r2 fun c hc hc' => hdj c hc' hc
    have t1 := ownC_up s3 o3
    obtain ⟨H4, oH4, s4, k4⟩ := own_hole t2
    refine (compact_own (sortB a2) (by omega) oH4).mono fun u2 g4 o4 => ?_
    have v1 := ownC_keep s4 k4 o4.1 t1 fun c hc hc' => hdj3 c hc' hc
    have v2 := ownC_up s4 o4
    have hc1 : (compB (sortB a1)).length ≤ 1000000000 := Nat.le_trans (compB_len _) (by omega)
    have hc2 : (compB (sortB a2)).length ≤ 1000000000 := Nat.le_trans (compB_len _) (by omega)
    exact Wk.tup2M v1.1 (ownC_frozen v1 (by omega)) (ownC_frozen v2 (by omega))
  · obtain ⟨hlt, hx, hd2⟩ := drop_cons hd
    have b1 : a1.length + 1 ≤ 1000000001 := by have := congrArg List.length hN1; simp only [List.length_append] at this; omega
    have b2 : a2.length + 1 ≤ 1000000001 := by have := congrArg List.length hN2; simp only [List.length_append] at this; omega
    rw [namesF_cons] at hN1 hN2
    (repeat' (first | simp [go_sem, X_region, *] | simp (disch := omega) only [om, *] | ((first | refine XC_split ?_ ?_ | refine XG_true ?_ ?_ | refine XG_false ?_ ?_ | refine XRg_true ?_ ?_ | refine XRg_false ?_ ?_) <;> intro hc <;> (try simp only [bl] at hc) <;> (try (exfalso; omega))) | refine XD_w [] [] [] (fun _ => none) mixed (by decide +kernel) (sub_none _) ?_ | fail))
    intro b7 hb7
    (repeat' (first | simp [go_sem, X_region, *] | simp (disch := omega) only [om, *] | ((first | refine XC_split ?_ ?_ | refine XG_true ?_ ?_ | refine XG_false ?_ ?_ | refine XRg_true ?_ ?_ | refine XRg_false ?_ ?_) <;> intro hc <;> (try simp only [bl] at hc) <;> (try (exfalso; omega))) | refine XD_w [] [] [] (fun _ => none) mixed (by decide +kernel) (sub_none _) ?_ | fail))
    all_goals first
      | (have f1 : isAttr x.op = true := by (simp [isAttr, *]; done)
         have f2 : isTab x.op = false := by (simp [isTab, *]; done)
         rw [if_pos f1] at hN1
         rw [if_neg (by rw [f2]; decide)] at hN2
         intro b hn1 hn2 hb
         obtain ⟨H1, oH1, s1, k1⟩ := own_hole own1
         refine Own.push (x := x.nm) (enc := cS) (oH1.alloc hb7) (by simp [go_sem]) und33 zr9 by9 (by simp [go_sem]) (by rw [upd_ne _ _ hn1]; exact hb) (by simp [go_sem]) rfl (Nat.le_refl _) (by simp [go_sem]) (by omega) (by omega) fun a1' h1 hown1 hkeep1 => ?_
         have w2 := own_keep s1 k1 hown1.1 own2 hdj
         have hdj2 := own_apart k1 hown1 own2 hdj
         have w1 := own_up s1 hown1
         (repeat' (first | simp [go_sem, X_region, *] | simp (disch := omega) only [om, *] | ((first | refine XC_split ?_ ?_ | refine XG_true ?_ ?_ | refine XG_false ?_ ?_ | refine XRg_true ?_ ?_ | refine XRg_false ?_ ?_) <;> intro hc <;> (try simp only [bl] at hc) <;> (try (exfalso; omega))) | refine XD_w [] [] [] (fun _ => none) mixed (by decide +kernel) (sub_none _) ?_ | fail))
         exact ⟨_, Nat.lt_succ_self _, hJ.out _ _ _ ⟨(by (repeat (refine fr_upd (by decide) ?_)); exact hfr), i + 1, r, a1 ++ [x.nm], a2, rfl, by omega, hd2, by rw [← hN1]; simp, hN2, by simp [go_sem, *], by simpa [go_sem] using w1, by simpa [go_sem] using w2, by simpa [go_sem] using hdj2⟩⟩)
      | (have f1 : isAttr x.op = false := by (simp [isAttr, *]; done)
         have f2 : isTab x.op = true := by (simp [isTab, *]; done)
         rw [if_neg (by rw [f1]; decide)] at hN1
         rw [if_pos f2] at hN2
         intro b hn1 hn2 hb
         obtain ⟨H2, oH2, s2, k2⟩ := own_hole own2
         refine Own.push (x := x.nm) (enc := cS) (oH2.alloc hb7) (by simp [go_sem]) und33 zr9 by9 (by simp [go_sem]) (by rw [upd_ne _ _ hn1]; exact hb) (by simp [go_sem]) rfl (Nat.le_refl _) (by simp [go_sem]) (by omega) (by omega) fun a2' h1 hown1 hkeep1 => ?_
         have w1 := own_keep s2 k2 hown1.1 own1 fun c hc hc' => hdj c hc' hc
         have hdj2 := own_apart k2 hown1 own1 fun c hc hc' => hdj c hc' hc
         have w2 := own_up s2 hown1
         (repeat' (first | simp [go_sem, X_region, *] | simp (disch := omega) only [om, *] | ((first | refine XC_split ?_ ?_ | refine XG_true ?_ ?_ | refine XG_false ?_ ?_ | refine XRg_true ?_ ?_ | refine XRg_false ?_ ?_) <;> intro hc <;> (try simp only [bl] at hc) <;> (try (exfalso; omega))) | refine XD_w [] [] [] (fun _ => none) mixed (by decide +kernel) (sub_none _) ?_ | fail))
         exact ⟨_, Nat.lt_succ_self _, hJ.out _ _ _ ⟨(by (repeat (refine fr_upd (by decide) ?_)); exact hfr), i + 1, r, a1, a2 ++ [x.nm], rfl, by omega, hd2, hN1, by rw [← hN2]; simp, by simp [go_sem, *], by simpa [go_sem] using w1, by simpa [go_sem] using w2, fun c hc hc' => hdj2 c (by simpa [go_sem] using hc') (by simpa [go_sem] using hc)⟩⟩)
      | (have f1 : isAttr x.op = false := by (simp [isAttr, *]; done)
         have f2 : isTab x.op = false := by (simp [isTab, *]; done)
         rw [if_neg (by rw [f1]; decide)] at hN1
         rw [if_neg (by rw [f2]; decide)] at hN2
         exact ⟨_, Nat.lt_succ_self _, hJ.out _ _ _ ⟨(by (repeat (refine fr_upd (by decide) ?_)); exact hfr), i + 1, r, a1, a2, rfl, by omega, hd2, hN1, hN2, by simp [go_sem, *], by simpa [go_sem] using own1.alloc hb7, by simpa [go_sem] using own2.alloc hb7, by simpa [go_sem] using hdj⟩⟩)
theorem mset_keys {ν : Type} : ∀ (m : List (ByteArray × ν)) (k : ByteArray) (v : ν) (s : ByteArray), s ∈ (mset m k v).map (·.1) ↔ s = k ∨ s ∈ m.map (·.1)
  | [], k, v, s => by simp [mset]
  | x :: r, k, v, s => by
    unfold mset
    by_cases h : k = x.1
    · rw [if_pos h]
      simp [h]
    · rw [if_neg h, List.map_cons, List.mem_cons, mset_keys r k v s, List.map_cons, List.mem_cons]
      exact ⟨fun h => by rcases h with h | h | h <;> simp [h], fun h => by rcases h with h | h | h <;> simp [h]⟩
theorem mset_nodup {ν : Type} : ∀ (m : List (ByteArray × ν)) (k : ByteArray) (v : ν), (m.map (·.1)).Nodup → ((mset m k v).map (·.1)).Nodup
  | [], k, v, _ => by simp [mset]
  | x :: r, k, v, hn => by
    rw [List.map_cons, List.nodup_cons] at hn
    unfold mset
    by_cases h : k = x.1
    · rw [if_pos h, List.map_cons, List.nodup_cons, h]
      exact hn
    · rw [if_neg h, List.map_cons, List.nodup_cons]
      refine ⟨fun hc => ?_, mset_nodup r k v hn.2⟩
      rcases (mset_keys r k v x.1).1 hc with hc | hc
      · exact h hc.symm
      · exact hn.1 hc
theorem iter_keep {κ ν : Type} {h h' : Hp} {b m : Nat} {ek : κ → AV} {en : ν → AV} {l : List (κ × ν)} {is : List Nat} (hi : IterA h b m ek en l is) (hk : ∀ c oc, c = b ∨ c = m → h c = some oc → oc.s = 0 → h' c = some oc) : IterA h' b m ek en l is := by
  obtain ⟨c, g, e1, e2, e3, e4⟩ := hi
  exact ⟨c, g, hk m _ (.inr rfl) e1 rfl, e2, hk b _ (.inl rfl) e3 rfl, e4⟩
theorem mset_le {ν : Type} : ∀ (m : List (ByteArray × ν)) (k : ByteArray) (v : ν), (mset m k v).length ≤ m.length + 1
  | [], k, v => by simp [mset]
  | x :: r, k, v => by
    unfold mset
    split
    · simp
    · have := mset_le r k v
      simp only [List.length_cons]
      omega
theorem nodup_le : ∀ (N : Nat) (l : List Nat), l.Nodup → (∀ x ∈ l, x < N) → l.length ≤ N
  | 0, [], _, _ => Nat.le_refl _
  | 0, x :: l, _, h => absurd (h x (List.mem_cons_self ..)) (Nat.not_lt_zero _)
  | N + 1, l, hn, h => by
    have h1 := nodup_le N (l.erase N) (hn.erase N) fun x hx => by
      have h2 := (hn.mem_erase_iff).1 hx
      have := h x h2.2
      omega
    by_cases hN : N ∈ l
    · rw [List.length_erase_of_mem hN] at h1
      omega
    · rw [List.erase_of_not_mem hN] at h1
      omega
/-- The key of an entry. -/
def keyAt {ν : Type} (m : List (ByteArray × ν)) (i : Nat) : ByteArray := (m.map (·.1)).getD i ⟨#[]⟩
theorem keys_out {ν : Type} (m : List (ByteArray × ν)) (hm : (m.map (·.1)).Nodup) (is : List Nat) (hn : is.Nodup) (hlt : ∀ i ∈ is, i < m.length) (hall : ∀ i, i < m.length → i ∈ is) :
    (is.map (keyAt m)).Nodup ∧ ∀ s, s ∈ is.map (keyAt m) ↔ s ∈ m.map (·.1) := by
  have hk : ∀ i (h : i < m.length), keyAt m i = m[i].1 := fun i h => by
    unfold keyAt
    rw [List.getD_eq_getElem?_getD, List.getElem?_map, List.getElem?_eq_getElem h]; rfl
  have inj : ∀ i j, i < m.length → j < m.length → keyAt m i = keyAt m j → i = j := fun i j hi hj he => by
    rw [hk i hi, hk j hj] at he
    have hp := List.pairwise_iff_getElem.1 (List.nodup_iff_pairwise_ne.1 hm)
    rcases Nat.lt_trichotomy i j with h | h | h
    · have := hp i j (by simpa using hi) (by simpa using hj) h
      simp at this
      exact absurd he this
    · exact h
    · have := hp j i (by simpa using hj) (by simpa using hi) h
      simp at this
      exact absurd he.symm this
  refine ⟨?_, fun s => ?_⟩
  · rw [List.nodup_iff_pairwise_ne, List.pairwise_map]
    refine List.Pairwise.imp_of_mem (fun {a b} ha hb hab he => hab (inj a b (hlt a ha) (hlt b hb) he)) (List.nodup_iff_pairwise_ne.1 hn)
  · simp only [List.mem_map]
    constructor
    · rintro ⟨i, hi, rfl⟩
      exact ⟨m[i]'(hlt i hi), List.getElem_mem _, (hk i (hlt i hi)).symm⟩
    · rintro ⟨x, hx, rfl⟩
      obtain ⟨i, hi, rfl⟩ := List.getElem_of_mem hx
      exact ⟨i, hall i hi, hk i hi⟩
set_option maxHeartbeats 4000000 in
theorem rnames_ok (e : List Nd) (hl : e.length ≤ 1000000000) (ops : List Int) (hol : ops.length ≤ 1000) : Pure Tryd.prog 43 [encL 5 cNd e, encL 1 cI ops] (encL 1 cS (compB (sortB (namesF (fun o => ops.any fun k => decide (o = k)) e)))) := by
  have hq : ∀ k k' : ByteArray, keyEq (keyT Tryd.prog 9) (S k) (S k') = some (decide (k = k')) := fun k k' => by rw [kt130]; simp [keyEq]
  have hkt : keyT Tryd.prog 9 ≠ 0 := by rw [kt130]; decide
  obtain ⟨N1, hN1⟩ : ∃ N1, namesF (fun o => ops.any fun k => decide (o = k)) e = N1 := ⟨_, rfl⟩
  have hl1 : N1.length ≤ 1000000000 := by rw [← hN1]; unfold namesF; rw [List.length_map]; exact Nat.le_trans (List.length_filter_le ..) hl
  rw [hN1]
  have hco : ∀ o : Int, Pure Tryd.prog 78 [encL 1 cI ops, I o] (B (ops.any fun k => decide (o = k))) := fun o => icont_ok o ops
  intro h; refine CallK.lens fun hlen => ?_; have hlen := (hlen _ (by simp only [List.mem_cons, true_or, or_true] : (encL 5 cNd e) ∈ _)).encL; refine callK_body Tryd.func43 rfl (by rw [nt43]; simp) ?_; rw [nt43, rs43]
  (repeat' (first | simp [go_sem, X_region, *] | simp (disch := omega) only [om, *] | ((first | refine XC_split ?_ ?_ | refine XG_true ?_ ?_ | refine XG_false ?_ ?_ | refine XRg_true ?_ ?_ | refine XRg_false ?_ ?_) <;> intro hc <;> (try simp only [bl] at hc) <;> (try (exfalso; omega))) | refine XD_w [] [] [] (fun _ => none) mixed (by decide +kernel) (sub_none _) ?_ | fail))
  intro b hb
  refine X_lpF (fun i => i = 7 ∨ (13 ≤ i ∧ i ≤ 24)) (fun n T g => ∃ (i : Nat) (r : List Nd) (m : List (ByteArray × Bool)) (ob : Ob), n = r.length ∧ i ≤ e.length ∧ e.drop i = r ∧ m.length ≤ i ∧ T 13 = I i ∧ Sub h g ∧ g b = some ob ∧ IsMap S B m ob ∧ (m.map (·.1)).Nodup ∧ Hid (∀ s, s ∈ N1 ↔ s ∈ m.map (·.1) ∨ s ∈ namesF (fun o => ops.any fun k => decide (o = k)) r)) e.length
    ⟨0, e, [], _, rfl, by omega, rfl, Nat.le_refl _, by simp [go_sem], Sub.upd hb (Sub.refl _), upd_same _ _ _, IsMap.nil _ _, by simp, ⟨fun s => by rw [hN1]; simp⟩⟩ ?_
  clear hN1
  rintro J hJ n T g hfr ⟨i, r, m, ob, rfl, hi, hd, hmi, t13, hsub, hgb, hm, hnd, hmem⟩
  rcases r with _ | ⟨x, r⟩
  · have hlt := drop_nil hd
    have hmem2 : Hid (∀ s, s ∈ m.map (·.1) ↔ s ∈ N1) := ⟨fun s => by rw [hmem.out s]; simp [namesF]⟩
    clear hmem hco
    have hml : m.length ≤ 1000000000 := by omega
    (repeat' (first | simp [go_sem, X_region, *] | simp (disch := omega) only [om, *] | ((first | refine XC_split ?_ ?_ | refine XG_true ?_ ?_ | refine XG_false ?_ ?_ | refine XRg_true ?_ ?_ | refine XRg_false ?_ ?_) <;> intro hc <;> (try simp only [bl] at hc) <;> (try (exfalso; omega))) | refine XD_w [] [] [] (fun _ => none) mixed (by decide +kernel) (sub_none _) ?_ | fail))
    refine X_rangeM hm hgb rfl und130 fun b2 hb2 hne2 ob2 hit => ?_
    have hb20 : h b2 = none := sub_free hsub hb2
    refine X_lpF (fun i => (8 ≤ i ∧ i ≤ 9) ∨ (27 ≤ i ∧ i ≤ 34)) (fun n T g => ∃ (is : List Nat) (out : List ByteArray), n + is.length = m.length ∧ is.Nodup ∧ Hid (∀ i ∈ is, i < m.length) ∧ out = is.map (keyAt m) ∧ Own h g (T 8) 9 1 out.length (cellsL cS out) ∧ IterA g b2 b S B m is) m.length
      ⟨[], [], by simp, by simp, ⟨fun i hi => by cases hi⟩, rfl, ?_, hit⟩ ?_
    · simp only [go_sem]
      exact ⟨Sub.upd hb20 hsub, .inl ⟨rfl, .inl (by simp [go_sem])⟩⟩
    rintro J2 hJ2 n2 T2 g2 hfr2 ⟨is, out, hn, hisn, hislt, hout, hown, hit2⟩
    have hil : is.length ≤ m.length := nodup_le _ _ hisn hislt.out
    have hol2 : out.length = is.length := by rw [hout, List.length_map]
    (repeat' (first | simp [go_sem, X_region, *] | simp (disch := omega) only [om, *] | ((first | refine XC_split ?_ ?_ | refine XG_true ?_ ?_ | refine XG_false ?_ ?_ | refine XRg_true ?_ ?_ | refine XRg_false ?_ ?_) <;> intro hc <;> (try simp only [bl] at hc) <;> (try (exfalso; omega))) | refine XD_w [] [] [] (fun _ => none) mixed (by decide +kernel) (sub_none _) ?_ | fail))
    refine X_nextM hit2 hne2 (by simp [go_sem, *]) (fun i' x hxi hni ob3 hit3 => ?_) fun hall => ?_
    · have hisn' : (is ++ [i']).Nodup := by
        rw [List.nodup_append]
        refine ⟨hisn, by simp, fun a ha b' hb' => ?_⟩
        rw [List.mem_singleton.1 hb']
        exact fun e => hni (e ▸ ha)
      have hislt' : ∀ q ∈ is ++ [i'], q < m.length := fun q hq => by
        rcases List.mem_append.1 hq with hq | hq
        · exact hislt.out q hq
        · rw [List.mem_singleton.1 hq]; exact (List.getElem?_eq_some_iff.1 hxi).1
      have hil' := nodup_le _ _ hisn' hislt'
      rw [List.length_append, List.length_singleton] at hil'
      have hkx : keyAt m i' = x.1 := by
        unfold keyAt
        rw [List.getD_eq_getElem?_getD, List.getElem?_map, hxi]; rfl
      obtain ⟨o2, ho2⟩ : ∃ o2, g2 b2 = some o2 ∧ o2.s = 0 := by
        obtain ⟨c, g', e1, e2, e3, e4⟩ := hit2
        exact ⟨_, e3, rfl⟩
      have hown' := hown.set (o2 := some ob3) ho2.1 hb20 (.inl (by rw [ho2.2]; decide))
      (repeat' (first | simp [go_sem, X_region, *] | simp (disch := omega) only [om, *] | ((first | refine XC_split ?_ ?_ | refine XG_true ?_ ?_ | refine XG_false ?_ ?_ | refine XRg_true ?_ ?_ | refine XRg_false ?_ ?_) <;> intro hc <;> (try simp only [bl] at hc) <;> (try (exfalso; omega))) | refine XD_w [] [] [] (fun _ => none) mixed (by decide +kernel) (sub_none _) ?_ | fail))
      refine X_entry hit3 hxi (by simp [go_sem, *]) ?_
      (repeat' (first | simp [go_sem, X_region, *] | simp (disch := omega) only [om, *] | ((first | refine XC_split ?_ ?_ | refine XG_true ?_ ?_ | refine XG_false ?_ ?_ | refine XRg_true ?_ ?_ | refine XRg_false ?_ ?_) <;> intro hc <;> (try simp only [bl] at hc) <;> (try (exfalso; omega))) | refine XD_w [] [] [] (fun _ => none) mixed (by decide +kernel) (sub_none _) ?_ | fail))
      intro bk hn1 hn2 hbk
      obtain ⟨H, oH, s0, k0⟩ := own_hole hown'
      refine Own.push (x := x.1) (enc := cS) oH (by simp [go_sem]) und33 zr9 by9 (by simp [go_sem]) (by rw [upd_ne _ _ hn1]; exact hbk) (by simp [go_sem]) rfl (Nat.le_refl _) (by simp [go_sem]) (by omega) (by omega) fun a' h1 hown1 hk1 => ?_
      have hit4 := iter_keep hit3 fun c oc _ hcs h0 => hown1.1 c oc (k0 c oc hcs (hown'.ne hcs (.inl (by rw [h0]; decide))))
      (repeat' (first | simp [go_sem, X_region, *] | simp (disch := omega) only [om, *] | ((first | refine XC_split ?_ ?_ | refine XG_true ?_ ?_ | refine XG_false ?_ ?_ | refine XRg_true ?_ ?_ | refine XRg_false ?_ ?_) <;> intro hc <;> (try simp only [bl] at hc) <;> (try (exfalso; omega))) | refine XD_w [] [] [] (fun _ => none) mixed (by decide +kernel) (sub_none _) ?_ | fail))
      exact ⟨n2 - 1, by omega, hJ2.out _ _ _ ⟨(by (repeat (refine fr_upd (by decide) ?_)); exact hfr2), is ++ [i'], out ++ [x.1], by simp; omega, hisn', ⟨hislt'⟩, by rw [hout]; simp [hkx], by simpa [go_sem] using own_up s0 hown1, hit4⟩⟩
    · (repeat' (first | simp [go_sem, X_region, *] | simp (disch := omega) only [om, *] | ((first | refine XC_split ?_ ?_ | refine XG_true ?_ ?_ | refine XG_false ?_ ?_ | refine XRg_true ?_ ?_ | refine XRg_false ?_ ?_) <;> intro hc <;> (try simp only [bl] at hc) <;> (try (exfalso; omega))) | refine XD_w [] [] [] (fun _ => none) mixed (by decide +kernel) (sub_none _) ?_ | fail))
      obtain ⟨K1, K2⟩ := keys_out m hnd is hisn hislt.out hall
      rw [← hout] at K1 K2
      have hsame : sortB out = compB (sortB N1) := names_same out N1 K1 fun s => (K2 s).trans (hmem2.out s)
      refine (sort_own out (by omega) hown).mono fun _ g4 o4 => ?_
      rw [← hsame]
      exact o4.frozen (by simp [sortB]; omega)
  · obtain ⟨hlt, hx, hd2⟩ := drop_cons hd
    have hc := hco x.op
    rcases (Bool.eq_false_or_eq_true (ops.any fun k => decide (x.op = k))).symm with hq1 | hq1
    · rw [hq1] at hc
      have hmem2 : Hid (∀ s, s ∈ N1 ↔ s ∈ m.map (·.1) ∨ s ∈ namesF (fun o => ops.any fun k => decide (o = k)) r) := ⟨fun s => by rw [hmem.out s, namesF_cons, if_neg (by rw [hq1]; decide)]⟩
      clear hmem
      (repeat' (first | simp [go_sem, X_region, *] | simp (disch := omega) only [om, *] | ((first | refine XC_split ?_ ?_ | refine XG_true ?_ ?_ | refine XG_false ?_ ?_ | refine XRg_true ?_ ?_ | refine XRg_false ?_ ?_) <;> intro hc <;> (try simp only [bl] at hc) <;> (try (exfalso; omega))) | refine XD_w [] [] [] (fun _ => none) mixed (by decide +kernel) (sub_none _) ?_ | refine Pure.call (hc) ?_ | refine ⟨_, Pure.at (hc), ?_⟩ | refine ⟨_, hc, ?_⟩ | refine PureAt.call (hc) ?_ | fail))
      intro b7 hb7
      have n7 := ne_free hb7 hgb
      (repeat' (first | simp [go_sem, X_region, *] | simp (disch := omega) only [om, *] | ((first | refine XC_split ?_ ?_ | refine XG_true ?_ ?_ | refine XG_false ?_ ?_ | refine XRg_true ?_ ?_ | refine XRg_false ?_ ?_) <;> intro hc <;> (try simp only [bl] at hc) <;> (try (exfalso; omega))) | refine XD_w [] [] [] (fun _ => none) mixed (by decide +kernel) (sub_none _) ?_ | refine Pure.call (hc) ?_ | refine ⟨_, Pure.at (hc), ?_⟩ | refine ⟨_, hc, ?_⟩ | refine PureAt.call (hc) ?_ | fail))
      exact ⟨_, Nat.lt_succ_self _, hJ.out _ _ _ ⟨(by (repeat (refine fr_upd (by decide) ?_)); exact hfr), i + 1, r, m, ob, rfl, by omega, hd2, by omega, by simp [go_sem, *], Sub.upd (sub_free hsub hb7) hsub, by rw [upd_ne _ _ n7.2]; exact hgb, hm, hnd, hmem2⟩⟩
    · rw [hq1] at hc
      have hmem2 : Hid (∀ s, s ∈ N1 ↔ s ∈ (mset m x.nm true).map (·.1) ∨ s ∈ namesF (fun o => ops.any fun k => decide (o = k)) r) := ⟨fun s => by
        rw [hmem.out s, namesF_cons, if_pos hq1, mset_keys, List.mem_cons]
        exact ⟨fun h => by rcases h with h | h | h <;> simp [h], fun h => by rcases h with (h | h) | h <;> simp [h]⟩⟩
      clear hmem
      (repeat' (first | simp [go_sem, X_region, *] | simp (disch := omega) only [om, *] | ((first | refine XC_split ?_ ?_ | refine XG_true ?_ ?_ | refine XG_false ?_ ?_ | refine XRg_true ?_ ?_ | refine XRg_false ?_ ?_) <;> intro hc <;> (try simp only [bl] at hc) <;> (try (exfalso; omega))) | refine XD_w [] [] [] (fun _ => none) mixed (by decide +kernel) (sub_none _) ?_ | refine Pure.call (hc) ?_ | refine ⟨_, Pure.at (hc), ?_⟩ | refine ⟨_, hc, ?_⟩ | refine PureAt.call (hc) ?_ | fail))
      intro b7 hb7
      have n7 := ne_free hb7 hgb
      (repeat' (first | simp [go_sem, X_region, *] | simp (disch := omega) only [om, *] | ((first | refine XC_split ?_ ?_ | refine XG_true ?_ ?_ | refine XG_false ?_ ?_ | refine XRg_true ?_ ?_ | refine XRg_false ?_ ?_) <;> intro hc <;> (try simp only [bl] at hc) <;> (try (exfalso; omega))) | refine XD_w [] [] [] (fun _ => none) mixed (by decide +kernel) (sub_none _) ?_ | refine Pure.call (hc) ?_ | refine ⟨_, Pure.at (hc), ?_⟩ | refine ⟨_, hc, ?_⟩ | refine PureAt.call (hc) ?_ | fail))
      refine X_mapUpdate (k := x.nm) (v := true) hm (by rw [upd_ne _ _ n7.2]; exact hgb) (by simp [go_sem]) (by simp [go_sem]) (by simp [go_sem]) und130 (hq _) hkt fun ob' hm' => ?_
      (repeat' (first | simp [go_sem, X_region, *] | simp (disch := omega) only [om, *] | ((first | refine XC_split ?_ ?_ | refine XG_true ?_ ?_ | refine XG_false ?_ ?_ | refine XRg_true ?_ ?_ | refine XRg_false ?_ ?_) <;> intro hc <;> (try simp only [bl] at hc) <;> (try (exfalso; omega))) | refine XD_w [] [] [] (fun _ => none) mixed (by decide +kernel) (sub_none _) ?_ | fail))
      exact ⟨_, Nat.lt_succ_self _, hJ.out _ _ _ ⟨(by (repeat (refine fr_upd (by decide) ?_)); exact hfr), i + 1, r, _, ob', rfl, by omega, hd2, Nat.le_trans (mset_le _ _ _) (by omega), by simp [go_sem, *], Sub.upd hb (Sub.upd (sub_free hsub hb7) hsub), upd_same _ _ _, hm', mset_nodup _ _ _ hnd, hmem2⟩⟩
end Go.Proofs.YtmalhikcdideoaaDoor

set_option linter.unusedVariables false
set_option linter.unusedSimpArgs false
namespace Go.Proofs.YtmalhikcdideoaaDoor
open Go Sl
attribute [local irreducible] XRange LpQ XR XRo XRg XRQ putQ XFv XL XW2 wQ putW X XO XOp XH XHo XW SeqQ BlkQ XOQ XHQ NrmQ XC XM XG XHM XHG XD CallK
open Go.RowKit
theorem attr_eq : (fun o : Int => [1, 2, 3].any fun k => decide (o = k)) = isAttr := by
  funext o
  rw [Bool.eq_iff_iff]
  simp [isAttr]
theorem tab_eq : (fun o : Int => [16].any fun k => decide (o = k)) = isTab := by
  funext o
  rw [Bool.eq_iff_iff]
  simp [isTab]
set_option maxHeartbeats 4000000 in
theorem checks_ok (e : List Nd) (op : Int) (hn : ∀ x ∈ e, x.nm.size ≤ 140737488355328) (hel : e.length ≤ 1000000000) :
    Pure Tryd.prog 8 [encL 5 cNd e, I op] (B true) := by
  have hbg := trbegun_ok
  have h1 := kids_ar op
  have h2 := arity_ar op
  have h3 := tcheck_ok e hn
  have h4 := rerr_ok e
  rw [tree_chk] at h4
  have h5 := tnames_ok e hel
  have h6 := rnames_ok e hel [1, 2, 3] (by decide)
  have h7 := rnames_ok e hel [16] (by decide)
  rw [attr_eq] at h6
  rw [tab_eq] at h7
  generalize compB (sortB (namesF isAttr e)) = N1 at *
  generalize compB (sortB (namesF isTab e)) = N2 at *
  have h8 := eqs_ok N1 N1
  have h9 := eqs_ok N2 N2
  rw [decide_eq_true rfl] at h8 h9
  have h10 := deep_ok (chkE (oneE nameF)) e h3 fun hz => by
    obtain ⟨a1, a2, a3⟩ := valid_facts (by rw [tree_chk]; exact hz)
    refine ⟨a1, a2, fun i x hx => ?_⟩
    obtain ⟨b1, b2, _⟩ := a3 i x hx
    have := ar_le x.op
    exact ⟨b1, by omega⟩
  by_cases q : chkE (oneE nameF) e = 0
  case neg =>
    rw [if_pos q] at h10
    generalize chkE (oneE nameF) e = c at *
    intro h; refine callK_body Tryd.func8 rfl (by rw [nt8]; simp) ?_; rw [nt8, rs8]
    (repeat' (first | simp [go_sem, X_region, *] | simp (disch := omega) only [om, *] | ((first | refine XC_split ?_ ?_ | refine XG_true ?_ ?_ | refine XG_false ?_ ?_ | refine XRg_true ?_ ?_ | refine XRg_false ?_ ?_) <;> intro hc <;> (try simp only [bl] at hc) <;> (try (exfalso; omega))) | refine XD_w [] [] [] (fun _ => none) mixed (by decide +kernel) (sub_none _) ?_ | refine Pure.call (hbg) ?_ | refine ⟨_, Pure.at (hbg), ?_⟩ | refine ⟨_, hbg, ?_⟩ | refine PureAt.call (hbg) ?_ | refine Pure.call (h1) ?_ | refine ⟨_, Pure.at (h1), ?_⟩ | refine ⟨_, h1, ?_⟩ | refine PureAt.call (h1) ?_ | refine Pure.call (h2) ?_ | refine ⟨_, Pure.at (h2), ?_⟩ | refine ⟨_, h2, ?_⟩ | refine PureAt.call (h2) ?_ | refine Pure.call (h3) ?_ | refine ⟨_, Pure.at (h3), ?_⟩ | refine ⟨_, h3, ?_⟩ | refine PureAt.call (h3) ?_ | refine Pure.call (h4) ?_ | refine ⟨_, Pure.at (h4), ?_⟩ | refine ⟨_, h4, ?_⟩ | refine PureAt.call (h4) ?_ | refine Pure.call (h5) ?_ | refine ⟨_, Pure.at (h5), ?_⟩ | refine ⟨_, h5, ?_⟩ | refine PureAt.call (h5) ?_ | fail))
    intro b hb
    refine row2g (g := cellsL cI [1, 2, 3]) hb rfl rfl (by decide) (fun i hi j hj => ?_) ((h6 _).mono ?_)
    · obtain rfl : j = 0 := by omega
      rcases (show i = 0 ∨ i = 1 ∨ i = 2 by omega) with rfl | rfl | rfl <;> rfl
    rintro r h' ⟨rfl, rfl⟩
    (repeat' (first | simp [go_sem, X_region, *] | simp (disch := omega) only [om, *] | ((first | refine XC_split ?_ ?_ | refine XG_true ?_ ?_ | refine XG_false ?_ ?_ | refine XRg_true ?_ ?_ | refine XRg_false ?_ ?_) <;> intro hc <;> (try simp only [bl] at hc) <;> (try (exfalso; omega))) | refine XD_w [] [] [] (fun _ => none) mixed (by decide +kernel) (sub_none _) ?_ | refine Pure.call (h8) ?_ | refine ⟨_, Pure.at (h8), ?_⟩ | refine ⟨_, h8, ?_⟩ | refine PureAt.call (h8) ?_ | fail))
    intro b' hb'
    refine row2g (g := cellsL cI [16]) hb' rfl rfl (by decide) (fun i hi j hj => ?_) ((h7 _).mono ?_)
    · obtain rfl : j = 0 := by omega
      obtain rfl : i = 0 := by omega
      rfl
    rintro r' h' ⟨rfl, rfl⟩
    (repeat' (first | simp [go_sem, X_region, *] | simp (disch := omega) only [om, *] | ((first | refine XC_split ?_ ?_ | refine XG_true ?_ ?_ | refine XG_false ?_ ?_ | refine XRg_true ?_ ?_ | refine XRg_false ?_ ?_) <;> intro hc <;> (try simp only [bl] at hc) <;> (try (exfalso; omega))) | refine XD_w [] [] [] (fun _ => none) mixed (by decide +kernel) (sub_none _) ?_ | refine Pure.call (h8) ?_ | refine ⟨_, Pure.at (h8), ?_⟩ | refine ⟨_, h8, ?_⟩ | refine PureAt.call (h8) ?_ | refine Pure.call (h9) ?_ | refine ⟨_, Pure.at (h9), ?_⟩ | refine ⟨_, h9, ?_⟩ | refine PureAt.call (h9) ?_ | refine Pure.call (h4) ?_ | refine ⟨_, Pure.at (h4), ?_⟩ | refine ⟨_, h4, ?_⟩ | refine PureAt.call (h4) ?_ | refine Pure.call (h10) ?_ | refine ⟨_, Pure.at (h10), ?_⟩ | refine ⟨_, h10, ?_⟩ | refine PureAt.call (h10) ?_ | fail))
  obtain ⟨a1, a2, a3⟩ := valid_facts (by rw [tree_chk]; exact q)
  have hv : Vd e := ⟨fun i x hx => (a3 i x hx).1⟩
  have hl0 : 0 < e.length := List.length_pos_iff.2 a2
  rw [if_neg (fun h => h q), deep_depth hv a2] at h10
  rw [q] at h3 h4
  obtain ⟨m, hm⟩ : ∃ m, e.length = m + 1 := ⟨e.length - 1, by omega⟩
  have h11 := rtree_ok e hv (fun i x hx => by have := (a3 i x hx).2.1; have := ar_le x.op; omega) m (by omega)
  have hsz := chk_size (oneE nameF) e hv q m (by omega)
  have h12 := depth_ok (treeAt e m) (by omega)
  rw [show e.length - 1 = m by omega] at h10
  have hm1 : ((e.length : Nat) : Int) - 1 = (m : Int) := by omega
  clear hm hsz
  generalize treeAt e m = t at *
  obtain ⟨tx, tk⟩ := t
  rw [cTr_mk] at h11 h12
  generalize depthT (Tr.mk tx tk) = D at *
  intro h; refine callK_body Tryd.func8 rfl (by rw [nt8]; simp) ?_; rw [nt8, rs8]
  (repeat' (first | simp [go_sem, X_region, *] | simp (disch := omega) only [om, *] | ((first | refine XC_split ?_ ?_ | refine XG_true ?_ ?_ | refine XG_false ?_ ?_ | refine XRg_true ?_ ?_ | refine XRg_false ?_ ?_) <;> intro hc <;> (try simp only [bl] at hc) <;> (try (exfalso; omega))) | refine XD_w [] [] [] (fun _ => none) mixed (by decide +kernel) (sub_none _) ?_ | refine Pure.call (hbg) ?_ | refine ⟨_, Pure.at (hbg), ?_⟩ | refine ⟨_, hbg, ?_⟩ | refine PureAt.call (hbg) ?_ | refine Pure.call (h1) ?_ | refine ⟨_, Pure.at (h1), ?_⟩ | refine ⟨_, h1, ?_⟩ | refine PureAt.call (h1) ?_ | refine Pure.call (h2) ?_ | refine ⟨_, Pure.at (h2), ?_⟩ | refine ⟨_, h2, ?_⟩ | refine PureAt.call (h2) ?_ | refine Pure.call (h3) ?_ | refine ⟨_, Pure.at (h3), ?_⟩ | refine ⟨_, h3, ?_⟩ | refine PureAt.call (h3) ?_ | refine Pure.call (h4) ?_ | refine ⟨_, Pure.at (h4), ?_⟩ | refine ⟨_, h4, ?_⟩ | refine PureAt.call (h4) ?_ | refine Pure.call (h5) ?_ | refine ⟨_, Pure.at (h5), ?_⟩ | refine ⟨_, h5, ?_⟩ | refine PureAt.call (h5) ?_ | fail))
  intro b hb
  refine row2g (g := cellsL cI [1, 2, 3]) hb rfl rfl (by decide) (fun i hi j hj => ?_) ((h6 _).mono ?_)
  · obtain rfl : j = 0 := by omega
    rcases (show i = 0 ∨ i = 1 ∨ i = 2 by omega) with rfl | rfl | rfl <;> rfl
  rintro r h' ⟨rfl, rfl⟩
  (repeat' (first | simp [go_sem, X_region, *] | simp (disch := omega) only [om, *] | ((first | refine XC_split ?_ ?_ | refine XG_true ?_ ?_ | refine XG_false ?_ ?_ | refine XRg_true ?_ ?_ | refine XRg_false ?_ ?_) <;> intro hc <;> (try simp only [bl] at hc) <;> (try (exfalso; omega))) | refine XD_w [] [] [] (fun _ => none) mixed (by decide +kernel) (sub_none _) ?_ | refine Pure.call (h8) ?_ | refine ⟨_, Pure.at (h8), ?_⟩ | refine ⟨_, h8, ?_⟩ | refine PureAt.call (h8) ?_ | fail))
  intro b' hb'
  refine row2g (g := cellsL cI [16]) hb' rfl rfl (by decide) (fun i hi j hj => ?_) ((h7 _).mono ?_)
  · obtain rfl : j = 0 := by omega
    obtain rfl : i = 0 := by omega
    rfl
  rintro r' h' ⟨rfl, rfl⟩
  (repeat' (first | simp [go_sem, X_region, *] | simp (disch := omega) only [om, *] | ((first | refine XC_split ?_ ?_ | refine XG_true ?_ ?_ | refine XG_false ?_ ?_ | refine XRg_true ?_ ?_ | refine XRg_false ?_ ?_) <;> intro hc <;> (try simp only [bl] at hc) <;> (try (exfalso; omega))) | refine XD_w [] [] [] (fun _ => none) mixed (by decide +kernel) (sub_none _) ?_ | refine Pure.call (h8) ?_ | refine ⟨_, Pure.at (h8), ?_⟩ | refine ⟨_, h8, ?_⟩ | refine PureAt.call (h8) ?_ | refine Pure.call (h9) ?_ | refine ⟨_, Pure.at (h9), ?_⟩ | refine ⟨_, h9, ?_⟩ | refine PureAt.call (h9) ?_ | refine Pure.call (h4) ?_ | refine ⟨_, Pure.at (h4), ?_⟩ | refine ⟨_, h4, ?_⟩ | refine PureAt.call (h4) ?_ | refine Pure.call (h10) ?_ | refine ⟨_, Pure.at (h10), ?_⟩ | refine ⟨_, h10, ?_⟩ | refine PureAt.call (h10) ?_ | refine Pure.call (h11) ?_ | refine ⟨_, Pure.at (h11), ?_⟩ | refine ⟨_, h11, ?_⟩ | refine PureAt.call (h11) ?_ | refine Pure.call (h12) ?_ | refine ⟨_, Pure.at (h12), ?_⟩ | refine ⟨_, h12, ?_⟩ | refine PureAt.call (h12) ?_ | fail))
end Go.Proofs.YtmalhikcdideoaaDoor

set_option linter.unusedVariables false
namespace Go.Proofs.YtmalhikcdideoaaDoor
open Go Go.ChangeShapes Go.WideShapes Sl
/-- These cells, told. -/
def CellsR (w : World) (cs : List Value) (l : List AV) : Prop := cs.length = l.length ∧ ∀ j, j < l.length → ∃ x, cs[j]? = some x ∧ x.oneCell' = true ∧ Rd w (fun _ => none) (l.getD j .any) x
theorem CellsR.nil (w : World) : CellsR w [] [] := ⟨rfl, fun j hj => absurd hj (Nat.not_lt_zero j)⟩
theorem CellsR.one {w : World} {x : Value} {a : AV} (h1 : x.oneCell' = true) (h2 : Rd w (fun _ => none) a x) : CellsR w [x] [a] := ⟨rfl, fun j hj => by
  obtain rfl : j = 0 := by simp at hj; omega
  exact ⟨x, rfl, h1, h2⟩⟩
theorem CellsR.append {w : World} {cs cs' : List Value} {l l' : List AV} (a : CellsR w cs l) (b : CellsR w cs' l') : CellsR w (cs ++ cs') (l ++ l') := by
  refine ⟨by simp [a.1, b.1], fun j hj => ?_⟩
  by_cases hl : j < l.length
  · obtain ⟨x, h1, h2, h3⟩ := a.2 j hl
    refine ⟨x, ?_, h2, ?_⟩
    · rw [List.getElem?_append_left (by rw [a.1]; exact hl)]; exact h1
    · rw [List.getD_eq_getElem?_getD] at h3 ⊢
      rw [List.getElem?_append_left hl]; exact h3
  · obtain ⟨x, h1, h2, h3⟩ := b.2 (j - l.length) (by simp at hj; omega)
    refine ⟨x, ?_, h2, ?_⟩
    · rw [List.getElem?_append_right (by rw [a.1]; omega), a.1]; exact h1
    · rw [List.getD_eq_getElem?_getD] at h3 ⊢
      rw [List.getElem?_append_right (by omega)]; exact h3
/-- Of each value of this type that can be read: it is told by cells of which Q speaks. -/
def OpensQ (P : Program) (w : World) (t : TypeId) (Q : List AV → Prop) : Prop :=
  ∀ (H : Type) (enc : TypeId × Value → H) (base : Nat) (sp : Nat → Bool) (held : Bool) (fuel : Nat) (cs : List Value) (d : DataW H) (p : List MemPlace),
    DataW.trod enc P w base sp held fuel t cs = some (d, p) → (∀ n ∈ d.weights P t, n ≤ reachBytes) → ∃ l, Q l ∧ CellsR w cs l
section
variable {P : Program} {w : World} {t e : TypeId}
theorem OpensQ.mono {Q Q' : List AV → Prop} (o : OpensQ P w t Q) (h : ∀ l, Q l → Q' l) : OpensQ P w t Q' := fun H enc base sp held fuel cs d p ht hw =>
  let ⟨l, h1, h2⟩ := o H enc base sp held fuel cs d p ht hw
  ⟨l, h l h1, h2⟩
theorem opens_int {k : IntKind} (hu : P.underlying t = some (.int k)) : OpensQ P w t fun l => ∃ n : Int, (Lit.int k n).wf = true ∧ l = [.v (.int k n)] := by
  intro H enc base sp held fuel cs d p ht hw
  obtain ⟨n, rfl, _, hwf⟩ := DataW.trod_int hu ht
  exact ⟨_, ⟨n, hwf, rfl⟩, CellsR.one rfl rfl⟩
theorem opens_bool (hu : P.underlying t = some .bool) : OpensQ P w t fun l => ∃ b : Bool, l = [.v (.bool b)] := by
  intro H enc base sp held fuel cs d p ht hw
  obtain ⟨b, rfl, _⟩ := DataW.trod_bool hu ht
  exact ⟨_, ⟨b, rfl⟩, CellsR.one rfl rfl⟩
theorem opens_string (hu : P.underlying t = some .string) : OpensQ P w t fun l => ∃ s : ByteArray, s.size ≤ reachBytes ∧ l = [.v (.string s)] := by
  intro H enc base sp held fuel cs d p ht hw
  obtain ⟨s, rfl, hd, _⟩ := DataW.trod_string hu ht
  simp only [Prod.mk.injEq] at hd
  obtain ⟨rfl, _⟩ := hd
  have := hw s.data.toList.length (by simp [DataW.weights])
  exact ⟨_, ⟨s, by simpa using this, rfl⟩, CellsR.one rfl rfl⟩
theorem list_of {α : Type} {Q : Nat → α → Prop} : ∀ n : Nat, (∀ i, i < n → ∃ x, Q i x) → ∃ l : List α, l.length = n ∧ ∀ i x, l[i]? = some x → Q i x
  | 0, _ => ⟨[], rfl, fun i x h => by simp at h⟩
  | n + 1, h => by
    obtain ⟨l, h1, h2⟩ := list_of n fun i hi => h i (by omega)
    obtain ⟨x, hx⟩ := h n (by omega)
    refine ⟨l ++ [x], by simp [h1], fun i y hy => ?_⟩
    by_cases hi : i < l.length
    · rw [List.getElem?_append_left hi] at hy; exact h2 i y hy
    · rw [List.getElem?_append_right (by omega)] at hy
      obtain rfl : i = n := by
        have := (List.getElem?_eq_some_iff.1 hy).1
        simp at this; omega
      simp [h1] at hy
      exact hy ▸ hx
theorem weightsAll_mem {H : Type} : ∀ (l : List (DataW H)) (d : DataW H), d ∈ l → ∀ n ∈ d.weights P e, n ∈ DataW.weightsAll P e l
  | [], _, h, _, _ => by simp at h
  | a :: l, d, h, n, hn => by
    simp only [DataW.weightsAll, List.mem_append]
    rcases List.mem_cons.1 h with rfl | h
    · exact .inl hn
    · exact .inr (weightsAll_mem l d h n hn)
theorem opens_slice {s : Nat} {Q : List AV → Prop} (hu : P.underlying t = some (.slice e)) (hs : P.cellsOf e = s) (hs0 : 0 < s) (hb : 0 < P.bytesOf e) (ho : OpensQ P w e Q) :
    OpensQ P w t fun l => ∃ ls : List (List AV), l = [.sl s ls.length fun i j => (ls.getD i []).getD j .any] ∧ ls.length * P.bytesOf e ≤ reachBytes ∧ ∀ x ∈ ls, x.length = s ∧ Q x := by
  intro H enc base sp held fuel cs d p ht hw
  rcases DataW.trod_slice hu ht with ⟨rfl, _⟩ | ⟨a, len, cap, elems, rest, n, _, rfl, hx, hbase, hlc, hcap, hlen, hel, _⟩
  · exact ⟨_, ⟨[], rfl, by simp, fun x hx => by simp at hx⟩, CellsR.one rfl ⟨none, 0, rfl, Nat.le_refl _, by simp, fun h => absurd h (by simp)⟩⟩
  · simp only [Prod.mk.injEq] at hx
    obtain ⟨rfl, _⟩ := hx
    have hwt : (len + rest.length) * P.bytesOf e ≤ reachBytes := by
      have := hw ((elems.length + rest.length) * P.bytesOf e) (by simp [DataW.weights, hu])
      rwa [hlen] at this
    have hlb : len * P.bytesOf e ≤ reachBytes := Nat.le_trans (Nat.mul_le_mul_right _ (by omega)) hwt
    have hln : len ≤ reachBytes := Nat.le_trans (Nat.le_mul_of_pos_right _ hb) hlb
    have each : ∀ i, i < len → ∃ x : List AV, (x.length = s ∧ Q x) ∧ ∃ ci, w.cells? base (a.add (i * s)) s = some ci ∧ CellsR w ci x := fun i hi => by
      have h1 := hel i hi
      rw [hs, List.getElem?_eq_getElem (by omega)] at h1
      cases hc : w.cells? base (a.add (i * s)) s with
      | none => rw [hc] at h1; simp at h1
      | some ci =>
        rw [hc] at h1
        simp only [Option.bind_some] at h1
        have hmem : elems[i].1 ∈ elems.map (·.1) := List.mem_map.2 ⟨elems[i], List.getElem_mem _, rfl⟩
        obtain ⟨x, hq, hr⟩ := ho H enc base sp held n ci elems[i].1 elems[i].2 h1 fun m hm => hw m (by
          simp only [DataW.weights, hu, List.mem_cons, List.mem_append]
          exact .inr (.inl (weightsAll_mem _ _ hmem m hm)))
        have hl := (World.cells?_some hc).2.1
        exact ⟨x, ⟨by rw [← hr.1, hl], hq⟩, ci, rfl, hr⟩
    obtain ⟨ls, hll, hls⟩ := list_of len each
    refine ⟨_, ⟨ls, rfl, by rw [hll]; exact hlb, fun x hx => ?_⟩, CellsR.one rfl ⟨some a, cap, by rw [hll], by omega, ?_, fun h0 => ?_⟩⟩
    · obtain ⟨i, hi, rfl⟩ := List.mem_iff_getElem.1 hx
      exact (hls i _ (List.getElem?_eq_getElem hi)).1
    · rw [hll]; exact Nat.le_trans hln (by decide)
    · rw [hll] at h0
      obtain ⟨c0, hc0, _⟩ := (hls 0 _ (List.getElem?_eq_getElem (by omega))).2
      have hblk := World.cells?_block hc0 hs0
      rw [Nat.zero_mul] at hc0 hblk
      have hadd : a.add 0 = a := rfl
      rw [hadd] at hc0 hblk
      have hsp : a.spot = none := by
        have h2 := (World.cells?_some hc0).2.2 0 hs0
        rw [hadd, List.getElem?_eq_getElem (by rw [(World.cells?_some hc0).2.1]; exact hs0)] at h2
        exact World.cell?_spot h2
      refine ⟨a.block, a.off, by cases a; simp_all, rfl, hblk, fun i hi j hj => ?_⟩
      rw [hll] at hi
      obtain ⟨⟨hxl, _⟩, ci, hci, hr⟩ := hls i _ (List.getElem?_eq_getElem (by omega))
      obtain ⟨x, h1, h2, h3⟩ := hr.2 j (by rw [hxl]; exact hj)
      refine ⟨x, ?_, h2, ?_⟩
      · have h4 := (World.cells?_some hci).2.2 j hj
        rw [← h1, ← h4]
        congr 1
        unfold Addr.add
        cases a with
        | mk b o sp' =>
          simp only at hsp
          subst hsp
          by_cases hi0 : i * s = 0
          · simp only [hi0, if_true]
            by_cases hj0 : j = 0
            · simp [hj0]
            · simp [hj0]
          · simp only [hi0, if_false]
            by_cases hj0 : j = 0
            · simp [hj0]
            · simp [hj0, Nat.add_assoc]
      · show Rd w _ ((ls.getD i []).getD j .any) x
        rw [List.getD_eq_getElem?_getD (l := ls), List.getElem?_eq_getElem (by omega)]
        exact h3
theorem typed {α : Type} {enc : α → List AV} {ok : α → Prop} : ∀ ls : List (List AV), (∀ x ∈ ls, ∃ y, ok y ∧ x = enc y) → ∃ ys : List α, ls = ys.map enc ∧ ∀ y ∈ ys, ok y
  | [], _ => ⟨[], rfl, fun y hy => by simp at hy⟩
  | x :: ls, h => by
    obtain ⟨y, hy, rfl⟩ := h x (by simp)
    obtain ⟨ys, rfl, hys⟩ := typed ls fun z hz => h z (by simp [hz])
    exact ⟨y :: ys, rfl, fun z hz => by
      rcases List.mem_cons.1 hz with rfl | hz
      · exact hy
      · exact hys z hz⟩
theorem opens_list {α : Type} {enc : α → List AV} {ok : α → Prop} {s : Nat} (hu : P.underlying t = some (.slice e)) (hs : P.cellsOf e = s) (hs0 : 0 < s) (hb : 0 < P.bytesOf e) (ho : OpensQ P w e fun l => ∃ y, ok y ∧ l = enc y) :
    OpensQ P w t fun l => ∃ ys : List α, (ys.length * P.bytesOf e ≤ reachBytes ∧ ∀ y ∈ ys, ok y) ∧ l = [encL s enc ys] := by
  refine (opens_slice hu hs hs0 hb ho).mono ?_
  rintro l ⟨ls, rfl, h1, h2⟩
  obtain ⟨ys, rfl, hys⟩ := typed ls fun x hx => (h2 x hx).2
  refine ⟨ys, ⟨by simpa using h1, hys⟩, ?_⟩
  congr 1
  unfold encL
  rw [List.length_map]
  congr 1
  funext i j
  cases hy : ys[i]? <;> simp [List.getD_eq_getElem?_getD, hy]
/-- Fields, one behind the other. -/
def catQ : List (List AV → Prop) → List AV → Prop
  | [], l => l = []
  | Q :: Qs, l => ∃ a b, Q a ∧ catQ Qs b ∧ l = a ++ b
def fieldsQ (P : Program) (w : World) : List Field → List (List AV → Prop) → Nat → Nat → Prop
  | [], [], off, tot => off = tot
  | f :: fs, Q :: Qs, off, tot => f.offset = off ∧ OpensQ P w f.type Q ∧ fieldsQ P w fs Qs (off + P.cellsOf f.type) tot
  | _, _, _, _ => False
theorem fieldsQ_le : ∀ (fs : List Field) (Qs : List (List AV → Prop)) (off tot : Nat), fieldsQ P w fs Qs off tot → off ≤ tot
  | [], [], _, _, h => Nat.le_of_eq h
  | f :: fs, Q :: Qs, off, tot, h => Nat.le_trans (Nat.le_add_right _ _) (fieldsQ_le fs Qs _ tot h.2.2)
  | [], _ :: _, _, _, h => h.elim
  | _ :: _, [], _, _, h => h.elim
theorem fields_open {H : Type} {enc : TypeId × Value → H} {base : Nat} {sp : Nat → Bool} {held : Bool} {n : Nat} {cs : List Value} : ∀ (fs : List Field) (Qs : List (List AV → Prop)) (off : Nat) (xs : List (DataW H × List MemPlace)),
    fieldsQ P w fs Qs off cs.length → xs.length = fs.length → (∀ (i : Nat) (f : Field), fs[i]? = some f → DataW.trod enc P w base sp held n f.type ((cs.drop f.offset).take (P.cellsOf f.type)) = xs[i]?) →
    (∀ m ∈ DataW.weightsEach P (fs.map (·.type)) (xs.map (·.1)), m ≤ reachBytes) → ∃ l, catQ Qs l ∧ CellsR w (cs.drop off) l
  | [], [], off, xs, h, _, _, _ => ⟨[], rfl, by rw [show off = cs.length from h, List.drop_length]; exact CellsR.nil w⟩
  | f :: fs, Q :: Qs, off, x :: xs, h, hl, hf, hw => by
    obtain ⟨rfl, ho, h⟩ := h
    have h0 := hf 0 f rfl
    simp only [List.getElem?_cons_zero] at h0
    obtain ⟨a, ha, hra⟩ := ho H enc base sp held n _ x.1 x.2 h0 fun m hm => hw m (by simp only [List.map_cons, DataW.weightsEach, List.mem_append]; exact .inl hm)
    obtain ⟨b, hb, hrb⟩ := fields_open fs Qs _ xs h (by simpa using hl) (fun i g hg => by simpa using hf (i + 1) g (by simpa using hg)) fun m hm => hw m (by simp only [List.map_cons, DataW.weightsEach, List.mem_append]; exact .inr hm)
    refine ⟨a ++ b, ⟨a, b, ha, hb, rfl⟩, ?_⟩
    have := hra.append hrb
    rwa [← List.drop_drop, List.take_append_drop] at this
  | [], _ :: _, _, _, h, _, _, _ => h.elim
  | _ :: _, [], _, _, h, _, _, _ => h.elim
  | _ :: _, _ :: _, _, [], _, hl, _, _ => by simp at hl
theorem opens_struct {fs : Array Field} {Qs : List (List AV → Prop)} (hu : P.underlying t = some (.struct fs)) (h : fieldsQ P w fs.toList Qs 0 (P.cellsOf t)) : OpensQ P w t (catQ Qs) := by
  intro H enc base sp held fuel cs d p ht hw
  obtain ⟨xs, n, rfl, hx, hl, hlen, hf⟩ := DataW.trod_struct hu ht
  simp only [Prod.mk.injEq] at hx
  obtain ⟨rfl, _⟩ := hx
  rw [← hl] at h
  have := fields_open fs.toList Qs 0 xs h (by simpa using hlen) (fun i f hi => hf i f (by simpa using hi)) fun m hm => hw m (by simpa only [DataW.weights, hu] using hm)
  simpa using this
/-- An argument of one cell; one that is a struct. -/
theorem arg_one {Q : List AV → Prop} {H : Type} {enc : TypeId × Value → H} {base : Nat} {sp : Nat → Bool} {held : Bool} {d : DataW H} {p : List MemPlace} {v : Value} (ho : OpensQ P w t Q) (h : DataW.Trod enc P w base sp held t v d p) (hw : ∀ n ∈ d.weights P t, n ≤ reachBytes) (hv : v.oneCell' = true) :
    ∃ a, Q [a] ∧ Rd w (fun _ => none) a v := by
  obtain ⟨fuel, h⟩ := h
  obtain ⟨l, hq, hl, hr⟩ := ho H enc base sp held fuel _ d p h hw
  have hc : v.cells.toList = [v] := by cases v <;> first | rfl | cases hv
  rw [hc] at hl hr
  match l, hl with
  | [a], _ =>
    obtain ⟨x, h1, _, h3⟩ := hr 0 (by simp)
    simp at h1
    subst h1
    exact ⟨a, hq, h3⟩
theorem arg_agg {Q : List AV → Prop} {H : Type} {enc : TypeId × Value → H} {base : Nat} {sp : Nat → Bool} {held : Bool} {d : DataW H} {p : List MemPlace} {cs : Array Value} (ho : OpensQ P w t Q) (h : DataW.Trod enc P w base sp held t (.agg cs) d p) (hw : ∀ n ∈ d.weights P t, n ≤ reachBytes) :
    ∃ l, Q l ∧ Rd w (fun _ => none) (aggL l) (.agg cs) := by
  obtain ⟨fuel, h⟩ := h
  obtain ⟨l, hq, hl, hr⟩ := ho H enc base sp held fuel _ d p h hw
  refine ⟨l, hq, cs, rfl, by simpa [Value.cells] using hl, fun j hj => ?_⟩
  obtain ⟨x, h1, h2, h3⟩ := hr j hj
  exact ⟨x, by simpa [Value.cells] using h1, h2, h3⟩
end
end Go.Proofs.YtmalhikcdideoaaDoor

set_option linter.unusedVariables false
namespace Go.Proofs.YtmalhikcdideoaaDoor
open Go Go.ChangeShapes Go.WideShapes Sl
def sumL {α : Type} (f : α → Nat) : List α → Nat
  | [] => 0
  | x :: r => f x + sumL f r
theorem sumL_mem {α : Type} {f : α → Nat} : ∀ {l : List α} {x : α}, x ∈ l → f x ≤ sumL f l
  | y :: r, x, h => by
    rw [sumL]
    rcases List.mem_cons.1 h with rfl | h
    · omega
    · have := sumL_mem (f := f) h; omega
theorem sumL_len {α : Type} {f : α → Nat} (hf : ∀ x, 1 ≤ f x) : ∀ l : List α, l.length ≤ sumL f l
  | [] => Nat.le_refl _
  | x :: r => by
    rw [sumL, List.length_cons]
    have := sumL_len hf r
    have := hf x
    omega
theorem bulk_pos {H : Type} (d : DataW H) : 1 ≤ Rows.uptoBulk d := by
  cases d with
  | lit l => cases l <;> simp [Rows.uptoBulk]
  | nil => simp [Rows.uptoBulk]
  | ptr d => simp [Rows.uptoBulk]
  | slice elems spare => simp [Rows.uptoBulk]
  | agg parts => simp [Rows.uptoBulk]
  | iface t d => simp [Rows.uptoBulk]
  | map entries => simp [Rows.uptoBulk]
  | held h => simp [Rows.uptoBulk]
/-- Of each value of this type that can be read: it is told by cells of which Q speaks, and of the value's bulk. -/
def OpensB (P : Program) (w : World) (t : TypeId) (Q : Nat → List AV → Prop) : Prop :=
  ∀ (H : Type) (enc : TypeId × Value → H) (base : Nat) (sp : Nat → Bool) (held : Bool) (fuel : Nat) (cs : List Value) (d : DataW H) (p : List MemPlace),
    DataW.trod enc P w base sp held fuel t cs = some (d, p) → (∀ n ∈ d.weights P t, n ≤ reachBytes) → ∃ l, Q (Rows.uptoBulk d) l ∧ CellsR w cs l
section
variable {P : Program} {w : World} {t e : TypeId}
theorem OpensB.mono {Q Q' : Nat → List AV → Prop} (o : OpensB P w t Q) (h : ∀ n l, Q n l → Q' n l) : OpensB P w t Q' := fun H enc base sp held fuel cs d p ht hw =>
  let ⟨l, h1, h2⟩ := o H enc base sp held fuel cs d p ht hw
  ⟨l, h _ l h1, h2⟩
theorem OpensB.of {Q : List AV → Prop} (o : OpensQ P w t Q) : OpensB P w t fun n l => 1 ≤ n ∧ Q l := fun H enc base sp held fuel cs d p ht hw =>
  let ⟨l, h1, h2⟩ := o H enc base sp held fuel cs d p ht hw
  ⟨l, ⟨bulk_pos d, h1⟩, h2⟩
theorem OpensB.weak {Q Q' : Nat → List AV → Prop} (o : OpensB P w t Q) (h : ∀ n l, Q n l → ∃ l', Q' n l' ∧ l'.length = l.length ∧ ∀ j, l'.getD j .any = l.getD j .any ∨ l'.getD j .any = .any) : OpensB P w t Q' := by
  intro H enc base sp held fuel cs d p ht hw
  obtain ⟨l, h1, h2, h3⟩ := o H enc base sp held fuel cs d p ht hw
  obtain ⟨l', e1, e2, e3⟩ := h _ l h1
  refine ⟨l', e1, by rw [h2, e2], fun j hj => ?_⟩
  obtain ⟨x, f1, f2, f3⟩ := h3 j (by omega)
  refine ⟨x, f1, f2, ?_⟩
  rcases e3 j with e | e
  · rw [e]; exact f3
  · rw [e]; trivial
/-- A slice that is not read. -/
theorem opens_sliceAny (hu : P.underlying t = some (.slice e)) : OpensQ P w t fun l => l = [.any] := by
  intro H enc base sp held fuel cs d p ht hw
  rcases DataW.trod_slice hu ht with ⟨rfl, _⟩ | ⟨a, len, cap, elems, rest, n, _, rfl, _⟩
  · exact ⟨_, rfl, CellsR.one rfl trivial⟩
  · exact ⟨_, rfl, CellsR.one rfl trivial⟩
theorem opensB_string (hu : P.underlying t = some .string) : OpensB P w t fun n l => ∃ s : ByteArray, s.size + 1 ≤ n ∧ l = [.v (.string s)] := by
  intro H enc base sp held fuel cs d p ht hw
  obtain ⟨s, rfl, hd, _⟩ := DataW.trod_string hu ht
  simp only [Prod.mk.injEq] at hd
  obtain ⟨rfl, _⟩ := hd
  refine ⟨_, ⟨s, ?_, rfl⟩, CellsR.one rfl rfl⟩
  have : s.data.toList.length = s.size := Array.length_toList
  simp only [Rows.uptoBulk]
  omega
theorem opensB_i64 (hu : P.underlying t = some (.int .i64)) : OpensB P w t fun n l => ∃ x : Int, (-9223372036854775808 ≤ x ∧ x ≤ 9223372036854775807) ∧ 1 ≤ n ∧ l = [.v (.int .i64 x)] := by
  refine (OpensB.of (opens_int hu)).mono ?_
  rintro n l ⟨h1, x, hw, rfl⟩
  refine ⟨x, ?_, h1, rfl⟩
  have h2 : (IntKind.i64.min ≤ x) ∧ x ≤ IntKind.i64.max := by simpa [Lit.wf] using hw
  have e1 : IntKind.i64.min = -9223372036854775808 := by decide
  have e2 : IntKind.i64.max = 9223372036854775807 := by decide
  omega
theorem typedB {α H : Type} {enc : α → List AV} {ok : α → Prop} {μ : α → Nat} : ∀ (ls : List (List AV)) (ds : List (DataW H)), ls.length = ds.length → (∀ i x, ls[i]? = some x → ∃ y, μ y ≤ Rows.uptoBulk (ds.getD i .nil) ∧ ok y ∧ x = enc y) →
    ∃ ys : List α, ls = ys.map enc ∧ (∀ y ∈ ys, ok y) ∧ sumL μ ys ≤ Rows.uptoBulkAll ds
  | [], _, _, _ => ⟨[], rfl, fun y hy => by simp at hy, by simp [sumL]⟩
  | x :: ls, [], h, _ => by simp at h
  | x :: ls, d :: ds, hl, h => by
    obtain ⟨y, hm, hy, rfl⟩ := h 0 x rfl
    obtain ⟨ys, rfl, hys, hs⟩ := typedB (μ := μ) (ok := ok) (enc := enc) ls ds (by simpa using hl) fun i z hz => h (i + 1) z (by simpa using hz)
    refine ⟨y :: ys, rfl, fun z hz => ?_, ?_⟩
    · rcases List.mem_cons.1 hz with rfl | hz
      · exact hy
      · exact hys z hz
    · simp only [sumL, Rows.uptoBulkAll]
      have : μ y ≤ Rows.uptoBulk d := hm
      omega
theorem opensB_list {α : Type} {enc : α → List AV} {ok : α → Prop} {μ : α → Nat} {s : Nat} (hu : P.underlying t = some (.slice e)) (hs : P.cellsOf e = s) (hs0 : 0 < s) (hb : 0 < P.bytesOf e) (ho : OpensB P w e fun n l => ∃ y, μ y ≤ n ∧ ok y ∧ l = enc y) :
    OpensB P w t fun n l => ∃ ys : List α, sumL μ ys + 1 ≤ n ∧ (∀ y ∈ ys, ok y) ∧ l = [encL s enc ys] := by
  intro H enc' base sp held fuel cs d p ht hw
  rcases DataW.trod_slice hu ht with ⟨rfl, h1, h2⟩ | ⟨a, len, cap, elems, rest, n, _, rfl, hx, hbase, hlc, hcap, hlen, hel, _⟩
  · exact ⟨_, ⟨[], by rw [sumL]; exact bulk_pos _, fun y hy => by simp at hy, rfl⟩, CellsR.one rfl ⟨none, 0, rfl, Nat.le_refl _, by simp, fun h => absurd h (by simp)⟩⟩
  · simp only [Prod.mk.injEq] at hx
    obtain ⟨rfl, _⟩ := hx
    have hwt : (len + rest.length) * P.bytesOf e ≤ reachBytes := by
      have := hw ((elems.length + rest.length) * P.bytesOf e) (by simp [DataW.weights, hu])
      rwa [hlen] at this
    have hlb : len * P.bytesOf e ≤ reachBytes := Nat.le_trans (Nat.mul_le_mul_right _ (by omega)) hwt
    have hln : len ≤ reachBytes := Nat.le_trans (Nat.le_mul_of_pos_right _ hb) hlb
    have each : ∀ i, i < len → ∃ x : List AV, (x.length = s ∧ ∃ y, μ y ≤ Rows.uptoBulk ((elems.map (·.1)).getD i .nil) ∧ ok y ∧ x = enc y) ∧ ∃ ci, w.cells? base (a.add (i * s)) s = some ci ∧ CellsR w ci x := fun i hi => by
      have h1 := hel i hi
      rw [hs, List.getElem?_eq_getElem (by omega)] at h1
      cases hc : w.cells? base (a.add (i * s)) s with
      | none => rw [hc] at h1; simp at h1
      | some ci =>
        rw [hc] at h1
        simp only [Option.bind_some] at h1
        have hmem : elems[i].1 ∈ elems.map (·.1) := List.mem_map.2 ⟨elems[i], List.getElem_mem _, rfl⟩
        obtain ⟨x, hq, hr⟩ := ho H enc' base sp held n ci elems[i].1 elems[i].2 h1 fun m hm => hw m (by
          simp only [DataW.weights, hu, List.mem_cons, List.mem_append]
          exact .inr (.inl (weightsAll_mem _ _ hmem m hm)))
        have hl := (World.cells?_some hc).2.1
        have hg : (elems.map (·.1)).getD i .nil = elems[i].1 := by
          rw [List.getD_eq_getElem?_getD, List.getElem?_map, List.getElem?_eq_getElem (by omega)]; rfl
        exact ⟨x, ⟨by rw [← hr.1, hl], by rw [hg]; exact hq⟩, ci, rfl, hr⟩
    obtain ⟨ls, hll, hls⟩ := list_of len each
    obtain ⟨ys, hy1, hy2, hy3⟩ := typedB (μ := μ) (ok := ok) (enc := enc) ls (elems.map (·.1)) (by rw [List.length_map]; omega) fun i x hx => (hls i x hx).1.2
    have henc : encL s enc ys = .sl s ls.length fun i j => (ls.getD i []).getD j .any := by
      subst hy1
      unfold encL
      rw [List.length_map]
      congr 1
      funext i j
      cases hy : ys[i]? <;> simp [List.getD_eq_getElem?_getD, hy]
    refine ⟨_, ⟨ys, ?_, hy2, rfl⟩, ?_⟩
    · simp only [Rows.uptoBulk]
      omega
    rw [henc]
    refine CellsR.one rfl ⟨some a, cap, by rw [hll], by omega, ?_, fun h0 => ?_⟩
    · rw [hll]; exact Nat.le_trans hln (by decide)
    · rw [hll] at h0
      obtain ⟨c0, hc0, _⟩ := (hls 0 _ (List.getElem?_eq_getElem (by omega))).2
      have hblk := World.cells?_block hc0 hs0
      rw [Nat.zero_mul] at hc0 hblk
      have hadd : a.add 0 = a := rfl
      rw [hadd] at hc0 hblk
      have hsp : a.spot = none := by
        have h2 := (World.cells?_some hc0).2.2 0 hs0
        rw [hadd, List.getElem?_eq_getElem (by rw [(World.cells?_some hc0).2.1]; exact hs0)] at h2
        exact World.cell?_spot h2
      refine ⟨a.block, a.off, by cases a; simp_all, rfl, hblk, fun i hi j hj => ?_⟩
      rw [hll] at hi
      obtain ⟨⟨hxl, _⟩, ci, hci, hr⟩ := hls i _ (List.getElem?_eq_getElem (by omega))
      obtain ⟨x, h1, h2, h3⟩ := hr.2 j (by rw [hxl]; exact hj)
      refine ⟨x, ?_, h2, ?_⟩
      · have h4 := (World.cells?_some hci).2.2 j hj
        rw [← h1, ← h4]
        congr 1
        unfold Addr.add
        cases a with
        | mk b o sp' =>
          simp only at hsp
          subst hsp
          by_cases hi0 : i * s = 0
          · simp only [hi0, if_true]
            by_cases hj0 : j = 0
            · simp [hj0]
            · simp [hj0]
          · simp only [hi0, if_false]
            by_cases hj0 : j = 0
            · simp [hj0]
            · simp [hj0, Nat.add_assoc]
      · show Rd w _ ((ls.getD i []).getD j .any) x
        rw [List.getD_eq_getElem?_getD (l := ls), List.getElem?_eq_getElem (by omega)]
        exact h3
/-- Fields, one behind the other. -/
def catB : List (Nat → List AV → Prop) → Nat → List AV → Prop
  | [], _, l => l = []
  | Q :: Qs, n, l => ∃ a b n1 n2, n1 + n2 ≤ n ∧ Q n1 a ∧ catB Qs n2 b ∧ l = a ++ b
def fieldsB (P : Program) (w : World) : List Field → List (Nat → List AV → Prop) → Nat → Nat → Prop
  | [], [], off, tot => off = tot
  | f :: fs, Q :: Qs, off, tot => f.offset = off ∧ OpensB P w f.type Q ∧ fieldsB P w fs Qs (off + P.cellsOf f.type) tot
  | _, _, _, _ => False
theorem fields_openB {H : Type} {enc : TypeId × Value → H} {base : Nat} {sp : Nat → Bool} {held : Bool} {n : Nat} {cs : List Value} : ∀ (fs : List Field) (Qs : List (Nat → List AV → Prop)) (off : Nat) (xs : List (DataW H × List MemPlace)),
    fieldsB P w fs Qs off cs.length → xs.length = fs.length → (∀ (i : Nat) (f : Field), fs[i]? = some f → DataW.trod enc P w base sp held n f.type ((cs.drop f.offset).take (P.cellsOf f.type)) = xs[i]?) →
    (∀ m ∈ DataW.weightsEach P (fs.map (·.type)) (xs.map (·.1)), m ≤ reachBytes) → ∃ l, catB Qs (Rows.uptoBulkAll (xs.map (·.1))) l ∧ CellsR w (cs.drop off) l
  | [], [], off, xs, h, _, _, _ => ⟨[], rfl, by rw [show off = cs.length from h, List.drop_length]; exact CellsR.nil w⟩
  | f :: fs, Q :: Qs, off, x :: xs, h, hl, hf, hw => by
    obtain ⟨rfl, ho, h⟩ := h
    have h0 := hf 0 f rfl
    simp only [List.getElem?_cons_zero] at h0
    obtain ⟨a, ha, hra⟩ := ho H enc base sp held n _ x.1 x.2 h0 fun m hm => hw m (by simp only [List.map_cons, DataW.weightsEach, List.mem_append]; exact .inl hm)
    obtain ⟨b, hb, hrb⟩ := fields_openB fs Qs _ xs h (by simpa using hl) (fun i g hg => by simpa using hf (i + 1) g (by simpa using hg)) fun m hm => hw m (by simp only [List.map_cons, DataW.weightsEach, List.mem_append]; exact .inr hm)
    refine ⟨a ++ b, ⟨a, b, _, _, Nat.le_refl _, ha, hb, rfl⟩, ?_⟩
    have := hra.append hrb
    rwa [← List.drop_drop, List.take_append_drop] at this
  | [], _ :: _, _, _, h, _, _, _ => h.elim
  | _ :: _, [], _, _, h, _, _, _ => h.elim
  | _ :: _, _ :: _, _, [], _, hl, _, _ => by simp at hl
theorem opensB_struct {fs : Array Field} {Qs : List (Nat → List AV → Prop)} (hu : P.underlying t = some (.struct fs)) (h : fieldsB P w fs.toList Qs 0 (P.cellsOf t)) : OpensB P w t (fun n l => ∃ m, m + 1 = n ∧ catB Qs m l) := by
  intro H enc base sp held fuel cs d p ht hw
  obtain ⟨xs, n, rfl, hx, hl, hlen, hf⟩ := DataW.trod_struct hu ht
  simp only [Prod.mk.injEq] at hx
  obtain ⟨rfl, _⟩ := hx
  rw [← hl] at h
  obtain ⟨l, h1, h2⟩ := fields_openB fs.toList Qs 0 xs h (by simpa using hlen) (fun i f hi => hf i f (by simpa using hi)) fun m hm => hw m (by simpa only [DataW.weights, hu] using hm)
  exact ⟨l, ⟨_, by simp only [Rows.uptoBulk], h1⟩, by simpa using h2⟩
/-- An argument of one cell; one that is a struct. -/
theorem argB_one {Q : Nat → List AV → Prop} {H : Type} {enc : TypeId × Value → H} {base : Nat} {sp : Nat → Bool} {held : Bool} {d : DataW H} {p : List MemPlace} {v : Value} (ho : OpensB P w t Q) (h : DataW.Trod enc P w base sp held t v d p) (hw : ∀ n ∈ d.weights P t, n ≤ reachBytes) (hv : v.oneCell' = true) :
    ∃ a, Q (Rows.uptoBulk d) [a] ∧ Rd w (fun _ => none) a v := by
  obtain ⟨fuel, h⟩ := h
  obtain ⟨l, hq, hl, hr⟩ := ho H enc base sp held fuel _ d p h hw
  have hc : v.cells.toList = [v] := by cases v <;> first | rfl | cases hv
  rw [hc] at hl hr
  match l, hl with
  | [a], _ =>
    obtain ⟨x, h1, _, h3⟩ := hr 0 (by simp)
    simp at h1
    subst h1
    exact ⟨a, hq, h3⟩
theorem argB_agg {Q : Nat → List AV → Prop} {H : Type} {enc : TypeId × Value → H} {base : Nat} {sp : Nat → Bool} {held : Bool} {d : DataW H} {p : List MemPlace} {cs : Array Value} (ho : OpensB P w t Q) (h : DataW.Trod enc P w base sp held t (.agg cs) d p) (hw : ∀ n ∈ d.weights P t, n ≤ reachBytes) :
    ∃ l, Q (Rows.uptoBulk d) l ∧ Rd w (fun _ => none) (aggL l) (.agg cs) := by
  obtain ⟨fuel, h⟩ := h
  obtain ⟨l, hq, hl, hr⟩ := ho H enc base sp held fuel _ d p h hw
  refine ⟨l, hq, cs, rfl, by simpa [Value.cells] using hl, fun j hj => ?_⟩
  obtain ⟨x, h1, h2, h3⟩ := hr j hj
  exact ⟨x, by simpa [Value.cells] using h1, h2, h3⟩
end
end Go.Proofs.YtmalhikcdideoaaDoor

set_option linter.unusedVariables false
set_option linter.unusedSimpArgs false
namespace Go.Proofs.YtmalhikcdideoaaDoor
open Go Sl
attribute [local irreducible] XRange LpQ XR XRo XRg XRQ putQ XFv XL XW2 wQ putW X XO XOp XH XHo XW SeqQ BlkQ XOQ XHQ NrmQ XC XM XG XHM XHG XD CallK
section
variable (w : World)
abbrev BI (n : Nat) (l : List AV) : Prop := ∃ x : Int, i64B x ∧ 1 ≤ n ∧ l = [I x]
abbrev BB (n : Nat) (l : List AV) : Prop := 1 ≤ n ∧ ∃ b : Bool, l = [B b]
abbrev BS (n : Nat) (l : List AV) : Prop := ∃ s : ByteArray, s.size + 1 ≤ n ∧ l = [S s]
theorem c_int : Tryd.prog.cellsOf 3 = 1 := by kernel_rfl
theorem c_bool : Tryd.prog.cellsOf 4 = 1 := by kernel_rfl
theorem c_str : Tryd.prog.cellsOf 9 = 1 := by kernel_rfl
theorem b_int : 0 < Tryd.prog.bytesOf 3 := Nat.lt_of_lt_of_eq (by decide : 0 < 8) (by kernel_rfl)
theorem o_int : OpensB Tryd.prog w 3 BI := opensB_i64 Tryd.underlying3
theorem o_bool : OpensB Tryd.prog w 4 BB := OpensB.of (opens_bool Tryd.underlying4)
theorem o_str : OpensB Tryd.prog w 9 BS := opensB_string Tryd.underlying9
def one1 {α : Type} (_ : α) : Nat := 1
abbrev Bints (n : Nat) (l : List AV) : Prop := ∃ k : List Int, sumL one1 k + 1 ≤ n ∧ (∀ x ∈ k, i64B x) ∧ l = [encL 1 cI k]
theorem c_ints : Tryd.prog.cellsOf 37 = 1 := by kernel_rfl
theorem o_ints : OpensB Tryd.prog w 37 Bints :=
  opensB_list (enc := cI) (μ := one1) (ok := i64B) Tryd.underlying37 c_int (by decide) b_int ((o_int w).mono fun n l ⟨x, h1, h2, h3⟩ => ⟨x, h2, h1, h3⟩)
theorem c_val : Tryd.prog.cellsOf 123 = 2 := by kernel_rfl
theorem o_val : OpensB Tryd.prog w 123 fun n l => ∃ a b : Int, 1 ≤ n ∧ l = [I a, I b] := by
  refine (opensB_struct (w := w) Tryd.underlying123 (Qs := [BI, BI]) (by
    simp only [fieldsB, c_int, c_val]
    exact ⟨trivial, o_int w, trivial, o_int w, trivial⟩)).mono ?_
  rintro n l ⟨m, hm, _, _, n1, n2, hn, ⟨a, _, _, rfl⟩, ⟨_, _, n3, n4, hn2, ⟨b, _, _, rfl⟩, rfl, rfl⟩, rfl⟩
  exact ⟨a, b, by omega, rfl⟩
theorem c_step : Tryd.prog.cellsOf 114 = 2 := by kernel_rfl
theorem b_step : 0 < Tryd.prog.bytesOf 114 := Nat.lt_of_lt_of_eq (by decide : 0 < 16) (by kernel_rfl)
def okSt (x : Int × Int) : Prop := i64B x.1 ∧ i64B x.2
theorem o_step : OpensB Tryd.prog w 114 fun n l => ∃ x : Int × Int, one1 x ≤ n ∧ okSt x ∧ l = cSt x := by
  refine (opensB_struct (w := w) Tryd.underlying114 (Qs := [BI, BI]) (by
    simp only [fieldsB, c_int, c_step]
    exact ⟨trivial, o_int w, trivial, o_int w, trivial⟩)).mono ?_
  rintro n l ⟨m, hm, _, _, n1, n2, hn, ⟨a, ha, _, rfl⟩, ⟨_, _, n3, n4, hn2, ⟨b, hb, _, rfl⟩, rfl, rfl⟩, rfl⟩
  exact ⟨(a, b), by unfold one1; omega, ⟨ha, hb⟩, rfl⟩
abbrev Bsteps (n : Nat) (l : List AV) : Prop := ∃ k : List (Int × Int), sumL one1 k + 1 ≤ n ∧ (∀ x ∈ k, okSt x) ∧ l = [encL 2 cSt k]
theorem c_steps : Tryd.prog.cellsOf 66 = 1 := by kernel_rfl
theorem o_steps : OpensB Tryd.prog w 66 Bsteps :=
  opensB_list (enc := cSt) (μ := one1) (ok := okSt) Tryd.underlying66 c_step (by decide) b_step (o_step w)
theorem c_node : Tryd.prog.cellsOf 39 = 5 := by kernel_rfl
theorem b_node : 0 < Tryd.prog.bytesOf 39 := Nat.lt_of_lt_of_eq (by decide : 0 < 64) (by kernel_rfl)
def muNd (x : Nd) : Nat := x.nm.size + x.kids.length + 1
def okNd (x : Nd) : Prop := i64B x.op ∧ (∀ k ∈ x.kids, i64B k) ∧ i64B x.kd ∧ i64B x.n
theorem sum_one {α : Type} : ∀ l : List α, sumL one1 l = l.length
  | [] => rfl
  | x :: r => by rw [sumL, sum_one r, List.length_cons]; unfold one1; omega
theorem o_node : OpensB Tryd.prog w 39 fun n l => ∃ x : Nd, muNd x ≤ n ∧ okNd x ∧ l = cNd x := by
  refine (opensB_struct (w := w) Tryd.underlying39 (Qs := [BI, Bints, BI, BI, BS]) (by
    simp only [fieldsB, c_int, c_ints, c_str, c_node]
    exact ⟨trivial, o_int w, trivial, o_ints w, trivial, o_int w, trivial, o_int w, trivial, o_str w, trivial⟩)).mono ?_
  rintro n l ⟨m, hm, _, _, n1, n2, hn, ⟨a, ha, _, rfl⟩, ⟨_, _, n3, n4, hn2, ⟨k, hk, hkb, rfl⟩, ⟨_, _, n5, n6, hn3, ⟨c, hc, _, rfl⟩, ⟨_, _, n7, n8, hn4, ⟨d, hd, _, rfl⟩, ⟨_, _, n9, n10, hn5, ⟨s, hs, rfl⟩, rfl, rfl⟩, rfl⟩, rfl⟩, rfl⟩, rfl⟩
  rw [sum_one] at hk
  exact ⟨⟨a, k, c, d, s⟩, by unfold muNd; simp only; omega, ⟨ha, hkb, hc, hd⟩, rfl⟩
theorem o_expr : OpensB Tryd.prog w 42 fun n l => ∃ k : List Nd, sumL muNd k + 1 ≤ n ∧ (∀ x ∈ k, okNd x) ∧ l = [encL 5 cNd k] :=
  opensB_list (enc := cNd) (μ := muNd) (ok := okNd) Tryd.underlying42 c_node (by decide) b_node (o_node w)
theorem c_table : Tryd.prog.cellsOf 68 = 5 := by kernel_rfl
theorem b_table : 0 < Tryd.prog.bytesOf 68 := Nat.lt_of_lt_of_eq (by decide : 0 < 64) (by kernel_rfl)
def muTb (t : Tb) : Nat := t.name.size + t.steps.length + 1
def okTb (t : Tb) : Prop := i64B t.fr ∧ i64B t.to ∧ ∀ x ∈ t.steps, okSt x
theorem o_table : OpensB Tryd.prog w 68 fun n l => ∃ x : Tb, muTb x ≤ n ∧ okTb x ∧ l = cTb x := by
  refine (opensB_struct (w := w) Tryd.underlying68 (Qs := [BS, BI, BI, BB, Bsteps]) (by
    simp only [fieldsB, c_bool, c_int, c_steps, c_str, c_table]
    exact ⟨trivial, o_str w, trivial, o_int w, trivial, o_int w, trivial, o_bool w, trivial, o_steps w, trivial⟩)).mono ?_
  rintro n l ⟨m, hm, _, _, n1, n2, hn, ⟨s, hs, rfl⟩, ⟨_, _, n3, n4, hn2, ⟨a, ha, _, rfl⟩, ⟨_, _, n5, n6, hn3, ⟨b, hb, _, rfl⟩, ⟨_, _, n7, n8, hn4, ⟨_, c, rfl⟩, ⟨_, _, n9, n10, hn5, ⟨k, hk, hkb, rfl⟩, rfl, rfl⟩, rfl⟩, rfl⟩, rfl⟩, rfl⟩
  rw [sum_one] at hk
  exact ⟨⟨s, a, b, c, k⟩, by unfold muTb; simp only; omega, ⟨ha, hb, hkb⟩, rfl⟩
abbrev Btables (n : Nat) (l : List AV) : Prop := ∃ k : List Tb, sumL muTb k + 1 ≤ n ∧ (∀ x ∈ k, okTb x) ∧ l = [encL 5 cTb k]
theorem c_tables : Tryd.prog.cellsOf 60 = 1 := by kernel_rfl
theorem o_tables : OpensB Tryd.prog w 60 Btables :=
  opensB_list (enc := cTb) (μ := muTb) (ok := okTb) Tryd.underlying60 c_table (by decide) b_table (o_table w)
theorem c_attr : Tryd.prog.cellsOf 125 = 7 := by kernel_rfl
theorem b_attr : 0 < Tryd.prog.bytesOf 125 := Nat.lt_of_lt_of_eq (by decide : 0 < 64) (by kernel_rfl)
theorem o_attr : OpensB Tryd.prog w 125 fun n l => ∃ x : At, one1 x ≤ n ∧ True ∧ l = cAt x := by
  refine OpensB.weak (opensB_struct (w := w) Tryd.underlying125 (Qs := [BS, BI, BB, BI, BI, fun n l => ∃ a b : Int, 1 ≤ n ∧ l = [I a, I b]]) (by
    simp only [fieldsB, c_bool, c_int, c_val, c_str, c_attr]
    exact ⟨trivial, o_str w, trivial, o_int w, trivial, o_bool w, trivial, o_int w, trivial, o_int w, trivial, o_val w, trivial⟩)) ?_
  rintro n l ⟨m, hm, _, _, n1, n2, hn, ⟨s, hs, rfl⟩, ⟨_, _, n3, n4, hn2, ⟨a, ha, _, rfl⟩, ⟨_, _, n5, n6, hn3, ⟨_, b, rfl⟩, ⟨_, _, n7, n8, hn4, ⟨c, hc, _, rfl⟩, ⟨_, _, n9, n10, hn5, ⟨d, hd, _, rfl⟩, ⟨_, _, n11, n12, hn6, ⟨v1, v2, _, rfl⟩, rfl, rfl⟩, rfl⟩, rfl⟩, rfl⟩, rfl⟩, rfl⟩
  refine ⟨_, ⟨⟨s, a⟩, by unfold one1; omega, trivial, rfl⟩, rfl, fun j => ?_⟩
  rcases j with _ | _ | _ | _ | _ | _ | _ | j <;> simp [cAt]
theorem c_attrs : Tryd.prog.cellsOf 62 = 1 := by kernel_rfl
abbrev Battrs (n : Nat) (l : List AV) : Prop := ∃ k : List At, sumL one1 k + 1 ≤ n ∧ (∀ x ∈ k, True) ∧ l = [encL 7 cAt k]
theorem o_attrs : OpensB Tryd.prog w 62 Battrs :=
  opensB_list (enc := cAt) (μ := one1) (ok := fun _ => True) Tryd.underlying62 c_attr (by decide) b_attr (o_attr w)
theorem c_articles : Tryd.prog.cellsOf 63 = 1 := by kernel_rfl
theorem c_act : Tryd.prog.cellsOf 65 = 6 := by kernel_rfl
theorem b_act : 0 < Tryd.prog.bytesOf 65 := Nat.lt_of_lt_of_eq (by decide : 0 < 104) (by kernel_rfl)
def muAc (a : Ac) : Nat := a.attrs.length + sumL muTb a.tables + 1
def okAc (a : Ac) : Prop := ∀ t ∈ a.tables, okTb t
theorem o_act : OpensB Tryd.prog w 65 fun n l => ∃ x : Ac, muAc x ≤ n ∧ okAc x ∧ l = cAc x := by
  refine OpensB.weak (opensB_struct (w := w) Tryd.underlying65 (Qs := [BS, BI, BI, Battrs, Btables, fun n l => 1 ≤ n ∧ l = [.any]]) (by
    simp only [fieldsB, c_int, c_str, c_attrs, c_tables, c_articles, c_act]
    exact ⟨trivial, o_str w, trivial, o_int w, trivial, o_int w, trivial, o_attrs w, trivial, o_tables w, trivial, OpensB.of (opens_sliceAny Tryd.underlying63), trivial⟩)) ?_
  rintro n l ⟨m, hm, _, _, n1, n2, hn, ⟨s, hs, rfl⟩, ⟨_, _, n3, n4, hn2, ⟨a, ha, _, rfl⟩, ⟨_, _, n5, n6, hn3, ⟨b, hb, _, rfl⟩, ⟨_, _, n7, n8, hn4, ⟨k, hk, _, rfl⟩, ⟨_, _, n9, n10, hn5, ⟨q, hq, hqb, rfl⟩, ⟨_, _, n11, n12, hn6, ⟨_, rfl⟩, rfl, rfl⟩, rfl⟩, rfl⟩, rfl⟩, rfl⟩, rfl⟩
  rw [sum_one] at hk
  refine ⟨_, ⟨⟨k, q⟩, by unfold muAc; simp only; omega, hqb, rfl⟩, rfl, fun j => ?_⟩
  rcases j with _ | _ | _ | _ | _ | _ | j <;> simp [cAc]
theorem o_acts : OpensB Tryd.prog w 59 fun n l => ∃ k : List Ac, sumL muAc k + 1 ≤ n ∧ (∀ x ∈ k, okAc x) ∧ l = [encL 6 cAc k] :=
  opensB_list (enc := cAc) (μ := muAc) (ok := okAc) Tryd.underlying59 c_act (by decide) b_act (o_act w)
end
end Go.Proofs.YtmalhikcdideoaaDoor

namespace Go.Proofs.YtmalhikcdideoaaDoor
open Go Go.ChangeShapes Go.WideShapes Go.ChangeAt Go.RowKit Sl
theorem own : ownKnob Tryd.prog.godebug = none := by kernel_rfl
theorem laidOut : laidOutB Tryd.prog = true := by kernel_rfl
theorem cells5 : Tryd.prog.cellsOf 5 = 1 := by kernel_rfl
theorem cells188 : Tryd.prog.cellsOf 188 = 1 := by kernel_rfl
theorem cells85 : Tryd.prog.cellsOf 85 = 256 := by kernel_rfl
theorem cells210 : Tryd.prog.cellsOf 210 = 20 := by kernel_rfl
theorem space_agg : (Rows.laid_strings_asciiSpace : DataW Unit) = .agg ((List.range 256).map fun i => .lit (.int .u8 (if (9 ≤ i ∧ i ≤ 13) ∨ i = 32 then 1 else 0))) := by kernel_rfl
theorem pow_agg : (Rows.laid_internal_strconv_uint64pow10 : DataW Unit) = .agg ((List.range 20).map fun i => .lit (.int .u64 ((10 : Nat) ^ i : Nat))) := by kernel_rfl
theorem pow_eq : ((List.range 20).map fun i => Value.int .u64 ((10 : Nat) ^ i : Nat)) = powL := by kernel_rfl
theorem lits_of {H : Type} {enc : TypeId × Value → H} {P : Program} {w : World} {base : Nat} {sp : Nat → Bool} {held : Bool} {n m : Nat} {e t : TypeId} {cs : List Value} {f : Nat → Int} {p : List MemPlace} {k : IntKind}
    (ht : P.underlying t = some (.array n e)) (he : P.underlying e = some (.int k)) (hc : P.cellsOf e = 1) (hct : P.cellsOf t = n) (h : DataW.trod enc P w base sp held m t cs = some (.agg ((List.range n).map fun i => .lit (.int k (f i))), p)) :
    cs = (List.range n).map fun i => .int k (f i) := by
  obtain ⟨xs, m1, rfl, hx, hlen, hn, hel⟩ := DataW.trod_array ht h
  simp only [Prod.mk.injEq, DataW.agg.injEq] at hx
  rw [hct] at hlen
  refine List.ext_getElem (by simp [hlen]) fun i h1 h2 => ?_
  have hi : i < n := by omega
  have hE := hel i hi
  rw [hc, Nat.mul_one] at hE
  obtain ⟨x, hxi⟩ : ∃ x, xs[i]? = some x := ⟨_, List.getElem?_eq_getElem (by omega)⟩
  rw [hxi] at hE
  have hd : (cs.drop i).take 1 = [cs[i]] := by
    rw [List.drop_eq_getElem_cons h1]; rfl
  rw [hd] at hE
  obtain ⟨v, e1, e2, _⟩ := DataW.trod_int he hE
  have e3 : (xs.map (·.1))[i]? = some (.lit (.int k (f i))) := by rw [← hx.1]; simp [hi]
  rw [List.getElem?_map, hxi, e2] at e3
  simp only [Option.map_some, Option.some.injEq, DataW.lit.injEq, Lit.int.injEq, true_and] at e3
  simp only [List.cons.injEq, and_true] at e1
  rw [e1]
  simp [e3]
/-- A variable that reads as listed: its block. -/
theorem var_heap {W : World} {name : String} {g : Nat} {cs : Array Value} {L : List Value} (hg : Tryd.prog.globalNamed name = some g) (hv : W.var? Tryd.prog name = some cs) (hcs : cs.toList = L) : ∃ ty fr, W.heap[g]? = some (.cells L.toArray ty fr) := by
  simp only [World.var?, hg, Option.bind_some] at hv
  split at hv
  · rename_i cs' ty fr hw
    simp only [Option.some.injEq] at hv
    subst hv
    refine ⟨ty, fr, ?_⟩
    rw [hw]
    congr 2
    apply Array.toList_inj.1
    rw [hcs]
  · cases hv
theorem gSpace : Tryd.prog.globalNamed "strings.asciiSpace" = some 0 := by kernel_rfl
theorem tSpace : (Tryd.prog.globals[0]?).map (·.type) = some 85 := by kernel_rfl
theorem gPow : Tryd.prog.globalNamed "internal/strconv.uint64pow10" = some 5 := by kernel_rfl
theorem tPow : (Tryd.prog.globals[5]?).map (·.type) = some 210 := by kernel_rfl
theorem space_heap {enc : TypeId × Value → Unit} {W : World} {base : Nat} {sp : Nat → Bool} {held : Bool} {g m : Nat} {t : TypeId} {cs : Array Value} {p : List MemPlace} (hg : Tryd.prog.globalNamed "strings.asciiSpace" = some g)
    (ht : (Tryd.prog.globals[g]?).map (·.type) = some t) (hv : W.var? Tryd.prog "strings.asciiSpace" = some cs) (hd : DataW.trod enc Tryd.prog W base sp held m t cs.toList = some (Rows.laid_strings_asciiSpace, p)) : ∃ ty fr, W.heap[0]? = some (.cells spaceL.toArray ty fr) := by
  obtain rfl := Option.some.inj (gSpace.symm.trans hg)
  obtain rfl := Option.some.inj (tSpace.symm.trans ht)
  rw [space_agg] at hd
  exact var_heap gSpace hv (lits_of Tryd.underlying85 Tryd.underlying5 cells5 cells85 hd)
theorem pow_heap {enc : TypeId × Value → Unit} {W : World} {base : Nat} {sp : Nat → Bool} {held : Bool} {g m : Nat} {t : TypeId} {cs : Array Value} {p : List MemPlace} (hg : Tryd.prog.globalNamed "internal/strconv.uint64pow10" = some g)
    (ht : (Tryd.prog.globals[g]?).map (·.type) = some t) (hv : W.var? Tryd.prog "internal/strconv.uint64pow10" = some cs) (hd : DataW.trod enc Tryd.prog W base sp held m t cs.toList = some (Rows.laid_internal_strconv_uint64pow10, p)) : ∃ ty fr, W.heap[5]? = some (.cells powL.toArray ty fr) := by
  obtain rfl := Option.some.inj (gPow.symm.trans hg)
  obtain rfl := Option.some.inj (tPow.symm.trans ht)
  rw [pow_agg] at hd
  exact var_heap gPow hv ((lits_of Tryd.underlying210 Tryd.underlying188 cells188 cells210 hd).trans pow_eq)
theorem mem_all {l : List Nat} (h : l.all (· ≤ reachBytes) = true) : ∀ n ∈ l, n ≤ reachBytes := fun n hn => by simpa using List.all_eq_true.1 h n hn
end Go.Proofs.YtmalhikcdideoaaDoor
