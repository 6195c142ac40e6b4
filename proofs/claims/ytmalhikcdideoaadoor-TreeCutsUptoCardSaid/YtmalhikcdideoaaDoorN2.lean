/- Trees: what mootref2.Tree answers, and how deep trees are. In a valid expression the part below a node is no larger than the node's place. mootref2.Tree, its Depth; tree.Deep. Names: what is sorted and bare of repetitions is one list, however it was made. DERIVED: THE SHELF's CONTRACTS AT THIS DUMP, IN PLAIN WORDS (tools/lay-plain.mjs out of 'RedShelf.lean', which tools/lay-shelf.mjs wrote): THE S -/
import Derived.Test.YtmalhikcdideoaaDoorN1
import Derived.Lib.SlicesCompact
import Derived.Shelf.Strconv.Itoa3
import Derived.Shelf.Strings.Builder1
import Derived.Shelf.Sort.Plain
import Derived.Test.YtmalhikcdideoaaDoorProg
import Derived.Shelf.Slices.CompactS
import Derived.Shelf.Slices.Clone
import Derived.Test.YtmalhikcdideoaaDoorN0
import Derived.Lib.Builder
import Derived.Lib.UnsafeStr
import Derived.Laws.Externs
import Derived.Shelf.RegionOpenPlain
import Derived.WalkKit
import Derived.Lib.LaidTab
import Derived.Lib.ItoaLen
set_option linter.unusedVariables false
set_option linter.unusedSimpArgs false
namespace Go.Proofs.YtmalhikcdideoaaDoor
open Go Sl
attribute [local irreducible] XRange LpQ XR XRo XRg XRQ putQ XFv XL XW2 wQ putW X XO XOp XH XHo XW SeqQ BlkQ XOQ XHQ NrmQ XC XM XG XHM XHG XD CallK
open Go.RowKit
inductive Tr where
  | mk (x : Nd) (kids : List Tr)
mutual
def cTr : Tr → List AV
  | .mk x ks => [I x.op, .v (.slice none 0 0), I x.kd, I x.n, S x.nm, .sl 6 ks.length (cTrL ks)]
def cTrL : List Tr → Nat → Nat → AV
  | [] => fun _ _ => .any
  | t :: r => fun i j => if i = 0 then (cTr t).getD j .any else cTrL r (i - 1) j
end
theorem cTrL_eq : ∀ ks : List Tr, cTrL ks = cellsL cTr ks
  | [] => by funext i j; simp [cTrL, cellsL]
  | t :: r => by
    funext i j
    rw [cTrL, cTrL_eq r]
    rcases i with _ | i
    · simp [cellsL]
    · simp [cellsL]
@[go_sem] theorem cTr_mk (x : Nd) (ks : List Tr) : cTr (.mk x ks) = [I x.op, .v (.slice none 0 0), I x.kd, I x.n, S x.nm, encL 6 cTr ks] := by
  rw [cTr, cTrL_eq]; rfl
@[go_sem] theorem cTr_len (t : Tr) : (cTr t).length = 6 := by
  obtain ⟨x, ks⟩ := t
  rw [cTr_mk]; rfl
mutual
def depthT : Tr → Int
  | .mk _ ks => depthL ks 0 + 1
def depthL : List Tr → Int → Int
  | [], m => m
  | t :: r, m => depthL r (max m (depthT t))
end
def nd0 : Nd := ⟨0, [], 0, 0, ⟨#[]⟩⟩
def bare (x : Nd) : Nd := { x with kids := [] }
def ndAt (e : List Nd) (p : Nat) : Nd := e.getD p nd0
/-- The part of an expression below a node, as a tree; the first number is how far one may go down. -/
def treeF (e : List Nd) : Nat → Nat → Tr
  | 0, p => .mk (bare (ndAt e p)) []
  | f + 1, p => .mk (bare (ndAt e p)) ((ndAt e p).kids.map fun k => treeF e f k.toNat)
/-- Kids stand ahead of their nodes. -/
structure Vd (e : List Nd) : Prop where
  out : ∀ (i : Nat) (x : Nd), e[i]? = some x → ∀ k ∈ x.kids, 0 ≤ k ∧ k < (i : Int)
theorem Vd.at {e : List Nd} (h : Vd e) (p : Nat) : ∀ k ∈ (ndAt e p).kids, 0 ≤ k ∧ k < (p : Int) := by
  unfold ndAt
  rw [List.getD_eq_getElem?_getD]
  cases hx : e[p]? with
  | none => intro k hk; cases hk
  | some x => exact h.out p x hx
theorem treeF_fuel {e : List Nd} (h : Vd e) : ∀ (f f' p : Nat), p < f → p < f' → treeF e f p = treeF e f' p
  | 0, _, _, h1, _ => absurd h1 (Nat.not_lt_zero _)
  | _, 0, _, _, h2 => absurd h2 (Nat.not_lt_zero _)
  | f + 1, f' + 1, p, h1, h2 => by
    unfold treeF
    congr 1
    refine List.map_congr_left fun k hk => ?_
    have := h.at p k hk
    exact treeF_fuel h f f' k.toNat (by omega) (by omega)
/-- The tree below node p. -/
def treeAt (e : List Nd) (p : Nat) : Tr := treeF e (p + 1) p
theorem treeAt_eq {e : List Nd} (h : Vd e) (p : Nat) : treeAt e p = .mk (bare (ndAt e p)) ((ndAt e p).kids.map fun k => treeAt e k.toNat) := by
  unfold treeAt
  rw [treeF]
  congr 1
  refine List.map_congr_left fun k hk => ?_
  have := h.at p k hk
  exact treeF_fuel h _ _ _ (by omega) (by omega)
/-- How deep nodes are: what tree.Deep writes down. -/
def maxF (acc : List Int) : List Int → Int → Int
  | [], m => m
  | k :: r, m => maxF acc r (max m (acc.getD k.toNat 0))
def deepsF : List Nd → List Int → List Int
  | [], acc => acc
  | x :: r, acc => deepsF r (acc ++ [maxF acc x.kids 0 + 1])
theorem maxF_depth (e : List Nd) (acc : List Int) : ∀ (ks : List Int) (m : Int), (∀ k ∈ ks, acc.getD k.toNat 0 = depthT (treeAt e k.toNat)) → maxF acc ks m = depthL (ks.map fun k => treeAt e k.toNat) m
  | [], m, _ => by rw [maxF, List.map_nil, depthL]
  | k :: r, m, h => by
    rw [maxF, List.map_cons, depthL, h k (List.mem_cons_self ..)]
    exact maxF_depth e acc r _ fun j hj => h j (List.mem_cons_of_mem _ hj)
theorem deepsF_depth {e : List Nd} (hv : Vd e) : ∀ (r : List Nd) (i : Nat) (acc : List Int), e.drop i = r → acc.length = i → (∀ j, j < i → acc.getD j 0 = depthT (treeAt e j)) →
    (deepsF r acc).length = i + r.length ∧ ∀ j, j < i + r.length → (deepsF r acc).getD j 0 = depthT (treeAt e j)
  | [], i, acc, _, hl, ha => by rw [deepsF]; simpa [hl] using ha
  | x :: r, i, acc, hd, hl, ha => by
    rw [deepsF]
    have hlt : i < e.length := by
      rcases Nat.lt_or_ge i e.length with h | h
      · exact h
      · rw [List.drop_of_length_le h] at hd; cases hd
    rw [List.drop_eq_getElem_cons hlt] at hd
    simp only [List.cons.injEq] at hd
    have hx : e[i]? = some x := by rw [List.getElem?_eq_getElem hlt, hd.1]
    have hnd : ndAt e i = x := by unfold ndAt; rw [List.getD_eq_getElem?_getD, hx]; rfl
    have h1 : maxF acc x.kids 0 + 1 = depthT (treeAt e i) := by
      rw [treeAt_eq hv, depthT, hnd, maxF_depth e acc x.kids 0 fun k hk => by have := hv.out i x hx k hk; exact ha k.toNat (by omega)]
    obtain ⟨h2, h3⟩ := deepsF_depth hv r (i + 1) (acc ++ [maxF acc x.kids 0 + 1]) hd.2 (by simp [hl]) fun j hj => by
      by_cases hji : j < i
      · rw [List.getD_eq_getElem?_getD, List.getElem?_append_left (by omega), ← List.getD_eq_getElem?_getD]; exact ha j hji
      · obtain rfl : j = i := by omega
        rw [List.getD_eq_getElem?_getD, List.getElem?_append_right (by omega), hl, Nat.sub_self, ← h1]; rfl
    rw [List.length_cons]
    exact ⟨by omega, fun j hj => h3 j (by omega)⟩
/-- What tree.Deep answers of an expression that is valid. -/
def deepF (e : List Nd) : Int := (deepsF e []).getD (e.length - 1) 0
theorem deep_depth {e : List Nd} (hv : Vd e) (hne : e ≠ []) : deepF e = depthT (treeAt e (e.length - 1)) := by
  have hl : 0 < e.length := List.length_pos_iff.2 hne
  obtain ⟨_, h2⟩ := deepsF_depth hv e 0 [] rfl rfl fun j hj => absurd hj (Nat.not_lt_zero j)
  exact h2 _ (by omega)
end Go.Proofs.YtmalhikcdideoaaDoor

set_option linter.unusedVariables false
set_option linter.unusedSimpArgs false
namespace Go.Proofs.YtmalhikcdideoaaDoor
open Go Sl
attribute [local irreducible] XRange LpQ XR XRo XRg XRQ putQ XFv XL XW2 wQ putW X XO XOp XH XHo XW SeqQ BlkQ XOQ XHQ NrmQ XC XM XG XHM XHG XD CallK
open Go.RowKit
mutual
def sizeT : Tr → Int
  | .mk _ ks => sizeL ks + 1
def sizeL : List Tr → Int
  | [] => 0
  | t :: r => sizeT t + sizeL r
end
mutual
theorem sizeT_pos : ∀ t : Tr, 1 ≤ sizeT t
  | .mk _ ks => by rw [sizeT]; have := sizeL_pos ks; omega
theorem sizeL_pos : ∀ ts : List Tr, 0 ≤ sizeL ts
  | [] => by rw [sizeL]; omega
  | t :: r => by rw [sizeL]; have := sizeT_pos t; have := sizeL_pos r; omega
end
theorem sizeL_len : ∀ ts : List Tr, (ts.length : Int) ≤ sizeL ts
  | [] => by rw [sizeL]; simp
  | t :: r => by rw [sizeL, List.length_cons]; have := sizeT_pos t; have := sizeL_len r; omega
theorem sizeL_mem : ∀ (ts : List Tr) (t : Tr), t ∈ ts → sizeT t ≤ sizeL ts
  | u :: r, t, h => by
    rw [sizeL]
    have h1 := sizeT_pos u
    have h2 := sizeL_pos r
    rcases List.mem_cons.1 h with rfl | h
    · omega
    · have := sizeL_mem r t h; omega
mutual
theorem depthT_le : ∀ t : Tr, 1 ≤ depthT t ∧ depthT t ≤ sizeT t
  | .mk _ ks => by
    rw [depthT, sizeT]
    have := depthL_le ks 0 (Int.le_refl _)
    have := sizeL_pos ks
    omega
theorem depthL_le : ∀ (ts : List Tr) (m : Int), 0 ≤ m → m ≤ depthL ts m ∧ depthL ts m ≤ max m (sizeL ts)
  | [], m, h => by rw [depthL, sizeL]; omega
  | t :: r, m, h => by
    rw [depthL, sizeL]
    have h1 := depthT_le t
    have h2 := depthL_le r (max m (depthT t)) (by omega)
    have h3 := sizeL_pos r
    omega
end
def rootSum (s : Nat → Int) (u : List Int) : Nat → Int
  | 0 => 0
  | i + 1 => rootSum s u i + if u.getD i 0 = 0 then s i else 0
theorem rootSum_nonneg {s : Nat → Int} (hs : ∀ p, 0 ≤ s p) (u : List Int) : ∀ i, 0 ≤ rootSum s u i
  | 0 => Int.le_refl _
  | i + 1 => by
    have h1 := rootSum_nonneg hs u i
    have h2 := hs i
    unfold rootSum
    split <;> omega
theorem getD_set (u : List Int) (k j : Nat) (v : Int) (hk : k < u.length) : (u.set k v).getD j 0 = if k = j then v else u.getD j 0 := by
  rw [List.getD_eq_getElem?_getD, List.getElem?_set, List.getD_eq_getElem?_getD]
  by_cases h : k = j
  · rw [if_pos h, if_pos h]; subst h; rw [if_pos hk]; rfl
  · rw [if_neg h, if_neg h]
theorem rootSum_far {s : Nat → Int} (u : List Int) (k : Nat) (v : Int) (hk : k < u.length) : ∀ i, i ≤ k → rootSum s (u.set k v) i = rootSum s u i
  | 0, _ => rfl
  | i + 1, h => by
    unfold rootSum
    have e : ¬ (k = i) := by omega
    rw [rootSum_far u k v hk i (by omega), getD_set u k i v hk, if_neg e]
theorem rootSum_set {s : Nat → Int} (u : List Int) (k : Nat) (hk : k < u.length) (h0 : u.getD k 0 = 0) : ∀ i, k < i → rootSum s (u.set k 1) i = rootSum s u i - s k
  | 0, h => absurd h (Nat.not_lt_zero _)
  | i + 1, h => by
    unfold rootSum
    rw [getD_set u k i 1 hk]
    by_cases hki : k = i
    · subst hki
      rw [rootSum_far u k 1 hk k (Nat.le_refl _), if_pos rfl, if_neg (by decide), if_pos h0]
      omega
    · rw [rootSum_set u k hk h0 i (by omega), if_neg hki]
      omega
def kidSum (s : Nat → Int) : List Int → Int
  | [] => 0
  | k :: r => s k.toNat + kidSum s r
theorem rootSum_use {s : Nat → Int} (i : Nat) : ∀ (ks u u' : List Int), useF u ks = some u' → (∀ k ∈ ks, 0 ≤ k ∧ k < (i : Int)) → i ≤ u.length → (∀ j, 0 ≤ u.getD j 0) →
    rootSum s u' i = rootSum s u i - kidSum s ks ∧ (∀ j, 0 ≤ u'.getD j 0) ∧ ∀ j, i ≤ j → u'.getD j 0 = u.getD j 0
  | [], u, u', h, _, _, h0 => by
    cases h
    exact ⟨by rw [kidSum]; omega, h0, fun _ _ => rfl⟩
  | k :: r, u, u', h, hk, hl, h0 => by
    have h1 := hk k (List.mem_cons_self ..)
    have h2 := h0 k.toNat
    unfold useF at h
    split at h
    · cases h
    · rename_i hle
      have h3 : u.getD k.toNat 0 = 0 := by omega
      rw [h3] at h
      have hkl : k.toNat < u.length := by omega
      obtain ⟨e1, e2, e3⟩ := rootSum_use i r (u.set k.toNat (0 + 1)) u' h (fun j hj => hk j (List.mem_cons_of_mem _ hj)) (by simpa using hl) fun j => by
        rw [getD_set u k.toNat j _ hkl]
        split
        · omega
        · exact h0 j
      refine ⟨?_, e2, fun j hj => ?_⟩
      · rw [e1, kidSum, show ((0 : Int) + 1) = 1 from rfl, rootSum_set u k.toNat hkl h3 i (by omega)]
        omega
      · rw [e3 j hj, getD_set u k.toNat j _ hkl, if_neg (by omega)]
theorem kidSum_size (e : List Nd) : ∀ ks : List Int, kidSum (fun p => sizeT (treeAt e p)) ks = sizeL (ks.map fun k => treeAt e k.toNat)
  | [] => by rw [kidSum, List.map_nil, sizeL]
  | k :: r => by rw [kidSum, List.map_cons, sizeL, kidSum_size e r]
theorem nodes_size (oneE : Nd → Nat → Int) (e : List Nd) (hv : Vd e) : ∀ (r : List Nd) (i : Nat) (u : List Int), e.drop i = r → u.length = e.length → (∀ j, 0 ≤ u.getD j 0) → (∀ j, i ≤ j → u.getD j 0 = 0) → rootSum (fun p => sizeT (treeAt e p)) u i = i → (nodesF oneE r i u).1 = 0 →
    ∀ p, i ≤ p → p < e.length → sizeT (treeAt e p) ≤ p + 1
  | [], i, u, hd, _, _, _, _, _, p, h1, h2 => by
    have := congrArg List.length hd
    simp at this
    omega
  | x :: r, i, u, hd, hl, h0, hz, hs, hn, p, h1, h2 => by
    have hlt : i < e.length := by omega
    rw [List.drop_eq_getElem_cons hlt] at hd
    simp only [List.cons.injEq] at hd
    have hx : e[i]? = some x := by rw [List.getElem?_eq_getElem hlt, hd.1]
    have hnd : ndAt e i = x := by unfold ndAt; rw [List.getD_eq_getElem?_getD, hx]; rfl
    unfold nodesF at hn
    by_cases q : oneE x i = 0
    case neg => rw [if_pos q] at hn; exact absurd hn q
    rw [if_neg (fun h => h q)] at hn
    cases hU : useF u x.kids with
    | none => rw [hU] at hn; cases hn
    | some u' =>
      rw [hU] at hn
      obtain ⟨e1, e2, e3⟩ := rootSum_use (s := fun p => sizeT (treeAt e p)) i x.kids u u' hU (hv.out i x hx) (by omega) h0
      have hsz : sizeT (treeAt e i) = kidSum (fun p => sizeT (treeAt e p)) x.kids + 1 := by
        rw [treeAt_eq hv, sizeT, hnd, kidSum_size]
      have hge := rootSum_nonneg (s := fun p => sizeT (treeAt e p)) (fun p => Int.le_trans (by decide) (sizeT_pos _)) u' i
      by_cases hpi : p = i
      · subst hpi
        omega
      · refine nodes_size oneE e hv r (i + 1) u' hd.2 (by rw [useF_len _ _ _ hU, hl]) e2 (fun j hj => by rw [e3 j (by omega)]; exact hz j (by omega)) ?_ hn p (by omega) h2
        unfold rootSum
        rw [if_pos (by rw [e3 i (Nat.le_refl _)]; exact hz i (Nat.le_refl _)), e1, hs, hsz]
        omega
theorem chk_size (oneE : Nd → Nat → Int) (e : List Nd) (hv : Vd e) (h : chkE oneE e = 0) (p : Nat) (hp : p < e.length) : sizeT (treeAt e p) ≤ p + 1 := by
  unfold chkE at h
  by_cases q1 : 100 < e.length
  · rw [if_pos q1] at h; cases h
  rw [if_neg q1] at h
  by_cases q2 : e.length = 0
  · rw [if_pos q2] at h; cases h
  rw [if_neg q2] at h
  by_cases q3 : (nodesF oneE e 0 (List.replicate e.length 0)).1 = 0
  · have hz : ∀ j, (List.replicate e.length (0 : Int)).getD j 0 = 0 := fun j => by
      rw [List.getD_eq_getElem?_getD, List.getElem?_replicate]
      split <;> rfl
    exact nodes_size oneE e hv e 0 _ rfl (by simp) (fun j => by rw [hz j]; exact Int.le_refl _) (fun j _ => hz j) rfl q3 p (Nat.zero_le _) hp
  · rw [if_pos q3] at h; exact absurd h q3
end Go.Proofs.YtmalhikcdideoaaDoor

set_option linter.unusedVariables false
set_option linter.unusedSimpArgs false
namespace Go.Proofs.YtmalhikcdideoaaDoor
open Go Sl
attribute [local irreducible] XRange LpQ XR XRo XRg XRQ putQ XFv XL XW2 wQ putW X XO XOp XH XHo XW SeqQ BlkQ XOQ XHQ NrmQ XC XM XG XHM XHG XD CallK
open Go.RowKit
theorem depth_ok (t : Tr) (hs : sizeT t ≤ 1000000) : Pure Tryd.prog 45 [aggL (cTr t)] (I (depthT t)) := by
  generalize hn : SizeOf.sizeOf t = n
  induction n using Nat.strongRecOn generalizing t with
  | ind n ih =>
    obtain ⟨x, ks⟩ := t
    have ihk : ∀ k ∈ ks, Pure Tryd.prog 45 [aggL (cTr k)] (I (depthT k)) := fun k hk => ih (SizeOf.sizeOf k) (by
      have := List.sizeOf_lt_of_mem hk
      simp only [Tr.mk.sizeOf_spec] at hn
      omega) k (by
      have h1 := sizeL_mem ks k hk
      rw [sizeT] at hs
      omega) rfl
    clear ih hn
    rw [sizeT] at hs
    have hkl := sizeL_len ks
    have hdl := depthL_le ks 0 (Int.le_refl _)
    rw [cTr_mk, depthT]
    generalize hR : depthL ks 0 = R
    intro h; refine callK_body Tryd.func45 rfl (by rw [nt45]; simp) ?_; rw [nt45, rs45]
    (repeat' (first | simp [go_sem, X_region, *] | simp (disch := omega) only [om, *] | ((first | refine XC_split ?_ ?_ | refine XG_true ?_ ?_ | refine XG_false ?_ ?_ | refine XRg_true ?_ ?_ | refine XRg_false ?_ ?_) <;> intro hc <;> (try simp only [bl] at hc) <;> (try (exfalso; omega))) | refine XD_w [] [] [] (fun _ => none) mixed (by decide +kernel) (sub_none _) ?_ | fail))
    intro b1 hb1
    (repeat' (first | simp [go_sem, X_region, *] | simp (disch := omega) only [om, *] | ((first | refine XC_split ?_ ?_ | refine XG_true ?_ ?_ | refine XG_false ?_ ?_ | refine XRg_true ?_ ?_ | refine XRg_false ?_ ?_) <;> intro hc <;> (try simp only [bl] at hc) <;> (try (exfalso; omega))) | refine XD_w [] [] [] (fun _ => none) mixed (by decide +kernel) (sub_none _) ?_ | fail))
    refine X_lpF (fun i => i = 3 ∨ i = 5 ∨ (9 ≤ i ∧ i ≤ 17)) (fun n T g => ∃ (i : Nat) (r : List Tr) (m : Int), n = r.length ∧ i ≤ ks.length ∧ ks.drop i = r ∧ depthL r m = R ∧ 0 ≤ m ∧ T 9 = I i ∧ T 3 = I m ∧ Sub h g) ks.length ⟨0, ks, 0, rfl, by omega, rfl, hR, Int.le_refl _, by simp [go_sem], by simp [go_sem], Sub.upd hb1 (Sub.refl _)⟩ ?_
    rw [hR] at hdl
    clear hR
    rintro J hJ n T g hfr ⟨i, r, m, rfl, hi, hd, hR, hm0, t9, t3, hsub⟩
    rcases r with _ | ⟨y, r⟩
    · have hlt := drop_nil hd
      rw [depthL] at hR
      subst hR
      (repeat' (first | simp [go_sem, X_region, *] | simp (disch := omega) only [om, *] | ((first | refine XC_split ?_ ?_ | refine XG_true ?_ ?_ | refine XG_false ?_ ?_ | refine XRg_true ?_ ?_ | refine XRg_false ?_ ?_) <;> intro hc <;> (try simp only [bl] at hc) <;> (try (exfalso; omega))) | refine XD_w [] [] [] (fun _ => none) mixed (by decide +kernel) (sub_none _) ?_ | fail))
      exact Wk.drop _ hsub
    · obtain ⟨hlt, hx, hd2⟩ := drop_cons hd
      have hk := ihk y (by rw [← hx]; exact List.getElem_mem hlt)
      rw [depthL] at hR
      obtain ⟨y, kk⟩ := y
      rw [cTr_mk] at hk
      have hdv := depthT_le (Tr.mk y kk)
      generalize depthT (Tr.mk y kk) = dv at *
      (repeat' (first | simp [go_sem, X_region, *] | simp (disch := omega) only [om, *] | ((first | refine XC_split ?_ ?_ | refine XG_true ?_ ?_ | refine XG_false ?_ ?_ | refine XRg_true ?_ ?_ | refine XRg_false ?_ ?_) <;> intro hc <;> (try simp only [bl] at hc) <;> (try (exfalso; omega))) | refine XD_w [] [] [] (fun _ => none) mixed (by decide +kernel) (sub_none _) ?_ | refine Pure.call (hk) ?_ | refine ⟨_, Pure.at (hk), ?_⟩ | refine ⟨_, hk, ?_⟩ | refine PureAt.call (hk) ?_ | fail))
      intro b5 hb5
      (repeat' (first | simp [go_sem, X_region, *] | simp (disch := omega) only [om, *] | ((first | refine XC_split ?_ ?_ | refine XG_true ?_ ?_ | refine XG_false ?_ ?_ | refine XRg_true ?_ ?_ | refine XRg_false ?_ ?_) <;> intro hc <;> (try simp only [bl] at hc) <;> (try (exfalso; omega))) | refine XD_w [] [] [] (fun _ => none) mixed (by decide +kernel) (sub_none _) ?_ | refine Pure.call (hk) ?_ | refine ⟨_, Pure.at (hk), ?_⟩ | refine ⟨_, hk, ?_⟩ | refine PureAt.call (hk) ?_ | fail))
      exact ⟨_, Nat.lt_succ_self _, hJ.out _ _ _ ⟨(by (repeat (refine fr_upd (by decide) ?_)); exact hfr), i + 1, r, max m dv, rfl, by omega, hd2, hR, by omega, by simp [go_sem], by simp [go_sem], Sub.upd (sub_free hsub hb5) hsub⟩⟩
theorem own_other {h0 h : Hp} {a : AV} {e : TypeId} {s n b : Nat} {f : Nat → Nat → AV} {o1 o2 : Ob} (o : Own h0 h a e s n f) (hb : h0 b = some o1) : Own (upd h0 b (some o2)) (upd h b (some o2)) a e s n f := by
  refine o.other hb fun c hc hcb => ?_
  rcases o.2 with ⟨_, h1 | h1⟩ | ⟨gb, og, h1, h2, _⟩
  · rw [hc] at h1; cases h1
  · rw [hc] at h1; cases h1
  · rw [hc] at h1
    cases h1
    rw [hcb, hb] at h2
    cases h2
theorem upd_upd {α : Type} (T : Nat → α) (d : Nat) (x y : α) : upd (upd T d x) d y = upd T d y := by
  funext i
  by_cases h : i = d <;> simp [upd, h]
theorem rtree_ok (e : List Nd) (hv : Vd e) (hk3 : ∀ (i : Nat) (x : Nd), e[i]? = some x → x.kids.length ≤ 3) (p : Nat) (hp : p < e.length) : Pure Tryd.prog 21 [encL 5 cNd e, I p] (aggL (cTr (treeAt e p))) := by
  induction p using Nat.strongRecOn with
  | ind p ih =>
    obtain ⟨x, hxe⟩ : ∃ x, e[p] = x := ⟨_, rfl⟩
    have hx : e[p]? = some x := by rw [List.getElem?_eq_getElem hp, hxe]
    have hnd : ndAt e p = x := by unfold ndAt; rw [List.getD_eq_getElem?_getD, hx]; rfl
    have hkx := hv.out p x hx
    have hk3 := hk3 p x hx
    have ihk : ∀ k ∈ x.kids, Pure Tryd.prog 21 [encL 5 cNd e, I k] (aggL (cTr (treeAt e k.toNat))) := fun k hk => by
      have h1 := hkx k hk
      obtain ⟨m, rfl⟩ : ∃ m : Nat, k = m := ⟨k.toNat, by omega⟩
      rw [Int.toNat_natCast]
      exact ih m (by omega) (by omega)
    clear ih
    rw [treeAt_eq hv, hnd, cTr_mk]
    generalize hR : x.kids.map (fun k => treeAt e k.toNat) = R
    intro h; refine callK_body Tryd.func21 rfl (by rw [nt21]; simp) ?_; rw [nt21, rs21]
    (repeat' (first | simp [go_sem, X_region, *] | simp (disch := omega) only [om, *] | ((first | refine XC_split ?_ ?_ | refine XG_true ?_ ?_ | refine XG_false ?_ ?_ | refine XRg_true ?_ ?_ | refine XRg_false ?_ ?_) <;> intro hc <;> (try simp only [bl] at hc) <;> (try (exfalso; omega))) | refine XD_w [] [] [] (fun _ => none) mixed (by decide +kernel) (sub_none _) ?_ | fail))
    intro b4 hb4 b5 n1 n2 hb5
    refine X_lpF (fun i => i = 7 ∨ (19 ≤ i ∧ i ≤ 31)) (fun n T g => ∃ (i : Nat) (rk : List Int) (acc : List Tr) (ob4 ob : Ob) (a : AV), n = rk.length ∧ i ≤ x.kids.length ∧ x.kids.drop i = rk ∧ acc ++ rk.map (fun k => treeAt e k.toNat) = R ∧ T 19 = I i ∧ acc.length = i ∧
        Own (upd (upd h b4 (some ob4)) b5 (some ob)) g a 45 6 acc.length (cellsL cTr acc) ∧ ob4.s = 6 ∧ ob4.n = 1 ∧ ob4.ty = 45 ∧ ob.s = 6 ∧ ob.n = 1 ∧ ob.ty = 45 ∧ ob.f 0 0 = I x.op ∧ ob.f 0 2 = I x.kd ∧ ob.f 0 3 = I x.n ∧ ob.f 0 4 = S x.nm ∧ ob.f 0 5 = a) x.kids.length
      ⟨0, x.kids, [], _, _, .v (.slice none 0 0), rfl, by omega, rfl, hR, by simp [go_sem], rfl, by simpa [go_sem] using Own.none, rfl, rfl, rfl, rfl, rfl, rfl, by simp [go_sem], by simp [go_sem], by simp [go_sem], by simp [go_sem], by simp [go_sem]⟩ ?_
    clear hR
    rintro J hJ n T g hfr ⟨i, rk, acc, ob4, ob, a, rfl, hi, hd, hR, t19, hacc, hown, p1, p2, p3, q1, q2, q3, f0, f2, f3, f4, f5⟩
    have e5 : g b5 = some ob := hown.1 b5 _ (upd_same _ _ _)
    have e4 : g b4 = some ob4 := hown.1 b4 _ (by rw [upd_ne _ _ n2]; exact upd_same _ _ _)
    rcases rk with _ | ⟨y, rk⟩
    · have hlt := drop_nil hd
      rw [List.map_nil, List.append_nil] at hR
      subst hR
      (repeat' (first | simp [go_sem, X_region, *] | simp (disch := omega) only [om, *] | ((first | refine XC_split ?_ ?_ | refine XG_true ?_ ?_ | refine XG_false ?_ ?_ | refine XRg_true ?_ ?_ | refine XRg_false ?_ ?_) <;> intro hc <;> (try simp only [bl] at hc) <;> (try (exfalso; omega))) | refine XD_w [] [] [] (fun _ => none) mixed (by decide +kernel) (sub_none _) ?_ | fail))
      have w5 := own_other (o2 := ⟨45, 6, 1, fun i' j' => if i' = 0 ∧ 1 ≤ j' ∧ j' < 2 then AV.v (Value.slice none 0 0) else ob.f i' j'⟩) hown (upd_same _ _ _)
      rw [upd_upd] at w5
      have w4 := own_other (o2 := ⟨45, 6, 1, fun i' j' => if i' = 0 ∧ j' < 6 then [I x.op, AV.v (Value.slice none 0 0), I x.kd, I x.n, S x.nm, a][j']?.getD AV.any else ob4.f i' j'⟩) w5 (b := b4) (by rw [upd_ne _ _ n2]; exact upd_same _ _ _)
      have hsb : Sub h (upd (upd (upd h b4 (some ob4)) b5 (some ⟨45, 6, 1, fun i' j' => if i' = 0 ∧ 1 ≤ j' ∧ j' < 2 then AV.v (Value.slice none 0 0) else ob.f i' j'⟩)) b4 (some ⟨45, 6, 1, fun i' j' => if i' = 0 ∧ j' < 6 then [I x.op, AV.v (Value.slice none 0 0), I x.kd, I x.n, S x.nm, a][j']?.getD AV.any else ob4.f i' j'⟩)) := Sub.upd hb4 (Sub.upd hb5 (Sub.upd hb4 (Sub.refl _)))
      refine Wk.aggLM (hsb.trans w4.1) rfl fun j hj => ?_
      have hj : j < 6 := hj
      rcases (show j = 0 ∨ j = 1 ∨ j = 2 ∨ j = 3 ∨ j = 4 ∨ j = 5 by omega) with rfl | rfl | rfl | rfl | rfl | rfl
      · exact Wk.drop _ (hsb.trans w4.1)
      · exact Wk.drop _ (hsb.trans w4.1)
      · exact Wk.drop _ (hsb.trans w4.1)
      · exact Wk.drop _ (hsb.trans w4.1)
      · exact Wk.drop _ (hsb.trans w4.1)
      · rw [hacc] at w4
        exact (w4.frozen (by omega)).trans (Wk.drop _ hsb)
    · obtain ⟨hlt, hxk, hd2⟩ := drop_cons hd
      have hk := ihk y (by rw [← hxk]; exact List.getElem_mem hlt)
      rw [List.map_cons] at hR
      generalize treeAt e y.toNat = tr at *
      (repeat' (first | simp [go_sem, X_region, *] | simp (disch := omega) only [om, *] | ((first | refine XC_split ?_ ?_ | refine XG_true ?_ ?_ | refine XG_false ?_ ?_ | refine XRg_true ?_ ?_ | refine XRg_false ?_ ?_) <;> intro hc <;> (try simp only [bl] at hc) <;> (try (exfalso; omega))) | refine XD_w [] [] [] (fun _ => none) mixed (by decide +kernel) (sub_none _) ?_ | refine Pure.call (hk) ?_ | refine ⟨_, Pure.at (hk), ?_⟩ | refine ⟨_, hk, ?_⟩ | refine PureAt.call (hk) ?_ | fail))
      refine Own.push2 (x := tr) (enc := cTr) hown (by simp [go_sem]) und43 zr45 by45 (by simp [go_sem]) (by simp [go_sem]; rfl) ?_ (by omega) (by omega) fun a1 h1 hown1 hkeep1 => ?_
      · obtain ⟨yy, kk⟩ := tr
        rw [cTr_mk]
        rfl
      have k5 := hown1.1 b5 _ (upd_same _ _ _)
      have hl1 : (acc ++ [tr]).length = i + 1 := by simp [hacc]
      rw [hl1] at hown1
      obtain ⟨gb, rfl⟩ : ∃ gb, a1 = .row gb 6 0 (i + 1) := by
        rcases hown1.2 with ⟨h0, _⟩ | ⟨gb, og, h0, _⟩
        · omega
        · exact ⟨gb, h0⟩
      (repeat' (first | simp [go_sem, X_region, *] | simp (disch := omega) only [om, *] | ((first | refine XC_split ?_ ?_ | refine XG_true ?_ ?_ | refine XG_false ?_ ?_ | refine XRg_true ?_ ?_ | refine XRg_false ?_ ?_) <;> intro hc <;> (try simp only [bl] at hc) <;> (try (exfalso; omega))) | refine XD_w [] [] [] (fun _ => none) mixed (by decide +kernel) (sub_none _) ?_ | fail))
      have w5 := own_other (o2 := ⟨45, 6, 1, fun i' j' => if i' = 0 ∧ 5 ≤ j' ∧ j' < 6 then .row gb 6 0 (i + 1) else ob.f i' j'⟩) hown1 (upd_same _ _ _)
      rw [upd_upd] at w5
      exact ⟨_, Nat.lt_succ_self _, hJ.out _ _ _ ⟨(by (repeat (refine fr_upd (by decide) ?_)); exact hfr), i + 1, rk, acc ++ [tr], ob4, _, .row gb 6 0 (i + 1), rfl, by omega, hd2, by rw [← hR]; simp, by simp [go_sem, *], hl1, by rw [hl1]; exact w5, p1, p2, p3, rfl, rfl, rfl, by simp [f0], by simp [f2], by simp [f3], by simp [f4], by simp⟩⟩
/-- Numbers in a block of the call's own; behind those that are told, 0. -/
structure KndZ (h : Hp) (b n : Nat) (acc : List Int) : Prop where
  out : ∃ o, h b = some o ∧ o.ty = 3 ∧ o.s = 1 ∧ o.n = n ∧ Hid (∀ k, k < n → o.f k 0 = I (acc.getD k 0))
theorem kz_next {acc : List Int} {f : Nat → Nat → AV} {i n : Nat} (v : Int) (hi : acc.length = i) (h : ∀ k, k < n → k ≠ i → f k 0 = I (acc.getD k 0)) :
    ∀ k, k < n → (if k = i ∧ 0 = 0 then AV.v (Value.int IntKind.i64 v) else f k 0) = I ((acc ++ [v]).getD k 0) := by
  intro k hk
  rw [List.getD_eq_getElem?_getD]
  rcases Nat.lt_trichotomy k i with hki | hki | hki
  · rw [if_neg (fun h => by omega), h k hk (by omega), List.getElem?_append_left (by omega), List.getD_eq_getElem?_getD]
  · rw [if_pos ⟨hki, rfl⟩, List.getElem?_append_right (by omega), show k - acc.length = 0 by omega]
    rfl
  · rw [if_neg (fun h => by omega), h k hk (by omega), List.getElem?_eq_none (by simp; omega), List.getD_eq_getElem?_getD, List.getElem?_eq_none (by omega)]
set_option maxHeartbeats 4000000 in
theorem deep_ok (cE : List Nd → Int) (e : List Nd) (hc : Pure Tryd.prog 41 [encL 5 cNd e] (I (cE e)))
    (hke : cE e = 0 → e.length ≤ 100 ∧ e ≠ [] ∧ ∀ (i : Nat) (x : Nd), e[i]? = some x → (∀ k ∈ x.kids, 0 ≤ k ∧ k < i) ∧ x.kids.length ≤ 3) :
    Pure Tryd.prog 44 [encL 5 cNd e] (I (if cE e ≠ 0 then 0 else deepF e)) := by
  generalize hR : (if cE e ≠ 0 then 0 else deepF e) = R
  intro h
  by_cases q1 : cE e = 0
  case neg =>
    rw [if_pos q1] at hR
    subst hR
    refine callK_body Tryd.func44 rfl (by rw [nt44]; simp) ?_; rw [nt44, rs44]
    ((repeat' (first | simp [go_sem, X_region, *] | simp (disch := omega) only [om, *] | ((first | refine XC_split ?_ ?_ | refine XG_true ?_ ?_ | refine XG_false ?_ ?_ | refine XRg_true ?_ ?_ | refine XRg_false ?_ ?_) <;> intro hc <;> (try simp only [bl] at hc) <;> (try (exfalso; omega))) | refine XD_w [] [] [] (fun _ => none) mixed (by decide +kernel) (sub_none _) ?_ | refine Pure.call (hc) ?_ | refine ⟨_, Pure.at (hc), ?_⟩ | refine ⟨_, hc, ?_⟩ | refine PureAt.call (hc) ?_ | (intro bk hbk; (try simp only [go_sem] at hbk)))); all_goals (refine Wk.fin (by repeat (first | exact Sub.refl _ | refine Sub.upd (by simp [*]) ?_)) ?_; first | (simp [*]; done) | (simp only []; (repeat' (first | split | rfl | omega | (simp_all; done))); done) | (simp [*]; (repeat' (first | split | omega | (rw [Bool.eq_iff_iff]; simp; omega))); done) | (simp [*])))
  rw [if_neg (fun h => h q1)] at hR
  rw [q1] at hc
  obtain ⟨hel, hne, hke⟩ := hke q1
  have hne : 0 < e.length := List.length_pos_iff.2 hne
  refine callK_body Tryd.func44 rfl (by rw [nt44]; simp) ?_; rw [nt44, rs44]
  (repeat' (first | simp [go_sem, X_region, *] | simp (disch := omega) only [om, *] | ((first | refine XC_split ?_ ?_ | refine XG_true ?_ ?_ | refine XG_false ?_ ?_ | refine XRg_true ?_ ?_ | refine XRg_false ?_ ?_) <;> intro hc <;> (try simp only [bl] at hc) <;> (try (exfalso; omega))) | refine XD_w [] [] [] (fun _ => none) mixed (by decide +kernel) (sub_none _) ?_ | refine Pure.call (hc) ?_ | refine ⟨_, Pure.at (hc), ?_⟩ | refine ⟨_, hc, ?_⟩ | refine PureAt.call (hc) ?_ | fail))
  refine X_makeSlice (s := 1) (by_ := 8) e.length e.length und37 zr3 by3 (by simp [go_sem]) (by simp [go_sem]) (by omega) (by omega) (by omega) fun b hb => ?_
  (repeat' (first | simp [go_sem, X_region, *] | simp (disch := omega) only [om, *] | ((first | refine XC_split ?_ ?_ | refine XG_true ?_ ?_ | refine XG_false ?_ ?_ | refine XRg_true ?_ ?_ | refine XRg_false ?_ ?_) <;> intro hc <;> (try simp only [bl] at hc) <;> (try (exfalso; omega))) | refine XD_w [] [] [] (fun _ => none) mixed (by decide +kernel) (sub_none _) ?_ | fail))
  refine X_lpF (fun i => (4 ≤ i ∧ i ≤ 5) ∨ i = 7 ∨ (16 ≤ i ∧ i ≤ 47)) (fun k T g => ∃ (i : Nat) (r : List Nd) (acc : List Int), k = r.length ∧ i ≤ e.length ∧ e.drop i = r ∧ (deepsF r acc).getD (e.length - 1) 0 = R ∧ T 16 = I i ∧ acc.length = i ∧ (∀ v ∈ acc, 0 ≤ v ∧ v ≤ i) ∧ Sub h g ∧ KndZ g b e.length acc) e.length ⟨0, e, [], rfl, by omega, rfl, hR, by simp [go_sem], rfl, (fun v hv => by cases hv), Sub.upd hb (Sub.refl _), ⟨_, upd_same _ _ _, rfl, rfl, rfl, ⟨fun k hk => by simp [go_sem]⟩⟩⟩ ?_
  clear hR
  rintro J hJ k T g hfr ⟨i, r, acc, rfl, hi, hd, hR, t16, hacc, hav, hsub, ⟨o, ho, o1, o2, o3, ⟨o4⟩⟩⟩
  rcases r with _ | ⟨x, r⟩
  · have hlt := drop_nil hd
    rw [deepsF] at hR
    subst hR
    obtain ⟨m, hm⟩ : ∃ m, e.length = m + 1 := ⟨e.length - 1, by omega⟩
    have hfm := o4 m (by omega)
    rw [hm, Nat.add_sub_cancel]
    generalize acc.getD m 0 = v at *
    clear o4
    have hm1 : ((e.length : Nat) : Int) - 1 = (m : Int) := by omega
    (repeat' (first | simp [go_sem, X_region, *] | simp (disch := omega) only [om, *] | ((first | refine XC_split ?_ ?_ | refine XG_true ?_ ?_ | refine XG_false ?_ ?_ | refine XRg_true ?_ ?_ | refine XRg_false ?_ ?_) <;> intro hc <;> (try simp only [bl] at hc) <;> (try (exfalso; omega))) | refine XD_w [] [] [] (fun _ => none) mixed (by decide +kernel) (sub_none _) ?_ | fail))
    exact Wk.drop _ hsub
  · obtain ⟨hlt, hx, hd2⟩ := drop_cons hd
    have hxi : e[i]? = some x := List.getElem?_eq_some_iff.2 ⟨hlt, hx⟩
    obtain ⟨hk1, hk2⟩ := hke i x hxi
    rw [deepsF] at hR
    (repeat' (first | simp [go_sem, X_region, *] | simp (disch := omega) only [om, *] | ((first | refine XC_split ?_ ?_ | refine XG_true ?_ ?_ | refine XG_false ?_ ?_ | refine XRg_true ?_ ?_ | refine XRg_false ?_ ?_) <;> intro hc <;> (try simp only [bl] at hc) <;> (try (exfalso; omega))) | refine XD_w [] [] [] (fun _ => none) mixed (by decide +kernel) (sub_none _) ?_ | fail))
    intro b9 hb9
    have n9 := ne_free hb9 ho
    (repeat' (first | simp [go_sem, X_region, *] | simp (disch := omega) only [om, *] | ((first | refine XC_split ?_ ?_ | refine XG_true ?_ ?_ | refine XG_false ?_ ?_ | refine XRg_true ?_ ?_ | refine XRg_false ?_ ?_) <;> intro hc <;> (try simp only [bl] at hc) <;> (try (exfalso; omega))) | refine XD_w [] [] [] (fun _ => none) mixed (by decide +kernel) (sub_none _) ?_ | fail))
    refine X_lpF (fun i => i = 7 ∨ (24 ≤ i ∧ i ≤ 40)) (fun k T g2 => ∃ (j : Nat) (rk : List Int) (o : Ob) (m : Int), k = rk.length ∧ j ≤ x.kids.length ∧ x.kids.drop j = rk ∧ T 24 = I j ∧ Sub h g2 ∧ g2 b = some o ∧ o.ty = 3 ∧ o.s = 1 ∧ o.n = e.length ∧ Hid (∀ k, k < e.length → k ≠ i → o.f k 0 = I (acc.getD k 0)) ∧ o.f i 0 = I m ∧ 0 ≤ m ∧ m ≤ i ∧ maxF acc rk m = maxF acc x.kids 0) x.kids.length
      ⟨0, x.kids, o, 0, rfl, by omega, rfl, by simp [go_sem], Sub.upd (sub_free hsub hb9) hsub, by rw [upd_ne _ _ n9.2]; exact ho, o1, o2, o3, ⟨fun k hk _ => o4 k hk⟩, by rw [o4 i hlt, List.getD_eq_getElem?_getD, List.getElem?_eq_none (by omega)]; rfl, Int.le_refl _, by omega, rfl⟩ ?_
    clear ho o1 o2 o3 o4 hsub n9
    rintro J2 hJ2 n2 T2 g2 hfr2 ⟨j, rk, o', m, rfl, hj, hdj, t24, hsub, ho', p1, p2, p3, ⟨p4⟩, p5, hm0, hmi, hm⟩
    rcases rk with _ | ⟨y, rk⟩
    · have hltk := drop_nil hdj
      rw [maxF] at hm
      subst hm
      generalize maxF acc x.kids 0 = m at *
      (repeat' (first | simp [go_sem, X_region, *] | simp (disch := omega) only [om, *] | ((first | refine XC_split ?_ ?_ | refine XG_true ?_ ?_ | refine XG_false ?_ ?_ | refine XRg_true ?_ ?_ | refine XRg_false ?_ ?_) <;> intro hc <;> (try simp only [bl] at hc) <;> (try (exfalso; omega))) | refine XD_w [] [] [] (fun _ => none) mixed (by decide +kernel) (sub_none _) ?_ | fail))
      exact ⟨_, Nat.lt_succ_self _, hJ.out _ _ _ ⟨(by (repeat (refine fr_upd (by decide) ?_)); exact fr_in (by intro i; omega) hfr2 (by (repeat (refine fr_upd (by decide) ?_)); exact hfr)), i + 1, r, acc ++ [m + 1], rfl, by omega, hd2, hR, by simp [go_sem, *], by simp [hacc], fun v hv => by
        rcases List.mem_append.1 hv with hv | hv
        · have := hav v hv; omega
        · rw [List.mem_singleton.1 hv]; omega, Sub.upd hb hsub, ⟨_, upd_same _ _ _, rfl, rfl, rfl, ⟨kz_next _ hacc p4⟩⟩⟩⟩
    · obtain ⟨hltk, hxk, hdj2⟩ := drop_cons hdj
      have hy := hk1 y (by rw [← hxk]; exact List.getElem_mem hltk)
      obtain ⟨yn, rfl⟩ : ∃ yn : Nat, y = yn := ⟨y.toNat, by omega⟩
      have hyf := p4 yn (by omega) (by omega)
      rw [maxF, Int.toNat_natCast] at hm
      have hva : 0 ≤ acc.getD yn 0 ∧ acc.getD yn 0 ≤ i := hav _ (by
        rw [List.getD_eq_getElem?_getD, List.getElem?_eq_getElem (by omega)]
        exact List.getElem_mem _)
      have hp4 : Hid (∀ k, k < e.length → k ≠ i → o'.f k 0 = I (acc.getD k 0)) := ⟨p4⟩
      clear p4 hav
      generalize acc.getD yn 0 = v at hm hva hyf
      (repeat' (first | simp [go_sem, X_region, *] | simp (disch := omega) only [om, *] | ((first | refine XC_split ?_ ?_ | refine XG_true ?_ ?_ | refine XG_false ?_ ?_ | refine XRg_true ?_ ?_ | refine XRg_false ?_ ?_) <;> intro hc <;> (try simp only [bl] at hc) <;> (try (exfalso; omega))) | refine XD_w [] [] [] (fun _ => none) mixed (by decide +kernel) (sub_none _) ?_ | fail))
      exact ⟨_, Nat.lt_succ_self _, hJ2.out _ _ _ ⟨(by (repeat (refine fr_upd (by decide) ?_)); exact hfr2), j + 1, rk, _, max m v, rfl, by omega, hdj2, by simp [go_sem, *], Sub.upd hb hsub, upd_same _ _ _, rfl, rfl, rfl, ⟨fun k hk hki => by simp only [hki, false_and, if_false]; exact hp4.out k hk hki⟩, by simp, by omega, by omega, hm⟩⟩
end Go.Proofs.YtmalhikcdideoaaDoor

set_option linter.unusedVariables false
set_option linter.unusedSimpArgs false
namespace Go.Proofs.YtmalhikcdideoaaDoor
open Go Sl
attribute [local irreducible] XRange LpQ XR XRo XRg XRQ putQ XFv XL XW2 wQ putW X XO XOp XH XHo XW SeqQ BlkQ XOQ XHQ NrmQ XC XM XG XHM XHG XD CallK
open Go.RowKit
theorem strict_unique {α : Type} (lt : α → α → Prop) (irr : ∀ a, ¬ lt a a) (tr : ∀ a b c, lt a b → lt b c → lt a c) : ∀ l m : List α, l.Pairwise lt → m.Pairwise lt → (∀ x, x ∈ l ↔ x ∈ m) → l = m
  | [], [], _, _, _ => rfl
  | [], y :: m, _, _, h => by have := (h y).2 (List.mem_cons_self ..); cases this
  | x :: l, [], _, _, h => by have := (h x).1 (List.mem_cons_self ..); cases this
  | x :: l, y :: m, hl, hm, h => by
    obtain ⟨l1, l2⟩ := List.pairwise_cons.1 hl
    obtain ⟨m1, m2⟩ := List.pairwise_cons.1 hm
    have hxy : x = y := by
      rcases List.mem_cons.1 ((h x).1 (List.mem_cons_self ..)) with e | e
      · exact e
      · rcases List.mem_cons.1 ((h y).2 (List.mem_cons_self ..)) with f | f
        · exact f.symm
        · exact absurd (tr _ _ _ (m1 x e) (l1 y f)) (irr _)
    subst hxy
    congr 1
    refine strict_unique lt irr tr l m l2 m2 fun z => ⟨fun hz => ?_, fun hz => ?_⟩
    · rcases List.mem_cons.1 ((h z).1 (List.mem_cons_of_mem _ hz)) with e | e
      · exact absurd (e ▸ l1 z hz) (irr _)
      · exact e
    · rcases List.mem_cons.1 ((h z).2 (List.mem_cons_of_mem _ hz)) with e | e
      · exact absurd (e ▸ m1 z hz) (irr _)
      · exact e
abbrev Bs := List UInt8
def leB (x y : Bs) : Bool := decide (x ≤ y)
def ltB (x y : Bs) : Prop := x ≤ y ∧ x ≠ y
theorem leB_trans (a b c : Bs) (h1 : leB a b = true) (h2 : leB b c = true) : leB a c = true := by
  simp only [leB, decide_eq_true_eq] at *
  exact List.le_trans h1 h2
theorem leB_total (a b : Bs) : (leB a b || leB b a) = true := by
  simp only [leB, Bool.or_eq_true, decide_eq_true_eq]
  exact List.le_total a b
theorem ltB_trans (a b c : Bs) (h1 : ltB a b) (h2 : ltB b c) : ltB a c := by
  refine ⟨List.le_trans h1.1 h2.1, fun e => ?_⟩
  subst e
  exact h1.2 (List.le_antisymm h1.1 h2.1)
theorem ltB_irr (a : Bs) : ¬ ltB a a := fun h => h.2 rfl
theorem sorted_of (zs : List Bs) : (zs.mergeSort fun x y => decide (x ≤ y)).Pairwise fun x y => x ≤ y := by
  have := List.pairwise_mergeSort (le := leB) leB_trans leB_total zs
  refine List.Pairwise.imp (fun {a b} h => ?_) this
  simpa [leB] using h
theorem sort_nodup {zs : List Bs} (h : zs.Nodup) : (zs.mergeSort fun x y => decide (x ≤ y)).Pairwise ltB := by
  have h1 := sorted_of zs
  have h2 : (zs.mergeSort fun x y => decide (x ≤ y)).Nodup := (List.mergeSort_perm zs _).symm.nodup h
  exact (List.Pairwise.and h1 h2)
theorem compact_mem (zs : List Bs) (s : Bs) : s ∈ Lib.compact zs ↔ s ∈ zs := by
  unfold Lib.compact Lib.compactUpTo
  rw [List.mem_map]
  constructor
  · rintro ⟨j, hj, rfl⟩
    rw [List.mem_filter, List.mem_range] at hj
    have h1 : j < zs.toArray.size := by simpa using hj.1
    rw [getElem!_pos zs.toArray j h1]
    simp
  · intro hs
    obtain ⟨j, hj, hjs⟩ := List.getElem_of_mem hs
    have key : ∀ n : Nat, ∀ hn : n < zs.length, zs[n] = s → ∃ a, a ∈ List.filter (Lib.keeps zs.toArray) (List.range zs.length) ∧ zs.toArray[a]! = s := by
      intro n
      induction n with
      | zero =>
        intro hn hns
        refine ⟨0, ?_, ?_⟩
        · rw [List.mem_filter, List.mem_range]; exact ⟨hn, by simp [Lib.keeps]⟩
        · rw [getElem!_pos zs.toArray 0 (by simpa using hn)]; simpa using hns
      | succ n ih =>
        intro hn hns
        by_cases hk : Lib.keeps zs.toArray (n + 1) = true
        · refine ⟨n + 1, ?_, ?_⟩
          · rw [List.mem_filter, List.mem_range]; exact ⟨hn, hk⟩
          · rw [getElem!_pos zs.toArray (n + 1) (by simpa using hn)]; simpa using hns
        · refine ih (by omega) ?_
          unfold Lib.keeps at hk
          rw [getElem!_pos zs.toArray (n + 1) (by simpa using hn), getElem!_pos zs.toArray (n + 1 - 1) (by simp; omega)] at hk
          simp at hk
          rw [← hk]; exact hns
    exact key j hj hjs
theorem compact_strict (zs : List Bs) (h : zs.Pairwise fun x y => x ≤ y) : (Lib.compact zs).Pairwise ltB := by
  unfold Lib.compact Lib.compactUpTo
  rw [List.pairwise_map]
  have h1 : (List.filter (Lib.keeps zs.toArray) (List.range zs.length)).Pairwise fun i j => i < j ∧ j < zs.length ∧ Lib.keeps zs.toArray j = true := by
    have h2 : (List.filter (Lib.keeps zs.toArray) (List.range zs.length)).Pairwise (· < ·) := List.Pairwise.filter _ List.pairwise_lt_range
    refine List.Pairwise.imp_of_mem (fun {a b} _ hb hab => ?_) h2
    rw [List.mem_filter, List.mem_range] at hb
    exact ⟨hab, hb.1, hb.2⟩
  refine List.Pairwise.imp (fun {i j} hij => ?_) h1
  obtain ⟨hij, hj, hk⟩ := hij
  have hle : ∀ a b, a ≤ b → ∀ hb : b < zs.length, ∀ ha : a < zs.length, zs[a] ≤ zs[b] := fun a b hab hb ha => by
    rcases Nat.lt_or_ge a b with hlt | hge
    · exact List.pairwise_iff_getElem.1 h a b ha hb hlt
    · obtain rfl : a = b := by omega
      exact List.le_refl _
  rw [getElem!_pos zs.toArray i (by simp; omega), getElem!_pos zs.toArray j (by simpa using hj)]
  unfold Lib.keeps at hk
  rw [getElem!_pos zs.toArray j (by simpa using hj), getElem!_pos zs.toArray (j - 1) (by simp; omega)] at hk
  simp only [List.getElem_toArray, decide_eq_true_eq] at hk ⊢
  have hk' : zs[j] ≠ zs[j - 1] := hk.resolve_left (by omega)
  refine ⟨hle i j (by omega) hj (by omega), fun e => hk' ?_⟩
  have a1 := hle i (j - 1) (by omega) (by omega) (by omega)
  have a2 := hle (j - 1) j (by omega) hj (by omega)
  rw [e] at a1
  exact List.le_antisymm a1 a2
/-- The names of a set, sorted, are those of a list, sorted, without repetitions. -/
theorem sort_compact (O L : List Bs) (hO : O.Nodup) (h : ∀ s, s ∈ O ↔ s ∈ L) : (O.mergeSort fun x y => decide (x ≤ y)) = Lib.compact (L.mergeSort fun x y => decide (x ≤ y)) := by
  refine strict_unique ltB ltB_irr ltB_trans _ _ (sort_nodup hO) (compact_strict _ (sorted_of L)) fun x => ?_
  rw [compact_mem, List.mem_mergeSort, List.mem_mergeSort]
  exact h x
def tB (b : ByteArray) : Bs := b.data.toList
theorem tB_inj {a b : ByteArray} (h : tB a = tB b) : a = b := by
  apply ByteArray.ext
  exact Array.toList_inj.1 h
def sortB (l : List ByteArray) : List ByteArray := ((l.map tB).mergeSort fun x y => decide (x ≤ y)).map bOf
def compB (l : List ByteArray) : List ByteArray := (Lib.compact (l.map tB)).map bOf
theorem tB_bOf (l : Bs) : tB (bOf l) = l := rfl
theorem names_same (O L : List ByteArray) (hO : O.Nodup) (h : ∀ s, s ∈ O ↔ s ∈ L) : sortB O = compB (sortB L) := by
  unfold sortB compB
  rw [List.map_map, show (tB ∘ bOf) = id from funext tB_bOf, List.map_id]
  congr 1
  refine sort_compact _ _ ?_ fun s => ?_
  · rw [List.nodup_iff_pairwise_ne, List.pairwise_map]
    exact List.Pairwise.imp (fun {a b} hab e => hab (tB_inj e)) (List.nodup_iff_pairwise_ne.1 hO)
  · simp only [List.mem_map]
    exact ⟨fun ⟨a, ha, e⟩ => ⟨a, (h a).1 ha, e⟩, fun ⟨a, ha, e⟩ => ⟨a, (h a).2 ha, e⟩⟩
/-- The names of nodes with operations. -/
def namesF (p : Int → Bool) (e : List Nd) : List ByteArray := (e.filter fun x => p x.op).map (·.nm)
end Go.Proofs.YtmalhikcdideoaaDoor

namespace Go.Proofs
open Go.Shelf
def Tryd.laysM171_ren : Go.Shelf.Ren := ⟨fun | 171 => 98 | 243 => 124 | 246 => 140 | 283 => 149 | 284 => 150 | 285 => 151 | 286 => 152 | 129 => 136 | 317 => 154 | 318 => 155 | 319 => 156 | 320 => 157 | 337 => 158 | 338 => 159 | n => n, fun | 3 => 3 | 9 => 9 | 2 => 2 | 4 => 4 | 171 => 203 | 0 => 0 | 53 => 188 | 37 => 97 | 5 => 5 | 173 => 205 | 212 => 210 | 51 => 136 | 20 => 20 | 213 => 211 | 46 => 139 | 232 => 212 | 233 => 213 | n => n, fun | 17 => 5 | 18 => 6 | 19 => 7 | n => n⟩
theorem Tryd.laysM171 : Go.Proofs.LaysM.n171 Tryd.prog Tryd.laysM171_ren := {
  mixed := by kernel_rfl
  f129 := Tryd.func136.trans (congrArg some (by kernel_rfl))
  f171 := Tryd.func98.trans (congrArg some (by kernel_rfl))
  f243 := Tryd.func124.trans (congrArg some (by kernel_rfl))
  f246 := Tryd.func140.trans (congrArg some (by kernel_rfl))
  f283 := Tryd.func149.trans (congrArg some (by kernel_rfl))
  f284 := Tryd.func150.trans (congrArg some (by kernel_rfl))
  f285 := Tryd.func151.trans (congrArg some (by kernel_rfl))
  f286 := Tryd.func152.trans (congrArg some (by kernel_rfl))
  f317 := Tryd.func154.trans (congrArg some (by kernel_rfl))
  f318 := Tryd.func155.trans (congrArg some (by kernel_rfl))
  f319 := Tryd.func156.trans (congrArg some (by kernel_rfl))
  f320 := Tryd.func157.trans (congrArg some (by kernel_rfl))
  f337 := Tryd.func158.trans (congrArg some (by kernel_rfl))
  f338 := Tryd.func159.trans (congrArg some (by kernel_rfl))
  t0 := Tryd.underlying0
  a0 := Tryd.isAgg0
  z0 := Tryd.sizeOf0
  v0 := Tryd.zeroValue0
  t2 := Tryd.underlying2
  a2 := Tryd.isAgg2
  z2 := Tryd.sizeOf2
  v2 := Tryd.zeroValue2
  t3 := Tryd.underlying3
  a3 := Tryd.isAgg3
  z3 := Tryd.sizeOf3
  v3 := Tryd.zeroValue3
  t4 := Tryd.underlying4
  a4 := Tryd.isAgg4
  z4 := Tryd.sizeOf4
  v4 := Tryd.zeroValue4
  t5 := Tryd.underlying5
  a5 := Tryd.isAgg5
  z5 := Tryd.sizeOf5
  v5 := Tryd.zeroValue5
  t9 := Tryd.underlying9
  a9 := Tryd.isAgg9
  z9 := Tryd.sizeOf9
  v9 := Tryd.zeroValue9
  t20 := Tryd.underlying20
  a20 := Tryd.isAgg20
  z20 := Tryd.sizeOf20
  v20 := Tryd.zeroValue20
  t37 := Tryd.underlying97
  a37 := Tryd.isAgg97
  z37 := Tryd.sizeOf97
  v37 := Tryd.zeroValue97
  t46 := Tryd.underlying139
  a46 := Tryd.isAgg139
  z46 := Tryd.sizeOf139
  v46 := Tryd.zeroValue139
  t51 := Tryd.underlying136
  a51 := Tryd.isAgg136
  z51 := Tryd.sizeOf136
  v51 := Tryd.zeroValue136
  t53 := Tryd.underlying188
  a53 := Tryd.isAgg188
  z53 := Tryd.sizeOf188
  v53 := Tryd.zeroValue188
  t171 := Tryd.underlying203
  a171 := Tryd.isAgg203
  z171 := Tryd.sizeOf203
  v171 := Tryd.zeroValue203
  t173 := Tryd.underlying205
  a173 := Tryd.isAgg205
  z173 := Tryd.sizeOf205
  v173 := Tryd.zeroValue205
  t212 := Tryd.underlying210
  a212 := Tryd.isAgg210
  z212 := Tryd.sizeOf210
  v212 := Tryd.zeroValue210
  t213 := Tryd.underlying211
  a213 := Tryd.isAgg211
  z213 := Tryd.sizeOf211
  t232 := Tryd.underlying212
  a232 := Tryd.isAgg212
  z232 := Tryd.sizeOf212
  v232 := Tryd.zeroValue212
  t233 := Tryd.underlying213
  a233 := Tryd.isAgg213
  z233 := Tryd.sizeOf213
  v233 := Tryd.zeroValue213
  g17 := by kernel_rfl
  g18 := by kernel_rfl
  g19 := by kernel_rfl
  i0 := by kernel_rfl
  i2 := by kernel_rfl
  i3 := by kernel_rfl
  i4 := by kernel_rfl
  i5 := by kernel_rfl
  i9 := by kernel_rfl
  i20 := by kernel_rfl
  i37 := by kernel_rfl
  i46 := by kernel_rfl
  i51 := by kernel_rfl
  i53 := by kernel_rfl
  i171 := by kernel_rfl
  i173 := by kernel_rfl
  i212 := by kernel_rfl
  i232 := by kernel_rfl
  i233 := by kernel_rfl
  m17 := by kernel_rfl
  m18 := by kernel_rfl
  m19 := by kernel_rfl }
def Tryd.lays190_ren : Go.Shelf.Ren := ⟨fun | 190 => 79 | 125 => 112 | 258 => 111 | 128 => 135 | 129 => 136 | 302 => 127 | 303 => 128 | 304 => 129 | 305 => 130 | 306 => 131 | 307 => 132 | 308 => 87 | 309 => 133 | 310 => 134 | 333 => 141 | 329 => 142 | 330 => 143 | 334 => 144 | 335 => 145 | 336 => 116 | 344 => 153 | n => n, fun | 31 => 33 | 9 => 9 | 3 => 3 | 46 => 139 | 0 => 0 | 51 => 136 | 53 => 188 | 4 => 4 | 183 => 181 | 182 => 180 | 131 => 89 | 5 => 5 | 218 => 193 | 222 => 197 | 228 => 207 | 229 => 80 | n => n, fun | n => n⟩
theorem Tryd.lays190 : Go.Proofs.Lays.n190 Tryd.prog Tryd.lays190_ren := {
  mixed := by kernel_rfl
  f125 := Tryd.func112.trans (congrArg some (by kernel_rfl))
  f128 := Tryd.func135.trans (congrArg some (by kernel_rfl))
  f129 := Tryd.func136.trans (congrArg some (by kernel_rfl))
  f190 := Tryd.func79.trans (congrArg some (by kernel_rfl))
  f258 := Tryd.func111.trans (congrArg some (by kernel_rfl))
  f302 := Tryd.func127.trans (congrArg some (by kernel_rfl))
  f303 := Tryd.func128.trans (congrArg some (by kernel_rfl))
  f304 := Tryd.func129.trans (congrArg some (by kernel_rfl))
  f305 := Tryd.func130.trans (congrArg some (by kernel_rfl))
  f306 := Tryd.func131.trans (congrArg some (by kernel_rfl))
  f307 := Tryd.func132.trans (congrArg some (by kernel_rfl))
  f308 := Tryd.func87.trans (congrArg some (by kernel_rfl))
  f309 := Tryd.func133.trans (congrArg some (by kernel_rfl))
  f310 := Tryd.func134.trans (congrArg some (by kernel_rfl))
  f329 := Tryd.func142.trans (congrArg some (by kernel_rfl))
  f330 := Tryd.func143.trans (congrArg some (by kernel_rfl))
  f333 := Tryd.func141.trans (congrArg some (by kernel_rfl))
  f334 := Tryd.func144.trans (congrArg some (by kernel_rfl))
  f335 := Tryd.func145.trans (congrArg some (by kernel_rfl))
  f336 := Tryd.func116.trans (congrArg some (by kernel_rfl))
  f344 := Tryd.func153.trans (congrArg some (by kernel_rfl))
  t0 := Tryd.underlying0
  a0 := Tryd.isAgg0
  z0 := Tryd.sizeOf0
  v0 := Tryd.zeroValue0
  t3 := Tryd.underlying3
  a3 := Tryd.isAgg3
  z3 := Tryd.sizeOf3
  v3 := Tryd.zeroValue3
  t4 := Tryd.underlying4
  a4 := Tryd.isAgg4
  z4 := Tryd.sizeOf4
  v4 := Tryd.zeroValue4
  t5 := Tryd.underlying5
  a5 := Tryd.isAgg5
  z5 := Tryd.sizeOf5
  v5 := Tryd.zeroValue5
  t9 := Tryd.underlying9
  a9 := Tryd.isAgg9
  z9 := Tryd.sizeOf9
  v9 := Tryd.zeroValue9
  t31 := Tryd.underlying33
  a31 := Tryd.isAgg33
  z31 := Tryd.sizeOf33
  v31 := Tryd.zeroValue33
  t46 := Tryd.underlying139
  a46 := Tryd.isAgg139
  z46 := Tryd.sizeOf139
  v46 := Tryd.zeroValue139
  t51 := Tryd.underlying136
  a51 := Tryd.isAgg136
  z51 := Tryd.sizeOf136
  v51 := Tryd.zeroValue136
  t53 := Tryd.underlying188
  a53 := Tryd.isAgg188
  z53 := Tryd.sizeOf188
  v53 := Tryd.zeroValue188
  t131 := Tryd.underlying89
  a131 := Tryd.isAgg89
  z131 := Tryd.sizeOf89
  v131 := Tryd.zeroValue89
  t182 := Tryd.underlying180
  a182 := Tryd.isAgg180
  z182 := Tryd.sizeOf180
  v182 := Tryd.zeroValue180
  t183 := Tryd.underlying181
  a183 := Tryd.isAgg181
  z183 := Tryd.sizeOf181
  v183 := Tryd.zeroValue181
  t218 := Tryd.underlying193
  a218 := Tryd.isAgg193
  z218 := Tryd.sizeOf193
  v218 := Tryd.zeroValue193
  t222 := Tryd.underlying197
  a222 := Tryd.isAgg197
  z222 := Tryd.sizeOf197
  v222 := Tryd.zeroValue197
  t228 := Tryd.underlying207
  a228 := Tryd.isAgg207
  z228 := Tryd.sizeOf207
  v228 := Tryd.zeroValue207
  t229 := Tryd.underlying80
  a229 := Tryd.isAgg80
  z229 := Tryd.sizeOf80
  v229 := Tryd.zeroValue80 }
end Go.Proofs

namespace Go.Proofs
open Go.Shelf
def Tryd.lays194_ren : Go.Shelf.Ren := ⟨fun | 194 => 80 | n => n, fun | 31 => 33 | 9 => 9 | 3 => 3 | 4 => 4 | 0 => 0 | n => n, fun | n => n⟩
theorem Tryd.lays194 : Go.Proofs.Lays.n194 Tryd.prog Tryd.lays194_ren := {
  mixed := by kernel_rfl
  f194 := Tryd.func80.trans (congrArg some (by kernel_rfl))
  t0 := Tryd.underlying0
  a0 := Tryd.isAgg0
  z0 := Tryd.sizeOf0
  v0 := Tryd.zeroValue0
  t3 := Tryd.underlying3
  a3 := Tryd.isAgg3
  z3 := Tryd.sizeOf3
  v3 := Tryd.zeroValue3
  t4 := Tryd.underlying4
  a4 := Tryd.isAgg4
  z4 := Tryd.sizeOf4
  v4 := Tryd.zeroValue4
  t9 := Tryd.underlying9
  a9 := Tryd.isAgg9
  z9 := Tryd.sizeOf9
  v9 := Tryd.zeroValue9
  t31 := Tryd.underlying33
  a31 := Tryd.isAgg33
  z31 := Tryd.sizeOf33
  v31 := Tryd.zeroValue33 }
end Go.Proofs

set_option linter.unusedVariables false
set_option linter.unusedSimpArgs false
namespace Go.Proofs.YtmalhikcdideoaaDoor
open Go Sl
attribute [local irreducible] XRange LpQ XR XRo XRg XRQ putQ XFv XL XW2 wQ putW X XO XOp XH XHo XW SeqQ BlkQ XOQ XHQ NrmQ XC XM XG XHM XHG XD CallK
open Go.RowKit
theorem vals_a {w : World} {h : Hp} {a : AV} {vals : Array Value} (ha : RdL w h [a] vals) : ∃ u, vals = #[u] ∧ Rd w h a u := by
  obtain ⟨u, e, r⟩ := ha.2 0 _ rfl
  refine ⟨u, ?_, r⟩
  have h1 := ha.1
  apply Array.ext
  · simpa using h1
  · intro i h2 h3
    match i, h3 with
    | 0, _ => rw [Array.getElem?_eq_getElem h2] at e; simpa using e
/-- An own row is written by a callee that is not of this layer. -/
theorem put_rel {w w' : World} {h : Hp} {b : Nat} {o : Ob} {c c' : Array Value} (hh : RelH w h) (hb : h b = some o) (hs : 0 < o.s) (hc : w.heap[b]? = some (.cells c o.ty (0, 0))) (hsz : w.heap.size ≤ w'.heap.size)
    (hoth : ∀ k, k < w.heap.size → k ≠ b → w'.heap[k]? = w.heap[k]?) (hb' : w'.heap[b]? = some (.cells c' o.ty (0, 0))) (hcs : c'.size = c.size) (hn : o.n * o.s ≤ c.size) (f' : Nat → Nat → AV)
    (hf : ∀ i, i < o.n → ∀ j, j < o.s → ∃ x, c'[i * o.s + j]? = some x ∧ x.oneCell' = true ∧ ∀ (w'' : World) (h'' : Hp), Rd w'' h'' (f' i j) x) :
    Stp w h w' (upd h b (some { o with f := f' })) ∧ RelH w' (upd h b (some { o with f := f' })) := by
  have st : Stp w h w' (upd h b (some { o with f := f' })) := by
    refine ⟨hsz, fun k hk hn => hoth k hk (fun e => by subst e; rw [hb] at hn; cases hn), fun k hk hn => ?_, fun k o' hk ho' => ?_⟩
    · rw [upd_ne _ _ (fun e => by subst e; rw [hb] at hn; cases hn)]; exact hn
    · by_cases hkb : k = b
      · subst hkb
        rw [upd_same] at ho'
        cases ho'
        exact ⟨o, hb, rfl, fun c2 fr h2 => by rw [hc] at h2; cases h2; exact ⟨c', (0, 0), hb', hcs⟩⟩
      · rw [upd_ne _ _ hkb] at ho'
        exact ⟨o', ho', rfl, fun c2 fr h2 => ⟨c2, fr, (hoth k hk hkb).trans h2, rfl⟩⟩
  refine ⟨st, fun k ok hk => ?_, hh.glob.step st⟩
  by_cases hkb : k = b
  · subst hkb
    rw [upd_same] at hk
    cases hk
    unfold HeldH
    rw [if_neg (by simp; omega)]
    exact ⟨c', hb', by rw [hcs]; exact hn, hs, fun i hi j hj => by obtain ⟨x, h1, h2, h3⟩ := hf i hi j hj; exact ⟨x, h1, h2, h3 _ _⟩⟩
  · rw [upd_ne _ _ hkb] at hk
    exact (hh.own k ok hk).step st (hoth k (hh.lt hk) hkb)
/-- The cells of a row of texts. -/
theorem row_holds {w : World} {h : Hp} {b : Nat} {o : Ob} {l : List ByteArray} (hh : RelH w h) (hb : h b = some o) (o1 : o.s = 1) (on : o.n = l.length) (hf : ∀ i, i < l.length → o.f i 0 = cellsL cS l i 0) :
    ∃ c, w.heap[b]? = some (.cells c o.ty (0, 0)) ∧ l.length ≤ c.size ∧ Go.Sort.Holds encStr w b 0 (l.map tB).toArray := by
  have hx := hh.own b o hb
  unfold HeldH at hx
  rw [if_neg (by omega)] at hx
  obtain ⟨c, hc, hn, _, hcell⟩ := hx
  rw [o1, on, Nat.mul_one] at hn
  refine ⟨c, hc, hn, fun j hj => ?_⟩
  have hj' : j < l.length := by simpa using hj
  have hlj : l[j]? = some l[j] := List.getElem?_eq_getElem hj'
  obtain ⟨x, h1, _, h3⟩ := hcell j (by omega) 0 (by omega)
  rw [hf j hj', cellsL_at hlj] at h3
  obtain rfl : x = .string l[j] := h3
  rw [o1, Nat.mul_one, Nat.add_zero] at h1
  refine ⟨?_, ?_⟩
  · rw [Nat.zero_add]
    unfold World.cell?
    simp only [hc]
    rw [h1, getElem!_pos _ j hj]
    simp [tB, encStr]
  · unfold World.frozen?
    simp only [hc]
    simp
theorem put_heap {w : World} {b q : Nat} {c : Array Value} {ty : TypeId} {d : Array Bs} (hc : w.heap[b]? = some (.cells c ty (0, 0))) (os : Array Obj) :
    (Go.Sort.grow (Go.Sort.putRow encStr (Go.Sort.ahead w q) b 0 d) os).heap[b]? = some (.cells (Go.Sort.putCells encStr 0 d c) ty (0, 0)) ∧
    w.heap.size ≤ (Go.Sort.grow (Go.Sort.putRow encStr (Go.Sort.ahead w q) b 0 d) os).heap.size ∧
    ∀ k, k < w.heap.size → k ≠ b → (Go.Sort.grow (Go.Sort.putRow encStr (Go.Sort.ahead w q) b 0 d) os).heap[k]? = w.heap[k]? := by
  have hblt : b < w.heap.size := (Array.getElem?_eq_some_iff.1 hc).1
  have hsz : (Go.Sort.putRow encStr (Go.Sort.ahead w q) b 0 d).heap.size = w.heap.size := by rw [Go.Sort.size_putRow]; rfl
  have hold : ∀ k, k < w.heap.size → (Go.Sort.grow (Go.Sort.putRow encStr (Go.Sort.ahead w q) b 0 d) os).heap[k]? = (Go.Sort.putRow encStr (Go.Sort.ahead w q) b 0 d).heap[k]? := fun k hk => by
    unfold Go.Sort.grow
    rw [Array.getElem?_append_left (by rw [hsz]; exact hk)]
  have hah : (Go.Sort.ahead w q).heap = w.heap := rfl
  refine ⟨?_, ?_, fun k hk hkb => ?_⟩
  · rw [hold b hblt]
    unfold Go.Sort.putRow Go.Sort.mapBlock
    simp only [hah, Array.getElem?_modify, if_true, hc, Option.map_some, Go.Sort.onCells]
  · unfold Go.Sort.grow
    simp only [Array.size_append]
    rw [hsz]; omega
  · rw [hold k hk]
    unfold Go.Sort.putRow Go.Sort.mapBlock
    simp only [hah, Array.getElem?_modify, if_neg (Ne.symm hkb)]
theorem putCells_at {c : Array Value} {d : Array Bs} {j : Nat} (h1 : j < d.size) (h2 : d.size ≤ c.size) : (Go.Sort.putCells encStr 0 d c)[j]? = some (encStr d[j]) := by
  unfold Go.Sort.putCells
  rw [Array.getElem?_mapIdx, Array.getElem?_eq_getElem (by omega), Option.map_some, if_pos (by omega), Nat.sub_zero, getElem!_pos d j h1]
set_option maxHeartbeats 2000000 in
/-- slices.Sort on an own row of texts. -/
theorem sort_row {h : Hp} {b : Nat} {o : Ob} (l : List ByteArray) (hl : l.length ≤ 1000000000000) (hb : h b = some o) (o1 : o.s = 1) (on : o.n = l.length) (hf : ∀ i, i < l.length → o.f i 0 = cellsL cS l i 0) :
    CallK Tryd.prog h 79 [.row b 1 0 l.length] fun r h' => r = un ∧ h' = upd h b (some { o with f := cellsL cS (sortB l) }) := by
  unfold CallK
  intro w vals hh ha
  obtain ⟨u, rfl, cap, rfl, hcap, hblt, hmx, hrow⟩ := vals_a ha
  obtain ⟨c, hc, hn, hH⟩ := row_holds hh hb o1 on hf
  have hlen : (l.map tB).length = l.length := by simp
  have hg := Any.slices_Sort_string Tryd.lays190 b 0 cap (l.map tB) w hH hblt (by rw [hlen]; omega)
  rw [hlen] at hg
  rw [Nat.zero_mul]
  refine hg.mono ?_
  rintro e w' ⟨rfl, q, os, rfl⟩
  obtain ⟨p1, p2, p3⟩ := put_heap (q := q) (d := ((l.map tB).mergeSort fun x y => decide (x ≤ y)).toArray) hc os
  have hds : ((l.map tB).mergeSort fun x y => decide (x ≤ y)).toArray.size = l.length := by simp
  obtain ⟨st, rh⟩ := put_rel hh hb (by omega) hc p2 p3 p1 (by simp [Go.Sort.putCells]) (by rw [o1, on]; omega) (cellsL cS (sortB l)) (fun i hi j hj => by
    obtain rfl : j = 0 := by omega
    rw [on] at hi
    have hsl : (sortB l).length = l.length := by simp [sortB]
    have hx : (sortB l)[i]? = some (sortB l)[i] := List.getElem?_eq_getElem (by omega)
    refine ⟨_, by rw [o1, Nat.mul_one, Nat.add_zero]; exact putCells_at (by omega) (by omega), rfl, fun w'' h'' => ?_⟩
    rw [cellsL_at hx]
    show _ = Value.string (sortB l)[i]
    simp [sortB, encStr, bOf])
  exact ⟨_, _, _, rfl, ⟨rfl, rfl⟩, rfl, rh, ⟨rfl, rfl, rfl⟩, st⟩
set_option maxHeartbeats 2000000 in
/-- slices.Compact on an own row of texts: the first part of the row. -/
theorem compact_row {h : Hp} {b : Nat} {o : Ob} (l : List ByteArray) (hl : l.length ≤ 1000000000000) (hb : h b = some o) (o1 : o.s = 1) (on : o.n = l.length) (hf : ∀ i, i < l.length → o.f i 0 = cellsL cS l i 0) :
    CallK Tryd.prog h 80 [.row b 1 0 l.length] fun r h' => r = .row b 1 0 (compB l).length ∧ ∃ f', h' = upd h b (some { o with f := f' }) ∧ (compB l).length ≤ o.n ∧ ∀ i, i < (compB l).length → f' i 0 = cellsL cS (compB l) i 0 := by
  unfold CallK
  intro w vals hh ha
  obtain ⟨u, rfl, cap, rfl, hcap, hblt, hmx, hrow⟩ := vals_a ha
  obtain ⟨c, hc, hn, hH⟩ := row_holds hh hb o1 on hf
  have hlen : (l.map tB).length = l.length := by simp
  have hg := Any.slices_Compact_string Tryd.lays194 b 0 cap (l.map tB) w hH (by rw [hlen]; omega) (by rw [hlen]; exact hcap)
  rw [hlen] at hg
  rw [Nat.zero_mul]
  refine hg.mono ?_
  rintro e w' ⟨rfl, q, rfl⟩
  have hcl : (Lib.compact (l.map tB)).length ≤ l.length := by
    unfold Lib.compact Lib.compactUpTo
    rw [List.length_map, hlen]
    exact Nat.le_trans (List.length_filter_le ..) (by simp)
  have hcb : (compB l).length = (Lib.compact (l.map tB)).length := by simp [compB]
  have hgr : ∀ W : World, W = Go.Sort.grow W #[] := fun W => (Go.Sort.grow_empty W).symm
  obtain ⟨p1, p2, p3⟩ := put_heap (q := q) (d := (Lib.compact (l.map tB) ++ List.replicate (l.length - (Lib.compact (l.map tB)).length) []).toArray) hc #[]
  rw [← hgr] at p1 p2 p3
  have hds : (Lib.compact (l.map tB) ++ List.replicate (l.length - (Lib.compact (l.map tB)).length) []).toArray.size = l.length := by simp; omega
  obtain ⟨st, rh⟩ := put_rel hh hb (by omega) hc p2 p3 p1 (by simp [Go.Sort.putCells]) (by rw [o1, on]; omega) (fun i _ => S (bOf ((Lib.compact (l.map tB) ++ List.replicate (l.length - (Lib.compact (l.map tB)).length) []).getD i []))) (fun i hi j hj => by
    obtain rfl : j = 0 := by omega
    rw [on] at hi
    refine ⟨_, by rw [o1, Nat.mul_one, Nat.add_zero]; exact putCells_at (by omega) (by omega), rfl, fun w'' h'' => ?_⟩
    show _ = Value.string (bOf _)
    rw [List.getD_eq_getElem?_getD, List.getElem?_eq_getElem (by rw [List.size_toArray] at hds; omega)]
    simp [encStr, bOf])
  refine ⟨_, _, _, rfl, ⟨rfl, _, rfl, by omega, fun i hi => ?_⟩, ?_, rh, ⟨rfl, rfl, rfl⟩, st⟩
  · have hx : (compB l)[i]? = some (compB l)[i] := List.getElem?_eq_getElem hi
    rw [cellsL_at hx]
    simp only [compB, List.length_map] at hi
    show S (bOf _) = S _
    rw [List.getD_eq_getElem?_getD, List.getElem?_append_left hi, List.getElem?_eq_getElem hi]
    simp [compB]
  · refine ⟨cap, by rw [hcb, Nat.zero_mul], by omega, Nat.lt_of_lt_of_le hblt p2, hmx, fun o' ho' => ?_⟩
    rw [upd_same] at ho'
    cases ho'
    obtain ⟨c2, fr2, e1, e2⟩ := hrow o hb
    rw [hc] at e1
    cases e1
    exact ⟨_, _, p1, by rw [← e2]; simp [Go.Sort.putCells]⟩
/-- slices.Compact on an empty slice. -/
theorem compact_none (h : Hp) : CallK Tryd.prog h 80 [.v (.slice none 0 0)] fun r h' => r = .v (.slice none 0 0) ∧ h' = h := by
  unfold CallK
  intro w vals hh ha
  obtain ⟨_, rfl, rfl⟩ := vals_a ha
  refine (Any.slices_Compact_string_empty Tryd.lays194 none 0 w).mono ?_
  rintro e w' ⟨rfl, rfl⟩
  exact ⟨_, _, h, rfl, ⟨rfl, rfl⟩, rfl, hh, ⟨rfl, rfl, rfl⟩, Stp.refl _ _⟩
theorem compact_e0 (h : Hp) : CallK Tryd.prog h 80 [.e0] fun r h' => r = .e0 ∧ h' = h := by
  unfold CallK
  intro w vals hh ha
  obtain ⟨u, rfl, A, rfl⟩ := vals_a ha
  refine (Any.slices_Compact_string_empty Tryd.lays194 A 0 w).mono ?_
  rintro e w' ⟨rfl, rfl⟩
  exact ⟨_, _, h, rfl, ⟨rfl, rfl⟩, ⟨A, rfl⟩, hh, ⟨rfl, rfl, rfl⟩, Stp.refl _ _⟩
end Go.Proofs.YtmalhikcdideoaaDoor

set_option linter.unusedVariables false
set_option linter.unusedSimpArgs false
namespace Go.Proofs.YtmalhikcdideoaaDoor
open Go Sl
attribute [local irreducible] XRange LpQ XR XRo XRg XRQ putQ XFv XL XW2 wQ putW X XO XOp XH XHo XW SeqQ BlkQ XOQ XHQ NrmQ XC XM XG XHM XHG XD CallK
open Go.RowKit
open Classical in
/-- The heap without a slice of the call's own. -/
theorem own_hole {h0 h : Hp} {a : AV} {e : TypeId} {s n : Nat} {f : Nat → Nat → AV} (oa : Own h0 h a e s n f) : ∃ H : Hp, Own H h a e s n f ∧ Sub h0 H ∧ ∀ d od, h d = some od → a ≠ .row d s 0 n → H d = some od := by
  have hH : ∀ c oc, h0 c = some oc → ¬ a = .row c s 0 n := fun c oc hc ha => by
    rcases oa.2 with ⟨_, h1 | h1⟩ | ⟨gb, og, h1, h2, _⟩
    · rw [ha] at h1; cases h1
    · rw [ha] at h1; cases h1
    · rw [ha] at h1; cases h1; rw [hc] at h2; cases h2
  refine ⟨fun c => if a = .row c s 0 n then Option.none else h c, ⟨fun c oc hc => ?_, ?_⟩, fun c oc hc => ?_, fun d od hd hne => ?_⟩
  · simp only at hc
    split at hc
    · cases hc
    · exact hc
  · rcases oa.2 with h1 | ⟨gb, og, h1, h2, h3⟩
    · exact .inl h1
    · exact .inr ⟨gb, og, h1, by simp only [h1, if_true], h3⟩
  · simp only [if_neg (hH c oc hc)]
    exact oa.1 c oc hc
  · simp only [if_neg hne]
    exact hd
theorem own_up {h0 H h1 : Hp} {a : AV} {e : TypeId} {s n : Nat} {f : Nat → Nat → AV} (hS : Sub h0 H) (o : Own H h1 a e s n f) : Own h0 h1 a e s n f := by
  refine ⟨hS.trans o.1, ?_⟩
  rcases o.2 with h1 | ⟨gb, og, h1, h2, h3⟩
  · exact .inl h1
  · refine .inr ⟨gb, og, h1, ?_, h3⟩
    cases hx : h0 gb with
    | none => rfl
    | some oc => have := hS gb oc hx; rw [h2] at this; cases this
/-- Another slice is left alone. -/
theorem own_keep {h0 H h h1 : Hp} {a t : AV} {e' : TypeId} {s n s' m : Nat} {q : Nat → Nat → AV} (hS : Sub h0 H) (hk : ∀ d od, h d = some od → a ≠ .row d s 0 n → H d = some od) (h01 : Sub H h1) (o : Own h0 h t e' s' m q) (hd : ∀ c, a = .row c s 0 n → t = .row c s' 0 m → False) : Own h0 h1 t e' s' m q := by
  refine ⟨hS.trans h01, ?_⟩
  rcases o.2 with h1 | ⟨gb, og, h1, h2, h3, h4⟩
  · exact .inl h1
  · exact .inr ⟨gb, og, h1, h2, h01 _ _ (hk gb og h3 fun ha => hd gb ha h1), h4⟩
theorem own_apart {h0 H h h1 : Hp} {a a1 t : AV} {e e' : TypeId} {s n n1 s' m : Nat} {f1 q : Nat → Nat → AV} (hk : ∀ d od, h d = some od → a ≠ .row d s 0 n → H d = some od) (o1 : Own H h1 a1 e s n1 f1) (o : Own h0 h t e' s' m q) (hd : ∀ c, a = .row c s 0 n → t = .row c s' 0 m → False) : ∀ c, a1 = .row c s 0 n1 → t = .row c s' 0 m → False := by
  intro c hc hc'
  rcases o.2 with ⟨_, h1 | h1⟩ | ⟨gb, og, h1, h2, h3, h4⟩
  · rw [hc'] at h1; cases h1
  · rw [hc'] at h1; cases h1
  · rw [hc'] at h1
    cases h1
    have h5 := hk c og h3 fun ha => hd c ha hc'
    rcases o1.2 with ⟨_, h6 | h6⟩ | ⟨gb, og', h6, h7, _⟩
    · rw [hc] at h6; cases h6
    · rw [hc] at h6; cases h6
    · rw [hc] at h6
      cases h6
      rw [h7] at h5
      cases h5
/-- Slices of other elements are apart. -/
theorem own_apartT {h0 h0' h : Hp} {a t : AV} {e e' : TypeId} {s n s' m : Nat} {f q : Nat → Nat → AV} (oa : Own h0 h a e s n f) (ot : Own h0' h t e' s' m q) (hne : s ≠ s') : ∀ c, a = .row c s 0 n → t = .row c s' 0 m → False := by
  intro c hc hc'
  rcases oa.2 with ⟨_, h1 | h1⟩ | ⟨gb, og, h1, h2, h3, h4, _⟩
  · rw [hc] at h1; cases h1
  · rw [hc] at h1; cases h1
  · rcases ot.2 with ⟨_, h6 | h6⟩ | ⟨gb', og', h6, h7, h8, h9, _⟩
    · rw [hc'] at h6; cases h6
    · rw [hc'] at h6; cases h6
    · rw [hc] at h1
      rw [hc'] at h6
      cases h1
      cases h6
      rw [h3] at h8
      cases h8
      exact hne (h4.symm.trans h9)
/-- A slice of the call's own, perhaps a part of its block. -/
def OwnC (h0 h : Hp) (r : AV) (e : TypeId) (s n : Nat) (f : Nat → Nat → AV) : Prop :=
  Sub h0 h ∧ ((n = 0 ∧ (r = .v (.slice none 0 0) ∨ r = .e0)) ∨ ∃ b o, r = .row b s 0 n ∧ h0 b = none ∧ h b = some o ∧ o.s = s ∧ o.ty = e ∧ n ≤ o.n ∧ ∀ i, i < n → ∀ j, j < s → o.f i j = f i j)
theorem ownC_up {h0 H h1 : Hp} {a : AV} {e : TypeId} {s n : Nat} {f : Nat → Nat → AV} (hS : Sub h0 H) (o : OwnC H h1 a e s n f) : OwnC h0 h1 a e s n f := by
  refine ⟨hS.trans o.1, ?_⟩
  rcases o.2 with h1 | ⟨gb, og, h1, h2, h3⟩
  · exact .inl h1
  · refine .inr ⟨gb, og, h1, ?_, h3⟩
    cases hx : h0 gb with
    | none => rfl
    | some oc => have := hS gb oc hx; rw [h2] at this; cases this
theorem ownC_frozen {h0 h : Hp} {a : AV} {e : TypeId} {s n : Nat} {f : Nat → Nat → AV} (o : OwnC h0 h a e s n f) (h3 : n ≤ 140737488355328) : Wk h a h0 (.sl s n f) := by
  rcases o with ⟨hs, ⟨rfl, h1 | h1⟩ | ⟨b, ob, rfl, h2, h4, h5, h6, h7, h8⟩⟩
  · subst h1
    exact Own.frozen (e := e) ⟨hs, .inl ⟨rfl, .inl rfl⟩⟩ h3
  · subst h1
    exact Own.frozen (e := e) ⟨hs, .inl ⟨rfl, .inr rfl⟩⟩ h3
  · exact Wk.rowF h4 hs h2 h5 h7 h3 h8
theorem ownC_keep {h0 H h h1 : Hp} {a t : AV} {e' : TypeId} {s n s' m : Nat} {q : Nat → Nat → AV} (hS : Sub h0 H) (hk : ∀ d od, h d = some od → a ≠ .row d s 0 n → H d = some od) (h01 : Sub H h1) (o : OwnC h0 h t e' s' m q) (hd : ∀ c, a = .row c s 0 n → t = .row c s' 0 m → False) : OwnC h0 h1 t e' s' m q := by
  refine ⟨hS.trans h01, ?_⟩
  rcases o.2 with h1 | ⟨gb, og, h1, h2, h3, h4⟩
  · exact .inl h1
  · exact .inr ⟨gb, og, h1, h2, h01 _ _ (hk gb og h3 fun ha => hd gb ha h1), h4⟩
theorem own_apartC {h0 H h h1 : Hp} {a a1 t : AV} {e e' : TypeId} {s n n1 s' m : Nat} {f1 q : Nat → Nat → AV} (hk : ∀ d od, h d = some od → a ≠ .row d s 0 n → H d = some od) (o1 : OwnC H h1 a1 e s n1 f1) (o : Own h0 h t e' s' m q) (hd : ∀ c, a = .row c s 0 n → t = .row c s' 0 m → False) : ∀ c, a1 = .row c s 0 n1 → t = .row c s' 0 m → False := by
  intro c hc hc'
  rcases o.2 with ⟨_, h1 | h1⟩ | ⟨gb, og, h1, h2, h3, h4⟩
  · rw [hc'] at h1; cases h1
  · rw [hc'] at h1; cases h1
  · rw [hc'] at h1
    cases h1
    have h5 := hk c og h3 fun ha => hd c ha hc'
    rcases o1.2 with ⟨_, h6 | h6⟩ | ⟨gb, og', h6, h7, _⟩
    · rw [hc] at h6; cases h6
    · rw [hc] at h6; cases h6
    · rw [hc] at h6
      cases h6
      rw [h7] at h5
      cases h5
theorem own_row {h0 h : Hp} {a : AV} {e : TypeId} {s n : Nat} {f : Nat → Nat → AV} (o : Own h0 h a e s n f) (hn : 0 < n) : ∃ d, a = .row d s 0 n := by
  rcases o.2 with ⟨h1, _⟩ | ⟨d, od, h1, _⟩
  · omega
  · exact ⟨d, h1⟩
end Go.Proofs.YtmalhikcdideoaaDoor

namespace Go.Proofs
open Go.Shelf
def Tryd.lays2n15_ren : Go.Shelf.Ren := ⟨fun | 15 => 61 | n => n, fun | 22 => 37 | 3 => 3 | 4 => 4 | n => n, fun | n => n⟩
theorem Tryd.lays2n15 : Go.Proofs.Lays2.n15 Tryd.prog Tryd.lays2n15_ren := {
  mixed := by kernel_rfl
  f15 := Tryd.func61.trans (congrArg some (by kernel_rfl))
  t3 := Tryd.underlying3
  a3 := Tryd.isAgg3
  z3 := Tryd.sizeOf3
  v3 := Tryd.zeroValue3
  t4 := Tryd.underlying4
  a4 := Tryd.isAgg4
  z4 := Tryd.sizeOf4
  v4 := Tryd.zeroValue4
  t22 := Tryd.underlying37
  a22 := Tryd.isAgg37
  z22 := Tryd.sizeOf37
  v22 := Tryd.zeroValue37
  i3 := by kernel_rfl }
end Go.Proofs

set_option linter.unusedVariables false
set_option linter.unusedSimpArgs false
namespace Go.Proofs.YtmalhikcdideoaaDoor
open Go Sl
attribute [local irreducible] XRange LpQ XR XRo XRg XRQ putQ XFv XL XW2 wQ putW X XO XOp XH XHo XW SeqQ BlkQ XOQ XHQ NrmQ XC XM XG XHM XHG XD CallK
open Go.RowKit
@[go_sem] theorem lit1_op : lit1.op = 0 := rfl
@[go_sem] theorem lit1_kids : lit1.kids = [] := rfl
@[go_sem] theorem lit1_kd : lit1.kd = 5 := rfl
@[go_sem] theorem lit1_n : lit1.n = 1 := rfl
@[go_sem] theorem lit1_nm : lit1.nm = ⟨#[]⟩ := rfl
theorem lit1_chk : chkE (oneE nameF) [lit1] = 0 := by
  have h1 : oneE nameF lit1 0 = 0 := by
    simp [oneE, lit1, ar, namedB, checkV, lo, hi]
  have hk : lit1.kids = [] := rfl
  simp [chkE, nodesF, h1, useF, hk]
theorem copied_lit : Pure Tryd.prog 70 [.v (.slice none 0 0), encL 5 cNd [lit1], I 0] (encL 5 cNd [lit1]) := by
  have hx : ([lit1] : List Nd)[0]? = some lit1 := rfl
  intro h
  refine callK_body Tryd.func70 rfl (by rw [nt70]; simp) ?_; rw [nt70, rs70]
  (repeat' (first | simp [go_sem, X_region, *] | simp (disch := omega) only [om, *] | ((first | refine XC_split ?_ ?_ | refine XG_true ?_ ?_ | refine XG_false ?_ ?_ | refine XRg_true ?_ ?_ | refine XRg_false ?_ ?_) <;> intro hc <;> (try simp only [bl] at hc) <;> (try (exfalso; omega))) | refine XD_w [] [] [] (fun _ => none) mixed (by decide +kernel) (sub_none _) ?_ | fail))
  intro b7 hb7
  (repeat' (first | simp [go_sem, X_region, *] | simp (disch := omega) only [om, *] | ((first | refine XC_split ?_ ?_ | refine XG_true ?_ ?_ | refine XG_false ?_ ?_ | refine XRg_true ?_ ?_ | refine XRg_false ?_ ?_) <;> intro hc <;> (try simp only [bl] at hc) <;> (try (exfalso; omega))) | refine XD_w [] [] [] (fun _ => none) mixed (by decide +kernel) (sub_none _) ?_ | fail))
  refine X_lpF (fun i => i = 0 ∨ i = 8 ∨ i = 10 ∨ (18 ≤ i ∧ i ≤ 32)) (fun n T g => ∃ ob : Ob, T 18 = I 0 ∧ T 8 = .v (.slice none 0 0) ∧ T 0 = .v (.slice none 0 0) ∧ g = upd h b7 (some ob) ∧ ob.ty = 39 ∧ ob.s = 5 ∧ ob.n = 1 ∧ ob.f 0 0 = I 0 ∧ ob.f 0 2 = I 5 ∧ ob.f 0 3 = I 1 ∧ ob.f 0 4 = S ⟨#[]⟩) 0
    ⟨_, by simp [go_sem], by simp [go_sem], by simp [go_sem], rfl, rfl, rfl, rfl, by simp [lit1], by simp [lit1], by simp [lit1], by simp [lit1]⟩ ?_
  rintro J hJ n T g hfr ⟨ob, t18, t8, t0, rfl, p1, p2, p3, f0, f2, f3, f4⟩
  (repeat' (first | simp [go_sem, X_region, *] | simp (disch := omega) only [om, *] | ((first | refine XC_split ?_ ?_ | refine XG_true ?_ ?_ | refine XG_false ?_ ?_ | refine XRg_true ?_ ?_ | refine XRg_false ?_ ?_) <;> intro hc <;> (try simp only [bl] at hc) <;> (try (exfalso; omega))) | refine XD_w [] [] [] (fun _ => none) mixed (by decide +kernel) (sub_none _) ?_ | fail))
  intro b hn1 hn2 hb
  refine OwnD.push (x := lit1) (enc := cNd) (l := []) (f := fun _ _ => .any) (hk := h) (h0 := h) ⟨Sub.upd hb7 (Sub.refl _), .inl ⟨rfl, .inl rfl⟩⟩ (Sub.refl _) (fun i hi => absurd hi (Nat.not_lt_zero _)) (by simp [go_sem]) und42 zr39 by39 (by simp [go_sem]) (by rw [upd_ne _ _ hn1]; exact hb) (by simp [go_sem]) rfl (Nat.le_refl _) (fun q hq => ?_) (by simp) (by simp) fun a' g9 own9 hk9 => ?_
  · rcases (show q = 0 ∨ q = 1 ∨ q = 2 ∨ q = 3 ∨ q = 4 by omega) with rfl | rfl | rfl | rfl | rfl
    · exact Wk.refl _ _
    · exact Wk.nil
    · exact Wk.refl _ _
    · exact Wk.refl _ _
    · exact Wk.refl _ _
  · (repeat' (first | simp [go_sem, X_region, *] | simp (disch := omega) only [om, *] | ((first | refine XC_split ?_ ?_ | refine XG_true ?_ ?_ | refine XG_false ?_ ?_ | refine XRg_true ?_ ?_ | refine XRg_false ?_ ?_) <;> intro hc <;> (try simp only [bl] at hc) <;> (try (exfalso; omega))) | refine XD_w [] [] [] (fun _ => none) mixed (by decide +kernel) (sub_none _) ?_ | fail))
    exact own9.frozen (by simp)
theorem norm_lit : Pure Tryd.prog 27 [encL 5 cNd [lit1]] (encL 5 cNd [lit1]) := by
  have hc := tcheck_ok [lit1] fun x hx => by rw [List.mem_singleton.1 hx]; decide
  rw [lit1_chk] at hc
  have hcut : Pure Tryd.prog 33 [encL 5 cNd [lit1], I 0] (encL 5 cNd [lit1]) := by
    intro h
    refine callK_body Tryd.func33 rfl (by rw [nt33]; simp) ?_; rw [nt33, rs33]
    (repeat' (first | simp [go_sem, X_region, *] | simp (disch := omega) only [om, *] | ((first | refine XC_split ?_ ?_ | refine XG_true ?_ ?_ | refine XG_false ?_ ?_ | refine XRg_true ?_ ?_ | refine XRg_false ?_ ?_) <;> intro hc <;> (try simp only [bl] at hc) <;> (try (exfalso; omega))) | refine XD_w [] [] [] (fun _ => none) mixed (by decide +kernel) (sub_none _) ?_ | refine Pure.call (hc) ?_ | refine ⟨_, Pure.at (hc), ?_⟩ | refine ⟨_, hc, ?_⟩ | refine PureAt.call (hc) ?_ | refine Pure.call (copied_lit) ?_ | refine ⟨_, Pure.at (copied_lit), ?_⟩ | refine ⟨_, copied_lit, ?_⟩ | refine PureAt.call (copied_lit) ?_ | fail))
  intro h
  refine callK_body Tryd.func27 rfl (by rw [nt27]; simp) ?_; rw [nt27, rs27]
  (repeat' (first | simp [go_sem, X_region, *] | simp (disch := omega) only [om, *] | ((first | refine XC_split ?_ ?_ | refine XG_true ?_ ?_ | refine XG_false ?_ ?_ | refine XRg_true ?_ ?_ | refine XRg_false ?_ ?_) <;> intro hc <;> (try simp only [bl] at hc) <;> (try (exfalso; omega))) | refine XD_w [] [] [] (fun _ => none) mixed (by decide +kernel) (sub_none _) ?_ | refine Pure.call (hcut) ?_ | refine ⟨_, Pure.at (hcut), ?_⟩ | refine ⟨_, hcut, ?_⟩ | refine PureAt.call (hcut) ?_ | fail))
theorem clone_0 (f f' : Nat → Nat → AV) : Pure Tryd.prog 61 [.sl 1 0 f] (.sl 1 0 f') := by
  intro h
  unfold CallK
  intro w vals hh ha
  obtain ⟨u, rfl, A, c, rfl, _⟩ := vals_a ha
  have fin : ∀ (w' : World) (A' : Option Addr) (c' : Nat), Rd w' h (.sl 1 0 f') (.slice A' 0 c') := fun w' A' c' => ⟨A', c', rfl, Nat.zero_le _, by decide, fun h0 => absurd h0 (Nat.lt_irrefl _)⟩
  cases A with
  | none =>
    refine (Any.slices_Clone_int_nil Tryd.lays2n15 0 c w).mono ?_
    rintro e w' ⟨rfl, rfl⟩
    exact ⟨_, _, h, rfl, ⟨rfl, rfl⟩, fin _ _ _, hh, ⟨rfl, rfl, rfl⟩, Stp.refl _ _⟩
  | some a =>
    refine (Any.slices_Clone_int_zero Tryd.lays2n15 a c w).mono ?_
    rintro e w' ⟨v', rfl, ⟨_, hown⟩, _, hbel⟩
    have hv : ∃ A' c', v' = .slice A' 0 c' := by
      rcases hown with ⟨e1, _⟩ | ⟨g, cap, cur, e1, _⟩
      · exact ⟨_, _, e1⟩
      · exact ⟨_, _, e1⟩
    obtain ⟨A', c', rfl⟩ := hv
    exact ⟨_, _, h, rfl, ⟨rfl, rfl⟩, fin _ _ _, hh.grow hbel.size hbel.block, ⟨hbel.os, hbel.tape, hbel.output⟩, Stp.grow hh hbel.size hbel.block⟩
@[go_sem] def cE (k : List Nd) : List AV := [encL 5 cNd k]
def addN : Nd := ⟨10, [], 0, 0, ⟨#[]⟩⟩
@[go_sem] theorem addN_op : addN.op = 10 := rfl
@[go_sem] theorem addN_kids : addN.kids = [] := rfl
@[go_sem] theorem addN_kd : addN.kd = 0 := rfl
@[go_sem] theorem addN_n : addN.n = 0 := rfl
@[go_sem] theorem addN_nm : addN.nm = ⟨#[]⟩ := rfl
def sumE : List Nd := [lit1, lit1, ⟨10, [0, 1], 0, 0, ⟨#[]⟩⟩]
theorem sum_chk : chkE (oneE nameF) sumE = 0 := by
  have h1 : ∀ i, oneE nameF lit1 i = 0 := fun i => by
    simp [oneE, lit1, ar, namedB, checkV, lo, hi]
  have h2 : oneE nameF ⟨10, [0, 1], 0, 0, ⟨#[]⟩⟩ 2 = 0 := by
    simp [oneE, ar, namedB]
  simp [chkE, sumE, nodesF, h1, h2, useF, lit1_kids]
theorem lend_wk {h h1 : Hp} {a b : AV} (x : Wk h a h1 b) : Lend h a b := fun w u hh hr => ((x.out w u hh hr).2.2).step (stp_forget (sub_none _))
set_option maxHeartbeats 4000000 in
theorem join_lit : Pure Tryd.prog 22 [aggL [I 10, .v (.slice none 0 0), I 0, I 0, S ⟨#[]⟩], encL 1 cE [[lit1], [lit1]]] (encL 5 cNd sumE) := by
  have hc1 := tcheck_ok [lit1] fun x hx => by rw [List.mem_singleton.1 hx]; decide
  rw [lit1_chk] at hc1
  have hc2 := tcheck_ok sumE fun x hx => by
    rcases List.mem_cons.1 hx with rfl | hx
    · decide
    · rcases List.mem_cons.1 hx with rfl | hx
      · decide
      · rw [List.mem_singleton.1 hx]; decide
  rw [sum_chk] at hc2
  have hn := norm_lit
  intro h
  refine callK_body Tryd.func22 rfl (by rw [nt22]; simp) ?_; rw [nt22, rs22]
  (repeat' (first | simp [go_sem, X_region, *] | simp (disch := omega) only [om, *] | ((first | refine XC_split ?_ ?_ | refine XG_true ?_ ?_ | refine XG_false ?_ ?_ | refine XRg_true ?_ ?_ | refine XRg_false ?_ ?_) <;> intro hc <;> (try simp only [bl] at hc) <;> (try (exfalso; omega))) | refine XD_w [] [] [] (fun _ => none) mixed (by decide +kernel) (sub_none _) ?_ | fail))
  intro b2 hb2
  refine X_lpF (fun i => (4 ≤ i ∧ i ≤ 5) ∨ (7 ≤ i ∧ i ≤ 8) ∨ (10 ≤ i ∧ i ≤ 11) ∨ (15 ≤ i ∧ i ≤ 63)) (fun n T g => ∃ (i : Nat) (ob2 : Ob) (ka : AV), n = 2 - i ∧ i ≤ 2 ∧ T 15 = I i ∧
      Own (upd h b2 (some ob2)) g (T 5) 39 5 i (cellsL cNd (List.replicate i lit1)) ∧ Own (upd h b2 (some ob2)) g ka 3 1 i (cellsL cI ((List.range i).map fun k : Nat => (k : Int))) ∧ ob2.ty = 39 ∧ ob2.s = 5 ∧ ob2.n = 1 ∧ ob2.f 0 0 = I 10 ∧ ob2.f 0 1 = ka ∧ ob2.f 0 2 = I 0 ∧ ob2.f 0 3 = I 0 ∧ ob2.f 0 4 = S ⟨#[]⟩ ∧ (i = 0 → T 5 = .v (.slice none 0 0) ∧ ka = .v (.slice none 0 0))) 2
    ⟨0, _, .v (.slice none 0 0), rfl, by omega, by simp [go_sem], by simpa [go_sem] using Own.none, by simpa [go_sem] using Own.none, rfl, rfl, rfl, by simp [go_sem], by simp [go_sem], by simp [go_sem], by simp [go_sem], by simp [go_sem], fun _ => ⟨by simp [go_sem], rfl⟩⟩ ?_
  rintro J hJ n T g hfr ⟨i, ob2, ka, rfl, hi, t15, own5, ownK, p1, p2, p3, f0, f1, f2, f3, f4, hz⟩
  have e2 : g b2 = some ob2 := own5.1 b2 _ (upd_same _ _ _)
  rcases (show i = 0 ∨ i = 1 ∨ i = 2 by omega) with rfl | rfl | rfl
  · have t5 := (hz rfl).1
    (repeat' (first | simp [go_sem, X_region, *] | simp (disch := omega) only [om, *] | ((first | refine XC_split ?_ ?_ | refine XG_true ?_ ?_ | refine XG_false ?_ ?_ | refine XRg_true ?_ ?_ | refine XRg_false ?_ ?_) <;> intro hc <;> (try simp only [bl] at hc) <;> (try (exfalso; omega))) | refine XD_w [] [] [] (fun _ => none) mixed (by decide +kernel) (sub_none _) ?_ | refine Pure.call (hc1) ?_ | refine ⟨_, Pure.at (hc1), ?_⟩ | refine ⟨_, hc1, ?_⟩ | refine PureAt.call (hc1) ?_ | refine Pure.call (hn) ?_ | refine ⟨_, Pure.at (hn), ?_⟩ | refine ⟨_, hn, ?_⟩ | refine PureAt.call (hn) ?_ | fail))
    refine X_lpF (fun i => i = 5 ∨ (10 ≤ i ∧ i ≤ 11) ∨ (27 ≤ i ∧ i ≤ 54)) (fun n T g => ∃ (j : Nat), n = 1 - j ∧ j ≤ 1 ∧ T 27 = I j ∧ Own (upd h b2 (some ob2)) g (T 5) 39 5 (0 + j) (cellsL cNd (List.replicate (0 + j) lit1)) ∧ Own (upd h b2 (some ob2)) g ka 3 1 0 (cellsL cI ((List.range 0).map fun k : Nat => (k : Int)))) 1
      ⟨0, rfl, by omega, by simp [go_sem], by simpa [go_sem] using own5, by simpa [go_sem] using ownK⟩ ?_
    clear own5 ownK e2 t5
    rintro J2 hJ2 n2 T2 g2 hfr2 ⟨j, rfl, hj, t27, own5, ownK⟩
    have e2 : g2 b2 = some ob2 := own5.1 b2 _ (upd_same _ _ _)
    rcases (show j = 0 ∨ j = 1 by omega) with rfl | rfl
    · (repeat' (first | simp [go_sem, X_region, *] | simp (disch := omega) only [om, *] | ((first | refine XC_split ?_ ?_ | refine XG_true ?_ ?_ | refine XG_false ?_ ?_ | refine XRg_true ?_ ?_ | refine XRg_false ?_ ?_) <;> intro hc <;> (try simp only [bl] at hc) <;> (try (exfalso; omega))) | refine XD_w [] [] [] (fun _ => none) mixed (by decide +kernel) (sub_none _) ?_ | fail))
      intro b10 hb10
      have m2 := ne_free hb10 e2
      have hcl := clone_0 (cellsL cI []) (cellsL cI [])
      (repeat' (first | simp [go_sem, X_region, *] | simp (disch := omega) only [om, *] | ((first | refine XC_split ?_ ?_ | refine XG_true ?_ ?_ | refine XG_false ?_ ?_ | refine XRg_true ?_ ?_ | refine XRg_false ?_ ?_) <;> intro hc <;> (try simp only [bl] at hc) <;> (try (exfalso; omega))) | refine XD_w [] [] [] (fun _ => none) mixed (by decide +kernel) (sub_none _) ?_ | refine Pure.call (hcl) ?_ | refine ⟨_, Pure.at (hcl), ?_⟩ | refine ⟨_, hcl, ?_⟩ | refine PureAt.call (hcl) ?_ | fail))
      refine X_lpH (fun i => i = 11 ∨ (38 ≤ i ∧ i ≤ 49)) (fun hE n T g => T 38 = I 0 ∧ g = hE) 0 ⟨by simp [go_sem], rfl⟩ ?_
      rintro hE hEq J3 hJ3 n3 T3 g3 hfr3 ⟨t38, rfl⟩
      obtain ⟨ob10, hob, q1, q2, q3, u0, u1, u2, u3, u4⟩ : ∃ ob10 : Ob, g3 = upd g2 b10 (some ob10) ∧ ob10.ty = 39 ∧ ob10.s = 5 ∧ ob10.n = 1 ∧ ob10.f 0 0 = I 0 ∧ ob10.f 0 1 = AV.sl 1 0 (cellsL cI []) ∧ ob10.f 0 2 = I 5 ∧ ob10.f 0 3 = I 1 ∧ ob10.f 0 4 = S ⟨#[]⟩ := ⟨_, hEq.symm, rfl, rfl, rfl, by simp, by simp, by simp, by simp, by simp⟩
      clear hEq
      subst hob
      have own5' : Own (upd h b2 (some ob2)) (upd g2 b10 (some ob10)) (T2 5) 39 5 (List.replicate 0 lit1).length (cellsL cNd (List.replicate 0 lit1)) := own5.alloc hb10
      have ownK' := ownK.alloc (ob := ob10) hb10
      (repeat' (first | simp [go_sem, X_region, *] | simp (disch := omega) only [om, *] | ((first | refine XC_split ?_ ?_ | refine XG_true ?_ ?_ | refine XG_false ?_ ?_ | refine XRg_true ?_ ?_ | refine XRg_false ?_ ?_) <;> intro hc <;> (try simp only [bl] at hc) <;> (try (exfalso; omega))) | refine XD_w [] [] [] (fun _ => none) mixed (by decide +kernel) (sub_none _) ?_ | fail))
      intro bl hl1 hl2 hbl
      obtain ⟨H, oH, sH, kH⟩ := own_hole own5'
      refine Own.push (x := lit1) (enc := cNd) oH (by simp [go_sem]) und42 zr39 by39 (by simp [go_sem]) (by rw [upd_ne _ _ hl1]; exact hbl) (by simp [go_sem]) rfl (Nat.le_refl _) (by simp [go_sem]) (by decide) (by decide) fun a1 h1 hown1 hk1 => ?_
      have ownK2 := own_keep sH kH hown1.1 ownK' (own_apartT own5' ownK' (by decide))
      have own52 : Own (upd h b2 (some ob2)) h1 a1 39 5 (0 + 1) (cellsL cNd (List.replicate (0 + 1) lit1)) := own_up sH hown1
      (repeat' (first | simp [go_sem, X_region, *] | simp (disch := omega) only [om, *] | ((first | refine XC_split ?_ ?_ | refine XG_true ?_ ?_ | refine XG_false ?_ ?_ | refine XRg_true ?_ ?_ | refine XRg_false ?_ ?_) <;> intro hc <;> (try simp only [bl] at hc) <;> (try (exfalso; omega))) | refine XD_w [] [] [] (fun _ => none) mixed (by decide +kernel) (sub_none _) ?_ | fail))
      refine hJ2.out _ _ _ ⟨?_, 1, rfl, by omega, by simp [go_sem], by simpa [go_sem] using own52, ownK2⟩
      repeat (refine fr_upd (by decide) ?_)
      refine fr_in (by intro i; omega) hfr3 ?_
      repeat (refine fr_upd (by decide) ?_)
      exact hfr2
    · obtain ⟨d5, t5⟩ := own_row own5 (by decide)
      have ownKx : Own (upd h b2 (some ob2)) g2 ka 3 1 ((List.range 0).map fun k : Nat => (k : Int)).length (cellsL cI ((List.range 0).map fun k : Nat => (k : Int))) := ownK
      (repeat' (first | simp [go_sem, X_region, *] | simp (disch := omega) only [om, *] | ((first | refine XC_split ?_ ?_ | refine XG_true ?_ ?_ | refine XG_false ?_ ?_ | refine XRg_true ?_ ?_ | refine XRg_false ?_ ?_) <;> intro hc <;> (try simp only [bl] at hc) <;> (try (exfalso; omega))) | refine XD_w [] [] [] (fun _ => none) mixed (by decide +kernel) (sub_none _) ?_ | fail))
      intro bl hbl
      obtain ⟨H, oH, sH, kH⟩ := own_hole ownKx
      refine Own.push (x := (0 : Int)) (enc := cI) oH (by simp [go_sem, *]) und37 zr3 by3 (by simp [go_sem]) hbl (by simp [go_sem]) rfl (Nat.le_refl _) (by simp [go_sem]) (by decide) (by decide) fun a1 h1 hown1 hk1 => ?_
      have own52 := own_keep sH kH hown1.1 own5 (own_apartT ownKx own5 (by decide))
      have ownK2 := own_up sH hown1
      obtain ⟨dk, rfl⟩ : ∃ dk, a1 = .row dk 1 0 (0 + 1) := own_row ownK2 (by decide)
      have e22 : h1 b2 = some ob2 := own52.1 b2 _ (upd_same _ _ _)
      (repeat' (first | simp [go_sem, X_region, *] | simp (disch := omega) only [om, *] | ((first | refine XC_split ?_ ?_ | refine XG_true ?_ ?_ | refine XG_false ?_ ?_ | refine XRg_true ?_ ?_ | refine XRg_false ?_ ?_) <;> intro hc <;> (try simp only [bl] at hc) <;> (try (exfalso; omega))) | refine XD_w [] [] [] (fun _ => none) mixed (by decide +kernel) (sub_none _) ?_ | fail))
      have w5 := own_other (o2 := ⟨39, 5, 1, fun i' j' => if i' = 0 ∧ 1 ≤ j' ∧ j' < 2 then AV.row dk 1 0 (0 + 1) else ob2.f i' j'⟩) own52 (upd_same _ _ _)
      have wK := own_other (o2 := ⟨39, 5, 1, fun i' j' => if i' = 0 ∧ 1 ≤ j' ∧ j' < 2 then AV.row dk 1 0 (0 + 1) else ob2.f i' j'⟩) ownK2 (upd_same _ _ _)
      rw [upd_upd] at w5 wK
      first
        | refine ⟨1, by decide, hJ.out _ _ _ ⟨?_, 0 + 1, _, .row dk 1 0 (0 + 1), rfl, by omega, by simp [go_sem], by simpa [go_sem] using w5, wK, rfl, rfl, rfl, by simp [f0], by simp, by simp [f2], by simp [f3], by simp [f4], fun h => absurd h (by decide)⟩⟩
        | refine hJ.out _ _ _ ⟨?_, 0 + 1, _, .row dk 1 0 (0 + 1), rfl, by omega, by simp [go_sem], by simpa [go_sem] using w5, wK, rfl, rfl, rfl, by simp [f0], by simp, by simp [f2], by simp [f3], by simp [f4], fun h => absurd h (by decide)⟩
      repeat (refine fr_upd (by decide) ?_)
      refine fr_in (by intro i; omega) hfr2 ?_
      repeat (refine fr_upd (by decide) ?_)
      exact hfr
  · clear hz
    obtain ⟨d5, t5⟩ := own_row own5 (by decide)
    (repeat' (first | simp [go_sem, X_region, *] | simp (disch := omega) only [om, *] | ((first | refine XC_split ?_ ?_ | refine XG_true ?_ ?_ | refine XG_false ?_ ?_ | refine XRg_true ?_ ?_ | refine XRg_false ?_ ?_) <;> intro hc <;> (try simp only [bl] at hc) <;> (try (exfalso; omega))) | refine XD_w [] [] [] (fun _ => none) mixed (by decide +kernel) (sub_none _) ?_ | refine Pure.call (hc1) ?_ | refine ⟨_, Pure.at (hc1), ?_⟩ | refine ⟨_, hc1, ?_⟩ | refine PureAt.call (hc1) ?_ | refine Pure.call (hn) ?_ | refine ⟨_, Pure.at (hn), ?_⟩ | refine ⟨_, hn, ?_⟩ | refine PureAt.call (hn) ?_ | fail))
    refine X_lpF (fun i => i = 5 ∨ (10 ≤ i ∧ i ≤ 11) ∨ (27 ≤ i ∧ i ≤ 54)) (fun n T g => ∃ (j : Nat), n = 1 - j ∧ j ≤ 1 ∧ T 27 = I j ∧ Own (upd h b2 (some ob2)) g (T 5) 39 5 (1 + j) (cellsL cNd (List.replicate (1 + j) lit1)) ∧ Own (upd h b2 (some ob2)) g ka 3 1 1 (cellsL cI ((List.range 1).map fun k : Nat => (k : Int)))) 1
      ⟨0, rfl, by omega, by simp [go_sem], by simpa [go_sem] using own5, by simpa [go_sem] using ownK⟩ ?_
    clear own5 ownK e2 t5
    rintro J2 hJ2 n2 T2 g2 hfr2 ⟨j, rfl, hj, t27, own5, ownK⟩
    have e2 : g2 b2 = some ob2 := own5.1 b2 _ (upd_same _ _ _)
    rcases (show j = 0 ∨ j = 1 by omega) with rfl | rfl
    · (repeat' (first | simp [go_sem, X_region, *] | simp (disch := omega) only [om, *] | ((first | refine XC_split ?_ ?_ | refine XG_true ?_ ?_ | refine XG_false ?_ ?_ | refine XRg_true ?_ ?_ | refine XRg_false ?_ ?_) <;> intro hc <;> (try simp only [bl] at hc) <;> (try (exfalso; omega))) | refine XD_w [] [] [] (fun _ => none) mixed (by decide +kernel) (sub_none _) ?_ | fail))
      intro b10 hb10
      have m2 := ne_free hb10 e2
      have hcl := clone_0 (cellsL cI []) (cellsL cI [])
      (repeat' (first | simp [go_sem, X_region, *] | simp (disch := omega) only [om, *] | ((first | refine XC_split ?_ ?_ | refine XG_true ?_ ?_ | refine XG_false ?_ ?_ | refine XRg_true ?_ ?_ | refine XRg_false ?_ ?_) <;> intro hc <;> (try simp only [bl] at hc) <;> (try (exfalso; omega))) | refine XD_w [] [] [] (fun _ => none) mixed (by decide +kernel) (sub_none _) ?_ | refine Pure.call (hcl) ?_ | refine ⟨_, Pure.at (hcl), ?_⟩ | refine ⟨_, hcl, ?_⟩ | refine PureAt.call (hcl) ?_ | fail))
      refine X_lpH (fun i => i = 11 ∨ (38 ≤ i ∧ i ≤ 49)) (fun hE n T g => T 38 = I 0 ∧ g = hE) 0 ⟨by simp [go_sem], rfl⟩ ?_
      rintro hE hEq J3 hJ3 n3 T3 g3 hfr3 ⟨t38, rfl⟩
      obtain ⟨ob10, hob, q1, q2, q3, u0, u1, u2, u3, u4⟩ : ∃ ob10 : Ob, g3 = upd g2 b10 (some ob10) ∧ ob10.ty = 39 ∧ ob10.s = 5 ∧ ob10.n = 1 ∧ ob10.f 0 0 = I 0 ∧ ob10.f 0 1 = AV.sl 1 0 (cellsL cI []) ∧ ob10.f 0 2 = I 5 ∧ ob10.f 0 3 = I 1 ∧ ob10.f 0 4 = S ⟨#[]⟩ := ⟨_, hEq.symm, rfl, rfl, rfl, by simp, by simp, by simp, by simp, by simp⟩
      clear hEq
      subst hob
      have own5' : Own (upd h b2 (some ob2)) (upd g2 b10 (some ob10)) (T2 5) 39 5 (List.replicate 1 lit1).length (cellsL cNd (List.replicate 1 lit1)) := own5.alloc hb10
      have ownK' := ownK.alloc (ob := ob10) hb10
      (repeat' (first | simp [go_sem, X_region, *] | simp (disch := omega) only [om, *] | ((first | refine XC_split ?_ ?_ | refine XG_true ?_ ?_ | refine XG_false ?_ ?_ | refine XRg_true ?_ ?_ | refine XRg_false ?_ ?_) <;> intro hc <;> (try simp only [bl] at hc) <;> (try (exfalso; omega))) | refine XD_w [] [] [] (fun _ => none) mixed (by decide +kernel) (sub_none _) ?_ | fail))
      intro bl hl1 hl2 hbl
      obtain ⟨H, oH, sH, kH⟩ := own_hole own5'
      refine Own.push (x := lit1) (enc := cNd) oH (by simp [go_sem]) und42 zr39 by39 (by simp [go_sem]) (by rw [upd_ne _ _ hl1]; exact hbl) (by simp [go_sem]) rfl (Nat.le_refl _) (by simp [go_sem]) (by decide) (by decide) fun a1 h1 hown1 hk1 => ?_
      have ownK2 := own_keep sH kH hown1.1 ownK' (own_apartT own5' ownK' (by decide))
      have own52 : Own (upd h b2 (some ob2)) h1 a1 39 5 (1 + 1) (cellsL cNd (List.replicate (1 + 1) lit1)) := own_up sH hown1
      (repeat' (first | simp [go_sem, X_region, *] | simp (disch := omega) only [om, *] | ((first | refine XC_split ?_ ?_ | refine XG_true ?_ ?_ | refine XG_false ?_ ?_ | refine XRg_true ?_ ?_ | refine XRg_false ?_ ?_) <;> intro hc <;> (try simp only [bl] at hc) <;> (try (exfalso; omega))) | refine XD_w [] [] [] (fun _ => none) mixed (by decide +kernel) (sub_none _) ?_ | fail))
      refine hJ2.out _ _ _ ⟨?_, 1, rfl, by omega, by simp [go_sem], by simpa [go_sem] using own52, ownK2⟩
      repeat (refine fr_upd (by decide) ?_)
      refine fr_in (by intro i; omega) hfr3 ?_
      repeat (refine fr_upd (by decide) ?_)
      exact hfr2
    · obtain ⟨d5, t5⟩ := own_row own5 (by decide)
      have ownKx : Own (upd h b2 (some ob2)) g2 ka 3 1 ((List.range 1).map fun k : Nat => (k : Int)).length (cellsL cI ((List.range 1).map fun k : Nat => (k : Int))) := ownK
      (repeat' (first | simp [go_sem, X_region, *] | simp (disch := omega) only [om, *] | ((first | refine XC_split ?_ ?_ | refine XG_true ?_ ?_ | refine XG_false ?_ ?_ | refine XRg_true ?_ ?_ | refine XRg_false ?_ ?_) <;> intro hc <;> (try simp only [bl] at hc) <;> (try (exfalso; omega))) | refine XD_w [] [] [] (fun _ => none) mixed (by decide +kernel) (sub_none _) ?_ | fail))
      intro bl hbl
      obtain ⟨H, oH, sH, kH⟩ := own_hole ownKx
      refine Own.push (x := (1 : Int)) (enc := cI) oH (by simp [go_sem, *]) und37 zr3 by3 (by simp [go_sem]) hbl (by simp [go_sem]) rfl (Nat.le_refl _) (by simp [go_sem]) (by decide) (by decide) fun a1 h1 hown1 hk1 => ?_
      have own52 := own_keep sH kH hown1.1 own5 (own_apartT ownKx own5 (by decide))
      have ownK2 := own_up sH hown1
      obtain ⟨dk, rfl⟩ : ∃ dk, a1 = .row dk 1 0 (1 + 1) := own_row ownK2 (by decide)
      have e22 : h1 b2 = some ob2 := own52.1 b2 _ (upd_same _ _ _)
      (repeat' (first | simp [go_sem, X_region, *] | simp (disch := omega) only [om, *] | ((first | refine XC_split ?_ ?_ | refine XG_true ?_ ?_ | refine XG_false ?_ ?_ | refine XRg_true ?_ ?_ | refine XRg_false ?_ ?_) <;> intro hc <;> (try simp only [bl] at hc) <;> (try (exfalso; omega))) | refine XD_w [] [] [] (fun _ => none) mixed (by decide +kernel) (sub_none _) ?_ | fail))
      have w5 := own_other (o2 := ⟨39, 5, 1, fun i' j' => if i' = 0 ∧ 1 ≤ j' ∧ j' < 2 then AV.row dk 1 0 (1 + 1) else ob2.f i' j'⟩) own52 (upd_same _ _ _)
      have wK := own_other (o2 := ⟨39, 5, 1, fun i' j' => if i' = 0 ∧ 1 ≤ j' ∧ j' < 2 then AV.row dk 1 0 (1 + 1) else ob2.f i' j'⟩) ownK2 (upd_same _ _ _)
      rw [upd_upd] at w5 wK
      first
        | refine ⟨1, by decide, hJ.out _ _ _ ⟨?_, 1 + 1, _, .row dk 1 0 (1 + 1), rfl, by omega, by simp [go_sem], by simpa [go_sem] using w5, wK, rfl, rfl, rfl, by simp [f0], by simp, by simp [f2], by simp [f3], by simp [f4], fun h => absurd h (by decide)⟩⟩
        | refine hJ.out _ _ _ ⟨?_, 1 + 1, _, .row dk 1 0 (1 + 1), rfl, by omega, by simp [go_sem], by simpa [go_sem] using w5, wK, rfl, rfl, rfl, by simp [f0], by simp, by simp [f2], by simp [f3], by simp [f4], fun h => absurd h (by decide)⟩
      repeat (refine fr_upd (by decide) ?_)
      refine fr_in (by intro i; omega) hfr2 ?_
      repeat (refine fr_upd (by decide) ?_)
      exact hfr
  · clear hz
    obtain ⟨d5, t5⟩ := own_row own5 (by decide)
    obtain ⟨dk, rfl⟩ := own_row ownK (by decide)
    have hap := own_apartT own5 ownK (by decide) dk
    obtain ⟨obk, ek0, ek, es, en, ef⟩ : ∃ obk, (upd h b2 (some ob2)) dk = none ∧ g dk = some obk ∧ obk.s = 1 ∧ 2 ≤ obk.n ∧ ∀ i, i < 2 → obk.f i 0 = cellsL cI ((List.range 2).map fun k : Nat => (k : Int)) i 0 := by
      rcases ownK.2 with ⟨h0, _⟩ | ⟨c, oc, hc, r1, r2, r3, r4, r5, r6, r7⟩
      · omega
      · cases hc
        exact ⟨oc, r1, r2, r3, by omega, fun i hi => r7 i hi 0 (by decide)⟩
    obtain ⟨f, hk, oD, sD, kD, wD⟩ := own5.deep.with ek fun e => hap e rfl
    (repeat' (first | simp [go_sem, X_region, *] | simp (disch := omega) only [om, *] | ((first | refine XC_split ?_ ?_ | refine XG_true ?_ ?_ | refine XG_false ?_ ?_ | refine XRg_true ?_ ?_ | refine XRg_false ?_ ?_) <;> intro hc <;> (try simp only [bl] at hc) <;> (try (exfalso; omega))) | refine XD_w [] [] [] (fun _ => none) mixed (by decide +kernel) (sub_none _) ?_ | fail))
    intro bl hbl
    refine OwnD.push (x := (⟨10, [0, 1], 0, 0, ⟨#[]⟩⟩ : Nd)) (enc := cNd) (l := List.replicate 2 lit1) oD sD wD (by simp [go_sem, t5]) und42 zr39 by39 (by simp [go_sem]) hbl (by simp [go_sem]) rfl (Nat.le_refl _) (fun q hq => ?_) (by decide) (by decide) fun a' g9 own9 hk9 => ?_
    · rcases (show q = 0 ∨ q = 1 ∨ q = 2 ∨ q = 3 ∨ q = 4 by omega) with rfl | rfl | rfl | rfl | rfl
      · exact Wk.drop _ sD
      · exact Wk.rowF kD sD ek0 es en (by decide) fun i hi j hj => by
          obtain rfl : j = 0 := by omega
          rw [ef i hi]
          rcases (show i = 0 ∨ i = 1 by omega) with rfl | rfl <;> rfl
      · exact Wk.drop _ sD
      · exact Wk.drop _ sD
      · exact Wk.drop _ sD
    · have ht9 : OwnD (upd h b2 (some ob2)) g9 a' 39 5 3 (cellsL cNd sumE) := own9
      have hfz := ht9.frozen (by decide)
      have hck : PureAt Tryd.prog g9 41 [a'] (I 0) := Pure.lend hc2 (.cons (lend_wk hfz) .nil) (Flat.v _)
      (repeat' (first | simp [go_sem, X_region, *] | simp (disch := omega) only [om, *] | ((first | refine XC_split ?_ ?_ | refine XG_true ?_ ?_ | refine XG_false ?_ ?_ | refine XRg_true ?_ ?_ | refine XRg_false ?_ ?_) <;> intro hc <;> (try simp only [bl] at hc) <;> (try (exfalso; omega))) | refine XD_w [] [] [] (fun _ => none) mixed (by decide +kernel) (sub_none _) ?_ | refine Pure.call (hck) ?_ | refine ⟨_, Pure.at (hck), ?_⟩ | refine ⟨_, hck, ?_⟩ | refine PureAt.call (hck) ?_ | fail))
      exact hfz.trans (Wk.drop _ (Sub.upd hb2 (Sub.refl _)))
theorem rd_row_tz {w : World} {h hF : Hp} {b s n : Nat} {o : Ob} {f : Nat → Nat → AV} {u : Value} (hs : Sub hF h) (hF0 : hF b = none) (hb : h b = some o) (h1 : o.s = s) (h2 : n ≤ o.n) (h3 : n ≤ 140737488355328) (hf : ∀ i, i < n → ∀ j, j < s → o.f i j = f i j) (hh : RelH w h) (hr : Rd w h (.row b s 0 n) u) : Rd w hF (.sl s n f) u := by
  obtain ⟨cap, hu, hle, hlt, _⟩ := hr
  subst h1
  refine ⟨some ⟨b, 0 * o.s, none⟩, cap, hu, hle, h3, fun _ => ⟨b, 0 * o.s, rfl, hF0, hlt, fun i hi j hj => ?_⟩⟩
  obtain ⟨c, hc, hn, hp, hcell⟩ := hh.cells hb (.inl (by omega))
  obtain ⟨y, hy, hy1, hyr⟩ := hcell i (by omega) j hj
  exact ⟨y, by simp only [World.cell?, hc]; simpa using hy, hy1, by rw [← hf i hi j hj]; exact hyr.step (stp_forget hs)⟩
theorem row2g {h : Hp} {f : FuncId} {k s n : Nat} {ob : Ob} {g : Nat → Nat → AV} {x : AV} {K : AV → Hp → Prop} (hk : h k = none) (h1 : ob.s = s) (h2 : ob.n = n) (h3 : n ≤ 140737488355328) (hf : ∀ i, i < n → ∀ j, j < s → ob.f i j = g i j)
    (c : CallK Tryd.prog h f [x, .sl s n g] K) : CallK Tryd.prog (upd h k (some ob)) f [x, .row k s 0 n] K := by
  have hs : Sub h (upd h k (some ob)) := fun c oc hc => by rw [upd_ne _ _ (fun e => by rw [e, hk] at hc; cases hc)]; exact hc
  unfold CallK at c ⊢
  intro w vals hh ha
  refine (c w vals (relH_forget hh hs) ⟨ha.1, fun i a hi => ?_⟩).mono ?_
  · match i, hi with
    | 0, hi =>
      obtain ⟨u, e, r⟩ := ha.2 0 _ rfl
      cases hi
      exact ⟨u, e, r.step (stp_forget hs)⟩
    | 1, hi =>
      obtain ⟨u, e, r⟩ := ha.2 1 _ rfl
      cases hi
      exact ⟨u, e, rd_row_tz hs hk (upd_same _ _ _) h1 (by omega) h3 hf hh r⟩
  · rintro e w' ⟨u, r, h', k1, k2, k3, k4, k5, k6⟩
    exact ⟨u, r, h', k1, k2, k3, k4, k5, (stp_forget hs).trans k6⟩
theorem sum_deep : deepF sumE = 2 := by
  simp [deepF, deepsF, maxF, sumE, lit1]
  rfl
theorem trbegun_ok : Pure Tryd.prog 19 [] (B true) := by
  have hck := tcheck_ok sumE fun x hx => by
    rcases List.mem_cons.1 hx with rfl | hx
    · decide
    · rcases List.mem_cons.1 hx with rfl | hx
      · decide
      · rw [List.mem_singleton.1 hx]; decide
  have hd := deep_ok (chkE (oneE nameF)) sumE hck fun hz => by
    obtain ⟨a1, a2, a3⟩ := valid_facts (by rw [tree_chk]; exact hz)
    refine ⟨a1, a2, fun i x hx => ?_⟩
    obtain ⟨b1, b2, _⟩ := a3 i x hx
    have := ar_le x.op
    exact ⟨b1, by omega⟩
  rw [sum_chk, if_neg (by decide), sum_deep] at hd
  rw [sum_chk] at hck
  have hsl : sumE.length = 3 := rfl
  have hj := join_lit
  intro h
  refine callK_body Tryd.func19 rfl (by rw [nt19]; simp) ?_; rw [nt19, rs19]
  (repeat' (first | simp [go_sem, X_region, *] | simp (disch := omega) only [om, *] | ((first | refine XC_split ?_ ?_ | refine XG_true ?_ ?_ | refine XG_false ?_ ?_ | refine XRg_true ?_ ?_ | refine XRg_false ?_ ?_) <;> intro hc <;> (try simp only [bl] at hc) <;> (try (exfalso; omega))) | refine XD_w [] [] [] (fun _ => none) mixed (by decide +kernel) (sub_none _) ?_ | refine Pure.call (one_begun) ?_ | refine ⟨_, Pure.at (one_begun), ?_⟩ | refine ⟨_, one_begun, ?_⟩ | refine PureAt.call (one_begun) ?_ | fail))
  intro b hb
  refine row2g (g := cellsL cE [[lit1], [lit1]]) hb rfl rfl (by decide) (fun i hi j hj => ?_) ((hj h).mono ?_)
  · obtain rfl : j = 0 := by omega
    rcases (show i = 0 ∨ i = 1 by omega) with rfl | rfl <;> rfl
  · rintro r h' ⟨rfl, rfl⟩
    (repeat' (first | simp [go_sem, X_region, *] | simp (disch := omega) only [om, *] | ((first | refine XC_split ?_ ?_ | refine XG_true ?_ ?_ | refine XG_false ?_ ?_ | refine XRg_true ?_ ?_ | refine XRg_false ?_ ?_) <;> intro hc <;> (try simp only [bl] at hc) <;> (try (exfalso; omega))) | refine XD_w [] [] [] (fun _ => none) mixed (by decide +kernel) (sub_none _) ?_ | refine Pure.call (hck) ?_ | refine ⟨_, Pure.at (hck), ?_⟩ | refine ⟨_, hck, ?_⟩ | refine PureAt.call (hck) ?_ | refine Pure.call (hd) ?_ | refine ⟨_, Pure.at (hd), ?_⟩ | refine ⟨_, hd, ?_⟩ | refine PureAt.call (hd) ?_ | fail))
end Go.Proofs.YtmalhikcdideoaaDoor

set_option linter.unusedVariables false
set_option linter.unusedSimpArgs false
namespace Go.Proofs.YtmalhikcdideoaaDoor
open Go Sl
attribute [local irreducible] XRange LpQ XR XRo XRg XRQ putQ XFv XL XW2 wQ putW X XO XOp XH XHo XW SeqQ BlkQ XOQ XHQ NrmQ XC XM XG XHM XHG XD CallK
open Go.RowKit
theorem eqi_ok (l m : List Int) : Pure Tryd.prog 69 [encL 1 cI l, encL 1 cI m] (B (decide (l = m))) := by
  generalize hR : B (decide (l = m)) = R
  intro h; refine CallK.lens fun hlen => ?_; have hlen := (hlen _ (by simp only [List.mem_cons, true_or, or_true] : (encL 1 cI l) ∈ _)).encL; refine callK_body Tryd.func69 rfl (by rw [nt69]; simp) ?_; rw [nt69, rs69]
  by_cases hlm : l.length = m.length
  · (repeat' (first | simp [go_sem, X_region, *] | simp (disch := omega) only [om, *] | ((first | refine XC_split ?_ ?_ | refine XG_true ?_ ?_ | refine XG_false ?_ ?_ | refine XRg_true ?_ ?_ | refine XRg_false ?_ ?_) <;> intro hc <;> (try simp only [bl] at hc) <;> (try (exfalso; omega))) | refine XD_w [] [] [] (fun _ => none) mixed (by decide +kernel) (sub_none _) ?_ | (intro bk hbk; (try simp only [go_sem] at hbk))))
    refine X_lp (fun n T h' => ∃ (i : Nat) (r r2 : List Int), n = r.length ∧ i ≤ l.length ∧ l.drop i = r ∧ m.drop i = r2 ∧ T 13 = I i ∧ B (decide (r = r2)) = R ∧ T 0 = encL 1 cI l ∧ T 1 = encL 1 cI m ∧ T 12 = I l.length ∧ h' = h) l.length ⟨0, l, m, by simp [go_sem, hR, hlm]⟩ ?_
    clear hR; rintro J hJ n T h' ⟨i, r, r2, rfl, hi, hd, hd', h8, hR, h0, h1, h7, rfl⟩
    rcases r with _ | ⟨x, r⟩
    · have hlt := drop_nil hd
      rcases r2 with _ | ⟨y, r2⟩
      · (repeat' (first | simp [go_sem, X_region, *] | simp (disch := omega) only [om, *] | ((first | refine XC_split ?_ ?_ | refine XG_true ?_ ?_ | refine XG_false ?_ ?_ | refine XRg_true ?_ ?_ | refine XRg_false ?_ ?_) <;> intro hc <;> (try simp only [bl] at hc) <;> (try (exfalso; omega))) | refine XD_w [] [] [] (fun _ => none) mixed (by decide +kernel) (sub_none _) ?_ | (intro bk hbk; (try simp only [go_sem] at hbk))))
        all_goals (subst hR; exact Wk.of_eq (by simp))
      · obtain ⟨hlt2, _⟩ := drop_cons hd'
        omega
    · obtain ⟨hlt, hx, hd2⟩ := drop_cons hd
      rcases r2 with _ | ⟨y, r2⟩
      · have hlt2 := drop_nil hd'
        omega
      · obtain ⟨hlt2, hx2, hd2'⟩ := drop_cons hd'
        by_cases he : x = y
        · (repeat' (first | simp [go_sem, X_region, *] | simp (disch := omega) only [om, *] | ((first | refine XC_split ?_ ?_ | refine XG_true ?_ ?_ | refine XG_false ?_ ?_ | refine XRg_true ?_ ?_ | refine XRg_false ?_ ?_) <;> intro hc <;> (try simp only [bl] at hc) <;> (try (exfalso; omega))) | refine XD_w [] [] [] (fun _ => none) mixed (by decide +kernel) (sub_none _) ?_ | (intro bk hbk; (try simp only [go_sem] at hbk))))
          exact ⟨_, by omega, hJ.out _ _ _ ⟨i + 1, r, r2, rfl, by omega, hd2, hd2', by simp [go_sem, *], by rw [← hR, he]; simp, by simp [go_sem, *], by simp [go_sem, *], by simp [go_sem, *], rfl⟩⟩
        · (repeat' (first | simp [go_sem, X_region, *] | simp (disch := omega) only [om, *] | ((first | refine XC_split ?_ ?_ | refine XG_true ?_ ?_ | refine XG_false ?_ ?_ | refine XRg_true ?_ ?_ | refine XRg_false ?_ ?_) <;> intro hc <;> (try simp only [bl] at hc) <;> (try (exfalso; omega))) | refine XD_w [] [] [] (fun _ => none) mixed (by decide +kernel) (sub_none _) ?_ | (intro bk hbk; (try simp only [go_sem] at hbk))))
          all_goals (subst hR; exact Wk.of_eq (by simp [he]))
  · have hne : ¬ l = m := fun e => hlm (by rw [e])
    (repeat' (first | simp [go_sem, X_region, *] | simp (disch := omega) only [om, *] | ((first | refine XC_split ?_ ?_ | refine XG_true ?_ ?_ | refine XG_false ?_ ?_ | refine XRg_true ?_ ?_ | refine XRg_false ?_ ?_) <;> intro hc <;> (try simp only [bl] at hc) <;> (try (exfalso; omega))) | refine XD_w [] [] [] (fun _ => none) mixed (by decide +kernel) (sub_none _) ?_ | (intro bk hbk; (try simp only [go_sem] at hbk))))
    subst hR
    exact Wk.of_eq (by simp [*])
def eqNd (x y : Nd) : Bool := decide (x.op = y.op ∧ x.kd = y.kd ∧ x.n = y.n ∧ x.nm = y.nm ∧ x.kids = y.kids)
theorem eqNd_iff (x y : Nd) : eqNd x y = true ↔ x = y := by
  unfold eqNd
  rw [decide_eq_true_eq]
  constructor
  · rintro ⟨h1, h2, h3, h4, h5⟩
    cases x
    cases y
    simp only at h1 h2 h3 h4 h5
    rw [h1, h2, h3, h4, h5]
  · rintro rfl
    exact ⟨rfl, rfl, rfl, rfl, rfl⟩
theorem own_two {h h' : Hp} {b1 b2 : Nat} {o1 o2 : Ob} (h1 : h b1 = none) (h2 : h b2 = none) : Sub h (upd (upd h b1 (some o1)) b2 (some o2)) := Sub.upd h2 (Sub.upd h1 (Sub.refl _))
set_option maxHeartbeats 4000000 in
theorem eqn_ok (x y : Nd) : Pure Tryd.prog 68 [aggL (cNd x), aggL (cNd y)] (B (eqNd x y)) := by
  have hk := eqi_ok x.kids y.kids
  generalize hR : eqNd x y = R
  unfold eqNd at hR
  obtain ⟨op, kids, kd, n, nm⟩ := x
  obtain ⟨op', kids', kd', n', nm'⟩ := y
  dsimp only at hR hk
  simp only [cNd]
  intro h; refine callK_body Tryd.func68 rfl (by rw [nt68]; simp) ?_; rw [nt68, rs68]
  by_cases q1 : op = op'
  case neg =>
    have hRf : R = false := by rw [← hR]; simp [q1]
    clear hR
    subst hRf
    (repeat' (first | simp [go_sem, X_region, *] | simp (disch := omega) only [om, *] | ((first | refine XC_split ?_ ?_ | refine XG_true ?_ ?_ | refine XG_false ?_ ?_ | refine XRg_true ?_ ?_ | refine XRg_false ?_ ?_) <;> intro hc <;> (try simp only [bl] at hc) <;> (try (exfalso; omega))) | refine XD_w [] [] [] (fun _ => none) mixed (by decide +kernel) (sub_none _) ?_ | refine Pure.call (hk) ?_ | refine ⟨_, Pure.at (hk), ?_⟩ | refine ⟨_, hk, ?_⟩ | refine PureAt.call (hk) ?_ | fail))
    intro b1 hb1 b2 n1 n2 hb2
    (repeat' (first | simp [go_sem, X_region, *] | simp (disch := omega) only [om, *] | ((first | refine XC_split ?_ ?_ | refine XG_true ?_ ?_ | refine XG_false ?_ ?_ | refine XRg_true ?_ ?_ | refine XRg_false ?_ ?_) <;> intro hc <;> (try simp only [bl] at hc) <;> (try (exfalso; omega))) | refine XD_w [] [] [] (fun _ => none) mixed (by decide +kernel) (sub_none _) ?_ | refine Pure.call (hk) ?_ | refine ⟨_, Pure.at (hk), ?_⟩ | refine ⟨_, hk, ?_⟩ | refine PureAt.call (hk) ?_ | fail))
    refine Wk.fin (Sub.upd hb2 (Sub.upd hb1 (Sub.refl _))) (by simp [*])
  by_cases q2 : kd = kd'
  case neg =>
    have hRf : R = false := by rw [← hR]; simp [q2]
    clear hR
    subst hRf
    (repeat' (first | simp [go_sem, X_region, *] | simp (disch := omega) only [om, *] | ((first | refine XC_split ?_ ?_ | refine XG_true ?_ ?_ | refine XG_false ?_ ?_ | refine XRg_true ?_ ?_ | refine XRg_false ?_ ?_) <;> intro hc <;> (try simp only [bl] at hc) <;> (try (exfalso; omega))) | refine XD_w [] [] [] (fun _ => none) mixed (by decide +kernel) (sub_none _) ?_ | refine Pure.call (hk) ?_ | refine ⟨_, Pure.at (hk), ?_⟩ | refine ⟨_, hk, ?_⟩ | refine PureAt.call (hk) ?_ | fail))
    intro b1 hb1 b2 n1 n2 hb2
    (repeat' (first | simp [go_sem, X_region, *] | simp (disch := omega) only [om, *] | ((first | refine XC_split ?_ ?_ | refine XG_true ?_ ?_ | refine XG_false ?_ ?_ | refine XRg_true ?_ ?_ | refine XRg_false ?_ ?_) <;> intro hc <;> (try simp only [bl] at hc) <;> (try (exfalso; omega))) | refine XD_w [] [] [] (fun _ => none) mixed (by decide +kernel) (sub_none _) ?_ | refine Pure.call (hk) ?_ | refine ⟨_, Pure.at (hk), ?_⟩ | refine ⟨_, hk, ?_⟩ | refine PureAt.call (hk) ?_ | fail))
    refine Wk.fin (Sub.upd hb2 (Sub.upd hb1 (Sub.refl _))) (by simp [*])
  by_cases q3 : n = n'
  case neg =>
    have hRf : R = false := by rw [← hR]; simp [q3]
    clear hR
    subst hRf
    (repeat' (first | simp [go_sem, X_region, *] | simp (disch := omega) only [om, *] | ((first | refine XC_split ?_ ?_ | refine XG_true ?_ ?_ | refine XG_false ?_ ?_ | refine XRg_true ?_ ?_ | refine XRg_false ?_ ?_) <;> intro hc <;> (try simp only [bl] at hc) <;> (try (exfalso; omega))) | refine XD_w [] [] [] (fun _ => none) mixed (by decide +kernel) (sub_none _) ?_ | refine Pure.call (hk) ?_ | refine ⟨_, Pure.at (hk), ?_⟩ | refine ⟨_, hk, ?_⟩ | refine PureAt.call (hk) ?_ | fail))
    intro b1 hb1 b2 n1 n2 hb2
    (repeat' (first | simp [go_sem, X_region, *] | simp (disch := omega) only [om, *] | ((first | refine XC_split ?_ ?_ | refine XG_true ?_ ?_ | refine XG_false ?_ ?_ | refine XRg_true ?_ ?_ | refine XRg_false ?_ ?_) <;> intro hc <;> (try simp only [bl] at hc) <;> (try (exfalso; omega))) | refine XD_w [] [] [] (fun _ => none) mixed (by decide +kernel) (sub_none _) ?_ | refine Pure.call (hk) ?_ | refine ⟨_, Pure.at (hk), ?_⟩ | refine ⟨_, hk, ?_⟩ | refine PureAt.call (hk) ?_ | fail))
    refine Wk.fin (Sub.upd hb2 (Sub.upd hb1 (Sub.refl _))) (by simp [*])
  by_cases q4 : nm = nm'
  case neg =>
    have hRf : R = false := by rw [← hR]; simp [q4]
    clear hR
    subst hRf
    (repeat' (first | simp [go_sem, X_region, *] | simp (disch := omega) only [om, *] | ((first | refine XC_split ?_ ?_ | refine XG_true ?_ ?_ | refine XG_false ?_ ?_ | refine XRg_true ?_ ?_ | refine XRg_false ?_ ?_) <;> intro hc <;> (try simp only [bl] at hc) <;> (try (exfalso; omega))) | refine XD_w [] [] [] (fun _ => none) mixed (by decide +kernel) (sub_none _) ?_ | refine Pure.call (hk) ?_ | refine ⟨_, Pure.at (hk), ?_⟩ | refine ⟨_, hk, ?_⟩ | refine PureAt.call (hk) ?_ | fail))
    intro b1 hb1 b2 n1 n2 hb2
    (repeat' (first | simp [go_sem, X_region, *] | simp (disch := omega) only [om, *] | ((first | refine XC_split ?_ ?_ | refine XG_true ?_ ?_ | refine XG_false ?_ ?_ | refine XRg_true ?_ ?_ | refine XRg_false ?_ ?_) <;> intro hc <;> (try simp only [bl] at hc) <;> (try (exfalso; omega))) | refine XD_w [] [] [] (fun _ => none) mixed (by decide +kernel) (sub_none _) ?_ | refine Pure.call (hk) ?_ | refine ⟨_, Pure.at (hk), ?_⟩ | refine ⟨_, hk, ?_⟩ | refine PureAt.call (hk) ?_ | fail))
    refine Wk.fin (Sub.upd hb2 (Sub.upd hb1 (Sub.refl _))) (by simp [*])
  have hRf : R = decide (kids = kids') := by rw [← hR]; simp [q1, q2, q3, q4]
  rw [← hRf] at hk
  clear hR hRf
  subst q1 q2 q3 q4
  (repeat' (first | simp [go_sem, X_region, *] | simp (disch := omega) only [om, *] | ((first | refine XC_split ?_ ?_ | refine XG_true ?_ ?_ | refine XG_false ?_ ?_ | refine XRg_true ?_ ?_ | refine XRg_false ?_ ?_) <;> intro hc <;> (try simp only [bl] at hc) <;> (try (exfalso; omega))) | refine XD_w [] [] [] (fun _ => none) mixed (by decide +kernel) (sub_none _) ?_ | refine Pure.call (hk) ?_ | refine ⟨_, Pure.at (hk), ?_⟩ | refine ⟨_, hk, ?_⟩ | refine PureAt.call (hk) ?_ | fail))
  intro b1 hb1 b2 n1 n2 hb2
  (repeat' (first | simp [go_sem, X_region, *] | simp (disch := omega) only [om, *] | ((first | refine XC_split ?_ ?_ | refine XG_true ?_ ?_ | refine XG_false ?_ ?_ | refine XRg_true ?_ ?_ | refine XRg_false ?_ ?_) <;> intro hc <;> (try simp only [bl] at hc) <;> (try (exfalso; omega))) | refine XD_w [] [] [] (fun _ => none) mixed (by decide +kernel) (sub_none _) ?_ | refine Pure.call (hk) ?_ | refine ⟨_, Pure.at (hk), ?_⟩ | refine ⟨_, hk, ?_⟩ | refine PureAt.call (hk) ?_ | fail))
  refine Wk.fin (Sub.upd hb2 (Sub.upd hb1 (Sub.refl _))) (by simp [*])
def eqE : List Nd → List Nd → Bool
  | [], [] => true
  | x :: a, y :: b => eqNd x y && eqE a b
  | _, _ => false
theorem eqE_iff : ∀ a b : List Nd, eqE a b = true ↔ a = b
  | [], [] => by simp [eqE]
  | [], y :: b => by simp [eqE]
  | x :: a, [] => by simp [eqE]
  | x :: a, y :: b => by
    unfold eqE
    rw [Bool.and_eq_true, eqNd_iff, eqE_iff a b, List.cons.injEq]
set_option maxHeartbeats 4000000 in
theorem eqfn_ok (a b : List Nd) : Pure Tryd.prog 67 [encL 5 cNd a, encL 5 cNd b, .v (.func (.func 68) #[] #[])] (B (eqE a b)) := by
  have hcl : callable Tryd.prog 68 = true := by decide +kernel
  generalize hR : eqE a b = R
  intro h; refine CallK.lens fun hlen => ?_; have hlen := (hlen _ (by simp only [List.mem_cons, true_or, or_true] : (encL 5 cNd a) ∈ _)).encL; refine callK_body Tryd.func67 rfl (by rw [nt67]; simp) ?_; rw [nt67, rs67]
  by_cases hlm : a.length = b.length
  · (repeat' (first | simp [go_sem, X_region, *] | simp (disch := omega) only [om, *] | ((first | refine XC_split ?_ ?_ | refine XG_true ?_ ?_ | refine XG_false ?_ ?_ | refine XRg_true ?_ ?_ | refine XRg_false ?_ ?_) <;> intro hc <;> (try simp only [bl] at hc) <;> (try (exfalso; omega))) | refine XD_w [] [] [] (fun _ => none) mixed (by decide +kernel) (sub_none _) ?_ | fail))
    refine X_lpF (fun i => (6 ≤ i ∧ i ≤ 9) ∨ (17 ≤ i ∧ i ≤ 31)) (fun n T g => ∃ (i : Nat) (r r2 : List Nd), n = r.length ∧ i ≤ a.length ∧ a.drop i = r ∧ b.drop i = r2 ∧ T 17 = I i ∧ eqE r r2 = R ∧ Sub h g) a.length ⟨0, a, b, rfl, by omega, rfl, rfl, by simp [go_sem], hR, Sub.refl _⟩ ?_
    clear hR; rintro J hJ n T g hfr ⟨i, r, r2, rfl, hi, hd, hd', t17, hR, hsub⟩
    rcases r with _ | ⟨x, r⟩
    · have hlt := drop_nil hd
      rcases r2 with _ | ⟨y, r2⟩
      · rw [eqE] at hR
        subst hR
        (repeat' (first | simp [go_sem, X_region, *] | simp (disch := omega) only [om, *] | ((first | refine XC_split ?_ ?_ | refine XG_true ?_ ?_ | refine XG_false ?_ ?_ | refine XRg_true ?_ ?_ | refine XRg_false ?_ ?_) <;> intro hc <;> (try simp only [bl] at hc) <;> (try (exfalso; omega))) | refine XD_w [] [] [] (fun _ => none) mixed (by decide +kernel) (sub_none _) ?_ | fail))
        exact Wk.drop _ hsub
      · obtain ⟨hlt2, _⟩ := drop_cons hd'
        omega
    · obtain ⟨hlt, hx, hd2⟩ := drop_cons hd
      rcases r2 with _ | ⟨y, r2⟩
      · have hlt2 := drop_nil hd'
        omega
      · obtain ⟨hlt2, hx2, hd2'⟩ := drop_cons hd'
        have he := eqn_ok x y
        rw [eqE] at hR
        cases hq : eqNd x y with
        | true =>
          rw [hq, Bool.true_and] at hR
          rw [hq] at he
          (repeat' (first | simp [go_sem, X_region, *] | simp (disch := omega) only [om, *] | ((first | refine XC_split ?_ ?_ | refine XG_true ?_ ?_ | refine XG_false ?_ ?_ | refine XRg_true ?_ ?_ | refine XRg_false ?_ ?_) <;> intro hc <;> (try simp only [bl] at hc) <;> (try (exfalso; omega))) | refine XD_w [] [] [] (fun _ => none) mixed (by decide +kernel) (sub_none _) ?_ | refine Pure.call (he) ?_ | refine ⟨_, Pure.at (he), ?_⟩ | refine ⟨_, he, ?_⟩ | refine PureAt.call (he) ?_ | fail))
          intro b8 hb8 b9 n1 n2 hb9
          (repeat' (first | simp [go_sem, X_region, *] | simp (disch := omega) only [om, *] | ((first | refine XC_split ?_ ?_ | refine XG_true ?_ ?_ | refine XG_false ?_ ?_ | refine XRg_true ?_ ?_ | refine XRg_false ?_ ?_) <;> intro hc <;> (try simp only [bl] at hc) <;> (try (exfalso; omega))) | refine XD_w [] [] [] (fun _ => none) mixed (by decide +kernel) (sub_none _) ?_ | refine Pure.call (he) ?_ | refine ⟨_, Pure.at (he), ?_⟩ | refine ⟨_, he, ?_⟩ | refine PureAt.call (he) ?_ | fail))
          exact ⟨_, Nat.lt_succ_self _, hJ.out _ _ _ ⟨(by (repeat (refine fr_upd (by decide) ?_)); exact hfr), i + 1, r, r2, rfl, by omega, hd2, hd2', by simp [go_sem, *], hR, Sub.upd (sub_free hsub hb9) (Sub.upd (sub_free hsub hb8) hsub)⟩⟩
        | false =>
          rw [hq, Bool.false_and] at hR
          rw [hq] at he
          subst hR
          (repeat' (first | simp [go_sem, X_region, *] | simp (disch := omega) only [om, *] | ((first | refine XC_split ?_ ?_ | refine XG_true ?_ ?_ | refine XG_false ?_ ?_ | refine XRg_true ?_ ?_ | refine XRg_false ?_ ?_) <;> intro hc <;> (try simp only [bl] at hc) <;> (try (exfalso; omega))) | refine XD_w [] [] [] (fun _ => none) mixed (by decide +kernel) (sub_none _) ?_ | refine Pure.call (he) ?_ | refine ⟨_, Pure.at (he), ?_⟩ | refine ⟨_, he, ?_⟩ | refine PureAt.call (he) ?_ | fail))
          intro b8 hb8 b9 n1 n2 hb9
          (repeat' (first | simp [go_sem, X_region, *] | simp (disch := omega) only [om, *] | ((first | refine XC_split ?_ ?_ | refine XG_true ?_ ?_ | refine XG_false ?_ ?_ | refine XRg_true ?_ ?_ | refine XRg_false ?_ ?_) <;> intro hc <;> (try simp only [bl] at hc) <;> (try (exfalso; omega))) | refine XD_w [] [] [] (fun _ => none) mixed (by decide +kernel) (sub_none _) ?_ | refine Pure.call (he) ?_ | refine ⟨_, Pure.at (he), ?_⟩ | refine ⟨_, he, ?_⟩ | refine PureAt.call (he) ?_ | fail))
          exact Wk.drop _ (Sub.upd (sub_free hsub hb9) (Sub.upd (sub_free hsub hb8) hsub))
  · have hRf : R = false := by
      rw [← hR, Bool.eq_false_iff]
      intro he
      rw [eqE_iff] at he
      exact hlm (by rw [he])
    subst hRf
    (repeat' (first | simp [go_sem, X_region, *] | simp (disch := omega) only [om, *] | ((first | refine XC_split ?_ ?_ | refine XG_true ?_ ?_ | refine XG_false ?_ ?_ | refine XRg_true ?_ ?_ | refine XRg_false ?_ ?_) <;> intro hc <;> (try simp only [bl] at hc) <;> (try (exfalso; omega))) | refine XD_w [] [] [] (fun _ => none) mixed (by decide +kernel) (sub_none _) ?_ | fail))
theorem trequal_ok (a b : List Nd) : Pure Tryd.prog 30 [encL 5 cNd a, encL 5 cNd b] (B (eqE a b)) := by
  have he := eqfn_ok a b
  generalize eqE a b = R at *
  intro h; refine callK_body Tryd.func30 rfl (by rw [nt30]; simp) ?_; rw [nt30, rs30]
  (repeat' (first | simp [go_sem, X_region, *] | simp (disch := omega) only [om, *] | ((first | refine XC_split ?_ ?_ | refine XG_true ?_ ?_ | refine XG_false ?_ ?_ | refine XRg_true ?_ ?_ | refine XRg_false ?_ ?_) <;> intro hc <;> (try simp only [bl] at hc) <;> (try (exfalso; omega))) | refine XD_w [] [] [] (fun _ => none) mixed (by decide +kernel) (sub_none _) ?_ | refine Pure.call (he) ?_ | refine ⟨_, Pure.at (he), ?_⟩ | refine ⟨_, he, ?_⟩ | refine PureAt.call (he) ?_ | fail))
end Go.Proofs.YtmalhikcdideoaaDoor

set_option linter.unusedVariables false
set_option linter.unusedSimpArgs false
namespace Go.Proofs.YtmalhikcdideoaaDoor
open Go Sl
attribute [local irreducible] XRange LpQ XR XRo XRg XRQ putQ XFv XL XW2 wQ putW X XO XOp XH XHo XW SeqQ BlkQ XOQ XHQ NrmQ XC XM XG XHM XHG XD CallK
open Go.RowKit
theorem d_ptr : Tryd.prog.underlying 96 = some (.pointer 99) := by kernel_rfl
theorem d_uns : Tryd.prog.underlying 176 = some .unsafePointer := by kernel_rfl
theorem lies_self {P : Program} {e : TypeId} {s d count : Nat} (hc : P.cellsOf e = s) (hs : 0 < s) (hf : sameLayout P P.depth e e = true) (hd : P.depth = d + 1) (hn : 1 ≤ count) : liesAt P P.depth e count 0 e 1 = true := by
  have h1 : rowAt P (sameLayout P P.depth · e) P.depth e count 0 1 = true := by
    rw [show rowAt P (sameLayout P P.depth · e) P.depth = rowAt P (sameLayout P P.depth · e) (d + 1) by rw [hd]]
    unfold rowAt
    have hs0 : s ≠ 0 := by omega
    simp [hc, hs0, hf, hn]
  have h2 : liesAt P P.depth e count 0 e 1 = liesAt P (d + 1) e count 0 e 1 := by rw [hd]
  rw [h2]
  unfold liesAt
  rw [h1]
  rfl
set_option maxHeartbeats 1000000 in
set_option maxRecDepth 100000 in
theorem check_fresh (b n : Nat) (w : World) (h0 : w.cell? ⟨b, 0, none⟩ = some (.pointer none)) (hsh : w.shape? b = some (99, n)) (hn : 2 ≤ n) (hfz : w.frozen? ⟨b, 0, none⟩ = false) :
    Calls Tryd.prog 99 #[.pointer (some ⟨b, 0, none⟩)] w fun e w' => e = .returned (.tuple #[]) ∧ w' = w.setCell ⟨b, 0, none⟩ (.pointer (some ⟨b, 0, none⟩)) := by
  go_enter Tryd.func99, Tryd.ntmps99
  obtain ⟨j, hj, hjs⟩ : ∃ j, Tryd.prog.info? 99 = some j ∧ j.size = 2 := Option.map_eq_some_iff.1 (by kernel_rfl : (Tryd.prog.info? 99).map (·.size) = some 2)
  go_wp2
  rw [Lib.run_to_unsafe w ⟨b, 0, none⟩ d_ptr d_uns hj (by rw [hjs]; decide) hsh (show 0 < n by omega)]
  simp only [Result.andThen]
  rw [Oper.upon_value]
  go_wp2
  rw [run_callFunc_extern Tryd.func125 (by kernel_rfl) (by kernel_rfl) (by kernel_rfl) (e := Extern.AbiNoEscape.same) (by kernel_rfl)]
  rw [Lib.run_noEscape]
  simp only [Result.andThen]
  rw [Oper.upon_value]
  go_wp2
  rw [Lib.run_from_unsafe w ⟨b, 0, none⟩ d_uns d_ptr hj hsh (lies_self (s := 2) (by kernel_rfl) (by decide) (by kernel_rfl) (d := Tryd.prog.depth - 1) (by kernel_rfl) (show 1 ≤ n / Tryd.prog.cellsOf 99 by rw [(by kernel_rfl : Tryd.prog.cellsOf 99 = 2)]; omega))]
  simp only [Result.andThen]
  rw [Oper.upon_value]
  go_wp2
  go_end0
  exact ⟨rfl, rfl⟩
set_option maxHeartbeats 1000000 in
set_option maxRecDepth 100000 in
theorem check_used (b : Nat) (w : World) (h0 : w.cell? ⟨b, 0, none⟩ = some (.pointer (some ⟨b, 0, none⟩))) :
    Calls Tryd.prog 99 #[.pointer (some ⟨b, 0, none⟩)] w fun e w' => e = .returned (.tuple #[]) ∧ w' = w := by
  go_enter Tryd.func99, Tryd.ntmps99
  obtain ⟨j, hj, hjs⟩ : ∃ j, Tryd.prog.info? 99 = some j ∧ j.size = 2 := Option.map_eq_some_iff.1 (by kernel_rfl : (Tryd.prog.info? 99).map (·.size) = some 2)
  go_wp2
  rw [Lib.run_neq_ptr_same w _ d_ptr hj]
  go_wp2
  go_end0
  exact ⟨rfl, rfl⟩
set_option maxHeartbeats 2000000 in
set_option maxRecDepth 100000 in
theorem string_run (b g cap : Nat) (l : List UInt8) (cells : Nat) (w : World) (hl0 : l ≠ []) (hcap : l.length ≤ cap) (h63 : l.length ≤ 9223372036854775807) (c0 : w.cell? ⟨b, 1, none⟩ = some (.slice (some ⟨g, 0, none⟩) l.length cap))
    (hsh : w.shape? g = some (5, cells)) (hn : l.length ≤ cells) (hcell : ∀ j x, l[j]? = some x → w.cell? ((⟨g, 0, none⟩ : Addr).add j) = some (.int .u8 x.toNat)) :
    Calls Tryd.prog 64 #[.pointer (some ⟨b, 0, none⟩)] w fun e w' => e = .returned (.string ⟨l.toArray⟩) ∧ w' = w.drew.freeze ⟨g, 0, none⟩ l.length := by
  have hl : l.length ≠ 0 := by simpa using hl0
  have c1 : w.drew.cell? ⟨b, 1, none⟩ = some (.slice (some ⟨g, 0, none⟩) l.length cap) := c0
  have hSD : (Builtin.unsafeSliceData_ #[97] 151 #[.slice (some ⟨g, 0, none⟩) l.length cap]).run Tryd.prog w.drew = .ok (.pointer (some ⟨g, 0, none⟩)) w.drew :=
    Lib.run_unsafeSliceData_row _ _ _ _ _ _ (by omega)
  have hUS : (Builtin.unsafeString_ #[151, 3] 9 #[.pointer (some ⟨g, 0, none⟩), .int .i64 l.length]).run Tryd.prog w.drew = .ok (.string ⟨l.toArray⟩) (w.drew.freeze ⟨g, 0, none⟩ l.length) :=
    Lib.run_unsafeString_row w.drew 151 3 9 5 (by kernel_rfl) (by kernel_rfl) g cells hsh l hl0 hn h63 hcell
  have mixed := mixed
  go_enter Tryd.func64, Tryd.ntmps64
  go_wp2
  go_region_o
  all_goals (go_wp2; go_ret; exact ⟨rfl, rfl⟩)
set_option maxHeartbeats 2000000 in
set_option maxRecDepth 100000 in
theorem string_nil (b : Nat) (w : World) (c0 : w.cell? ⟨b, 1, none⟩ = some (.slice none 0 0)) :
    Calls Tryd.prog 64 #[.pointer (some ⟨b, 0, none⟩)] w fun e w' => e = .returned (.string ⟨#[]⟩) ∧ w' = w.drew := by
  have c1 : w.drew.cell? ⟨b, 1, none⟩ = some (.slice none 0 0) := c0
  have hSD : (Builtin.unsafeSliceData_ #[97] 151 #[.slice none 0 0]).run Tryd.prog w.drew = .ok (.pointer none) w.drew := rfl
  have hUS : (Builtin.unsafeString_ #[151, 3] 9 #[.pointer none, .int .i64 0]).run Tryd.prog w.drew = .ok (.string ⟨#[]⟩) w.drew := Lib.run_unsafeString_none w.drew _ _ _ none
  have mixed := mixed
  go_enter Tryd.func64, Tryd.ntmps64
  go_wp2
  go_region_o
  all_goals (go_wp2; go_ret; exact ⟨rfl, rfl⟩)
end Go.Proofs.YtmalhikcdideoaaDoor

set_option linter.unusedVariables false
set_option linter.unusedSimpArgs false
namespace Go.Proofs.YtmalhikcdideoaaDoor
open Go Sl
attribute [local irreducible] XRange LpQ XR XRo XRg XRQ putQ XFv XL XW2 wQ putW X XO XOp XH XHo XW SeqQ BlkQ XOQ XHQ NrmQ XC XM XG XHM XHG XD CallK
open Go.RowKit
abbrev ptrV (b : Nat) : AV := .v (.pointer (some ⟨b, 0, none⟩))
@[go_sem] def cB (c : UInt8) : List AV := [U8 c]
/-- A builder of the call's own, above the heap h0: what was written. -/
structure BldO (b : Nat) (o : Ob) : Prop where
  ty : o.ty = 99
  s : o.s = 2
  n : o.n = 1
  f : o.f 0 0 = .v (.pointer none) ∨ o.f 0 0 = ptrV b
def Bld (h0 h : Hp) (b : Nat) (l : List UInt8) : Prop := h0 b = none ∧ ∃ o, BldO b o ∧ (l = [] → o.f 0 1 = .v (.slice none 0 0)) ∧ Own (upd h0 b (some o)) h (o.f 0 1) 5 1 l.length (cellsL cB l)
theorem Bld.fresh {h : Hp} {b : Nat} (hb : h b = none) : Bld h (upd h b (some ⟨99, 2, 1, fun _ j => .v (([.pointer none, .slice none 0 0] : List Value).getD j undef)⟩)) b [] :=
  ⟨hb, _, ⟨rfl, rfl, rfl, .inl rfl⟩, fun _ => rfl, Own.none⟩
theorem Bld.sub {h0 h : Hp} {b : Nat} {l : List UInt8} (x : Bld h0 h b l) : Sub h0 h := by
  obtain ⟨hb, o, _, _, hown⟩ := x
  exact fun c oc hc => hown.1 c oc (by rw [upd_ne _ _ (ne_free hb hc).2]; exact hc)
theorem upd_id {h : Hp} {b : Nat} {o : Ob} (hb : h b = some o) : upd h b (some o) = h := by
  funext c
  by_cases hc : c = b
  · subst hc; rw [upd_same, hb]
  · rw [upd_ne _ _ hc]
def setP (b : Nat) (o : Ob) : Ob := ⟨o.ty, 2, 1, fun i j => if i = 0 ∧ j = 0 then ptrV b else o.f i j⟩
theorem check_ok {h : Hp} {b : Nat} {o : Ob} (hb : h b = some o) (ho : BldO b o) : CallK Tryd.prog h 99 [ptrV b] fun r h' => ∃ o', h' = upd h b (some o') ∧ BldO b o' ∧ o'.f 0 1 = o.f 0 1 := by
  unfold CallK
  intro w vals hh ha
  obtain rfl : vals = #[.pointer (some ⟨b, 0, none⟩)] := by
    obtain ⟨u, e, r⟩ := ha.2 0 _ rfl
    cases r
    have h1 := ha.1
    apply Array.ext
    · simpa using h1
    · intro i h2 h3
      match i, h3 with
      | 0, _ => rw [Array.getElem?_eq_getElem h2] at e; simpa using e
  obtain ⟨c, hc, hsz, _, hcell⟩ := hh.cells hb (.inl (by rw [ho.n]; omega))
  rw [ho.n, ho.s] at hsz
  obtain ⟨x0, hx0, _, hr0⟩ := hcell 0 (by rw [ho.n]; omega) 0 (by rw [ho.s]; omega)
  have hx0' : c[0]? = some x0 := by simpa using hx0
  rw [ho.ty] at hc
  have hcl : w.cell? ⟨b, 0, none⟩ = some x0 := by simp only [World.cell?, hc]; exact hx0'
  rcases ho.f with hf | hf
  · rw [hf] at hr0
    cases hr0
    refine (check_fresh b c.size w hcl (by simp [World.shape?, hc]) (by omega) (by simp [World.frozen?, hc])).mono ?_
    rintro e w' ⟨rfl, rfl⟩
    have hs : (w.setCell ⟨b, 0, none⟩ (.pointer (some ⟨b, 0, none⟩))).heap[b]? = some (.cells (c.setIfInBounds 0 (.pointer (some ⟨b, 0, none⟩))) o.ty (0, 0)) := by
      rw [ho.ty]
      simp [World.setCell, Array.getElem?_modify, hc]
    have hoth : ∀ k, k ≠ b → k < w.heap.size → (w.setCell ⟨b, 0, none⟩ (.pointer (some ⟨b, 0, none⟩))).heap[k]? = w.heap[k]? := fun k hk _ => by
      simp [World.setCell, Array.getElem?_modify, Ne.symm hk]
    have hsize : w.heap.size ≤ (w.setCell ⟨b, 0, none⟩ (.pointer (some ⟨b, 0, none⟩))).heap.size := by simp [World.setCell]
    have hc2 : w.heap[b]? = some (.cells c o.ty (0, 0)) := by rw [ho.ty]; exact hc
    have hrel := relH_set (o' := setP b o) hh hb hc2 hs (by simp) hoth hsize rfl (by simpa [setP] using hsz) (by show 0 < 2; decide) fun i hi j hj => by
      have hi : i < 1 := hi
      obtain rfl : i = 0 := by omega
      have hj : j < 2 := hj
      rcases (show j = 0 ∨ j = 1 by omega) with rfl | rfl
      · exact ⟨.pointer (some ⟨b, 0, none⟩), by simp [setP, show 0 < c.size by omega], rfl, rfl⟩
      · obtain ⟨x1, hx1, h1, hr1⟩ := hcell 0 (by rw [ho.n]; omega) 1 (by rw [ho.s]; omega)
        exact ⟨x1, by simpa [setP] using hx1, h1, by simpa [setP] using hr1⟩
    have hst := stp_set (o' := setP b o) hb hc2 hs (by simp) hoth hsize rfl
    exact ⟨_, .tup 0 fun _ => .any, upd h b (some (setP b o)), rfl, ⟨setP b o, rfl, ⟨ho.ty, rfl, rfl, .inr rfl⟩, rfl⟩, ⟨#[], rfl, rfl, fun j hj => absurd hj (by omega)⟩, hrel, ⟨rfl, rfl, rfl⟩, hst⟩
  · rw [hf] at hr0
    cases hr0
    refine (check_used b w hcl).mono ?_
    rintro e w' ⟨rfl, rfl⟩
    exact ⟨_, .tup 0 fun _ => .any, h, rfl, ⟨o, (upd_id hb).symm, ho, rfl⟩, ⟨#[], rfl, rfl, fun j hj => absurd hj (by omega)⟩, hh, Io.refl _, Stp.refl _ _⟩
/-- What is read of a builder; nothing of what was made since h0 is the call's own any more. -/
theorem string_ok {h0 h : Hp} {b : Nat} {l : List UInt8} (x : Bld h0 h b l) (hl : l.length ≤ 140737488355328) : CallK Tryd.prog h 64 [ptrV b] fun r h' => r = S (bOf l) ∧ h' = h0 := by
  have hsub := x.sub
  obtain ⟨hb0, o, ho, hnil, hown⟩ := x
  have hb := hown.1 b o (upd_same _ _ _)
  unfold CallK
  intro w vals hh ha
  obtain rfl : vals = #[.pointer (some ⟨b, 0, none⟩)] := by
    obtain ⟨u, e, r⟩ := ha.2 0 _ rfl
    cases r
    have h1 := ha.1
    apply Array.ext
    · simpa using h1
    · intro i h2 h3
      match i, h3 with
      | 0, _ => rw [Array.getElem?_eq_getElem h2] at e; simpa using e
  obtain ⟨c, hc, hsz, _, hcell⟩ := hh.cells hb (.inl (by rw [ho.n]; omega))
  rw [ho.n, ho.s] at hsz
  obtain ⟨x1, hx1, _, hr1⟩ := hcell 0 (by rw [ho.n]; omega) 1 (by rw [ho.s]; omega)
  have hx1' : c[1]? = some x1 := by simpa [ho.s] using hx1
  have hcl : w.cell? ⟨b, 1, none⟩ = some x1 := by simp only [World.cell?, hc]; exact hx1'
  rcases l with _ | ⟨c0, l⟩
  · rw [hnil rfl] at hr1
    cases hr1
    refine (string_nil b w hcl).mono ?_
    rintro e w' ⟨rfl, rfl⟩
    exact ⟨_, _, h0, rfl, ⟨rfl, rfl⟩, rfl, (relH_forget hh hsub).grow (Nat.le_refl _) (fun _ _ => rfl), ⟨rfl, rfl, rfl⟩, (stp_forget hsub).trans (Stp.grow (relH_forget hh hsub) (Nat.le_refl _) fun _ _ => rfl)⟩
  · rcases hown with ⟨_, ⟨hz, _⟩ | ⟨g, og, hrow, hg0, hg, s1, s2, s3, hpos, hf⟩⟩
    · cases hz
    rw [hrow] at hr1
    obtain ⟨cap, rfl, hcap, hlt, _, hsize⟩ := hr1
    obtain ⟨cg, hcg, hgsz, _, hgc⟩ := hh.cells hg (.inl (by omega))
    rw [s1, s3, Nat.mul_one] at hgsz
    rw [s2] at hcg
    have hw0 : ((0 : Nat) * 1) = 0 := rfl
    rw [hw0] at hcl
    refine (string_run b g cap (c0 :: l) cg.size w (by simp) hcap (by omega) hcl (by simp [World.shape?, hcg]) hgsz (fun j y hy => ?_)).mono ?_
    · have hj : j < (c0 :: l).length := (List.getElem?_eq_some_iff.1 hy).1
      obtain ⟨z, hz, _, hrz⟩ := hgc j (by omega) 0 (by omega)
      rw [hf j hj 0 (by omega), cellsL_at hy] at hrz
      cases hrz
      rw [s1] at hz
      have : ((⟨g, 0, none⟩ : Addr).add j) = ⟨g, j, none⟩ := by
        unfold Addr.add
        by_cases hj0 : j = 0 <;> simp [hj0]
      rw [this]
      simp only [World.cell?, hcg]
      simpa using hz
    · rintro e w' ⟨rfl, rfl⟩
      have hoth : ∀ k, k ≠ g → (w.drew.freeze ⟨g, 0, none⟩ (c0 :: l).length).heap[k]? = w.heap[k]? := fun k hk => by
        unfold World.freeze
        split
        · rfl
        · have e : w.drew.heap = w.heap := rfl
          simp [Array.getElem?_modify, Ne.symm hk, e]
      have hsz2 : w.heap.size ≤ (w.drew.freeze ⟨g, 0, none⟩ (c0 :: l).length).heap.size := by
        unfold World.freeze
        split
        · exact Nat.le_refl _
        · have e : w.drew.heap = w.heap := rfl
          simp [e]
      have h0g : h0 g = none := by
        rw [← hg0, upd_ne _ _ (fun e => by rw [e, upd_same] at hg0; cases hg0)]
      have st : Stp w h (w.drew.freeze ⟨g, 0, none⟩ (c0 :: l).length) h0 := by
        refine ⟨hsz2, fun k _ hk => hoth k (fun e => by rw [e, hg] at hk; cases hk), fun k _ hk => sub_none_of hsub hk, fun k o' _ hk => ?_⟩
        have hkg : k ≠ g := fun e => by rw [e, h0g] at hk; cases hk
        exact ⟨o', hsub k o' hk, rfl, fun c fr hcc => ⟨c, fr, (hoth k hkg).trans hcc, rfl⟩⟩
      have hrel : RelH (w.drew.freeze ⟨g, 0, none⟩ (c0 :: l).length) h0 := by
        refine ⟨fun k o' hk => ?_, hh.glob.step st⟩
        have hkg : k ≠ g := fun e => by rw [e, h0g] at hk; cases hk
        exact (hh.own k o' (hsub k o' hk)).step st (hoth k hkg)
      refine ⟨_, _, h0, rfl, ⟨rfl, rfl⟩, rfl, hrel, ?_, st⟩
      unfold World.freeze
      split
      · exact ⟨rfl, rfl, rfl⟩
      · exact ⟨rfl, rfl, rfl⟩
end Go.Proofs.YtmalhikcdideoaaDoor

set_option linter.unusedVariables false
set_option linter.unusedSimpArgs false
namespace Go.Proofs.YtmalhikcdideoaaDoor
open Go Sl
attribute [local irreducible] XRange LpQ XR XRo XRg XRQ putQ XFv XL XW2 wQ putW X XO XOp XH XHo XW SeqQ BlkQ XOQ XHQ NrmQ XC XM XG XHM XHG XD CallK
theorem Own.congr {h0 h : Hp} {a : AV} {e : TypeId} {s n : Nat} {f g : Nat → Nat → AV} (o : Own h0 h a e s n f) (hfg : ∀ i, i < n → ∀ j, j < s → f i j = g i j) : Own h0 h a e s n g := by
  obtain ⟨hs, ho⟩ := o
  refine ⟨hs, ho.imp id ?_⟩
  rintro ⟨b, o, h1, h2, h3, h4, h5, h6, h7, h8⟩
  exact ⟨b, o, h1, h2, h3, h4, h5, h6, h7, fun i hi j hj => (h8 i hi j hj).trans (hfg i hi j hj)⟩
/-- An append of a text, whatever block it gives. -/
theorem Own.appendStr {P : Program} {N : Nat} {T : Nat → AV} {h0 h : Hp} {K : (Nat → AV) → Hp → Prop} {d : Option Tmp} {x y : Operand} {t u e : TypeId} {t' : TypeId} {p : String} {af : Array Edge} {g : Option (Nat × Bool)} {n by_ : Nat} {z : List Value} {f : Nat → Nat → AV} {s : ByteArray} {a : AV}
    (o : Own h0 h a e 1 n f) (ha : ev T x = a) (hne : a ≠ .e0) (hu : P.underlying t = some (.slice e)) (hu' : P.underlying u = some .string) (hz : zeroA P e = some (1, z)) (hb : bytesT P e = some by_) (hd : dOk N d = true) (hs : ev T y = .v (.string s)) (hm : (n + s.size) * by_ ≤ 140737488355328) (hm' : n + s.size ≤ 140737488355328)
    (hk : ∀ a' h', Own h0 h' a' e 1 (n + s.size) (fun i j => if i < n then f i j else bytesF s (i - n) j) → (∀ c oc, h c = some oc → a ≠ .row c 1 0 n → h' c = some oc) → K (putD T d a') h') : XW P N ⟨d, .call ⟨.builtin .append, #[x, y], #[t, u]⟩, t', p, af, g⟩ T h K := by
  have hsub := o.1
  unfold XW
  refine ⟨hd, .inr ⟨e, z, by_, s, hu, hu', hz, hb, hs, ?_⟩⟩
  rcases o with ⟨_, ⟨hn, ha' | ha'⟩ | ⟨b, ob, ha', hb0, h1, h2, h4, h5, hpos, h6⟩⟩
  · subst hn
    refine .inl ⟨ha.trans ha', by simpa using hm, by omega, fun h => hk _ _ ⟨hsub, .inl ⟨by omega, .inl rfl⟩⟩ (fun c oc hc _ => hc), fun hpos b hbn => hk _ _ ⟨Sub.upd ?_ hsub, .inr ⟨b, _, by simp, ?_, upd_same _ _ _, rfl, rfl, by simp, by omega, fun i hi j hj => by simp [bytesF]⟩⟩ (fun c oc hc _ => by rw [upd_ne _ _ (fun e => by subst e; rw [hc] at hbn; cases hbn)]; exact hc)⟩
    · exact sub_none_of hsub hbn
    · exact sub_none_of hsub hbn
  · exact absurd ha' hne
  · refine .inr ⟨b, n, ob, ha.trans ha', h1, h2, h4, h5, hm, hm', fun b' hb' => hk _ _ ⟨?_, .inr ⟨b', _, rfl, ?_, upd_same _ _ _, rfl, rfl, rfl, by omega, fun i hi j hj => ?_⟩⟩ (fun c oc hc hne => ?_)⟩
    · have hb'0 : h0 b' = Option.none := by
        rcases hb' with rfl | hb'
        · exact hb0
        · exact sub_none_of hsub hb'
      exact Sub.upd hb'0 (Sub.upd hb0 hsub)
    · rcases hb' with rfl | hb'
      · exact hb0
      · exact sub_none_of hsub hb'
    · show (if i < n then ob.f i j else bytesF s (i - n) j) = (if i < n then f i j else bytesF s (i - n) j)
      split
      · rw [h6 i (by omega) j hj]
      · rfl
    · have hcb : c ≠ b := fun e => hne (by rw [ha', e])
      have hcb' : c ≠ b' := by
        rcases hb' with rfl | hb'
        · exact hcb
        · intro e; subst e; rw [hc] at hb'; cases hb'
      rw [upd_ne _ _ hcb', upd_ne _ _ hcb]; exact hc
theorem write_ok {h0 h : Hp} {b : Nat} {l : List UInt8} (x : Bld h0 h b l) (s : ByteArray) (hne : l ≠ [] ∨ s.data.toList ≠ []) (hlen : l.length + s.size ≤ 140737488355328) :
    CallK Tryd.prog h 63 [ptrV b, S s] fun r h' => Bld h0 h' b (l ++ s.data.toList) := by
  obtain ⟨hb0, o, ho, hnil, hown⟩ := x
  have hb := hown.1 b o (upd_same _ _ _)
  refine callK_body Tryd.func63 rfl (by rw [nt63]; simp) ?_; rw [nt63, rs63]
  (repeat' (first | simp [go_sem, X_region, *] | simp (disch := omega) only [om, *] | ((first | refine XC_split ?_ ?_ | refine XG_true ?_ ?_ | refine XG_false ?_ ?_ | refine XRg_true ?_ ?_ | refine XRg_false ?_ ?_) <;> intro hc <;> (try simp only [bl] at hc) <;> (try (exfalso; omega))) | refine XD_w [] [] [] (fun _ => none) mixed (by decide +kernel) (sub_none _) ?_ | fail))
  refine CallK.mono (check_ok hb ho) ?_
  rintro r1 h1 ⟨o1, rfl, ho1, hf1⟩
  have own1 : Own (upd h0 b (some o1)) (upd h b (some o1)) (o1.f 0 1) 5 1 l.length (cellsL cB l) := by
    rw [hf1]
    have := hown.other (o2 := o1) (upd_same _ _ _) fun c hc e => by
      rcases hown with ⟨_, ⟨_, h2 | h2⟩ | ⟨g, og, h2, h3, _⟩⟩
      · rw [hc] at h2; cases h2
      · rw [hc] at h2; cases h2
      · rw [hc] at h2
        cases h2
        subst e
        rw [upd_same] at h3
        cases h3
    rwa [upd_upd] at this
  have hne0 : o1.f 0 1 ≠ .e0 := by
    rw [hf1]
    intro e
    by_cases hl : l = []
    · rw [hnil hl] at e; cases e
    · rcases hown with ⟨_, ⟨h1, _⟩ | ⟨g, og, h2, _⟩⟩
      · exact hl (List.length_eq_zero_iff.1 h1)
      · rw [h2] at e; cases e
  clear hown hf1
  generalize hh1 : upd h b (some o1) = h1 at *
  have hb1 : h1 b = some o1 := by rw [← hh1, upd_same]
  clear hh1
  have e1 := ho1.s
  have e2 := ho1.n
  obtain ⟨a, ha⟩ : ∃ a, o1.f 0 1 = a := ⟨_, rfl⟩
  rw [ha] at own1 hne0
  (repeat' (first | simp [go_sem, X_region, *] | simp (disch := omega) only [om, *] | ((first | refine XC_split ?_ ?_ | refine XG_true ?_ ?_ | refine XG_false ?_ ?_ | refine XRg_true ?_ ?_ | refine XRg_false ?_ ?_) <;> intro hc <;> (try simp only [bl] at hc) <;> (try (exfalso; omega))) | refine XD_w [] [] [] (fun _ => none) mixed (by decide +kernel) (sub_none _) ?_ | fail))
  refine Own.appendStr own1 (by simp [go_sem]) hne0 und97 und9 zr5 by5 (by simp [go_sem]) (s := s) (by simp [go_sem]) (by omega) (by omega) ?_
  rintro a' h2 own2 hk2
  have hb2 : h2 b = some o1 := own2.1 b o1 (upd_same _ _ _)
  have hpos : 0 < l.length + s.size := by
    rcases hne with h | h
    · have := List.length_pos_iff.2 h
      omega
    · have : 0 < s.data.toList.length := List.length_pos_iff.2 h
      have : s.size = s.data.toList.length := rfl
      omega
  have hgb : ∀ c, a' = .row c 1 0 (l.length + s.size) → c ≠ b := by
    rintro c hc rfl
    rcases own2 with ⟨_, ⟨h1, _⟩ | ⟨g, og, h1, h3, _⟩⟩
    · omega
    · rw [h1] at hc
      cases hc
      rw [upd_same] at h3
      cases h3
  obtain ⟨g, hg⟩ : ∃ g, a' = .row g 1 0 (l.length + s.size) := by
    rcases own2 with ⟨_, ⟨h1, _⟩ | ⟨g, og, h1, _⟩⟩
    · omega
    · exact ⟨g, h1⟩
  have hf0 := ho1.f
  subst hg
  (repeat' (first | simp [go_sem, X_region, *] | simp (disch := omega) only [om, *] | ((first | refine XC_split ?_ ?_ | refine XG_true ?_ ?_ | refine XG_false ?_ ?_ | refine XRg_true ?_ ?_ | refine XRg_false ?_ ?_) <;> intro hc <;> (try simp only [bl] at hc) <;> (try (exfalso; omega))) | refine XD_w [] [] [] (fun _ => none) mixed (by decide +kernel) (sub_none _) ?_ | fail))
  refine ⟨_, _, Wk.refl _ _, hb0, ⟨o1.ty, 2, 1, fun i' j' => if i' = 0 ∧ 1 ≤ j' ∧ j' < 2 then AV.row g 1 0 (l.length + s.size) else o1.f i' j'⟩, ⟨ho1.ty, rfl, rfl, ?_⟩, fun h => ?_, ?_⟩
  · simpa using hf0
  · rw [List.append_eq_nil_iff] at h
    rcases hne with h' | h'
    · exact absurd h.1 h'
    · exact absurd h.2 h'
  · have e1 := own2.other (o2 := ⟨o1.ty, 2, 1, fun i' j' => if i' = 0 ∧ 1 ≤ j' ∧ j' < 2 then AV.row g 1 0 (l.length + s.size) else o1.f i' j'⟩) (upd_same _ _ _) fun c hc => hgb c hc
    rw [upd_upd] at e1
    have e2 : (l ++ s.data.toList).length = l.length + s.size := by rw [List.length_append]; rfl
    rw [e2]
    refine Own.congr e1 fun i hi j hj => ?_
    obtain rfl : j = 0 := by omega
    by_cases hil : i < l.length
    · rw [if_pos hil, cellsL_at (x := l[i]) (by simp [hil]), cellsL_at (x := l[i]) (by rw [List.getElem?_append_left hil]; simp)]
    · have h3 : i - l.length < s.data.toList.length := by have : s.size = s.data.toList.length := rfl; omega
      rw [if_neg hil, cellsL_at (x := s.data.toList[i - l.length]) (by rw [List.getElem?_append_right (by omega)]; simp)]
      unfold bytesF
      rw [List.getD_eq_getElem?_getD, List.getElem?_eq_getElem h3]
      rfl
end Go.Proofs.YtmalhikcdideoaaDoor

set_option linter.unusedVariables false
set_option linter.unusedSimpArgs false
namespace Go.Proofs.YtmalhikcdideoaaDoor
open Go Sl
attribute [local irreducible] XRange LpQ XR XRo XRg XRQ putQ XFv XL XW2 wQ putW X XO XOp XH XHo XW SeqQ BlkQ XOQ XHQ NrmQ XC XM XG XHM XHG XD CallK
theorem vals_one {w : World} {h : Hp} {x : Value} {vals : Array Value} (ha : RdL w h [.v x] vals) : vals = #[x] := by
  obtain ⟨u, e, r⟩ := ha.2 0 _ rfl
  cases r
  have h1 := ha.1
  apply Array.ext
  · simpa using h1
  · intro i h2 h3
    match i, h3 with
    | 0, _ => rw [Array.getElem?_eq_getElem h2] at e; simpa using e
theorem tab_of {w : World} {h : Hp} (hh : RelH w h) : Lib.TabIs Tryd.prog w "internal/strconv.uint64pow10" .u64 Lib.pow10Tab := by
  obtain ⟨_, ⟨ty, fr, hc⟩, _⟩ := hh.glob (5, powL) (by simp [gl])
  have hg : Tryd.prog.globalNamed "internal/strconv.uint64pow10" = some 5 := by kernel_rfl
  have hc' : w.heap[5]? = some (Obj.cells powL.toArray ty fr) := hc
  unfold Lib.TabIs World.var?
  rw [hg, Option.bind_some, hc']
  rfl
theorem itoa_ok (n : Int) (h0 : -9223372036854775808 ≤ n) (h1 : n ≤ 9223372036854775807) : Pure Tryd.prog 98 [I n] (S ⟨(Lib.itoa n).toArray⟩) := by
  intro h
  unfold CallK
  intro w vals hh ha
  obtain rfl : vals = #[.int .i64 n] := vals_one ha
  refine (Any.strconv_Itoa Tryd.laysM171 n h0 h1 w (tab_of hh)).mono ?_
  rintro e w' ⟨rfl, k, os, rfl⟩
  have hb : ∀ b, b < w.heap.size → (Go.Sort.grow (w.drewN k) os).heap[b]? = w.heap[b]? := fun b hb => by
    have : (w.drewN k).heap = w.heap := rfl
    simp [Go.Sort.grow, this, Array.getElem?_append_left hb]
  have hs : w.heap.size ≤ (Go.Sort.grow (w.drewN k) os).heap.size := by
    have : (w.drewN k).heap = w.heap := rfl
    simp [Go.Sort.grow, this]
  exact ⟨_, _, h, rfl, ⟨rfl, rfl⟩, rfl, hh.grow hs hb, ⟨rfl, rfl, rfl⟩, Stp.grow hh hs hb⟩
def boolB (b : Bool) : ByteArray := if b then ⟨#[116, 114, 117, 101]⟩ else ⟨#[102, 97, 108, 115, 101]⟩
theorem fbool1_ok (b : Bool) : Pure Tryd.prog 100 [B b] (S (boolB b)) := by
  cases b
  · intro h; refine callK_body Tryd.func100 rfl (by rw [nt100]; simp) ?_; rw [nt100, rs100]
    ((repeat' (first | simp [go_sem, X_region, *] | simp (disch := omega) only [om, *] | ((first | refine XC_split ?_ ?_ | refine XG_true ?_ ?_ | refine XG_false ?_ ?_ | refine XRg_true ?_ ?_ | refine XRg_false ?_ ?_) <;> intro hc <;> (try simp only [bl] at hc) <;> (try (exfalso; omega))) | refine XD_w [] [] [] (fun _ => none) mixed (by decide +kernel) (sub_none _) ?_ | (intro bk hbk; (try simp only [go_sem] at hbk)))); all_goals (refine Wk.fin (by repeat (first | exact Sub.refl _ | refine Sub.upd (by simp [*]) ?_)) ?_; first | (simp [boolB, *]; done) | (simp only [boolB]; (repeat' (first | split | rfl | omega | (simp_all; done))); done) | (simp [boolB, *]; (repeat' (first | split | omega | (rw [Bool.eq_iff_iff]; simp; omega))); done) | (simp [boolB, *])))
  · intro h; refine callK_body Tryd.func100 rfl (by rw [nt100]; simp) ?_; rw [nt100, rs100]
    ((repeat' (first | simp [go_sem, X_region, *] | simp (disch := omega) only [om, *] | ((first | refine XC_split ?_ ?_ | refine XG_true ?_ ?_ | refine XG_false ?_ ?_ | refine XRg_true ?_ ?_ | refine XRg_false ?_ ?_) <;> intro hc <;> (try simp only [bl] at hc) <;> (try (exfalso; omega))) | refine XD_w [] [] [] (fun _ => none) mixed (by decide +kernel) (sub_none _) ?_ | (intro bk hbk; (try simp only [go_sem] at hbk)))); all_goals (refine Wk.fin (by repeat (first | exact Sub.refl _ | refine Sub.upd (by simp [*]) ?_)) ?_; first | (simp [boolB, *]; done) | (simp only [boolB]; (repeat' (first | split | rfl | omega | (simp_all; done))); done) | (simp [boolB, *]; (repeat' (first | split | omega | (rw [Bool.eq_iff_iff]; simp; omega))); done) | (simp [boolB, *])))
theorem fbool_ok (b : Bool) : Pure Tryd.prog 71 [B b] (S (boolB b)) := by
  intro h; refine callK_body Tryd.func71 rfl (by rw [nt71]; simp) ?_; rw [nt71, rs71]
  ((repeat' (first | simp [go_sem, X_region, *] | simp (disch := omega) only [om, *] | ((first | refine XC_split ?_ ?_ | refine XG_true ?_ ?_ | refine XG_false ?_ ?_ | refine XRg_true ?_ ?_ | refine XRg_false ?_ ?_) <;> intro hc <;> (try simp only [bl] at hc) <;> (try (exfalso; omega))) | refine XD_w [] [] [] (fun _ => none) mixed (by decide +kernel) (sub_none _) ?_ | refine Pure.call (fbool1_ok _) ?_ | refine ⟨_, Pure.at (fbool1_ok _), ?_⟩ | refine ⟨_, fbool1_ok _, ?_⟩ | refine PureAt.call (fbool1_ok _) ?_ | (intro bk hbk; (try simp only [go_sem] at hbk)))); all_goals (refine Wk.fin (by repeat (first | exact Sub.refl _ | refine Sub.upd (by simp [*]) ?_)) ?_; first | (simp [*]; done) | (simp only []; (repeat' (first | split | rfl | omega | (simp_all; done))); done) | (simp [*]; (repeat' (first | split | omega | (rw [Bool.eq_iff_iff]; simp; omega))); done) | (simp [*])))
end Go.Proofs.YtmalhikcdideoaaDoor

set_option linter.unusedVariables false
set_option linter.unusedSimpArgs false
namespace Go.Proofs.YtmalhikcdideoaaDoor
open Go Sl
attribute [local irreducible] XRange LpQ XR XRo XRg XRQ putQ XFv XL XW2 wQ putW X XO XOp XH XHo XW SeqQ BlkQ XOQ XHQ NrmQ XC XM XG XHM XHG XD CallK
open Go.RowKit
theorem rd_row_to {w : World} {h hF : Hp} {b s n : Nat} {o : Ob} {f : Nat → Nat → AV} {u : Value} (hs : Sub hF h) (hF0 : hF b = none) (hb : h b = some o) (h1 : o.s = s) (h2 : n ≤ o.n) (h3 : n ≤ 140737488355328) (hf : ∀ i, i < n → ∀ j, j < s → o.f i j = f i j) (hh : RelH w h) (hr : Rd w h (.row b s 0 n) u) : Rd w hF (.sl s n f) u := by
  obtain ⟨cap, hu, hle, hlt, _⟩ := hr
  subst h1
  refine ⟨some ⟨b, 0 * o.s, none⟩, cap, hu, hle, h3, fun _ => ⟨b, 0 * o.s, rfl, hF0, hlt, fun i hi j hj => ?_⟩⟩
  obtain ⟨c, hc, hn, hp, hcell⟩ := hh.cells hb (.inl (by omega))
  obtain ⟨y, hy, hy1, hyr⟩ := hcell i (by omega) j hj
  exact ⟨y, by simp only [World.cell?, hc]; simpa using hy, hy1, by rw [← hf i hi j hj]; exact hyr.step (stp_forget hs)⟩
/-- A call that is handed a literal's row, and forgets it. -/
theorem CallK.row2 {h : Hp} {f : FuncId} {k s n : Nat} {ob : Ob} {g : Nat → Nat → AV} {x : Value} {K : AV → Hp → Prop} (hk : h k = none) (h1 : ob.s = s) (h2 : ob.n = n) (h3 : n ≤ 140737488355328) (hf : ∀ i, i < n → ∀ j, j < s → ob.f i j = g i j)
    (c : CallK Tryd.prog h f [.v x, .sl s n g] K) : CallK Tryd.prog (upd h k (some ob)) f [.v x, .row k s 0 n] K := by
  have hs : Sub h (upd h k (some ob)) := fun c oc hc => by rw [upd_ne _ _ (fun e => by rw [e, hk] at hc; cases hc)]; exact hc
  unfold CallK at c ⊢
  intro w vals hh ha
  refine (c w vals (relH_forget hh hs) ⟨ha.1, fun i a hi => ?_⟩).mono ?_
  · match i, hi with
    | 0, hi =>
      obtain ⟨u, e, r⟩ := ha.2 0 _ rfl
      cases hi
      exact ⟨u, e, r⟩
    | 1, hi =>
      obtain ⟨u, e, r⟩ := ha.2 1 _ rfl
      cases hi
      exact ⟨u, e, rd_row_to hs hk (upd_same _ _ _) h1 (by omega) h3 hf hh r⟩
  · rintro e w' ⟨u, r, h', k1, k2, k3, k4, k5, k6⟩
    exact ⟨u, r, h', k1, k2, k3, k4, k5, (stp_forget hs).trans k6⟩
theorem Bld.alloc {h0 h : Hp} {b k : Nat} {l : List UInt8} {ob : Ob} (x : Bld h0 h b l) (hk : h k = none) : Bld h0 (upd h k (some ob)) b l := by
  obtain ⟨hb, o, h1, h2, h3⟩ := x
  exact ⟨hb, o, h1, h2, h3.alloc hk⟩
theorem Bld.weaken {h0 h1 h : Hp} {b : Nat} {l : List UInt8} (x : Bld h1 h b l) (hs : Sub h0 h1) : Bld h0 h b l := by
  obtain ⟨hb, o, e1, e2, e3⟩ := x
  have hs2 : Sub (upd h0 b (some o)) (upd h1 b (some o)) := fun c oc hc => by
    by_cases hcb : c = b
    · subst hcb; rw [upd_same] at hc ⊢; exact hc
    · rw [upd_ne _ _ hcb] at hc ⊢; exact hs c oc hc
  refine ⟨sub_none_of hs hb, o, e1, e2, fun c oc hc => e3.1 c oc (hs2 c oc hc), ?_⟩
  rcases e3.2 with h | ⟨g, og, k1, k2, k3⟩
  · exact .inl h
  · exact .inr ⟨g, og, k1, sub_none_of hs2 k2, k3⟩
def numsL : List Int → List UInt8
  | [] => []
  | n :: l => Lib.itoa n ++ [32] ++ numsL l
theorem rnum_ok {h0 h : Hp} {b : Nat} {s : List UInt8} (x : Bld h0 h b s) (l : List Int) (hlen : s.length + 22 * l.length ≤ 140737488355328) (hi : ∀ n ∈ l, -9223372036854775808 ≤ n ∧ n ≤ 9223372036854775807) :
    CallK Tryd.prog h 62 [ptrV b, encL 1 cI l] fun r h' => Bld h0 h' b (s ++ numsL l) := by
  refine callK_body Tryd.func62 rfl (by rw [nt62]; simp) ?_; rw [nt62, rs62]
  (repeat' (first | simp [go_sem, X_region, *] | simp (disch := omega) only [om, *] | ((first | refine XC_split ?_ ?_ | refine XG_true ?_ ?_ | refine XG_false ?_ ?_ | refine XRg_true ?_ ?_ | refine XRg_false ?_ ?_) <;> intro hc <;> (try simp only [bl] at hc) <;> (try (exfalso; omega))) | refine XD_w [] [] [] (fun _ => none) mixed (by decide +kernel) (sub_none _) ?_ | fail))
  obtain ⟨R, hR⟩ : ∃ R : List UInt8, s ++ numsL l = R := ⟨_, rfl⟩
  refine X_lpF (fun i => i = 5 ∨ (8 ≤ i ∧ i ≤ 17)) (fun n T h' => ∃ (i : Nat) (r : List Int) (acc : List UInt8), n = r.length ∧ i ≤ l.length ∧ l.drop i = r ∧ T 8 = I i ∧ Bld h0 h' b acc ∧ acc ++ numsL r = R ∧ acc.length + 22 * r.length ≤ 140737488355328) l.length
    ⟨0, l, s, rfl, by omega, rfl, by simp [go_sem], x, hR, hlen⟩ ?_
  clear x
  rintro J hJ n T h' hfr ⟨i, r, acc, rfl, hle, hd, h8, x, hacc, hal⟩
  rcases r with _ | ⟨y, r⟩
  · have hlt := drop_nil hd
    obtain rfl : i = l.length := by omega
    simp only [numsL, List.append_nil] at hacc
    subst hacc
    (repeat' (first | simp [go_sem, X_region, *] | simp (disch := omega) only [om, *] | ((first | refine XC_split ?_ ?_ | refine XG_true ?_ ?_ | refine XG_false ?_ ?_ | refine XRg_true ?_ ?_ | refine XRg_false ?_ ?_) <;> intro hc <;> (try simp only [bl] at hc) <;> (try (exfalso; omega))) | refine XD_w [] [] [] (fun _ => none) mixed (by decide +kernel) (sub_none _) ?_ | fail))
    exact ⟨_, _, Wk.refl _ _, x⟩
  · obtain ⟨hlt, hx, hd2⟩ := drop_cons hd
    have hy := hi y (by rw [← hx]; exact List.getElem_mem hlt)
    have hit := itoa_ok y hy.1 hy.2
    have hil := Lib.itoa_length_le y hy.1 hy.2
    (repeat' (first | simp [go_sem, X_region, *] | simp (disch := omega) only [om, *] | ((first | refine XC_split ?_ ?_ | refine XG_true ?_ ?_ | refine XG_false ?_ ?_ | refine XRg_true ?_ ?_ | refine XRg_false ?_ ?_) <;> intro hc <;> (try simp only [bl] at hc) <;> (try (exfalso; omega))) | refine XD_w [] [] [] (fun _ => none) mixed (by decide +kernel) (sub_none _) ?_ | refine Pure.call (hit) ?_ | refine ⟨_, Pure.at (hit), ?_⟩ | refine ⟨_, hit, ?_⟩ | refine PureAt.call (hit) ?_ | fail))
    have hsz : (({ data := (Lib.itoa y).toArray } : ByteArray) ++ ({ data := #[32] } : ByteArray)).data.toList = Lib.itoa y ++ [32] := by simp
    have hsz2 : (({ data := (Lib.itoa y).toArray } : ByteArray) ++ ({ data := #[32] } : ByteArray)).size = (Lib.itoa y).length + 1 := by
      refine (Array.length_toList.symm.trans (congrArg List.length hsz)).trans ?_
      simp
    simp only [List.length_cons] at hal
    refine (write_ok x _ (.inr (by rw [hsz]; simp)) (by rw [hsz2]; omega)).mono ?_
    rintro r1 h1 x1
    rw [hsz] at x1
    refine ⟨_, Nat.lt_succ_self _, hJ.out _ _ _ ⟨(by (repeat (refine fr_upd (by decide) ?_)); exact hfr), i + 1, r, _, rfl, by omega, hd2, by simp [go_sem], x1, ?_, ?_⟩⟩
    · rw [← hacc]; simp [numsL]
    · simp only [List.length_append, List.length_cons, List.length_nil]; omega
theorem num_lit {h0 h : Hp} {b k : Nat} {s : List UInt8} {ob : Ob} (x : Bld h0 h b s) (l : List Int) (hlen : s.length + 22 * l.length ≤ 140737488355328) (hi : ∀ n ∈ l, -9223372036854775808 ≤ n ∧ n ≤ 9223372036854775807) (hk : h k = none) (h1 : ob.s = 1) (h2 : ob.n = l.length) (hf : ob.f = fun i j => ((l.map fun x (_ : Nat) => I x)[i]?.getD fun _ => .any) j) :
    CallK Tryd.prog (upd h k (some ob)) 62 [ptrV b, .row k 1 0 l.length] fun r h' => Bld h0 h' b (s ++ numsL l) := by
  refine CallK.row2 hk h1 h2 (by omega) (fun i hi j hj => ?_) (rnum_ok x l hlen hi)
  obtain rfl : j = 0 := by omega
  rw [hf]
  simp [hi, cI, cellsL]
end Go.Proofs.YtmalhikcdideoaaDoor

set_option linter.unusedVariables false
set_option linter.unusedSimpArgs false
namespace Go.Proofs.YtmalhikcdideoaaDoor
open Go Sl
attribute [local irreducible] XRange LpQ XR XRo XRg XRQ putQ XFv XL XW2 wQ putW X XO XOp XH XHo XW SeqQ BlkQ XOQ XHQ NrmQ XC XM XG XHM XHG XD CallK
open Go.RowKit
def stepsL : List (Int × Int) → List UInt8
  | [] => []
  | x :: l => numsL [x.1, x.2] ++ stepsL l
def wholeL (t : Tb) : List UInt8 := numsL [t.name.size, t.fr, t.to] ++ (t.name ++ boolB t.sl).data.toList ++ stepsL t.steps
theorem numsL_len : ∀ (l : List Int), (∀ n ∈ l, -9223372036854775808 ≤ n ∧ n ≤ 9223372036854775807) → (numsL l).length ≤ 22 * l.length
  | [], _ => by simp [numsL]
  | n :: l, h => by
    have h1 := Lib.itoa_length_le n (h n (by simp)).1 (h n (by simp)).2
    have h2 := numsL_len l fun x hx => h x (by simp [hx])
    simp only [numsL, List.length_append, List.length_cons, List.length_nil]
    omega
theorem whole_ok (t : Tb) (hn : t.name.size ≤ 1000000000000) (hs : t.steps.length ≤ 1000000000000) (h1 : i64B t.fr) (h2 : i64B t.to) (h3 : ∀ x ∈ t.steps, i64B x.1 ∧ i64B x.2) : Pure Tryd.prog 36 [encTbA t] (S (bOf (wholeL t))) := by
  obtain ⟨nm, fr, to, sl, steps⟩ := t
  dsimp only at hn hs h1 h2 h3
  have hb := fbool_ok sl
  have hbs : (boolB sl).data.toList.length ≤ 5 := by cases sl <;> decide
  have hbs' : (boolB sl).size ≤ 5 := hbs
  intro h; refine callK_body Tryd.func36 rfl (by rw [nt36]; simp) ?_; rw [nt36, rs36]
  (repeat' (first | simp [go_sem, X_region, *] | simp (disch := omega) only [om, *] | ((first | refine XC_split ?_ ?_ | refine XG_true ?_ ?_ | refine XG_false ?_ ?_ | refine XRg_true ?_ ?_ | refine XRg_false ?_ ?_) <;> intro hc <;> (try simp only [bl] at hc) <;> (try (exfalso; omega))) | refine XD_w [] [] [] (fun _ => none) mixed (by decide +kernel) (sub_none _) ?_ | fail))
  intro b1 hb1 b2 n1 n2 hb2
  (repeat' (first | simp [go_sem, X_region, *] | simp (disch := omega) only [om, *] | ((first | refine XC_split ?_ ?_ | refine XG_true ?_ ?_ | refine XG_false ?_ ?_ | refine XRg_true ?_ ?_ | refine XRg_false ?_ ?_) <;> intro hc <;> (try simp only [bl] at hc) <;> (try (exfalso; omega))) | refine XD_w [] [] [] (fun _ => none) mixed (by decide +kernel) (sub_none _) ?_ | fail))
  have hb2' : upd h b1 (some ⟨68, 5, 1, fun x j => [S nm, I fr, I to, B sl, AV.sl 2 steps.length (cellsL cSt steps)][j]?.getD AV.any⟩) b2 = none := by rw [upd_ne _ _ n1]; exact hb2
  have kb1 : upd h b1 (some ⟨68, 5, 1, fun x j => [S nm, I fr, I to, B sl, AV.sl 2 steps.length (cellsL cSt steps)][j]?.getD AV.any⟩) b1 = some ⟨68, 5, 1, fun x j => [S nm, I fr, I to, B sl, AV.sl 2 steps.length (cellsL cSt steps)][j]?.getD AV.any⟩ := upd_same _ _ _
  have hsub0 : Sub h (upd h b1 (some ⟨68, 5, 1, fun x j => [S nm, I fr, I to, B sl, AV.sl 2 steps.length (cellsL cSt steps)][j]?.getD AV.any⟩)) := fun c oc hc => by rw [upd_ne _ _ (ne_free hb1 hc).2]; exact hc
  intro b3 m1 m2 m3 m4 hb3
  have hb3' : upd (upd h b1 (some ⟨68, 5, 1, fun x j => [S nm, I fr, I to, B sl, AV.sl 2 steps.length (cellsL cSt steps)][j]?.getD AV.any⟩)) b2 (some ⟨99, 2, 1, fun x j => AV.v ([Value.pointer none, Value.slice none 0 0][j]?.getD undef)⟩) b3 = none := by rw [upd_ne _ _ m1, upd_ne _ _ m3]; exact hb3
  generalize upd h b1 (some ⟨68, 5, 1, fun x j => [S nm, I fr, I to, B sl, AV.sl 2 steps.length (cellsL cSt steps)][j]?.getD AV.any⟩) = H1 at *
  have x0 : Bld H1 (upd H1 b2 (some ⟨99, 2, 1, fun x j => AV.v ([Value.pointer none, Value.slice none 0 0][j]?.getD undef)⟩)) b2 [] := ⟨hb2', _, ⟨rfl, rfl, rfl, .inl rfl⟩, fun _ => rfl, Own.none⟩
  have hin : ∀ n ∈ [(nm.size : Int), fr, to], -9223372036854775808 ≤ n ∧ n ≤ 9223372036854775807 := by
    simp only [List.mem_cons, List.not_mem_nil, or_false]
    rintro n (rfl | rfl | rfl)
    · exact ⟨by omega, by omega⟩
    · exact h1
    · exact h2
  have hnl := numsL_len _ hin
  simp only [List.length_cons, List.length_nil] at hnl
  refine CallK.mono (num_lit x0 [(nm.size : Int), fr, to] (by simp) hin hb3' rfl rfl rfl) ?_
  rintro r1 g1 x1
  have kg1 := x1.sub _ _ kb1
  rw [List.nil_append] at x1
  refine XD_w [] [1, 3] [6] H1 mixed (by decide +kernel) x1.sub ?_
  (repeat' (first | simp [go_sem, X_region, *] | simp (disch := omega) only [om, *] | ((first | refine XC_split ?_ ?_ | refine XG_true ?_ ?_ | refine XG_false ?_ ?_ | refine XRg_true ?_ ?_ | refine XRg_false ?_ ?_) <;> intro hc <;> (try simp only [bl] at hc) <;> (try (exfalso; omega))) | refine XD_w [] [] [] (fun _ => none) mixed (by decide +kernel) (sub_none _) ?_ | refine Pure.call (hb) ?_ | refine ⟨_, Pure.at (hb), ?_⟩ | refine ⟨_, hb, ?_⟩ | refine PureAt.call (hb) ?_ | fail))
  have hnb' : (nm ++ boolB sl).size = nm.size + (boolB sl).size := ByteArray.size_append
  have hnb : (nm ++ boolB sl).data.toList.length = nm.size + (boolB sl).size := hnb'
  have hbp : 0 < (boolB sl).size := by cases sl <;> decide
  refine (write_ok x1 (nm ++ boolB sl) (.inr (fun e => by rw [e] at hnb; simp at hnb; omega)) (by omega)).mono ?_
  rintro r2 g2 x2
  have kg2 := x2.sub _ _ kb1
  refine ⟨fun _ => x2.sub, ?_⟩
  (repeat' (first | simp [go_sem, X_region, *] | simp (disch := omega) only [om, *] | ((first | refine XC_split ?_ ?_ | refine XG_true ?_ ?_ | refine XG_false ?_ ?_ | refine XRg_true ?_ ?_ | refine XRg_false ?_ ?_) <;> intro hc <;> (try simp only [bl] at hc) <;> (try (exfalso; omega))) | refine XD_w [] [] [] (fun _ => none) mixed (by decide +kernel) (sub_none _) ?_ | fail))
  obtain ⟨R, hR⟩ : ∃ R : List UInt8, numsL [(nm.size : Int), fr, to] ++ (nm ++ boolB sl).data.toList ++ stepsL steps = R := ⟨_, rfl⟩
  have hR2 : wholeL ⟨nm, fr, to, sl, steps⟩ = R := hR
  rw [hR2]
  clear hR2
  have hl2 : (numsL [(nm.size : Int), fr, to] ++ (nm ++ boolB sl).data.toList).length + 44 * steps.length ≤ 140737488355328 := by rw [List.length_append, hnb]; omega
  generalize numsL [(nm.size : Int), fr, to] ++ (nm ++ boolB sl).data.toList = acc0 at *
  clear x1 x0 kg1
  refine X_lpF (fun i => i = 5 ∨ (25 ≤ i ∧ i ≤ 35)) (fun n T h' => ∃ (i : Nat) (r : List (Int × Int)) (acc : List UInt8), n = r.length ∧ i ≤ steps.length ∧ steps.drop i = r ∧ T 25 = I i ∧ Bld H1 h' b2 acc ∧ acc ++ stepsL r = R ∧ acc.length + 44 * r.length ≤ 140737488355328) steps.length
    ⟨0, steps, acc0, rfl, by omega, rfl, by simp [go_sem], x2, hR, hl2⟩ ?_
  clear x2 kg2 hl2 hR
  rintro J hJ n T g hfr ⟨i, r, acc, rfl, hle, hd, h25, x, hacc, hal⟩
  rcases r with _ | ⟨y, r⟩
  · have hlt := drop_nil hd
    obtain rfl : i = steps.length := by omega
    simp only [stepsL, List.append_nil] at hacc
    subst hacc
    (repeat' (first | simp [go_sem, X_region, *] | simp (disch := omega) only [om, *] | ((first | refine XC_split ?_ ?_ | refine XG_true ?_ ?_ | refine XG_false ?_ ?_ | refine XRg_true ?_ ?_ | refine XRg_false ?_ ?_) <;> intro hc <;> (try simp only [bl] at hc) <;> (try (exfalso; omega))) | refine XD_w [] [] [] (fun _ => none) mixed (by decide +kernel) (sub_none _) ?_ | fail))
    refine (string_ok x (by omega)).mono ?_
    rintro r1 h1 ⟨rfl, rfl⟩
    exact Wk.drop _ hsub0
  · obtain ⟨hlt, hx, hd2⟩ := drop_cons hd
    have hy := h3 y (by rw [← hx]; exact List.getElem_mem hlt)
    (repeat' (first | simp [go_sem, X_region, *] | simp (disch := omega) only [om, *] | ((first | refine XC_split ?_ ?_ | refine XG_true ?_ ?_ | refine XG_false ?_ ?_ | refine XRg_true ?_ ?_ | refine XRg_false ?_ ?_) <;> intro hc <;> (try simp only [bl] at hc) <;> (try (exfalso; omega))) | refine XD_w [] [] [] (fun _ => none) mixed (by decide +kernel) (sub_none _) ?_ | fail))
    intro b4 hb4 b5 k1 k2 hb5
    have x4 := x.alloc (ob := ⟨114, 2, 1, fun i' j' => if i' = 0 ∧ j' < 2 then [I y.fst, I y.snd][j']?.getD AV.any else AV.v ([Value.int IntKind.i64 0, Value.int IntKind.i64 0][j']?.getD undef)⟩) hb4
    have hin2 : ∀ n ∈ [y.1, y.2], -9223372036854775808 ≤ n ∧ n ≤ 9223372036854775807 := by
      simp only [List.mem_cons, List.not_mem_nil, or_false]
      rintro n (rfl | rfl)
      · exact hy.1
      · exact hy.2
    have hnl2 := numsL_len _ hin2
    simp only [List.length_cons, List.length_nil] at hnl2 hal
    refine CallK.mono (num_lit x4 [y.1, y.2] (by simp only [List.length_cons, List.length_nil]; omega) hin2 (by rw [upd_ne _ _ k1]; exact hb5) rfl rfl rfl) ?_
    rintro r5 g5 x5
    refine ⟨_, Nat.lt_succ_self _, hJ.out _ _ _ ⟨(by (repeat (refine fr_upd (by decide) ?_)); exact hfr), i + 1, r, _, rfl, by omega, hd2, by simp [go_sem], x5, ?_, ?_⟩⟩
    · rw [← hacc]; simp [stepsL]
    · simp only [List.length_append]; omega
end Go.Proofs.YtmalhikcdideoaaDoor

set_option linter.unusedVariables false
set_option linter.unusedSimpArgs false
namespace Go.Proofs.YtmalhikcdideoaaDoor
open Go Sl
attribute [local irreducible] XRange LpQ XR XRo XRg XRQ putQ XFv XL XW2 wQ putW X XO XOp XH XHo XW SeqQ BlkQ XOQ XHQ NrmQ XC XM XG XHM XHG XD CallK
open Go.RowKit
def digB (c : UInt8) : Prop := 48 ≤ c.toNat ∧ c.toNat ≤ 57
theorem decDigits_dig : ∀ u : Nat, ∀ c ∈ Lib.decDigits u, digB c := by
  intro u
  induction u using Nat.strongRecOn with
  | ind u ih =>
    intro c hc
    rw [Lib.decDigits] at hc
    split at hc
    · rename_i h
      rw [List.mem_singleton.1 hc]
      unfold digB
      rw [UInt8.toNat_ofNat']
      omega
    · rename_i h
      rcases List.mem_append.1 hc with hc | hc
      · exact ih (u / 10) (by omega) c hc
      · rw [List.mem_singleton.1 hc]
        unfold digB
        rw [UInt8.toNat_ofNat']
        omega
def valD (l : List UInt8) : Nat := l.foldl (fun a c => a * 10 + (c.toNat - 48)) 0
theorem valD_dec : ∀ u : Nat, valD (Lib.decDigits u) = u := by
  intro u
  induction u using Nat.strongRecOn with
  | ind u ih =>
    rw [Lib.decDigits]
    split
    · rename_i h
      unfold valD
      simp only [List.foldl_cons, List.foldl_nil, UInt8.toNat_ofNat']
      omega
    · rename_i h
      have h1 := ih (u / 10) (by omega)
      unfold valD at h1 ⊢
      rw [List.foldl_append, h1]
      simp only [List.foldl_cons, List.foldl_nil, UInt8.toNat_ofNat']
      omega
theorem decDigits_inj {u v : Nat} (h : Lib.decDigits u = Lib.decDigits v) : u = v := by rw [← valD_dec u, ← valD_dec v, h]
theorem decDigits_ne {u : Nat} {l : List UInt8} (h : Lib.decDigits u = 45 :: l) : False := by
  have := decDigits_dig u 45 (by rw [h]; exact List.mem_cons_self ..)
  unfold digB at this
  have e : (45 : UInt8).toNat = 45 := rfl
  omega
theorem itoa_inj {a b : Int} (h : Lib.itoa a = Lib.itoa b) : a = b := by
  unfold Lib.itoa at h
  split at h <;> split at h
  · simp only [List.cons.injEq, true_and] at h
    have := decDigits_inj h
    omega
  · exact (decDigits_ne h.symm).elim
  · exact (decDigits_ne h).elim
  · have := decDigits_inj h
    omega
theorem itoa_no32 (a : Int) : (32 : UInt8) ∉ Lib.itoa a := by
  have hd : ∀ u : Nat, (32 : UInt8) ∉ Lib.decDigits u := fun u hc => by
    have := decDigits_dig u 32 hc
    unfold digB at this
    have e : (32 : UInt8).toNat = 32 := rfl
    omega
  unfold Lib.itoa
  split
  · intro hc
    rcases List.mem_cons.1 hc with e | e
    · cases e
    · exact hd _ e
  · exact hd _
theorem split32 : ∀ (p q x y : List UInt8), (32 : UInt8) ∉ p → (32 : UInt8) ∉ q → p ++ 32 :: x = q ++ 32 :: y → p = q ∧ x = y
  | [], [], x, y, _, _, h => by simpa using h
  | [], b :: q, x, y, _, hq, h => by
    simp only [List.nil_append, List.cons_append, List.cons.injEq] at h
    exact absurd (by rw [h.1]; exact List.mem_cons_self ..) hq
  | a :: p, [], x, y, hp, _, h => by
    simp only [List.nil_append, List.cons_append, List.cons.injEq] at h
    exact absurd (by rw [← h.1]; exact List.mem_cons_self ..) hp
  | a :: p, b :: q, x, y, hp, hq, h => by
    simp only [List.cons_append, List.cons.injEq] at h
    obtain ⟨h1, h2⟩ := split32 p q x y (fun hc => hp (List.mem_cons_of_mem _ hc)) (fun hc => hq (List.mem_cons_of_mem _ hc)) h.2
    exact ⟨by rw [h.1, h1], h2⟩
theorem numsL_inj : ∀ (l m : List Int) (x y : List UInt8), l.length = m.length → numsL l ++ x = numsL m ++ y → l = m ∧ x = y
  | [], [], x, y, _, h => ⟨rfl, h⟩
  | [], _ :: _, _, _, hl, _ => by cases hl
  | _ :: _, [], _, _, hl, _ => by cases hl
  | a :: l, b :: m, x, y, hl, h => by
    simp only [numsL, List.append_assoc, List.cons_append, List.nil_append] at h
    obtain ⟨h1, h2⟩ := split32 _ _ _ _ (itoa_no32 a) (itoa_no32 b) h
    obtain ⟨h3, h4⟩ := numsL_inj l m x y (by simpa using hl) h2
    exact ⟨by rw [itoa_inj h1, h3], h4⟩
/-- A node as text; an expression. -/
def showN (x : Nd) : List UInt8 := numsL [x.op, x.kd, x.n, x.nm.size, x.kids.length] ++ x.nm.data.toList ++ numsL x.kids ++ [59]
def showE : List Nd → List UInt8
  | [] => []
  | x :: r => showN x ++ showE r
theorem showN_inj {x y : Nd} {s t : List UInt8} (h : showN x ++ s = showN y ++ t) : x = y ∧ s = t := by
  unfold showN at h
  simp only [List.append_assoc] at h
  obtain ⟨h1, h2⟩ := numsL_inj [x.op, x.kd, x.n, x.nm.size, x.kids.length] [y.op, y.kd, y.n, y.nm.size, y.kids.length] _ _ rfl h
  simp only [List.cons.injEq, and_true] at h1
  obtain ⟨e1, e2, e3, e4, e5⟩ := h1
  have hs : x.nm.data.toList.length = y.nm.data.toList.length := by
    have a1 : x.nm.data.toList.length = x.nm.size := Array.length_toList
    have a2 : y.nm.data.toList.length = y.nm.size := Array.length_toList
    omega
  obtain ⟨h3, h4⟩ := List.append_inj h2 hs
  obtain ⟨h5, h6⟩ := numsL_inj x.kids y.kids _ _ (by omega) h4
  have e6 : x.nm = y.nm := by
    apply ByteArray.ext
    exact Array.toList_inj.1 h3
  simp only [List.cons_append, List.nil_append, List.cons.injEq, true_and] at h6
  refine ⟨?_, h6⟩
  cases x
  cases y
  simp only at e1 e2 e3 e6 h5
  rw [e1, e2, e3, e6, h5]
theorem showN_ne (x : Nd) : showN x ≠ [] := by
  unfold showN
  simp
theorem showE_inj : ∀ a b : List Nd, showE a = showE b → a = b
  | [], [], _ => rfl
  | [], y :: b, h => by
    rw [showE, showE] at h
    exact absurd (List.append_eq_nil_iff.1 h.symm).1 (showN_ne y)
  | x :: a, [], h => by
    rw [showE, showE] at h
    exact absurd (List.append_eq_nil_iff.1 h).1 (showN_ne x)
  | x :: a, y :: b, h => by
    rw [showE, showE] at h
    obtain ⟨h1, h2⟩ := showN_inj h
    rw [h1, showE_inj a b h2]
theorem bOf_inj {a b : List UInt8} (h : bOf a = bOf b) : a = b := by
  have := congrArg (fun x : ByteArray => x.data.toList) h
  exact this
end Go.Proofs.YtmalhikcdideoaaDoor

set_option linter.unusedVariables false
set_option linter.unusedSimpArgs false
namespace Go.Proofs.YtmalhikcdideoaaDoor
open Go Sl
attribute [local irreducible] XRange LpQ XR XRo XRg XRQ putQ XFv XL XW2 wQ putW X XO XOp XH XHo XW SeqQ BlkQ XOQ XHQ NrmQ XC XM XG XHM XHG XD CallK
open Go.RowKit
theorem bld_with {h0 h : Hp} {b k : Nat} {l : List UInt8} {ob : Ob} (x : Bld h0 h b l) (hk : h k = none) : Bld (upd h0 k (some ob)) (upd h k (some ob)) b l := by
  have hsub := x.sub
  obtain ⟨hb, o, h1, h2, h3⟩ := x
  have hob := h3.1 b o (upd_same _ _ _)
  have hbk : b ≠ k := fun e => by rw [e, hk] at hob; cases hob
  refine ⟨by rw [upd_ne _ _ hbk]; exact hb, o, h1, h2, ?_⟩
  have h4 := own_with (oc := ob) h3 hk
  have h5 : upd (upd h0 b (some o)) k (some ob) = upd (upd h0 k (some ob)) b (some o) := by
    funext c
    by_cases hc : c = k
    · subst hc; simp [upd, Ne.symm hbk]
    · by_cases hc2 : c = b
      · subst hc2; simp [upd, hbk]
      · simp [upd, hc, hc2]
  rw [h5] at h4
  exact h4
theorem i64_nat {n : Nat} (h : n ≤ 1048576) : i64B (n : Int) := ⟨by omega, by omega⟩
set_option maxHeartbeats 4000000 in
theorem shown_ok (e : List Nd) (he : e.length ≤ 1048576) (hn : ∀ x ∈ e, x.nm.size ≤ 1048576 ∧ x.kids.length ≤ 1048576 ∧ i64B x.op ∧ i64B x.kd ∧ i64B x.n ∧ ∀ k ∈ x.kids, i64B k) : Pure Tryd.prog 24 [encL 5 cNd e] (S (bOf (showE e))) := by
  obtain ⟨R, hR⟩ : ∃ R, showE e = R := ⟨_, rfl⟩
  rw [hR]
  intro h; refine CallK.lens fun hlen => ?_; have hlen := (hlen _ (by simp only [List.mem_cons, true_or, or_true] : (encL 5 cNd e) ∈ _)).encL; refine callK_body Tryd.func24 rfl (by rw [nt24]; simp) ?_; rw [nt24, rs24]
  (repeat' (first | simp [go_sem, X_region, *] | simp (disch := omega) only [om, *] | ((first | refine XC_split ?_ ?_ | refine XG_true ?_ ?_ | refine XG_false ?_ ?_ | refine XRg_true ?_ ?_ | refine XRg_false ?_ ?_) <;> intro hc <;> (try simp only [bl] at hc) <;> (try (exfalso; omega))) | refine XD_w [] [] [] (fun _ => none) mixed (by decide +kernel) (sub_none _) ?_ | fail))
  intro b3 hb3
  refine X_lpF (fun i => i = 5 ∨ (8 ≤ i ∧ i ≤ 33)) (fun n T g => ∃ (i : Nat) (r : List Nd) (acc : List UInt8), n = r.length ∧ i ≤ e.length ∧ e.drop i = r ∧ acc ++ showE r = R ∧ T 8 = I i ∧ Bld h g b3 acc ∧ acc.length + 25000000 * r.length ≤ 140737488355328) e.length
    ⟨0, e, [], rfl, by omega, rfl, hR, by simp [go_sem], Bld.fresh hb3, by simp; omega⟩ ?_
  clear hR
  rintro J hJ n T g hfr ⟨i, r, acc, rfl, hi, hd, hR, t8, x, hal⟩
  rcases r with _ | ⟨y, r⟩
  · have hlt := drop_nil hd
    simp only [showE, List.append_nil] at hR
    subst hR
    (repeat' (first | simp [go_sem, X_region, *] | simp (disch := omega) only [om, *] | ((first | refine XC_split ?_ ?_ | refine XG_true ?_ ?_ | refine XG_false ?_ ?_ | refine XRg_true ?_ ?_ | refine XRg_false ?_ ?_) <;> intro hc <;> (try simp only [bl] at hc) <;> (try (exfalso; omega))) | refine XD_w [] [] [] (fun _ => none) mixed (by decide +kernel) (sub_none _) ?_ | fail))
    refine (string_ok x (by omega)).mono ?_
    rintro r1 h1 ⟨rfl, rfl⟩
    exact Wk.refl _ _
  · obtain ⟨hlt, hx, hd2⟩ := drop_cons hd
    obtain ⟨e1, e2, e3, e4, e5, e6⟩ := hn y (by rw [← hx]; exact List.getElem_mem hlt)
    simp only [List.length_cons] at hal
    (repeat' (first | simp [go_sem, X_region, *] | simp (disch := omega) only [om, *] | ((first | refine XC_split ?_ ?_ | refine XG_true ?_ ?_ | refine XG_false ?_ ?_ | refine XRg_true ?_ ?_ | refine XRg_false ?_ ?_) <;> intro hc <;> (try simp only [bl] at hc) <;> (try (exfalso; omega))) | refine XD_w [] [] [] (fun _ => none) mixed (by decide +kernel) (sub_none _) ?_ | fail))
    intro b5 hb5
    have xw := bld_with (ob := ⟨39, 5, 1, fun i' j' => if i' = 0 ∧ j' < 5 then [I y.op, AV.sl 1 y.kids.length (cellsL cI y.kids), I y.kd, I y.n, S y.nm][j']?.getD AV.any else AV.v ([Value.int IntKind.i64 0, Value.slice none 0 0, Value.int IntKind.i64 0, Value.int IntKind.i64 0, Value.string ⟨#[]⟩][j']?.getD undef)⟩) x hb5
    have k5 : ∀ {g' : Hp} {l : List UInt8}, Bld (upd h b5 (some ⟨39, 5, 1, fun i' j' => if i' = 0 ∧ j' < 5 then [I y.op, AV.sl 1 y.kids.length (cellsL cI y.kids), I y.kd, I y.n, S y.nm][j']?.getD AV.any else AV.v ([Value.int IntKind.i64 0, Value.slice none 0 0, Value.int IntKind.i64 0, Value.int IntKind.i64 0, Value.string ⟨#[]⟩][j']?.getD undef)⟩)) g' b3 l → g' b5 = some ⟨39, 5, 1, fun i' j' => if i' = 0 ∧ j' < 5 then [I y.op, AV.sl 1 y.kids.length (cellsL cI y.kids), I y.kd, I y.n, S y.nm][j']?.getD AV.any else AV.v ([Value.int IntKind.i64 0, Value.slice none 0 0, Value.int IntKind.i64 0, Value.int IntKind.i64 0, Value.string ⟨#[]⟩][j']?.getD undef)⟩ := fun w => w.sub b5 _ (upd_same _ _ _)
    (repeat' (first | simp [go_sem, X_region, *] | simp (disch := omega) only [om, *] | ((first | refine XC_split ?_ ?_ | refine XG_true ?_ ?_ | refine XG_false ?_ ?_ | refine XRg_true ?_ ?_ | refine XRg_false ?_ ?_) <;> intro hc <;> (try simp only [bl] at hc) <;> (try (exfalso; omega))) | refine XD_w [] [] [] (fun _ => none) mixed (by decide +kernel) (sub_none _) ?_ | fail))
    intro bl hl1 hl2 hbl
    have hin5 : ∀ n ∈ [y.op, y.kd, y.n, (y.nm.size : Int), (y.kids.length : Int)], -9223372036854775808 ≤ n ∧ n ≤ 9223372036854775807 := by
      simp only [List.mem_cons, List.not_mem_nil, or_false]
      rintro n (rfl | rfl | rfl | rfl | rfl)
      · exact e3
      · exact e4
      · exact e5
      · exact ⟨by omega, by omega⟩
      · exact ⟨by omega, by omega⟩
    have hnl := numsL_len _ hin5
    have hnk := numsL_len y.kids e6
    simp only [List.length_cons, List.length_nil] at hnl
    have hnm : y.nm.data.toList.length = y.nm.size := Array.length_toList
    refine CallK.mono (num_lit xw [y.op, y.kd, y.n, (y.nm.size : Int), (y.kids.length : Int)] (by simp only [List.length_cons, List.length_nil]; omega) hin5 (by rw [upd_ne _ _ hl1]; exact hbl) rfl rfl rfl) ?_
    have hne : acc ++ numsL [y.op, y.kd, y.n, (y.nm.size : Int), (y.kids.length : Int)] ≠ [] := by simp [numsL]
    have hN : showN y = numsL [y.op, y.kd, y.n, (y.nm.size : Int), (y.kids.length : Int)] ++ y.nm.data.toList ++ numsL y.kids ++ [59] := rfl
    generalize numsL [y.op, y.kd, y.n, (y.nm.size : Int), (y.kids.length : Int)] = N5 at *
    rintro r1 g1 x1
    have q1 := k5 x1
    clear xw hin5
    (repeat' (first | simp [go_sem, X_region, *] | simp (disch := omega) only [om, *] | ((first | refine XC_split ?_ ?_ | refine XG_true ?_ ?_ | refine XG_false ?_ ?_ | refine XRg_true ?_ ?_ | refine XRg_false ?_ ?_) <;> intro hc <;> (try simp only [bl] at hc) <;> (try (exfalso; omega))) | refine XD_w [] [] [] (fun _ => none) mixed (by decide +kernel) (sub_none _) ?_ | fail))
    refine (write_ok x1 y.nm (.inl hne) (by rw [List.length_append]; omega)).mono ?_
    rintro r2 g2 x2
    have q2 := k5 x2
    clear q1 x1
    (repeat' (first | simp [go_sem, X_region, *] | simp (disch := omega) only [om, *] | ((first | refine XC_split ?_ ?_ | refine XG_true ?_ ?_ | refine XG_false ?_ ?_ | refine XRg_true ?_ ?_ | refine XRg_false ?_ ?_) <;> intro hc <;> (try simp only [bl] at hc) <;> (try (exfalso; omega))) | refine XD_w [] [] [] (fun _ => none) mixed (by decide +kernel) (sub_none _) ?_ | fail))
    refine (rnum_ok x2 y.kids (by simp only [List.length_append]; omega) e6).mono ?_
    rintro r3 g3 x3
    clear q2 x2
    (repeat' (first | simp [go_sem, X_region, *] | simp (disch := omega) only [om, *] | ((first | refine XC_split ?_ ?_ | refine XG_true ?_ ?_ | refine XG_false ?_ ?_ | refine XRg_true ?_ ?_ | refine XRg_false ?_ ?_) <;> intro hc <;> (try simp only [bl] at hc) <;> (try (exfalso; omega))) | refine XD_w [] [] [] (fun _ => none) mixed (by decide +kernel) (sub_none _) ?_ | fail))
    refine (write_ok x3 ⟨#[59]⟩ (.inr (by simp)) (by simp only [List.length_append]; show _ + 1 ≤ _; omega)).mono ?_
    rintro r4 g4 x4
    clear x3
    have h5 : h b5 = none := sub_none_of x.sub hb5
    (repeat' (first | simp [go_sem, X_region, *] | simp (disch := omega) only [om, *] | ((first | refine XC_split ?_ ?_ | refine XG_true ?_ ?_ | refine XG_false ?_ ?_ | refine XRg_true ?_ ?_ | refine XRg_false ?_ ?_) <;> intro hc <;> (try simp only [bl] at hc) <;> (try (exfalso; omega))) | refine XD_w [] [] [] (fun _ => none) mixed (by decide +kernel) (sub_none _) ?_ | fail))
    exact ⟨_, Nat.lt_succ_self _, hJ.out _ _ _ ⟨(by (repeat (refine fr_upd (by decide) ?_)); exact hfr), i + 1, r, _, rfl, by omega, hd2, by rw [← hR, showE, hN]; simp, by simp [go_sem], x4.weaken (Sub.upd h5 (Sub.refl _)), by simp only [List.length_append]; show _ + 1 + _ ≤ _; omega⟩⟩
end Go.Proofs.YtmalhikcdideoaaDoor

set_option linter.unusedVariables false
set_option linter.unusedSimpArgs false
namespace Go.Proofs.YtmalhikcdideoaaDoor
open Go Sl
attribute [local irreducible] XRange LpQ XR XRo XRg XRQ putQ XFv XL XW2 wQ putW X XO XOp XH XHo XW SeqQ BlkQ XOQ XHQ NrmQ XC XM XG XHM XHG XD CallK
open Go.RowKit
theorem retell {w : World} {h h1 : Hp} {d : Nat} {od : Ob} {f' : Nat → Nat → AV} (hh : RelH w h) (hs : Sub h1 h) (hd : h1 d = some od) (h0 : 0 < od.s) (hf : ∀ i, i < od.n → ∀ j, j < od.s → Wk h (od.f i j) h1 (f' i j)) :
    Stp w h w (upd h1 d (some { od with f := f' })) ∧ RelH w (upd h1 d (some { od with f := f' })) := by
  have st1 : Stp w h w h1 := stp_forget hs
  have hh1 : RelH w h1 := relH_forget hh hs
  have st2 : Stp w h1 w (upd h1 d (some { od with f := f' })) := by
    refine ⟨Nat.le_refl _, fun _ _ _ => rfl, fun b hb hn => ?_, fun b o' hb ho => ?_⟩
    · rw [upd_ne _ _ (fun e => by rw [e, hd] at hn; cases hn)]; exact hn
    · by_cases hbd : b = d
      · subst hbd
        rw [upd_same] at ho
        cases ho
        exact ⟨od, hd, rfl, fun c fr hc => ⟨c, fr, hc, rfl⟩⟩
      · rw [upd_ne _ _ hbd] at ho
        exact ⟨o', ho, rfl, fun c fr hc => ⟨c, fr, hc, rfl⟩⟩
  refine ⟨st1.trans st2, fun b o hb => ?_, hh1.glob.step st2⟩
  by_cases hbd : b = d
  · subst hbd
    rw [upd_same] at hb
    cases hb
    have hx := hh.own b od (hs b od hd)
    unfold HeldH at hx ⊢
    rw [if_neg (by omega)] at hx
    rw [if_neg (by simp; omega)]
    obtain ⟨c, e1, e2, e3, e4⟩ := hx
    refine ⟨c, e1, e2, e3, fun i hi j hj => ?_⟩
    obtain ⟨x, f1, f2, f3⟩ := e4 i hi j hj
    exact ⟨x, f1, f2, (((hf i hi j hj).out w x hh f3).2.2).step st2⟩
  · rw [upd_ne _ _ hbd] at hb
    exact (hh1.own b o hb).step st2 rfl
theorem retell_S {N : Nat} {T : Nat → AV} {h h1 : Hp} {d : Nat} {od : Ob} {f' : Nat → Nat → AV} (hs : Sub h1 h) (hd : h1 d = some od) (h0 : 0 < od.s) (hf : ∀ i, i < od.n → ∀ j, j < od.s → Wk h (od.f i j) h1 (f' i j)) :
    WkS N T h T (upd h1 d (some { od with f := f' })) := fun _ _ a w r => by
  obtain ⟨st, rh⟩ := retell r.heap hs hd h0 hf
  exact ⟨r.size, r.defers, fun i => (r.slots i).step st, rh, r.io, r.stp.trans st⟩
theorem retell_W {h h1 : Hp} {d : Nat} {od : Ob} {f' : Nat → Nat → AV} (x : AV) (hs : Sub h1 h) (hd : h1 d = some od) (h0 : 0 < od.s) (hf : ∀ i, i < od.n → ∀ j, j < od.s → Wk h (od.f i j) h1 (f' i j)) :
    Wk h x (upd h1 d (some { od with f := f' })) x := ⟨fun w u hh hr => by
  obtain ⟨st, rh⟩ := retell hh hs hd h0 hf
  exact ⟨st, rh, hr.step st⟩⟩
theorem upd_twice {α : Type} (T : Nat → α) (d : Nat) (x y : α) : upd (upd T d x) d y = upd T d y := by
  funext i
  by_cases h : i = d <;> simp [upd, h]
/-- A loop that writes the slots D alone; at the end of a round less may be told. -/
theorem X_lpFW {P : Program} {N : Nat} {T : Nat → AV} {h : Hp} {Q : Exit → (Nat → AV) → Hp → Prop} {c : Code} (D : Nat → Prop) (I : Nat → (Nat → AV) → Hp → Prop) (n : Nat) (hi : I n T h)
    (hs : ∀ J', (∀ n T' h' h2, WkS N T' h' T' h2 → (∀ i, ¬ D i → T' i = T i) → I n T' h2 → J' n T' h') → ∀ n T' h', (∀ i, ¬ D i → T' i = T i) → I n T' h' → X P N c T' h' (LpQ J' n Q)) : X P N (.loop c) T h Q :=
  X_lpW (fun n T' h' => (∀ i, ¬ D i → T' i = T i) ∧ I n T' h') n ⟨fun _ _ => rfl, hi⟩ fun J' hJ hW n T' h' ⟨h1, h2⟩ => hs J' (fun n T1 h1 h2 w f i => hW n T1 h1 T1 h2 w ⟨f, i⟩) n T' h' h1 h2
section
variable {P : Program} {N : Nat} {T : Nat → AV} {K : (Nat → AV) → Hp → Prop} {d : Option Tmp} {X Y : Operand} {t e : TypeId} {t' : TypeId} {p : String} {af : Array Edge} {g : Option (Nat × Bool)} {s by_ n : Nat} {z : List Value} {h0 h : Hp} {f : Nat → Nat → AV} {a0 : AV}
/-- 'append(l, x)', the literal a new block, its cells whatever they are. -/
theorem pushN {b : Nat} {ob : Ob} (o : Own h0 h a0 e s n f) (ha : ev T X = a0) (hu : P.underlying t = some (.slice e)) (hz : zeroA P e = some (s, z)) (hb : bytesT P e = some by_) (hd : dOk N d = true)
    (hbk : h b = none) (hy : ev T Y = .row b s 0 1) (h1 : ob.s = s) (h2 : 1 ≤ ob.n) (hm : (n + 1) * by_ ≤ 140737488355328) (hm' : n + 1 ≤ 140737488355328)
    (hK : ∀ a h', Own h0 h' a e s (n + 1) (fun i j => if i < n then f i j else ob.f (i - n) j) → (∀ c oc, h c = some oc → a0 ≠ .row c s 0 n → h' c = some oc) → K (putD T d a) h') : XW P N ⟨d, .call ⟨.builtin .append, #[X, Y], #[t, t]⟩, t', p, af, g⟩ T (upd h b (some ob)) K := by
  subst ha
  refine Own.append (q := ob.f) (o.alloc hbk) hu hz hb hd ?_ hm hm' fun a h' ho hkp => hK a h' ho fun c oc hc hne => hkp c oc (by rw [upd_ne _ _ (ne_free hbk hc).2]; exact hc) hne
  subst h1
  rw [hy]
  simp only [srcA, upd_same]
  rw [if_pos ⟨trivial, trivial, by omega⟩]
  simp
end
/-- A finished slice of kids, seen from a heap that knows one block of nodes more than the base. -/
theorem kids_wk {h0 h1 : Hp} {k : AV} {m : Nat} {f : Nat → Nat → AV} (o : Own h0 h1 k 3 1 m f) (hm : m ≤ 140737488355328) {d : Nat} {od : Ob} (hd : h1 d = some od) (hs : od.s = 5) : Wk h1 k (upd h0 d (some od)) (.sl 1 m f) := by
  refine Own.frozen (e := 3) ⟨fun c oc hc => ?_, ?_⟩ hm
  · by_cases hcd : c = d
    · subst hcd; rw [upd_same] at hc; cases hc; exact hd
    · rw [upd_ne _ _ hcd] at hc; exact o.1 c oc hc
  · rcases o.2 with h2 | ⟨c, oc, h2, h3, h4, h5, h6⟩
    · exact .inl h2
    · refine .inr ⟨c, oc, h2, ?_, h4, h5, h6⟩
      rw [upd_ne _ _ (fun e => by rw [e, hd] at h4; cases h4; omega)]
      exact h3
/-- A slice of nodes whose last one has kids that are finished: from here on it is told by its nodes alone. -/
theorem freeze_last {h0 h1 : Hp} {a : AV} {f : Nat → Nat → AV} {acc : List Nd} {x : Nd} (o : Own h0 h1 a 39 5 (acc.length + 1) f) (hf : ∀ i, i < acc.length → ∀ j, j < 5 → f i j = cellsL cNd acc i j)
    (l0 : f acc.length 0 = I x.op) (l2 : f acc.length 2 = I x.kd) (l3 : f acc.length 3 = I x.n) (l4 : f acc.length 4 = S x.nm)
    (hk : ∀ d od, h1 d = some od → od.s = 5 → h0 d = none → Wk h1 (f acc.length 1) (upd h0 d (some od)) (encL 1 cI x.kids)) :
    ∃ h2, (∀ N T, WkS N T h1 T h2) ∧ Wk h1 a h2 a ∧ Own h0 h2 a 39 5 (acc ++ [x]).length (cellsL cNd (acc ++ [x])) := by
  rcases o with ⟨hs, ⟨h3, _⟩ | ⟨d, od, rfl, hd0, hd1, p1, p2, p3, p4, p5⟩⟩
  · omega
  have hb : Sub (upd h0 d (some od)) h1 := fun c oc hc => by
    by_cases hcd : c = d
    · subst hcd; rw [upd_same] at hc; cases hc; exact hd1
    · rw [upd_ne _ _ hcd] at hc; exact hs c oc hc
  have hw : ∀ i, i < od.n → ∀ j, j < od.s → Wk h1 (od.f i j) (upd h0 d (some od)) (cellsL cNd (acc ++ [x]) i j) := fun i hi j hj => by
    rw [p3] at hi
    rw [p1] at hj
    rw [p5 i hi j hj]
    by_cases hil : i < acc.length
    · rw [hf i hil j hj]
      have : cellsL cNd (acc ++ [x]) i j = cellsL cNd acc i j := by simp [cellsL, List.getElem?_append_left hil]
      rw [this]
      exact Wk.drop _ hb
    · obtain rfl : i = acc.length := by omega
      have hc : ∀ j, cellsL cNd (acc ++ [x]) acc.length j = (cNd x).getD j .any := fun j => by simp [cellsL]
      rw [hc]
      rcases (show j = 0 ∨ j = 1 ∨ j = 2 ∨ j = 3 ∨ j = 4 by omega) with rfl | rfl | rfl | rfl | rfl
      · rw [l0]; exact Wk.drop _ hb
      · exact hk d od hd1 p1 hd0
      · rw [l2]; exact Wk.drop _ hb
      · rw [l3]; exact Wk.drop _ hb
      · rw [l4]; exact Wk.drop _ hb
  refine ⟨upd (upd h0 d (some od)) d (some { od with f := cellsL cNd (acc ++ [x]) }), fun N T => retell_S hb (upd_same _ _ _) (by omega) hw, retell_W _ hb (upd_same _ _ _) (by omega) hw, ?_⟩
  rw [upd_twice]
  refine ⟨Sub.upd hd0 (Sub.refl _), .inr ⟨d, _, by simp, hd0, upd_same _ _ _, p1, p2, by simp [p3], by simp, fun i hi j hj => rfl⟩⟩
theorem own_cells {h0 h : Hp} {a : AV} {e : TypeId} {s n : Nat} {f : Nat → Nat → AV} (o : Own h0 h a e s n f) : cellsA a = some (1, fun _ => a) := by
  rcases o.2 with ⟨_, h1 | h1⟩ | ⟨b, ob, h1, _⟩ <;> rw [h1] <;> rfl
/-- Kids that may go into a node: a slice of the call's own, or one that nobody writes any more. -/
def Kds (B g : Hp) (k : AV) (ks : List Int) : Prop := Own B g k 3 1 ks.length (cellsL cI ks) ∨ k = encL 1 cI ks
theorem Kds.cells {B g : Hp} {k : AV} {ks : List Int} (o : Kds B g k ks) : cellsA k = some (1, fun _ => k) := by
  rcases o with o | rfl
  · exact own_cells o
  · rfl
section
variable {P : Program} {N : Nat} {T : Nat → AV} {K : (Nat → AV) → Hp → Prop} {d : Option Tmp} {X Y : Operand} {t e : TypeId} {t' : TypeId} {p : String} {af : Array Edge} {gd : Option (Nat × Bool)} {by_ : Nat} {z : List Value} {B g : Hp} {a0 k : AV} {acc : List Nd} {x : Nd}
/-- A node is appended to nodes, its kids finished now: what is told behind it. -/
theorem X_pushK {b : Nat} {ob : Ob} (o5 : Own B g a0 39 5 acc.length (cellsL cNd acc)) (oK : Kds B g k x.kids) (ha : ev T X = a0) (hu : P.underlying t = some (.slice 39)) (hz : zeroA P 39 = some (5, z)) (hb : bytesT P 39 = some by_) (hd : dOk N d = true)
    (hbk : g b = none) (hy : ev T Y = .row b 5 0 1) (h1 : ob.s = 5) (h2 : 1 ≤ ob.n) (f0 : ob.f 0 0 = I x.op) (f1 : ob.f 0 1 = k) (f2 : ob.f 0 2 = I x.kd) (f3 : ob.f 0 3 = I x.n) (f4 : ob.f 0 4 = S x.nm) (hm : (acc.length + 1) * by_ ≤ 140737488355328) (hm' : acc.length + 1 ≤ 140737488355328) (hkl : x.kids.length ≤ 140737488355328)
    (hK : ∀ a h1 h2, (∀ N T, WkS N T h1 T h2) → Wk h1 a h2 a → Own B h2 a 39 5 (acc ++ [x]).length (cellsL cNd (acc ++ [x])) → K (putD T d a) h1) : XW P N ⟨d, .call ⟨.builtin .append, #[X, Y], #[t, t]⟩, t', p, af, gd⟩ T (upd g b (some ob)) K := by
  obtain ⟨H, oH, sH, kH⟩ := own_hole o5
  refine pushN oH ha hu hz hb hd hbk hy h1 h2 hm hm' fun a h1 ho hkp => ?_
  have o51 := own_up sH ho
  have oK1 : ∀ d od, h1 d = some od → od.s = 5 → B d = none → Wk h1 k (upd B d (some od)) (encL 1 cI x.kids) := fun d od e1 e2 e3 => by
    rcases oK with oK | rfl
    · exact kids_wk (own_keep sH kH ho.1 oK (own_apartT o5 oK (by decide))) hkl e1 e2
    · exact Wk.drop _ fun c oc hc => by
        by_cases hcd : c = d
        · subst hcd; rw [upd_same] at hc; cases hc; exact e1
        · rw [upd_ne _ _ hcd] at hc; exact o51.1 c oc hc
  obtain ⟨h2, w1, w2, w3⟩ := freeze_last (x := x) (acc := acc) o51 (fun i hi j hj => by simp only [hi, if_true]) (by simp [f0]) (by simp [f2]) (by simp [f3]) (by simp [f4]) (fun d od e1 e2 e3 => by simpa [f1] using oK1 d od e1 e2 e3)
  exact hK a h1 h2 w1 w2 w3
end
end Go.Proofs.YtmalhikcdideoaaDoor
