/- The plain law of TypesKinds: the program's look at a tree and the reference's agree, and so do the kinds. Tokens: what is specified, in plain Lean. The package word: what its functions return. Binary search in the keywords. The package word: keywords, one token, all tokens. The package word: all tokens. Go's library, as far as the tokens of the reference need it. strings.Fields at texts of single  -/
import Derived.Test.YtmalhikcdideoaaDoorJ0
import Derived.Lib.Bytealg
import Derived.Laws.Externs
import Derived.Lib.Hide
import Derived.Test.YtmalhikcdideoaaDoorFactsB
set_option linter.unusedVariables false
set_option linter.unusedSimpArgs false
namespace Go.Proofs.YtmalhikcdideoaaDoor
open Go Sl
attribute [local irreducible] XRange LpQ XR XRo XRg XRQ putQ XFv XL XW2 wQ putW X XO XOp XH XHo XW SeqQ BlkQ XOQ XHQ NrmQ XC XM XG XHM XHG XD CallK
open Go.RowKit
/-- What both looks know when they have gone through some nodes. -/
structure Both (N : Nat) (u : List Int) (m : List (Int × Bool)) : Prop where
  len : u.length = N
  at_ : ∀ k : Nat, k < N → u[k]? = some (if mget m (k : Int) = some true then 1 else 0)
  all : ∀ k, mget m k = none ∨ mget m k = some true
  sum : (m.length : Int) = u.sum
  last : ∀ k : Int, (N : Int) - 1 ≤ k → mget m k = none
theorem mset_len {κ ν : Type} [DecidableEq κ] : ∀ (m : List (κ × ν)) (k : κ) (v : ν), mget m k = none → (mset m k v).length = m.length + 1
  | [], k, v, _ => rfl
  | x :: r, k, v, h => by
    unfold mget at h
    by_cases hk : k = x.1
    · rw [if_pos hk] at h; cases h
    · rw [if_neg hk] at h
      unfold mset
      rw [if_neg hk, List.length_cons, mset_len r k v h, List.length_cons]
theorem sum_set : ∀ (u : List Int) (k : Nat) (a b : Int), u[k]? = some a → (u.set k b).sum = u.sum - a + b
  | [], k, a, b, h => by simp at h
  | x :: r, 0, a, b, h => by simp at h; subst h; simp [List.sum_cons]; omega
  | x :: r, k + 1, a, b, h => by
    have := sum_set r k a b (by simpa using h)
    rw [List.set_cons_succ, List.sum_cons, List.sum_cons, this]
    omega
theorem both_use (N : Nat) : ∀ (ks u : List Int) (m : List (Int × Bool)), Both N u m → (∀ k ∈ ks, 0 ≤ k ∧ k < (N : Int) - 1) →
    (upF m ks = none ∧ useF u ks = none) ∨ ∃ m' u', upF m ks = some m' ∧ useF u ks = some u' ∧ Both N u' m'
  | [], u, m, hb, _ => .inr ⟨m, u, rfl, rfl, hb⟩
  | k :: r, u, m, hb, hk => by
    have h1 := hk k (List.mem_cons_self ..)
    obtain ⟨n, rfl⟩ : ∃ n : Nat, k = n := ⟨k.toNat, by omega⟩
    have hn : n < N := by omega
    have hu := hb.at_ n hn
    have hg : u.getD n 0 = if mget m (n : Int) = some true then 1 else 0 := by rw [List.getD_eq_getElem?_getD, hu]; rfl
    unfold upF useF
    rw [Int.toNat_natCast, hg]
    rcases hb.all n with h2 | h2
    · rw [h2]
      have hle : ¬ ((1 : Int) < (if (none : Option Bool) = some true then 1 else 0) + 1) := by simp
      rw [if_neg hle, if_neg (by simp)]
      refine both_use N r _ _ ⟨by simp [hb.len], fun j hj => ?_, fun j => ?_, ?_, fun j hj => ?_⟩ fun j hj => hk j (List.mem_cons_of_mem _ hj)
      · rw [mget_mset, List.getElem?_set]
        by_cases hj2 : n = j
        · subst hj2; simp [hb.len, hn]
        · have e : ¬ ((j : Int) = (n : Int)) := by omega
          rw [if_neg hj2]
          simp only [if_neg e]
          exact hb.at_ j hj
      · rw [mget_mset]
        by_cases hj2 : j = n
        · rw [if_pos hj2]; exact .inr rfl
        · rw [if_neg hj2]; exact hb.all j
      · rw [mset_len _ _ _ h2, sum_set _ _ _ _ hu, h2, ← hb.sum]
        simp
      · rw [mget_mset, if_neg (by omega)]; exact hb.last j hj
    · rw [h2]
      rw [if_pos (by simp), if_pos (by simp)]
      exact .inl ⟨rfl, rfl⟩
theorem both_nodes (oneE : Nd → Nat → Int) (N : Nat) : ∀ (r : List Nd) (i : Nat) (u : List Int) (m : List (Int × Bool)), (∀ (j : Nat) (x : Nd), r[j]? = some x → oneE x (i + j) = 0 → ∀ k ∈ x.kids, 0 ≤ k ∧ k < ((i + j : Nat) : Int)) →
    i + r.length = N → Both N u m → (nodesG oneE r i m).1 = (nodesF oneE r i u).1 ∧ ((nodesF oneE r i u).1 = 0 → Both N (nodesF oneE r i u).2 (nodesG oneE r i m).2)
  | [], i, u, m, _, _, hb => ⟨rfl, fun _ => hb⟩
  | x :: r, i, u, m, hx, hi, hb => by
    unfold nodesG nodesF
    by_cases q : oneE x i = 0
    · rw [if_neg (fun h => h q), if_neg (fun h => h q)]
      have h1 := hx 0 x rfl q
      rw [List.length_cons] at hi
      rcases both_use N x.kids u m hb (fun k hk => ⟨(h1 k hk).1, by have := (h1 k hk).2; omega⟩) with ⟨e1, e2⟩ | ⟨m', u', e1, e2, hb'⟩
      · rw [e1, e2]; exact ⟨rfl, fun h => by cases h⟩
      · rw [e1, e2]
        exact both_nodes oneE N r (i + 1) u' m' (fun j y hy h => by
          have := hx (j + 1) y (by simpa using hy) (by rw [show i + (j + 1) = i + 1 + j by omega]; exact h)
          rw [show i + (j + 1) = i + 1 + j by omega] at this
          exact this) (by omega) hb'
    · rw [if_pos q, if_pos q]; exact ⟨rfl, fun h => absurd h q⟩
theorem mget_nil (k : Int) : mget ([] : List (Int × Bool)) k = none := rfl
theorem sum_ones : ∀ u : List Int, (∀ x ∈ u, x = 0 ∨ x = 1) → u.sum ≤ u.length ∧ (u.sum = u.length ↔ (u.any fun x => decide (0 = x)) = false)
  | [], _ => by simp
  | x :: r, h => by
    obtain ⟨h1, h2⟩ := sum_ones r fun y hy => h y (List.mem_cons_of_mem _ hy)
    rw [List.sum_cons, List.length_cons, List.any_cons]
    rcases h x (List.mem_cons_self ..) with rfl | rfl
    · simp; omega
    · simp only [Int.natCast_add, Int.natCast_one]
      refine ⟨by omega, ?_⟩
      have h3 : (decide ((0 : Int) = 1)) = false := by decide
      rw [h3, Bool.false_or, ← h2]
      omega
theorem sum_append1 (u : List Int) (a : Int) : (u ++ [a]).sum = u.sum + a := by
  induction u with
  | nil => simp
  | cons x r ih => rw [List.cons_append, List.sum_cons, ih, List.sum_cons]; omega
theorem tree_check (oneE : Nd → Nat → Int) (e : List Nd) (h : ∀ (i : Nat) (x : Nd), e[i]? = some x → oneE x i = 0 → ∀ k ∈ x.kids, 0 ≤ k ∧ k < (i : Int)) : treeE oneE e = chkE oneE e := by
  unfold treeE chkE
  by_cases q1 : 100 < e.length
  · rw [if_pos q1, if_pos q1]
  rw [if_neg q1, if_neg q1]
  by_cases q2 : e.length = 0
  · rw [if_pos q2, if_pos q2]
  rw [if_neg q2, if_neg q2]
  obtain ⟨n, hn⟩ : ∃ n, e.length = n + 1 := ⟨e.length - 1, by omega⟩
  have hs0 : (List.replicate e.length (0 : Int)).sum = 0 := by
    induction e.length with
    | zero => rfl
    | succ n ih => rw [List.replicate_succ, List.sum_cons, ih]; rfl
  have hb0 : Both e.length (List.replicate e.length 0) [] := ⟨by simp, fun k hk => by rw [mget_nil, List.getElem?_replicate, if_pos hk]; rfl, fun k => .inl rfl, by rw [hs0]; rfl, fun k _ => rfl⟩
  obtain ⟨h1, h2⟩ := both_nodes oneE e.length e 0 (List.replicate e.length 0) [] (fun j x hx h0 => by rw [Nat.zero_add] at h0 ⊢; exact h j x hx h0) (by omega) hb0
  rw [h1]
  by_cases q3 : (nodesF oneE e 0 (List.replicate e.length 0)).1 = 0
  case neg => rw [if_pos q3, if_pos q3]
  have n3 : ¬ ((nodesF oneE e 0 (List.replicate e.length 0)).1 ≠ 0) := fun h => h q3
  rw [if_neg n3, if_neg n3]
  have hb := h2 q3
  generalize (nodesF oneE e 0 (List.replicate e.length 0)).2 = u at *
  generalize (nodesG oneE e 0 []).2 = m at *
  have hlu : u.length = n + 1 := by rw [hb.len, hn]
  have hul : u[n]? = some 0 := by
    rw [hb.at_ n (by omega), hb.last n (by omega)]; rfl
  have hsplit : u = u.take n ++ [0] := by
    conv => lhs; rw [← List.take_append_drop n u]
    congr 1
    rw [List.drop_eq_getElem_cons (by omega), List.drop_of_length_le (by omega)]
    rw [List.getElem?_eq_getElem (by omega)] at hul
    rw [Option.some.inj hul]
  have h01 : ∀ x ∈ u.take n, x = 0 ∨ x = 1 := fun x hx => by
    obtain ⟨k, hk, rfl⟩ := List.getElem_of_mem (List.mem_of_mem_take hx)
    have := hb.at_ k (by omega)
    rw [List.getElem?_eq_getElem hk] at this
    rw [Option.some.inj this]
    split <;> simp
  obtain ⟨s1, s2⟩ := sum_ones (u.take n) h01
  have hsum := hb.sum
  rw [hsplit, sum_append1] at hsum
  have htl : (u.take n).length = n := by rw [List.length_take]; omega
  rw [htl] at s1 s2
  rw [hn, Nat.add_sub_cancel]
  by_cases q4 : m.length = n
  · have n4 : ¬ (m.length ≠ n) := fun h => h q4
    rw [if_neg n4, if_neg]
    rw [s2.1 (by omega)]; simp
  · rw [if_pos q4, if_pos]
    cases ha : (u.take n).any fun x => decide (0 = x) with
    | true => rfl
    | false => exact absurd (s2.2 ha) (by omega)
/-- What the look says of each node. -/
theorem nodesG_all (oneE : Nd → Nat → Int) : ∀ (r : List Nd) (i : Nat) (m : List (Int × Bool)), (nodesG oneE r i m).1 = 0 → ∀ (j : Nat) (x : Nd), r[j]? = some x → oneE x (i + j) = 0
  | [], i, m, _, j, x, hx => by simp at hx
  | y :: r, i, m, h, j, x, hx => by
    unfold nodesG at h
    by_cases q : oneE y i = 0
    · rw [if_neg (fun h => h q)] at h
      cases hU : upF m y.kids with
      | none => rw [hU] at h; cases h
      | some m' =>
        rw [hU] at h
        rcases j with _ | j
        · simp at hx; subst hx; exact q
        · have := nodesG_all oneE r (i + 1) m' h j x (by simpa using hx)
          rw [show i + (j + 1) = i + 1 + j by omega]; exact this
    · rw [if_pos q] at h; exact absurd h q
theorem treeE_ok (oneE : Nd → Nat → Int) (e : List Nd) (h : treeE oneE e = 0) : e.length ≤ 100 ∧ e ≠ [] ∧ ∀ (i : Nat) (x : Nd), e[i]? = some x → oneE x i = 0 := by
  unfold treeE at h
  by_cases q1 : 100 < e.length
  · rw [if_pos q1] at h; cases h
  rw [if_neg q1] at h
  by_cases q2 : e.length = 0
  · rw [if_pos q2] at h; cases h
  rw [if_neg q2] at h
  by_cases q3 : (nodesG oneE e 0 []).1 = 0
  · refine ⟨by omega, fun hc => by rw [hc] at q2; exact q2 rfl, fun i x hx => ?_⟩
    have := nodesG_all oneE e 0 [] q3 i x hx
    rwa [Nat.zero_add] at this
  · rw [if_pos q3] at h; exact absurd h q3
/-- What a node is that is taken alone. -/
theorem oneE_all {nameB : ByteArray → Bool} {x : Nd} {i : Nat} (h : oneE nameB x i = 0) : (x.kids.length : Int) = ar x.op ∧ 0 ≤ x.op ∧ x.op ≤ 18 ∧ (∀ k ∈ x.kids, 0 ≤ k ∧ k < (i : Int)) ∧ (x.op = 0 → 1 ≤ x.kd ∧ x.kd ≤ 6) := by
  unfold oneE at h
  split at h
  · cases h
  split at h
  · cases h
  split at h
  · cases h
  rename_i h1 h2 h3
  have h0 : 0 ≤ x.op ∧ x.op ≤ 18 := by
    unfold ar at h1
    split at h1
    · simp at h1
    · omega
  refine ⟨by omega, h0.1, h0.2, fun k hk => ?_, fun ho => ?_⟩
  · have h4 : ¬ (k < 0 ∨ (i : Int) ≤ k) := fun hc => h3 (List.any_eq_true.2 ⟨k, hk, by simpa using hc⟩)
    omega
  · split at h
    · cases h
    rw [ho] at h
    simp only [true_and, if_true] at h
    split at h
    · cases h
    · rename_i h5
      unfold checkV at h
      simp only at h
      split at h
      · cases h
      · omega
/-- The kinds of nodes as types.Of finds them. -/
def nodeT (at_ : ByteArray → Option Int) (tb : ByteArray → Option Tb) (x : Nd) (ks : List Int) : Int × Int :=
  if x.op = 1 ∨ x.op = 2 ∨ x.op = 3 then lookF x.op (at_ x.nm)
  else if x.op = 16 then (match tb x.nm with
    | none => (0, 15)
    | some t => if ¬ (0 < t.fr ∧ t.fr ≤ 6) ∨ ¬ (0 < t.to ∧ t.to ≤ 6) then (0, 8) else if kindP x.op x.kd t.fr t.to ks = true then ((kindF x.op x.kd (ks.getD 0 0) (ks.getD 1 0) (ks.getD 2 0) t.fr t.to).1, 0) else (0, 8))
  else if kindP x.op x.kd 0 0 ks = true then ((kindF x.op x.kd (ks.getD 0 0) (ks.getD 1 0) (ks.getD 2 0) 0 0).1, 0) else (0, 8)
theorem kind_perm {op : Int} (hop : isOp op) (nk a b c fr to fr' to' : Int) (ha : 1 ≤ ar op → 1 ≤ a ∧ a ≤ 6) (hb : 2 ≤ ar op → 1 ≤ b ∧ b ≤ 6) (hc : 3 ≤ ar op → 1 ≤ c ∧ c ≤ 6) (ht : op = 16 → fr' = fr ∧ to' = to) :
    (permF op a b c fr to).2 = (kindF op nk a b c fr' to').2 ∧ ((permF op a b c fr to).2 = true → (permF op a b c fr to).1 = (kindF op nk a b c fr' to').1) := by
  rcases hop.cases with rfl | rfl | rfl | rfl | rfl | rfl | rfl | rfl | rfl | rfl | rfl | rfl | rfl | rfl | rfl
  all_goals first
    | obtain ⟨rfl, rfl⟩ := ht rfl
    | skip
  all_goals replace ha := ha (by decide)
  all_goals first
    | replace hb := hb (by decide)
    | clear hb
  all_goals first
    | replace hc := hc (by decide)
    | clear hc
  all_goals (have a0 : a ≠ 0 := by omega)
  all_goals first
    | (have b0 : b ≠ 0 := by omega)
    | skip
  all_goals first
    | (have c0 : c ≠ 0 := by omega)
    | skip
  all_goals by_cases hab : a = b
  all_goals first
    | (simp [permF, kindF, joinK, sumK, productK, *]; done)
    | (simp [permF, kindF, joinK, sumK, productK, *]; omega)
    | (by_cases hbc : b = c <;> simp [permF, kindF, joinK, sumK, productK, a0, b0, c0, hbc] <;> omega)
    | (by_cases hbc : b = c <;> simp [permF, kindF, joinK, sumK, productK, a0, b0, c0, hbc]; done)
    | (have a6 : a = 1 ∨ a = 2 ∨ a = 3 ∨ a = 4 ∨ a = 5 ∨ a = 6 := by omega
       have b6 : b = 1 ∨ b = 2 ∨ b = 3 ∨ b = 4 ∨ b = 5 ∨ b = 6 := by omega
       clear hab hop ht ha hb a0 b0
       rcases a6 with rfl | rfl | rfl | rfl | rfl | rfl <;> rcases b6 with rfl | rfl | rfl | rfl | rfl | rfl <;> simp [permF, kindF, sumK, productK])
theorem perm_range {op : Int} (hop : isOp op) (a b c fr to : Int) (ha : 1 ≤ ar op → 1 ≤ a ∧ a ≤ 6) (hb : 2 ≤ ar op → 1 ≤ b ∧ b ≤ 6) (hc : 3 ≤ ar op → 1 ≤ c ∧ c ≤ 6) (ht : op = 16 → 1 ≤ to ∧ to ≤ 6) :
    1 ≤ (permF op a b c fr to).1 ∧ (permF op a b c fr to).1 ≤ 6 := by
  rcases hop.cases with rfl | rfl | rfl | rfl | rfl | rfl | rfl | rfl | rfl | rfl | rfl | rfl | rfl | rfl | rfl
  all_goals replace ha := ha (by decide)
  all_goals first
    | replace hb := hb (by decide)
    | clear hb
  all_goals first
    | replace hc := hc (by decide)
    | clear hc
  all_goals simp [permF]
  all_goals first
    | omega
    | (have := ht rfl; omega)
    | (split <;> simp <;> omega)
theorem getD_range {ks : List Int} (hr : ∀ v ∈ ks, 1 ≤ v ∧ v ≤ 6) {j : Nat} (hj : j < ks.length) : 1 ≤ ks.getD j 0 ∧ ks.getD j 0 ≤ 6 := by
  rw [List.getD_eq_getElem?_getD, List.getElem?_eq_getElem hj]
  exact hr _ (List.getElem_mem hj)
theorem node_same (at_ : ByteArray → Option Int) (tb : ByteArray → Option Tb) (x : Nd) (ks : List Int) (hr : ∀ v ∈ ks, 1 ≤ v ∧ v ≤ 6) (hk : (ks.length : Int) = ar x.op) (h0 : 0 ≤ x.op) (h18 : x.op ≤ 18) (hl : x.op = 0 → 1 ≤ x.kd ∧ x.kd ≤ 6) :
    nodeK at_ tb x ks = nodeT at_ tb x ks ∧ ((nodeK at_ tb x ks).2 = 0 → 1 ≤ (nodeK at_ tb x ks).1 ∧ (nodeK at_ tb x ks).1 ≤ 6) := by
  by_cases q0 : x.op = 0
  · rw [nodeK, if_pos q0, nodeT, if_neg (by omega), if_neg (by omega)]
    have e : ∀ q, kindF x.op x.kd q (ks.getD 1 0) (ks.getD 2 0) 0 0 = (x.kd, true) := fun q => by rw [kindF, if_pos q0]
    rw [kindP, e]
    exact ⟨rfl, fun _ => hl q0⟩
  by_cases q1 : x.op ≤ 3
  · have h3 : x.op = 1 ∨ x.op = 2 ∨ x.op = 3 := by omega
    unfold nodeK nodeT
    rw [if_neg q0, if_pos h3]
    cases hA : at_ x.nm with
    | none =>
      rw [if_pos (.inl ⟨q1, rfl⟩)]
      exact ⟨rfl, fun h => by cases h⟩
    | some k =>
      have e1 : ¬ (x.op ≤ 3 ∧ (some k).isSome = false ∨ x.op = 16 ∧ (tb x.nm).isSome = false) := by
        rintro (⟨_, h⟩ | ⟨h, _⟩)
        · cases h
        · omega
      rw [if_neg e1]
      unfold lookF
      simp only [Option.getD_some]
      rcases h3 with h3 | h3 | h3
      · simp only [h3]
        by_cases hk : 1 ≤ k ∧ k ≤ 6
        · have hk' : 0 < k ∧ k ≤ 6 := by omega
          simp [hk, hk']
        · have hk' : ¬ (0 < k ∧ k ≤ 6) := by omega
          simp [hk, hk']
      · simp only [h3]
        by_cases hk : k = 2 ∨ k = 3 ∨ k = 5 ∨ k = 6
        · simp [hk]; omega
        · simp [hk]
      · simp only [h3]
        by_cases hk : k = 1 <;> simp [hk]
  have hop : isOp x.op := ⟨by omega, h18⟩
  have ga : 1 ≤ ar x.op → 1 ≤ ks.getD 0 0 ∧ ks.getD 0 0 ≤ 6 := fun h => getD_range hr (by omega)
  have gb : 2 ≤ ar x.op → 1 ≤ ks.getD 1 0 ∧ ks.getD 1 0 ≤ 6 := fun h => getD_range hr (by omega)
  have gc : 3 ≤ ar x.op → 1 ≤ ks.getD 2 0 ∧ ks.getD 2 0 ≤ 6 := fun h => getD_range hr (by omega)
  have n1 : ¬ (x.op = 1) := by omega
  have n2 : ¬ (x.op = 2) := by omega
  have n3 : ¬ (x.op = 3) := by omega
  have n123 : ¬ (x.op = 1 ∨ x.op = 2 ∨ x.op = 3) := by omega
  unfold nodeK nodeT
  rw [if_neg q0, if_neg n123]
  by_cases q16 : x.op = 16
  · rw [if_pos q16]
    cases hT : tb x.nm with
    | none =>
      rw [if_pos (.inr ⟨q16, rfl⟩)]
      exact ⟨rfl, fun h => by cases h⟩
    | some t =>
      have e1 : ¬ (x.op ≤ 3 ∧ (at_ x.nm).isSome = false ∨ x.op = 16 ∧ (some t).isSome = false) := by
        rintro (⟨h, _⟩ | ⟨_, h⟩)
        · omega
        · cases h
      rw [if_neg e1, if_neg n1]
      simp only [Option.getD_some]
      by_cases q6 : ¬ (0 < t.fr ∧ t.fr ≤ 6) ∨ ¬ (0 < t.to ∧ t.to ≤ 6)
      · have e2 : x.op = 16 ∧ (min t.fr t.to < 1 ∨ 6 < max t.fr t.to) := ⟨q16, by omega⟩
        rw [if_pos e2, if_pos q6]
        exact ⟨rfl, fun h => by cases h⟩
      have e2 : ¬ (x.op = 16 ∧ (min t.fr t.to < 1 ∨ 6 < max t.fr t.to)) := by omega
      rw [if_neg e2, if_neg q6, if_neg n2, if_neg n3]
      obtain ⟨p1, p2⟩ := kind_perm hop x.kd (ks.getD 0 0) (ks.getD 1 0) (ks.getD 2 0) t.fr t.to t.fr t.to ga gb gc fun _ => ⟨rfl, rfl⟩
      have pr := perm_range hop (ks.getD 0 0) (ks.getD 1 0) (ks.getD 2 0) t.fr t.to ga gb gc fun _ => by omega
      unfold permP kindP
      rw [← p1]
      cases hq : (permF x.op (ks.getD 0 0) (ks.getD 1 0) (ks.getD 2 0) t.fr t.to).2 with
      | true => rw [if_pos rfl, if_pos rfl, p2 hq]; rw [p2 hq] at pr; exact ⟨rfl, fun _ => pr⟩
      | false => rw [if_neg (by simp), if_neg (by simp)]; exact ⟨rfl, fun h => by cases h⟩
  · have e1 : ¬ (x.op ≤ 3 ∧ (at_ x.nm).isSome = false ∨ x.op = 16 ∧ (tb x.nm).isSome = false) := by
      rintro (⟨h, _⟩ | ⟨h, _⟩)
      · omega
      · exact q16 h
    have e2 : ¬ (x.op = 16 ∧ (min ((tb x.nm).getD tb0).fr ((tb x.nm).getD tb0).to < 1 ∨ 6 < max ((tb x.nm).getD tb0).fr ((tb x.nm).getD tb0).to)) := fun h => q16 h.1
    rw [if_neg q16, if_neg e1, if_neg n1, if_neg e2, if_neg n2, if_neg n3]
    obtain ⟨p1, p2⟩ := kind_perm hop x.kd (ks.getD 0 0) (ks.getD 1 0) (ks.getD 2 0) ((tb x.nm).getD tb0).fr ((tb x.nm).getD tb0).to 0 0 ga gb gc fun h => absurd h q16
    have pr := perm_range hop (ks.getD 0 0) (ks.getD 1 0) (ks.getD 2 0) ((tb x.nm).getD tb0).fr ((tb x.nm).getD tb0).to ga gb gc fun h => absurd h q16
    unfold permP kindP
    rw [← p1]
    cases hq : (permF x.op (ks.getD 0 0) (ks.getD 1 0) (ks.getD 2 0) ((tb x.nm).getD tb0).fr ((tb x.nm).getD tb0).to).2 with
    | true => rw [if_pos rfl, if_pos rfl, p2 hq]; rw [p2 hq] at pr; exact ⟨rfl, fun _ => pr⟩
    | false => rw [if_neg (by simp), if_neg (by simp)]; exact ⟨rfl, fun h => by cases h⟩
theorem knd_same (nk nk' : Nd → List Int → Int × Int) : ∀ (r : List Nd) (i : Nat) (acc : List Int), acc.length = i → (∀ v ∈ acc, 1 ≤ v ∧ v ≤ 6) →
    (∀ (j : Nat) (x : Nd), r[j]? = some x → (∀ k ∈ x.kids, 0 ≤ k ∧ k < ((i + j : Nat) : Int)) ∧ ∀ ks : List Int, ks.length = x.kids.length → (∀ v ∈ ks, 1 ≤ v ∧ v ≤ 6) → nk x ks = nk' x ks ∧ ((nk x ks).2 = 0 → 1 ≤ (nk x ks).1 ∧ (nk x ks).1 ≤ 6)) →
    kndF nk r acc = kndF nk' r acc
  | [], i, acc, _, _, _ => rfl
  | x :: r, i, acc, hi, ha, hx => by
    obtain ⟨h1, h2⟩ := hx 0 x rfl
    obtain ⟨h3, h4⟩ := h2 (x.kids.map fun k => acc.getD k.toNat 0) (by simp) fun v hv => by
      obtain ⟨k, hk, rfl⟩ := List.mem_map.1 hv
      have := h1 k hk
      exact getD_range ha (by omega)
    unfold kndF
    rw [← h3]
    by_cases q : (nk x (x.kids.map fun k => acc.getD k.toNat 0)).2 = 0
    · rw [if_neg (fun h => h q), if_neg (fun h => h q)]
      refine knd_same nk nk' r (i + 1) _ (by simp [hi]) (fun v hv => ?_) fun j y hy => ?_
      · rcases List.mem_append.1 hv with hv | hv
        · exact ha v hv
        · rw [List.mem_singleton.1 hv]; exact h4 q
      · have := hx (j + 1) y (by simpa using hy)
        rw [show i + (j + 1) = i + 1 + j by omega] at this
        exact this
    · rw [if_pos q, if_pos q]
/-- The kinds of a tree by the reference are those of types.Of. -/
def ofF (cE : List Nd → Int) (l : List Ac) (e : List Nd) : Int × Int := if cE e ≠ 0 then (0, cE e) else kndF (nodeT (fun nm => atF nm l) fun nm => findF nm (tabsL l)) e []
theorem of_tree (nameB : ByteArray → Bool) (l : List Ac) (e : List Nd) : treeOf (treeE (oneE nameB)) l e = ofF (chkE (oneE nameB)) l e := by
  have h0 : treeE (oneE nameB) e = chkE (oneE nameB) e := tree_check _ e fun i x _ h => (oneE_all h).2.2.2.1
  unfold treeOf ofF
  rw [← h0]
  by_cases q : treeE (oneE nameB) e = 0
  · rw [if_neg (fun h => h q), if_neg (fun h => h q)]
    obtain ⟨_, _, h1⟩ := treeE_ok _ e q
    refine knd_same _ _ e 0 [] rfl (fun v hv => by cases hv) fun j x hx => ?_
    obtain ⟨f1, f2, f3, f4, f5⟩ := oneE_all (h1 j x hx)
    rw [Nat.zero_add]
    exact ⟨f4, fun ks hl hr => node_same _ _ x ks hr (by rw [hl]; exact f1) f2 f3 f5⟩
  · rw [if_pos q, if_pos q]
end Go.Proofs.YtmalhikcdideoaaDoor

set_option linter.unusedVariables false
set_option linter.unusedSimpArgs false
namespace Go.Proofs.YtmalhikcdideoaaDoor
open Go Sl
attribute [local irreducible] XRange LpQ XR XRo XRg XRQ putQ XFv XL XW2 wQ putW X XO XOp XH XHo XW SeqQ BlkQ XOQ XHQ NrmQ XC XM XG XHM XHG XD CallK


def isLetter (c : UInt8) : Bool := decide (97 ≤ c.toNat ∧ c.toNat ≤ 122)
def isDigit (c : UInt8) : Bool := decide (48 ≤ c.toNat ∧ c.toNat ≤ 57)
def isInner (c : UInt8) : Bool := isLetter c || isDigit c || decide (c.toNat = 45)
def isNum (c : UInt8) : Bool := isDigit c || decide (c.toNat = 46) || decide (c.toNat = 45) || decide (c.toNat = 37)
def isSign (c : UInt8) : Bool := decide (c.toNat = 58 ∨ c.toNat = 59 ∨ c.toNat = 44 ∨ c.toNat = 40 ∨ c.toNat = 41)
def keysB : List ByteArray := [⟨#[97, 99, 116]⟩, ⟨#[97, 110, 100]⟩, ⟨#[97, 114, 116, 105, 99, 108, 101]⟩, ⟨#[97, 116, 45, 109, 111, 115, 116]⟩, ⟨#[97, 116, 116, 114, 105, 98, 117, 116, 101]⟩, ⟨#[98, 97, 115, 101]⟩, ⟨#[98, 101, 108, 111, 119]⟩, ⟨#[98, 111, 111, 108]⟩, ⟨#[99, 111, 117, 110, 116]⟩, ⟨#[100, 97, 116, 101]⟩, ⟨#[100, 97, 121, 115]⟩, ⟨#[100, 111, 119, 110]⟩, ⟨#[101, 108, 115, 101]⟩, ⟨#[101, 110, 97, 99, 116, 101, 100]⟩, ⟨#[101, 113, 117, 97, 108, 115]⟩, ⟨#[102, 97, 108, 115, 101]⟩, ⟨#[102, 114, 111, 109]⟩, ⟨#[103, 105, 118, 101, 115]⟩, ⟨#[103, 114, 101, 97, 116, 101, 115, 116]⟩, ⟨#[104, 97, 108, 102]⟩, ⟨#[104, 97, 108, 102, 45, 111, 117, 116]⟩, ⟨#[104, 97, 108, 102, 45, 116, 119, 111]⟩, ⟨#[105, 102]⟩, ⟨#[105, 110, 112, 117, 116]⟩, ⟨#[105, 115]⟩, ⟨#[108, 101, 97, 115, 116]⟩, ⟨#[108, 101, 118, 101, 108]⟩, ⟨#[109, 105, 110, 117, 115]⟩, ⟨#[109, 111, 110, 101, 121]⟩, ⟨#[110, 111, 116]⟩, ⟨#[110, 117, 109, 98, 101, 114]⟩, ⟨#[111, 102]⟩, ⟨#[111, 114]⟩, ⟨#[111, 118, 101, 114]⟩, ⟨#[112, 108, 117, 115]⟩, ⟨#[114, 111, 117, 110, 100]⟩, ⟨#[115, 99, 97, 108, 101]⟩, ⟨#[115, 104, 97, 114, 101]⟩, ⟨#[115, 108, 105, 99, 101, 115]⟩, ⟨#[116, 97, 98, 108, 101]⟩, ⟨#[116, 104, 101, 110]⟩, ⟨#[116, 105, 109, 101, 115]⟩, ⟨#[116, 111]⟩, ⟨#[116, 111, 116, 97, 108]⟩, ⟨#[116, 114, 117, 101]⟩, ⟨#[117, 112]⟩, ⟨#[119, 101, 105, 103, 104, 116]⟩, ⟨#[119, 104, 101, 110]⟩, ⟨#[121, 101, 97, 114, 115]⟩]
def isKey (s : ByteArray) : Bool := keysB.any fun k => decide (s = k)
/-- A token: its kind, its text, its line. -/
structure Tok where
  kind : Int
  text : ByteArray
  line : Int
deriving DecidableEq
@[go_sem] def cT (t : Tok) : List AV := [I t.kind, S t.text, I t.line]
def digitNext : List UInt8 → Bool
  | [] => false
  | d :: _ => isDigit d
/-- The kind and the length of the token at the head. -/
def oneF (c : UInt8) (r : List UInt8) : Int × Nat :=
  if isLetter c then
    let n := 1 + (r.takeWhile isInner).length
    if isKey (bOf ((c :: r).take n)) then (2, n) else if 20 < n then (0, 0) else (1, n)
  else if isDigit c || (decide (c.toNat = 45) && digitNext r) then (3, 1 + (r.takeWhile isNum).length)
  else if isSign c then (4, 1) else (0, 0)
def scanW : List UInt8 → Int → List Tok → List Tok × Int × Int
  | [], _, out => (out, 0, 0)
  | c :: r, line, out =>
    if c.toNat = 32 ∨ c.toNat = 10 then scanW r (if c.toNat = 10 then line + 1 else line) out
    else if (oneF c r).1 = 0 then ([], line, 14)
    else scanW (r.drop ((oneF c r).2 - 1)) line (out ++ [⟨(oneF c r).1, bOf ((c :: r).take (oneF c r).2), line⟩])
termination_by l => l.length
decreasing_by
  all_goals simp
  omega
theorem oneF_pos (c : UInt8) (r : List UInt8) (h : (oneF c r).1 ≠ 0) : 1 ≤ (oneF c r).2 ∧ (oneF c r).2 ≤ r.length + 1 := by
  have h1 := (List.takeWhile_prefix (l := r) isInner).length_le
  have h2 := (List.takeWhile_prefix (l := r) isNum).length_le
  have key : ∀ x : Int × Nat, (x = (2, 1 + (r.takeWhile isInner).length) ∨ x = (0, 0) ∨ x = (1, 1 + (r.takeWhile isInner).length) ∨ x = (3, 1 + (r.takeWhile isNum).length) ∨ x = (4, 1)) → x.1 ≠ 0 → 1 ≤ x.2 ∧ x.2 ≤ r.length + 1 := by
    rintro x (rfl | rfl | rfl | rfl | rfl) hx <;> first | (exact absurd rfl hx) | (dsimp only; omega)
  refine key _ ?_ h
  unfold oneF
  dsimp only
  repeat' split
  all_goals simp
/-- All of it, when it is not too large. -/
def linesF (s : ByteArray) : List Tok × Int × Int := if 30000 < s.size then ([], 0, 2) else scanW s.data.toList 1 []
end Go.Proofs.YtmalhikcdideoaaDoor

set_option linter.unusedVariables false
set_option linter.unusedSimpArgs false
namespace Go.Proofs.YtmalhikcdideoaaDoor
open Go Sl
attribute [local irreducible] XRange LpQ XR XRo XRg XRQ putQ XFv XL XW2 wQ putW X XO XOp XH XHo XW SeqQ BlkQ XOQ XHQ NrmQ XC XM XG XHM XHG XD CallK
theorem letter_ok (c : UInt8) : Pure Tryd.prog 53 [U8 c] (B (isLetter c)) := by
  intro h; refine callK_body Tryd.func53 rfl (by rw [nt53]; simp) ?_; rw [nt53, rs53]
  ((repeat' (first | simp [go_sem, X_region, *] | simp (disch := omega) only [om, *] | ((first | refine XC_split ?_ ?_ | refine XG_true ?_ ?_ | refine XG_false ?_ ?_ | refine XRg_true ?_ ?_ | refine XRg_false ?_ ?_) <;> intro hc <;> (try simp only [bl] at hc) <;> (try (exfalso; omega))) | refine XD_w [] [] [] (fun _ => none) mixed (by decide +kernel) (sub_none _) ?_ | (intro bk hbk; (try simp only [go_sem] at hbk)))); all_goals (refine Wk.fin (by repeat (first | exact Sub.refl _ | refine Sub.upd (by simp [*]) ?_)) ?_; first | (simp [isLetter, *]; done) | (simp only [isLetter]; (repeat' (first | split | rfl | omega | (simp_all; done))); done) | (simp [isLetter, *]; (repeat' (first | split | omega | (rw [Bool.eq_iff_iff]; simp; omega))); done) | (simp [isLetter, *])))
theorem digit_ok (c : UInt8) : Pure Tryd.prog 82 [U8 c] (B (isDigit c)) := by
  intro h; refine callK_body Tryd.func82 rfl (by rw [nt82]; simp) ?_; rw [nt82, rs82]
  ((repeat' (first | simp [go_sem, X_region, *] | simp (disch := omega) only [om, *] | ((first | refine XC_split ?_ ?_ | refine XG_true ?_ ?_ | refine XG_false ?_ ?_ | refine XRg_true ?_ ?_ | refine XRg_false ?_ ?_) <;> intro hc <;> (try simp only [bl] at hc) <;> (try (exfalso; omega))) | refine XD_w [] [] [] (fun _ => none) mixed (by decide +kernel) (sub_none _) ?_ | (intro bk hbk; (try simp only [go_sem] at hbk)))); all_goals (refine Wk.fin (by repeat (first | exact Sub.refl _ | refine Sub.upd (by simp [*]) ?_)) ?_; first | (simp [isDigit, *]; done) | (simp only [isDigit]; (repeat' (first | split | rfl | omega | (simp_all; done))); done) | (simp [isDigit, *]; (repeat' (first | split | omega | (rw [Bool.eq_iff_iff]; simp; omega))); done) | (simp [isDigit, *])))
theorem inner_ok (c : UInt8) : Pure Tryd.prog 54 [U8 c] (B (isInner c)) := by
  intro h; refine callK_body Tryd.func54 rfl (by rw [nt54]; simp) ?_; rw [nt54, rs54]
  ((repeat' (first | simp [go_sem, X_region, *] | simp (disch := omega) only [om, *] | ((first | refine XC_split ?_ ?_ | refine XG_true ?_ ?_ | refine XG_false ?_ ?_ | refine XRg_true ?_ ?_ | refine XRg_false ?_ ?_) <;> intro hc <;> (try simp only [bl] at hc) <;> (try (exfalso; omega))) | refine XD_w [] [] [] (fun _ => none) mixed (by decide +kernel) (sub_none _) ?_ | refine Pure.call (letter_ok c) ?_ | refine ⟨_, Pure.at (letter_ok c), ?_⟩ | refine ⟨_, letter_ok c, ?_⟩ | refine PureAt.call (letter_ok c) ?_ | refine Pure.call (digit_ok c) ?_ | refine ⟨_, Pure.at (digit_ok c), ?_⟩ | refine ⟨_, digit_ok c, ?_⟩ | refine PureAt.call (digit_ok c) ?_ | (intro bk hbk; (try simp only [go_sem] at hbk)))); all_goals (refine Wk.fin (by repeat (first | exact Sub.refl _ | refine Sub.upd (by simp [*]) ?_)) ?_; first | (simp [isInner, *]; done) | (simp only [isInner]; (repeat' (first | split | rfl | omega | (simp_all; done))); done) | (simp [isInner, *]; (repeat' (first | split | omega | (rw [Bool.eq_iff_iff]; simp; omega))); done) | (simp [isInner, *])))
theorem num_ok (c : UInt8) : Pure Tryd.prog 83 [U8 c] (B (isNum c)) := by
  intro h; refine callK_body Tryd.func83 rfl (by rw [nt83]; simp) ?_; rw [nt83, rs83]
  ((repeat' (first | simp [go_sem, X_region, *] | simp (disch := omega) only [om, *] | ((first | refine XC_split ?_ ?_ | refine XG_true ?_ ?_ | refine XG_false ?_ ?_ | refine XRg_true ?_ ?_ | refine XRg_false ?_ ?_) <;> intro hc <;> (try simp only [bl] at hc) <;> (try (exfalso; omega))) | refine XD_w [] [] [] (fun _ => none) mixed (by decide +kernel) (sub_none _) ?_ | refine Pure.call (digit_ok c) ?_ | refine ⟨_, Pure.at (digit_ok c), ?_⟩ | refine ⟨_, digit_ok c, ?_⟩ | refine PureAt.call (digit_ok c) ?_ | (intro bk hbk; (try simp only [go_sem] at hbk)))); all_goals (refine Wk.fin (by repeat (first | exact Sub.refl _ | refine Sub.upd (by simp [*]) ?_)) ?_; first | (simp [isNum, *]; done) | (simp only [isNum]; (repeat' (first | split | rfl | omega | (simp_all; done))); done) | (simp [isNum, *]; (repeat' (first | split | omega | (rw [Bool.eq_iff_iff]; simp; omega))); done) | (simp [isNum, *])))
theorem nan1_ok (s : ByteArray) : Pure Tryd.prog 116 [S s] (B false) := by
  intro h; refine callK_body Tryd.func116 rfl (by rw [nt116]; simp) ?_; rw [nt116, rs116]
  ((repeat' (first | simp [go_sem, X_region, *] | simp (disch := omega) only [om, *] | ((first | refine XC_split ?_ ?_ | refine XG_true ?_ ?_ | refine XG_false ?_ ?_ | refine XRg_true ?_ ?_ | refine XRg_false ?_ ?_) <;> intro hc <;> (try simp only [bl] at hc) <;> (try (exfalso; omega))) | refine XD_w [] [] [] (fun _ => none) mixed (by decide +kernel) (sub_none _) ?_ | (intro bk hbk; (try simp only [go_sem] at hbk)))); all_goals (refine Wk.fin (by repeat (first | exact Sub.refl _ | refine Sub.upd (by simp [*]) ?_)) ?_; first | (simp [*]; done) | (simp only []; (repeat' (first | split | rfl | omega | (simp_all; done))); done) | (simp [*]; (repeat' (first | split | omega | (rw [Bool.eq_iff_iff]; simp; omega))); done) | (simp [*])))
theorem nan2_ok (s : ByteArray) : Pure Tryd.prog 88 [S s] (B false) := by
  intro h; refine callK_body Tryd.func88 rfl (by rw [nt88]; simp) ?_; rw [nt88, rs88]
  ((repeat' (first | simp [go_sem, X_region, *] | simp (disch := omega) only [om, *] | ((first | refine XC_split ?_ ?_ | refine XG_true ?_ ?_ | refine XG_false ?_ ?_ | refine XRg_true ?_ ?_ | refine XRg_false ?_ ?_) <;> intro hc <;> (try simp only [bl] at hc) <;> (try (exfalso; omega))) | refine XD_w [] [] [] (fun _ => none) mixed (by decide +kernel) (sub_none _) ?_ | (intro bk hbk; (try simp only [go_sem] at hbk)))); all_goals (refine Wk.fin (by repeat (first | exact Sub.refl _ | refine Sub.upd (by simp [*]) ?_)) ?_; first | (simp [*]; done) | (simp only []; (repeat' (first | split | rfl | omega | (simp_all; done))); done) | (simp [*]; (repeat' (first | split | omega | (rw [Bool.eq_iff_iff]; simp; omega))); done) | (simp [*])))
theorem less_ok (a b : ByteArray) : Pure Tryd.prog 87 [S a, S b] (B (Op.bytesLess a.data.toList b.data.toList)) := by
  intro h; refine callK_body Tryd.func87 rfl (by rw [nt87]; simp) ?_; rw [nt87, rs87]
  ((repeat' (first | simp [go_sem, X_region, *] | simp (disch := omega) only [om, *] | ((first | refine XC_split ?_ ?_ | refine XG_true ?_ ?_ | refine XG_false ?_ ?_ | refine XRg_true ?_ ?_ | refine XRg_false ?_ ?_) <;> intro hc <;> (try simp only [bl] at hc) <;> (try (exfalso; omega))) | refine XD_w [] [] [] (fun _ => none) mixed (by decide +kernel) (sub_none _) ?_ | refine Pure.call (nan1_ok _) ?_ | refine ⟨_, Pure.at (nan1_ok _), ?_⟩ | refine ⟨_, nan1_ok _, ?_⟩ | refine PureAt.call (nan1_ok _) ?_ | (intro bk hbk; (try simp only [go_sem] at hbk)))); all_goals (refine Wk.fin (by repeat (first | exact Sub.refl _ | refine Sub.upd (by simp [*]) ?_)) ?_; first | (simp [*]; done) | (simp only []; (repeat' (first | split | rfl | omega | (simp_all; done))); done) | (simp [*]; (repeat' (first | split | omega | (rw [Bool.eq_iff_iff]; simp; omega))); done) | (simp [*])))
theorem gb_at {s : ByteArray} {i : Nat} {c : UInt8} {r : List UInt8} (h : s.data.toList.drop i = c :: r) : gb s i = c := by
  obtain ⟨h1, h2, _⟩ := drop_cons h
  unfold gb
  rw [List.getD_eq_getElem?_getD, List.getElem?_eq_getElem h1, h2]; rfl
theorem size_list (s : ByteArray) : s.data.toList.length = s.size := by simp
theorem str_nil {s : ByteArray} {i : Nat} (h : s.data.toList.drop i = []) : ¬ i < s.size := by
  have := drop_nil h
  rwa [size_list] at this
theorem str_cons {s : ByteArray} {i : Nat} {c : UInt8} {r : List UInt8} (h : s.data.toList.drop i = c :: r) : i < s.size ∧ gb s i = c ∧ s.data.toList.drop (i + 1) = r := by
  obtain ⟨h1, h2, h3⟩ := drop_cons h
  exact ⟨by rwa [size_list] at h1, gb_at h, h3⟩
theorem span_ok (f : FuncId) (hc : callable Tryd.prog f = true) (p : UInt8 → Bool) (hp : ∀ c, Pure Tryd.prog f [U8 c] (B (p c))) (s : ByteArray) (a : Nat) (ha : a ≤ s.size) (hs : s.size ≤ 140737488355328) :
    Pure Tryd.prog 81 [S s, I a, .v (.func (.func f) #[] #[])] (I ((s.data.toList.drop a).takeWhile p).length) := by
  generalize hR : I ((s.data.toList.drop a).takeWhile p).length = R
  intro h; refine callK_body Tryd.func81 rfl (by rw [nt81]; simp) ?_; rw [nt81, rs81]
  (repeat' (first | simp [go_sem, X_region, *] | simp (disch := omega) only [om, *] | ((first | refine XC_split ?_ ?_ | refine XG_true ?_ ?_ | refine XG_false ?_ ?_ | refine XRg_true ?_ ?_ | refine XRg_false ?_ ?_) <;> intro hc <;> (try simp only [bl] at hc) <;> (try (exfalso; omega))) | refine XD_w [] [] [] (fun _ => none) mixed (by decide +kernel) (sub_none _) ?_ | (intro bk hbk; (try simp only [go_sem] at hbk))))
  refine X_lp (fun n T h' => ∃ (i : Nat) (r : List UInt8), n = r.length ∧ a + i ≤ s.size ∧ s.data.toList.drop (a + i) = r ∧ T 7 = I i ∧ I ((i + (r.takeWhile p).length : Nat) : Int) = R ∧ T 0 = S s ∧ T 1 = I a ∧ T 2 = .v (.func (.func f) #[] #[]) ∧ h' = h) _ ⟨0, _, rfl, ha, rfl, by simp [go_sem], by simpa using hR, by simp [go_sem], by simp [go_sem], by simp [go_sem], rfl⟩ ?_
  clear hR; rintro J hJ n T h' ⟨i, r, rfl, hi, hd, h7, hR, h0, h1, h2, rfl⟩
  rcases r with _ | ⟨c, r⟩
  · have hlt := str_nil hd
    (repeat' (first | simp [go_sem, X_region, *] | simp (disch := omega) only [om, *] | ((first | refine XC_split ?_ ?_ | refine XG_true ?_ ?_ | refine XG_false ?_ ?_ | refine XRg_true ?_ ?_ | refine XRg_false ?_ ?_) <;> intro hc <;> (try simp only [bl] at hc) <;> (try (exfalso; omega))) | refine XD_w [] [] [] (fun _ => none) mixed (by decide +kernel) (sub_none _) ?_ | (intro bk hbk; (try simp only [go_sem] at hbk))))
    trace_state
    all_goals (subst hR; exact Wk.of_eq (by simp))
  · obtain ⟨hlt, hg, hd2⟩ := str_cons hd
    cases hpc : p c
    · (repeat' (first | simp [go_sem, X_region, *] | simp (disch := omega) only [om, *] | ((first | refine XC_split ?_ ?_ | refine XG_true ?_ ?_ | refine XG_false ?_ ?_ | refine XRg_true ?_ ?_ | refine XRg_false ?_ ?_) <;> intro hc <;> (try simp only [bl] at hc) <;> (try (exfalso; omega))) | refine XD_w [] [] [] (fun _ => none) mixed (by decide +kernel) (sub_none _) ?_ | refine Pure.call (hp c) ?_ | refine ⟨_, Pure.at (hp c), ?_⟩ | refine ⟨_, hp c, ?_⟩ | refine PureAt.call (hp c) ?_ | (intro bk hbk; (try simp only [go_sem] at hbk))))
      trace_state
      all_goals (subst hR; exact Wk.of_eq (by simp [hpc]))
    · (repeat' (first | simp [go_sem, X_region, *] | simp (disch := omega) only [om, *] | ((first | refine XC_split ?_ ?_ | refine XG_true ?_ ?_ | refine XG_false ?_ ?_ | refine XRg_true ?_ ?_ | refine XRg_false ?_ ?_) <;> intro hc <;> (try simp only [bl] at hc) <;> (try (exfalso; omega))) | refine XD_w [] [] [] (fun _ => none) mixed (by decide +kernel) (sub_none _) ?_ | refine Pure.call (hp c) ?_ | refine ⟨_, Pure.at (hp c), ?_⟩ | refine ⟨_, hp c, ?_⟩ | refine PureAt.call (hp c) ?_ | (intro bk hbk; (try simp only [go_sem] at hbk))))
      exact ⟨_, Nat.lt_succ_self _, hJ.out _ _ _ ⟨i + 1, r, rfl, by omega, by rw [← Nat.add_assoc]; exact hd2, by simp [go_sem, *], by rw [← hR]; simp [hpc]; omega, by simp [go_sem, *], by simp [go_sem, *], by simp [go_sem, *], rfl⟩⟩
end Go.Proofs.YtmalhikcdideoaaDoor

set_option linter.unusedVariables false
set_option linter.unusedSimpArgs false
namespace Go.Proofs.YtmalhikcdideoaaDoor
open Go Sl
attribute [local irreducible] XRange LpQ XR XRo XRg XRQ putQ XFv XL XW2 wQ putW X XO XOp XH XHo XW SeqQ BlkQ XOQ XHQ NrmQ XC XM XG XHM XHG XD CallK
theorem bl_irr : ∀ x : List UInt8, Op.bytesLess x x = false := by
  intro x
  induction x with
  | nil => rfl
  | cons a x ih =>
    unfold Op.bytesLess
    simp [ih]
theorem bl_asym : ∀ x y : List UInt8, Op.bytesLess x y = true → Op.bytesLess y x = false := by
  intro x
  induction x with
  | nil =>
    intro y h
    cases y with
    | nil => rfl
    | cons b y => rfl
  | cons a x ih =>
    intro y h
    cases y with
    | nil => simp [Op.bytesLess] at h
    | cons b y =>
      unfold Op.bytesLess at h ⊢
      simp only [Bool.or_eq_true, Bool.and_eq_true, decide_eq_true_eq, beq_iff_eq, Bool.or_eq_false_iff, decide_eq_false_iff_not, Bool.and_eq_false_iff, beq_eq_false_iff_ne] at h ⊢
      rcases h with h | ⟨rfl, h⟩
      · exact ⟨fun h2 => absurd (UInt8.lt_trans h h2) (UInt8.lt_irrefl _), .inl fun e => by subst e; exact UInt8.lt_irrefl _ h⟩
      · exact ⟨UInt8.lt_irrefl _, .inr (ih y h)⟩
/-- As the loop goes. -/
def bsF (l : List ByteArray) (s : ByteArray) (i j : Nat) : Nat :=
  if i < j then
    if Op.bytesLess (l.getD ((i + j) / 2) ⟨#[]⟩).data.toList s.data.toList = true then bsF l s ((i + j) / 2 + 1) j else bsF l s i ((i + j) / 2)
  else i
termination_by j - i
decreasing_by
  all_goals omega
def foundB (l : List ByteArray) (s : ByteArray) : Bool := decide (l[bsF l s 0 l.length]? = some s)
def Rising (l : List ByteArray) : Prop := ∀ i j, i < j → j < l.length → Op.bytesLess (l.getD i ⟨#[]⟩).data.toList (l.getD j ⟨#[]⟩).data.toList = true
theorem bsF_spec (l : List ByteArray) (s : ByteArray) (hl : Rising l) : ∀ (n i j : Nat), j - i = n → i ≤ j → j ≤ l.length → (∀ k, l[k]? = some s → i ≤ k ∧ k ≤ j) → bsF l s i j ≤ l.length ∧ ∀ k, l[k]? = some s → k = bsF l s i j := by
  intro n
  induction n using Nat.strongRecOn with
  | _ n ih =>
    intro i j hn hij hj hk
    rw [bsF]
    by_cases hlt : i < j
    · rw [if_pos hlt]
      have hm : (i + j) / 2 < l.length := by omega
      split
      · rename_i hb
        refine ih (j - ((i + j) / 2 + 1)) (by omega) _ _ rfl (by omega) hj fun k hs => ⟨?_, (hk k hs).2⟩
        refine Nat.lt_of_not_le fun hle => ?_
        have hkl : l.getD k ⟨#[]⟩ = s := by rw [List.getD_eq_getElem?_getD, hs]; rfl
        rcases Nat.lt_or_eq_of_le hle with h1 | h1
        · have := hl k _ h1 hm
          rw [hkl] at this
          rw [bl_asym _ _ this] at hb; cases hb
        · rw [← h1, hkl, bl_irr] at hb; cases hb
      · rename_i hb
        refine ih ((i + j) / 2 - i) (by omega) _ _ rfl (by omega) (by omega) fun k hs => ⟨(hk k hs).1, ?_⟩
        refine Nat.le_of_not_lt fun hgt => ?_
        have hkl : l.getD k ⟨#[]⟩ = s := by rw [List.getD_eq_getElem?_getD, hs]; rfl
        have hk2 : k < l.length := by
          have := (List.getElem?_eq_some_iff.1 hs).1
          exact this
        have := hl _ k hgt hk2
        rw [hkl] at this
        exact hb this
    · rw [if_neg hlt]
      exact ⟨by omega, fun k hs => by have := hk k hs; omega⟩
theorem foundB_mem (l : List ByteArray) (s : ByteArray) (hl : Rising l) : foundB l s = l.any fun k => decide (s = k) := by
  have hb := bsF_spec l s hl l.length 0 l.length (by omega) (by omega) (Nat.le_refl _) fun k hs => by
    have := (List.getElem?_eq_some_iff.1 hs).1
    omega
  rw [Bool.eq_iff_iff]
  unfold foundB
  simp only [decide_eq_true_eq, List.any_eq_true]
  constructor
  · intro h
    exact ⟨s, List.mem_of_getElem? h, rfl⟩
  · rintro ⟨x, hx, rfl⟩
    obtain ⟨k, hk⟩ := List.getElem?_of_mem hx
    rw [← hb.2 k hk]; exact hk
set_option maxRecDepth 100000 in
theorem keys_rising : Rising keysB := by
  have h : (List.range 49).all (fun j => (List.range j).all fun i => Op.bytesLess (keysB.getD i ⟨#[]⟩).data.toList (keysB.getD j ⟨#[]⟩).data.toList) = true := by decide +kernel
  intro i j hij hj
  have h1 := List.all_eq_true.1 h j (List.mem_range.2 hj)
  exact List.all_eq_true.1 h1 i (List.mem_range.2 hij)
theorem shr1 (x : Int) (h0 : 0 ≤ x) (h1 : x ≤ 9223372036854775807) : IntKind.i64.wrap ((IntKind.u64.wrap x).fdiv (2 ^ (min (Int.toNat 1) IntKind.u64.bits))) = x / 2 := by
  have e : (2 : Int) ^ (min (Int.toNat 1) IntKind.u64.bits) = 2 := rfl
  rw [e, Int.fdiv_eq_ediv_of_nonneg _ (by omega), wrap_u64 h0 (by omega), wrap_i64 (by omega) (by omega)]
theorem bs_ok (l : List ByteArray) (s : ByteArray) (hl : l.length ≤ 140737488355328) : Pure Tryd.prog 55 [encL 1 cS l, S s] (tup2 (I (bsF l s 0 l.length)) (B (foundB l s))) := by
  unfold foundB
  generalize hR : bsF l s 0 l.length = R
  intro h; refine callK_body Tryd.func55 rfl (by rw [nt55]; simp) ?_; rw [nt55, rs55]
  (repeat' (first | simp [go_sem, X_region, *] | simp (disch := omega) only [om, *] | ((first | refine XC_split ?_ ?_ | refine XG_true ?_ ?_ | refine XG_false ?_ ?_ | refine XRg_true ?_ ?_ | refine XRg_false ?_ ?_) <;> intro hc <;> (try simp only [bl] at hc) <;> (try (exfalso; omega))) | refine XD_w [] [] [] (fun _ => none) mixed (by decide +kernel) (sub_none _) ?_ | (intro bk hbk; (try simp only [go_sem] at hbk))))
  refine X_lp (fun n T h' => ∃ (i j : Nat), n = j - i ∧ i ≤ j ∧ j ≤ l.length ∧ bsF l s i j = R ∧ T 7 = I i ∧ T 8 = I j ∧ T 0 = encL 1 cS l ∧ T 1 = S s ∧ T 6 = I l.length ∧ h' = h) _ ⟨0, l.length, rfl, by omega, by omega, hR, by simp [go_sem], by simp [go_sem], by simp [go_sem], by simp [go_sem], by simp [go_sem], rfl⟩ ?_
  clear hR; rintro J hJ n T h' ⟨i, j, rfl, hij, hj, hR, h7, h8, h0, h1, h6, rfl⟩
  rw [bsF] at hR
  by_cases hlt : i < j
  · rw [if_pos hlt] at hR
    obtain ⟨m, hm, hmd⟩ : ∃ m : Nat, ((i : Int) + j) / 2 = m ∧ (i + j) / 2 = m := ⟨_, by omega, rfl⟩
    have hmm : i ≤ m ∧ m < j := by omega
    rw [hmd] at hR
    have hx : l[m]? = some l[m] := List.getElem?_eq_getElem (by omega)
    rw [List.getD_eq_getElem?_getD, hx, Option.getD_some] at hR
    cases hb : Op.bytesLess l[m].data.toList s.data.toList
    · rw [hb, if_neg (by simp)] at hR
      (repeat' (first | simp [go_sem, X_region, *] | simp (disch := omega) only [om, *] | ((first | refine XC_split ?_ ?_ | refine XG_true ?_ ?_ | refine XG_false ?_ ?_ | refine XRg_true ?_ ?_ | refine XRg_false ?_ ?_) <;> intro hc <;> (try simp only [bl] at hc) <;> (try (exfalso; omega))) | refine XD_w [] [] [] (fun _ => none) mixed (by decide +kernel) (sub_none _) ?_ | refine Pure.call (less_ok _ _) ?_ | refine ⟨_, Pure.at (less_ok _ _), ?_⟩ | refine ⟨_, less_ok _ _, ?_⟩ | refine PureAt.call (less_ok _ _) ?_ | (intro bk hbk; (try simp only [go_sem] at hbk))))
      exact ⟨_, by omega, hJ.out _ _ _ ⟨i, m, rfl, by omega, by omega, hR, by simp [go_sem, *], by simp [go_sem, *], by simp [go_sem, *], by simp [go_sem, *], by simp [go_sem, *], rfl⟩⟩
    · rw [hb, if_pos rfl] at hR
      (repeat' (first | simp [go_sem, X_region, *] | simp (disch := omega) only [om, *] | ((first | refine XC_split ?_ ?_ | refine XG_true ?_ ?_ | refine XG_false ?_ ?_ | refine XRg_true ?_ ?_ | refine XRg_false ?_ ?_) <;> intro hc <;> (try simp only [bl] at hc) <;> (try (exfalso; omega))) | refine XD_w [] [] [] (fun _ => none) mixed (by decide +kernel) (sub_none _) ?_ | refine Pure.call (less_ok _ _) ?_ | refine ⟨_, Pure.at (less_ok _ _), ?_⟩ | refine ⟨_, less_ok _ _, ?_⟩ | refine PureAt.call (less_ok _ _) ?_ | (intro bk hbk; (try simp only [go_sem] at hbk))))
      exact ⟨_, by omega, hJ.out _ _ _ ⟨m + 1, j, rfl, by omega, by omega, hR, by simp [go_sem, *], by simp [go_sem, *], by simp [go_sem, *], by simp [go_sem, *], by simp [go_sem, *], rfl⟩⟩
  · rw [if_neg hlt] at hR
    subst hR
    by_cases hi : i < l.length
    · have hx : l[i]? = some l[i] := List.getElem?_eq_getElem hi
      by_cases he : l[i] = s
      · (repeat' (first | simp [go_sem, X_region, *] | simp (disch := omega) only [om, *] | ((first | refine XC_split ?_ ?_ | refine XG_true ?_ ?_ | refine XG_false ?_ ?_ | refine XRg_true ?_ ?_ | refine XRg_false ?_ ?_) <;> intro hc <;> (try simp only [bl] at hc) <;> (try (exfalso; omega))) | refine XD_w [] [] [] (fun _ => none) mixed (by decide +kernel) (sub_none _) ?_ | refine Pure.call (nan2_ok _) ?_ | refine ⟨_, Pure.at (nan2_ok _), ?_⟩ | refine ⟨_, nan2_ok _, ?_⟩ | refine PureAt.call (nan2_ok _) ?_ | (intro bk hbk; (try simp only [go_sem] at hbk))))
      · (repeat' (first | simp [go_sem, X_region, *] | simp (disch := omega) only [om, *] | ((first | refine XC_split ?_ ?_ | refine XG_true ?_ ?_ | refine XG_false ?_ ?_ | refine XRg_true ?_ ?_ | refine XRg_false ?_ ?_) <;> intro hc <;> (try simp only [bl] at hc) <;> (try (exfalso; omega))) | refine XD_w [] [] [] (fun _ => none) mixed (by decide +kernel) (sub_none _) ?_ | refine Pure.call (nan2_ok _) ?_ | refine ⟨_, Pure.at (nan2_ok _), ?_⟩ | refine ⟨_, nan2_ok _, ?_⟩ | refine PureAt.call (nan2_ok _) ?_ | (intro bk hbk; (try simp only [go_sem] at hbk))))
    · (repeat' (first | simp [go_sem, X_region, *] | simp (disch := omega) only [om, *] | ((first | refine XC_split ?_ ?_ | refine XG_true ?_ ?_ | refine XG_false ?_ ?_ | refine XRg_true ?_ ?_ | refine XRg_false ?_ ?_) <;> intro hc <;> (try simp only [bl] at hc) <;> (try (exfalso; omega))) | refine XD_w [] [] [] (fun _ => none) mixed (by decide +kernel) (sub_none _) ?_ | refine Pure.call (nan2_ok _) ?_ | refine ⟨_, Pure.at (nan2_ok _), ?_⟩ | refine ⟨_, nan2_ok _, ?_⟩ | refine PureAt.call (nan2_ok _) ?_ | (intro bk hbk; (try simp only [go_sem] at hbk))))
end Go.Proofs.YtmalhikcdideoaaDoor

set_option linter.unusedVariables false
set_option linter.unusedSimpArgs false
namespace Go.Proofs.YtmalhikcdideoaaDoor
open Go Sl
attribute [local irreducible] XRange LpQ XR XRo XRg XRQ putQ XFv XL XW2 wQ putW X XO XOp XH XHo XW SeqQ BlkQ XOQ XHQ NrmQ XC XM XG XHM XHG XD CallK
theorem keys_ok : Pure Tryd.prog 16 [] (encL 1 cS keysB) := by
  intro h; refine callK_body Tryd.func16 rfl (by rw [nt16]; simp) ?_; rw [nt16, rs16]
  (repeat' (first | simp [go_sem, X_region, *] | simp (disch := omega) only [om, *] | ((first | refine XC_split ?_ ?_ | refine XG_true ?_ ?_ | refine XG_false ?_ ?_ | refine XRg_true ?_ ?_ | refine XRg_false ?_ ?_) <;> intro hc <;> (try simp only [bl] at hc) <;> (try (exfalso; omega))) | refine XD_w [] [] [] (fun _ => none) mixed (by decide +kernel) (sub_none _) ?_ | (intro bk hbk; (try simp only [go_sem] at hbk))))
  exact Wk.lit1 keysB (fun x => S x) hbk rfl (by decide)
theorem takeWhile_le {α : Type} (p : α → Bool) (l : List α) : (l.takeWhile p).length ≤ l.length := (List.takeWhile_prefix (l := l) p).length_le
theorem drop_size {s : ByteArray} {a : Nat} {l : List UInt8} (h : s.data.toList.drop a = l) (ha : a ≤ s.size) : l.length = s.size - a := by
  rw [← h, List.length_drop, size_list]
theorem one_ok (s : ByteArray) (a : Nat) (c : UInt8) (r : List UInt8) (hd : s.data.toList.drop a = c :: r) (hs : s.size ≤ 140737488355328) : Pure Tryd.prog 46 [S s, I a] (tup2 (I (oneF c r).1) (I (oneF c r).2)) := by
  obtain ⟨hlt, hg, hd2⟩ := str_cons hd
  have hlen := drop_size hd2 (by omega)
  have t1 := takeWhile_le isInner r
  have t2 := takeWhile_le isNum r
  intro h; refine callK_body Tryd.func46 rfl (by rw [nt46]; simp) ?_; rw [nt46, rs46]
  cases hl : isLetter c
  · have hsp := fun (h : isNum c = true ∨ True) => span_ok _ (by simp [go_sem]) isNum num_ok s (a + 1) (by omega) hs
    have hsp := hsp (.inr trivial)
    rw [hd2] at hsp
    simp only [Int.natCast_add, Int.cast_ofNat_Int] at hsp
    obtain ⟨n, hnd⟩ : ∃ n, (r.takeWhile isNum).length = n := ⟨_, rfl⟩
    rw [hnd] at hsp t2
    have hdg : isDigit c = true → oneF c r = (3, 1 + n) := fun hd => by simp [oneF, hl, hd, hnd]
    have hdh : c.toNat = 45 → digitNext r = true → oneF c r = (3, 1 + n) := fun hd h2 => by simp [oneF, hl, hd, hnd, h2]
    have hsg : isDigit c = false → (¬ c.toNat = 45 ∨ digitNext r = false) → oneF c r = if isSign c = true then (4, 1) else (0, 0) := fun h1 h2 => by rcases h2 with h2 | h2 <;> simp [oneF, hl, h1, h2]
    cases hdc : isDigit c
    · rcases r with _ | ⟨d, r'⟩
      · have hlt2 := str_nil hd2
        (repeat' (first | simp [go_sem, X_region, *] | simp (disch := omega) only [om, *] | ((first | refine XC_split ?_ ?_ | refine XG_true ?_ ?_ | refine XG_false ?_ ?_ | refine XRg_true ?_ ?_ | refine XRg_false ?_ ?_) <;> intro hc <;> (try simp only [bl] at hc) <;> (try (exfalso; omega))) | refine XD_w [] [] [] (fun _ => none) mixed (by decide +kernel) (sub_none _) ?_ | refine Pure.call (letter_ok c) ?_ | refine ⟨_, Pure.at (letter_ok c), ?_⟩ | refine ⟨_, letter_ok c, ?_⟩ | refine PureAt.call (letter_ok c) ?_ | refine Pure.call (digit_ok c) ?_ | refine ⟨_, Pure.at (digit_ok c), ?_⟩ | refine ⟨_, digit_ok c, ?_⟩ | refine PureAt.call (digit_ok c) ?_ | (intro bk hbk; (try simp only [go_sem] at hbk))))
        all_goals (refine Wk.of_eq ?_; first | (rw [show isSign c = true by simp [isSign]; omega]; rfl) | (rw [show isSign c = false by simp [isSign]; omega]; rfl) | (simp [*]; done) | (rw [hdh (by omega) (by simpa [digitNext] using ‹isDigit _ = true›)]; simp; done) | (rw [hsg hdc (by first | exact .inr rfl | exact .inr (by simpa [digitNext] using ‹isDigit _ = false›)), show isSign c = false by simp [isSign]; omega]; rfl))
      · obtain ⟨hlt2, hg2, _⟩ := str_cons hd2
        cases hdd : isDigit d
        · (repeat' (first | simp [go_sem, X_region, *] | simp (disch := omega) only [om, *] | ((first | refine XC_split ?_ ?_ | refine XG_true ?_ ?_ | refine XG_false ?_ ?_ | refine XRg_true ?_ ?_ | refine XRg_false ?_ ?_) <;> intro hc <;> (try simp only [bl] at hc) <;> (try (exfalso; omega))) | refine XD_w [] [] [] (fun _ => none) mixed (by decide +kernel) (sub_none _) ?_ | refine Pure.call (letter_ok c) ?_ | refine ⟨_, Pure.at (letter_ok c), ?_⟩ | refine ⟨_, letter_ok c, ?_⟩ | refine PureAt.call (letter_ok c) ?_ | refine Pure.call (digit_ok c) ?_ | refine ⟨_, Pure.at (digit_ok c), ?_⟩ | refine ⟨_, digit_ok c, ?_⟩ | refine PureAt.call (digit_ok c) ?_ | refine Pure.call (digit_ok d) ?_ | refine ⟨_, Pure.at (digit_ok d), ?_⟩ | refine ⟨_, digit_ok d, ?_⟩ | refine PureAt.call (digit_ok d) ?_ | (intro bk hbk; (try simp only [go_sem] at hbk))))
          all_goals (refine Wk.of_eq ?_; first | (rw [show isSign c = true by simp [isSign]; omega]; rfl) | (rw [show isSign c = false by simp [isSign]; omega]; rfl) | (simp [*]; done) | (rw [hdh (by omega) (by simpa [digitNext] using ‹isDigit _ = true›)]; simp; done) | (rw [hsg hdc (by first | exact .inr rfl | exact .inr (by simpa [digitNext] using ‹isDigit _ = false›)), show isSign c = false by simp [isSign]; omega]; rfl))
        · (repeat' (first | simp [go_sem, X_region, *] | simp (disch := omega) only [om, *] | ((first | refine XC_split ?_ ?_ | refine XG_true ?_ ?_ | refine XG_false ?_ ?_ | refine XRg_true ?_ ?_ | refine XRg_false ?_ ?_) <;> intro hc <;> (try simp only [bl] at hc) <;> (try (exfalso; omega))) | refine XD_w [] [] [] (fun _ => none) mixed (by decide +kernel) (sub_none _) ?_ | refine Pure.call (letter_ok c) ?_ | refine ⟨_, Pure.at (letter_ok c), ?_⟩ | refine ⟨_, letter_ok c, ?_⟩ | refine PureAt.call (letter_ok c) ?_ | refine Pure.call (digit_ok c) ?_ | refine ⟨_, Pure.at (digit_ok c), ?_⟩ | refine ⟨_, digit_ok c, ?_⟩ | refine PureAt.call (digit_ok c) ?_ | refine Pure.call (digit_ok d) ?_ | refine ⟨_, Pure.at (digit_ok d), ?_⟩ | refine ⟨_, digit_ok d, ?_⟩ | refine PureAt.call (digit_ok d) ?_ | refine Pure.call (hsp) ?_ | refine ⟨_, Pure.at (hsp), ?_⟩ | refine ⟨_, hsp, ?_⟩ | refine PureAt.call (hsp) ?_ | (intro bk hbk; (try simp only [go_sem] at hbk))))
          all_goals (refine Wk.of_eq ?_; first | (rw [show isSign c = true by simp [isSign]; omega]; rfl) | (rw [show isSign c = false by simp [isSign]; omega]; rfl) | (simp [*]; done) | (rw [hdh (by omega) (by simpa [digitNext] using ‹isDigit _ = true›)]; simp; done) | (rw [hsg hdc (by first | exact .inr rfl | exact .inr (by simpa [digitNext] using ‹isDigit _ = false›)), show isSign c = false by simp [isSign]; omega]; rfl))
    · (repeat' (first | simp [go_sem, X_region, *] | simp (disch := omega) only [om, *] | ((first | refine XC_split ?_ ?_ | refine XG_true ?_ ?_ | refine XG_false ?_ ?_ | refine XRg_true ?_ ?_ | refine XRg_false ?_ ?_) <;> intro hc <;> (try simp only [bl] at hc) <;> (try (exfalso; omega))) | refine XD_w [] [] [] (fun _ => none) mixed (by decide +kernel) (sub_none _) ?_ | refine Pure.call (letter_ok c) ?_ | refine ⟨_, Pure.at (letter_ok c), ?_⟩ | refine ⟨_, letter_ok c, ?_⟩ | refine PureAt.call (letter_ok c) ?_ | refine Pure.call (digit_ok c) ?_ | refine ⟨_, Pure.at (digit_ok c), ?_⟩ | refine ⟨_, digit_ok c, ?_⟩ | refine PureAt.call (digit_ok c) ?_ | refine Pure.call (hsp) ?_ | refine ⟨_, Pure.at (hsp), ?_⟩ | refine ⟨_, hsp, ?_⟩ | refine PureAt.call (hsp) ?_ | (intro bk hbk; (try simp only [go_sem] at hbk))))
      all_goals (refine Wk.of_eq ?_; first | (rw [show isSign c = true by simp [isSign]; omega]; rfl) | (rw [show isSign c = false by simp [isSign]; omega]; rfl) | (simp [*]; done) | (rw [hdh (by omega) (by simpa [digitNext] using ‹isDigit _ = true›)]; simp; done) | (rw [hsg hdc (by first | exact .inr rfl | exact .inr (by simpa [digitNext] using ‹isDigit _ = false›)), show isSign c = false by simp [isSign]; omega]; rfl))
  · have hi : isInner c = true := by simp [isInner, hl]
    have hn : ((s.data.toList.drop a).takeWhile isInner).length = 1 + (r.takeWhile isInner).length := by rw [hd, List.takeWhile_cons, hi]; simp; omega
    obtain ⟨n, hnd⟩ : ∃ n, (r.takeWhile isInner).length = n := ⟨_, rfl⟩
    have hsp := span_ok _ (by simp [go_sem]) isInner inner_ok s a (by omega) hs
    have hb := bs_ok keysB (s.extract a (a + (1 + n))) (by decide)
    rw [foundB_mem _ _ keys_rising, show (keysB.any fun k => decide (s.extract a (a + (1 + n)) = k)) = isKey (s.extract a (a + (1 + n))) from rfl] at hb
    rw [hn, hnd] at hsp
    have hone : oneF c r = if isKey (s.extract a (a + (1 + n))) = true then (2, 1 + n) else if 20 < 1 + n then (0, 0) else (1, 1 + n) := by
      rw [extract_take, hd]; simp [oneF, hl, hnd]
    (repeat' (first | simp [go_sem, X_region, *] | simp (disch := omega) only [om, *] | ((first | refine XC_split ?_ ?_ | refine XG_true ?_ ?_ | refine XG_false ?_ ?_ | refine XRg_true ?_ ?_ | refine XRg_false ?_ ?_) <;> intro hc <;> (try simp only [bl] at hc) <;> (try (exfalso; omega))) | refine XD_w [] [] [] (fun _ => none) mixed (by decide +kernel) (sub_none _) ?_ | refine Pure.call (letter_ok c) ?_ | refine ⟨_, Pure.at (letter_ok c), ?_⟩ | refine ⟨_, letter_ok c, ?_⟩ | refine PureAt.call (letter_ok c) ?_ | refine Pure.call (hsp) ?_ | refine ⟨_, Pure.at (hsp), ?_⟩ | refine ⟨_, hsp, ?_⟩ | refine PureAt.call (hsp) ?_ | refine Pure.call (keys_ok) ?_ | refine ⟨_, Pure.at (keys_ok), ?_⟩ | refine ⟨_, keys_ok, ?_⟩ | refine PureAt.call (keys_ok) ?_ | refine Pure.call (hb) ?_ | refine ⟨_, Pure.at (hb), ?_⟩ | refine ⟨_, hb, ?_⟩ | refine PureAt.call (hb) ?_ | (intro bk hbk; (try simp only [go_sem] at hbk))))
    all_goals (refine Wk.of_eq ?_; first | (simp [hone, *]; done) | (simp [hone, show 20 < 1 + n by omega]; done) | (simp [hone, show ¬ 20 < 1 + n by omega]; done))
end Go.Proofs.YtmalhikcdideoaaDoor

set_option linter.unusedVariables false
set_option linter.unusedSimpArgs false
namespace Go.Proofs.YtmalhikcdideoaaDoor
open Go Sl
attribute [local irreducible] XRange LpQ XR XRo XRg XRQ putQ XFv XL XW2 wQ putW X XO XOp XH XHo XW SeqQ BlkQ XOQ XHQ NrmQ XC XM XG XHM XHG XD CallK
@[go_sem] def encLn (x : List Tok × Int × Int) : AV := tup3 (encL 3 cT x.1) (I x.2.1) (I x.2.2)
theorem lines_ok (s : ByteArray) (hs : s.size ≤ 140737488355328) : Pure Tryd.prog 11 [S s] (encLn (linesF s)) := by
  generalize hR : linesF s = R
  intro h; refine callK_body Tryd.func11 rfl (by rw [nt11]; simp) ?_; rw [nt11, rs11]
  by_cases hsz : 30000 < s.size
  · rw [linesF, if_pos hsz] at hR
    subst hR
    (repeat' (first | simp [go_sem, X_region, *] | simp (disch := omega) only [om, *] | ((first | refine XC_split ?_ ?_ | refine XG_true ?_ ?_ | refine XG_false ?_ ?_ | refine XRg_true ?_ ?_ | refine XRg_false ?_ ?_) <;> intro hc <;> (try simp only [bl] at hc) <;> (try (exfalso; omega))) | refine XD_w [] [] [] (fun _ => none) mixed (by decide +kernel) (sub_none _) ?_ | (intro bk hbk; (try simp only [go_sem] at hbk))))
    exact Wk.tup3_1 Wk.nil _ _
  · rw [linesF, if_neg hsz] at hR
    (repeat' (first | simp [go_sem, X_region, *] | simp (disch := omega) only [om, *] | ((first | refine XC_split ?_ ?_ | refine XG_true ?_ ?_ | refine XG_false ?_ ?_ | refine XRg_true ?_ ?_ | refine XRg_false ?_ ?_) <;> intro hc <;> (try simp only [bl] at hc) <;> (try (exfalso; omega))) | refine XD_w [] [] [] (fun _ => none) mixed (by decide +kernel) (sub_none _) ?_ | (intro bk hbk; (try simp only [go_sem] at hbk))))
    refine X_lp (fun n T h' => ∃ (i : Nat) (r : List UInt8) (out : List Tok) (line : Int), n = r.length ∧ i ≤ s.size ∧ s.data.toList.drop i = r ∧ out.length ≤ i ∧ 0 ≤ line ∧ line ≤ i + 1 ∧ scanW r line out = R ∧ T 0 = S s ∧ T 6 = I line ∧ T 7 = I i ∧ Own h h' (T 5) 31 3 out.length (cellsL cT out)) _ ⟨0, _, [], 1, rfl, by omega, rfl, by simp, by omega, by omega, hR, by simp [go_sem], by simp [go_sem], by simp [go_sem], by simpa [go_sem] using Own.none⟩ ?_
    clear hR; rintro J hJ n T h' ⟨i, r, out, line, rfl, hi, hd, ho, hl0, hl1, hR, h0, h6, h7, hown⟩
    rcases r with _ | ⟨c, r⟩
    · have hlt := str_nil hd
      rw [scanW] at hR
      subst hR
      (repeat' (first | simp [go_sem, X_region, *] | simp (disch := omega) only [om, *] | ((first | refine XC_split ?_ ?_ | refine XG_true ?_ ?_ | refine XG_false ?_ ?_ | refine XRg_true ?_ ?_ | refine XRg_false ?_ ?_) <;> intro hc <;> (try simp only [bl] at hc) <;> (try (exfalso; omega))) | refine XD_w [] [] [] (fun _ => none) mixed (by decide +kernel) (sub_none _) ?_ | (intro bk hbk; (try simp only [go_sem] at hbk))))
      exact Wk.tup3_1 (hown.frozen (by omega)) _ _
    · obtain ⟨hlt, hg, hd2⟩ := str_cons hd
      have hone := one_ok s i c r hd hs
      have hpos := oneF_pos c r
      have hlen := drop_size hd2 (by omega)
      rw [scanW] at hR
      obtain ⟨k, m, hkm⟩ : ∃ k m, oneF c r = (k, m) := ⟨_, _, rfl⟩
      rw [hkm] at hone hpos hR
      simp only at hone hpos hR
      by_cases hsp : c.toNat = 32 ∨ c.toNat = 10
      · rw [if_pos hsp] at hR
        by_cases h10 : c.toNat = 10
        · rw [if_pos h10] at hR
          (repeat' (first | simp [go_sem, X_region, *] | simp (disch := omega) only [om, *] | ((first | refine XC_split ?_ ?_ | refine XG_true ?_ ?_ | refine XG_false ?_ ?_ | refine XRg_true ?_ ?_ | refine XRg_false ?_ ?_) <;> intro hc <;> (try simp only [bl] at hc) <;> (try (exfalso; omega))) | refine XD_w [] [] [] (fun _ => none) mixed (by decide +kernel) (sub_none _) ?_ | (intro bk hbk; (try simp only [go_sem] at hbk))))
          exact ⟨r.length, by omega, hJ.out _ _ _ ⟨i + 1, r, out, line + 1, rfl, by omega, hd2, by omega, by omega, by omega, hR, by simp [go_sem, *], by simp [go_sem, *], by simp [go_sem, *], by simpa [go_sem] using hown⟩⟩
        · rw [if_neg h10] at hR
          (repeat' (first | simp [go_sem, X_region, *] | simp (disch := omega) only [om, *] | ((first | refine XC_split ?_ ?_ | refine XG_true ?_ ?_ | refine XG_false ?_ ?_ | refine XRg_true ?_ ?_ | refine XRg_false ?_ ?_) <;> intro hc <;> (try simp only [bl] at hc) <;> (try (exfalso; omega))) | refine XD_w [] [] [] (fun _ => none) mixed (by decide +kernel) (sub_none _) ?_ | (intro bk hbk; (try simp only [go_sem] at hbk))))
          exact ⟨r.length, by omega, hJ.out _ _ _ ⟨i + 1, r, out, line, rfl, by omega, hd2, by omega, by omega, by omega, hR, by simp [go_sem, *], by simp [go_sem, *], by simp [go_sem, *], by simpa [go_sem] using hown⟩⟩
      · rw [if_neg hsp] at hR
        simp only [not_or] at hsp
        by_cases hk : k = 0
        · rw [if_pos hk] at hR
          subst hR
          (repeat' (first | simp [go_sem, X_region, *] | simp (disch := omega) only [om, *] | ((first | refine XC_split ?_ ?_ | refine XG_true ?_ ?_ | refine XG_false ?_ ?_ | refine XRg_true ?_ ?_ | refine XRg_false ?_ ?_) <;> intro hc <;> (try simp only [bl] at hc) <;> (try (exfalso; omega))) | refine XD_w [] [] [] (fun _ => none) mixed (by decide +kernel) (sub_none _) ?_ | refine Pure.call (hone) ?_ | refine ⟨_, Pure.at (hone), ?_⟩ | refine ⟨_, hone, ?_⟩ | refine PureAt.call (hone) ?_ | (intro bk hbk; (try simp only [go_sem] at hbk))))
          exact Wk.tup3_1 (Wk.nil.trans (Wk.drop _ hown.1)) _ _
        · rw [if_neg hk] at hR
          have hpos := hpos hk
          have hx : s.extract i (i + m) = bOf ((c :: r).take m) := by rw [extract_take, hd]
          have hd3 : s.data.toList.drop (i + m) = r.drop (m - 1) := by rw [← hd2, List.drop_drop]; congr 1; omega
          (repeat' (first | simp [go_sem, X_region, *] | simp (disch := omega) only [om, *] | ((first | refine XC_split ?_ ?_ | refine XG_true ?_ ?_ | refine XG_false ?_ ?_ | refine XRg_true ?_ ?_ | refine XRg_false ?_ ?_) <;> intro hc <;> (try simp only [bl] at hc) <;> (try (exfalso; omega))) | refine XD_w [] [] [] (fun _ => none) mixed (by decide +kernel) (sub_none _) ?_ | refine Pure.call (hone) ?_ | refine ⟨_, Pure.at (hone), ?_⟩ | refine ⟨_, hone, ?_⟩ | refine PureAt.call (hone) ?_ | (intro bk hbk; (try simp only [go_sem] at hbk))))
          refine Own.push (x := ⟨k, bOf ((c :: r).take m), line⟩) (hown) (by simp [go_sem, *]) und23 zr31 by31 (by simp [go_sem]) hbk (by simp [go_sem, *]) rfl (Nat.le_refl _) (by simp [go_sem, *]) (by omega) (by omega) fun a1 h1 hown1 hkeep1 => ?_
          clear hbk
          (repeat' (first | simp [go_sem, X_region, *] | simp (disch := omega) only [om, *] | ((first | refine XC_split ?_ ?_ | refine XG_true ?_ ?_ | refine XG_false ?_ ?_ | refine XRg_true ?_ ?_ | refine XRg_false ?_ ?_) <;> intro hc <;> (try simp only [bl] at hc) <;> (try (exfalso; omega))) | refine XD_w [] [] [] (fun _ => none) mixed (by decide +kernel) (sub_none _) ?_ | (intro bk hbk; (try simp only [go_sem] at hbk))))
          exact ⟨_, by simp; omega, hJ.out _ _ _ ⟨i + m, r.drop (m - 1), out ++ [⟨k, bOf ((c :: r).take m), line⟩], line, rfl, by omega, hd3, by simp; omega, by omega, by omega, hR, by simp [go_sem, *], by simp [go_sem, *], by simp [go_sem, *], by simpa [go_sem] using hown1⟩⟩
theorem scan_ok (s : ByteArray) (hs : s.size ≤ 140737488355328) : Pure Tryd.prog 10 [S s] (tup2 (encL 3 cT (linesF s).1) (I (linesF s).2.2)) := by
  intro h; refine callK_body Tryd.func10 rfl (by rw [nt10]; simp) ?_; rw [nt10, rs10]
  have hl := lines_ok s hs
  (repeat' (first | simp [go_sem, X_region, *] | simp (disch := omega) only [om, *] | ((first | refine XC_split ?_ ?_ | refine XG_true ?_ ?_ | refine XG_false ?_ ?_ | refine XRg_true ?_ ?_ | refine XRg_false ?_ ?_) <;> intro hc <;> (try simp only [bl] at hc) <;> (try (exfalso; omega))) | refine XD_w [] [] [] (fun _ => none) mixed (by decide +kernel) (sub_none _) ?_ | refine Pure.call (hl) ?_ | refine ⟨_, Pure.at (hl), ?_⟩ | refine ⟨_, hl, ?_⟩ | refine PureAt.call (hl) ?_ | (intro bk hbk; (try simp only [go_sem] at hbk))))
end Go.Proofs.YtmalhikcdideoaaDoor

set_option linter.unusedVariables false
set_option linter.unusedSimpArgs false
namespace Go.Proofs.YtmalhikcdideoaaDoor
open Go Sl
attribute [local irreducible] XRange LpQ XR XRo XRg XRQ putQ XFv XL XW2 wQ putW X XO XOp XH XHo XW SeqQ BlkQ XOQ XHQ NrmQ XC XM XG XHM XHG XD CallK
theorem idx0_ok (s : ByteArray) (c : UInt8) : Ext Tryd.prog 113 [S s, U8 c] (I (Lib.indexByte s.data.toList c)) := by
  intro w h vals hh ha
  obtain ⟨u1, e1, r1⟩ := ha.2 0 _ rfl
  obtain ⟨u2, e2, r2⟩ := ha.2 1 _ rfl
  cases r1; cases r2
  have hv : vals = #[.string s, .int .u8 c.toNat] := by
    have h1 := ha.1
    apply Array.ext
    · simpa using h1
    · intro i h2 h3
      match i, h3 with
      | 0, _ => rw [Array.getElem?_eq_getElem h2] at e1; simpa using e1
      | 1, _ => rw [Array.getElem?_eq_getElem h2] at e2; simpa using e2
  subst hv
  refine ⟨_, ?_, rfl⟩
  rw [run_callFunc_extern Tryd.func113 (by kernel_rfl) (by kernel_rfl) (by kernel_rfl) (e := Extern.BytealgIndexByte.indexByte) (by kernel_rfl), Lib.run_indexByteString]
  simp
theorem idx_ge (l : List UInt8) (c : UInt8) : decide (0 ≤ Lib.indexByte l c) = l.contains c := by
  have key : -1 ≤ Lib.indexByte l c ∧ (0 ≤ Lib.indexByte l c ↔ c ∈ l) := by
    induction l with
    | nil => simp [Lib.indexByte]
    | cons b l ih =>
      unfold Lib.indexByte
      by_cases hb : b = c
      · simp [hb]
      · have : ¬ c = b := fun e => hb e.symm
        by_cases h1 : Lib.indexByte l c = -1
        · simp [hb, h1, this]; rw [← ih.2]; omega
        · have h2 : 0 ≤ Lib.indexByte l c := by omega
          have h3 := ih.2.1 h2
          simp [hb, h1, h3]; omega
  rw [Bool.eq_iff_iff]; simp [key.2]
theorem idx1_ok (s : ByteArray) (c : UInt8) : Pure Tryd.prog 84 [S s, U8 c] (I (Lib.indexByte s.data.toList c)) := by
  intro h; refine callK_body Tryd.func84 rfl (by rw [nt84]; simp) ?_; rw [nt84, rs84]
  ((repeat' (first | simp [go_sem, X_region, *] | simp (disch := omega) only [om, *] | ((first | refine XC_split ?_ ?_ | refine XG_true ?_ ?_ | refine XG_false ?_ ?_ | refine XRg_true ?_ ?_ | refine XRg_false ?_ ?_) <;> intro hc <;> (try simp only [bl] at hc) <;> (try (exfalso; omega))) | refine XD_w [] [] [] (fun _ => none) mixed (by decide +kernel) (sub_none _) ?_ | refine Pure.call (idx0_ok s c) ?_ | refine ⟨_, Pure.at (idx0_ok s c), ?_⟩ | refine ⟨_, idx0_ok s c, ?_⟩ | refine PureAt.call (idx0_ok s c) ?_ | (intro bk hbk; (try simp only [go_sem] at hbk)))); all_goals (refine Wk.fin (by repeat (first | exact Sub.refl _ | refine Sub.upd (by simp [*]) ?_)) ?_; first | (simp [*]; done) | (simp only []; (repeat' (first | split | rfl | omega | (simp_all; done))); done) | (simp [*]; (repeat' (first | split | omega | (rw [Bool.eq_iff_iff]; simp; omega))); done) | (simp [*])))
theorem idx2_ok (s : ByteArray) (c : UInt8) : Pure Tryd.prog 48 [S s, U8 c] (I (Lib.indexByte s.data.toList c)) := by
  intro h; refine callK_body Tryd.func48 rfl (by rw [nt48]; simp) ?_; rw [nt48, rs48]
  ((repeat' (first | simp [go_sem, X_region, *] | simp (disch := omega) only [om, *] | ((first | refine XC_split ?_ ?_ | refine XG_true ?_ ?_ | refine XG_false ?_ ?_ | refine XRg_true ?_ ?_ | refine XRg_false ?_ ?_) <;> intro hc <;> (try simp only [bl] at hc) <;> (try (exfalso; omega))) | refine XD_w [] [] [] (fun _ => none) mixed (by decide +kernel) (sub_none _) ?_ | refine Pure.call (idx1_ok s c) ?_ | refine ⟨_, Pure.at (idx1_ok s c), ?_⟩ | refine ⟨_, idx1_ok s c, ?_⟩ | refine PureAt.call (idx1_ok s c) ?_ | (intro bk hbk; (try simp only [go_sem] at hbk)))); all_goals (refine Wk.fin (by repeat (first | exact Sub.refl _ | refine Sub.upd (by simp [*]) ?_)) ?_; first | (simp [*]; done) | (simp only []; (repeat' (first | split | rfl | omega | (simp_all; done))); done) | (simp [*]; (repeat' (first | split | omega | (rw [Bool.eq_iff_iff]; simp; omega))); done) | (simp [*])))
/-- Where a text is first. -/
def sIdx (v : ByteArray) : List ByteArray → Int → Int
  | [], _ => -1
  | x :: r, i => if v = x then i else sIdx v r (i + 1)
theorem sIdx_ge (v : ByteArray) (l : List ByteArray) (i : Int) (hi : 0 ≤ i) : decide (0 ≤ sIdx v l i) = l.any fun k => decide (v = k) := by
  induction l generalizing i with
  | nil => simp [sIdx]
  | cons x l ih =>
    unfold sIdx
    by_cases h : v = x
    · simp [h, hi]
    · simp [h]; simpa using ih (i + 1) (by omega)
theorem index_ok (v : ByteArray) (l : List ByteArray) : Pure Tryd.prog 85 [encL 1 cS l, S v] (I (sIdx v l 0)) := by
  generalize hR : I (sIdx v l 0) = R
  intro h; refine CallK.lens fun hlen => ?_; have hlen := (hlen _ (by simp only [List.mem_cons, true_or, or_true] : (encL 1 cS l) ∈ _)).encL; refine callK_body Tryd.func85 rfl (by rw [nt85]; simp) ?_; rw [nt85, rs85]
  (repeat' (first | simp [go_sem, X_region, *] | simp (disch := omega) only [om, *] | ((first | refine XC_split ?_ ?_ | refine XG_true ?_ ?_ | refine XG_false ?_ ?_ | refine XRg_true ?_ ?_ | refine XRg_false ?_ ?_) <;> intro hc <;> (try simp only [bl] at hc) <;> (try (exfalso; omega))) | refine XD_w [] [] [] (fun _ => none) mixed (by decide +kernel) (sub_none _) ?_ | (intro bk hbk; (try simp only [go_sem] at hbk))))
  refine X_lp (fun n T h' => ∃ (i : Nat) (r : List ByteArray), n = r.length ∧ i ≤ l.length ∧ l.drop i = r ∧ T 8 = I i ∧ I (sIdx v r i) = R ∧ T 0 = encL 1 cS l ∧ T 1 = S v ∧ T 7 = I l.length ∧ h' = h) l.length ⟨0, l, by simp [go_sem, hR]⟩ ?_
  clear hR; rintro J hJ n T h' ⟨i, r, rfl, hi, hd, h8, hR, h0, h1, h7, rfl⟩
  rcases r with _ | ⟨x, r⟩
  · have hlt := drop_nil hd
    (repeat' (first | simp [go_sem, X_region, *] | simp (disch := omega) only [om, *] | ((first | refine XC_split ?_ ?_ | refine XG_true ?_ ?_ | refine XG_false ?_ ?_ | refine XRg_true ?_ ?_ | refine XRg_false ?_ ?_) <;> intro hc <;> (try simp only [bl] at hc) <;> (try (exfalso; omega))) | refine XD_w [] [] [] (fun _ => none) mixed (by decide +kernel) (sub_none _) ?_ | (intro bk hbk; (try simp only [go_sem] at hbk))))
    all_goals (subst hR; exact Wk.of_eq (by simp [sIdx]))
  · obtain ⟨hlt, hx, hd2⟩ := drop_cons hd
    by_cases he : v = x
    · (repeat' (first | simp [go_sem, X_region, *] | simp (disch := omega) only [om, *] | ((first | refine XC_split ?_ ?_ | refine XG_true ?_ ?_ | refine XG_false ?_ ?_ | refine XRg_true ?_ ?_ | refine XRg_false ?_ ?_) <;> intro hc <;> (try simp only [bl] at hc) <;> (try (exfalso; omega))) | refine XD_w [] [] [] (fun _ => none) mixed (by decide +kernel) (sub_none _) ?_ | (intro bk hbk; (try simp only [go_sem] at hbk))))
      all_goals (subst hR; exact Wk.of_eq (by simp [sIdx, *]))
    · (repeat' (first | simp [go_sem, X_region, *] | simp (disch := omega) only [om, *] | ((first | refine XC_split ?_ ?_ | refine XG_true ?_ ?_ | refine XG_false ?_ ?_ | refine XRg_true ?_ ?_ | refine XRg_false ?_ ?_) <;> intro hc <;> (try simp only [bl] at hc) <;> (try (exfalso; omega))) | refine XD_w [] [] [] (fun _ => none) mixed (by decide +kernel) (sub_none _) ?_ | (intro bk hbk; (try simp only [go_sem] at hbk))))
      exact ⟨_, by omega, hJ.out _ _ _ ⟨i + 1, r, rfl, by omega, hd2, by simp [go_sem, *], by rw [← hR]; simp [sIdx, he], by simp [go_sem, *], by simp [go_sem, *], by simp [go_sem, *], rfl⟩⟩
theorem contains_ok (v : ByteArray) (l : List ByteArray) : Pure Tryd.prog 49 [encL 1 cS l, S v] (B (l.any fun k => decide (v = k))) := by
  intro h; refine callK_body Tryd.func49 rfl (by rw [nt49]; simp) ?_; rw [nt49, rs49]
  rw [← sIdx_ge v l 0 (by omega)]
  ((repeat' (first | simp [go_sem, X_region, *] | simp (disch := omega) only [om, *] | ((first | refine XC_split ?_ ?_ | refine XG_true ?_ ?_ | refine XG_false ?_ ?_ | refine XRg_true ?_ ?_ | refine XRg_false ?_ ?_) <;> intro hc <;> (try simp only [bl] at hc) <;> (try (exfalso; omega))) | refine XD_w [] [] [] (fun _ => none) mixed (by decide +kernel) (sub_none _) ?_ | refine Pure.call (index_ok v l) ?_ | refine ⟨_, Pure.at (index_ok v l), ?_⟩ | refine ⟨_, index_ok v l, ?_⟩ | refine PureAt.call (index_ok v l) ?_ | (intro bk hbk; (try simp only [go_sem] at hbk)))); all_goals (refine Wk.fin (by repeat (first | exact Sub.refl _ | refine Sub.upd (by simp [*]) ?_)) ?_; first | (simp [*]; done) | (simp only []; (repeat' (first | split | rfl | omega | (simp_all; done))); done) | (simp [*]; (repeat' (first | split | omega | (rw [Bool.eq_iff_iff]; simp; omega))); done) | (simp [*])))
end Go.Proofs.YtmalhikcdideoaaDoor

set_option linter.unusedVariables false
set_option linter.unusedSimpArgs false
namespace Go.Proofs.YtmalhikcdideoaaDoor
open Go Sl
attribute [local irreducible] XRange LpQ XR XRo XRg XRQ putQ XFv XL XW2 wQ putW X XO XOp XH XHo XW SeqQ BlkQ XOQ XHQ NrmQ XC XM XG XHM XHG XD CallK
def isSp (c : UInt8) : Bool := isSpaceN c.toNat
/-- Words: behind a space; within a word. -/
def fw : Bool → List UInt8 → List UInt8 → List (List UInt8)
  | true, _, [] => []
  | false, cur, [] => [cur]
  | true, _, c :: r => if isSp c then fw true [] r else fw false [c] r
  | false, cur, c :: r => if isSp c then cur :: fw true [] r else fw false (cur ++ [c]) r
/-- How many words begin. -/
def cnt : Bool → List UInt8 → Nat
  | _, [] => 0
  | w, c :: r => (if w && !isSp c then 1 else 0) + cnt (isSp c) r
theorem cnt_fw : ∀ (l : List UInt8), (fw true [] l).length = cnt true l ∧ ∀ cur, (fw false cur l).length = 1 + cnt false l := by
  intro l
  induction l with
  | nil => exact ⟨rfl, fun _ => rfl⟩
  | cons c l ih =>
    refine ⟨?_, fun cur => ?_⟩
    · unfold fw cnt
      by_cases h : isSp c = true
      · simp [h, ih.1]
      · simp [h, ih.2]
    · unfold fw cnt
      by_cases h : isSp c = true
      · simp [h, ih.1]; omega
      · simp [h, ih.2]
theorem cnt_le : ∀ (w : Bool) (l : List UInt8), cnt w l ≤ l.length := by
  intro w l
  induction l generalizing w with
  | nil => simp [cnt]
  | cons c l ih => unfold cnt; have := ih (isSp c); simp only [List.length_cons]; split <;> omega
theorem sp_at (c : UInt8) : spaceL[c.toNat]?.getD undef = .int .u8 (if isSp c = true then 1 else 0) := by
  rw [← List.getD_eq_getElem?_getD]; exact spaceL_at (UInt8.toNat_lt c)
set_option maxRecDepth 100000 in
theorem bor_small (a b : Int) (h0 : 0 ≤ a) (h1 : a < 128) (h2 : 0 ≤ b) (h3 : b < 128) : 0 ≤ bor .u8 a b ∧ bor .u8 a b < 128 := by
  have h : ∀ a b : Fin 128, 0 ≤ bor .u8 (a.val : Int) (b.val : Int) ∧ bor .u8 (a.val : Int) (b.val : Int) < 128 := by decide +kernel
  have := h ⟨a.toNat, by omega⟩ ⟨b.toNat, by omega⟩
  simp only [Int.toNat_of_nonneg h0, Int.toNat_of_nonneg h2] at this
  exact this
theorem bn0 : bnot .i64 0 = -1 := by decide +kernel
theorem bn1 : bnot .i64 1 = -2 := by decide +kernel
theorem ba00 : band .i64 0 (-1) = 0 := by decide +kernel
theorem ba01 : band .i64 0 (-2) = 0 := by decide +kernel
theorem ba10 : band .i64 1 (-1) = 1 := by decide +kernel
theorem ba11 : band .i64 1 (-2) = 0 := by decide +kernel
def asc (c : UInt8) : Prop := c.toNat < 128
/-- What an own row of texts holds so far. -/
def Holds (ob : Ob) (e : TypeId) (n : Nat) (l : List (List UInt8)) : Prop := ob.ty = e ∧ ob.s = 1 ∧ ob.n = n ∧ ∀ i x, l[i]? = some x → ob.f i 0 = S (bOf x)
theorem Holds.set {e : TypeId} {n : Nat} {l : List (List UInt8)} {g : Nat → Nat → AV} (h4 : ∀ (i : Nat) (x : List UInt8), l[i]? = some x → g i 0 = S (bOf x)) (x : List UInt8) : Holds { ty := e, s := 1, n := n, f := fun i' j' => if i' = l.length ∧ j' = 0 then S (bOf x) else g i' j' } e n (l ++ [x]) := by
  refine ⟨rfl, rfl, rfl, fun i y hy => ?_⟩
  by_cases hi : i = l.length
  · subst hi
    simp at hy
    subst hy
    simp
  · simp only [hi, false_and, if_false]
    refine h4 i y ?_
    have : i < l.length := by
      have := (List.getElem?_eq_some_iff.1 hy).1
      simp at this
      omega
    rwa [List.getElem?_append_left this] at hy
def Ex (r : List UInt8) : Prop := r = [] ∨ ∃ c r', r = c :: r' ∧ isSp c = false
theorem Ex.or (r : List UInt8) : (∃ c r', r = c :: r' ∧ isSp c = true) ∨ r = [] ∨ ∃ c r', r = c :: r' ∧ isSp c = false := by
  rcases r with _ | ⟨c, r⟩
  · exact .inr (.inl rfl)
  · cases h : isSp c
    · exact .inr (.inr ⟨c, r, rfl, h⟩)
    · exact .inl ⟨c, r, rfl, h⟩
def left (cur r : List UInt8) : List (List UInt8) := if cur = [] then fw true [] r else fw false cur r
theorem left_word (cur : List UInt8) (c : UInt8) (r : List UInt8) (h : isSp c = false) : left cur (c :: r) = left (cur ++ [c]) r := by
  unfold left
  by_cases hc : cur = []
  · subst hc; simp [fw, h]
  · rw [if_neg hc, if_neg (by simp)]; simp [fw, h]
theorem left_space (cur : List UInt8) (c : UInt8) (r : List UInt8) (h : isSp c = true) (hc : cur ≠ []) : left cur (c :: r) = cur :: fw true [] r := by
  unfold left
  rw [if_neg hc]; simp [fw, h]
theorem fw_space (c : UInt8) (r : List UInt8) (h : isSp c = true) : fw true [] (c :: r) = fw true [] r := by simp [fw, h]
theorem left_nil (r : List UInt8) : left [] r = fw true [] r := by simp [left]
theorem Holds.fin {h : Hp} {b : Nat} {ob : Ob} {e : TypeId} {n : Nat} {l : List (List UInt8)} (hh : Holds ob e n l) (hb : h b = none) (hl : l.length = n) (hn : n ≤ 1000000) : Wk (upd h b (some ob)) (.row b 1 0 n) h (encL 1 cS (l.map bOf)) := by
  obtain ⟨h1, h2, h3, h4⟩ := hh
  have : (l.map bOf).length = n := by simp [hl]
  rw [encL_eq, this]
  refine Wk.rowF (upd_same _ _ _) (Sub.upd hb (Sub.refl _)) hb h2 (by omega) (by omega) fun i hi j hj => ?_
  have hj0 : j = 0 := by omega
  subst hj0
  have hx : l[i]? = some l[i] := List.getElem?_eq_getElem (by omega)
  rw [h4 i _ hx, cellsL_at (x := bOf l[i]) (by simp [hx])]
  rfl
theorem take_more {s : ByteArray} {fs i : Nat} {cur r : List UInt8} {c : UInt8} (h1 : (s.data.toList.drop fs).take cur.length = cur) (h2 : fs + cur.length = i) (h3 : s.data.toList.drop i = c :: r) : (s.data.toList.drop fs).take (cur ++ [c]).length = cur ++ [c] := by
  have h4 : (s.data.toList.drop fs)[cur.length]? = some c := by
    rw [List.getElem?_drop, h2]
    have := congrArg List.head? h3
    simpa [List.head?_drop] using this
  rw [List.length_append, List.length_singleton, List.take_add_one, h1, h4]
  rfl
theorem fields_ok (s : ByteArray) (hs : s.size ≤ 1000000) (ha : ∀ c ∈ s.data.toList, asc c) : Pure Tryd.prog 14 [S s] (encL 1 cS ((fw true [] s.data.toList).map bOf)) := by
  obtain ⟨A, hA⟩ : ∃ A, fw true [] s.data.toList = A := ⟨_, rfl⟩
  have hcnt := (cnt_fw s.data.toList).1
  have hcle := cnt_le true s.data.toList
  rw [hA] at hcnt
  rw [size_list] at hcle
  rw [hA]
  obtain ⟨RR, hRR⟩ : ∃ RR, encL 1 cS (A.map bOf) = RR := ⟨_, rfl⟩
  rw [hRR]
  have HRR := Lib.hid hRR
  clear hRR
  obtain ⟨N, hN⟩ : ∃ N, A.length = N := ⟨_, rfl⟩
  rw [hN] at hcnt
  have hNs : N ≤ s.size := by omega
  have hc0 : 0 + cnt true s.data.toList = N := by omega
  have HA := Lib.hid hA
  have HN := Lib.hid hN
  clear hA hN hcnt hcle
  intro h; refine callK_body Tryd.func14 rfl (by rw [nt14]; simp) ?_; rw [nt14, rs14]
  (repeat' (first | simp [go_sem, X_region, *] | simp (disch := omega) only [om, *] | ((first | refine XC_split ?_ ?_ | refine XG_true ?_ ?_ | refine XG_false ?_ ?_ | refine XRg_true ?_ ?_ | refine XRg_false ?_ ?_) <;> intro hc <;> (try simp only [bl] at hc) <;> (try (exfalso; omega))) | refine XD_w [] [] [] (fun _ => none) mixed (by decide +kernel) (sub_none _) ?_ | (intro bk hbk; (try simp only [go_sem] at hbk))))
  refine X_lp (fun n T h' => ∃ (i : Nat) (r : List UInt8) (w : Bool) (k : Nat) (v : Int), n = r.length ∧ i ≤ s.size ∧ s.data.toList.drop i = r ∧ k + cnt w r = N ∧ 0 ≤ v ∧ v < 128 ∧ T 0 = S s ∧ T 3 = I k ∧ T 4 = I (if w = true then 1 else 0) ∧ T 5 = .v (.int .u8 v) ∧ T 6 = I i ∧ h' = h) _ ⟨0, _, true, 0, 0, rfl, by omega, rfl, by simpa using hc0, by omega, by omega, by simp [go_sem], by simp [go_sem], by simp [go_sem], by simp [go_sem], by simp [go_sem], rfl⟩ ?_
  clear hc0
  rintro J hJ n T h' ⟨i, r, w, k, v, rfl, hi, hd, hk, hv0, hv1, h0, h3, h4, h5, h6, rfl⟩
  rcases r with _ | ⟨c, r⟩
  · have hlt := str_nil hd
    simp only [cnt, Nat.add_zero] at hk
    subst hk
    clear hJ
    (repeat' (first | simp [go_sem, X_region, *] | simp (disch := omega) only [om, *] | ((first | refine XC_split ?_ ?_ | refine XG_true ?_ ?_ | refine XG_false ?_ ?_ | refine XRg_true ?_ ?_ | refine XRg_false ?_ ?_) <;> intro hc <;> (try simp only [bl] at hc) <;> (try (exfalso; omega))) | refine XD_w [] [] [] (fun _ => none) mixed (by decide +kernel) (sub_none _) ?_ | (intro bk hbk; (try simp only [go_sem] at hbk))))
    refine X_makeSlice k k und33 zr9 by9 (by simp [go_sem]) (by simp [go_sem]) (Nat.le_refl _) (by omega) (by omega) fun b hb => ?_
    obtain ⟨ob, hob, hh⟩ : ∃ ob : Ob, (⟨9, 1, k, fun _ j => .v ([Value.string ⟨#[]⟩].getD j undef)⟩ : Ob) = ob ∧ Holds ob 9 k [] := ⟨_, rfl, rfl, rfl, rfl, fun i x h => by simp at h⟩
    rw [hob]
    clear hob
    clear h3 h4 h5 h6 hi hd hlt hv0 hv1
    (repeat' (first | simp [go_sem, X_region, *] | simp (disch := omega) only [om, *] | ((first | refine XC_split ?_ ?_ | refine XG_true ?_ ?_ | refine XG_false ?_ ?_ | refine XRg_true ?_ ?_ | refine XRg_false ?_ ?_) <;> intro hc <;> (try simp only [bl] at hc) <;> (try (exfalso; omega))) | refine XD_w [] [] [] (fun _ => none) mixed (by decide +kernel) (sub_none _) ?_ | (intro bk hbk; (try simp only [go_sem] at hbk))))
    refine X_lp (fun n T h2 => ∃ (i : Nat) (r : List UInt8), n = r.length ∧ i ≤ s.size ∧ s.data.toList.drop i = r ∧ RowKit.Hid (fw true [] r = A) ∧ T 0 = S s ∧ T 9 = .row b 1 0 k ∧ T 10 = I 0 ∧ T 12 = I i ∧ h2 = upd h' b (some ob)) _ ⟨0, _, rfl, by omega, rfl, HA, by simp [go_sem, *], by simp [go_sem], by simp [go_sem], by simp [go_sem], rfl⟩ ?_
    clear HA
    rintro J hJ n T h2 ⟨i, r, rfl, hi, hd, HA, h0, h9, h10, h12, rfl⟩
    rcases Ex.or r with ⟨c, r, rfl, hc⟩ | hex
    · obtain ⟨hlt, hg, hd2⟩ := str_cons hd
      have hsp := sp_at c
      have hac := UInt8.toNat_lt c
      rw [if_pos hc] at hsp
      (repeat' (first | simp [go_sem, X_region, *] | simp (disch := omega) only [om, *] | ((first | refine XC_split ?_ ?_ | refine XG_true ?_ ?_ | refine XG_false ?_ ?_ | refine XRg_true ?_ ?_ | refine XRg_false ?_ ?_) <;> intro hc <;> (try simp only [bl] at hc) <;> (try (exfalso; omega))) | refine XD_w [] [] [] (fun _ => none) mixed (by decide +kernel) (sub_none _) ?_ | (intro bk hbk; (try simp only [go_sem] at hbk))))
      exact ⟨r.length, by simp, hJ.out _ _ _ ⟨i + 1, r, rfl, by omega, hd2, by have := HA.out; rw [fw_space c r hc] at this; exact Lib.hid this, by simp [go_sem, *], by simp [go_sem, *], by simp [go_sem, *], by simp [go_sem, *], rfl⟩⟩
    · have hex2 : Ex r := hex
      rcases hex with hr | ⟨c, r', hr, hc⟩
      case' inl =>
        rw [hr] at hd
        have hlt := str_nil hd
        rw [← hr] at hd
        (repeat' (first | simp [go_sem, X_region, *] | simp (disch := omega) only [om, *] | ((first | refine XC_split ?_ ?_ | refine XG_true ?_ ?_ | refine XG_false ?_ ?_ | refine XRg_true ?_ ?_ | refine XRg_false ?_ ?_) <;> intro hc <;> (try simp only [bl] at hc) <;> (try (exfalso; omega))) | refine XD_w [] [] [] (fun _ => none) mixed (by decide +kernel) (sub_none _) ?_ | (intro bk hbk; (try simp only [go_sem] at hbk))))
        clear hr
      case' inr =>
        rw [hr] at hd
        obtain ⟨hlt, hg, hd2⟩ := str_cons hd
        have hsp := sp_at c
        have hac := UInt8.toNat_lt c
        rw [if_neg (by simp [hc])] at hsp
        rw [← hr] at hd
        (repeat' (first | simp [go_sem, X_region, *] | simp (disch := omega) only [om, *] | ((first | refine XC_split ?_ ?_ | refine XG_true ?_ ?_ | refine XG_false ?_ ?_ | refine XRg_true ?_ ?_ | refine XRg_false ?_ ?_) <;> intro hc <;> (try simp only [bl] at hc) <;> (try (exfalso; omega))) | refine XD_w [] [] [] (fun _ => none) mixed (by decide +kernel) (sub_none _) ?_ | (intro bk hbk; (try simp only [go_sem] at hbk))))
      all_goals
        clear hJ J
        obtain ⟨i0, hi0⟩ : ∃ i0, i = i0 := ⟨_, rfl⟩
        refine X_lp (fun n T h2 => ∃ (i fs : Nat) (r cur : List UInt8) (W : List (List UInt8)) (o2 : Ob), n = r.length ∧ i ≤ s.size ∧ s.data.toList.drop i = r ∧ fs + cur.length = i ∧ (s.data.toList.drop fs).take cur.length = cur ∧ RowKit.Hid (cur = [] → Ex r) ∧ RowKit.Hid (W ++ left cur r = A) ∧ Holds o2 9 k W ∧ T 0 = S s ∧ T 9 = .row b 1 0 k ∧ T 10 = I W.length ∧ T 11 = I fs ∧ T 12 = I i ∧ h2 = upd h' b (some o2)) _ ⟨i, i, r, [], [], ob, rfl, hi, hd, rfl, rfl, Lib.hid fun _ => hex2, by have := HA.out; rw [← left_nil] at this; exact Lib.hid this, hh, by simp [go_sem, *], by simp [go_sem, *], by simp [go_sem, *], by simp [go_sem, *], by simp [go_sem, *], rfl⟩ ?_
        clear HA h0 h9 h10 h12 hi hd hex2 hh hi0 i0
        try clear hg hd2 hsp hac hr hc c r'
        clear hlt
        clear ob i r T
        rintro J hJ n T h2 ⟨i, fs, r, cur, W, ob, rfl, hi, hd, hfs, hcur, hex, HA, hh, h0, h9, h10, h11, h12, rfl⟩
        obtain ⟨q1, q2, q3, q4⟩ := hh
        have hx : s.extract fs i = bOf cur := by rw [← hfs, extract_take, hcur]
        have hlen : W.length + (left cur r).length = k := by have := HA.out; have h2 := HN.out; rw [← this, List.length_append] at h2; exact h2
        have hcn : cur ≠ [] → 1 ≤ (left cur r).length := fun h => by unfold left; rw [if_neg h, (cnt_fw r).2]; omega
        rcases r with _ | ⟨c, r⟩
        · have hlt := str_nil hd
          have hie : i = s.size := by omega
          clear hJ
          by_cases hce : cur = []
          · subst hce
            have hf2 : ¬ fs < s.size := by simp at hfs; omega
            have hWA : W = A := by have := HA.out; simpa [left, fw] using this
            clear hcn hlen HA hcur hex
            have hkk := HN.out
            subst hWA
            have hfin := Lib.hid (Holds.fin (h := h') (b := b) ⟨q1, q2, q3, q4⟩ hb hkk (by omega))
            (repeat' (first | simp [go_sem, X_region, *] | simp (disch := omega) only [om, *] | ((first | refine XC_split ?_ ?_ | refine XG_true ?_ ?_ | refine XG_false ?_ ?_ | refine XRg_true ?_ ?_ | refine XRg_false ?_ ?_) <;> intro hc <;> (try simp only [bl] at hc) <;> (try (exfalso; omega))) | refine XD_w [] [] [] (fun _ => none) mixed (by decide +kernel) (sub_none _) ?_ | (intro bk hbk; (try simp only [go_sem] at hbk))))
            rw [← HRR.out]; exact hfin.out
          · have hf2 : fs < s.size := by have : 0 < cur.length := List.length_pos_iff.2 hce
                                         omega
            have hWA : W ++ [cur] = A := by have := HA.out; simpa [left, hce, fw] using this
            have hWk : W.length < k := by have := hcn hce; omega
            have hx2 : s.extract fs s.size = bOf cur := by rw [← hie]; exact hx
            clear hcn hlen HA hcur hex hfs
            have hkk := HN.out
            have hfin := Lib.hid (Holds.fin (h := h') (b := b) (Holds.set (e := 9) (n := k) q4 cur) hb (by rw [hWA]; exact hkk) (by omega))
            rw [hWA] at hfin
            clear hkk hWA HN
            (repeat' (first | simp [go_sem, X_region, *] | simp (disch := omega) only [om, *] | ((first | refine XC_split ?_ ?_ | refine XG_true ?_ ?_ | refine XG_false ?_ ?_ | refine XRg_true ?_ ?_ | refine XRg_false ?_ ?_) <;> intro hc <;> (try simp only [bl] at hc) <;> (try (exfalso; omega))) | refine XD_w [] [] [] (fun _ => none) mixed (by decide +kernel) (sub_none _) ?_ | (intro bk hbk; (try simp only [go_sem] at hbk))))
            rw [← HRR.out]; exact hfin.out
        · obtain ⟨hlt, hg, hd2⟩ := str_cons hd
          have hsp := sp_at c
          have hac := UInt8.toNat_lt c
          cases hc : isSp c
          · rw [if_neg (by simp [hc])] at hsp
            have htm := take_more hcur hfs hd
            have HA2 : RowKit.Hid (W ++ left (cur ++ [c]) r = A) := by have := HA.out; rw [left_word _ _ _ hc] at this; exact Lib.hid this
            clear HA hcn hlen hex
            (repeat' (first | simp [go_sem, X_region, *] | simp (disch := omega) only [om, *] | ((first | refine XC_split ?_ ?_ | refine XG_true ?_ ?_ | refine XG_false ?_ ?_ | refine XRg_true ?_ ?_ | refine XRg_false ?_ ?_) <;> intro hc <;> (try simp only [bl] at hc) <;> (try (exfalso; omega))) | refine XD_w [] [] [] (fun _ => none) mixed (by decide +kernel) (sub_none _) ?_ | (intro bk hbk; (try simp only [go_sem] at hbk))))
            exact ⟨r.length, by omega, hJ.out _ _ _ ⟨i + 1, fs, r, cur ++ [c], W, ob, rfl, by omega, hd2, by simp; omega, htm, Lib.hid fun e => by simp at e, HA2, ⟨q1, q2, q3, q4⟩, by simp [go_sem, *], by simp [go_sem, *], by simp [go_sem, *], by simp [go_sem, *], by simp [go_sem, *], rfl⟩⟩
          · rw [if_pos hc] at hsp
            have hce : cur ≠ [] := fun e => by
              rcases hex.out e with h1 | ⟨c', r', h1, h2⟩
              · cases h1
              · cases h1; rw [hc] at h2; cases h2
            have hWk : W.length < k := by have := hcn hce; omega
            have HA2 : RowKit.Hid ((W ++ [cur]) ++ fw true [] r = A) := by have := HA.out; rw [left_space _ _ _ hc hce] at this; exact Lib.hid (by simpa using this)
            have hset := Lib.hid (Holds.set (e := 9) (n := k) q4 cur)
            clear HA hcn hlen hex
            (repeat' (first | simp [go_sem, X_region, *] | simp (disch := omega) only [om, *] | ((first | refine XC_split ?_ ?_ | refine XG_true ?_ ?_ | refine XG_false ?_ ?_ | refine XRg_true ?_ ?_ | refine XRg_false ?_ ?_) <;> intro hc <;> (try simp only [bl] at hc) <;> (try (exfalso; omega))) | refine XD_w [] [] [] (fun _ => none) mixed (by decide +kernel) (sub_none _) ?_ | (intro bk hbk; (try simp only [go_sem] at hbk))))
            refine X_lp (fun n T h2 => ∃ (i2 : Nat) (r2 : List UInt8) (o2 : Ob), n = r2.length ∧ i2 ≤ s.size ∧ s.data.toList.drop i2 = r2 ∧ r2.length ≤ r.length ∧ RowKit.Hid ((W ++ [cur]) ++ fw true [] r2 = A) ∧ Holds o2 9 k (W ++ [cur]) ∧ T 0 = S s ∧ T 9 = .row b 1 0 k ∧ T 10 = I (W.length + 1) ∧ T 12 = I i2 ∧ h2 = upd h' b (some o2)) _ ⟨i + 1, r, _, rfl, by omega, hd2, Nat.le_refl _, HA2, hset.out, by simp [go_sem, *], by simp [go_sem, *], by simp [go_sem, *], by simp [go_sem, *], rfl⟩ ?_
            clear HA2 hset h0 h9 h10 h11 h12 hi hfs hcur q1 q2 q3 q4 hx hd hlt hg hd2 hsp hac hc hce c i fs ob T
            rintro J3 hJ3 n T h2 ⟨i, r, ob, rfl, hi, hd, hrl, HA, hh, h0, h9, h10, h12, rfl⟩
            obtain ⟨q1, q2, q3, q4⟩ := hh
            rcases Ex.or r with ⟨c, r, rfl, hc⟩ | hex
            · obtain ⟨hlt, hg, hd2⟩ := str_cons hd
              have hsp := sp_at c
              have hac := UInt8.toNat_lt c
              rw [if_pos hc] at hsp
              (repeat' (first | simp [go_sem, X_region, *] | simp (disch := omega) only [om, *] | ((first | refine XC_split ?_ ?_ | refine XG_true ?_ ?_ | refine XG_false ?_ ?_ | refine XRg_true ?_ ?_ | refine XRg_false ?_ ?_) <;> intro hc <;> (try simp only [bl] at hc) <;> (try (exfalso; omega))) | refine XD_w [] [] [] (fun _ => none) mixed (by decide +kernel) (sub_none _) ?_ | (intro bk hbk; (try simp only [go_sem] at hbk))))
              exact ⟨r.length, by simp, hJ3.out _ _ _ ⟨i + 1, r, ob, rfl, by omega, hd2, by simp at hrl; omega, by have := HA.out; rw [fw_space c r hc] at this; exact Lib.hid this, ⟨q1, q2, q3, q4⟩, by simp [go_sem, *], by simp [go_sem, *], by simp [go_sem, *], by simp [go_sem, *], rfl⟩⟩
            · have hex2 : Ex r := hex
              clear hJ3
              rcases hex with hr | ⟨c, r', hr, hc⟩
              · rw [hr] at hd
                have hlt := str_nil hd
                rw [← hr] at hd
                (repeat' (first | simp [go_sem, X_region, *] | simp (disch := omega) only [om, *] | ((first | refine XC_split ?_ ?_ | refine XG_true ?_ ?_ | refine XG_false ?_ ?_ | refine XRg_true ?_ ?_ | refine XRg_false ?_ ?_) <;> intro hc <;> (try simp only [bl] at hc) <;> (try (exfalso; omega))) | refine XD_w [] [] [] (fun _ => none) mixed (by decide +kernel) (sub_none _) ?_ | (intro bk hbk; (try simp only [go_sem] at hbk))))
                exact ⟨r.length, by omega, hJ.out _ _ _ ⟨i, i, r, [], W ++ [cur], ob, rfl, hi, hd, rfl, rfl, Lib.hid fun _ => hex2, by have := HA.out; rw [← left_nil] at this; exact Lib.hid this, ⟨q1, q2, q3, q4⟩, by simp [go_sem, *], by simp [go_sem, *], by simp [go_sem, *], by simp [go_sem, *], by simp [go_sem, *], rfl⟩⟩
              · rw [hr] at hd
                obtain ⟨hlt, hg, hd2⟩ := str_cons hd
                have hsp := sp_at c
                have hac := UInt8.toNat_lt c
                rw [if_neg (by simp [hc])] at hsp
                rw [← hr] at hd
                clear hd2
                (repeat' (first | simp [go_sem, X_region, *] | simp (disch := omega) only [om, *] | ((first | refine XC_split ?_ ?_ | refine XG_true ?_ ?_ | refine XG_false ?_ ?_ | refine XRg_true ?_ ?_ | refine XRg_false ?_ ?_) <;> intro hc <;> (try simp only [bl] at hc) <;> (try (exfalso; omega))) | refine XD_w [] [] [] (fun _ => none) mixed (by decide +kernel) (sub_none _) ?_ | (intro bk hbk; (try simp only [go_sem] at hbk))))
                exact ⟨r.length, by omega, hJ.out _ _ _ ⟨i, i, r, [], W ++ [cur], ob, rfl, hi, hd, rfl, rfl, Lib.hid fun _ => hex2, by have := HA.out; rw [← left_nil] at this; exact Lib.hid this, ⟨q1, q2, q3, q4⟩, by simp [go_sem, *], by simp [go_sem, *], by simp [go_sem, *], by simp [go_sem, *], by simp [go_sem, *], rfl⟩⟩
  · obtain ⟨hlt, hg, hd2⟩ := str_cons hd
    have hac : asc c := ha c (List.mem_of_mem_drop (by rw [hd]; exact List.mem_cons_self ..))
    unfold asc at hac
    have hb := bor_small v c.toNat hv0 hv1 (by omega) (by omega)
    have hsp := sp_at c
    unfold cnt at hk
    cases hc : isSp c <;> cases w <;> (
      simp only [hc, Bool.false_eq_true, if_false, if_true, Bool.not_true, Bool.not_false, Bool.and_true, Bool.and_false] at hk hsp h4
      (repeat' (first | simp [go_sem, X_region, *] | simp (disch := omega) only [om, *] | ((first | refine XC_split ?_ ?_ | refine XG_true ?_ ?_ | refine XG_false ?_ ?_ | refine XRg_true ?_ ?_ | refine XRg_false ?_ ?_) <;> intro hc <;> (try simp only [bl] at hc) <;> (try (exfalso; omega))) | refine XD_w [] [] [] (fun _ => none) mixed (by decide +kernel) (sub_none _) ?_ | (intro bk hbk; (try simp only [go_sem] at hbk))))
      refine ⟨_, Nat.lt_succ_self _, hJ.out _ _ _ ⟨i + 1, r, _, _, _, rfl, by omega, hd2, (Nat.add_assoc ..).trans hk, hb.1, hb.2, ?_, ?_, ?_, ?_, ?_, rfl⟩⟩ <;> (simp [go_sem, *, bn0, bn1, ba00, ba01, ba10, ba11]; try (simp (disch := omega) only [om])))
end Go.Proofs.YtmalhikcdideoaaDoor

set_option linter.unusedVariables false
set_option linter.unusedSimpArgs false
namespace Go.Proofs.YtmalhikcdideoaaDoor
open Go Sl
attribute [local irreducible] XRange LpQ XR XRo XRg XRQ putQ XFv XL XW2 wQ putW X XO XOp XH XHo XW SeqQ BlkQ XOQ XHQ NrmQ XC XM XG XHM XHG XD CallK
def keyText : ByteArray := ⟨#[97, 99, 116, 32, 97, 110, 100, 32, 97, 114, 116, 105, 99, 108, 101, 32, 97, 116, 45, 109, 111, 115, 116, 32, 97, 116, 116, 114, 105, 98, 117, 116, 101, 32, 98, 97, 115, 101, 32, 98, 101, 108, 111, 119, 32, 98, 111, 111, 108, 32, 99, 111, 117, 110, 116, 32, 100, 97, 116, 101, 32, 100, 97, 121, 115, 32, 100, 111, 119, 110, 32, 101, 108, 115, 101, 32, 101, 110, 97, 99, 116, 101, 100, 32, 101, 113, 117, 97, 108, 115, 32, 102, 97, 108, 115, 101, 32, 102, 114, 111, 109, 32, 103, 105, 118, 101, 115, 32, 103, 114, 101, 97, 116, 101, 115, 116, 32, 104, 97, 108, 102, 32, 104, 97, 108, 102, 45, 111, 117, 116, 32, 104, 97, 108, 102, 45, 116, 119, 111, 32, 105, 102, 32, 105, 110, 112, 117, 116, 32, 105, 115, 32, 108, 101, 97, 115, 116, 32, 108, 101, 118, 101, 108, 32, 109, 105, 110, 117, 115, 32, 109, 111, 110, 101, 121, 32, 110, 111, 116, 32, 110, 117, 109, 98, 101, 114, 32, 111, 102, 32, 111, 114, 32, 111, 118, 101, 114, 32, 112, 108, 117, 115, 32, 114, 111, 117, 110, 100, 32, 115, 99, 97, 108, 101, 32, 115, 104, 97, 114, 101, 32, 115, 108, 105, 99, 101, 115, 32, 116, 97, 98, 108, 101, 32, 116, 104, 101, 110, 32, 116, 105, 109, 101, 115, 32, 116, 111, 32, 116, 111, 116, 97, 108, 32, 116, 114, 117, 101, 32, 117, 112, 32, 119, 101, 105, 103, 104, 116, 32, 119, 104, 101, 110, 32, 121, 101, 97, 114, 115]⟩
set_option maxRecDepth 100000 in
theorem keyText_fw : (fw true [] keyText.data.toList).map bOf = keysB := by decide +kernel
set_option maxRecDepth 100000 in
theorem keyText_asc : ∀ c ∈ keyText.data.toList, asc c := by unfold asc; decide +kernel
set_option maxRecDepth 100000 in
theorem reserved_ok : Pure Tryd.prog 50 [] (encL 1 cS keysB) := by
  have hf := fields_ok keyText (by decide +kernel) keyText_asc
  rw [keyText_fw] at hf
  unfold keyText at hf
  intro h; refine callK_body Tryd.func50 rfl (by rw [nt50]; simp) ?_; rw [nt50, rs50]
  (repeat' (first | simp [go_sem, X_region, *] | simp (disch := omega) only [om, *] | ((first | refine XC_split ?_ ?_ | refine XG_true ?_ ?_ | refine XG_false ?_ ?_ | refine XRg_true ?_ ?_ | refine XRg_false ?_ ?_) <;> intro hc <;> (try simp only [bl] at hc) <;> (try (exfalso; omega))) | refine XD_w [] [] [] (fun _ => none) mixed (by decide +kernel) (sub_none _) ?_ | refine Pure.call (hf) ?_ | refine ⟨_, Pure.at (hf), ?_⟩ | refine ⟨_, hf, ?_⟩ | refine PureAt.call (hf) ?_ | (intro bk hbk; (try simp only [go_sem] at hbk))))
abbrev ptr (b : Nat) : AV := .v (.pointer (some ⟨b, 0, none⟩))
/-- A cell of its own. -/
structure Cell (ob : Ob) (v : AV) : Prop where
  s : ob.s = 1
  n : ob.n = 1
  f : ob.f 0 0 = v
theorem part_ok (set : ByteArray) (p : UInt8 → Bool) (hp : ∀ c, set.data.toList.contains c = p c) (h : Hp) (bn bs : Nat) (on os : Ob) (hn : h bn = some on) (hs : h bs = some os) (hne : ¬ bs = bn) (n0 : Nat) (s : ByteArray) (cn : Cell on (I n0)) (cs : Cell os (S s)) (hsz : s.size ≤ 30000) (hle : n0 ≤ s.size) :
    CallK Tryd.prog h 47 [S set, ptr bn, ptr bs] fun r h' => r = .tup 0 (fun _ => .any) ∧ ∃ o2, h' = upd h bn (some o2) ∧ o2.ty = on.ty ∧ Cell o2 (I ((n0 + ((s.data.toList.drop n0).takeWhile p).length : Nat) : Int)) := by
  obtain ⟨R, hR⟩ : ∃ R, n0 + ((s.data.toList.drop n0).takeWhile p).length = R := ⟨_, rfl⟩
  rw [hR]
  have hne2 : ¬ bn = bs := fun e => hne e.symm
  obtain ⟨s1, s2, s3⟩ := cs
  refine callK_body Tryd.func47 rfl (by rw [nt47]; simp) ?_; rw [nt47, rs47]
  (repeat' (first | simp [go_sem, X_region, *] | simp (disch := omega) only [om, *] | ((first | refine XC_split ?_ ?_ | refine XG_true ?_ ?_ | refine XG_false ?_ ?_ | refine XRg_true ?_ ?_ | refine XRg_false ?_ ?_) <;> intro hc <;> (try simp only [bl] at hc) <;> (try (exfalso; omega))) | refine XD_w [] [] [] (fun _ => none) mixed (by decide +kernel) (sub_none _) ?_ | (intro bk hbk; (try simp only [go_sem] at hbk))))
  refine X_lp (fun n T h2 => ∃ (i : Nat) (r : List UInt8) (o2 : Ob), n = r.length ∧ i ≤ s.size ∧ s.data.toList.drop i = r ∧ i + (r.takeWhile p).length = R ∧ o2.ty = on.ty ∧ Cell o2 (I i) ∧ T 0 = S set ∧ T 1 = ptr bn ∧ T 2 = ptr bs ∧ h2 = upd h bn (some o2)) _ ⟨n0, _, on, rfl, hle, rfl, hR, rfl, cn, by simp [go_sem], by simp [go_sem], by simp [go_sem], by funext c; by_cases hc : c = bn <;> simp [upd, hc, hn]⟩ ?_
  clear hR cn hle hn
  rintro J hJ n T h2 ⟨i, r, o2, rfl, hi, hd, hR, hty, ⟨c1, c2, c3⟩, h0, h1, h2, rfl⟩
  rcases r with _ | ⟨c, r⟩
  · have hlt := str_nil hd
    (repeat' (first | simp [go_sem, X_region, *] | simp (disch := omega) only [om, *] | ((first | refine XC_split ?_ ?_ | refine XG_true ?_ ?_ | refine XG_false ?_ ?_ | refine XRg_true ?_ ?_ | refine XRg_false ?_ ?_) <;> intro hc <;> (try simp only [bl] at hc) <;> (try (exfalso; omega))) | refine XD_w [] [] [] (fun _ => none) mixed (by decide +kernel) (sub_none _) ?_ | (intro bk hbk; (try simp only [go_sem] at hbk))))
    simp at hR
    subst hR
    exact ⟨_, _, Wk.refl _ _, rfl, o2, rfl, hty, c1, c2, c3⟩
  · obtain ⟨hlt, hg, hd2⟩ := str_cons hd
    have hidx := idx_ge set.data.toList c
    rw [hp c] at hidx
    cases hpc : p c
    · rw [hpc] at hidx
      (repeat' (first | simp [go_sem, X_region, *] | simp (disch := omega) only [om, *] | ((first | refine XC_split ?_ ?_ | refine XG_true ?_ ?_ | refine XG_false ?_ ?_ | refine XRg_true ?_ ?_ | refine XRg_false ?_ ?_) <;> intro hc <;> (try simp only [bl] at hc) <;> (try (exfalso; omega))) | refine XD_w [] [] [] (fun _ => none) mixed (by decide +kernel) (sub_none _) ?_ | refine Pure.call (idx2_ok set c) ?_ | refine ⟨_, Pure.at (idx2_ok set c), ?_⟩ | refine ⟨_, idx2_ok set c, ?_⟩ | refine PureAt.call (idx2_ok set c) ?_ | (intro bk hbk; (try simp only [go_sem] at hbk))))
      simp [hpc] at hR
      subst hR
      exact ⟨_, _, Wk.refl _ _, rfl, o2, rfl, hty, c1, c2, c3⟩
    · rw [hpc] at hidx
      (repeat' (first | simp [go_sem, X_region, *] | simp (disch := omega) only [om, *] | ((first | refine XC_split ?_ ?_ | refine XG_true ?_ ?_ | refine XG_false ?_ ?_ | refine XRg_true ?_ ?_ | refine XRg_false ?_ ?_) <;> intro hc <;> (try simp only [bl] at hc) <;> (try (exfalso; omega))) | refine XD_w [] [] [] (fun _ => none) mixed (by decide +kernel) (sub_none _) ?_ | refine Pure.call (idx2_ok set c) ?_ | refine ⟨_, Pure.at (idx2_ok set c), ?_⟩ | refine ⟨_, idx2_ok set c, ?_⟩ | refine PureAt.call (idx2_ok set c) ?_ | (intro bk hbk; (try simp only [go_sem] at hbk))))
      refine ⟨r.length, by omega, hJ.out _ _ _ ⟨i + 1, r, _, rfl, by omega, hd2, by rw [← hR]; simp [hpc]; omega, ?_, ?_, by simp [go_sem, *], by simp [go_sem, *], by simp [go_sem, *], rfl⟩⟩
      · rfl
      · exact ⟨rfl, rfl, by simp⟩
end Go.Proofs.YtmalhikcdideoaaDoor

set_option linter.unusedVariables false
set_option linter.unusedSimpArgs false
namespace Go.Proofs.YtmalhikcdideoaaDoor
open Go Sl
attribute [local irreducible] XRange LpQ XR XRo XRg XRQ putQ XFv XL XW2 wQ putW X XO XOp XH XHo XW SeqQ BlkQ XOQ XHQ NrmQ XC XM XG XHM XHG XD CallK
theorem set_inner : ∀ c : UInt8, (⟨#[97, 98, 99, 100, 101, 102, 103, 104, 105, 106, 107, 108, 109, 110, 111, 112, 113, 114, 115, 116, 117, 118, 119, 120, 121, 122, 48, 49, 50, 51, 52, 53, 54, 55, 56, 57, 45]⟩ : ByteArray).data.toList.contains c = isInner c := by
  have h : ∀ n : Fin 256, (⟨#[97, 98, 99, 100, 101, 102, 103, 104, 105, 106, 107, 108, 109, 110, 111, 112, 113, 114, 115, 116, 117, 118, 119, 120, 121, 122, 48, 49, 50, 51, 52, 53, 54, 55, 56, 57, 45]⟩ : ByteArray).data.toList.contains (UInt8.ofNat n.val) = isInner (UInt8.ofNat n.val) := by decide +kernel
  intro c
  have := h ⟨c.toNat, UInt8.toNat_lt c⟩
  simpa using this
theorem set_num : ∀ c : UInt8, (⟨#[48, 49, 50, 51, 52, 53, 54, 55, 56, 57, 46, 45, 37]⟩ : ByteArray).data.toList.contains c = isNum c := by
  have h : ∀ n : Fin 256, (⟨#[48, 49, 50, 51, 52, 53, 54, 55, 56, 57, 46, 45, 37]⟩ : ByteArray).data.toList.contains (UInt8.ofNat n.val) = isNum (UInt8.ofNat n.val) := by decide +kernel
  intro c
  have := h ⟨c.toNat, UInt8.toNat_lt c⟩
  simpa using this
theorem set_sign : ∀ c : UInt8, (⟨#[58, 59, 44, 40, 41]⟩ : ByteArray).data.toList.contains c = isSign c := by
  have h : ∀ n : Fin 256, (⟨#[58, 59, 44, 40, 41]⟩ : ByteArray).data.toList.contains (UInt8.ofNat n.val) = isSign (UInt8.ofNat n.val) := by decide +kernel
  intro c
  have := h ⟨c.toNat, UInt8.toNat_lt c⟩
  simpa using this
theorem gb_head (c : UInt8) (r : List UInt8) : gb (bOf (c :: r)) 0 = c := rfl
theorem bOf_ne (c : UInt8) (r : List UInt8) : ¬ bOf (c :: r) = ⟨#[]⟩ := fun e => by
  have := congrArg ByteArray.size e
  rw [bOf_size] at this
  cases this
theorem bOf_extract (l : List UInt8) (a n : Nat) : (bOf l).extract a (a + n) = bOf ((l.drop a).take n) := extract_take _ _ _
theorem bOf_from (l : List UInt8) (a : Nat) (h : a ≤ l.length) : (bOf l).extract a l.length = bOf (l.drop a) := by
  have e : (bOf l).extract a l.length = (bOf l).extract a (a + (l.length - a)) := by congr 1; omega
  rw [e, bOf_extract, List.take_of_length_le (by simp)]
theorem oneF_letter (c : UInt8) (r : List UInt8) (h : isLetter c = true) : oneF c r = if isKey (bOf ((c :: r).take (1 + (r.takeWhile isInner).length))) = true then (2, 1 + (r.takeWhile isInner).length) else if 20 < 1 + (r.takeWhile isInner).length then (0, 0) else (1, 1 + (r.takeWhile isInner).length) := by
  simp [oneF, h]
theorem oneF_num (c : UInt8) (r : List UInt8) (h : isLetter c = false) (h2 : (isDigit c || (decide (c.toNat = 45) && digitNext r)) = true) : oneF c r = (3, 1 + (r.takeWhile isNum).length) := by
  simp only [oneF, h, h2]; simp
theorem oneF_rest (c : UInt8) (r : List UInt8) (h : isLetter c = false) (h2 : (isDigit c || (decide (c.toNat = 45) && digitNext r)) = false) : oneF c r = if isSign c = true then (4, 1) else (0, 0) := by
  simp only [oneF, h, h2]; simp
theorem bOf_cut (c : UInt8) (r : List UInt8) (n : Nat) (hn1 : 1 ≤ n) (hn2 : n ≤ r.length + 1) : (bOf (c :: r)).extract n (r.length + 1) = bOf (r.drop (n - 1)) := by
  have := bOf_from (c :: r) n (by simpa using hn2)
  rw [show (c :: r).drop n = r.drop (n - 1) by obtain ⟨m, rfl⟩ : ∃ m, n = m + 1 := ⟨n - 1, by omega⟩; simp] at this
  simpa using this
theorem digitNext_gb (c : UInt8) (r : List UInt8) : digitNext r = decide (0 < r.length ∧ 48 ≤ (gb (bOf (c :: r)) 1).toNat ∧ (gb (bOf (c :: r)) 1).toNat ≤ 57) := by
  rcases r with _ | ⟨d, r⟩
  · rfl
  · simp [digitNext, isDigit, show gb (bOf (c :: d :: r)) 1 = d from rfl]
theorem sign_ok (c : UInt8) : ∃ i : Int, Pure Tryd.prog 48 [S ⟨#[58, 59, 44, 40, 41]⟩, U8 c] (I i) ∧ (0 ≤ i ↔ isSign c = true) := by
  have h1 := idx2_ok ⟨#[58, 59, 44, 40, 41]⟩ c
  have h2 := idx_ge (⟨#[58, 59, 44, 40, 41]⟩ : ByteArray).data.toList c
  rw [set_sign c] at h2
  exact ⟨_, h1, by rw [← h2, decide_eq_true_eq]⟩
set_option maxHeartbeats 4000000 in
theorem tokens_ok (s : ByteArray) (hs : s.size ≤ 140737488355328) : Pure Tryd.prog 12 [S s] (encLn (linesF s)) := by
  generalize hR : linesF s = R
  intro h; refine callK_body Tryd.func12 rfl (by rw [nt12]; simp) ?_; rw [nt12, rs12]
  (repeat' (first | simp [go_sem, X_region, *] | simp (disch := omega) only [om, *] | ((first | refine XC_split ?_ ?_ | refine XG_true ?_ ?_ | refine XG_false ?_ ?_ | refine XRg_true ?_ ?_ | refine XRg_false ?_ ?_) <;> intro hc <;> (try simp only [bl] at hc) <;> (try (exfalso; omega))) | refine XD_w [] [] [] (fun _ => none) mixed (by decide +kernel) (sub_none _) ?_ | fail))
  intro b1 hb1
  by_cases hsz : 30000 < s.size
  · rw [linesF, if_pos hsz] at hR
    subst hR
    (repeat' (first | simp [go_sem, X_region, *] | simp (disch := omega) only [om, *] | ((first | refine XC_split ?_ ?_ | refine XG_true ?_ ?_ | refine XG_false ?_ ?_ | refine XRg_true ?_ ?_ | refine XRg_false ?_ ?_) <;> intro hc <;> (try simp only [bl] at hc) <;> (try (exfalso; omega))) | refine XD_w [] [] [] (fun _ => none) mixed (by decide +kernel) (sub_none _) ?_ | (intro bk hbk; (try simp only [go_sem] at hbk))))
    exact Wk.tup3_1 (Wk.nil.trans (Wk.drop _ (Sub.upd hb1 (Sub.refl _)))) _ _
  · rw [linesF, if_neg hsz] at hR
    (repeat' (first | simp [go_sem, X_region, *] | simp (disch := omega) only [om, *] | ((first | refine XC_split ?_ ?_ | refine XG_true ?_ ?_ | refine XG_false ?_ ?_ | refine XRg_true ?_ ?_ | refine XRg_false ?_ ?_) <;> intro hc <;> (try simp only [bl] at hc) <;> (try (exfalso; omega))) | refine XD_w [] [] [] (fun _ => none) mixed (by decide +kernel) (sub_none _) ?_ | (intro bk hbk; (try simp only [go_sem] at hbk))))
    refine X_lp (fun n T h2 => ∃ (r : List UInt8) (out : List Tok) (line : Int) (o1 : Ob), n = r.length ∧ out.length + r.length ≤ s.size ∧ 0 ≤ line ∧ line + r.length ≤ s.size + 1 ∧ scanW r line out = R ∧ T 1 = ptr b1 ∧ T 6 = I line ∧ Own h h2 (T 5) 31 3 out.length (cellsL cT out) ∧ h2 b1 = some o1 ∧ o1.ty = 9 ∧ Cell o1 (S (bOf r))) _ ⟨s.data.toList, [], 1, _, rfl, by simp, by omega, by simp; omega, hR, by simp [go_sem], by simp [go_sem], by simpa [go_sem] using Own.none.alloc hb1, upd_same _ _ _, rfl, rfl, rfl, rfl⟩ ?_
    clear hR
    rintro J hJ n T h2 ⟨r, out, line, o1, rfl, hlen, hl0, hl1, hR, h1, h6, hown, ho1, ht1, ⟨c1, c2, c3⟩⟩
    rcases r with _ | ⟨c, r⟩
    · rw [scanW] at hR
      subst hR
      have hb0 : bOf [] = ⟨#[]⟩ := rfl
      (repeat' (first | simp [go_sem, X_region, *] | simp (disch := omega) only [om, *] | ((first | refine XC_split ?_ ?_ | refine XG_true ?_ ?_ | refine XG_false ?_ ?_ | refine XRg_true ?_ ?_ | refine XRg_false ?_ ?_) <;> intro hc <;> (try simp only [bl] at hc) <;> (try (exfalso; omega))) | refine XD_w [] [] [] (fun _ => none) mixed (by decide +kernel) (sub_none _) ?_ | (intro bk hbk; (try simp only [go_sem] at hbk))))
      exact Wk.tup3_1 (hown.frozen (by omega)) _ _
    · have hne := bOf_ne c r
      have hgb := gb_head c r
      have hsz1 := bOf_size (c :: r)
      have hx1 : (bOf (c :: r)).extract 1 (r.length + 1) = bOf r := bOf_from (c :: r) 1 (by simp)
      simp only [List.length_cons] at hsz1 hlen hl1
      have t1 := takeWhile_le isInner r
      have t2 := takeWhile_le isNum r
      (repeat' (first | simp [go_sem, X_region, *] | simp (disch := omega) only [om, *] | ((first | refine XC_split ?_ ?_ | refine XG_true ?_ ?_ | refine XG_false ?_ ?_ | refine XRg_true ?_ ?_ | refine XRg_false ?_ ?_) <;> intro hc <;> (try simp only [bl] at hc) <;> (try (exfalso; omega))) | refine XD_w [] [] [] (fun _ => none) mixed (by decide +kernel) (sub_none _) ?_ | fail))
      intro b2 hb2 b3 hb32 hb23 hb3
      have n12 := ne_free hb2 ho1
      have n13 := ne_free hb3 ho1
      rw [scanW] at hR
      by_cases hsp : c.toNat = 32 ∨ c.toNat = 10
      · rw [if_pos hsp] at hR
        by_cases h10 : c.toNat = 10
        · rw [if_pos h10] at hR
          (repeat' (first | simp [go_sem, X_region, *] | simp (disch := omega) only [om, *] | ((first | refine XC_split ?_ ?_ | refine XG_true ?_ ?_ | refine XG_false ?_ ?_ | refine XRg_true ?_ ?_ | refine XRg_false ?_ ?_) <;> intro hc <;> (try simp only [bl] at hc) <;> (try (exfalso; omega))) | refine XD_w [] [] [] (fun _ => none) mixed (by decide +kernel) (sub_none _) ?_ | (intro bk hbk; (try simp only [go_sem] at hbk))))
          exact ⟨r.length, by omega, hJ.out _ _ _ ⟨r, out, line + 1, _, rfl, by omega, by omega, by omega, hR, by simp [go_sem, *], by simp [go_sem, *], ((hown.alloc hb2).alloc (by rw [upd_ne _ _ hb32]; exact hb3)).set (by rw [upd_ne _ _ n13.2, upd_ne _ _ n12.2]; exact ho1) hb1 (.inl (by omega)), upd_same _ _ _, rfl, rfl, rfl, rfl⟩⟩
        · rw [if_neg h10] at hR
          (repeat' (first | simp [go_sem, X_region, *] | simp (disch := omega) only [om, *] | ((first | refine XC_split ?_ ?_ | refine XG_true ?_ ?_ | refine XG_false ?_ ?_ | refine XRg_true ?_ ?_ | refine XRg_false ?_ ?_) <;> intro hc <;> (try simp only [bl] at hc) <;> (try (exfalso; omega))) | refine XD_w [] [] [] (fun _ => none) mixed (by decide +kernel) (sub_none _) ?_ | (intro bk hbk; (try simp only [go_sem] at hbk))))
          exact ⟨r.length, by omega, hJ.out _ _ _ ⟨r, out, line, _, rfl, by omega, by omega, by omega, hR, by simp [go_sem, *], by simp [go_sem, *], ((hown.alloc hb2).alloc (by rw [upd_ne _ _ hb32]; exact hb3)).set (by rw [upd_ne _ _ n13.2, upd_ne _ _ n12.2]; exact ho1) hb1 (.inl (by omega)), upd_same _ _ _, rfl, rfl, rfl, rfl⟩⟩
      · rw [if_neg hsp] at hR
        simp only [not_or] at hsp
        cases hl : isLetter c
        · have hnx := digitNext_gb c r
          unfold isLetter at hl
          simp only [decide_eq_false_iff_not] at hl
          cases hdg : (isDigit c || (decide (c.toNat = 45) && digitNext r))
          · rw [oneF_rest c r (by simp [isLetter]; omega) hdg] at hR
            simp only [hnx, isDigit, Bool.or_eq_false_iff, Bool.and_eq_false_iff, decide_eq_false_iff_not] at hdg
            obtain ⟨i, hi, hi2⟩ := sign_ok c
            have hdr := bOf_cut c r 1 (by omega) (by omega)
            have hex : (bOf (c :: r)).extract 0 1 = bOf [c] := by simpa using bOf_extract (c :: r) 0 1
            by_cases hz : isSign c = true
            · have hi3 := hi2.2 hz
              rw [if_pos hz, if_neg (by decide)] at hR
              have hz2 := hz
              simp only [isSign, decide_eq_true_eq] at hz2
              clear hi2
              (repeat' (first | simp [go_sem, X_region, *] | simp (disch := omega) only [om, *] | ((first | refine XC_split ?_ ?_ | refine XG_true ?_ ?_ | refine XG_false ?_ ?_ | refine XRg_true ?_ ?_ | refine XRg_false ?_ ?_) <;> intro hc <;> (try simp only [bl] at hc) <;> (try (exfalso; omega))) | refine XD_w [] [] [] (fun _ => none) mixed (by decide +kernel) (sub_none _) ?_ | refine Pure.call (hi) ?_ | refine ⟨_, Pure.at (hi), ?_⟩ | refine ⟨_, hi, ?_⟩ | refine PureAt.call (hi) ?_ | fail))
              all_goals
                refine XD_abs (fun H => H b1 = some o1 ∧ (∃ o2, H b2 = some o2 ∧ Cell o2 (I 1)) ∧ (∃ o3, H b3 = some o3 ∧ o3.ty = 31 ∧ o3.s = 3 ∧ o3.n = 1 ∧ o3.f 0 0 = I 4 ∧ o3.f 0 1 = S (bOf ((c :: r).take 1)) ∧ o3.f 0 2 = I line) ∧ Own h H (T 5) 31 3 out.length (cellsL cT out)) ?_ ?_
                · refine ⟨by simp [go_sem, *], ⟨_, by (repeat rw [upd_ne _ _ hb23]); rw [upd_same], by first | exact d1 | rfl, by first | exact d2 | rfl, by first | exact d3 | simp⟩, ⟨_, upd_same _ _ _, ?_⟩, ?_⟩
                  · exact ⟨rfl, rfl, rfl, by simp, by simp, by simp⟩
                  · exact keep_own hown ho1 hb1 (.inl (by omega)) fun c oc hc hcb => by have m2 := (ne_free hb2 hc).2; have m3 := (ne_free hb3 hc).2; simp [go_sem, *]
                rintro H ⟨q1, ⟨o2, q2, ⟨p1, p2, p3⟩⟩, ⟨o3, q3, q4, q5, q6, q7, q8, q9⟩, hown2⟩
                refine XD_w [] [1, 4, 5] [] (only [b1, b2, b3] H) mixed (by decide +kernel) (only_sub _ _) ?_
                have k1 : only [b1, b2, b3] H b1 = some o1 := by rw [only_in (by simp), q1]
                have k2 : only [b1, b2, b3] H b2 = some o2 := by rw [only_in (by simp), q2]
                have k3 : only [b1, b2, b3] H b3 = some o3 := by rw [only_in (by simp), q3]
                (repeat' (first | simp [go_sem, X_region, *] | simp (disch := omega) only [om, *] | ((first | refine XC_split ?_ ?_ | refine XG_true ?_ ?_ | refine XG_false ?_ ?_ | refine XRg_true ?_ ?_ | refine XRg_false ?_ ?_) <;> intro hc <;> (try simp only [bl] at hc) <;> (try (exfalso; omega))) | refine XD_w [] [] [] (fun _ => none) mixed (by decide +kernel) (sub_none _) ?_ | fail))
                refine Own.push2 (x := (⟨4, bOf ((c :: r).take 1), line⟩ : Tok)) (hown2) (by simp [go_sem, *]) und23 zr31 by31 (by simp [go_sem]) (by simp [go_sem, *]; rfl) (by simp [go_sem, *]) (by omega) (by omega) fun a1 h1 hown1 hkeep1 => ?_
                have hsb : Sub (only [b1, b2, b3] H) h1 := fun b o hb => by
                  have hb' := only_sub _ _ _ _ hb
                  refine hkeep1 b o hb' fun e => ?_
                  unfold only at hb
                  split at hb
                  · rename_i hm
                    simp only [List.mem_cons, List.not_mem_nil, or_false] at hm
                    rcases hm with rfl | rfl | rfl
                    · exact hown2.ne q1 (.inl (by omega)) e
                    · exact hown2.ne q2 (.inl (by omega)) e
                    · exact own_free hown hb3 e
                  · cases hb
                have q1' := hkeep1 b1 o1 q1 (hown2.ne q1 (.inl (by omega)))
                (repeat' (first | simp [go_sem, X_region, *] | simp (disch := omega) only [om, *] | ((first | refine XC_split ?_ ?_ | refine XG_true ?_ ?_ | refine XG_false ?_ ?_ | refine XRg_true ?_ ?_ | refine XRg_false ?_ ?_) <;> intro hc <;> (try simp only [bl] at hc) <;> (try (exfalso; omega))) | refine XD_w [] [] [] (fun _ => none) mixed (by decide +kernel) (sub_none _) ?_ | fail))
                exact ⟨(r.drop (1 - 1)).length, by simp <;> omega, hJ.out _ _ _ ⟨r.drop (1 - 1), out ++ [⟨4, bOf ((c :: r).take 1), line⟩], line, _, rfl, by simp <;> omega, hl0, by simp <;> omega, hR, by simp [go_sem, *], by simp [go_sem, *], hown1.set q1' hb1 (.inl (by omega)), upd_same _ _ _, by first | rfl | exact ht1, by first | rfl | exact c1, by first | rfl | exact c2, by simp⟩⟩
            · have hi3 : ¬ 0 ≤ i := fun e => hz (hi2.1 e)
              rw [if_neg hz, if_pos rfl] at hR
              obtain ⟨j, hj, hj2⟩ := sign_ok 45
              have hj3 : ¬ 0 ≤ j := fun e => absurd (hj2.1 e) (by decide)
              have hj' : Pure Tryd.prog 48 [S ⟨#[58, 59, 44, 40, 41]⟩, .v (.int .u8 45)] (I j) := hj
              clear hj2 hi2 hj
              (repeat' (first | simp [go_sem, X_region, *] | simp (disch := omega) only [om, *] | ((first | refine XC_split ?_ ?_ | refine XG_true ?_ ?_ | refine XG_false ?_ ?_ | refine XRg_true ?_ ?_ | refine XRg_false ?_ ?_) <;> intro hc <;> (try simp only [bl] at hc) <;> (try (exfalso; omega))) | refine XD_w [] [] [] (fun _ => none) mixed (by decide +kernel) (sub_none _) ?_ | refine Pure.call (hi) ?_ | refine ⟨_, Pure.at (hi), ?_⟩ | refine ⟨_, hi, ?_⟩ | refine PureAt.call (hi) ?_ | refine Pure.call (hj') ?_ | refine ⟨_, Pure.at (hj'), ?_⟩ | refine ⟨_, hj', ?_⟩ | refine PureAt.call (hj') ?_ | fail))
              all_goals
                subst hR
                exact Wk.tup3_1 (Wk.nil.trans (Wk.drop _ (keep_own hown ho1 hb1 (.inl (by omega)) fun c oc hc hcb => by have m2 := (ne_free hb2 hc).2; have m3 := (ne_free hb3 hc).2; simp [go_sem, *]).1)) _ _
          · rw [oneF_num c r (by simp [isLetter]; omega) hdg] at hR
            simp only [hnx, isDigit, Bool.or_eq_true, Bool.and_eq_true, decide_eq_true_eq] at hdg
            rw [if_neg (by simp)] at hR
            (repeat' (first | simp [go_sem, X_region, *] | simp (disch := omega) only [om, *] | ((first | refine XC_split ?_ ?_ | refine XG_true ?_ ?_ | refine XG_false ?_ ?_ | refine XRg_true ?_ ?_ | refine XRg_false ?_ ?_) <;> intro hc <;> (try simp only [bl] at hc) <;> (try (exfalso; omega))) | refine XD_w [] [] [] (fun _ => none) mixed (by decide +kernel) (sub_none _) ?_ | fail))
            all_goals
              refine CallK.mono (part_ok _ isNum set_num _ b2 b1 _ o1 (by rw [upd_ne _ _ hb23, upd_same]) (by rw [upd_ne _ _ n13.2, upd_ne _ _ n12.2]; exact ho1) n12.2 1 (bOf (c :: r)) ⟨rfl, rfl, by simp⟩ ⟨c1, c2, c3⟩ (by omega) (by omega)) ?_
              rintro r0 h5 ⟨rfl, on2, rfl, hty2, ⟨d1, d2, d3⟩⟩
              simp only [show (bOf (c :: r)).data.toList.drop 1 = r from rfl] at d3
              generalize hn : 1 + (r.takeWhile isNum).length = n at *
              have hex : (bOf (c :: r)).extract 0 n = bOf ((c :: r).take n) := by simpa using bOf_extract (c :: r) 0 n
              have hn1 : 1 ≤ n := by omega
              have hn2 : n ≤ r.length + 1 := by omega
              have hdr := bOf_cut c r n hn1 hn2
              (repeat' (first | simp [go_sem, X_region, *] | simp (disch := omega) only [om, *] | ((first | refine XC_split ?_ ?_ | refine XG_true ?_ ?_ | refine XG_false ?_ ?_ | refine XRg_true ?_ ?_ | refine XRg_false ?_ ?_) <;> intro hc <;> (try simp only [bl] at hc) <;> (try (exfalso; omega))) | refine XD_w [] [] [] (fun _ => none) mixed (by decide +kernel) (sub_none _) ?_ | fail))
              refine XD_abs (fun H => H b1 = some o1 ∧ (∃ o2, H b2 = some o2 ∧ Cell o2 (I n)) ∧ (∃ o3, H b3 = some o3 ∧ o3.ty = 31 ∧ o3.s = 3 ∧ o3.n = 1 ∧ o3.f 0 0 = I 3 ∧ o3.f 0 1 = S (bOf ((c :: r).take n)) ∧ o3.f 0 2 = I line) ∧ Own h H (T 5) 31 3 out.length (cellsL cT out)) ?_ ?_
              · refine ⟨by simp [go_sem, *], ⟨_, by (repeat rw [upd_ne _ _ hb23]); rw [upd_same], by first | exact d1 | rfl, by first | exact d2 | rfl, by first | exact d3 | simp⟩, ⟨_, upd_same _ _ _, ?_⟩, ?_⟩
                · exact ⟨rfl, rfl, rfl, by simp, by simp, by simp⟩
                · exact keep_own hown ho1 hb1 (.inl (by omega)) fun c oc hc hcb => by have m2 := (ne_free hb2 hc).2; have m3 := (ne_free hb3 hc).2; simp [go_sem, *]
              rintro H ⟨q1, ⟨o2, q2, ⟨p1, p2, p3⟩⟩, ⟨o3, q3, q4, q5, q6, q7, q8, q9⟩, hown2⟩
              refine XD_w [] [1, 4, 5] [] (only [b1, b2, b3] H) mixed (by decide +kernel) (only_sub _ _) ?_
              have k1 : only [b1, b2, b3] H b1 = some o1 := by rw [only_in (by simp), q1]
              have k2 : only [b1, b2, b3] H b2 = some o2 := by rw [only_in (by simp), q2]
              have k3 : only [b1, b2, b3] H b3 = some o3 := by rw [only_in (by simp), q3]
              (repeat' (first | simp [go_sem, X_region, *] | simp (disch := omega) only [om, *] | ((first | refine XC_split ?_ ?_ | refine XG_true ?_ ?_ | refine XG_false ?_ ?_ | refine XRg_true ?_ ?_ | refine XRg_false ?_ ?_) <;> intro hc <;> (try simp only [bl] at hc) <;> (try (exfalso; omega))) | refine XD_w [] [] [] (fun _ => none) mixed (by decide +kernel) (sub_none _) ?_ | fail))
              refine Own.push2 (x := (⟨3, bOf ((c :: r).take n), line⟩ : Tok)) (hown2) (by simp [go_sem, *]) und23 zr31 by31 (by simp [go_sem]) (by simp [go_sem, *]; rfl) (by simp [go_sem, *]) (by omega) (by omega) fun a1 h1 hown1 hkeep1 => ?_
              have hsb : Sub (only [b1, b2, b3] H) h1 := fun b o hb => by
                have hb' := only_sub _ _ _ _ hb
                refine hkeep1 b o hb' fun e => ?_
                unfold only at hb
                split at hb
                · rename_i hm
                  simp only [List.mem_cons, List.not_mem_nil, or_false] at hm
                  rcases hm with rfl | rfl | rfl
                  · exact hown2.ne q1 (.inl (by omega)) e
                  · exact hown2.ne q2 (.inl (by omega)) e
                  · exact own_free hown hb3 e
                · cases hb
              have q1' := hkeep1 b1 o1 q1 (hown2.ne q1 (.inl (by omega)))
              (repeat' (first | simp [go_sem, X_region, *] | simp (disch := omega) only [om, *] | ((first | refine XC_split ?_ ?_ | refine XG_true ?_ ?_ | refine XG_false ?_ ?_ | refine XRg_true ?_ ?_ | refine XRg_false ?_ ?_) <;> intro hc <;> (try simp only [bl] at hc) <;> (try (exfalso; omega))) | refine XD_w [] [] [] (fun _ => none) mixed (by decide +kernel) (sub_none _) ?_ | fail))
              exact ⟨(r.drop (n - 1)).length, by simp <;> omega, hJ.out _ _ _ ⟨r.drop (n - 1), out ++ [⟨3, bOf ((c :: r).take n), line⟩], line, _, rfl, by simp <;> omega, hl0, by simp <;> omega, hR, by simp [go_sem, *], by simp [go_sem, *], hown1.set q1' hb1 (.inl (by omega)), upd_same _ _ _, by first | rfl | exact ht1, by first | rfl | exact c1, by first | rfl | exact c2, by simp⟩⟩
        · rw [oneF_letter c r hl] at hR
          unfold isLetter at hl
          simp only [decide_eq_true_eq] at hl
          have hex : (bOf (c :: r)).extract 0 (1 + (r.takeWhile isInner).length) = bOf ((c :: r).take (1 + (r.takeWhile isInner).length)) := by simpa using bOf_extract (c :: r) 0 (1 + (r.takeWhile isInner).length)
          (repeat' (first | simp [go_sem, X_region, *] | simp (disch := omega) only [om, *] | ((first | refine XC_split ?_ ?_ | refine XG_true ?_ ?_ | refine XG_false ?_ ?_ | refine XRg_true ?_ ?_ | refine XRg_false ?_ ?_) <;> intro hc <;> (try simp only [bl] at hc) <;> (try (exfalso; omega))) | refine XD_w [] [] [] (fun _ => none) mixed (by decide +kernel) (sub_none _) ?_ | fail))
          refine CallK.mono (part_ok _ isInner set_inner _ b2 b1 _ o1 (by rw [upd_ne _ _ hb23, upd_same]) (by rw [upd_ne _ _ n13.2, upd_ne _ _ n12.2]; exact ho1) n12.2 1 (bOf (c :: r)) ⟨rfl, rfl, by simp⟩ ⟨c1, c2, c3⟩ (by omega) (by omega)) ?_
          rintro r0 h5 ⟨rfl, on2, rfl, hty2, ⟨d1, d2, d3⟩⟩
          simp only [show (bOf (c :: r)).data.toList.drop 1 = r from rfl] at d3
          generalize hn : 1 + (r.takeWhile isInner).length = n at *
          have hn1 : 1 ≤ n := by omega
          have hn2 : n ≤ r.length + 1 := by omega
          have hdr := bOf_cut c r n hn1 hn2
          have hky : (keysB.any fun k => decide (bOf ((c :: r).take n) = k)) = isKey (bOf ((c :: r).take n)) := rfl
          generalize hkey : isKey (bOf ((c :: r).take n)) = key at *
          (repeat' (first | simp [go_sem, X_region, *] | simp (disch := omega) only [om, *] | ((first | refine XC_split ?_ ?_ | refine XG_true ?_ ?_ | refine XG_false ?_ ?_ | refine XRg_true ?_ ?_ | refine XRg_false ?_ ?_) <;> intro hc <;> (try simp only [bl] at hc) <;> (try (exfalso; omega))) | refine XD_w [] [] [] (fun _ => none) mixed (by decide +kernel) (sub_none _) ?_ | refine Pure.call (reserved_ok) ?_ | refine ⟨_, Pure.at (reserved_ok), ?_⟩ | refine ⟨_, reserved_ok, ?_⟩ | refine PureAt.call (reserved_ok) ?_ | refine Pure.call (contains_ok _ keysB) ?_ | refine ⟨_, Pure.at (contains_ok _ keysB), ?_⟩ | refine ⟨_, contains_ok _ keysB, ?_⟩ | refine PureAt.call (contains_ok _ keysB) ?_ | fail))
          · simp only [show key = true from hc, if_true] at hR
            rw [if_neg (by decide)] at hR
            refine XD_abs (fun H => H b1 = some o1 ∧ (∃ o2, H b2 = some o2 ∧ Cell o2 (I n)) ∧ (∃ o3, H b3 = some o3 ∧ o3.ty = 31 ∧ o3.s = 3 ∧ o3.n = 1 ∧ o3.f 0 0 = I 2 ∧ o3.f 0 1 = S (bOf ((c :: r).take n)) ∧ o3.f 0 2 = I line) ∧ Own h H (T 5) 31 3 out.length (cellsL cT out)) ?_ ?_
            · refine ⟨by simp [go_sem, *], ⟨_, by (repeat rw [upd_ne _ _ hb23]); rw [upd_same], by first | exact d1 | rfl, by first | exact d2 | rfl, by first | exact d3 | simp⟩, ⟨_, upd_same _ _ _, ?_⟩, ?_⟩
              · exact ⟨rfl, rfl, rfl, by simp, by simp, by simp⟩
              · exact keep_own hown ho1 hb1 (.inl (by omega)) fun c oc hc hcb => by have m2 := (ne_free hb2 hc).2; have m3 := (ne_free hb3 hc).2; simp [go_sem, *]
            rintro H ⟨q1, ⟨o2, q2, ⟨p1, p2, p3⟩⟩, ⟨o3, q3, q4, q5, q6, q7, q8, q9⟩, hown2⟩
            refine XD_w [] [1, 4, 5] [] (only [b1, b2, b3] H) mixed (by decide +kernel) (only_sub _ _) ?_
            have k1 : only [b1, b2, b3] H b1 = some o1 := by rw [only_in (by simp), q1]
            have k2 : only [b1, b2, b3] H b2 = some o2 := by rw [only_in (by simp), q2]
            have k3 : only [b1, b2, b3] H b3 = some o3 := by rw [only_in (by simp), q3]
            (repeat' (first | simp [go_sem, X_region, *] | simp (disch := omega) only [om, *] | ((first | refine XC_split ?_ ?_ | refine XG_true ?_ ?_ | refine XG_false ?_ ?_ | refine XRg_true ?_ ?_ | refine XRg_false ?_ ?_) <;> intro hc <;> (try simp only [bl] at hc) <;> (try (exfalso; omega))) | refine XD_w [] [] [] (fun _ => none) mixed (by decide +kernel) (sub_none _) ?_ | fail))
            refine Own.push2 (x := (⟨2, bOf ((c :: r).take n), line⟩ : Tok)) (hown2) (by simp [go_sem, *]) und23 zr31 by31 (by simp [go_sem]) (by simp [go_sem, *]; rfl) (by simp [go_sem, *]) (by omega) (by omega) fun a1 h1 hown1 hkeep1 => ?_
            have hsb : Sub (only [b1, b2, b3] H) h1 := fun b o hb => by
              have hb' := only_sub _ _ _ _ hb
              refine hkeep1 b o hb' fun e => ?_
              unfold only at hb
              split at hb
              · rename_i hm
                simp only [List.mem_cons, List.not_mem_nil, or_false] at hm
                rcases hm with rfl | rfl | rfl
                · exact hown2.ne q1 (.inl (by omega)) e
                · exact hown2.ne q2 (.inl (by omega)) e
                · exact own_free hown hb3 e
              · cases hb
            have q1' := hkeep1 b1 o1 q1 (hown2.ne q1 (.inl (by omega)))
            (repeat' (first | simp [go_sem, X_region, *] | simp (disch := omega) only [om, *] | ((first | refine XC_split ?_ ?_ | refine XG_true ?_ ?_ | refine XG_false ?_ ?_ | refine XRg_true ?_ ?_ | refine XRg_false ?_ ?_) <;> intro hc <;> (try simp only [bl] at hc) <;> (try (exfalso; omega))) | refine XD_w [] [] [] (fun _ => none) mixed (by decide +kernel) (sub_none _) ?_ | fail))
            exact ⟨(r.drop (n - 1)).length, by simp <;> omega, hJ.out _ _ _ ⟨r.drop (n - 1), out ++ [⟨2, bOf ((c :: r).take n), line⟩], line, _, rfl, by simp <;> omega, hl0, by simp <;> omega, hR, by simp [go_sem, *], by simp [go_sem, *], hown1.set q1' hb1 (.inl (by omega)), upd_same _ _ _, by first | rfl | exact ht1, by first | rfl | exact c1, by first | rfl | exact c2, by simp⟩⟩
          · have hc' : 20 < n := by omega
            simp only [show key = false from ‹key = false›, Bool.false_eq_true, if_false, hc', if_true] at hR
            subst hR
            exact Wk.tup3_1 (Wk.nil.trans (Wk.drop _ (keep_own hown ho1 hb1 (.inl (by omega)) fun c oc hc hcb => by have m2 := (ne_free hb2 hc).2; have m3 := (ne_free hb3 hc).2; simp [go_sem, *]).1)) _ _
          · have hc' : ¬ 20 < n := by omega
            simp only [show key = false from ‹key = false›, Bool.false_eq_true, if_false, hc'] at hR
            rw [if_neg (by decide)] at hR
            refine XD_abs (fun H => H b1 = some o1 ∧ (∃ o2, H b2 = some o2 ∧ Cell o2 (I n)) ∧ (∃ o3, H b3 = some o3 ∧ o3.ty = 31 ∧ o3.s = 3 ∧ o3.n = 1 ∧ o3.f 0 0 = I 1 ∧ o3.f 0 1 = S (bOf ((c :: r).take n)) ∧ o3.f 0 2 = I line) ∧ Own h H (T 5) 31 3 out.length (cellsL cT out)) ?_ ?_
            · refine ⟨by simp [go_sem, *], ⟨_, by (repeat rw [upd_ne _ _ hb23]); rw [upd_same], by first | exact d1 | rfl, by first | exact d2 | rfl, by first | exact d3 | simp⟩, ⟨_, upd_same _ _ _, ?_⟩, ?_⟩
              · exact ⟨rfl, rfl, rfl, by simp, by simp, by simp⟩
              · exact keep_own hown ho1 hb1 (.inl (by omega)) fun c oc hc hcb => by have m2 := (ne_free hb2 hc).2; have m3 := (ne_free hb3 hc).2; simp [go_sem, *]
            rintro H ⟨q1, ⟨o2, q2, ⟨p1, p2, p3⟩⟩, ⟨o3, q3, q4, q5, q6, q7, q8, q9⟩, hown2⟩
            refine XD_w [] [1, 4, 5] [] (only [b1, b2, b3] H) mixed (by decide +kernel) (only_sub _ _) ?_
            have k1 : only [b1, b2, b3] H b1 = some o1 := by rw [only_in (by simp), q1]
            have k2 : only [b1, b2, b3] H b2 = some o2 := by rw [only_in (by simp), q2]
            have k3 : only [b1, b2, b3] H b3 = some o3 := by rw [only_in (by simp), q3]
            (repeat' (first | simp [go_sem, X_region, *] | simp (disch := omega) only [om, *] | ((first | refine XC_split ?_ ?_ | refine XG_true ?_ ?_ | refine XG_false ?_ ?_ | refine XRg_true ?_ ?_ | refine XRg_false ?_ ?_) <;> intro hc <;> (try simp only [bl] at hc) <;> (try (exfalso; omega))) | refine XD_w [] [] [] (fun _ => none) mixed (by decide +kernel) (sub_none _) ?_ | fail))
            refine Own.push2 (x := (⟨1, bOf ((c :: r).take n), line⟩ : Tok)) (hown2) (by simp [go_sem, *]) und23 zr31 by31 (by simp [go_sem]) (by simp [go_sem, *]; rfl) (by simp [go_sem, *]) (by omega) (by omega) fun a1 h1 hown1 hkeep1 => ?_
            have hsb : Sub (only [b1, b2, b3] H) h1 := fun b o hb => by
              have hb' := only_sub _ _ _ _ hb
              refine hkeep1 b o hb' fun e => ?_
              unfold only at hb
              split at hb
              · rename_i hm
                simp only [List.mem_cons, List.not_mem_nil, or_false] at hm
                rcases hm with rfl | rfl | rfl
                · exact hown2.ne q1 (.inl (by omega)) e
                · exact hown2.ne q2 (.inl (by omega)) e
                · exact own_free hown hb3 e
              · cases hb
            have q1' := hkeep1 b1 o1 q1 (hown2.ne q1 (.inl (by omega)))
            (repeat' (first | simp [go_sem, X_region, *] | simp (disch := omega) only [om, *] | ((first | refine XC_split ?_ ?_ | refine XG_true ?_ ?_ | refine XG_false ?_ ?_ | refine XRg_true ?_ ?_ | refine XRg_false ?_ ?_) <;> intro hc <;> (try simp only [bl] at hc) <;> (try (exfalso; omega))) | refine XD_w [] [] [] (fun _ => none) mixed (by decide +kernel) (sub_none _) ?_ | fail))
            exact ⟨(r.drop (n - 1)).length, by simp <;> omega, hJ.out _ _ _ ⟨r.drop (n - 1), out ++ [⟨1, bOf ((c :: r).take n), line⟩], line, _, rfl, by simp <;> omega, hl0, by simp <;> omega, hR, by simp [go_sem, *], by simp [go_sem, *], hown1.set q1' hb1 (.inl (by omega)), upd_same _ _ _, by first | rfl | exact ht1, by first | rfl | exact c1, by first | rfl | exact c2, by simp⟩⟩
end Go.Proofs.YtmalhikcdideoaaDoor

set_option linter.unusedVariables false
set_option linter.unusedSimpArgs false
namespace Go.Proofs.YtmalhikcdideoaaDoor
open Go Sl
attribute [local irreducible] XRange LpQ XR XRo XRg XRQ putQ XFv XL XW2 wQ putW X XO XOp XH XHo XW SeqQ BlkQ XOQ XHQ NrmQ XC XM XG XHM XHG XD CallK
attribute [local go_sem] beqB
theorem equal_ok (l m : List Tok) : Pure Tryd.prog 13 [encL 3 cT l, encL 3 cT m] (B (decide (l = m))) := by
  generalize hR : B (decide (l = m)) = R
  intro h; refine CallK.lens fun hlen => ?_; have hlen := (hlen _ (by simp only [List.mem_cons, true_or, or_true] : (encL 3 cT l) ∈ _)).encL; refine callK_body Tryd.func13 rfl (by rw [nt13]; simp) ?_; rw [nt13, rs13]
  by_cases hlm : l.length = m.length
  · (repeat' (first | simp [go_sem, X_region, *] | simp (disch := omega) only [om, *] | ((first | refine XC_split ?_ ?_ | refine XG_true ?_ ?_ | refine XG_false ?_ ?_ | refine XRg_true ?_ ?_ | refine XRg_false ?_ ?_) <;> intro hc <;> (try simp only [bl] at hc) <;> (try (exfalso; omega))) | refine XD_w [] [] [] (fun _ => none) mixed (by decide +kernel) (sub_none _) ?_ | (intro bk hbk; (try simp only [go_sem] at hbk))))
    refine X_lp (fun n T h' => ∃ (i : Nat) (r r2 : List Tok), n = r.length ∧ i ≤ l.length ∧ l.drop i = r ∧ m.drop i = r2 ∧ T 13 = I i ∧ B (decide (r = r2)) = R ∧ T 0 = encL 3 cT l ∧ T 1 = encL 3 cT m ∧ T 12 = I l.length ∧ h' = h) l.length ⟨0, l, m, by simp [go_sem, hR, hlm]⟩ ?_
    clear hR; rintro J hJ n T h' ⟨i, r, r2, rfl, hi, hd, hd', h8, hR, h0, h1, h7, rfl⟩
    rcases r with _ | ⟨x, r⟩
    · have hlt := drop_nil hd
      rcases r2 with _ | ⟨y, r2⟩
      · (repeat' (first | simp [go_sem, X_region, *] | simp (disch := omega) only [om, *] | ((first | refine XC_split ?_ ?_ | refine XG_true ?_ ?_ | refine XG_false ?_ ?_ | refine XRg_true ?_ ?_ | refine XRg_false ?_ ?_) <;> intro hc <;> (try simp only [bl] at hc) <;> (try (exfalso; omega))) | refine XD_w [] [] [] (fun _ => none) mixed (by decide +kernel) (sub_none _) ?_ | (intro bk hbk; (try simp only [go_sem] at hbk))))
        all_goals (subst hR; exact Wk.of_eq (by simp))
      · obtain ⟨hlt2, _⟩ := drop_cons hd'
        omega
    · obtain ⟨hlt, hx, hd2⟩ := drop_cons hd
      rcases r2 with _ | ⟨y, r2⟩
      · have hlt2 := drop_nil hd'
        omega
      · obtain ⟨hlt2, hx2, hd2'⟩ := drop_cons hd'
        by_cases he : x = y
        · (repeat' (first | simp [go_sem, X_region, *] | simp (disch := omega) only [om, *] | ((first | refine XC_split ?_ ?_ | refine XG_true ?_ ?_ | refine XG_false ?_ ?_ | refine XRg_true ?_ ?_ | refine XRg_false ?_ ?_) <;> intro hc <;> (try simp only [bl] at hc) <;> (try (exfalso; omega))) | refine XD_w [] [] [] (fun _ => none) mixed (by decide +kernel) (sub_none _) ?_ | (intro bk hbk; (try simp only [go_sem] at hbk))))
          exact ⟨_, by omega, hJ.out _ _ _ ⟨i + 1, r, r2, rfl, by omega, hd2, hd2', by simp [go_sem, *], by rw [← hR, he]; simp, by simp [go_sem, *], by simp [go_sem, *], by simp [go_sem, *], rfl⟩⟩
        · (repeat' (first | simp [go_sem, X_region, *] | simp (disch := omega) only [om, *] | ((first | refine XC_split ?_ ?_ | refine XG_true ?_ ?_ | refine XG_false ?_ ?_ | refine XRg_true ?_ ?_ | refine XRg_false ?_ ?_) <;> intro hc <;> (try simp only [bl] at hc) <;> (try (exfalso; omega))) | refine XD_w [] [] [] (fun _ => none) mixed (by decide +kernel) (sub_none _) ?_ | (intro bk hbk; (try simp only [go_sem] at hbk))))
          all_goals first
            | (subst hR; exact Wk.of_eq (by simp [he]))
            | (exfalso; apply he; obtain ⟨k1, k2, k3⟩ := hc; cases x; cases y; simp_all)
  · have hne : ¬ l = m := fun e => hlm (by rw [e])
    (repeat' (first | simp [go_sem, X_region, *] | simp (disch := omega) only [om, *] | ((first | refine XC_split ?_ ?_ | refine XG_true ?_ ?_ | refine XG_false ?_ ?_ | refine XRg_true ?_ ?_ | refine XRg_false ?_ ?_) <;> intro hc <;> (try simp only [bl] at hc) <;> (try (exfalso; omega))) | refine XD_w [] [] [] (fun _ => none) mixed (by decide +kernel) (sub_none _) ?_ | (intro bk hbk; (try simp only [go_sem] at hbk))))
    subst hR
    exact Wk.of_eq (by simp [*])
theorem begun_lines : linesF ⟨#[114, 97, 116, 101, 32, 105, 115, 32, 49, 50, 46, 53, 37, 59]⟩ = ([⟨1, ⟨#[114, 97, 116, 101]⟩, 1⟩, ⟨2, ⟨#[105, 115]⟩, 1⟩, ⟨3, ⟨#[49, 50, 46, 53, 37]⟩, 1⟩, ⟨4, ⟨#[59]⟩, 1⟩], 0, 0) := by decide +kernel
theorem begun_ok : Pure Tryd.prog 9 [] (B true) := by
  intro h; refine callK_body Tryd.func9 rfl (by rw [nt9]; simp) ?_; rw [nt9, rs9]
  have hs := scan_ok ⟨#[114, 97, 116, 101, 32, 105, 115, 32, 49, 50, 46, 53, 37, 59]⟩ (by decide)
  rw [begun_lines] at hs
  ((repeat' (first | simp [go_sem, X_region, *] | simp (disch := omega) only [om, *] | ((first | refine XC_split ?_ ?_ | refine XG_true ?_ ?_ | refine XG_false ?_ ?_ | refine XRg_true ?_ ?_ | refine XRg_false ?_ ?_) <;> intro hc <;> (try simp only [bl] at hc) <;> (try (exfalso; omega))) | refine XD_w [] [] [] (fun _ => none) mixed (by decide +kernel) (sub_none _) ?_ | refine Pure.call (hs) ?_ | refine ⟨_, Pure.at (hs), ?_⟩ | refine ⟨_, hs, ?_⟩ | refine PureAt.call (hs) ?_ | (intro bk hbk; (try simp only [go_sem] at hbk)))); all_goals (refine Wk.fin (by repeat (first | exact Sub.refl _ | refine Sub.upd (by simp [*]) ?_)) ?_; first | (simp [*]; done) | (simp only []; (repeat' (first | split | rfl | omega | (simp_all; done))); done) | (simp [*]; (repeat' (first | split | omega | (rw [Bool.eq_iff_iff]; simp; omega))); done) | (simp [*])))
theorem scans_ok (s : ByteArray) (hs : s.size ≤ 140737488355328) : Pure Tryd.prog 3 [S s] (B true) := by
  intro h; refine callK_body Tryd.func3 rfl (by rw [nt3]; simp) ?_; rw [nt3, rs3]
  ((repeat' (first | simp [go_sem, X_region, *] | simp (disch := omega) only [om, *] | ((first | refine XC_split ?_ ?_ | refine XG_true ?_ ?_ | refine XG_false ?_ ?_ | refine XRg_true ?_ ?_ | refine XRg_false ?_ ?_) <;> intro hc <;> (try simp only [bl] at hc) <;> (try (exfalso; omega))) | refine XD_w [] [] [] (fun _ => none) mixed (by decide +kernel) (sub_none _) ?_ | refine Pure.call (begun_ok) ?_ | refine ⟨_, Pure.at (begun_ok), ?_⟩ | refine ⟨_, begun_ok, ?_⟩ | refine PureAt.call (begun_ok) ?_ | refine Pure.call (scan_ok s hs) ?_ | refine ⟨_, Pure.at (scan_ok s hs), ?_⟩ | refine ⟨_, scan_ok s hs, ?_⟩ | refine PureAt.call (scan_ok s hs) ?_ | refine Pure.call (lines_ok s hs) ?_ | refine ⟨_, Pure.at (lines_ok s hs), ?_⟩ | refine ⟨_, lines_ok s hs, ?_⟩ | refine PureAt.call (lines_ok s hs) ?_ | refine Pure.call (tokens_ok s hs) ?_ | refine ⟨_, Pure.at (tokens_ok s hs), ?_⟩ | refine ⟨_, tokens_ok s hs, ?_⟩ | refine PureAt.call (tokens_ok s hs) ?_ | refine Pure.call (equal_ok (linesF s).1 (linesF s).1) ?_ | refine ⟨_, Pure.at (equal_ok (linesF s).1 (linesF s).1), ?_⟩ | refine ⟨_, equal_ok (linesF s).1 (linesF s).1, ?_⟩ | refine PureAt.call (equal_ok (linesF s).1 (linesF s).1) ?_ | (intro bk hbk; (try simp only [go_sem] at hbk)))); all_goals (refine Wk.fin (by repeat (first | exact Sub.refl _ | refine Sub.upd (by simp [*]) ?_)) ?_; first | (simp [*]; done) | (simp only []; (repeat' (first | split | rfl | omega | (simp_all; done))); done) | (simp [*]; (repeat' (first | split | omega | (rw [Bool.eq_iff_iff]; simp; omega))); done) | (simp [*])))
end Go.Proofs.YtmalhikcdideoaaDoor

set_option linter.unusedVariables false
set_option linter.unusedSimpArgs false
namespace Go.Proofs.YtmalhikcdideoaaDoor
open Go Sl
attribute [local irreducible] XRange LpQ XR XRo XRg XRQ putQ XFv XL XW2 wQ putW X XO XOp XH XHo XW SeqQ BlkQ XOQ XHQ NrmQ XC XM XG XHM XHG XD CallK
def inSet (l : List UInt8) (k : Nat) : Bool := l.any fun c => decide (c.toNat = k)
def setF (l : List UInt8) (k : Nat) : AV := if k < 256 then B (inSet l k) else .any
def bigO : Option Ob → Nat → Nat → Option AV
  | some o, i, off => if i < o.n ∧ off + 256 ≤ o.s then some (aggL (rowL 256 fun k => o.f i (off + k))) else none
  | none, _, _ => none
def bigL (h : Hp) : AV → Option AV
  | .fp m f => if 256 ≤ m then some (aggL (rowL 256 f)) else none
  | .v (.pointer (some ⟨b, off, none⟩)) => bigO (h b) 0 off
  | .pt b s i j => match h b with
    | some o => if o.s = s then bigO (h b) i j else none
    | none => none
  | _ => none
theorem big_own (h : Hp) (b i j : Nat) : ownAt h b i j 256 true = bigO (h b) i j := by
  unfold ownAt
  cases h b <;> rfl
theorem load143 (h : Hp) (x : AV) : loadA Tryd.prog h 143 x = bigL h x := by
  unfold loadA
  rw [ld143]
  unfold bigL
  dsimp only
  split <;> simp only [big_own, rowL] <;> rfl
attribute [local go_sem] bigO bigL
theorem agg_row (f g : Nat → AV) (h : ∀ k, k < 256 → f k = g k) (hg : ∀ k, ¬ k < 256 → g k = .any) : aggL (rowL 256 f) = .agg 256 g := by
  unfold aggL
  rw [rowL_length]
  congr 1
  funext j
  rw [List.getD_eq_getElem?_getD, rowL_at]
  by_cases hj : j < 256
  · simp [hj, h j hj]
  · simp [hj, hg j hj]
theorem setF_at (l : List UInt8) (c : UInt8) : setF l c.toNat = B (l.contains c) := by
  have h := UInt8.toNat_lt c
  have e : inSet l c.toNat = l.contains c := by
    rw [Bool.eq_iff_iff]
    simp [inSet, UInt8.toNat_inj]
  simp [setF, h, e]
theorem set0 (k : Nat) (h : k < 256) : (AV.v ((rep 256 (Value.bool false))[k]?.getD undef)) = setF [] k := by
  rw [rep_at]
  simp [setF, inSet, h]
theorem setF_add (l : List UInt8) (c : UInt8) (k : Nat) : setF (l ++ [c]) k = if k = c.toNat then B true else setF l k := by
  have h := UInt8.toNat_lt c
  by_cases hk : k = c.toNat
  · subst hk
    simp [setF, inSet, h]
  · have : ¬ c.toNat = k := fun e => hk e.symm
    simp [setF, inSet, hk, this]
theorem makeset_ok (s : ByteArray) (hs : s.size ≤ 1000) (ha : ∀ c ∈ s.data.toList, c.toNat < 128) : Pure Tryd.prog 91 [S s] (tup2 (.agg 256 (setF s.data.toList)) (B true)) := by
  generalize hR : s.data.toList = R
  rw [hR] at ha
  intro h; refine callK_body Tryd.func91 rfl (by rw [nt91]; simp) ?_; rw [nt91, rs91]
  (repeat' (first | simp [go_sem, X_region, *] | simp (disch := omega) only [om, *] | ((first | refine XC_split ?_ ?_ | refine XG_true ?_ ?_ | refine XG_false ?_ ?_ | refine XRg_true ?_ ?_ | refine XRg_false ?_ ?_) <;> intro hc <;> (try simp only [bl] at hc) <;> (try (exfalso; omega))) | refine XD_w [] [] [] (fun _ => none) mixed (by decide +kernel) (sub_none _) ?_ | fail))
  intro b hb
  (repeat' (first | simp [go_sem, X_region, *] | simp (disch := omega) only [om, *] | ((first | refine XC_split ?_ ?_ | refine XG_true ?_ ?_ | refine XG_false ?_ ?_ | refine XRg_true ?_ ?_ | refine XRg_false ?_ ?_) <;> intro hc <;> (try simp only [bl] at hc) <;> (try (exfalso; omega))) | refine XD_w [] [] [] (fun _ => none) mixed (by decide +kernel) (sub_none _) ?_ | fail))
  refine X_lp (fun n T h2 => ∃ (i : Nat) (pre r : List UInt8) (o : Ob), n = r.length ∧ i ≤ s.size ∧ s.data.toList.drop i = r ∧ pre ++ r = R ∧ o.ty = 143 ∧ o.s = 256 ∧ o.n = 1 ∧ (∀ k, k < 256 → o.f 0 k = setF pre k) ∧ T 0 = S s ∧ T 2 = ptr b ∧ T 4 = I i ∧ h2 = upd h b (some o)) _ ⟨0, [], R, _, rfl, by omega, by simpa using hR, rfl, rfl, rfl, rfl, set0, by simp [go_sem], by simp [go_sem], by simp [go_sem], rfl⟩ ?_
  rintro J hJ n T h2 ⟨i, pre, r, o, rfl, hi, hd, hpre, o1, o2, o3, of, t0, t2, t4, rfl⟩
  rcases r with _ | ⟨c, r⟩
  · have hlt := str_nil hd
    rw [List.append_nil] at hpre
    subst hpre
    (repeat' (first | simp [go_sem, X_region, ↓load143, *] | simp (disch := omega) only [om, *] | ((first | refine XC_split ?_ ?_ | refine XG_true ?_ ?_ | refine XG_false ?_ ?_ | refine XRg_true ?_ ?_ | refine XRg_false ?_ ?_) <;> intro hc <;> (try simp only [bl] at hc) <;> (try (exfalso; omega))) | refine XD_w [] [] [] (fun _ => none) mixed (by decide +kernel) (sub_none _) ?_ | fail))
    rw [agg_row _ (setF pre) (fun k hk => by simp [hk, of]) fun k hk => by simp [setF, hk]]
    exact Wk.drop _ (Sub.upd hb (Sub.refl _))
  · obtain ⟨hlt, hg, hd2⟩ := str_cons hd
    have hc := ha c (by rw [← hpre]; simp)
    have h256 : c.toNat < 256 := by omega
    (repeat' (first | simp [go_sem, X_region, *] | simp (disch := omega) only [om, *] | ((first | refine XC_split ?_ ?_ | refine XG_true ?_ ?_ | refine XG_false ?_ ?_ | refine XRg_true ?_ ?_ | refine XRg_false ?_ ?_) <;> intro hc <;> (try simp only [bl] at hc) <;> (try (exfalso; omega))) | refine XD_w [] [] [] (fun _ => none) mixed (by decide +kernel) (sub_none _) ?_ | fail))
    exact ⟨by omega, r.length, by omega, hJ.out _ _ _ ⟨i + 1, pre ++ [c], r, ⟨143, 256, 1, _⟩, rfl, by omega, hd2, by simpa using hpre, rfl, rfl, rfl, fun k hk => by
      rw [setF_add]
      by_cases e : k = c.toNat
      · simp [e]
      · have e2 : ¬ (c.toNat ≤ k ∧ k < c.toNat + 1) := by omega
        simp [e, e2, of k hk], by simp [go_sem, *], by simp [go_sem, *], by simp [go_sem, *], rfl⟩⟩
theorem has_ok {h : Hp} {b : Nat} {o : Ob} {l : List UInt8} (hb : h b = some o) (h1 : o.s = 256) (h2 : o.n = 1) (hf : ∀ k, k < 256 → o.f 0 k = setF l k) (c : UInt8) : PureAt Tryd.prog h 117 [ptr b, U8 c] (B (l.contains c)) := by
  have hc := UInt8.toNat_lt c
  have hs := setF_at l c
  refine callK_body Tryd.func117 rfl (by rw [nt117]; simp) ?_; rw [nt117, rs117]
  ((repeat' (first | simp [go_sem, X_region, *] | simp (disch := omega) only [om, *] | ((first | refine XC_split ?_ ?_ | refine XG_true ?_ ?_ | refine XG_false ?_ ?_ | refine XRg_true ?_ ?_ | refine XRg_false ?_ ?_) <;> intro hc <;> (try simp only [bl] at hc) <;> (try (exfalso; omega))) | refine XD_w [] [] [] (fun _ => none) mixed (by decide +kernel) (sub_none _) ?_ | (intro bk hbk; (try simp only [go_sem] at hbk)))); all_goals (refine Wk.fin (by repeat (first | exact Sub.refl _ | refine Sub.upd (by simp [*]) ?_)) ?_; first | (simp [*]; done) | (simp only []; (repeat' (first | split | rfl | omega | (simp_all; done))); done) | (simp [*]; (repeat' (first | split | omega | (rw [Bool.eq_iff_iff]; simp; omega))); done) | (simp [*])))
theorem left_ok {h : Hp} {b : Nat} {o : Ob} {l : List UInt8} (hb : h b = some o) (h1 : o.s = 256) (h2 : o.n = 1) (hf : ∀ k, k < 256 → o.f 0 k = setF l k) (s : List UInt8) (hs : s.length ≤ 1000) : PureAt Tryd.prog h 92 [S (bOf s), ptr b] (S (bOf (s.dropWhile l.contains))) := by
  generalize hR : s.dropWhile l.contains = R
  refine callK_body Tryd.func92 rfl (by rw [nt92]; simp) ?_; rw [nt92, rs92]
  (repeat' (first | simp [go_sem, X_region, *] | simp (disch := omega) only [om, *] | ((first | refine XC_split ?_ ?_ | refine XG_true ?_ ?_ | refine XG_false ?_ ?_ | refine XRg_true ?_ ?_ | refine XRg_false ?_ ?_) <;> intro hc <;> (try simp only [bl] at hc) <;> (try (exfalso; omega))) | refine XD_w [] [] [] (fun _ => none) mixed (by decide +kernel) (sub_none _) ?_ | (intro bk hbk; (try simp only [go_sem] at hbk))))
  refine X_lp (fun n T h' => ∃ (r : List UInt8), n = r.length ∧ r.length ≤ 1000 ∧ r.dropWhile l.contains = R ∧ T 0 = S (bOf r) ∧ T 1 = ptr b ∧ h' = h) _ ⟨s, rfl, hs, hR, by simp [go_sem, *]⟩ ?_
  clear hR
  rintro J hJ n T h' ⟨r, rfl, hr, hR, t0, t1, rfl⟩
  have hsz := bOf_size r
  rcases r with _ | ⟨c, r⟩
  · simp only [List.length_nil] at hsz
    (repeat' (first | simp [go_sem, X_region, *] | simp (disch := omega) only [om, *] | ((first | refine XC_split ?_ ?_ | refine XG_true ?_ ?_ | refine XG_false ?_ ?_ | refine XRg_true ?_ ?_ | refine XRg_false ?_ ?_) <;> intro hc <;> (try simp only [bl] at hc) <;> (try (exfalso; omega))) | refine XD_w [] [] [] (fun _ => none) mixed (by decide +kernel) (sub_none _) ?_ | (intro bk hbk; (try simp only [go_sem] at hbk))))
    all_goals (subst hR; exact Wk.of_eq rfl)
  · simp only [List.length_cons] at hsz hr
    have hg := gb_head c r
    have hx1 : (bOf (c :: r)).extract 1 (r.length + 1) = bOf r := bOf_from (c :: r) 1 (by simp)
    have hh := has_ok hb h1 h2 hf c
    cases hc : l.contains c
    · rw [hc] at hh
      (repeat' (first | simp [go_sem, X_region, *] | simp (disch := omega) only [om, *] | ((first | refine XC_split ?_ ?_ | refine XG_true ?_ ?_ | refine XG_false ?_ ?_ | refine XRg_true ?_ ?_ | refine XRg_false ?_ ?_) <;> intro hc <;> (try simp only [bl] at hc) <;> (try (exfalso; omega))) | refine XD_w [] [] [] (fun _ => none) mixed (by decide +kernel) (sub_none _) ?_ | refine Pure.call (hh) ?_ | refine ⟨_, Pure.at (hh), ?_⟩ | refine ⟨_, hh, ?_⟩ | refine PureAt.call (hh) ?_ | (intro bk hbk; (try simp only [go_sem] at hbk))))
      all_goals (rw [List.dropWhile_cons, hc] at hR; subst hR; exact Wk.of_eq rfl)
    · rw [hc] at hh
      (repeat' (first | simp [go_sem, X_region, *] | simp (disch := omega) only [om, *] | ((first | refine XC_split ?_ ?_ | refine XG_true ?_ ?_ | refine XG_false ?_ ?_ | refine XRg_true ?_ ?_ | refine XRg_false ?_ ?_) <;> intro hc <;> (try simp only [bl] at hc) <;> (try (exfalso; omega))) | refine XD_w [] [] [] (fun _ => none) mixed (by decide +kernel) (sub_none _) ?_ | refine Pure.call (hh) ?_ | refine ⟨_, Pure.at (hh), ?_⟩ | refine ⟨_, hh, ?_⟩ | refine PureAt.call (hh) ?_ | (intro bk hbk; (try simp only [go_sem] at hbk))))
      exact ⟨r.length, by omega, hJ.out _ _ _ ⟨r, rfl, by omega, by rw [← hR, List.dropWhile_cons, hc]; rfl, by simp [go_sem, *], by simp [go_sem, *], rfl⟩⟩
def trimR (p : UInt8 → Bool) (l : List UInt8) : List UInt8 := (l.reverse.dropWhile p).reverse
theorem trimR_in (p : UInt8 → Bool) (l : List UInt8) (c : UInt8) (h : p c = true) : trimR p (l ++ [c]) = trimR p l := by simp [trimR, h]
theorem trimR_out (p : UInt8 → Bool) (l : List UInt8) (c : UInt8) (h : p c = false) : trimR p (l ++ [c]) = l ++ [c] := by simp [trimR, h]
theorem dw_all (p : UInt8 → Bool) : ∀ l : List UInt8, (l.dropWhile p).all p = l.all p
  | [] => rfl
  | x :: t => by
    rw [List.dropWhile_cons]
    cases hx : p x
    · rfl
    · simp [hx, dw_all p t]
theorem dw_nil (p : UInt8 → Bool) : ∀ l : List UInt8, l.dropWhile p = [] ↔ l.all p = true
  | [] => by simp
  | x :: t => by
    rw [List.dropWhile_cons]
    cases hx : p x
    · simp [hx]
    · simp [hx, dw_nil p t]
theorem trim_all (p : UInt8 → Bool) (l : List UInt8) : ((trimR p l).dropWhile p = []) ↔ l.all p = true := by
  rw [dw_nil]
  unfold trimR
  rw [List.all_reverse, dw_all, List.all_reverse]
theorem gb_last (r : List UInt8) (c : UInt8) : gb (bOf (r ++ [c])) r.length = c := by simp [gb, bOf]
theorem right_ok {h : Hp} {b : Nat} {o : Ob} {l : List UInt8} (hb : h b = some o) (h1 : o.s = 256) (h2 : o.n = 1) (hf : ∀ k, k < 256 → o.f 0 k = setF l k) (s : List UInt8) (hs : s.length ≤ 1000) : PureAt Tryd.prog h 93 [S (bOf s), ptr b] (S (bOf (trimR l.contains s))) := by
  generalize hR : trimR l.contains s = R
  refine callK_body Tryd.func93 rfl (by rw [nt93]; simp) ?_; rw [nt93, rs93]
  (repeat' (first | simp [go_sem, X_region, *] | simp (disch := omega) only [om, *] | ((first | refine XC_split ?_ ?_ | refine XG_true ?_ ?_ | refine XG_false ?_ ?_ | refine XRg_true ?_ ?_ | refine XRg_false ?_ ?_) <;> intro hc <;> (try simp only [bl] at hc) <;> (try (exfalso; omega))) | refine XD_w [] [] [] (fun _ => none) mixed (by decide +kernel) (sub_none _) ?_ | (intro bk hbk; (try simp only [go_sem] at hbk))))
  refine X_lp (fun n T h' => ∃ (r : List UInt8), n = r.length ∧ r.length ≤ 1000 ∧ trimR l.contains r = R ∧ T 0 = S (bOf r) ∧ T 1 = ptr b ∧ h' = h) _ ⟨s, rfl, hs, hR, by simp [go_sem, *]⟩ ?_
  clear hR
  rintro J hJ n T h' ⟨r, rfl, hr, hR, t0, t1, rfl⟩
  have hsz := bOf_size r
  rcases List.eq_nil_or_concat r with rfl | ⟨r, c, rfl⟩
  · simp only [List.length_nil] at hsz
    (repeat' (first | simp [go_sem, X_region, *] | simp (disch := omega) only [om, *] | ((first | refine XC_split ?_ ?_ | refine XG_true ?_ ?_ | refine XG_false ?_ ?_ | refine XRg_true ?_ ?_ | refine XRg_false ?_ ?_) <;> intro hc <;> (try simp only [bl] at hc) <;> (try (exfalso; omega))) | refine XD_w [] [] [] (fun _ => none) mixed (by decide +kernel) (sub_none _) ?_ | (intro bk hbk; (try simp only [go_sem] at hbk))))
    all_goals (subst hR; exact Wk.of_eq rfl)
  · simp only [List.concat_eq_append] at *
    simp only [List.length_append, List.length_cons, List.length_nil] at hsz hr ⊢
    have hg := gb_last r c
    have hx1 : (bOf (r ++ [c])).extract 0 r.length = bOf r := by simpa using bOf_extract (r ++ [c]) 0 r.length
    have hh := has_ok hb h1 h2 hf c
    cases hc : l.contains c
    · rw [hc] at hh
      (repeat' (first | simp [go_sem, X_region, *] | simp (disch := omega) only [om, *] | ((first | refine XC_split ?_ ?_ | refine XG_true ?_ ?_ | refine XG_false ?_ ?_ | refine XRg_true ?_ ?_ | refine XRg_false ?_ ?_) <;> intro hc <;> (try simp only [bl] at hc) <;> (try (exfalso; omega))) | refine XD_w [] [] [] (fun _ => none) mixed (by decide +kernel) (sub_none _) ?_ | refine Pure.call (hh) ?_ | refine ⟨_, Pure.at (hh), ?_⟩ | refine ⟨_, hh, ?_⟩ | refine PureAt.call (hh) ?_ | (intro bk hbk; (try simp only [go_sem] at hbk))))
      all_goals (rw [trimR_out _ _ _ hc] at hR; subst hR; exact Wk.of_eq rfl)
    · rw [hc] at hh
      (repeat' (first | simp [go_sem, X_region, *] | simp (disch := omega) only [om, *] | ((first | refine XC_split ?_ ?_ | refine XG_true ?_ ?_ | refine XG_false ?_ ?_ | refine XRg_true ?_ ?_ | refine XRg_false ?_ ?_) <;> intro hc <;> (try simp only [bl] at hc) <;> (try (exfalso; omega))) | refine XD_w [] [] [] (fun _ => none) mixed (by decide +kernel) (sub_none _) ?_ | refine Pure.call (hh) ?_ | refine ⟨_, Pure.at (hh), ?_⟩ | refine ⟨_, hh, ?_⟩ | refine PureAt.call (hh) ?_ | (intro bk hbk; (try simp only [go_sem] at hbk))))
      exact ⟨r.length, by omega, hJ.out _ _ _ ⟨r, rfl, by omega, by rw [← hR, trimR_in _ _ _ hc], by simp [go_sem, *], by simp [go_sem, *], rfl⟩⟩
def innerB : ByteArray := ⟨#[97, 98, 99, 100, 101, 102, 103, 104, 105, 106, 107, 108, 109, 110, 111, 112, 113, 114, 115, 116, 117, 118, 119, 120, 121, 122, 48, 49, 50, 51, 52, 53, 54, 55, 56, 57, 45]⟩
theorem innerB_asc : ∀ c ∈ innerB.data.toList, c.toNat < 128 := by decide +kernel
theorem trim_ok (s : List UInt8) (hs : s.length ≤ 1000) : Pure Tryd.prog 56 [S (bOf s), S ⟨#[97, 98, 99, 100, 101, 102, 103, 104, 105, 106, 107, 108, 109, 110, 111, 112, 113, 114, 115, 116, 117, 118, 119, 120, 121, 122, 48, 49, 50, 51, 52, 53, 54, 55, 56, 57, 45]⟩] (S (bOf ((trimR innerB.data.toList.contains s).dropWhile innerB.data.toList.contains))) := by
  have hm : Pure Tryd.prog 91 [S ⟨#[97, 98, 99, 100, 101, 102, 103, 104, 105, 106, 107, 108, 109, 110, 111, 112, 113, 114, 115, 116, 117, 118, 119, 120, 121, 122, 48, 49, 50, 51, 52, 53, 54, 55, 56, 57, 45]⟩] (tup2 (.agg 256 (setF innerB.data.toList)) (B true)) := makeset_ok innerB (by decide) innerB_asc
  have hle : (trimR innerB.data.toList.contains s).length ≤ 1000 := by
    have := (List.dropWhile_sublist (l := s.reverse) innerB.data.toList.contains).length_le
    simp only [trimR, List.length_reverse] at this ⊢
    omega
  generalize innerB.data.toList = L at *
  intro h; refine callK_body Tryd.func56 rfl (by rw [nt56]; simp) ?_; rw [nt56, rs56]
  rcases s with _ | ⟨c, r⟩
  · have hb0 : bOf [] = ⟨#[]⟩ := rfl
    (repeat' (first | simp [go_sem, X_region, *] | simp (disch := omega) only [om, *] | ((first | refine XC_split ?_ ?_ | refine XG_true ?_ ?_ | refine XG_false ?_ ?_ | refine XRg_true ?_ ?_ | refine XRg_false ?_ ?_) <;> intro hc <;> (try simp only [bl] at hc) <;> (try (exfalso; omega))) | refine XD_w [] [] [] (fun _ => none) mixed (by decide +kernel) (sub_none _) ?_ | (intro bk hbk; (try simp only [go_sem] at hbk))))
    all_goals exact Wk.of_eq (by simp [trimR, hb0])
  · have hne := bOf_ne c r
    have hset : ∀ k, k < 256 → (fun (i' j' : Nat) => if i' = 0 ∧ j' < 256 then setF L j' else AV.any) 0 k = setF L k := fun k hk => by simp [hk]
    (repeat' (first | simp [go_sem, X_region, *] | simp (disch := omega) only [om, *] | ((first | refine XC_split ?_ ?_ | refine XG_true ?_ ?_ | refine XG_false ?_ ?_ | refine XRg_true ?_ ?_ | refine XRg_false ?_ ?_) <;> intro hc <;> (try simp only [bl] at hc) <;> (try (exfalso; omega))) | refine XD_w [] [] [] (fun _ => none) mixed (by decide +kernel) (sub_none _) ?_ | refine Pure.call (hm) ?_ | refine ⟨_, Pure.at (hm), ?_⟩ | refine ⟨_, hm, ?_⟩ | refine PureAt.call (hm) ?_ | fail))
    intro b hb
    refine PureAt.call (right_ok (b := b) (l := L) (upd_same _ _ _) rfl rfl (fun k hk => by simp [hk]) (c :: r) hs) ?_
    refine PureAt.call (left_ok (b := b) (l := L) (upd_same _ _ _) rfl rfl (fun k hk => by simp [hk]) _ hle) ?_
    exact Wk.drop _ (Sub.upd hb (Sub.refl _))
end Go.Proofs.YtmalhikcdideoaaDoor

set_option linter.unusedVariables false
set_option linter.unusedSimpArgs false
namespace Go.Proofs.YtmalhikcdideoaaDoor
open Go Sl
attribute [local irreducible] XRange LpQ XR XRo XRg XRQ putQ XFv XL XW2 wQ putW X XO XOp XH XHo XW SeqQ BlkQ XOQ XHQ NrmQ XC XM XG XHM XHG XD CallK
def nameF (s : ByteArray) : Bool := decide (0 < s.size ∧ s.size ≤ 20) && isLetter (gb s 0) && s.data.toList.all isInner && !isKey s
theorem wname_ok (s : ByteArray) (hs : s.size ≤ 140737488355328) : Pure Tryd.prog 17 [S s] (B (nameF s)) := by
  generalize hR : nameF s = R
  intro h; refine callK_body Tryd.func17 rfl (by rw [nt17]; simp) ?_; rw [nt17, rs17]
  by_cases hz : s = ⟨#[]⟩
  · subst hz
    (repeat' (first | simp [go_sem, X_region, *] | simp (disch := omega) only [om, *] | ((first | refine XC_split ?_ ?_ | refine XG_true ?_ ?_ | refine XG_false ?_ ?_ | refine XRg_true ?_ ?_ | refine XRg_false ?_ ?_) <;> intro hc <;> (try simp only [bl] at hc) <;> (try (exfalso; omega))) | refine XD_w [] [] [] (fun _ => none) mixed (by decide +kernel) (sub_none _) ?_ | fail))
    all_goals (subst hR; exact Wk.of_eq rfl)
  · have hpos : 0 < s.size := by
      rcases s with ⟨⟨l⟩⟩
      rcases l with _ | ⟨c, r⟩
      · exact absurd rfl hz
      · simp [ByteArray.size]
    by_cases hbig : 20 < s.size
    · (repeat' (first | simp [go_sem, X_region, *] | simp (disch := omega) only [om, *] | ((first | refine XC_split ?_ ?_ | refine XG_true ?_ ?_ | refine XG_false ?_ ?_ | refine XRg_true ?_ ?_ | refine XRg_false ?_ ?_) <;> intro hc <;> (try simp only [bl] at hc) <;> (try (exfalso; omega))) | refine XD_w [] [] [] (fun _ => none) mixed (by decide +kernel) (sub_none _) ?_ | fail))
      all_goals (subst hR; exact Wk.of_eq (by simp [nameF, show ¬ s.size ≤ 20 by omega]))
    · have hlt := letter_ok (gb s 0)
      cases hl : isLetter (gb s 0)
      · rw [hl] at hlt
        (repeat' (first | simp [go_sem, X_region, *] | simp (disch := omega) only [om, *] | ((first | refine XC_split ?_ ?_ | refine XG_true ?_ ?_ | refine XG_false ?_ ?_ | refine XRg_true ?_ ?_ | refine XRg_false ?_ ?_) <;> intro hc <;> (try simp only [bl] at hc) <;> (try (exfalso; omega))) | refine XD_w [] [] [] (fun _ => none) mixed (by decide +kernel) (sub_none _) ?_ | refine Pure.call (hlt) ?_ | refine ⟨_, Pure.at (hlt), ?_⟩ | refine ⟨_, hlt, ?_⟩ | refine PureAt.call (hlt) ?_ | fail))
        all_goals (subst hR; exact Wk.of_eq (by simp [nameF, hl]))
      · rw [hl] at hlt
        have hb := bs_ok keysB s (by decide)
        rw [foundB_mem _ _ keys_rising, show (keysB.any fun k => decide (s = k)) = isKey s from rfl] at hb
        have hR2 : (s.data.toList.all isInner && !isKey s) = R := by rw [← hR]; simp [nameF, hl, hpos, show s.size ≤ 20 by omega]
        clear hR
        (repeat' (first | simp [go_sem, X_region, *] | simp (disch := omega) only [om, *] | ((first | refine XC_split ?_ ?_ | refine XG_true ?_ ?_ | refine XG_false ?_ ?_ | refine XRg_true ?_ ?_ | refine XRg_false ?_ ?_) <;> intro hc <;> (try simp only [bl] at hc) <;> (try (exfalso; omega))) | refine XD_w [] [] [] (fun _ => none) mixed (by decide +kernel) (sub_none _) ?_ | refine Pure.call (hlt) ?_ | refine ⟨_, Pure.at (hlt), ?_⟩ | refine ⟨_, hlt, ?_⟩ | refine PureAt.call (hlt) ?_ | fail))
        refine X_lp (fun n T h' => ∃ (i : Nat) (r : List UInt8), n = r.length ∧ i ≤ s.size ∧ s.data.toList.drop i = r ∧ (r.all isInner && !isKey s) = R ∧ T 0 = S s ∧ T 21 = I i ∧ T 20 = I s.size ∧ h' = h) _ ⟨0, _, rfl, by omega, rfl, hR2, by simp [go_sem], by simp [go_sem], by simp [go_sem], rfl⟩ ?_
        clear hR2
        rintro J hJ n T h' ⟨i, r, rfl, hi, hd, hR, t0, t1, t2, rfl⟩
        rcases r with _ | ⟨c, r⟩
        · have hnl := str_nil hd
          (repeat' (first | simp [go_sem, X_region, *] | simp (disch := omega) only [om, *] | ((first | refine XC_split ?_ ?_ | refine XG_true ?_ ?_ | refine XG_false ?_ ?_ | refine XRg_true ?_ ?_ | refine XRg_false ?_ ?_) <;> intro hc <;> (try simp only [bl] at hc) <;> (try (exfalso; omega))) | refine XD_w [] [] [] (fun _ => none) mixed (by decide +kernel) (sub_none _) ?_ | refine Pure.call (keys_ok) ?_ | refine ⟨_, Pure.at (keys_ok), ?_⟩ | refine ⟨_, keys_ok, ?_⟩ | refine PureAt.call (keys_ok) ?_ | refine Pure.call (hb) ?_ | refine ⟨_, Pure.at (hb), ?_⟩ | refine ⟨_, hb, ?_⟩ | refine PureAt.call (hb) ?_ | fail))
          all_goals (subst hR; exact Wk.of_eq (by simp))
        · obtain ⟨hlt2, hg, hd2⟩ := str_cons hd
          have hi2 := inner_ok c
          cases hc : isInner c
          · rw [hc] at hi2
            (repeat' (first | simp [go_sem, X_region, *] | simp (disch := omega) only [om, *] | ((first | refine XC_split ?_ ?_ | refine XG_true ?_ ?_ | refine XG_false ?_ ?_ | refine XRg_true ?_ ?_ | refine XRg_false ?_ ?_) <;> intro hc <;> (try simp only [bl] at hc) <;> (try (exfalso; omega))) | refine XD_w [] [] [] (fun _ => none) mixed (by decide +kernel) (sub_none _) ?_ | refine Pure.call (hi2) ?_ | refine ⟨_, Pure.at (hi2), ?_⟩ | refine ⟨_, hi2, ?_⟩ | refine PureAt.call (hi2) ?_ | fail))
            all_goals (subst hR; exact Wk.of_eq (by simp [hc]))
          · rw [hc] at hi2
            (repeat' (first | simp [go_sem, X_region, *] | simp (disch := omega) only [om, *] | ((first | refine XC_split ?_ ?_ | refine XG_true ?_ ?_ | refine XG_false ?_ ?_ | refine XRg_true ?_ ?_ | refine XRg_false ?_ ?_) <;> intro hc <;> (try simp only [bl] at hc) <;> (try (exfalso; omega))) | refine XD_w [] [] [] (fun _ => none) mixed (by decide +kernel) (sub_none _) ?_ | refine Pure.call (hi2) ?_ | refine ⟨_, Pure.at (hi2), ?_⟩ | refine ⟨_, hi2, ?_⟩ | refine PureAt.call (hi2) ?_ | fail))
            exact ⟨r.length, by omega, hJ.out _ _ _ ⟨i + 1, r, rfl, by omega, hd2, by rw [← hR]; simp [hc], by simp [go_sem, *], by simp [go_sem, *], by simp [go_sem, *], rfl⟩⟩
theorem eqs_ok (l m : List ByteArray) : Pure Tryd.prog 15 [encL 1 cS l, encL 1 cS m] (B (decide (l = m))) := by
  generalize hR : B (decide (l = m)) = R
  intro h; refine CallK.lens fun hlen => ?_; have hlen := (hlen _ (by simp only [List.mem_cons, true_or, or_true] : (encL 1 cS l) ∈ _)).encL; refine callK_body Tryd.func15 rfl (by rw [nt15]; simp) ?_; rw [nt15, rs15]
  by_cases hlm : l.length = m.length
  · (repeat' (first | simp [go_sem, X_region, *] | simp (disch := omega) only [om, *] | ((first | refine XC_split ?_ ?_ | refine XG_true ?_ ?_ | refine XG_false ?_ ?_ | refine XRg_true ?_ ?_ | refine XRg_false ?_ ?_) <;> intro hc <;> (try simp only [bl] at hc) <;> (try (exfalso; omega))) | refine XD_w [] [] [] (fun _ => none) mixed (by decide +kernel) (sub_none _) ?_ | (intro bk hbk; (try simp only [go_sem] at hbk))))
    refine X_lp (fun n T h' => ∃ (i : Nat) (r r2 : List ByteArray), n = r.length ∧ i ≤ l.length ∧ l.drop i = r ∧ m.drop i = r2 ∧ T 13 = I i ∧ B (decide (r = r2)) = R ∧ T 0 = encL 1 cS l ∧ T 1 = encL 1 cS m ∧ T 12 = I l.length ∧ h' = h) l.length ⟨0, l, m, by simp [go_sem, hR, hlm]⟩ ?_
    clear hR; rintro J hJ n T h' ⟨i, r, r2, rfl, hi, hd, hd', h8, hR, h0, h1, h7, rfl⟩
    rcases r with _ | ⟨x, r⟩
    · have hlt := drop_nil hd
      rcases r2 with _ | ⟨y, r2⟩
      · (repeat' (first | simp [go_sem, X_region, *] | simp (disch := omega) only [om, *] | ((first | refine XC_split ?_ ?_ | refine XG_true ?_ ?_ | refine XG_false ?_ ?_ | refine XRg_true ?_ ?_ | refine XRg_false ?_ ?_) <;> intro hc <;> (try simp only [bl] at hc) <;> (try (exfalso; omega))) | refine XD_w [] [] [] (fun _ => none) mixed (by decide +kernel) (sub_none _) ?_ | (intro bk hbk; (try simp only [go_sem] at hbk))))
        all_goals (subst hR; exact Wk.of_eq (by simp))
      · obtain ⟨hlt2, _⟩ := drop_cons hd'
        omega
    · obtain ⟨hlt, hx, hd2⟩ := drop_cons hd
      rcases r2 with _ | ⟨y, r2⟩
      · have hlt2 := drop_nil hd'
        omega
      · obtain ⟨hlt2, hx2, hd2'⟩ := drop_cons hd'
        by_cases he : x = y
        · (repeat' (first | simp [go_sem, X_region, *] | simp (disch := omega) only [om, *] | ((first | refine XC_split ?_ ?_ | refine XG_true ?_ ?_ | refine XG_false ?_ ?_ | refine XRg_true ?_ ?_ | refine XRg_false ?_ ?_) <;> intro hc <;> (try simp only [bl] at hc) <;> (try (exfalso; omega))) | refine XD_w [] [] [] (fun _ => none) mixed (by decide +kernel) (sub_none _) ?_ | (intro bk hbk; (try simp only [go_sem] at hbk))))
          exact ⟨_, by omega, hJ.out _ _ _ ⟨i + 1, r, r2, rfl, by omega, hd2, hd2', by simp [go_sem, *], by rw [← hR, he]; simp, by simp [go_sem, *], by simp [go_sem, *], by simp [go_sem, *], rfl⟩⟩
        · (repeat' (first | simp [go_sem, X_region, *] | simp (disch := omega) only [om, *] | ((first | refine XC_split ?_ ?_ | refine XG_true ?_ ?_ | refine XG_false ?_ ?_ | refine XRg_true ?_ ?_ | refine XRg_false ?_ ?_) <;> intro hc <;> (try simp only [bl] at hc) <;> (try (exfalso; omega))) | refine XD_w [] [] [] (fun _ => none) mixed (by decide +kernel) (sub_none _) ?_ | (intro bk hbk; (try simp only [go_sem] at hbk))))
          all_goals (subst hR; exact Wk.of_eq (by simp [he]))
  · have hne : ¬ l = m := fun e => hlm (by rw [e])
    (repeat' (first | simp [go_sem, X_region, *] | simp (disch := omega) only [om, *] | ((first | refine XC_split ?_ ?_ | refine XG_true ?_ ?_ | refine XG_false ?_ ?_ | refine XRg_true ?_ ?_ | refine XRg_false ?_ ?_) <;> intro hc <;> (try simp only [bl] at hc) <;> (try (exfalso; omega))) | refine XD_w [] [] [] (fun _ => none) mixed (by decide +kernel) (sub_none _) ?_ | (intro bk hbk; (try simp only [go_sem] at hbk))))
    subst hR
    exact Wk.of_eq (by simp [*])
theorem rune_ok (c : UInt8) : Pure Tryd.prog 58 [.v (.int .i32 c.toNat)] (B (!isInner c)) := by
  intro h; refine callK_body Tryd.func58 rfl (by rw [nt58]; simp) ?_; rw [nt58, rs58]
  ((repeat' (first | simp [go_sem, X_region, *] | simp (disch := omega) only [om, *] | ((first | refine XC_split ?_ ?_ | refine XG_true ?_ ?_ | refine XG_false ?_ ?_ | refine XRg_true ?_ ?_ | refine XRg_false ?_ ?_) <;> intro hc <;> (try simp only [bl] at hc) <;> (try (exfalso; omega))) | refine XD_w [] [] [] (fun _ => none) mixed (by decide +kernel) (sub_none _) ?_ | (intro bk hbk; (try simp only [go_sem] at hbk)))); all_goals (refine Wk.fin (by repeat (first | exact Sub.refl _ | refine Sub.upd (by simp [*]) ?_)) ?_; first | (simp [isInner, isLetter, isDigit, *]; done) | (simp only [isInner, isLetter, isDigit]; (repeat' (first | split | rfl | omega | (simp_all; done))); done) | (simp [isInner, isLetter, isDigit, *]; (repeat' (first | split | omega | (rw [Bool.eq_iff_iff]; simp; omega))); done) | (simp [isInner, isLetter, isDigit, *])))
theorem decode_asc (s : ByteArray) (i : Nat) (c : UInt8) (h : gb s i = c) (hi : i < s.size) (hc : c.toNat < 128) : Utf8.decode s i = (c.toNat, 1) := by
  have e : s.get! i = c := by
    rw [← h]
    rcases s with ⟨⟨l⟩⟩
    simp only [ByteArray.size, List.size_toArray] at hi
    simp [ByteArray.get!, gb, hi]
  unfold Utf8.decode
  simp [e, hc]
theorem idxfn_ok (s : ByteArray) (hs : s.size ≤ 1000) (ha : ∀ c ∈ s.data.toList, isInner c = true) : Pure Tryd.prog 121 [S s, .v (.func (.func 58) #[] #[]), B true] (I (-1)) := by
  intro h; refine callK_body Tryd.func121 rfl (by rw [nt121]; simp) ?_; rw [nt121, rs121]
  (repeat' (first | simp [go_sem, X_region, *] | simp (disch := omega) only [om, *] | ((first | refine XC_split ?_ ?_ | refine XG_true ?_ ?_ | refine XG_false ?_ ?_ | refine XRg_true ?_ ?_ | refine XRg_false ?_ ?_) <;> intro hc <;> (try simp only [bl] at hc) <;> (try (exfalso; omega))) | refine XD_w [] [] [] (fun _ => none) mixed (by decide +kernel) (sub_none _) ?_ | fail))
  intro b hb
  refine X_lp (fun n T h2 => ∃ (i : Nat) (r : List UInt8), n = r.length ∧ i ≤ s.size ∧ s.data.toList.drop i = r ∧ T 1 = .v (.func (.func 58) #[] #[]) ∧ T 2 = B true ∧ T 10 = ptr b ∧ h2 = upd h b (some (sitOb s i))) _ ⟨0, _, rfl, by omega, rfl, by simp [go_sem], by simp [go_sem], by simp [go_sem], rfl⟩ ?_
  rintro J hJ n T h2 ⟨i, r, rfl, hi, hd, t1, t2, t10, rfl⟩
  rcases r with _ | ⟨c, r⟩
  · have hlt := str_nil hd
    (repeat' (first | simp [go_sem, X_region, *] | simp (disch := omega) only [om, *] | ((first | refine XC_split ?_ ?_ | refine XG_true ?_ ?_ | refine XG_false ?_ ?_ | refine XRg_true ?_ ?_ | refine XRg_false ?_ ?_) <;> intro hc <;> (try simp only [bl] at hc) <;> (try (exfalso; omega))) | refine XD_w [] [] [] (fun _ => none) mixed (by decide +kernel) (sub_none _) ?_ | fail))
    refine X_next (by simp [go_sem, *]) (upd_same _ _ _) (fun hp => absurd hp hlt) fun _ => ?_
    (repeat' (first | simp [go_sem, X_region, *] | simp (disch := omega) only [om, *] | ((first | refine XC_split ?_ ?_ | refine XG_true ?_ ?_ | refine XG_false ?_ ?_ | refine XRg_true ?_ ?_ | refine XRg_false ?_ ?_) <;> intro hc <;> (try simp only [bl] at hc) <;> (try (exfalso; omega))) | refine XD_w [] [] [] (fun _ => none) mixed (by decide +kernel) (sub_none _) ?_ | fail))
    all_goals exact Wk.drop _ (Sub.upd hb (Sub.refl _))
  · obtain ⟨hlt, hg, hd2⟩ := str_cons hd
    have hc := ha c (List.mem_of_mem_drop (by rw [hd]; simp))
    have hasc : c.toNat < 128 := by
      simp only [isInner, isLetter, isDigit, Bool.or_eq_true, decide_eq_true_eq] at hc
      omega
    have hdec := decode_asc s i c hg hlt hasc
    have hr := rune_ok c
    rw [hc] at hr
    (repeat' (first | simp [go_sem, X_region, *] | simp (disch := omega) only [om, *] | ((first | refine XC_split ?_ ?_ | refine XG_true ?_ ?_ | refine XG_false ?_ ?_ | refine XRg_true ?_ ?_ | refine XRg_false ?_ ?_) <;> intro hc <;> (try simp only [bl] at hc) <;> (try (exfalso; omega))) | refine XD_w [] [] [] (fun _ => none) mixed (by decide +kernel) (sub_none _) ?_ | fail))
    refine X_next (by simp [go_sem, *]) (upd_same _ _ _) (fun _ => ?_) fun hp => absurd hlt hp
    rw [hdec]
    (repeat' (first | simp [go_sem, X_region, *] | simp (disch := omega) only [om, *] | ((first | refine XC_split ?_ ?_ | refine XG_true ?_ ?_ | refine XG_false ?_ ?_ | refine XRg_true ?_ ?_ | refine XRg_false ?_ ?_) <;> intro hc <;> (try simp only [bl] at hc) <;> (try (exfalso; omega))) | refine XD_w [] [] [] (fun _ => none) mixed (by decide +kernel) (sub_none _) ?_ | refine Pure.call (hr) ?_ | refine ⟨_, Pure.at (hr), ?_⟩ | refine ⟨_, hr, ?_⟩ | refine PureAt.call (hr) ?_ | fail))
    exact ⟨r.length, by omega, hJ.out _ _ _ ⟨i + 1, r, rfl, by omega, hd2, by simp [go_sem, *], by simp [go_sem, *], by simp [go_sem, *], rfl⟩⟩
theorem cfn_ok (s : ByteArray) (hs : s.size ≤ 1000) (ha : ∀ c ∈ s.data.toList, isInner c = true) : Pure Tryd.prog 57 [S s, .v (.func (.func 58) #[] #[])] (B false) := by
  have h1 : Pure Tryd.prog 96 [S s, .v (.func (.func 58) #[] #[])] (I (-1)) := by
    have h0 := idxfn_ok s hs ha
    intro h; refine callK_body Tryd.func96 rfl (by rw [nt96]; simp) ?_; rw [nt96, rs96]
    ((repeat' (first | simp [go_sem, X_region, *] | simp (disch := omega) only [om, *] | ((first | refine XC_split ?_ ?_ | refine XG_true ?_ ?_ | refine XG_false ?_ ?_ | refine XRg_true ?_ ?_ | refine XRg_false ?_ ?_) <;> intro hc <;> (try simp only [bl] at hc) <;> (try (exfalso; omega))) | refine XD_w [] [] [] (fun _ => none) mixed (by decide +kernel) (sub_none _) ?_ | refine Pure.call (h0) ?_ | refine ⟨_, Pure.at (h0), ?_⟩ | refine ⟨_, h0, ?_⟩ | refine PureAt.call (h0) ?_ | (intro bk hbk; (try simp only [go_sem] at hbk)))); all_goals (refine Wk.fin (by repeat (first | exact Sub.refl _ | refine Sub.upd (by simp [*]) ?_)) ?_; first | (simp [*]; done) | (simp only []; (repeat' (first | split | rfl | omega | (simp_all; done))); done) | (simp [*]; (repeat' (first | split | omega | (rw [Bool.eq_iff_iff]; simp; omega))); done) | (simp [*])))
  intro h; refine callK_body Tryd.func57 rfl (by rw [nt57]; simp) ?_; rw [nt57, rs57]
  ((repeat' (first | simp [go_sem, X_region, *] | simp (disch := omega) only [om, *] | ((first | refine XC_split ?_ ?_ | refine XG_true ?_ ?_ | refine XG_false ?_ ?_ | refine XRg_true ?_ ?_ | refine XRg_false ?_ ?_) <;> intro hc <;> (try simp only [bl] at hc) <;> (try (exfalso; omega))) | refine XD_w [] [] [] (fun _ => none) mixed (by decide +kernel) (sub_none _) ?_ | refine Pure.call (h1) ?_ | refine ⟨_, Pure.at (h1), ?_⟩ | refine ⟨_, h1, ?_⟩ | refine PureAt.call (h1) ?_ | (intro bk hbk; (try simp only [go_sem] at hbk)))); all_goals (refine Wk.fin (by repeat (first | exact Sub.refl _ | refine Sub.upd (by simp [*]) ?_)) ?_; first | (simp [*]; done) | (simp only []; (repeat' (first | split | rfl | omega | (simp_all; done))); done) | (simp [*]; (repeat' (first | split | omega | (rw [Bool.eq_iff_iff]; simp; omega))); done) | (simp [*])))
theorem inner_in (c : UInt8) : innerB.data.toList.contains c = isInner c := set_inner c
theorem rname_ok (s : ByteArray) : Pure Tryd.prog 18 [S s] (B (nameF s)) := by
  generalize hR : nameF s = R
  intro h; refine callK_body Tryd.func18 rfl (by rw [nt18]; simp) ?_; rw [nt18, rs18]
  by_cases hz : s = ⟨#[]⟩
  · subst hz
    (repeat' (first | simp [go_sem, X_region, *] | simp (disch := omega) only [om, *] | ((first | refine XC_split ?_ ?_ | refine XG_true ?_ ?_ | refine XG_false ?_ ?_ | refine XRg_true ?_ ?_ | refine XRg_false ?_ ?_) <;> intro hc <;> (try simp only [bl] at hc) <;> (try (exfalso; omega))) | refine XD_w [] [] [] (fun _ => none) mixed (by decide +kernel) (sub_none _) ?_ | fail))
    all_goals (subst hR; exact Wk.of_eq rfl)
  · have hpos : 0 < s.size := by
      rcases s with ⟨⟨l⟩⟩
      rcases l with _ | ⟨c, r⟩
      · exact absurd rfl hz
      · simp [ByteArray.size]
    by_cases hbig : 20 < s.size
    · (repeat' (first | simp [go_sem, X_region, *] | simp (disch := omega) only [om, *] | ((first | refine XC_split ?_ ?_ | refine XG_true ?_ ?_ | refine XG_false ?_ ?_ | refine XRg_true ?_ ?_ | refine XRg_false ?_ ?_) <;> intro hc <;> (try simp only [bl] at hc) <;> (try (exfalso; omega))) | refine XD_w [] [] [] (fun _ => none) mixed (by decide +kernel) (sub_none _) ?_ | fail))
      all_goals (subst hR; exact Wk.of_eq (by simp [nameF, show ¬ s.size ≤ 20 by omega]))
    · cases hl : isLetter (gb s 0)
      · have hl2 := hl
        simp only [isLetter, decide_eq_false_iff_not] at hl2
        (repeat' (first | simp [go_sem, X_region, *] | simp (disch := omega) only [om, *] | ((first | refine XC_split ?_ ?_ | refine XG_true ?_ ?_ | refine XG_false ?_ ?_ | refine XRg_true ?_ ?_ | refine XRg_false ?_ ?_) <;> intro hc <;> (try simp only [bl] at hc) <;> (try (exfalso; omega))) | refine XD_w [] [] [] (fun _ => none) mixed (by decide +kernel) (sub_none _) ?_ | fail))
        all_goals (subst hR; exact Wk.of_eq (by simp [nameF, hl]))
      · have hl2 := hl
        simp only [isLetter, decide_eq_true_eq] at hl2
        have hR2 : (s.data.toList.all isInner && !isKey s) = R := by rw [← hR]; simp [nameF, hl, hpos, show s.size ≤ 20 by omega]
        have hky : (keysB.any fun k => decide (s = k)) = isKey s := rfl
        have ht : Pure Tryd.prog 56 [S s, S ⟨#[97, 98, 99, 100, 101, 102, 103, 104, 105, 106, 107, 108, 109, 110, 111, 112, 113, 114, 115, 116, 117, 118, 119, 120, 121, 122, 48, 49, 50, 51, 52, 53, 54, 55, 56, 57, 45]⟩] (S (bOf ((trimR innerB.data.toList.contains s.data.toList).dropWhile innerB.data.toList.contains))) := by
          have := trim_ok s.data.toList (by simp; omega)
          rwa [show bOf s.data.toList = s from rfl] at this
        have hta := trim_all innerB.data.toList.contains s.data.toList
        rw [show (innerB.data.toList.contains : UInt8 → Bool) = isInner from funext inner_in] at hta ht
        generalize (trimR isInner s.data.toList).dropWhile isInner = tr at hta ht
        cases hall : s.data.toList.all isInner
        · have hne : ¬ bOf tr = ⟨#[]⟩ := fun e => by
            have : tr = [] := by
              rcases tr with _ | ⟨c, r⟩
              · rfl
              · exact absurd e (bOf_ne c r)
            rw [hta.1 this] at hall
            cases hall
          rw [hall] at hR2
          (repeat' (first | simp [go_sem, X_region, *] | simp (disch := omega) only [om, *] | ((first | refine XC_split ?_ ?_ | refine XG_true ?_ ?_ | refine XG_false ?_ ?_ | refine XRg_true ?_ ?_ | refine XRg_false ?_ ?_) <;> intro hc <;> (try simp only [bl] at hc) <;> (try (exfalso; omega))) | refine XD_w [] [] [] (fun _ => none) mixed (by decide +kernel) (sub_none _) ?_ | refine Pure.call (ht) ?_ | refine ⟨_, Pure.at (ht), ?_⟩ | refine ⟨_, ht, ?_⟩ | refine PureAt.call (ht) ?_ | fail))
          all_goals (subst hR2; exact Wk.of_eq rfl)
        · have he : bOf tr = ⟨#[]⟩ := by rw [hta.2 hall]; rfl
          have hcf := cfn_ok s (by omega) (fun c hc => List.all_eq_true.1 hall c hc)
          rw [hall] at hR2
          rw [he] at ht
          (repeat' (first | simp [go_sem, X_region, *] | simp (disch := omega) only [om, *] | ((first | refine XC_split ?_ ?_ | refine XG_true ?_ ?_ | refine XG_false ?_ ?_ | refine XRg_true ?_ ?_ | refine XRg_false ?_ ?_) <;> intro hc <;> (try simp only [bl] at hc) <;> (try (exfalso; omega))) | refine XD_w [] [] [] (fun _ => none) mixed (by decide +kernel) (sub_none _) ?_ | refine Pure.call (ht) ?_ | refine ⟨_, Pure.at (ht), ?_⟩ | refine ⟨_, ht, ?_⟩ | refine PureAt.call (ht) ?_ | refine Pure.call (hcf) ?_ | refine ⟨_, Pure.at (hcf), ?_⟩ | refine ⟨_, hcf, ?_⟩ | refine PureAt.call (hcf) ?_ | refine Pure.call (reserved_ok) ?_ | refine ⟨_, Pure.at (reserved_ok), ?_⟩ | refine ⟨_, reserved_ok, ?_⟩ | refine PureAt.call (reserved_ok) ?_ | refine Pure.call (contains_ok s keysB) ?_ | refine ⟨_, Pure.at (contains_ok s keysB), ?_⟩ | refine ⟨_, contains_ok s keysB, ?_⟩ | refine PureAt.call (contains_ok s keysB) ?_ | fail))
          all_goals (subst hR2; exact Wk.of_eq (by simp))
theorem keyText_fields : Pure Tryd.prog 14 [S keyText] (encL 1 cS keysB) := by
  have hf := fields_ok keyText (by decide +kernel) keyText_asc
  rwa [keyText_fw] at hf
set_option maxRecDepth 100000 in
theorem names_ok (s : ByteArray) (hs : s.size ≤ 140737488355328) : Pure Tryd.prog 4 [S s] (B true) := by
  have hf := keyText_fields
  unfold keyText at hf
  intro h; refine callK_body Tryd.func4 rfl (by rw [nt4]; simp) ?_; rw [nt4, rs4]
  ((repeat' (first | simp [go_sem, X_region, *] | simp (disch := omega) only [om, *] | ((first | refine XC_split ?_ ?_ | refine XG_true ?_ ?_ | refine XG_false ?_ ?_ | refine XRg_true ?_ ?_ | refine XRg_false ?_ ?_) <;> intro hc <;> (try simp only [bl] at hc) <;> (try (exfalso; omega))) | refine XD_w [] [] [] (fun _ => none) mixed (by decide +kernel) (sub_none _) ?_ | refine Pure.call (hf) ?_ | refine ⟨_, Pure.at (hf), ?_⟩ | refine ⟨_, hf, ?_⟩ | refine PureAt.call (hf) ?_ | refine Pure.call (begun_ok) ?_ | refine ⟨_, Pure.at (begun_ok), ?_⟩ | refine ⟨_, begun_ok, ?_⟩ | refine PureAt.call (begun_ok) ?_ | refine Pure.call (keys_ok) ?_ | refine ⟨_, Pure.at (keys_ok), ?_⟩ | refine ⟨_, keys_ok, ?_⟩ | refine PureAt.call (keys_ok) ?_ | refine Pure.call (eqs_ok keysB keysB) ?_ | refine ⟨_, Pure.at (eqs_ok keysB keysB), ?_⟩ | refine ⟨_, eqs_ok keysB keysB, ?_⟩ | refine PureAt.call (eqs_ok keysB keysB) ?_ | refine Pure.call (wname_ok s hs) ?_ | refine ⟨_, Pure.at (wname_ok s hs), ?_⟩ | refine ⟨_, wname_ok s hs, ?_⟩ | refine PureAt.call (wname_ok s hs) ?_ | refine Pure.call (rname_ok s) ?_ | refine ⟨_, Pure.at (rname_ok s), ?_⟩ | refine ⟨_, rname_ok s, ?_⟩ | refine PureAt.call (rname_ok s) ?_ | (intro bk hbk; (try simp only [go_sem] at hbk)))); all_goals (refine Wk.fin (by repeat (first | exact Sub.refl _ | refine Sub.upd (by simp [*]) ?_)) ?_; first | (simp [*]; done) | (simp only []; (repeat' (first | split | rfl | omega | (simp_all; done))); done) | (simp [*]; (repeat' (first | split | omega | (rw [Bool.eq_iff_iff]; simp; omega))); done) | (simp [*])))
end Go.Proofs.YtmalhikcdideoaaDoor

set_option linter.unusedVariables false
set_option linter.unusedSimpArgs false
namespace Go.Proofs.YtmalhikcdideoaaDoor
open Go Sl
attribute [local irreducible] XRange LpQ XR XRo XRg XRQ putQ XFv XL XW2 wQ putW X XO XOp XH XHo XW SeqQ BlkQ XOQ XHQ NrmQ XC XM XG XHM XHG XD CallK
open Go.RowKit
theorem nmok (s : ByteArray) (hs : s.size ≤ 140737488355328) (op : Int) : namedB op = true → Pure Tryd.prog 17 [S s] (B (nameF s)) := fun _ => wname_ok s hs
def lit1 : Nd := ⟨0, [], 5, 1, ⟨#[]⟩⟩
theorem one_begun : Pure Tryd.prog 59 [] (encL 5 cNd [lit1]) := by
  intro h; refine callK_body Tryd.func59 rfl (by rw [nt59]; simp) ?_; rw [nt59, rs59]
  (repeat' (first | simp [go_sem, X_region, *] | simp (disch := omega) only [om, *] | ((first | refine XC_split ?_ ?_ | refine XG_true ?_ ?_ | refine XG_false ?_ ?_ | refine XRg_true ?_ ?_ | refine XRg_false ?_ ?_) <;> intro hc <;> (try simp only [bl] at hc) <;> (try (exfalso; omega))) | refine XD_w [] [] [] (fun _ => none) mixed (by decide +kernel) (sub_none _) ?_ | fail))
  intro b hb
  (repeat' (first | simp [go_sem, X_region, *] | simp (disch := omega) only [om, *] | ((first | refine XC_split ?_ ?_ | refine XG_true ?_ ?_ | refine XG_false ?_ ?_ | refine XRg_true ?_ ?_ | refine XRg_false ?_ ?_) <;> intro hc <;> (try simp only [bl] at hc) <;> (try (exfalso; omega))) | refine XD_w [] [] [] (fun _ => none) mixed (by decide +kernel) (sub_none _) ?_ | fail))
  refine (Wk.row (upd_same _ _ _) (Sub.upd hb (Sub.refl _)) hb rfl (Nat.le_refl _) (by decide)).trans (Wk.slMap (Sub.refl _) fun i hi j hj => ?_)
  have hi : i < 1 := hi
  have hj : j < 5 := hj
  obtain rfl : i = 0 := by omega
  rcases (show j = 0 ∨ j = 1 ∨ j = 2 ∨ j = 3 ∨ j = 4 by omega) with rfl | rfl | rfl | rfl | rfl
  · exact Wk.refl _ _
  · exact Wk.nil
  · exact Wk.refl _ _
  · exact Wk.refl _ _
  · exact Wk.refl _ _
theorem oneE_kids {nameB : ByteArray → Bool} {x : Nd} {i : Nat} (h : oneE nameB x i = 0) : x.kids.length ≤ 3 ∧ ∀ k ∈ x.kids, 0 ≤ k ∧ k < i := by
  obtain ⟨h1, _, _, h4, _⟩ := oneE_all h
  have := ar_le x.op
  exact ⟨by omega, h4⟩
/-- tree.Check, whatever the expression. -/
theorem tcheck_ok (e : List Nd) (hn : ∀ x ∈ e, x.nm.size ≤ 140737488355328) : Pure Tryd.prog 41 [encL 5 cNd e] (I (chkE (oneE nameF) e)) :=
  tchk_ok (oneE nameF) e (fun i x hx _ => tone_ok nameF x (nmok x.nm (hn x (List.mem_of_getElem? hx)) x.op) i) fun i x hx h => oneE_kids h
theorem rerr_ok (e : List Nd) : Pure Tryd.prog 20 [encL 5 cNd e] (I (treeE (oneE nameF) e)) :=
  treeErr_ok (oneE nameF) e (fun i x hx _ => nodeErr_ok nameF x (fun _ => rname_ok x.nm) i) fun i x hx h => (oneE_kids h).1
theorem valid_facts {e : List Nd} (h : treeE (oneE nameF) e = 0) : e.length ≤ 100 ∧ e ≠ [] ∧ ∀ (i : Nat) (x : Nd), e[i]? = some x → (∀ k ∈ x.kids, 0 ≤ k ∧ k < i) ∧ (x.kids.length : Int) = ar x.op ∧ 0 ≤ x.op ∧ x.op ≤ 18 := by
  obtain ⟨h1, h2, h3⟩ := treeE_ok _ e h
  refine ⟨h1, h2, fun i x hx => ?_⟩
  obtain ⟨f1, f2, f3, f4, _⟩ := oneE_all (h3 i x hx)
  exact ⟨f4, f1, f2, f3⟩
theorem tree_chk (e : List Nd) : treeE (oneE nameF) e = chkE (oneE nameF) e := tree_check _ e fun i x _ h => (oneE_all h).2.2.2.1
end Go.Proofs.YtmalhikcdideoaaDoor
