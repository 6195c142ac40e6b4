/- The semantic layer, sixth part: slice literals and append; the soundness of operations, regions and code; a call by its body. -/
import Derived.Test.YtmalhikcdideoaaGreatDoorSlE
import Derived.Great.BuildSlice
set_option linter.unusedVariables false
set_option linter.unusedSimpArgs false
namespace Go.Proofs.YtmalhikcdideoaaGreatDoor.Sl
open Go Go.RowKit

section
variable {P : Program} {N : Nat} {w0 : World} {h0 : Hp} {T : Nat → AV} {h : Hp} {a : Act} {w : World}
variable {K : (Nat → AV) → Hp → Prop} {next : Act → World → Prop} {Q : Exit → Act → World → Prop}

theorem fill_parts (r : Rel w0 h0 N T h a w) (s : Nat) (hs : 0 < s) : ∀ (parts : List (Nat × Operand)) (k : Nat) (l : List (Nat → AV)) (cs : Array Value), partsA T s k parts = some l → (k + parts.length) * s ≤ cs.size →
    ∃ cs', Instr.fill (fun i => some (i * s, s)) cs (parts.map fun p => (p.1, a.eval p.2)) = some cs' ∧ cs'.size = cs.size ∧ l.length = parts.length ∧
      (∀ p, p < k * s → cs'[p]? = cs[p]?) ∧ ∀ i, i < l.length → ∀ j, j < s → ∃ x, cs'[(k + i) * s + j]? = some x ∧ x.oneCell' = true ∧ Rd w h ((l.getD i (fun _ => .any)) j) x := by
  intro parts
  induction parts with
  | nil => intro k l cs hb _; simp only [partsA, Option.some.injEq] at hb; subst hb; exact ⟨cs, rfl, rfl, rfl, fun _ _ => rfl, fun i hi => absurd hi (by simp)⟩
  | cons p parts ih =>
    obtain ⟨i, x⟩ := p
    intro k l cs hb hsz
    unfold partsA at hb
    split at hb
    · rename_i n f l' hcx hl'
      split at hb
      · rename_i hcond
        obtain ⟨rfl, rfl⟩ := hcond
        simp only [Option.some.injEq] at hb; subst hb
        obtain ⟨hz, hcells⟩ := cellsA_rd hcx (r.ev x)
        simp only [List.length_cons] at hsz
        have hle : i * n + n ≤ cs.size := by
          have h1 : (i + 1) * n ≤ (i + (parts.length + 1)) * n := Nat.mul_le_mul_right _ (by omega)
          rw [Nat.add_mul, Nat.one_mul] at h1
          omega
        obtain ⟨g1, g2⟩ := put_cells0 (i * n) (a.eval x).cells cs (by omega)
        obtain ⟨cs', k1, k2, k3, k4, k5⟩ := ih (i + 1) l' _ hl' (by rw [g1]; rw [show i + 1 + parts.length = i + (parts.length + 1) by omega]; exact hsz)
        refine ⟨cs', ?_, k2.trans g1, by simp [k3], fun p hp => ?_, fun q hq j hj => ?_⟩
        · simp only [List.map_cons, Instr.fill, hz]
          simp only [ne_eq, not_true_eq_false, decide_false, Bool.false_or, decide_eq_true_eq, gt_iff_lt]
          rw [if_neg (by omega)]
          exact k1
        · rw [k4 p (by rw [Nat.add_mul, Nat.one_mul]; omega), g2 p, if_neg (by omega)]
        · cases q with
          | zero =>
            obtain ⟨y, hy, hy1, hyr⟩ := hcells j hj
            refine ⟨y, ?_, hy1, hyr⟩
            rw [Nat.add_zero, k4 _ (by rw [Nat.add_mul, Nat.one_mul]; omega), g2 _, if_pos (by omega)]
            rw [show i * n + j - i * n = j by omega]
            exact hy
          | succ q =>
            have := k5 q (by simpa using hq) j hj
            rw [show i + (q + 1) = i + 1 + q by omega]
            simpa using this
      · cases hb
    · cases hb
theorem partsA_length {s : Nat} : ∀ (ps : List (Nat × Operand)) (k : Nat) (l : List (Nat → AV)), partsA T s k ps = some l → l.length = ps.length := by
  intro ps
  induction ps with
  | nil => intro k l hl; simp only [partsA, Option.some.injEq] at hl; subst hl; rfl
  | cons p ps ih =>
    intro k l hl
    unfold partsA at hl
    split at hl
    · split at hl
      · rename_i l' _ hl' _
        simp only [Option.some.injEq] at hl; subst hl
        simp [ih _ _ hl']
      · cases hl
    · cases hl
theorem buildSlice0_sound {o : Oper} {t e : TypeId} {parts : Array (Nat × Operand)} (ho : o.op = .buildSlice t 0 parts) (hd : dOk N o.dst = true) (hu : P.underlying t = some (.slice e)) {s : Nat} {z : List Value} (hz : zeroA P e = some (s, z))
    {l : List (Nat → AV)} (hl : partsA T s 0 parts.toList = some l) (hlen : l.length = 0) (hk : K (putD T o.dst .e0) h)
    (r : Rel w0 h0 N T h a w) (hn : ∀ T' h' a' w', K T' h' → Rel w0 h0 N T' h' a' w' → next a' w') : o.wp P a w next Q := by
  have hpl : parts = #[] := by
    have := partsA_length _ _ _ hl
    rw [hlen] at this
    rw [← Array.toList_inj]
    simpa using List.eq_nil_of_length_eq_zero this.symm
  subst hpl
  unfold zeroA at hz
  split at hz
  · rename_i ie hie
    have hrun : (execOp a.eval o).run P w = .ok (.value (.slice (some ⟨w.heap.size, 0, none⟩) 0 0)) (w.alloc (.cells #[] e)) := by
      unfold execOp
      simp [ho, Instr.buildSlice, run_underlying hu, sizeOf, typeInfo, hie, Instr.fill, newRow]
      have e0 : (Array.range 0 : Array Nat) = #[] := Array.ext' (by simp)
      rw [e0]; simp
    unfold Oper.wp
    rw [hrun]
    have hsz : w.heap.size ≤ (w.alloc (.cells #[] e)).heap.size := by simp
    have hold : ∀ b, b < w.heap.size → (w.alloc (.cells #[] e)).heap[b]? = w.heap[b]? := fun b hb => heap_alloc_old w _ hb
    exact hn _ _ _ _ hk (r.putD hd ⟨_, rfl⟩ (Stp.grow r.heap hsz hold) (r.heap.grow hsz hold) ⟨rfl, rfl, rfl⟩)
  · cases hz
theorem buildSlice_sound {o : Oper} {t e : TypeId} {len : Nat} {parts : Array (Nat × Operand)} (ho : o.op = .buildSlice t len parts) (hd : dOk N o.dst = true) (hu : P.underlying t = some (.slice e)) {s : Nat} {z : List Value} (hz : zeroA P e = some (s, z))
    {l : List (Nat → AV)} (hl : partsA T s 0 parts.toList = some l) (hlen : l.length = len) (h0' : 0 < len) (hsm : len * s ≤ 16777216)
    (hk : ∀ b, h b = none → K (putD T o.dst (.row b s 0 len)) (upd h b (some ⟨e, s, len, fun i j => (l.getD i (fun _ => .any)) j⟩)))
    (r : Rel w0 h0 N T h a w) (hn : ∀ T' h' a' w', K T' h' → Rel w0 h0 N T' h' a' w' → next a' w') : o.wp P a w next Q := by
  obtain ⟨v, hv, hc, hzl, hpos, h1⟩ := zeroA_run hz
  have hpl : parts.toList.length = len := by
    have : ∀ (ps : List (Nat × Operand)) (k : Nat) (l : List (Nat → AV)), partsA T s k ps = some l → l.length = ps.length := by
      intro ps
      induction ps with
      | nil => intro k l hl; simp only [partsA, Option.some.injEq] at hl; subst hl; rfl
      | cons p ps ih =>
        intro k l hl
        unfold partsA at hl
        split at hl
        · split at hl
          · rename_i l' _ hl' _
            simp only [Option.some.injEq] at hl; subst hl
            simp [ih _ _ hl']
          · cases hl
        · cases hl
    rw [← this _ _ _ hl, hlen]
  unfold zeroA at hz
  split at hz
  · rename_i ie hie
    split at hz
    · rename_i zv hzv
      split at hz
      · rename_i hcond
        simp only [Option.some.injEq, Prod.mk.injEq] at hz
        obtain ⟨rfl, hz2⟩ := hz
        have hvz : v = zv := by
          have h2 := hv w
          simp [zeroValue, typeInfo, hie, hzv] at h2
          exact h2.symm
        obtain ⟨cs', k1, k2, k3, k4, k5⟩ := fill_parts r ie.size hpos parts.toList 0 l ((Array.range (len * ie.size)).map (zv.cells[· % zv.cells.size]!)) hl (by simp [hpl])
        have hrun : (execOp a.eval o).run P w = .ok (.value (.slice (some ⟨w.heap.size, 0, none⟩) len len)) (w.alloc (.cells cs' e)) := by
          unfold execOp
          have hne : ¬ len * ie.size = 0 := by
            have : 0 < len * ie.size := Nat.mul_pos h0' hpos
            omega
          have := run_buildSlice (P := P) w t e len (parts.map fun (i, x) => (i, a.eval x)) cs' ie zv hu hie hzv (by omega) hne (by rw [Array.toList_map]; exact k1)
          simp [ho, this]
        unfold Oper.wp
        rw [hrun]
        have hsz : cs'.size = len * ie.size := by rw [k2]; simp
        have st := stp_alloc r.heap (.cells cs' e) ⟨e, ie.size, len, fun i j => (l.getD i (fun _ => .any)) j⟩
        refine hn _ _ _ _ (hk w.heap.size (hp_fresh r.heap)) (new_block r hd (o := ⟨e, ie.size, len, fun i j => (l.getD i (fun _ => .any)) j⟩) (by simp only; omega) hpos (fun i hi j hj => ?_) ?_)
        · simp only at hi hj ⊢
          have := k5 i (by omega) j hj
          simpa using this
        · refine ⟨len, by simp, Nat.le_refl _, by simp, ?_, fun o' ho' => ?_⟩
          · have : len ≤ len * ie.size := Nat.le_mul_of_pos_right _ hpos
            omega
          · rw [upd_same] at ho'
            simp only [Option.some.injEq] at ho'; subst ho'
            exact ⟨cs', (0, 0), heap_alloc_new w _, by simp [hsz]⟩
      · cases hz
    · cases hz
  · cases hz

/-- What is appended lies there. -/
theorem src_reads (hh : RelH w h) {s : Nat} (hs : 0 < s) {x : AV} {m : Nat} {g : Nat → Nat → AV} (hx : srcA h s x = some (m, g)) {u : Value} (hr : Rd w h x u) :
    ∃ A c, u = .slice A m c ∧ m ≤ c ∧ (0 < m → ∃ ad, A = some ad ∧ ∃ news : List Value, news.length = m * s ∧ (∀ (j : Nat) y, news[j]? = some y → w.cell? (ad.add j) = some y) ∧ (∀ y ∈ news, y.oneCell' = true) ∧
      ∀ i, i < m → ∀ j, j < s → ∃ y, news[i * s + j]? = some y ∧ Rd w h (g i j) y) := by
  have build : ∀ (b off : Nat) (g : Nat → Nat → AV), (∀ i, i < m → ∀ j, j < s → ∃ y, w.cell? ⟨b, off + (i * s + j), none⟩ = some y ∧ y.oneCell' = true ∧ Rd w h (g i j) y) →
      ∃ news : List Value, news.length = m * s ∧ (∀ (j : Nat) y, news[j]? = some y → w.cell? ((⟨b, off, none⟩ : Addr).add j) = some y) ∧ (∀ y ∈ news, y.oneCell' = true) ∧
      ∀ i, i < m → ∀ j, j < s → ∃ y, news[i * s + j]? = some y ∧ Rd w h (g i j) y := by
    intro b off g hg
    have hflat : ∀ p, p < m * s → ∃ y, w.cell? ⟨b, off + p, none⟩ = some y ∧ y.oneCell' = true ∧ Rd w h (g (p / s) (p % s)) y := fun p hp => by
      have h1 : p / s < m := Nat.div_lt_of_lt_mul (by rw [Nat.mul_comm]; exact hp)
      have h2 : p % s < s := Nat.mod_lt _ hs
      have h3 : p / s * s + p % s = p := by rw [Nat.mul_comm]; exact Nat.div_add_mod p s
      have := hg _ h1 _ h2
      rw [h3] at this
      exact this
    obtain ⟨cs, h1, h2, h3⟩ := cells_list (w := w) (h := h) (b := b) (off := off) (n := m * s) (f := fun p => g (p / s) (p % s)) hflat
    refine ⟨cs.toList, by simpa using h1, fun j y hy => by rw [Addr.add_mid]; exact h2 j y hy, fun y hy => ?_, fun i hi j hj => ?_⟩
    · obtain ⟨j, hj, rfl⟩ := List.mem_iff_getElem.1 hy
      obtain ⟨x, hx, hx1, _⟩ := h3 j (by rw [← h1]; simpa using hj)
      have e : cs[j]? = some cs.toList[j] := by simp [Array.getElem?_eq_getElem (show j < cs.size by simpa using hj)]
      rw [e] at hx
      simp only [Option.some.injEq] at hx
      rw [hx]; exact hx1
    · have hlt : i * s + j < m * s := by
        have h1 : (i + 1) * s ≤ m * s := Nat.mul_le_mul_right _ hi
        rw [Nat.add_mul, Nat.one_mul] at h1
        omega
      obtain ⟨x, hx, hx1, hxr⟩ := h3 (i * s + j) hlt
      have e1 : (i * s + j) / s = i := by rw [Nat.mul_comm, Nat.mul_add_div hs, Nat.div_eq_of_lt hj, Nat.add_zero]
      have e2 : (i * s + j) % s = j := by rw [Nat.mul_comm, Nat.mul_add_mod, Nat.mod_eq_of_lt hj]
      simp only [e1, e2] at hxr
      exact ⟨x, by simpa using hx, hxr⟩
  unfold srcA at hx
  split at hx
  · rename_i s' n f
    split at hx
    · rename_i hss
      subst hss
      simp only [Option.some.injEq, Prod.mk.injEq] at hx
      obtain ⟨rfl, rfl⟩ := hx
      obtain ⟨A, c, rfl, hc, _, hcell⟩ := hr
      refine ⟨A, c, rfl, hc, fun hm => ?_⟩
      obtain ⟨b, off, rfl, _, _, hcell⟩ := hcell hm
      exact ⟨_, rfl, build b off f hcell⟩
    · cases hx
  · rename_i b s' off n
    split at hx
    · rename_i o ho
      split at hx
      · rename_i hss
        obtain ⟨rfl, rfl, hle⟩ := hss
        simp only [Option.some.injEq, Prod.mk.injEq] at hx
        obtain ⟨rfl, rfl⟩ := hx
        obtain ⟨cap, rfl, hc, _⟩ := hr
        refine ⟨_, cap, rfl, hc, fun hm => ⟨_, rfl, build b (off * o.s) _ fun i hi j hj => ?_⟩⟩
        have := own_cells hh ho (i := off + i) (j := j) (n := 1) (by omega) (by omega) 0 (by omega)
        simp only [Nat.add_zero] at this
        rw [show off * o.s + (i * o.s + j) = (off + i) * o.s + j by rw [Nat.add_mul]; omega]
        exact this
      · cases hx
    · cases hx
  · simp only [Option.some.injEq, Prod.mk.injEq] at hx
    obtain ⟨rfl, rfl⟩ := hx
    have hr' : u = _ := hr
    exact ⟨none, 0, hr', Nat.le_refl _, fun hm => absurd hm (by omega)⟩
  · simp only [Option.some.injEq, Prod.mk.injEq] at hx
    obtain ⟨rfl, rfl⟩ := hx
    obtain ⟨A, hr⟩ := hr
    exact ⟨A, 0, hr, Nat.le_refl _, fun hm => absurd hm (by omega)⟩
  · cases hx
end
end Go.Proofs.YtmalhikcdideoaaGreatDoor.Sl
