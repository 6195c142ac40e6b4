/- The semantic layer, fourth part: steps of the world: a new block, an own block written, an own block given up. -/
import Derived.Test.YtmalhikcdideoaaGreatDoorSlC
set_option linter.unusedVariables false
set_option linter.unusedSimpArgs false
namespace Go.Proofs.YtmalhikcdideoaaGreatDoor.Sl
open Go Go.RowKit

section
variable {P : Program} {w : World} {h : Hp}

theorem hp_fresh (hh : RelH w h) : h w.heap.size = none := by
  cases hb : h w.heap.size with
  | none => rfl
  | some o => exact absurd (hh.lt hb) (Nat.lt_irrefl _)

/-- What is owned is given up. -/
theorem stp_forget {h' : Hp} (hs : ∀ b o, h' b = some o → h b = some o) : Stp w h w h' :=
  ⟨Nat.le_refl _, fun _ _ _ => rfl, fun b _ hb => (by
    cases hx : h' b with
    | none => rfl
    | some o => rw [hs b o hx] at hb; cases hb), fun b o' _ ho => ⟨o', hs b o' ho, rfl, fun c fr hc => ⟨c, fr, hc, rfl⟩⟩⟩
theorem relH_forget {h' : Hp} (hh : RelH w h) (hs : ∀ b o, h' b = some o → h b = some o) : RelH w h' := by
  refine ⟨fun b o ho => ?_, hh.glob.step (stp_forget hs)⟩
  exact (hh.own b o (hs b o ho)).step (stp_forget hs) rfl

/-- A new block. -/
theorem stp_alloc (hh : RelH w h) (O : Obj) (o : Ob) : Stp w h (w.alloc O) (upd h w.heap.size (some o)) := by
  refine ⟨by simp, fun b hb _ => heap_alloc_old w O hb, fun b hb hn => ?_, fun b o' hb ho => ?_⟩
  · rw [upd_ne _ _ (by omega)]; exact hn
  · rw [upd_ne _ _ (by omega)] at ho
    exact ⟨o', ho, rfl, fun c fr hc => ⟨c, fr, (heap_alloc_old w O hb).trans hc, rfl⟩⟩
theorem relH_alloc (hh : RelH w h) {c : Array Value} {o : Ob} (hn : o.n * o.s ≤ c.size) (hp : 0 < o.s) (hcell : ∀ i, i < o.n → ∀ j, j < o.s → ∃ x, c[i * o.s + j]? = some x ∧ x.oneCell' = true ∧ Rd w h (o.f i j) x) :
    RelH (w.alloc (.cells c o.ty)) (upd h w.heap.size (some o)) := by
  have st := stp_alloc hh (.cells c o.ty) o
  refine ⟨fun b o' ho => ?_, hh.glob.step st⟩
  by_cases hb : b = w.heap.size
  · subst hb
    rw [upd_same] at ho
    simp only [Option.some.injEq] at ho; subst ho
    unfold HeldH
    rw [if_neg (by omega)]
    refine ⟨c, heap_alloc_new w _, hn, hp, fun i hi j hj => ?_⟩
    obtain ⟨x, hx, h1, hr⟩ := hcell i hi j hj
    exact ⟨x, hx, h1, hr.step st⟩
  · rw [upd_ne _ _ hb] at ho
    exact (hh.own b o' ho).step st (heap_alloc_old w _ (hh.lt ho))

/-- An own block is written. -/
theorem stp_set {w' : World} {b : Nat} {o o' : Ob} (ho : h b = some o) {c c' : Array Value} {fr' : Nat × Nat} (hc : w.heap[b]? = some (.cells c o.ty (0, 0))) (hc' : w'.heap[b]? = some (.cells c' o.ty fr')) (hsz : c'.size = c.size)
    (hoth : ∀ k, k ≠ b → k < w.heap.size → w'.heap[k]? = w.heap[k]?) (hs : w.heap.size ≤ w'.heap.size) (hty : o'.ty = o.ty) : Stp w h w' (upd h b (some o')) := by
  refine ⟨hs, fun k hk hn => hoth k (fun e => by subst e; rw [ho] at hn; cases hn) hk, fun k hk hn => ?_, fun k o'' hk ho'' => ?_⟩
  · rw [upd_ne _ _ (fun e => by subst e; rw [ho] at hn; cases hn)]; exact hn
  · by_cases hkb : k = b
    · subst hkb
      rw [upd_same] at ho''
      simp only [Option.some.injEq] at ho''; subst ho''
      refine ⟨o, ho, hty.symm, fun c2 fr hc2 => ?_⟩
      rw [hc] at hc2
      injection hc2 with hc2
      injection hc2 with e1 e2 e3
      subst e1
      exact ⟨c', fr', hc', hsz⟩
    · rw [upd_ne _ _ hkb] at ho''
      exact ⟨o'', ho'', rfl, fun c2 fr hc2 => ⟨c2, fr, (hoth k hkb hk).trans hc2, rfl⟩⟩
theorem relH_set (hh : RelH w h) {w' : World} {b : Nat} {o o' : Ob} (ho : h b = some o) {c c' : Array Value} (hc : w.heap[b]? = some (.cells c o.ty (0, 0))) (hc' : w'.heap[b]? = some (.cells c' o.ty (0, 0))) (hsz : c'.size = c.size)
    (hoth : ∀ k, k ≠ b → k < w.heap.size → w'.heap[k]? = w.heap[k]?) (hs : w.heap.size ≤ w'.heap.size) (hty : o'.ty = o.ty) (hn : o'.n * o'.s ≤ c'.size) (hp : 0 < o'.s)
    (hcell : ∀ i, i < o'.n → ∀ j, j < o'.s → ∃ x, c'[i * o'.s + j]? = some x ∧ x.oneCell' = true ∧ Rd w h (o'.f i j) x) : RelH w' (upd h b (some o')) := by
  have st := stp_set (o' := o') ho hc hc' hsz hoth hs hty
  refine ⟨fun k o'' hk => ?_, hh.glob.step st⟩
  by_cases hkb : k = b
  · subst hkb
    rw [upd_same] at hk
    simp only [Option.some.injEq] at hk; subst hk
    unfold HeldH
    rw [if_neg (by omega)]
    refine ⟨c', hty ▸ hc', hn, hp, fun i hi j hj => ?_⟩
    obtain ⟨x, hx, h1, hr⟩ := hcell i hi j hj
    exact ⟨x, hx, h1, hr.step st⟩
  · rw [upd_ne _ _ hkb] at hk
    exact (hh.own k o'' hk).step st (hoth k hkb (hh.lt hk))

/-- A value's cells. -/
def cellsA : AV → Option (Nat × (Nat → AV))
  | .v (.agg cs) => if cs.all (·.oneCell') then some (cs.size, fun j => .v (cs.getD j undef)) else none
  | .v (.tuple _) => none
  | .agg m f => some (m, f)
  | .tup _ _ => none
  | .mp _ _ => none
  | .any => none
  | x => some (1, fun _ => x)
theorem cellsA_rd {x : AV} {u : Value} {m : Nat} {f : Nat → AV} (hc : cellsA x = some (m, f)) (hr : Rd w h x u) :
    u.cells.size = m ∧ ∀ j, j < m → ∃ y, u.cells[j]? = some y ∧ y.oneCell' = true ∧ Rd w h (f j) y := by
  have one : ∀ y : Value, (∀ cs, y ≠ .agg cs) → y.cells = #[y] := fun y hy => by cases y <;> first | rfl | exact absurd rfl (hy _)
  unfold cellsA at hc
  split at hc
  · rename_i cs
    split at hc
    · rename_i hall
      simp only [Option.some.injEq, Prod.mk.injEq] at hc
      obtain ⟨rfl, rfl⟩ := hc
      cases hr
      refine ⟨rfl, fun j hj => ⟨cs.getD j undef, ?_, ?_, rfl⟩⟩
      · simp [Value.cells, Array.getD_eq_getD_getElem?, hj]
      · rw [Array.all_eq_true] at hall
        have := hall j hj
        simpa [Array.getD_eq_getD_getElem?, hj] using this
    · cases hc
  · cases hc
  · simp only [Option.some.injEq, Prod.mk.injEq] at hc
    obtain ⟨rfl, rfl⟩ := hc
    obtain ⟨cs, rfl, hm, hcs⟩ := hr
    exact ⟨hm, hcs⟩
  · cases hc
  · cases hc
  · cases hc
  · rename_i h1 h2 h3 h4 h6 h5
    simp only [Option.some.injEq, Prod.mk.injEq] at hc
    obtain ⟨rfl, rfl⟩ := hc
    have hu : (∀ cs, u ≠ .agg cs) ∧ ∀ cs, u ≠ .tuple cs := by
      cases x with
      | v y => have hr' : u = y := hr; subst hr'; exact ⟨fun cs e => h1 cs (by rw [e]), fun cs e => h2 cs (by rw [e])⟩
      | sl s n f => obtain ⟨A, c, rfl, _⟩ := hr; exact ⟨by simp, by simp⟩
      | agg m f => exact absurd rfl (h3 m f)
      | tup m f => exact absurd rfl (h4 m f)
      | row b s off len => obtain ⟨c, rfl, _⟩ := hr; exact ⟨by simp, by simp⟩
      | fp m f => obtain ⟨b, off, rfl, _⟩ := hr; exact ⟨by simp, by simp⟩
      | pt b s i j => have hr' : u = _ := hr; subst hr'; exact ⟨by simp, by simp⟩
      | mp n f => exact absurd rfl (h6 n f)
      | e0 => obtain ⟨A, rfl⟩ := hr; exact ⟨by simp, by simp⟩
      | any => exact absurd rfl h5
    have h1' : u.oneCell' = true := by cases u <;> first | rfl | exact absurd rfl (hu.1 _) | exact absurd rfl (hu.2 _)
    rw [one u hu.1]
    exact ⟨rfl, fun j hj => ⟨u, by have : j = 0 := by omega
                                   subst this; rfl, h1', hr⟩⟩
theorem cellsA_one {x : AV} {u : Value} {m : Nat} {f : Nat → AV} (hc : cellsA x = some (m, f)) (hr : Rd w h x u) : ∀ y ∈ u.cells.toList, y.oneCell' = true := by
  obtain ⟨hs, hc⟩ := cellsA_rd hc hr
  intro y hy
  obtain ⟨j, hj, rfl⟩ := List.mem_iff_getElem.1 hy
  obtain ⟨x, hx, h1, _⟩ := hc j (by rw [← hs]; simpa using hj)
  have : u.cells[j]? = some u.cells.toList[j] := by simp [Array.getElem?_eq_getElem (show j < u.cells.size by simpa using hj)]
  rw [this] at hx
  simp only [Option.some.injEq] at hx
  rw [hx]; exact h1

/-- Cells of element i from j on are others. -/
def setA (o : Ob) (i j n : Nat) (f : Nat → AV) : Ob := { o with f := fun i' j' => if i' = i ∧ j ≤ j' ∧ j' < j + n then f (j' - j) else o.f i' j' }

theorem store_own (hh : RelH w h) {b : Nat} {o : Ob} (ho : h b = some o) {i j n : Nat} (hi : i < o.n) (hj : j + n ≤ o.s) {t : TypeId} {row : Bool} (ht : ldT P t = some (n, row)) {x : AV} {u : Value} {f : Nat → AV}
    (hc : cellsA x = some (n, f)) (hx : Rd w h x u) :
    ∃ w', (Instr.storeAt t (.pointer (some ⟨b, i * o.s + j, none⟩)) u).run P w = .ok () w' ∧ Stp w h w' (upd h b (some (setA o i j n f))) ∧ RelH w' (upd h b (some (setA o i j n f))) ∧ Io w w' := by
  obtain ⟨c, hcb, hn, hp, hcell⟩ := hh.cells ho (.inl (by omega))
  obtain ⟨hsz, hcs⟩ := cellsA_rd hc hx
  have hone := cellsA_one hc hx
  have hle : i * o.s + j + n ≤ c.size := by
    have h1 : (i + 1) * o.s ≤ o.n * o.s := Nat.mul_le_mul_right _ hi
    rw [Nat.add_mul, Nat.one_mul] at h1
    omega
  have hlen : u.cells.toList.length = n := by rw [← hsz]; simp
  have hrun := run_storeCells_at P b (i * o.s + j) o.ty u.cells.toList 0 c w hcb (by rw [hlen]; omega) hone
  simp only [Nat.add_zero] at hrun
  have hgo : (Instr.storeAt t (.pointer (some ⟨b, i * o.s + j, none⟩)) u).run P w = .ok () (w.setRow b (c.toList.take (i * o.s + j) ++ u.cells.toList ++ c.toList.drop (i * o.s + j + u.cells.toList.length)).toArray) := by
    simp [Instr.storeAt, Instr.sureAddr, storeVar, run_sizeOf_ld ht, hsz] at hrun ⊢
    exact hrun
  have hc' := setRow_heap w b c (c.toList.take (i * o.s + j) ++ u.cells.toList ++ c.toList.drop (i * o.s + j + u.cells.toList.length)).toArray o.ty (0, 0) hcb
  have hsize : (c.toList.take (i * o.s + j) ++ u.cells.toList ++ c.toList.drop (i * o.s + j + u.cells.toList.length)).toArray.size = c.size := by
    simp only [List.size_toArray, List.length_append, List.length_take, List.length_drop, Array.length_toList, hsz]
    omega
  have hoth : ∀ k, k ≠ b → k < w.heap.size → (w.setRow b (c.toList.take (i * o.s + j) ++ u.cells.toList ++ c.toList.drop (i * o.s + j + u.cells.toList.length)).toArray).heap[k]? = w.heap[k]? := fun k hk _ => setRow_other w b k _ hk
  have hgs : w.heap.size ≤ (w.setRow b (c.toList.take (i * o.s + j) ++ u.cells.toList ++ c.toList.drop (i * o.s + j + u.cells.toList.length)).toArray).heap.size := by simp [World.setRow]
  refine ⟨_, hgo, stp_set ho hcb hc' hsize hoth hgs rfl, relH_set hh ho hcb hc' hsize hoth hgs rfl (by rw [hsize]; exact hn) hp ?_, ⟨rfl, rfl, rfl⟩⟩
  intro i' hi' j' hj'
  simp only [setA] at hi' hj' ⊢
  simp only [List.getElem?_toArray]
  by_cases hin : i' = i ∧ j ≤ j' ∧ j' < j + n
  · obtain ⟨rfl, h1, h2⟩ := hin
    obtain ⟨y, hy, hy1, hyr⟩ := hcs (j' - j) (by omega)
    refine ⟨y, ?_, hy1, by rw [if_pos ⟨rfl, h1, h2⟩]; exact hyr⟩
    rw [List.append_assoc, List.getElem?_append_right (by simp; omega), List.getElem?_append_left (by simp [hsz]; omega)]
    have : i' * o.s + j' - (List.take (i' * o.s + j) c.toList).length = j' - j := by
      simp only [List.length_take, Array.length_toList]
      omega
    rw [this]
    simpa using hy
  · obtain ⟨y, hy, hy1, hyr⟩ := hcell i' hi' j' hj'
    refine ⟨y, ?_, hy1, by rw [if_neg hin]; exact hyr⟩
    have hpos : i' * o.s + j' < i * o.s + j ∨ i * o.s + j + n ≤ i' * o.s + j' := by
      by_cases hii : i' = i
      · subst hii
        have : ¬ (j ≤ j' ∧ j' < j + n) := fun h => hin ⟨rfl, h⟩
        omega
      · rcases Nat.lt_or_ge i' i with hlt | hge
        · left
          have h1 : (i' + 1) * o.s ≤ i * o.s := Nat.mul_le_mul_right _ hlt
          rw [Nat.add_mul, Nat.one_mul] at h1
          omega
        · right
          have h1 : (i + 1) * o.s ≤ i' * o.s := Nat.mul_le_mul_right _ (by omega)
          rw [Nat.add_mul, Nat.one_mul] at h1
          omega
    rcases hpos with hlt | hge
    · rw [List.append_assoc, List.getElem?_append_left (by simp only [List.length_take, Array.length_toList]; omega), List.getElem?_take_of_lt hlt]
      simpa using hy
    · rw [List.getElem?_append_right (by simp only [List.length_append, List.length_take, Array.length_toList, hlen]; omega), List.getElem?_drop]
      have : i * o.s + j + u.cells.toList.length + (i' * o.s + j' - (List.take (i * o.s + j) c.toList ++ u.cells.toList).length) = i' * o.s + j' := by
        simp only [List.length_append, List.length_take, Array.length_toList, hsz]
        omega
      rw [this]
      simpa using hy
end
end Go.Proofs.YtmalhikcdideoaaGreatDoor.Sl
