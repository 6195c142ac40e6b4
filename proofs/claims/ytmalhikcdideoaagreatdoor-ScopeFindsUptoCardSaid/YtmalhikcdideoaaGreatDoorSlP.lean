/- The semantic layer: maps, iterators over texts, new slices: the operations are sound. -/
import Derived.Test.YtmalhikcdideoaaGreatDoorSlG
import Derived.MapKept
import Derived.Maps.RangeRun
import Derived.Laws.MakeOwn
import Derived.Laws.RangeString
import Derived.Lib.ConvBytes
set_option linter.unusedVariables false
set_option linter.unusedSimpArgs false
namespace Go.Proofs.YtmalhikcdideoaaGreatDoor.Sl
open Go Go.RowKit Go.MapKept

section
variable {P : Program} {w : World} {h : Hp}

theorem getObj_map {r clock : Nat} {es : Array MapEntry} (hb : w.heap[r]? = some (.map es clock)) : (getObj r).run P w = .ok (.map es clock) w := by
  simp [getObj, Sem.run, hb]
theorem setObj_map {r clock : Nat} {es : Array MapEntry} (o : Obj) (hb : w.heap[r]? = some (.map es clock)) : (setObj r o).run P w = .ok () { w with heap := w.heap.setIfInBounds r o } := by
  simp [setObj, Sem.run, hb]
theorem map_of {b n c : Nat} {g : Nat → Nat → AV} (hh : RelH w h) (hb : h b = some (mapOb n c g)) : MapH w h b n c g := by
  have hx := hh.own b _ hb
  unfold HeldH at hx
  rw [if_pos ⟨rfl, rfl⟩] at hx
  rcases hx.2 with ⟨n', g', c', h1, h2, h3⟩ | ⟨s, p, h1, _⟩ | ⟨m, x, y, z, h1, _⟩
  · simp only [mapOb, if_true, AV.mp.injEq] at h1
    obtain ⟨rfl, rfl⟩ := h1
    simp [mapOb] at h2
    have : c = c' := by omega
    subst this
    exact h3
  · simp [mapOb] at h1
  · simp [mapOb] at h1
theorem sit_of {b : Nat} {s : ByteArray} {p : Nat} (hh : RelH w h) (hb : h b = some (sitOb s p)) : w.heap[b]? = some (.stringIter s p) := by
  have hx := hh.own b _ hb
  unfold HeldH at hx
  rw [if_pos ⟨rfl, rfl⟩] at hx
  rcases hx.2 with ⟨n', g', c', h1, h2, h3⟩ | ⟨s', p', h1, h2, h3⟩ | ⟨m, x, y, z, h1, _⟩
  · simp [sitOb] at h1
  · simp [sitOb] at h1 h2
    subst h1
    have : p = p' := by omega
    subst this
    exact h3
  · simp [sitOb] at h1
/-- A block that holds no cells is written. -/
theorem stp_other {w' : World} {b : Nat} {o o' : Ob} (ho : h b = some o) (hty : o.ty = o'.ty) (hnc : ∀ c ty fr, w.heap[b]? ≠ some (.cells c ty fr)) (hoth : ∀ k, k ≠ b → w'.heap[k]? = w.heap[k]?) (hs : w.heap.size ≤ w'.heap.size) : Stp w h w' (upd h b (some o')) := by
  refine ⟨hs, fun k hk hn => hoth k (fun e => by subst e; rw [ho] at hn; cases hn), fun k hk hn => ?_, fun k o'' hk ho'' => ?_⟩
  · rw [upd_ne _ _ (fun e => by subst e; rw [ho] at hn; cases hn)]; exact hn
  · by_cases hkb : k = b
    · subst hkb
      rw [upd_same] at ho''
      simp only [Option.some.injEq] at ho''; subst ho''
      exact ⟨o, ho, hty, fun c fr hc => absurd hc (hnc _ _ _)⟩
    · rw [upd_ne _ _ hkb] at ho''
      exact ⟨o'', ho'', rfl, fun c2 fr hc2 => ⟨c2, fr, (hoth k hkb).trans hc2, rfl⟩⟩
theorem relH_other (hh : RelH w h) {w' : World} {b : Nat} {o' : Ob} (st : Stp w h w' (upd h b (some o'))) (hoth : ∀ k, k ≠ b → w'.heap[k]? = w.heap[k]?) (hx : HeldH w' (upd h b (some o')) b o') : RelH w' (upd h b (some o')) := by
  refine ⟨fun k o'' hk => ?_, hh.glob.step st⟩
  by_cases hkb : k = b
  · subst hkb
    rw [upd_same] at hk
    simp only [Option.some.injEq] at hk; subst hk
    exact hx
  · rw [upd_ne _ _ hkb] at hk
    exact (hh.own k o'' hk).step st (hoth k hkb)
theorem held_map {b n c : Nat} {g : Nat → Nat → AV} (hm : MapH w h b n c g) : HeldH w h b (mapOb n c g) := by
  unfold HeldH
  rw [if_pos ⟨rfl, rfl⟩]
  exact ⟨rfl, .inl ⟨n, g, c, rfl, rfl, hm⟩⟩
theorem held_sit {b : Nat} {s : ByteArray} {p : Nat} (hm : w.heap[b]? = some (.stringIter s p)) : HeldH w h b (sitOb s p) := by
  unfold HeldH
  rw [if_pos ⟨rfl, rfl⟩]
  exact ⟨rfl, .inr (.inl ⟨s, p, rfl, rfl, hm⟩)⟩
/-- A new object that holds no cells. -/
theorem stp_new (O : Obj) (o : Ob) : Stp w h (w.alloc O) (upd h w.heap.size (some o)) := by
  refine ⟨by simp, fun b hb _ => heap_alloc_old w O hb, fun b hb hn => ?_, fun b o' hb ho => ?_⟩
  · rw [upd_ne _ _ (by omega)]; exact hn
  · rw [upd_ne _ _ (by omega)] at ho
    exact ⟨o', ho, rfl, fun c fr hc => ⟨c, fr, (heap_alloc_old w O hb).trans hc, rfl⟩⟩
theorem relH_new (hh : RelH w h) (O : Obj) (o : Ob) (hx : HeldH (w.alloc O) (upd h w.heap.size (some o)) w.heap.size o) : RelH (w.alloc O) (upd h w.heap.size (some o)) := by
  refine ⟨fun k o'' hk => ?_, hh.glob.step (stp_new O o)⟩
  by_cases hkb : k = w.heap.size
  · subst hkb
    rw [upd_same] at hk
    simp only [Option.some.injEq] at hk; subst hk
    exact hx
  · rw [upd_ne _ _ hkb] at hk
    exact (hh.own k o'' hk).step (stp_new O o) (heap_alloc_old w O (hh.lt hk))

/-! Keys. -/
theorem keyT_desc {kt : TypeId} (hk : keyT P kt ≠ 0) (hk4 : keyT P kt ≠ 4) : ∃ d, P.underlying kt = some d ∧ ((keyT P kt = 1 ∧ ∃ k, d = .int k) ∨ (keyT P kt = 2 ∧ d = .string) ∨ (keyT P kt = 3 ∧ d = .bool)) := by
  unfold keyT at hk hk4 ⊢
  cases hd : P.underlying kt with
  | none => rw [hd] at hk; simp at hk
  | some d =>
    refine ⟨d, rfl, ?_⟩
    rw [hd] at hk hk4
    cases d with
    | struct fs =>
      simp only at hk hk4
      split at hk
      · rename_i he; rw [if_pos he] at hk4; exact absurd rfl hk4
      · exact absurd rfl hk
    | _ => simp_all
theorem keyT_pair {kt : TypeId} (hk : keyT P kt = 4) : ∃ f0 f1, P.underlying kt = some (.struct #[f0, f1]) ∧ P.stoodInHeld kt = false ∧ eqTs P [f0, f1] = some [(0, 1), (1, 1)] := by
  unfold keyT at hk
  split at hk
  · cases hk
  · cases hk
  · cases hk
  · rename_i fs hu
    split at hk
    · rename_i he
      unfold eqT at he
      rw [hu] at he
      simp only at he
      split at he
      · rename_i hs
        obtain ⟨l⟩ := fs
        have he : eqTs P l = some [(0, 1), (1, 1)] := he
        have he2 := he
        rcases l with _ | ⟨f0, _ | ⟨f1, _ | ⟨f2, l⟩⟩⟩
        · simp [eqTs] at he
        · simp only [eqTs] at he
          split at he
          · cases he
          · split at he <;> simp_all
        · exact ⟨f0, f1, hu, hs.1, he2⟩
        · exfalso
          have hlen : ∀ (l : List Field) (r : List (Nat × Nat)), eqTs P l = some r → l.length = r.length := by
            intro l
            induction l with
            | nil => intro r h; simp only [eqTs, Option.some.injEq] at h; subst h; rfl
            | cons f l ih =>
              intro r h
              unfold eqTs at h
              split at h
              · cases h
              · split at h
                · rename_i hl; simp only [Option.some.injEq] at h; subst h; simp [ih _ hl]
                · rename_i hl; simp only [Option.some.injEq] at h; subst h; simp [ih _ hl]
                · rename_i hl; simp only [Option.some.injEq] at h; subst h; simp [ih _ hl]
                · cases h
          have := hlen _ _ he2
          simp at this
      · cases he
    · cases hk
  · cases hk
theorem eqTs_str {f : Field} {fs : List Field} {off : Nat} {r : List (Nat × Nat)} (h : eqTs P (f :: fs) = some ((off, 1) :: r)) : f.name ≠ "_" ∧ ldT P f.type = some (1, false) ∧ P.underlying f.type = some .string ∧ f.offset = off ∧ eqTs P fs = some r := by
  unfold eqTs at h
  split at h
  · cases h
  · rename_i hn
    split at h
    · simp at h
    · rename_i h1 h2 h3
      simp only [Option.some.injEq, List.cons.injEq, Prod.mk.injEq, and_true] at h
      exact ⟨hn, h1, h2, h.1, by rw [h3, h.2]⟩
    · simp at h
    · cases h
theorem pair_vals {f : Nat → AV} {xs : Array Value} {a b : ByteArray} (hx : Rd w h (.agg 2 f) (.agg xs)) (e0 : f 0 = .v (.string a)) (e1 : f 1 = .v (.string b)) : xs = #[.string a, .string b] := by
  obtain ⟨cs, hcs, hsz, hcell⟩ := hx
  cases hcs
  obtain ⟨u, h1, _, h2⟩ := hcell 0 (by decide)
  obtain ⟨v, h3, _, h4⟩ := hcell 1 (by decide)
  rw [e0] at h2
  cases h2
  rw [e1] at h4
  cases h4
  apply Array.ext
  · simpa using hsz
  · intro i hi hi2
    have : i < 2 := by simpa using hi2
    rcases (show i = 0 ∨ i = 1 by omega) with rfl | rfl
    · rw [Array.getElem?_eq_getElem hi] at h1; simpa using h1
    · rw [Array.getElem?_eq_getElem hi] at h3; simpa using h3
theorem beqB' (a b : ByteArray) : (a.toList == b.toList) = decide (a = b) := by
  rw [← beq_toListBytes, Bool.eq_iff_iff, bytes_beq]; simp
theorem key2_run {kt : TypeId} (hk : keyT P kt = 4) {x y : AV} {r : Bool} (hr : key2 x y = some r) {u v : Value} (hx : Rd w h x u) (hy : Rd w h y v) : (Op.equal kt u v).run P w = .ok r w ∧ (r = true → Instr.sameBits 10000 v u = true) := by
  obtain ⟨f0, f1, hu, hst, he⟩ := keyT_pair hk
  unfold key2 at hr
  split at hr
  · rename_i m f m' g
    split at hr
    · rename_i hm
      obtain ⟨rfl, rfl⟩ := hm
      split at hr
      · rename_i a b c d e0 e1 e2 e3
        simp only [Option.some.injEq] at hr
        subst hr
        obtain ⟨xs, rfl, hxs, hxc⟩ := hx
        obtain ⟨ys, rfl, hys, hyc⟩ := hy
        have px := pair_vals (w := w) (h := h) ⟨xs, rfl, hxs, hxc⟩ e0 e1
        have py := pair_vals (w := w) (h := h) ⟨ys, rfl, hys, hyc⟩ e2 e3
        have hb : eqL [(0, 1), (1, 1)] 2 2 f g = some (decide (a = c) && decide (b = d)) := by
          simp [eqL, eq1, e0, e1, e2, e3, beqB']
        refine ⟨?_, fun hr => ?_⟩
        · unfold Op.equal Op.maxDepth
          rw [run_equalIn_agg w 9999 kt xs ys (by unfold Program.fieldsOf; rw [hu]) hst]
          unfold Program.fieldsOf
          rw [hu]
          exact eqL_run ⟨xs, rfl, hxs, hxc⟩ ⟨ys, rfl, hys, hyc⟩ 9998 _ _ _ he hb
        · simp only [Bool.and_eq_true, decide_eq_true_eq] at hr
          obtain ⟨rfl, rfl⟩ := hr
          rw [px, py]
          have hs : ∀ s : ByteArray, (s == s) = true := fun s => (bytes_beq _ _).2 rfl
          simp [Instr.sameBits, hs]
      · cases hr
    · cases hr
  · cases hr
theorem run_checkKey1 {kt : TypeId} (hk : keyT P kt ≠ 0) (hk4 : keyT P kt ≠ 4) (em : Bool) (n : Nat) (v : Value) : (Instr.checkKey em (n + 1) kt v).run P w = .ok () w := by
  obtain ⟨d, hd, hx⟩ := keyT_desc hk hk4
  unfold Instr.checkKey
  simp only [Sem.run_bind, run_underlying hd, Result.andThen]
  rcases hx with ⟨_, k, rfl⟩ | ⟨_, rfl⟩ | ⟨_, rfl⟩ <;> simp
theorem run_checkKey0 {kt : TypeId} (hk : keyT P kt ≠ 0) {x : AV} {n : Nat} {g : Nat → Nat → AV} {q : Option Nat} (hf : FindK (keyT P kt) n g x q) (em : Bool) {v : Value} (hx : Rd w h x v) : (Instr.checkKey em (9999 + 1) kt v).run P w = .ok () w := by
  by_cases hk4 : keyT P kt = 4
  · obtain ⟨f0, f1, hu, _, he⟩ := keyT_pair hk4
    obtain ⟨n0, l0, u0, o0, he⟩ := eqTs_str he
    obtain ⟨n1, l1, u1, o1, _⟩ := eqTs_str he
    have hs := hf.2 hk4
    unfold key2 at hs
    split at hs
    · rename_i m f m' g hm
      split at hs
      · rename_i hm
        split at hs
        · rename_i a b c d e0 e1 e2 e3
          obtain ⟨hm1, hm2⟩ := hm
          subst hm1
          obtain ⟨xs, rfl, hxs, hxc⟩ := hx
          obtain rfl := pair_vals (w := w) (h := h) ⟨xs, rfl, hxs, hxc⟩ e0 e1
          unfold Instr.checkKey
          simp [Sem.run_bind, run_underlying hu, Result.andThen, n0, n1, o0, o1]
          have ck : ∀ (t : TypeId) (s : ByteArray), P.underlying t = some .string → (Instr.checkKey em 9999 t (.string s)).run P w = .ok () w := fun t s ht => by
            unfold Instr.checkKey
            simp only [Sem.run_bind, run_underlying ht, Result.andThen_ok]
            rfl
          simp only [run_part_one l0 (show (#[Value.string a, Value.string b] : Array Value)[0]? = some (.string a) from rfl), run_part_one l1 (show (#[Value.string a, Value.string b] : Array Value)[1]? = some (.string b) from rfl), ck _ _ u0, ck _ _ u1]
        · cases hs
      · cases hs
    · cases hs
  · exact run_checkKey1 hk hk4 em 9999 v
theorem sameNow_of {kt : TypeId} {d : TypeDesc} (hd : P.underlying kt = some d) (hk : keyT P kt ≠ 0) (hk4 : keyT P kt ≠ 4) {x y : AV} {r : Bool} (hr : keyEq (keyT P kt) x y = some r) {u v : Value} (hx : Rd w h x u) (hy : Rd w h y v) : Instr.sameNow d u v = some r ∧ (r = true → Instr.sameBits 10000 v u = true) := by
  obtain ⟨d', hd', hc⟩ := keyT_desc hk hk4
  unfold keyEq at hr
  rw [if_neg hk4] at hr
  rw [hd] at hd'
  simp only [Option.some.injEq] at hd'
  subst hd'
  rcases hc with ⟨h1, k, rfl⟩ | ⟨h1, rfl⟩ | ⟨h1, rfl⟩
  · rw [h1] at hr
    split at hr
    · cases hx; cases hy
      split at hr
      · rename_i hj; subst hj
        simp only [Option.some.injEq] at hr
        subst hr
        refine ⟨by simp [Instr.sameNow, BEq.beq], fun hr => ?_⟩
        simp only [decide_eq_true_eq] at hr
        subst hr
        simp [Instr.sameBits]
      · cases hr
    · exfalso; omega
    · exfalso; omega
    · cases hr
  · rw [h1] at hr
    split at hr
    · exfalso; omega
    · cases hx; cases hy
      simp only [Option.some.injEq] at hr
      subst hr
      refine ⟨?_, fun hr => ?_⟩
      · simp only [Instr.sameNow, Option.some.injEq]
        exact Bool.eq_iff_iff.2 (by rw [bytes_beq]; simp)
      · simp only [decide_eq_true_eq] at hr
        subst hr
        simp only [Instr.sameBits]
        exact (bytes_beq _ _).2 rfl
    · exfalso; omega
    · cases hr
  · rw [h1] at hr
    split at hr
    · exfalso; omega
    · exfalso; omega
    · cases hx; cases hy
      simp only [Option.some.injEq] at hr
      subst hr
      refine ⟨?_, fun hr => ?_⟩
      · simp [Instr.sameNow, BEq.beq]
      · simp only [decide_eq_true_eq] at hr
        subst hr
        simp [Instr.sameBits]
    · cases hr
theorem findNow_of {kt : TypeId} {d : TypeDesc} (hd : P.underlying kt = some d) (hk : keyT P kt ≠ 0) (hk4 : keyT P kt ≠ 4) {x : AV} {u : Value} (hx : Rd w h x u) : ∀ (es : List MapEntry) (g : Nat → Nat → AV) (q : Option Nat) (k : Nat),
    (∀ i, i < es.length → ∃ e, es[i]? = some e ∧ Rd w h (g i 0) e.key) → FindK0 (keyT P kt) es.length g x q →
    Instr.findNow d u es k = some (qE q (fun i => (es[i]?).map fun e => (k + i, e.val)) none) ∧ (∀ i, q = some i → ∃ e, es[i]? = some e ∧ Instr.sameBits 10000 e.key u = true) := by
  intro es
  induction es with
  | nil =>
    intro g q k _ hf
    cases q with
    | none => exact ⟨rfl, fun i hi => by cases hi⟩
    | some i => exact absurd hf.1 (by simp)
  | cons e es ih =>
    intro g q k hes hf
    obtain ⟨e0, h0, hr0⟩ := hes 0 (by simp)
    simp only [List.getElem?_cons_zero, Option.some.injEq] at h0
    subst h0
    have hes' : ∀ i, i < es.length → ∃ e, es[i]? = some e ∧ Rd w h ((fun i c => g (i + 1) c) i 0) e.key := fun i hi => by
      obtain ⟨e', h1, h2⟩ := hes (i + 1) (by simpa using hi)
      exact ⟨e', by simpa using h1, h2⟩
    cases q with
    | none =>
      have hs := sameNow_of hd hk hk4 (hf 0 (by simp)) hx hr0
      obtain ⟨h1, h2⟩ := ih (fun i c => g (i + 1) c) none (k + 1) hes' (fun j hj => hf (j + 1) (by simpa using hj))
      refine ⟨?_, fun i hi => by cases hi⟩
      simp only [Instr.findNow, hs.1]
      exact h1
    | some i =>
      obtain ⟨f1, f2, f3⟩ := hf
      cases i with
      | zero =>
        have hs := sameNow_of hd hk hk4 f2 hx hr0
        refine ⟨by simp [Instr.findNow, hs.1, qE], fun i hi => ?_⟩
        simp only [Option.some.injEq] at hi
        subst hi
        exact ⟨e, by simp, hs.2 rfl⟩
      | succ i =>
        have hs := sameNow_of hd hk hk4 (f3 0 (by omega)) hx hr0
        obtain ⟨h1, h2⟩ := ih (fun i c => g (i + 1) c) (some i) (k + 1) hes' ⟨by simpa using f1, f2, fun j hj => f3 (j + 1) (by omega)⟩
        refine ⟨?_, fun i' hi => ?_⟩
        · simp only [Instr.findNow, hs.1]
          rw [h1]
          simp only [qE, List.getElem?_cons_succ]
          congr 2
          funext e'
          rw [show k + 1 + i = k + (i + 1) by omega]
        · simp only [Option.some.injEq] at hi
          subst hi
          obtain ⟨e', h3, h4⟩ := h2 i rfl
          exact ⟨e', by simpa using h3, h4⟩
theorem findAsk_of {kt : TypeId} (hk : keyT P kt = 4) {x : AV} {u : Value} (hx : Rd w h x u) : ∀ (es : List MapEntry) (g : Nat → Nat → AV) (q : Option Nat) (k : Nat),
    (∀ i, i < es.length → ∃ e, es[i]? = some e ∧ Rd w h (g i 0) e.key) → FindK0 4 es.length g x q →
    (Instr.findAsking kt u es k).run P w = .ok (qE q (fun i => (es[i]?).map fun e => (k + i, e.val)) none) w ∧ (∀ i, q = some i → ∃ e, es[i]? = some e ∧ Instr.sameBits 10000 e.key u = true) := by
  intro es
  induction es with
  | nil =>
    intro g q k _ hf
    cases q with
    | none => exact ⟨rfl, fun i hi => by cases hi⟩
    | some i => exact absurd hf.1 (by simp)
  | cons e es ih =>
    intro g q k hes hf
    obtain ⟨e0, h0, hr0⟩ := hes 0 (by simp)
    simp only [List.getElem?_cons_zero, Option.some.injEq] at h0
    subst h0
    have hes' : ∀ i, i < es.length → ∃ e, es[i]? = some e ∧ Rd w h ((fun i c => g (i + 1) c) i 0) e.key := fun i hi => by
      obtain ⟨e', h1, h2⟩ := hes (i + 1) (by simpa using hi)
      exact ⟨e', by simpa using h1, h2⟩
    have ke : ∀ {j : Nat} {r : Bool}, keyEq 4 x (g j 0) = some r → key2 x (g j 0) = some r := fun h => h
    cases q with
    | none =>
      have hs := key2_run hk (ke (hf 0 (by simp))) hx hr0
      obtain ⟨h1, h2⟩ := ih (fun i c => g (i + 1) c) none (k + 1) hes' (fun j hj => hf (j + 1) (by simpa using hj))
      refine ⟨?_, fun i hi => by cases hi⟩
      unfold Instr.findAsking
      simp only [Sem.run_bind, hs.1, Result.andThen_ok, Bool.false_eq_true, if_false]
      exact h1
    | some i =>
      obtain ⟨f1, f2, f3⟩ := hf
      cases i with
      | zero =>
        have hs := key2_run hk (ke f2) hx hr0
        refine ⟨?_, fun i hi => ?_⟩
        · unfold Instr.findAsking
          simp [Sem.run_bind, hs.1, qE]
        simp only [Option.some.injEq] at hi
        subst hi
        exact ⟨e, by simp, hs.2 rfl⟩
      | succ i =>
        have hs := key2_run hk (ke (f3 0 (by omega))) hx hr0
        obtain ⟨h1, h2⟩ := ih (fun i c => g (i + 1) c) (some i) (k + 1) hes' ⟨by simpa using f1, f2, fun j hj => f3 (j + 1) (by omega)⟩
        refine ⟨?_, fun i' hi => ?_⟩
        · unfold Instr.findAsking
          simp only [Sem.run_bind, hs.1, Result.andThen_ok, Bool.false_eq_true, if_false]
          rw [h1]
          simp only [qE, List.getElem?_cons_succ]
          congr 2
          funext e'
          rw [show k + 1 + i = k + (i + 1) by omega]
        · simp only [Option.some.injEq] at hi
          subst hi
          obtain ⟨e', h3, h4⟩ := h2 i rfl
          exact ⟨e', by simpa using h3, h4⟩
theorem run_findKey0 {kt : TypeId} (hk : keyT P kt ≠ 0) {x : AV} {u : Value} (hx : Rd w h x u) {es : Array MapEntry} {n : Nat} {g : Nat → Nat → AV} {q : Option Nat} (hn : es.size = n)
    (hes : ∀ i, i < n → ∃ e, es[i]? = some e ∧ Rd w h (g i 0) e.key) (hf : FindK (keyT P kt) n g x q) :
    (Instr.findKey kt u es.toList).run P w = .ok (qE q (fun i => (es[i]?).map fun e => (i, e.val)) none) w ∧ (∀ i, q = some i → ∃ e, es[i]? = some e ∧ Instr.sameBits 10000 e.key u = true) := by
  subst hn
  by_cases hk4 : keyT P kt = 4
  · rw [hk4] at hf
    obtain ⟨f0, f1, hu, _, _⟩ := keyT_pair hk4
    obtain ⟨h1, h2⟩ := findAsk_of hk4 hx es.toList g q 0 (by simpa using hes) (by simpa using hf.1)
    refine ⟨?_, by simpa using h2⟩
    have e1 : ∀ es' : List MapEntry, (Instr.findKey kt u es').run P w = (Instr.findAsking kt u es').run P w := fun es' => by
      unfold Instr.findKey
      simp only [Sem.run_bind, run_underlying hu, Result.andThen_ok]
      cases es' with
      | nil => rfl
      | cons e r =>
        have : Instr.findNow (.struct #[f0, f1]) u (e :: r) 0 = none := by
          simp [Instr.findNow, Instr.sameNow]
        rw [this]
    rw [e1, h1]
    cases q <;> simp
  obtain ⟨d, hd, _⟩ := keyT_desc hk hk4
  obtain ⟨h1, h2⟩ := findNow_of hd hk hk4 hx es.toList g q 0 (by simpa using hes) (by simpa using hf.1)
  refine ⟨?_, by simpa using h2⟩
  have := run_findKey (w := w) hd h1
  rw [this]
  cases q <;> simp
theorem zeroV_run {e : TypeId} {z : AV} (hz : zeroV P e = some z) : ∃ v : Value, (zeroValue e).run P w = .ok v w ∧ Rd w h z v := by
  unfold zeroV at hz
  split at hz
  · rename_i i hi
    split at hz
    · rename_i cs hcs
      split at hz
      · rename_i hall
        simp only [Option.some.injEq] at hz; subst hz
        refine ⟨.agg cs, by simp [zeroValue, typeInfo, hi, hcs], cs, rfl, by simp, fun j hj => ?_⟩
        have hj' : j < cs.size := by simpa using hj
        refine ⟨cs[j], by simp [hj'], ?_, ?_⟩
        · have := List.all_eq_true.1 hall cs[j] (by simp)
          exact this
        · show Rd w h ((cs.toList.map AV.v).getD j .any) cs[j]
          rw [List.getD_eq_getElem?_getD, List.getElem?_map]
          simp [hj', Rd]
      · cases hz
    · rename_i v hv hne
      simp only [Option.some.injEq] at hz; subst hz
      refine ⟨v, ?_, rfl⟩
      simp [zeroValue, typeInfo, hi, hne]
    · cases hz
  · cases hz
end

section
variable {P : Program} {N : Nat} {w0 : World} {h0 : Hp} {T : Nat → AV} {h : Hp} {a : Act} {w : World}
variable {K : (Nat → AV) → Hp → Prop} {next : Act → World → Prop} {Q : Exit → Act → World → Prop}
/-- A new object that holds no cells: its slot. -/
theorem new_other (r : Rel w0 h0 N T h a w) {d : Option Tmp} (hd : dOk N d = true) {O : Obj} {o : Ob} {v : AV} {u : Value} (hx : HeldH (w.alloc O) (upd h w.heap.size (some o)) w.heap.size o)
    (hv : Rd (w.alloc O) (upd h w.heap.size (some o)) v u) : Rel w0 h0 N (putD T d v) (upd h w.heap.size (some o)) (a.put d u) (w.alloc O) :=
  r.putD hd hv (stp_new O o) (relH_new r.heap O o hx) ⟨rfl, rfl, rfl⟩
theorem held_new_map : HeldH (w.alloc (.map #[] 0)) (upd h w.heap.size (some (mapOb 0 0 fun _ _ => .any))) w.heap.size (mapOb 0 0 fun _ _ => .any) :=
  held_map ⟨#[], heap_alloc_new w _, rfl, fun i hi => absurd hi (by omega), fun i j e e' _ h1 _ => by simp at h1⟩
theorem makeMap_sound {o : Oper} {t : TypeId} {x : Option Operand} (ho : o.op = .makeMap t x) (hd : dOk N o.dst = true) (ht : ∀ y, x = some y → (∃ a b, P.underlying t = some (.map a b)) ∧ ∃ k n, ev T y = .v (.int k n))
    (hk : ∀ b, h b = none → K (putD T o.dst (.v (.map (some b)))) (upd h b (some (mapOb 0 0 fun _ _ => .any))))
    (r : Rel w0 h0 N T h a w) (hn : ∀ T' h' a' w', K T' h' → Rel w0 h0 N T' h' a' w' → next a' w') : o.wp P a w next Q := by
  have hrun : (execOp a.eval o).run P w = .ok (.value (.map (some w.heap.size))) (w.alloc (.map #[] 0)) := by
    unfold execOp
    cases x with
    | none => simp [ho, Instr.makeMap]
    | some y =>
      obtain ⟨⟨t1, t2, ht⟩, k, n, hy⟩ := ht y rfl
      have := r.ev y
      rw [hy] at this
      have hy' : a.eval y = .int k n := this
      simp [ho, Instr.makeMap, run_underlying ht, hy', asInt, asIntOf]
  unfold Oper.wp
  rw [hrun]
  exact hn _ _ _ _ (hk w.heap.size (hp_fresh r.heap)) (new_other r hd held_new_map rfl)
theorem lookup_sound {o : Oper} {t kt et : TypeId} {x i : Operand} {ck : Bool} (ho : o.op = .lookup t x i ck) (hd : dOk N o.dst = true) (hu : P.underlying t = some (.map kt et)) {n c b : Nat} {g : Nat → Nat → AV} {q : Option Nat} {z : AV}
    (hx : ev T x = .v (.map (some b))) (hb : h b = some (mapOb n c g)) (hf : FindK (keyT P kt) n g (ev T i) q) (hkt : keyT P kt ≠ 0) (hz : zeroV P et = some z)
    (hk : K (putD T o.dst (lookR ck (qE q (fun i => g i 1) z) q.isSome)) h)
    (r : Rel w0 h0 N T h a w) (hn : ∀ T' h' a' w', K T' h' → Rel w0 h0 N T' h' a' w' → next a' w') : o.wp P a w next Q := by
  have hx' : a.eval x = .map (some b) := by have := r.ev x; rw [hx] at this; exact this
  obtain ⟨es, he, hs, hes, _⟩ := map_of r.heap hb
  obtain ⟨hfind, hq⟩ := run_findKey0 (w := w) hkt (r.ev i) hs (fun j hj => by obtain ⟨e, h1, h2, _⟩ := hes j hj; exact ⟨e, h1, h2⟩) hf
  have hck := run_checkKey0 (w := w) hkt hf es.isEmpty (r.ev i)
  obtain ⟨zv, hzv, hzr⟩ := zeroV_run (w := w) (h := h) hz
  have hgo : ∃ v ok, (qE q (fun j => (es[j]?).map fun e => (j, e.val)) none) = (if ok then qE q (fun j => some (j, v)) none else none) ∧ ok = q.isSome ∧ (ok = false → v = zv) ∧ Rd w h (qE q (fun i => g i 1) z) v := by
    cases q with
    | none => exact ⟨zv, false, rfl, rfl, fun _ => rfl, hzr⟩
    | some j =>
      obtain ⟨e, h1, h2, h3, _⟩ := hes j hf.1.1
      exact ⟨e.val, true, by simp [qE, h1], rfl, (fun h => by cases h), h3⟩
  obtain ⟨v, ok, hv1, hok, hv2, hv3⟩ := hgo
  have hrun : (execOp a.eval o).run P w = .ok (.value (if ck then .tuple #[v, .bool ok] else v)) w := by
    unfold execOp
    simp only [ho]
    simp only [Instr.lookup, hx', Sem.run_bind, run_underlying hu, Result.andThen_ok, getObj_map he, Sem.run_pure, hck, hfind, hv1]
    cases q with
    | none =>
      have : ok = false := hok
      subst this
      have := hv2 rfl
      subst this
      simp [qE, hzv]
    | some j =>
      have : ok = true := hok
      subst this
      simp [qE]
  unfold Oper.wp
  rw [hrun]
  refine hn _ _ _ _ hk (r.put_same hd ?_)
  subst hok
  cases ck with
  | false => exact hv3
  | true =>
    refine ⟨_, rfl, rfl, fun j hj => ?_⟩
    match j, hj with
    | 0, _ => exact ⟨_, rfl, hv3⟩
    | 1, _ => exact ⟨_, rfl, rfl⟩
theorem modify_get (es : Array MapEntry) (i j : Nat) (f : MapEntry → MapEntry) : (es.modify i f)[j]? = if j = i then (es[j]?).map f else es[j]? := by
  simp only [Array.getElem?_modify]
  by_cases h : i = j
  · subst h; simp
  · rw [if_neg h, if_neg (Ne.symm h)]
theorem mapUpdate_sound {o : Oper} {t kt et : TypeId} {m k x : Operand} (ho : o.op = .mapUpdate t m k x ∨ o.op = .insert t m k x) (hd : dOk N o.dst = true) (hu : P.underlying t = some (.map kt et)) {n c b : Nat} {g : Nat → Nat → AV} {q : Option Nat}
    (hm : ev T m = .v (.map (some b))) (hb : h b = some (mapOb n c g)) (hf : FindK (keyT P kt) n g (ev T k) q) (hkt : keyT P kt ≠ 0)
    (hk : K (putD T o.dst .any) (upd h b (some (qE q (fun i => mapOb n c (setE g i (ev T k) (ev T x))) (mapOb (n + 1) (c + 1) (addE g n c (ev T k) (ev T x)))))))
    (r : Rel w0 h0 N T h a w) (hn : ∀ T' h' a' w', K T' h' → Rel w0 h0 N T' h' a' w' → next a' w') : o.wp P a w next Q := by
  have hm' : a.eval m = .map (some b) := by have := r.ev m; rw [hm] at this; exact this
  obtain ⟨es, he, hs, hes, hp⟩ := map_of r.heap hb
  obtain ⟨hfind, hq⟩ := run_findKey0 (w := w) hkt (r.ev k) hs (fun j hj => by obtain ⟨e, h1, h2, _⟩ := hes j hj; exact ⟨e, h1, h2⟩) hf
  have hck := run_checkKey0 (w := w) hkt hf false (r.ev k)
  have hlt : b < w.heap.size := (Array.getElem?_eq_some_iff.1 he).1
  have hrun : ∃ es' c', (execOp a.eval o).run P w = .ok .skip { w with heap := w.heap.setIfInBounds b (.map es' c') } ∧
      qE q (fun i => es' = (es.modify i fun e => { e with key := a.eval k, val := a.eval x }) ∧ c' = c) (es' = es.push { key := a.eval k, val := a.eval x, born := c } ∧ c' = c + 1) := by
    cases q with
    | none =>
      refine ⟨_, _, ?_, rfl, rfl⟩
      unfold execOp
      rcases ho with ho | ho <;>
        (simp only [ho]
         simp only [Instr.mapUpdate, hm', Sem.run_bind, run_underlying hu, Result.andThen_ok, getObj_map he, Sem.run_pure, hck, hfind, qE, setObj_map _ he])
    | some i =>
      obtain ⟨e, h1, h2⟩ := hq i rfl
      refine ⟨_, _, ?_, rfl, rfl⟩
      unfold execOp
      rcases ho with ho | ho <;>
        (simp only [ho]
         simp only [Instr.mapUpdate, hm', Sem.run_bind, run_underlying hu, Result.andThen_ok, getObj_map he, Sem.run_pure, hck, hfind, qE, h1, Option.map_some, Option.getD_some, Instr.keyThatStays, h2, if_true, setObj_map _ he])
  obtain ⟨es', c', hrun, hes'⟩ := hrun
  obtain ⟨w', hw'⟩ : ∃ w' : World, w' = { w with heap := w.heap.setIfInBounds b (.map es' c') } := ⟨_, rfl⟩
  rw [← hw'] at hrun
  have hwb : w'.heap[b]? = some (.map es' c') := by subst hw'; simp [hlt]
  have hoth : ∀ k, k ≠ b → w'.heap[k]? = w.heap[k]? := fun k hkb => by subst hw'; simp [Ne.symm hkb]
  have hsz : w.heap.size ≤ w'.heap.size := by subst hw'; simp
  have io : Io w w' := by subst hw'; exact ⟨rfl, rfl, rfl⟩
  have hnc : ∀ c ty fr, w.heap[b]? ≠ some (.cells c ty fr) := fun c ty fr e => by rw [he] at e; cases e
  unfold Oper.wp
  rw [hrun]
  have rk := r.ev k
  have rx := r.ev x
  cases q with
  | some i =>
    obtain ⟨rfl, rfl⟩ := hes'
    have st := stp_other (h := h) (o' := mapOb n c' (setE g i (ev T k) (ev T x))) hb rfl hnc hoth hsz
    refine hn _ _ _ _ hk (r.putD hd trivial st (relH_other r.heap st hoth (held_map ⟨_, hwb, by simpa using hs, fun j hj => ?_, fun i1 j1 e1 e2 hij h1 h2 => ?_⟩)) io)
    · obtain ⟨e, h1, h2, h3, h4⟩ := hes j hj
      rw [modify_get]
      by_cases hji : j = i
      · subst hji
        refine ⟨{ e with key := a.eval k, val := a.eval x }, by rw [if_pos rfl, h1]; rfl, ?_, ?_, ?_, h4.2⟩
        · simp only [setE, if_true]; exact rk.step st
        · simp only [setE, if_true, Nat.one_ne_zero, if_false]; exact rx.step st
        · simp only [setE, if_true]; exact h4.1
      · refine ⟨e, by rw [if_neg hji]; exact h1, ?_, ?_, ?_, h4.2⟩
        · simp only [setE, hji, if_false]; exact h2.step st
        · simp only [setE, hji, if_false]; exact h3.step st
        · simp only [setE, hji, if_false]; exact h4.1
    · rw [modify_get] at h1 h2
      have key : ∀ (j : Nat) (e : MapEntry), (if j = i then (es[j]?).map (fun e => { e with key := a.eval k, val := a.eval x }) else es[j]?) = some e → ∃ e0, es[j]? = some e0 ∧ e.born = e0.born := fun j e hj => by
        split at hj
        · cases h0 : es[j]? with
          | none => rw [h0] at hj; cases hj
          | some e0 =>
            rw [h0] at hj
            simp only [Option.map_some, Option.some.injEq] at hj
            exact ⟨e0, rfl, by rw [← hj]⟩
        · exact ⟨e, hj, rfl⟩
      obtain ⟨e3, h3, h4⟩ := key _ _ h1
      obtain ⟨e5, h5, h6⟩ := key _ _ h2
      rw [h4, h6]
      exact hp _ _ _ _ hij h3 h5
  | none =>
    obtain ⟨rfl, rfl⟩ := hes'
    have st := stp_other (h := h) (o' := mapOb (n + 1) (c + 1) (addE g n c (ev T k) (ev T x))) hb rfl hnc hoth hsz
    refine hn _ _ _ _ hk (r.putD hd trivial st (relH_other r.heap st hoth (held_map ⟨_, hwb, by simp [hs], fun j hj => ?_, fun i1 j1 e1 e2 hij h1 h2 => ?_⟩)) io)
    · by_cases hji : j = n
      · subst hji
        refine ⟨{ key := a.eval k, val := a.eval x, born := c }, by rw [← hs]; simp, ?_, ?_, ?_, by simp⟩
        · simp only [addE, if_true]; exact rk.step st
        · simp only [addE, if_true, Nat.one_ne_zero, if_false]; exact rx.step st
        · simp [addE]
      · obtain ⟨e, h1, h2, h3, h4⟩ := hes j (by omega)
        have hjs : j < es.size := by omega
        refine ⟨e, by rw [Array.getElem?_push_lt hjs]; rw [Array.getElem?_eq_getElem hjs] at h1; exact h1, ?_, ?_, ?_, by omega⟩
        · simp only [addE, hji, if_false]; exact h2.step st
        · simp only [addE, hji, if_false]; exact h3.step st
        · simp only [addE, hji, if_false]; exact h4.1
    · have hj2 : j1 < n + 1 := by
        have := (Array.getElem?_eq_some_iff.1 h2).1
        simpa [hs] using this
      have hi1 : i1 < es.size := by omega
      have h1' : es[i1]? = some e1 := by
        rw [Array.getElem?_push_lt hi1] at h1
        rw [Array.getElem?_eq_getElem hi1]; exact h1
      by_cases hjn : j1 = n
      · subst hjn
        have : e2.born = c := by
          rw [← hs] at h2
          simp at h2
          rw [← h2]
        rw [this]
        obtain ⟨e, h3, _, _, _, h4⟩ := hes i1 (by omega)
        rw [h1'] at h3
        simp only [Option.some.injEq] at h3
        subst h3
        exact h4
      · have hj1 : j1 < es.size := by omega
        have h2' : es[j1]? = some e2 := by
          rw [Array.getElem?_push_lt hj1] at h2
          rw [Array.getElem?_eq_getElem hj1]; exact h2
        exact hp _ _ _ _ hij h1' h2'
theorem mapLen_sound {o : Oper} {t kt et : TypeId} {x : Operand} {args : Array Operand} {tys : Array TypeId} (ho : o.op = .call ⟨.builtin .len, args, tys⟩) (ha : args.toList = [x]) (hty : tys.toList = [t]) (hd : dOk N o.dst = true) (hu : P.underlying t = some (.map kt et)) {n c b : Nat} {g : Nat → Nat → AV}
    (hx : ev T x = .v (.map (some b))) (hb : h b = some (mapOb n c g)) (hk : K (putD T o.dst (.v (.int .i64 n))) h)
    (r : Rel w0 h0 N T h a w) (hn : ∀ T' h' a' w', K T' h' → Rel w0 h0 N T' h' a' w' → next a' w') : o.wp P a w next Q := by
  have hx' : a.eval x = .map (some b) := by have := r.ev x; rw [hx] at this; exact this
  have ha' : args = #[x] := by rw [← Array.toList_inj]; simpa using ha
  have ht' : tys = #[t] := by rw [← Array.toList_inj]; simpa using hty
  obtain ⟨es, he, hs, _⟩ := map_of r.heap hb
  have hrun : (execOp a.eval o).run P w = .ok (.value (.int .i64 n)) w := by
    subst ha'; subst ht'
    unfold execOp
    simp [ho, resolve, invoke, builtin, Builtin.len_, run_underlying hu, hx', getObj_map he, goInt, hs]
  unfold Oper.wp
  rw [hrun]
  exact hn _ _ _ _ hk (r.put_same hd rfl)
theorem erase_get (es : Array MapEntry) (i j : Nat) (hi : i < es.size) : (es.eraseIdxIfInBounds i)[j]? = if j < i then es[j]? else es[j + 1]? := by
  unfold Array.eraseIdxIfInBounds
  rw [dif_pos hi]
  simp only [Array.getElem?_eraseIdx]
theorem delete_sound {o : Oper} {t t' kt et : TypeId} {x k : Operand} {args : Array Operand} {tys : Array TypeId} (ho : o.op = .call ⟨.builtin .delete, args, tys⟩) (ha : args.toList = [x, k]) (hty : tys.toList = [t, t']) (hd : dOk N o.dst = true) (hu : P.underlying t = some (.map kt et)) {n c b : Nat} {g : Nat → Nat → AV} {q : Option Nat}
    (hx : ev T x = .v (.map (some b))) (hb : h b = some (mapOb n c g)) (hf : FindK (keyT P kt) n g (ev T k) q) (hkt : keyT P kt ≠ 0)
    (hk : K (putD T o.dst un) (upd h b (some (qE q (fun i => mapOb (n - 1) c (delE g i)) (mapOb n c g)))))
    (r : Rel w0 h0 N T h a w) (hn : ∀ T' h' a' w', K T' h' → Rel w0 h0 N T' h' a' w' → next a' w') : o.wp P a w next Q := by
  have hx' : a.eval x = .map (some b) := by have := r.ev x; rw [hx] at this; exact this
  have ha' : args = #[x, k] := by rw [← Array.toList_inj]; simpa using ha
  have ht' : tys = #[t, t'] := by rw [← Array.toList_inj]; simpa using hty
  obtain ⟨es, he, hs, hes, hp⟩ := map_of r.heap hb
  obtain ⟨hfind, hq⟩ := run_findKey0 (w := w) hkt (r.ev k) hs (fun j hj => by obtain ⟨e, h1, h2, _⟩ := hes j hj; exact ⟨e, h1, h2⟩) hf
  have hck := run_checkKey0 (w := w) hkt hf es.isEmpty (r.ev k)
  have hlt : b < w.heap.size := (Array.getElem?_eq_some_iff.1 he).1
  have hrun : ∃ es', (execOp a.eval o).run P w = .ok (.value (.tuple #[])) { w with heap := w.heap.setIfInBounds b (.map es' c) } ∧ qE q (fun i => es' = es.eraseIdxIfInBounds i) (es' = es) := by
    subst ha'; subst ht'
    cases q with
    | none =>
      refine ⟨_, ?_, rfl⟩
      unfold execOp
      simp [ho, resolve, invoke, builtin, Builtin.delete_, run_underlying hu, hx', getObj_map he, hck, hfind, qE, setObj_map _ he]
    | some i =>
      obtain ⟨e, h1, h2⟩ := hq i rfl
      refine ⟨_, ?_, rfl⟩
      unfold execOp
      simp [ho, resolve, invoke, builtin, Builtin.delete_, run_underlying hu, hx', getObj_map he, hck, hfind, qE, h1, setObj_map _ he]
  obtain ⟨es', hrun, hes'⟩ := hrun
  obtain ⟨w', hw'⟩ : ∃ w' : World, w' = { w with heap := w.heap.setIfInBounds b (.map es' c) } := ⟨_, rfl⟩
  rw [← hw'] at hrun
  have hwb : w'.heap[b]? = some (.map es' c) := by subst hw'; simp [hlt]
  have hoth : ∀ k, k ≠ b → w'.heap[k]? = w.heap[k]? := fun k hkb => by subst hw'; simp [Ne.symm hkb]
  have hsz : w.heap.size ≤ w'.heap.size := by subst hw'; simp
  have io : Io w w' := by subst hw'; exact ⟨rfl, rfl, rfl⟩
  have hnc : ∀ c ty fr, w.heap[b]? ≠ some (.cells c ty fr) := fun c ty fr e => by rw [he] at e; cases e
  unfold Oper.wp
  rw [hrun]
  cases q with
  | none =>
    subst hes'
    have st := stp_other (h := h) (o' := mapOb n c g) hb rfl hnc hoth hsz
    refine hn _ _ _ _ hk (r.putD hd rfl st (relH_other r.heap st hoth (held_map ⟨_, hwb, hs, fun j hj => ?_, hp⟩)) io)
    obtain ⟨e, h1, h2, h3, h4⟩ := hes j hj
    exact ⟨e, h1, h2.step st, h3.step st, h4⟩
  | some i =>
    subst hes'
    have hin : i < n := hf.1.1
    have st := stp_other (h := h) (o' := mapOb (n - 1) c (delE g i)) hb rfl hnc hoth hsz
    have hget : ∀ j, (es.eraseIdxIfInBounds i)[j]? = if j < i then es[j]? else es[j + 1]? := fun j => erase_get es i j (by omega)
    have hsize : (es.eraseIdxIfInBounds i).size = n - 1 := by
      unfold Array.eraseIdxIfInBounds
      rw [dif_pos (by omega : i < es.size)]
      simp [hs]
    refine hn _ _ _ _ hk (r.putD hd rfl st (relH_other r.heap st hoth (held_map ⟨_, hwb, hsize, fun j hj => ?_, fun i1 j1 e1 e2 hij h1 h2 => ?_⟩)) io)
    · rw [hget]
      by_cases hji : j < i
      · obtain ⟨e, h1, h2, h3, h4⟩ := hes j (by omega)
        refine ⟨e, by rw [if_pos hji]; exact h1, ?_, ?_, ?_, h4.2⟩
        · simp only [delE, hji, if_true]; exact h2.step st
        · simp only [delE, hji, if_true]; exact h3.step st
        · simp only [delE, hji, if_true]; exact h4.1
      · obtain ⟨e, h1, h2, h3, h4⟩ := hes (j + 1) (by omega)
        refine ⟨e, by rw [if_neg hji]; exact h1, ?_, ?_, ?_, h4.2⟩
        · simp only [delE, hji, if_false]; exact h2.step st
        · simp only [delE, hji, if_false]; exact h3.step st
        · simp only [delE, hji, if_false]; exact h4.1
    · rw [hget] at h1 h2
      split at h1 <;> split at h2
      · exact hp _ _ _ _ hij h1 h2
      · exact hp _ _ _ _ (by omega) h1 h2
      · omega
      · exact hp _ _ _ _ (by omega) h1 h2
theorem clear_sound {o : Oper} {t e : TypeId} {x : Operand} {args : Array Operand} {tys : Array TypeId} (ho : o.op = .call ⟨.builtin .clear, args, tys⟩) (ha : args.toList = [x]) (hty : tys.toList = [t]) (hd : dOk N o.dst = true) (hu : P.underlying t = some (.slice e)) {z : List Value} (hz : zeroA P e = some (1, z)) {b off n : Nat} {ob : Ob}
    (hx : ev T x = .row b 1 off n) (hb : h b = some ob) (h1 : ob.s = 1) (hl : off + n = ob.n) (hk : K (putD T o.dst un) (upd h b (some { ob with n := off })))
    (r : Rel w0 h0 N T h a w) (hn : ∀ T' h' a' w', K T' h' → Rel w0 h0 N T' h' a' w' → next a' w') : o.wp P a w next Q := by
  have rx := r.ev x
  rw [hx] at rx
  obtain ⟨cap, hx', hcap, hlt, _, _⟩ := rx
  have ha' : args = #[x] := by rw [← Array.toList_inj]; simpa using ha
  have ht' : tys = #[t] := by rw [← Array.toList_inj]; simpa using hty
  subst ha'; subst ht'
  obtain ⟨c, hcb, hcn, hp, hcell⟩ := r.heap.cells hb (.inr (by omega))
  obtain ⟨v, hv, hvz, hzl, _, hone⟩ := zeroA_run hz
  have hvc : v.cells.size = 1 := by rw [← hzl, ← hvz]; simp
  rw [h1, Nat.mul_one] at hcn
  rcases Nat.eq_zero_or_pos n with h0 | hpos
  · subst h0
    have hrun : (execOp a.eval o).run P w = .ok (.value (.tuple #[])) w := by
      unfold execOp
      simp [ho, resolve, invoke, builtin, Builtin.clear_, run_underlying hu, hx']
    unfold Oper.wp
    rw [hrun]
    refine hn _ _ _ _ hk (r.putD hd rfl (stp_set (c' := c) (fr' := (0, 0)) hb hcb hcb rfl (fun k _ _ => rfl) (Nat.le_refl _) rfl) (relH_set r.heap hb hcb hcb rfl (fun k _ _ => rfl) (Nat.le_refl _) rfl (by show off * ob.s ≤ c.size; rw [h1]; omega) hp fun i hi j hj => ?_) ⟨rfl, rfl, rfl⟩)
    exact hcell i (by have : i < off := hi; omega) j hj
  · obtain ⟨m, rfl⟩ : ∃ m, n = m + 1 := ⟨n - 1, by omega⟩
    have hzs : (Builtin.zeroCells v.cells (m + 1)).size = m + 1 := by simp [Builtin.zeroCells, hvc]
    have hzo : ∀ u ∈ (Builtin.zeroCells v.cells (m + 1)).toList, u.oneCell' = true := fun u hu => by
      simp only [Builtin.zeroCells, hvc, Array.toList_map, List.mem_map] at hu
      obtain ⟨k, _, rfl⟩ := hu
      rw [Nat.mod_one, getElem!_pos v.cells 0 (by omega)]
      exact hone _ (by rw [← hvz]; exact Array.mem_toList_iff.2 (Array.getElem_mem _))
    have hst := run_storeCells_at P b off ob.ty (Builtin.zeroCells v.cells (m + 1)).toList 0 c w hcb (by simp only [Array.length_toList, hzs]; omega) hzo
    simp only [Nat.add_zero] at hst
    obtain ⟨Z, hZ⟩ : ∃ Z, (Builtin.zeroCells v.cells (m + 1)).toList = Z := ⟨_, rfl⟩
    have hZl : Z.length = m + 1 := by rw [← hZ]; simp [hzs]
    rw [hZ] at hst
    have hrun : (execOp a.eval o).run P w = .ok (.value (.tuple #[])) (w.setRow b (c.toList.take off ++ Z ++ c.toList.drop (off + Z.length)).toArray) := by
      unfold execOp
      simp [ho, resolve, invoke, builtin, Builtin.clear_, run_underlying hu, hx', hv, hZ, hst]
    have hc' := setRow_heap w b c (c.toList.take off ++ Z ++ c.toList.drop (off + Z.length)).toArray ob.ty (0, 0) hcb
    have hsize : (c.toList.take off ++ Z ++ c.toList.drop (off + Z.length)).toArray.size = c.size := by
      simp only [List.size_toArray, List.length_append, List.length_take, List.length_drop, Array.length_toList]
      omega
    have hoth : ∀ k, k ≠ b → k < w.heap.size → (w.setRow b (c.toList.take off ++ Z ++ c.toList.drop (off + Z.length)).toArray).heap[k]? = w.heap[k]? := fun k hk _ => setRow_other w b k _ hk
    have hgs : w.heap.size ≤ (w.setRow b (c.toList.take off ++ Z ++ c.toList.drop (off + Z.length)).toArray).heap.size := by simp [World.setRow]
    unfold Oper.wp
    rw [hrun]
    refine hn _ _ _ _ hk (r.putD hd rfl (stp_set hb hcb hc' hsize hoth hgs rfl) (relH_set r.heap hb hcb hc' hsize hoth hgs rfl (by rw [hsize]; show off * ob.s ≤ c.size; rw [h1]; omega) hp fun i hi j hj => ?_) ⟨rfl, rfl, rfl⟩)
    have hi : i < off := hi
    have hj : j < ob.s := hj
    obtain ⟨y, hy, hy1, hyr⟩ := hcell i (by omega) j hj
    refine ⟨y, ?_, hy1, hyr⟩
    obtain rfl : j = 0 := by omega
    show (c.toList.take off ++ Z ++ c.toList.drop (off + Z.length)).toArray[i * ob.s + 0]? = some y
    rw [h1] at hy ⊢
    simp only [List.getElem?_toArray, List.append_assoc]
    rw [List.getElem?_append_left (by simp; omega), List.getElem?_take]
    simp only [Nat.mul_one, Nat.add_zero] at hy ⊢
    rw [if_pos hi]
    simpa using hy
theorem makeSlice_sound {o : Oper} {t e : TypeId} {l c : Operand} (ho : o.op = .makeSlice t l c) (hd : dOk N o.dst = true) (hu : P.underlying t = some (.slice e)) {s by_ : Nat} {z : List Value} (hz : zeroA P e = some (s, z)) (hb : bytesT P e = some by_)
    {n c' : Nat} (hl : ev T l = .v (.int .i64 n)) (hc : ev T c = .v (.int .i64 c')) (hnc : n ≤ c') (hby : c' * by_ ≤ 140737488355328) (hm : c' ≤ 140737488355328)
    (hk : ∀ b, h b = none → K (putD T o.dst (.row b s 0 n)) (upd h b (some ⟨e, s, n, fun _ j => .v (z.getD j undef)⟩)))
    (r : Rel w0 h0 N T h a w) (hn : ∀ T' h' a' w', K T' h' → Rel w0 h0 N T' h' a' w' → next a' w') : o.wp P a w next Q := by
  have hl' : a.eval l = .int .i64 n := by have := r.ev l; rw [hl] at this; exact this
  have hc' : a.eval c = .int .i64 c' := by have := r.ev c; rw [hc] at this; exact this
  unfold zeroA at hz
  split at hz
  · rename_i i hi
    split at hz
    · rename_i zv hzv
      split at hz
      · rename_i hcond
        simp only [Option.some.injEq, Prod.mk.injEq] at hz
        obtain ⟨rfl, hz2⟩ := hz
        have hbts : i.bytes = by_ := by simpa [bytesT, hi] using hb
        have hbb : (i.bytes : Int) * (c' : Int) ≤ 281474976710656 := by
          have h1 : ((c' * by_ : Nat) : Int) ≤ 140737488355328 := by omega
          rw [Int.natCast_mul] at h1
          rw [hbts, Int.mul_comm]
          omega
        have hrun0 := run_make (P := P) w t e i zv hu hi hzv .i64 .i64 (n : Int) (c' : Int) (by omega) (by omega) hbb (by omega)
        simp only [Int.toNat_natCast] at hrun0
        have hrun : (execOp a.eval o).run P w = .ok (.value (.slice (some ⟨w.heap.size, 0, none⟩) n c')) (w.alloc (.cells (madeCells zv.cells (c' * i.size)) e)) := by
          unfold execOp
          simp only [ho, hl', hc', Sem.run_bind, hrun0, Result.andThen_ok, Sem.run_pure]
        unfold Oper.wp
        rw [hrun]
        have hpos := hcond.2.1
        have hzl : zv.cells.size = i.size := hcond.1
        refine hn _ _ _ _ (hk w.heap.size (hp_fresh r.heap)) (new_block r hd (o := ⟨e, i.size, n, fun _ j => .v (z.getD j undef)⟩) ?_ hpos (fun i' hi' j hj => ?_) ?_)
        · simp only [size_madeCells]; exact Nat.mul_le_mul_right _ hnc
        · simp only at hi' hj ⊢
          refine ⟨z.getD j undef, ?_, ?_, rfl⟩
          · have hlt : i' * i.size + j < c' * i.size := lt_mul_of (by omega) hj
            have hjz : j < zv.cells.size := by omega
            have e1 : (i' * i.size + j) % i.size = j := by rw [Nat.mul_comm, Nat.mul_add_mod, Nat.mod_eq_of_lt hj]
            simp only [madeCells, Array.getElem?_map]
            rw [Array.getElem?_range, if_pos hlt]
            simp only [Option.map_some, hzl, e1, Option.some.injEq]
            subst hz2
            rw [getElem!_pos zv.cells j hjz]
            simp [List.getD_eq_getElem?_getD, hjz]
          · subst hz2
            have hjz : j < zv.cells.size := by omega
            have := List.all_eq_true.1 hcond.2.2 zv.cells[j] (by simp)
            simpa [List.getD_eq_getElem?_getD, hjz] using this
        · refine ⟨c', by simp, hnc, by simp, by omega, fun o' ho' => ?_⟩
          rw [upd_same] at ho'
          simp only [Option.some.injEq] at ho'; subst ho'
          exact ⟨_, (0, 0), heap_alloc_new w _, by simp [size_madeCells]⟩
      · cases hz
    · cases hz
  · cases hz
theorem range_sound {o : Oper} {t : TypeId} {x : Operand} (ho : o.op = .range t x) (hd : dOk N o.dst = true) (hu : P.underlying t = some .string) {s : ByteArray} (hx : ev T x = .v (.string s))
    (hk : ∀ b, h b = none → K (putD T o.dst (.v (.pointer (some ⟨b, 0, none⟩)))) (upd h b (some (sitOb s 0))))
    (r : Rel w0 h0 N T h a w) (hn : ∀ T' h' a' w', K T' h' → Rel w0 h0 N T' h' a' w' → next a' w') : o.wp P a w next Q := by
  have hx' : a.eval x = .string s := by have := r.ev x; rw [hx] at this; exact this
  have hrun : (execOp a.eval o).run P w = .ok (.value (.pointer (some ⟨w.heap.size, 0, none⟩))) (w.alloc (.stringIter s 0)) := by
    unfold execOp
    simp only [ho, hx', Sem.run_bind, run_range_string w t s hu, Result.andThen_ok, Sem.run_pure]
    rfl
  unfold Oper.wp
  rw [hrun]
  exact hn _ _ _ _ (hk w.heap.size (hp_fresh r.heap)) (new_other r hd (held_sit (heap_alloc_new w _)) rfl)
theorem run_getObj_sit {b : Nat} {s : ByteArray} {p : Nat} (he : w.heap[b]? = some (.stringIter s p)) : (getObj b).run P w = .ok (.stringIter s p) w := by
  simp [getObj, Sem.run, he]
theorem run_setObj_sit {b : Nat} {s : ByteArray} {p : Nat} (o : Obj) (he : w.heap[b]? = some (.stringIter s p)) : (setObj b o).run P w = .ok () { w with heap := w.heap.setIfInBounds b o } := by
  simp [setObj, Sem.run, he]
theorem next_sound {o : Oper} {it : Operand} (ho : o.op = .next it true) (hd : dOk N o.dst = true) {b pos : Nat} {s : ByteArray} (hx : ev T it = .v (.pointer (some ⟨b, 0, none⟩))) (hb : h b = some (sitOb s pos))
    (hk : pos < s.size → K (putD T o.dst (tup3 (.v (.bool true)) (.v (.int .i64 pos)) (.v (.int .i32 (Utf8.decode s pos).1)))) (upd h b (some (sitOb s (pos + (Utf8.decode s pos).2)))))
    (hk' : ¬ pos < s.size → K (putD T o.dst (.tup 1 fun _ => .v (.bool false))) h)
    (r : Rel w0 h0 N T h a w) (hn : ∀ T' h' a' w', K T' h' → Rel w0 h0 N T' h' a' w' → next a' w') : o.wp P a w next Q := by
  have hx' : a.eval it = .pointer (some ⟨b, 0, none⟩) := by have := r.ev it; rw [hx] at this; exact this
  have he := sit_of r.heap hb
  have hlt : b < w.heap.size := (Array.getElem?_eq_some_iff.1 he).1
  by_cases hp : pos < s.size
  · obtain ⟨w', hw'⟩ : ∃ w' : World, w' = { w with heap := w.heap.setIfInBounds b (.stringIter s (pos + (Utf8.decode s pos).2)) } := ⟨_, rfl⟩
    have hrun : (execOp a.eval o).run P w = .ok (.value (.tuple #[.bool true, .int .i64 pos, .int .i32 (Utf8.decode s pos).1])) w' := by
      subst hw'
      unfold execOp
      simp [ho, hx', Instr.next, run_getObj_sit he, hp, run_setObj_sit _ he, goInt]
    have hwb : w'.heap[b]? = some (.stringIter s (pos + (Utf8.decode s pos).2)) := by subst hw'; simp [hlt]
    have hoth : ∀ k, k ≠ b → w'.heap[k]? = w.heap[k]? := fun k hkb => by subst hw'; simp [Ne.symm hkb]
    have hsz : w.heap.size ≤ w'.heap.size := by subst hw'; simp
    have io : Io w w' := by subst hw'; exact ⟨rfl, rfl, rfl⟩
    have hnc : ∀ c ty fr, w.heap[b]? ≠ some (.cells c ty fr) := fun c ty fr e => by rw [he] at e; cases e
    have st := stp_other (h := h) (o' := sitOb s (pos + (Utf8.decode s pos).2)) hb rfl hnc hoth hsz
    unfold Oper.wp
    rw [hrun]
    refine hn _ _ _ _ (hk hp) (r.putD hd ⟨_, rfl, rfl, fun j hj => ?_⟩ st (relH_other r.heap st hoth (held_sit hwb)) io)
    match j, hj with
    | 0, _ => exact ⟨_, rfl, rfl⟩
    | 1, _ => exact ⟨_, rfl, rfl⟩
    | 2, _ => exact ⟨_, rfl, rfl⟩
  · have hrun : (execOp a.eval o).run P w = .ok (.value (.tuple #[.bool false])) w := by
      unfold execOp
      simp [ho, hx', Instr.next, run_getObj_sit he, hp]
    unfold Oper.wp
    rw [hrun]
    refine hn _ _ _ _ (hk' hp) (r.put_same hd ⟨_, rfl, rfl, fun j hj => ⟨.bool false, ?_, rfl⟩⟩)
    have : j = 0 := by omega
    subst this
    rfl

theorem mit_of {b m c : Nat} {seen : List Nat} (hh : RelH w h) (hb : h b = some (mitOb m c seen)) : w.heap[b]? = some (.mapIter (some m) c seen.toArray c) := by
  have hx := hh.own b _ hb
  unfold HeldH at hx
  rw [if_pos ⟨rfl, rfl⟩] at hx
  rcases hx.2 with ⟨n', g', c', h1, h2, h3⟩ | ⟨s', p', h1, h2, h3⟩ | ⟨m', x, y, z, h1, h2, h3, h4, h5⟩
  · simp [mitOb] at h1
  · simp [mitOb] at h1
  · simp only [mitOb, if_true, AV.v.injEq, Value.map.injEq, Option.some.injEq] at h1
    have e2 : (AV.v (.int .i64 ((c : Nat) : Int))) = .v (.int .i64 ((x : Nat) : Int)) := h2
    have e3 : (AV.v (.int .i64 ((c : Nat) : Int))) = .v (.int .i64 ((y : Nat) : Int)) := h3
    have e4 : (AV.v (.tuple (seen.toArray.map fun k : Nat => Value.int .i64 k))) = .v (.tuple (z.map fun k : Nat => Value.int .i64 k)) := h4
    simp only [AV.v.injEq, Value.int.injEq, true_and, Value.tuple.injEq] at e2 e3 e4
    have e5 : c = x := by omega
    have e6 : c = y := by omega
    have e7 : seen.toArray = z := (Array.map_inj_right fun a b hab => by simp only [Value.int.injEq, true_and] at hab; omega).1 e4
    rw [h5, ← h1, ← e5, ← e6, ← e7]
theorem held_mit {b m c : Nat} {seen : List Nat} (hm : w.heap[b]? = some (.mapIter (some m) c seen.toArray c)) : HeldH w h b (mitOb m c seen) := by
  unfold HeldH
  rw [if_pos ⟨rfl, rfl⟩]
  exact ⟨rfl, .inr (.inr ⟨m, c, c, seen.toArray, rfl, rfl, rfl, rfl, hm⟩)⟩
theorem rangeMap_sound {o : Oper} {t k e : TypeId} {x : Operand} (ho : o.op = .range t x) (hd : dOk N o.dst = true) (hu : P.underlying t = some (.map k e)) {m n c : Nat} {g : Nat → Nat → AV} (hx : ev T x = .v (.map (some m))) (hm : h m = some (mapOb n c g))
    (hk : ∀ b, h b = none → K (putD T o.dst (.v (.pointer (some ⟨b, 0, none⟩)))) (upd h b (some (mitOb m c []))))
    (r : Rel w0 h0 N T h a w) (hn : ∀ T' h' a' w', K T' h' → Rel w0 h0 N T' h' a' w' → next a' w') : o.wp P a w next Q := by
  have hx' : a.eval x = .map (some m) := by have := r.ev x; rw [hx] at this; exact this
  obtain ⟨es, hes, _⟩ := map_of r.heap hm
  have hrun : (execOp a.eval o).run P w = .ok (.value (.pointer (some ⟨w.heap.size, 0, none⟩))) (w.alloc (.mapIter (some m) c #[] c)) := by
    unfold execOp
    simp only [ho, hx', Sem.run_bind, run_range_map w t k e m es c hu hes, Result.andThen_ok, Sem.run_pure]
  unfold Oper.wp
  rw [hrun]
  exact hn _ _ _ _ (hk w.heap.size (hp_fresh r.heap)) (new_other r hd (held_mit (seen := []) (heap_alloc_new w _)) rfl)
/-- The moments at which the entries were laid are apart. -/
theorem born_ne {b n c : Nat} {g : Nat → Nat → AV} {es : Array MapEntry} (hinc : ∀ (i j : Nat) (e e' : MapEntry), i < j → es[i]? = some e → es[j]? = some e' → e.born < e'.born) {i j : Nat} {e e' : MapEntry} (h1 : es[i]? = some e) (h2 : es[j]? = some e') (h3 : e.born = e'.born) : i = j := by
  rcases Nat.lt_trichotomy i j with h | h | h
  · have := hinc i j e e' h h1 h2; omega
  · exact h
  · have := hinc j i e' e h h2 h1; omega
theorem nextMap_sound {o : Oper} {it : Operand} (ho : o.op = .next it false) (hd : dOk N o.dst = true) {b m n c : Nat} {g : Nat → Nat → AV} {is : List Nat} (hx : ev T it = .v (.pointer (some ⟨b, 0, none⟩)))
    (hb : h b = some (mitOb m c (is.map (bornA g)))) (hm : h m = some (mapOb n c g)) (hlt : ∀ i ∈ is, i < n)
    (hk : ∀ i, i < n → i ∉ is → K (putD T o.dst (tup3 (.v (.bool true)) (g i 0) (g i 1))) (upd h b (some (mitOb m c ((is ++ [i]).map (bornA g))))))
    (hk' : (∀ i, i < n → i ∈ is) → K (putD T o.dst (.tup 1 fun _ => .v (.bool false))) h)
    (r : Rel w0 h0 N T h a w) (hn : ∀ T' h' a' w', K T' h' → Rel w0 h0 N T' h' a' w' → next a' w') : o.wp P a w next Q := by
  have hx' : a.eval it = .pointer (some ⟨b, 0, none⟩) := by have := r.ev it; rw [hx] at this; exact this
  have he := mit_of r.heap hb
  obtain ⟨es, hes, hsz, hent, hinc⟩ := map_of r.heap hm
  have hborn : ∀ i e, es[i]? = some e → bornA g i = e.born := fun i e hi => by
    obtain ⟨e', h1, _, _, h4, _⟩ := hent i (by rw [← hsz]; exact (Array.getElem?_eq_some_iff.1 hi).1)
    rw [h1] at hi
    cases hi
    unfold bornA
    rw [h4]
    simp
  have hold : ∀ x ∈ es.toList, x.born < c := fun x hx => by
    obtain ⟨i, hi, rfl⟩ := List.getElem_of_mem hx
    have hi' : i < es.size := by simpa using hi
    obtain ⟨e', h1, _, _, _, h5⟩ := hent i (by omega)
    rw [Array.getElem?_eq_getElem hi'] at h1
    simp only [Option.some.injEq] at h1
    simp only [Array.getElem_toList, h1]
    exact h5
  have hseen : ∀ i e, es[i]? = some e → ((is.map (bornA g)).toArray.contains e.born = true ↔ i ∈ is) := fun i e hi => by
    simp only [List.contains_toArray, List.contains_iff_mem, List.mem_map]
    constructor
    · rintro ⟨j, hj, hje⟩
      obtain ⟨e', h1, _⟩ := hent j (hlt j hj)
      rw [hborn j e' h1] at hje
      rw [← born_ne (b := b) (n := n) (c := c) (g := g) hinc h1 hi hje]
      exact hj
    · exact fun hj => ⟨i, hj, hborn i e hi⟩
  rcases run_next_at (P := P) w o.type b m c c (is.map (bornA g)).toArray es c he hes hold (Nat.le_refl _) with ⟨h1, h2⟩ | ⟨e, h1, w1, h2, h3⟩
  · have hrun : (execOp a.eval o).run P w = .ok (.value (.tuple #[.bool false])) w := by
      unfold execOp
      simp only [ho, hx', Sem.run_bind, h2, Result.andThen_ok, Sem.run_pure]
    unfold Oper.wp
    rw [hrun]
    refine hn _ _ _ _ (hk' fun i hi => ?_) (r.put_same hd ⟨_, rfl, rfl, fun j hj => ⟨.bool false, ?_, rfl⟩⟩)
    · obtain ⟨e, h4, _⟩ := hent i hi
      refine Classical.byContradiction fun hni => ?_
      have h5 : e ∈ leftOf es (is.map (bornA g)).toArray := by
        unfold leftOf
        rw [Array.mem_filter]
        refine ⟨Array.mem_of_getElem? h4, ?_⟩
        cases hc : (is.map (bornA g)).toArray.contains e.born with
        | false => rfl
        | true => exact absurd ((hseen i e h4).1 hc) hni
      rw [Array.eq_empty_of_size_eq_zero h1] at h5
      simp at h5
    · have : j = 0 := by omega
      subst this
      rfl
  · have h4 : e ∈ es ∧ (is.map (bornA g)).toArray.contains e.born = false := by
      have : e ∈ leftOf es (is.map (bornA g)).toArray := by simpa using h1
      unfold leftOf at this
      rw [Array.mem_filter] at this
      refine ⟨this.1, ?_⟩
      simpa using this.2
    obtain ⟨i, hi, hie⟩ := Array.getElem_of_mem h4.1
    have hie' : es[i]? = some e := by rw [Array.getElem?_eq_getElem hi, hie]
    have hni : i ∉ is := fun hc => by have := (hseen i e hie').2 hc; rw [h4.2] at this; cases this
    obtain ⟨e', f1, f2, f3, f4, f5⟩ := hent i (by omega)
    rw [hie'] at f1
    cases f1
    have hw1 : w1.heap = w.heap ∧ Io w w1 := by rcases h2 with rfl | rfl <;> exact ⟨rfl, rfl, rfl, rfl⟩
    obtain ⟨w', hw'⟩ : ∃ w' : World, w' = Go.ChangeMaps.setBlock w1 b (.mapIter (some m) c ((is.map (bornA g)).toArray.push e.born) c) := ⟨_, rfl⟩
    rw [← hw'] at h3
    have hrun : (execOp a.eval o).run P w = .ok (.value (.tuple #[.bool true, e.key, e.val])) w' := by
      unfold execOp
      simp only [ho, hx', Sem.run_bind, h3, Result.andThen_ok, Sem.run_pure]
    have hblt : b < w.heap.size := (Array.getElem?_eq_some_iff.1 he).1
    have hh' : w'.heap = w.heap.setIfInBounds b (.mapIter (some m) c ((is.map (bornA g)).toArray.push e.born) c) := by rw [hw', ← hw1.1]; rfl
    have hpush : (is.map (bornA g)).toArray.push e.born = ((is ++ [i]).map (bornA g)).toArray := by rw [← hborn i e hie']; simp
    have hwb : w'.heap[b]? = some (.mapIter (some m) c ((is ++ [i]).map (bornA g)).toArray c) := by rw [hh', ← hpush]; simp [hblt]
    have hoth : ∀ k, k ≠ b → w'.heap[k]? = w.heap[k]? := fun k hkb => by rw [hh']; simp [Ne.symm hkb]
    have hsz' : w.heap.size ≤ w'.heap.size := by rw [hh']; simp
    have io : Io w w' := by rw [hw']; exact ⟨hw1.2.os, hw1.2.tape, hw1.2.output⟩
    have hnc : ∀ c ty fr, w.heap[b]? ≠ some (.cells c ty fr) := fun c ty fr e => by rw [he] at e; cases e
    have st := stp_other (h := h) (o' := mitOb m c ((is ++ [i]).map (bornA g))) hb rfl hnc hoth hsz'
    unfold Oper.wp
    rw [hrun]
    refine hn _ _ _ _ (hk i (by omega) hni) (r.putD hd ⟨_, rfl, rfl, fun j hj => ?_⟩ st (relH_other r.heap st hoth (held_mit hwb)) io)
    match j, hj with
    | 0, _ => exact ⟨_, rfl, rfl⟩
    | 1, _ => exact ⟨_, rfl, f2.step st⟩
    | 2, _ => exact ⟨_, rfl, f3.step st⟩
theorem entry_sound {o : Oper} {it : Operand} (ho : o.op = .entry it) (hd : dOk N o.dst = true) {b m n c i : Nat} {g : Nat → Nat → AV} {is : List Nat} (hx : ev T it = .v (.pointer (some ⟨b, 0, none⟩)))
    (hb : h b = some (mitOb m c ((is ++ [i]).map (bornA g)))) (hm : h m = some (mapOb n c g)) (hlt : i < n) (hk : K (putD T o.dst (tup2 (g i 0) (g i 1))) h)
    (r : Rel w0 h0 N T h a w) (hn : ∀ T' h' a' w', K T' h' → Rel w0 h0 N T' h' a' w' → next a' w') : o.wp P a w next Q := by
  have hx' : a.eval it = .pointer (some ⟨b, 0, none⟩) := by have := r.ev it; rw [hx] at this; exact this
  have he := mit_of r.heap hb
  obtain ⟨es, hes, hsz, hent, hinc⟩ := map_of r.heap hm
  obtain ⟨e, f1, f2, f3, f4, f5⟩ := hent i hlt
  have hbe : bornA g i = e.born := by unfold bornA; rw [f4]; simp
  have hpush : ((is ++ [i]).map (bornA g)).toArray = (is.map (bornA g)).toArray.push e.born := by rw [← hbe]; simp
  rw [hpush] at he
  have hnd : (es.toList.map (·.born)).Nodup := by
    rw [List.nodup_iff_pairwise_ne, List.pairwise_map, List.pairwise_iff_getElem]
    intro i j hi hj hij
    have := hinc i j es[i] es[j] hij (Array.getElem?_eq_getElem (by simpa using hi)) (Array.getElem?_eq_getElem (by simpa using hj))
    simp only [Array.getElem_toList]
    omega
  have hmem : e ∈ es.toList := by simpa using Array.mem_of_getElem? f1
  have hrun : (execOp a.eval o).run P w = .ok (.value (.tuple #[e.key, e.val])) w := by
    unfold execOp
    simp only [ho, hx', Sem.run_bind, run_entry_at w b m c _ es c e he hes hmem hnd, Result.andThen_ok, Sem.run_pure]
  unfold Oper.wp
  rw [hrun]
  refine hn _ _ _ _ hk (r.put_same hd ⟨_, rfl, rfl, fun j hj => ?_⟩)
  match j, hj with
  | 0, _ => exact ⟨_, rfl, f2⟩
  | 1, _ => exact ⟨_, rfl, f3⟩
theorem bytes_sound {o : Oper} {src dst e : TypeId} {x : Operand} (ho : o.op = .convert src dst x) (hd : dOk N o.dst = true) (h1 : P.underlying src = some .string) (h2 : P.underlying dst = some (.slice e)) (h3 : P.underlying e = some (.int .u8)) {s : ByteArray} (hx : ev T x = .v (.string s)) (hs : s.size ≤ 140737488355328)
    (hk : K (putD T o.dst (.sl 1 s.size fun i _ => .v (.int .u8 (s.data.toList.getD i 0).toNat))) h)
    (r : Rel w0 h0 N T h a w) (hn : ∀ T' h' a' w', K T' h' → Rel w0 h0 N T' h' a' w' → next a' w') : o.wp P a w next Q := by
  have hx' : a.eval x = .string s := by have := r.ev x; rw [hx] at this; exact this
  have hrun : (execOp a.eval o).run P w = .ok (.value (.slice (some ⟨w.heap.size, 0, none⟩) s.size (grownCap w s.size 0 e))) (Lib.bytesWorld w e s) := by
    unfold execOp
    simp only [ho, hx', Sem.run_bind, Lib.run_convert_string_bytes w src dst e s h1 h2 h3, Result.andThen_ok, Sem.run_pure]
  have hsz : w.heap.size ≤ (Lib.bytesWorld w e s).heap.size := by rw [Lib.bytesWorld_size]; omega
  have hold := fun b hb => Lib.bytesWorld_at_old w e s b hb
  have st := Stp.grow r.heap hsz hold
  unfold Oper.wp
  rw [hrun]
  refine hn _ _ _ _ hk (r.putD hd ⟨_, _, rfl, ?_, hs, fun h0 => ⟨w.heap.size, 0, rfl, hp_fresh r.heap, by rw [Lib.bytesWorld_size]; omega, fun i hi j hj => ?_⟩⟩ st (r.heap.grow hsz hold) ⟨rfl, rfl, rfl⟩)
  · exact grownCap_ge w _ _ _
  · obtain rfl : j = 0 := by omega
    exact ⟨_, by rw [show 0 + (i * 1 + 0) = i by omega]; exact Lib.bytesWorld_cell w e s i hi, rfl, rfl⟩
theorem XW2_sound {o : Oper} (hd : dOk N o.dst = true) (hx : XW2 P N o T h K) (r : Rel w0 h0 N T h a w) (hn : ∀ T' h' a' w', K T' h' → Rel w0 h0 N T' h' a' w' → next a' w') : o.wp P a w next Q := by
  unfold XW2 at hx
  split at hx
  · rename_i t ho
    exact makeMap_sound ho hd (fun y hy => by cases hy) hx.2 r hn
  · rename_i t x ho
    refine makeMap_sound ho hd (fun y hy => ?_) hx.2 r hn
    simp only [Option.some.injEq] at hy
    subst hy
    have h1 := hx.1
    split at h1
    · rename_i a b k n hu he; exact ⟨⟨a, b, hu⟩, k, n, he⟩
    · exact h1.elim
  · rename_i t x i ck ho
    split at hx
    · rename_i kt et hu
      obtain ⟨n, c, g, q, z, b, h1, h2, h3, h4, h5, h6⟩ := hx
      exact lookup_sound ho hd hu h1 h2 h3 h4 h5 h6 r hn
    · exact hx.elim
  · rename_i t m k x ho
    split at hx
    · rename_i kt et hu
      obtain ⟨n, c, g, q, b, h1, h2, h3, h4, h5⟩ := hx
      exact mapUpdate_sound (.inl ho) hd hu h1 h2 h3 h4 h5 r hn
    · exact hx.elim
  · rename_i t m k x ho
    split at hx
    · rename_i kt et hu
      obtain ⟨n, c, g, q, b, h1, h2, h3, h4, h5⟩ := hx
      exact mapUpdate_sound (.inr ho) hd hu h1 h2 h3 h4 h5 r hn
    · exact hx.elim
  · rename_i args tys ho
    split at hx
    · rename_i x t ha hty
      split at hx
      · rename_i kt et hu
        obtain ⟨n, c, g, b, h1, h2, h3⟩ := hx
        exact mapLen_sound ho ha hty hd hu h1 h2 h3 r hn
      · exact hx.elim
    · exact hx.elim
  · rename_i args tys ho
    split at hx
    · rename_i x k t t' ha hty
      split at hx
      · rename_i kt et hu
        obtain ⟨n, c, g, q, b, h1, h2, h3, h4, h5⟩ := hx
        exact delete_sound ho ha hty hd hu h1 h2 h3 h4 h5 r hn
      · exact hx.elim
    · exact hx.elim
  · rename_i args tys ho
    split at hx
    · rename_i x t ha hty
      obtain ⟨e, z, b, off, n, ob, h1, h2, h3, h4, h5, h6, h7⟩ := hx
      exact clear_sound ho ha hty hd h1 h2 h3 h4 h5 h6 h7 r hn
    · exact hx.elim
  · rename_i t l c ho
    split at hx
    · rename_i e hu
      split at hx
      · rename_i s z by_ hz hb
        obtain ⟨n, c', h1, h2, h3, h4, h5, h6⟩ := hx
        exact makeSlice_sound ho hd hu hz hb h1 h2 h3 h4 h5 h6 r hn
      · exact hx.elim
    · exact hx.elim
  · rename_i t x ho
    unfold XRange at hx
    split at hx
    · rename_i k e hu
      obtain ⟨m, n, c, g, h1, h2, h3⟩ := hx
      exact rangeMap_sound ho hd hu h1 h2 h3 r hn
    · rename_i hu
      obtain ⟨s, h2, h3⟩ := hx
      exact range_sound ho hd hu h2 h3 r hn
    · exact hx.elim
  · rename_i it ho
    obtain ⟨b, m, n, c, g, is, h1, h2, h3, h4, h5, h6⟩ := hx
    exact nextMap_sound ho hd h1 h2 h3 h4 h5 h6 r hn
  · rename_i it ho
    obtain ⟨b, m, n, c, g, is, i, h1, h2, h3, h4, h5⟩ := hx
    exact entry_sound ho hd h1 h2 h3 h4 h5 r hn
  · rename_i it ho
    obtain ⟨b, s, pos, h1, h2, h3, h4⟩ := hx
    exact next_sound ho hd h1 h2 h3 h4 r hn
  · rename_i src dst x ho
    obtain ⟨h1, e, s, h2, h3, h4, h5, h6⟩ := hx
    exact bytes_sound ho hd h1 h2 h3 h4 h5 h6 r hn
  · rename_i op t x y t' ho
    obtain ⟨rfl, e, s, f, hu, h1, h2, hk⟩ := hx
    have rx := r.ev x
    rw [h1] at rx
    obtain ⟨A, c, hxe, _⟩ := rx
    have ry : a.eval y = .slice none 0 0 := by have := r.ev y; rw [h2] at this; exact this
    have hrun : (execOp a.eval o).run P w = .ok (.value (.bool A.isNone)) w := by
      unfold execOp
      simp only [ho]
      show ((do let z ← (do eqGuard .eql t x y (a.eval x) (a.eval y); binOp .eql t (a.eval x) (a.eval y)); pure (Next.value z)) : Sem Next).run P w = _
      rw [hxe, ry, Sem.run_bind, Sem.run_bind, eqGuard_of (by simp) (by simp)]
      have he := equal_slices hu (A := A) (B := (none : Option Addr)) (n := 0) (c := c) (m := 0) (d := 0) (.inr rfl) w
      simp only [Result.andThen_ok, binOp, Sem.run_bind, he, Sem.run_pure, Option.isNone_none, Bool.and_true]
    unfold Oper.wp
    rw [hrun]
    exact hn _ _ _ _ (hk _) (r.put_same hd rfl)
  · exact hx.elim
end
end Go.Proofs.YtmalhikcdideoaaGreatDoor.Sl
