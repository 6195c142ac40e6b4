/- The semantic layer, seventh part: append is sound. -/
import Derived.Test.YtmalhikcdideoaaGreatDoorSlF
import Derived.Lib.AppendStr
set_option linter.unusedVariables false
set_option linter.unusedSimpArgs false
namespace Go.Proofs.YtmalhikcdideoaaGreatDoor.Sl
open Go Go.RowKit

theorem upd_upd {α : Type} (T : Nat → α) (d : Nat) (x y : α) : upd (upd T d x) d y = upd T d y := by
  funext i
  unfold upd
  split <;> rfl

section
variable {P : Program} {N : Nat} {w0 : World} {h0 : Hp} {T : Nat → AV} {h : Hp} {a : Act} {w : World}
variable {K : (Nat → AV) → Hp → Prop} {next : Act → World → Prop} {Q : Exit → Act → World → Prop}

theorem append_run {t e : TypeId} {i : TypeInfo} {z : Value} (ht : P.underlying t = some (.slice e)) (hi : P.info? e = some i) (hz : i.zero = some z) (A : Option Addr) (c : Nat) (ty : TypeId) :
    ((Builtin.append_ #[t, t] ty #[.slice none 0 0, .slice A 0 c]).run P w = .ok (.slice none 0 0) w) ∧
    ∀ b n cap, n ≤ cap → (Builtin.append_ #[t, t] ty #[.slice (some b) n cap, .slice A 0 c]).run P w = .ok (.slice (some b) n cap) w := by
  have hf : (Builtin.firstCells i.size 0 (.slice A 0 c)).run P w = .ok #[] w := by
    cases A <;> simp [Builtin.firstCells, loadCells, loadCellsFrom]
  refine ⟨?_, fun b n cap hn => ?_⟩
  · simp [Builtin.append_, run_underlying ht, sizeOf, typeInfo, hi, Builtin.lenOf, hf]
  · simp [Builtin.append_, run_underlying ht, sizeOf, typeInfo, hi, Builtin.lenOf, hf, hn, storeCells]

theorem append_op {o : Oper} {s x : Operand} {t t' : TypeId} {tys : Array TypeId} {args : Array Operand} (ho : o.op = .call ⟨.builtin .append, args, tys⟩) (ha : args.toList = [s, x]) (hty : tys.toList = [t, t']) {u : Value} {w' : World}
    (hr : (Builtin.append_ #[t, t'] o.type #[a.eval s, a.eval x]).run P w = .ok u w') : (execOp a.eval o).run P w = .ok (.value u) w' := by
  have ha' : args = #[s, x] := by rw [← Array.toList_inj]; simpa using ha
  have ht' : tys = #[t, t'] := by rw [← Array.toList_inj]; simpa using hty
  subst ha'; subst ht'
  unfold execOp
  simp [ho, resolve, invoke, builtin, hr]

theorem cells_mid {l1 l2 l3 : List Value} {p : Nat} (hp : l1.length ≤ p) (hp2 : p < l1.length + l2.length) : (l1 ++ l2 ++ l3)[p]? = l2[p - l1.length]? := by
  rw [List.append_assoc, List.getElem?_append_right hp, List.getElem?_append_left (by omega)]
theorem lt_mul_of {i n j s : Nat} (hi : i < n) (hj : j < s) : i * s + j < n * s := by
  have h1 : (i + 1) * s ≤ n * s := Nat.mul_le_mul_right _ hi
  rw [Nat.add_mul, Nat.one_mul] at h1
  omega

/-- What an append takes: that many cells, and how the machine appends them. -/
structure SrcRun (P : Program) (w : World) (h : Hp) (t t' ty e : TypeId) (X : Value) (sz m : Nat) (g : Nat → Nat → AV) : Prop where
  out : ∀ (i : TypeInfo) (zv : Value), P.info? e = some i → i.zero = some zv → i.size = sz → ∃ news : List Value, news.length = m * sz ∧ (∀ y ∈ news, y.oneCell' = true) ∧
    (∀ k, k < m → ∀ j, j < sz → ∃ y, news[k * sz + j]? = some y ∧ Rd w h (g k j) y) ∧
    (m = 0 → (Builtin.append_ #[t, t'] ty #[.slice none 0 0, X]).run P w = .ok (.slice none 0 0) w) ∧
    (m = 0 → ∀ b n cap, n ≤ cap → (Builtin.append_ #[t, t'] ty #[.slice (some b) n cap, X]).run P w = .ok (.slice (some b) n cap) w) ∧
    (0 < m → (m : Int) ≤ 9223372036854775807 → m * i.bytes ≤ 281474976710656 → (Builtin.append_ #[t, t'] ty #[.slice none 0 0, X]).run P w =
      .ok (.slice (some ⟨w.heap.size, 0, none⟩) m (grownCap w m 0 e)) (w.drew.alloc (.cells (news.toArray ++ Builtin.zeroCells zv.cells (grownCap w m 0 e - m)) e))) ∧
    (0 < m → ∀ (b0 : Addr) (n cap : Nat) (olds : List Value), olds.length = n * i.size → (∀ j v, olds[j]? = some v → w.cell? (b0.add j) = some v) → cap < n + m → ((n + m : Nat) : Int) ≤ 9223372036854775807 → Builtin.nextslicecap (n + m) cap * i.bytes ≤ 281474976710656 →
      (Builtin.append_ #[t, t'] ty #[.slice (some b0) n cap, X]).run P w = .ok (.slice (some ⟨w.heap.size, 0, none⟩) (n + m) (grownCap w (n + m) cap e))
        (w.drew.alloc (.cells (olds.toArray ++ news.toArray ++ Builtin.zeroCells zv.cells (grownCap w (n + m) cap e - (n + m))) e))) ∧
    (0 < m → ∀ (b0 n cap : Nat) (cur : Array Value), w.heap[b0]? = some (.cells cur e (0, 0)) → n + m ≤ cap → n * i.size + news.length ≤ cur.size →
      (Builtin.append_ #[t, t'] ty #[.slice (some ⟨b0, 0, none⟩) n cap, X]).run P w = .ok (.slice (some ⟨b0, 0, none⟩) (n + m) cap) (w.setRow b0 (cur.toList.take (n * i.size) ++ news ++ cur.toList.drop (n * i.size + news.length)).toArray))
theorem SrcRun.ofA (hh : RelH w h) {t e ty : TypeId} (hu : P.underlying t = some (.slice e)) {sz m : Nat} (hs : 0 < sz) {g : Nat → Nat → AV} {x : AV} {X : Value} (hx : srcA h sz x = some (m, g)) (hr : Rd w h x X) : SrcRun P w h t t ty e X sz m g := by
  obtain ⟨A, c, rfl, hmc, hnews⟩ := src_reads hh hs hx hr
  refine ⟨fun i zv hi hzv hiz => ?_⟩
  rcases Nat.eq_zero_or_pos m with hm | hm
  · subst hm
    have z := append_run (w := w) hu hi hzv A c ty
    exact ⟨[], by simp, fun y hy => by simp at hy, fun k hk => absurd hk (by omega), fun _ => z.1, fun _ => z.2, fun h => absurd h (by omega), fun h => absurd h (by omega), fun h => absurd h (by omega)⟩
  · obtain ⟨ad, rfl, news, hl, hcell, h1, hrd⟩ := hnews hm
    refine ⟨news, hl, h1, hrd, fun h => absurd h (by omega), fun h => absurd h (by omega), fun _ k1 k2 => ?_, fun _ b0 n cap olds k1 k2 k3 k4 k5 => ?_, fun _ b0 n cap cur k1 k2 k3 => ?_⟩
    · exact run_append_nil (P := P) w t ty e i zv hu hi hzv ad m c news (by rw [hiz]; exact hl) hcell hm k1 k2
    · exact run_append_grow (P := P) w t ty e i zv hu hi hzv b0 n cap olds k1 k2 ad m c news (by rw [hiz]; exact hl) hcell k3 k4 k5
    · exact run_append_room (P := P) w t ty e i hu hi b0 n cap cur k1 ad m c news (by rw [hiz]; exact hl) hcell h1 k2 k3
/-- The bytes of a text. -/
def bytesF (b : ByteArray) : Nat → Nat → AV := fun i _ => .v (.int .u8 (b.data.toList.getD i 0).toNat)
theorem SrcRun.str {t t' e ty : TypeId} (hu : P.underlying t = some (.slice e)) (hu' : P.underlying t' = some .string) (b : ByteArray) : SrcRun P w h t t' ty e (.string b) 1 b.size (bytesF b) := by
  refine ⟨fun i zv hi hzv hiz => ⟨Lib.strCells b, by rw [Lib.strCells_length]; simp, Lib.strCells_oneCell b, fun k hk j hj => ?_, fun hm => ?_, fun hm b0 n cap hn => ?_, fun hm k1 k2 => ?_, fun hm b0 n cap olds k1 k2 k3 k4 k5 => ?_, fun hm b0 n cap cur k1 k2 k3 => ?_⟩⟩
  · obtain rfl : j = 0 := by omega
    have hk' : k < b.data.toList.length := hk
    refine ⟨.int .u8 (b.data.toList[k]).toNat, ?_, ?_⟩
    · rw [Nat.mul_one, Nat.add_zero, Lib.strCells, List.getElem?_map, List.getElem?_eq_getElem hk']
      rfl
    · show _ = _
      rw [List.getD_eq_getElem?_getD, List.getElem?_eq_getElem hk']
      rfl
  · have hf := Lib.run_firstCells_string (P := P) (w := w) 1 b
    rw [hm] at hf
    have e0 : Lib.strCells b = [] := List.length_eq_zero_iff.1 (by rw [Lib.strCells_length, hm])
    rw [e0] at hf
    simp [Builtin.append_, run_underlying hu, run_underlying hu', sizeOf, typeInfo, hi, Builtin.lenOf, hm, hiz, hf]
  · have hf := Lib.run_firstCells_string (P := P) (w := w) 1 b
    rw [hm] at hf
    have e0 : Lib.strCells b = [] := List.length_eq_zero_iff.1 (by rw [Lib.strCells_length, hm])
    rw [e0] at hf
    simp [Builtin.append_, run_underlying hu, run_underlying hu', sizeOf, typeInfo, hi, Builtin.lenOf, hm, hiz, hf, hn, storeCells]
  · have := run_append_nil_string (P := P) w t t' ty e i zv hu hu' hi hzv b hm k1 k2
    rw [this, show b.data.map (fun b => Value.int .u8 b.toNat) = (Lib.strCells b).toArray from Array.ext' (by simp [Lib.strCells])]
  · exact Lib.run_append_grow_string (P := P) w t t' ty e i zv hu hu' hi hzv b0 n cap olds k1 k2 b k3 k4 k5
  · have := Lib.run_append_room_string (P := P) w t t' ty e i hu hu' hi hiz b0 n cap cur k1 b k2 (by rw [hiz, Lib.strCells_length] at k3; omega)
    rw [this, hiz, Lib.strCells_length, Nat.mul_one]

theorem append_nil_sound {o : Oper} {s x : Operand} {t t' e : TypeId} {tys : Array TypeId} {args : Array Operand} (ho : o.op = .call ⟨.builtin .append, args, tys⟩) (ha : args.toList = [s, x]) (hty : tys.toList = [t, t']) (hd : dOk N o.dst = true)
    (hu : P.underlying t = some (.slice e)) {sz : Nat} {z : List Value} (hz : zeroA P e = some (sz, z)) {bts : Nat} (hby : bytesT P e = some bts) {m : Nat} {g : Nat → Nat → AV} (hS : SrcRun P w h t t' o.type e (a.eval x) sz m g)
    {A0 : Option Addr} {x0 : AV} (hs' : a.eval s = .slice A0 0 0) (hx0 : Rd w h x0 (.slice A0 0 0)) (hb1 : m * bts ≤ 140737488355328) (hb2 : m ≤ 140737488355328)
    (hk0 : m = 0 → K (putD T o.dst x0) h) (hk : 0 < m → ∀ b, h b = none → K (putD T o.dst (.row b sz 0 m)) (upd h b (some ⟨e, sz, m, g⟩)))
    (r : Rel w0 h0 N T h a w) (hn : ∀ T' h' a' w', K T' h' → Rel w0 h0 N T' h' a' w' → next a' w') : o.wp P a w next Q := by
  unfold zeroA at hz
  split at hz
  · rename_i i hi
    split at hz
    · rename_i zv hzv
      split at hz
      · rename_i hcond
        simp only [Option.some.injEq, Prod.mk.injEq] at hz
        obtain ⟨rfl, hz2⟩ := hz
        have hbts : i.bytes = bts := by simpa [bytesT, hi] using hby
        obtain ⟨news, hl, h1, hrd, s0, s1, snil, sgrow, sroom⟩ := hS.out i zv hi hzv rfl
        unfold Oper.wp
        rcases Nat.eq_zero_or_pos m with hm | hm
        · subst hm
          have hrun : (Builtin.append_ #[t, t'] o.type #[.slice A0 0 0, a.eval x]).run P w = .ok (.slice A0 0 0) w := by
            cases A0 with
            | none => exact s0 rfl
            | some b0 => exact s1 rfl b0 0 0 (Nat.le_refl _)
          rw [append_op ho ha hty (by rw [hs']; exact hrun)]
          exact hn _ _ _ _ (hk0 rfl) (r.put_same hd hx0)
        · have hrun : (Builtin.append_ #[t, t'] o.type #[.slice A0 0 0, a.eval x]).run P w = .ok (.slice (some ⟨w.heap.size, 0, none⟩) m (grownCap w m 0 e)) (w.drew.alloc (.cells (news.toArray ++ Builtin.zeroCells zv.cells (grownCap w m 0 e - m)) e)) := by
            cases A0 with
            | none => exact snil hm (by omega) (by rw [hbts]; omega)
            | some b0 =>
              have := sgrow hm b0 0 0 [] (by simp) (by simp) (by omega) (by omega) (by rw [Nat.zero_add, nextslicecap_zero hm, hbts]; omega)
              simpa using this
          rw [append_op ho ha hty (by rw [hs']; exact hrun)]
          have hge := grownCap_ge w m 0 e
          have hcm : grownCap w m 0 e ≤ maxLen := grownCap_le_maxLen w m 0 e (by simp only [maxLen]; omega)
          have std : Stp w h w.drew h := Stp.grow r.heap (Nat.le_refl _) (fun _ _ => rfl)
          have r' : Rel w0 h0 N T h a w.drew := ⟨r.size, r.defers, fun i => (r.slots i).step std, r.heap.grow (Nat.le_refl _) (fun _ _ => rfl), r.io.trans ⟨rfl, rfl, rfl⟩, r.stp.trans (Stp.grow r.heap (Nat.le_refl _) (fun _ _ => rfl))⟩
          have hzs : zv.cells.size = i.size := hcond.1
          have hsz : (news.toArray ++ Builtin.zeroCells zv.cells (grownCap w m 0 e - m)).size = grownCap w m 0 e * i.size := by
            simp only [Array.size_append, List.size_toArray, size_zeroCells, hl, hzs, ← Nat.add_mul]
            congr 1
            omega
          refine hn _ _ _ _ (hk hm w.heap.size (hp_fresh r.heap)) (new_block r' hd (o := ⟨e, i.size, m, g⟩) ?_ hcond.2.1 (fun i' hi' j hj => ?_) ?_)
          · rw [hsz]; exact Nat.mul_le_mul_right _ hge
          · simp only at hi' hj ⊢
            obtain ⟨y, hy, hyr⟩ := hrd i' hi' j hj
            refine ⟨y, ?_, h1 y (List.mem_of_getElem? hy), hyr.step std⟩
            rw [Array.getElem?_append_left (by simp only [List.size_toArray, hl]; exact lt_mul_of hi' hj)]
            simpa using hy
          · refine ⟨grownCap w m 0 e, by simp, hge, by simp, by simp only [maxLen] at hcm; omega, fun o' ho' => ?_⟩
            rw [show w.heap.size = w.drew.heap.size from rfl, upd_same] at ho'
            simp only [Option.some.injEq] at ho'; subst ho'
            exact ⟨_, (0, 0), heap_alloc_new w.drew _, by rw [hsz]; simp⟩
      · cases hz
    · cases hz
  · cases hz

theorem append_row_sound {o : Oper} {s x : Operand} {t t' e : TypeId} {tys : Array TypeId} {args : Array Operand} (ho : o.op = .call ⟨.builtin .append, args, tys⟩) (ha : args.toList = [s, x]) (hty : tys.toList = [t, t']) (hd : dOk N o.dst = true)
    (hu : P.underlying t = some (.slice e)) {sz : Nat} {z : List Value} (hz : zeroA P e = some (sz, z)) {bts : Nat} (hby : bytesT P e = some bts) {m : Nat} {g : Nat → Nat → AV} (hS : SrcRun P w h t t' o.type e (a.eval x) sz m g)
    {b n : Nat} (hs : ev T s = .row b sz 0 n) {ob : Ob} (hob : h b = some ob) (hos : ob.s = sz) (hot : ob.ty = e) (hon : ob.n = n) (hb1 : (n + m) * bts ≤ 140737488355328) (hb2 : n + m ≤ 140737488355328)
    (hk : ∀ b', (b' = b ∨ h b' = none) → K (putD T o.dst (.row b' sz 0 (n + m))) (upd (upd h b none) b' (some ⟨e, sz, n + m, fun i j => if i < n then ob.f i j else g (i - n) j⟩)))
    (r : Rel w0 h0 N T h a w) (hn : ∀ T' h' a' w', K T' h' → Rel w0 h0 N T' h' a' w' → next a' w') : o.wp P a w next Q := by
  have hsr := r.ev s
  rw [hs] at hsr
  obtain ⟨cap, hse, hncap, hblt, hcapm, hcapc⟩ := hsr
  obtain ⟨c0, fr0, hc0, hcs⟩ := hcapc ob hob
  obtain ⟨cur, hcur, hcn, hop, hcell⟩ := r.heap.cells hob (.inr (by rw [hos]; exact zeroA_pos hz))
  have hcc : c0 = cur := by
    rw [hc0] at hcur
    injection hcur with hcur
    injection hcur with e1 e2 e3
  subst hcc
  simp only [Nat.zero_add, Nat.zero_mul] at hcs hse hcapm
  subst hot; subst hon; subst hos
  have newf : ∀ (cs : Array Value) (news : List Value), (∀ i, i < ob.n → ∀ j, j < ob.s → cs[i * ob.s + j]? = c0[i * ob.s + j]?) → (∀ i, i < m → ∀ j, j < ob.s → cs[(ob.n + i) * ob.s + j]? = news[i * ob.s + j]?) → (∀ y ∈ news, y.oneCell' = true) →
      (∀ i, i < m → ∀ j, j < ob.s → ∃ y, news[i * ob.s + j]? = some y ∧ Rd w h (g i j) y) →
      ∀ i, i < ob.n + m → ∀ j, j < ob.s → ∃ x, cs[i * ob.s + j]? = some x ∧ x.oneCell' = true ∧ Rd w h (if i < ob.n then ob.f i j else g (i - ob.n) j) x := by
    intro cs news k1 k2 k3 k4 i hi j hj
    by_cases hlt : i < ob.n
    · rw [if_pos hlt, k1 i hlt j hj]
      exact hcell i hlt j hj
    · rw [if_neg hlt]
      obtain ⟨y, hy, hyr⟩ := k4 (i - ob.n) (by omega) j hj
      refine ⟨y, ?_, k3 y (List.mem_of_getElem? hy), hyr⟩
      have := k2 (i - ob.n) (by omega) j hj
      rw [show ob.n + (i - ob.n) = i by omega] at this
      rw [this]; exact hy
  unfold zeroA at hz
  split at hz
  · rename_i i hi
    split at hz
    · rename_i zv hzv
      split at hz
      · rename_i hcond
        simp only [Option.some.injEq, Prod.mk.injEq] at hz
        obtain ⟨hisz, hz2⟩ := hz
        have hbts : i.bytes = bts := by simpa [bytesT, hi] using hby
        obtain ⟨news, hl, h1, hrd, s0, s1, snil, sgrow, sroom⟩ := hS.out i zv hi hzv hisz
        unfold Oper.wp
        rcases Nat.eq_zero_or_pos m with hm | hm
        · subst hm
          rw [append_op ho ha hty (by rw [hse]; exact s1 rfl _ _ _ hncap)]
          have kk := hk b (.inl rfl)
          rw [upd_upd] at kk
          have st := stp_set (o' := ⟨ob.ty, ob.s, ob.n + 0, fun i j => if i < ob.n then ob.f i j else g (i - ob.n) j⟩) hob hcur (w' := w) hcur rfl (fun _ _ _ => rfl) (Nat.le_refl _) rfl
          have rh := relH_set (o' := ⟨ob.ty, ob.s, ob.n + 0, fun i j => if i < ob.n then ob.f i j else g (i - ob.n) j⟩) r.heap hob hcur (w' := w) hcur rfl (fun _ _ _ => rfl) (Nat.le_refl _) rfl (by simpa using hcn) hop
            (newf c0 [] (fun _ _ _ _ => rfl) (fun i hi => absurd hi (by omega)) (fun y hy => by simp at hy) (fun i hi => absurd hi (by omega)))
          refine hn _ _ _ _ kk (r.putD hd ?_ st rh (Io.refl w))
          refine ⟨cap, by simp, by omega, hblt, by omega, fun o' ho' => ?_⟩
          rw [upd_same] at ho'
          simp only [Option.some.injEq] at ho'; subst ho'
          exact ⟨c0, (0, 0), hcur, by simpa using hcs⟩
        · by_cases hroom : ob.n + m ≤ cap
          · have hfit : ob.n * i.size + news.length ≤ c0.size := by rw [hisz, hl, hcs, ← Nat.add_mul]; exact Nat.mul_le_mul_right _ hroom
            have hrun := sroom hm b ob.n cap c0 hcur hroom hfit
            rw [append_op ho ha hty (by rw [hse]; exact hrun)]
            rw [hisz] at hfit ⊢
            have hc' := setRow_heap w b c0 (c0.toList.take (ob.n * ob.s) ++ news ++ c0.toList.drop (ob.n * ob.s + news.length)).toArray ob.ty (0, 0) hcur
            have hsize : (c0.toList.take (ob.n * ob.s) ++ news ++ c0.toList.drop (ob.n * ob.s + news.length)).toArray.size = c0.size := by
              simp only [List.size_toArray, List.length_append, List.length_take, List.length_drop, Array.length_toList]
              omega
            have hoth : ∀ k, k ≠ b → k < w.heap.size → (w.setRow b (c0.toList.take (ob.n * ob.s) ++ news ++ c0.toList.drop (ob.n * ob.s + news.length)).toArray).heap[k]? = w.heap[k]? := fun k hk _ => setRow_other w b k _ hk
            have hgs : w.heap.size ≤ (w.setRow b (c0.toList.take (ob.n * ob.s) ++ news ++ c0.toList.drop (ob.n * ob.s + news.length)).toArray).heap.size := by simp [World.setRow]
            have htl : (c0.toList.take (ob.n * ob.s)).length = ob.n * ob.s := by simp only [List.length_take, Array.length_toList]; omega
            have kk := hk b (.inl rfl)
            rw [upd_upd] at kk
            have st := stp_set (o' := ⟨ob.ty, ob.s, ob.n + m, fun i j => if i < ob.n then ob.f i j else g (i - ob.n) j⟩) hob hcur hc' hsize hoth hgs rfl
            have rh := relH_set (o' := ⟨ob.ty, ob.s, ob.n + m, fun i j => if i < ob.n then ob.f i j else g (i - ob.n) j⟩) r.heap hob hcur hc' hsize hoth hgs rfl
              (by rw [hsize, hcs]; exact Nat.mul_le_mul_right _ hroom) hop
              (newf _ news (fun i hi j hj => by
                  have hlt := lt_mul_of hi hj
                  rw [List.append_assoc]
                  simp only [List.getElem?_toArray]
                  rw [List.getElem?_append_left (by rw [htl]; exact hlt), List.getElem?_take_of_lt hlt]
                  simp)
                (fun i hi j hj => by
                  have hlt := lt_mul_of hi hj
                  simp only [List.getElem?_toArray]
                  have e1 : (ob.n + i) * ob.s + j = ob.n * ob.s + (i * ob.s + j) := by rw [Nat.add_mul]; omega
                  rw [e1, cells_mid (by rw [htl]; omega) (by rw [htl, hl]; omega), htl]
                  congr 1
                  omega) h1 hrd)
            refine hn _ _ _ _ kk (r.putD hd ?_ st rh ⟨rfl, rfl, rfl⟩)
            refine ⟨cap, by simp, hroom, by simpa [World.setRow] using hblt, by omega, fun o' ho' => ?_⟩
            rw [upd_same] at ho'
            simp only [Option.some.injEq] at ho'; subst ho'
            exact ⟨_, (0, 0), hc', by rw [hsize, hcs]; simp⟩
          · have holds : ∀ (j : Nat) y, (c0.toList.take (ob.n * ob.s))[j]? = some y → w.cell? ((⟨b, 0, none⟩ : Addr).add j) = some y := fun j y hy => by
              rw [Addr.add_mid]
              have hj : j < ob.n * ob.s := by
                have := (List.getElem?_eq_some_iff.1 hy).1
                simp only [List.length_take, Array.length_toList] at this
                omega
              rw [List.getElem?_take_of_lt hj] at hy
              simp only [World.cell?, hcur, Nat.zero_add]
              simpa using hy
            have htl : (c0.toList.take (ob.n * ob.s)).length = ob.n * ob.s := by simp only [List.length_take, Array.length_toList]; omega
            have hrun := sgrow hm ⟨b, 0, none⟩ ob.n cap (c0.toList.take (ob.n * ob.s)) (by rw [hisz]; exact htl) holds (by omega) (by omega) (growslice_fits (by omega) (by rw [hbts]; exact hb1))
            rw [append_op ho ha hty (by rw [hse]; exact hrun)]
            have hge := grownCap_ge w (ob.n + m) cap ob.ty
            have hcm : grownCap w (ob.n + m) cap ob.ty ≤ maxLen := grownCap_le_maxLen w (ob.n + m) cap ob.ty (by simp only [maxLen]; omega)
            have hfo : ∀ k o', upd h b none k = some o' → h k = some o' := fun k o' hk' => by
              by_cases hkb : k = b
              · subst hkb; rw [upd_same] at hk'; cases hk'
              · rw [upd_ne _ _ hkb] at hk'; exact hk'
            have rh1 := relH_forget r.heap hfo
            have st1 : Stp w h w (upd h b none) := stp_forget hfo
            have st2 : Stp w (upd h b none) w.drew (upd h b none) := Stp.grow rh1 (Nat.le_refl _) (fun _ _ => rfl)
            have r' : Rel w0 h0 N T (upd h b none) a w.drew := ⟨r.size, r.defers, fun i => (r.slots i).step (st1.trans st2), rh1.grow (Nat.le_refl _) (fun _ _ => rfl), r.io.trans ⟨rfl, rfl, rfl⟩, r.stp.trans (st1.trans st2)⟩
            have hzs : zv.cells.size = ob.s := hisz ▸ hcond.1
            have hsz : ((c0.toList.take (ob.n * ob.s)).toArray ++ news.toArray ++ Builtin.zeroCells zv.cells (grownCap w (ob.n + m) cap ob.ty - (ob.n + m))).size = grownCap w (ob.n + m) cap ob.ty * ob.s := by
              simp only [Array.size_append, List.size_toArray, size_zeroCells, hl, hzs, htl, ← Nat.add_mul]
              congr 1
              omega
            refine hn _ _ _ _ (hk w.heap.size (.inr (hp_fresh r.heap))) (new_block r' hd (o := ⟨ob.ty, ob.s, ob.n + m, fun i j => if i < ob.n then ob.f i j else g (i - ob.n) j⟩) ?_ hop (fun i' hi' j hj => ?_) ?_)
            · rw [hsz]; exact Nat.mul_le_mul_right _ hge
            · obtain ⟨y, hy, hy1, hyr⟩ := newf ((c0.toList.take (ob.n * ob.s)).toArray ++ news.toArray ++ Builtin.zeroCells zv.cells (grownCap w (ob.n + m) cap ob.ty - (ob.n + m))) news (fun i hi j hj => by
                  have hlt := lt_mul_of hi hj
                  rw [Array.append_assoc, Array.getElem?_append_left (by simp only [List.size_toArray, htl]; exact hlt)]
                  simp only [List.getElem?_toArray]
                  rw [List.getElem?_take_of_lt hlt]
                  simp)
                (fun i hi j hj => by
                  have hlt := lt_mul_of hi hj
                  have e1 : (ob.n + i) * ob.s + j = ob.n * ob.s + (i * ob.s + j) := by rw [Nat.add_mul]; omega
                  rw [e1, Array.getElem?_append_left (by simp only [Array.size_append, List.size_toArray, htl, hl]; omega), Array.getElem?_append_right (by simp only [List.size_toArray, htl]; omega)]
                  simp only [List.size_toArray, htl, List.getElem?_toArray]
                  congr 1
                  omega) h1 hrd i' hi' j hj
              exact ⟨y, hy, hy1, hyr.step (st1.trans st2)⟩
            · refine ⟨grownCap w (ob.n + m) cap ob.ty, by simp, hge, by simp, by simp only [maxLen] at hcm; omega, fun o' ho' => ?_⟩
              rw [show w.heap.size = w.drew.heap.size from rfl, upd_same] at ho'
              simp only [Option.some.injEq] at ho'; subst ho'
              exact ⟨_, (0, 0), heap_alloc_new w.drew _, by rw [hsz]; simp⟩
      · cases hz
    · cases hz
  · cases hz
end
end Go.Proofs.YtmalhikcdideoaaGreatDoor.Sl
