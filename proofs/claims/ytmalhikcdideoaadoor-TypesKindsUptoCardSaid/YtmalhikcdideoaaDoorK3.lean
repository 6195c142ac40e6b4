/- PROVED: the law TypesKinds returns true for every body and every expression, and both read behind the call as they read before (the second form's row, and its tied card). Conditions: what the row itself asks (the seven listed variables of Go's library read as listed; what is read is of bulk at most 1048576). -/
import Derived.Test.YtmalhikcdideoaaDoorK2
import Derived.Test.YtmalhikcdideoaaDoorRows
import Derived.Test.YtmalhikcdideoaaDoorK0
import Derived.Test.YtmalhikcdideoaaDoorK1
import Derived.Test.YtmalhikcdideoaaDoorFactsB
import Derived.WalkKit
import Derived.ProofKit
import Derived.OpenShut
import Derived.KernelRfl
import Derived.ChangeArms
import Derived.MakeChecks
import Derived.Test.YtmalhikcdideoaaDoorCards
import Derived.Test.YtmalhikcdideoaaDoorTie
import Derived.LaidMore
import Derived.Lay
import Derived.ShutString
import Derived.ChangeOld
import Derived.Below
import Derived.SizedLaws
import Derived.SevenTiedAt
import Derived.Deep.DeepHandedRow
set_option linter.unusedVariables false
namespace Go.Proofs.YtmalhikcdideoaaDoor
open Go Go.ChangeShapes Go.WideShapes Sl
def sumL {α : Type} (f : α → Nat) : List α → Nat
  | [] => 0
  | x :: r => f x + sumL f r
theorem sumL_mem {α : Type} {f : α → Nat} : ∀ {l : List α} {x : α}, x ∈ l → f x ≤ sumL f l
  | y :: r, x, h => by
    rw [sumL]
    rcases List.mem_cons.1 h with rfl | h
    · omega
    · have := sumL_mem (f := f) h; omega
theorem sumL_len {α : Type} {f : α → Nat} (hf : ∀ x, 1 ≤ f x) : ∀ l : List α, l.length ≤ sumL f l
  | [] => Nat.le_refl _
  | x :: r => by
    rw [sumL, List.length_cons]
    have := sumL_len hf r
    have := hf x
    omega
theorem bulk_pos {H : Type} (d : DataW H) : 1 ≤ Rows.uptoBulk d := by
  cases d with
  | lit l => cases l <;> simp [Rows.uptoBulk]
  | nil => simp [Rows.uptoBulk]
  | ptr d => simp [Rows.uptoBulk]
  | slice elems spare => simp [Rows.uptoBulk]
  | agg parts => simp [Rows.uptoBulk]
  | iface t d => simp [Rows.uptoBulk]
  | map entries => simp [Rows.uptoBulk]
  | held h => simp [Rows.uptoBulk]
/-- Of each value of this type that can be read: it is told by cells of which Q speaks, and of the value's bulk. -/
def OpensB (P : Program) (w : World) (t : TypeId) (Q : Nat → List AV → Prop) : Prop :=
  ∀ (H : Type) (enc : TypeId × Value → H) (base : Nat) (sp : Nat → Bool) (held : Bool) (fuel : Nat) (cs : List Value) (d : DataW H) (p : List MemPlace),
    DataW.trod enc P w base sp held fuel t cs = some (d, p) → (∀ n ∈ d.weights P t, n ≤ reachBytes) → ∃ l, Q (Rows.uptoBulk d) l ∧ CellsR w cs l
section
variable {P : Program} {w : World} {t e : TypeId}
theorem OpensB.mono {Q Q' : Nat → List AV → Prop} (o : OpensB P w t Q) (h : ∀ n l, Q n l → Q' n l) : OpensB P w t Q' := fun H enc base sp held fuel cs d p ht hw =>
  let ⟨l, h1, h2⟩ := o H enc base sp held fuel cs d p ht hw
  ⟨l, h _ l h1, h2⟩
theorem OpensB.of {Q : List AV → Prop} (o : OpensQ P w t Q) : OpensB P w t fun n l => 1 ≤ n ∧ Q l := fun H enc base sp held fuel cs d p ht hw =>
  let ⟨l, h1, h2⟩ := o H enc base sp held fuel cs d p ht hw
  ⟨l, ⟨bulk_pos d, h1⟩, h2⟩
theorem OpensB.weak {Q Q' : Nat → List AV → Prop} (o : OpensB P w t Q) (h : ∀ n l, Q n l → ∃ l', Q' n l' ∧ l'.length = l.length ∧ ∀ j, l'.getD j .any = l.getD j .any ∨ l'.getD j .any = .any) : OpensB P w t Q' := by
  intro H enc base sp held fuel cs d p ht hw
  obtain ⟨l, h1, h2, h3⟩ := o H enc base sp held fuel cs d p ht hw
  obtain ⟨l', e1, e2, e3⟩ := h _ l h1
  refine ⟨l', e1, by rw [h2, e2], fun j hj => ?_⟩
  obtain ⟨x, f1, f2, f3⟩ := h3 j (by omega)
  refine ⟨x, f1, f2, ?_⟩
  rcases e3 j with e | e
  · rw [e]; exact f3
  · rw [e]; trivial
/-- A slice that is not read. -/
theorem opens_sliceAny (hu : P.underlying t = some (.slice e)) : OpensQ P w t fun l => l = [.any] := by
  intro H enc base sp held fuel cs d p ht hw
  rcases DataW.trod_slice hu ht with ⟨rfl, _⟩ | ⟨a, len, cap, elems, rest, n, _, rfl, _⟩
  · exact ⟨_, rfl, CellsR.one rfl trivial⟩
  · exact ⟨_, rfl, CellsR.one rfl trivial⟩
theorem opensB_string (hu : P.underlying t = some .string) : OpensB P w t fun n l => ∃ s : ByteArray, s.size + 1 ≤ n ∧ l = [.v (.string s)] := by
  intro H enc base sp held fuel cs d p ht hw
  obtain ⟨s, rfl, hd, _⟩ := DataW.trod_string hu ht
  simp only [Prod.mk.injEq] at hd
  obtain ⟨rfl, _⟩ := hd
  refine ⟨_, ⟨s, ?_, rfl⟩, CellsR.one rfl rfl⟩
  have : s.data.toList.length = s.size := Array.length_toList
  simp only [Rows.uptoBulk]
  omega
theorem opensB_i64 (hu : P.underlying t = some (.int .i64)) : OpensB P w t fun n l => ∃ x : Int, (-9223372036854775808 ≤ x ∧ x ≤ 9223372036854775807) ∧ 1 ≤ n ∧ l = [.v (.int .i64 x)] := by
  refine (OpensB.of (opens_int hu)).mono ?_
  rintro n l ⟨h1, x, hw, rfl⟩
  refine ⟨x, ?_, h1, rfl⟩
  have h2 : (IntKind.i64.min ≤ x) ∧ x ≤ IntKind.i64.max := by simpa [Lit.wf] using hw
  have e1 : IntKind.i64.min = -9223372036854775808 := by decide
  have e2 : IntKind.i64.max = 9223372036854775807 := by decide
  omega
theorem typedB {α H : Type} {enc : α → List AV} {ok : α → Prop} {μ : α → Nat} : ∀ (ls : List (List AV)) (ds : List (DataW H)), ls.length = ds.length → (∀ i x, ls[i]? = some x → ∃ y, μ y ≤ Rows.uptoBulk (ds.getD i .nil) ∧ ok y ∧ x = enc y) →
    ∃ ys : List α, ls = ys.map enc ∧ (∀ y ∈ ys, ok y) ∧ sumL μ ys ≤ Rows.uptoBulkAll ds
  | [], _, _, _ => ⟨[], rfl, fun y hy => by simp at hy, by simp [sumL]⟩
  | x :: ls, [], h, _ => by simp at h
  | x :: ls, d :: ds, hl, h => by
    obtain ⟨y, hm, hy, rfl⟩ := h 0 x rfl
    obtain ⟨ys, rfl, hys, hs⟩ := typedB (μ := μ) (ok := ok) (enc := enc) ls ds (by simpa using hl) fun i z hz => h (i + 1) z (by simpa using hz)
    refine ⟨y :: ys, rfl, fun z hz => ?_, ?_⟩
    · rcases List.mem_cons.1 hz with rfl | hz
      · exact hy
      · exact hys z hz
    · simp only [sumL, Rows.uptoBulkAll]
      have : μ y ≤ Rows.uptoBulk d := hm
      omega
theorem opensB_list {α : Type} {enc : α → List AV} {ok : α → Prop} {μ : α → Nat} {s : Nat} (hu : P.underlying t = some (.slice e)) (hs : P.cellsOf e = s) (hs0 : 0 < s) (hb : 0 < P.bytesOf e) (ho : OpensB P w e fun n l => ∃ y, μ y ≤ n ∧ ok y ∧ l = enc y) :
    OpensB P w t fun n l => ∃ ys : List α, sumL μ ys + 1 ≤ n ∧ (∀ y ∈ ys, ok y) ∧ l = [encL s enc ys] := by
  intro H enc' base sp held fuel cs d p ht hw
  rcases DataW.trod_slice hu ht with ⟨rfl, h1, h2⟩ | ⟨a, len, cap, elems, rest, n, _, rfl, hx, hbase, hlc, hcap, hlen, hel, _⟩
  · exact ⟨_, ⟨[], by rw [sumL]; exact bulk_pos _, fun y hy => by simp at hy, rfl⟩, CellsR.one rfl ⟨none, 0, rfl, Nat.le_refl _, by simp, fun h => absurd h (by simp)⟩⟩
  · simp only [Prod.mk.injEq] at hx
    obtain ⟨rfl, _⟩ := hx
    have hwt : (len + rest.length) * P.bytesOf e ≤ reachBytes := by
      have := hw ((elems.length + rest.length) * P.bytesOf e) (by simp [DataW.weights, hu])
      rwa [hlen] at this
    have hlb : len * P.bytesOf e ≤ reachBytes := Nat.le_trans (Nat.mul_le_mul_right _ (by omega)) hwt
    have hln : len ≤ reachBytes := Nat.le_trans (Nat.le_mul_of_pos_right _ hb) hlb
    have each : ∀ i, i < len → ∃ x : List AV, (x.length = s ∧ ∃ y, μ y ≤ Rows.uptoBulk ((elems.map (·.1)).getD i .nil) ∧ ok y ∧ x = enc y) ∧ ∃ ci, w.cells? base (a.add (i * s)) s = some ci ∧ CellsR w ci x := fun i hi => by
      have h1 := hel i hi
      rw [hs, List.getElem?_eq_getElem (by omega)] at h1
      cases hc : w.cells? base (a.add (i * s)) s with
      | none => rw [hc] at h1; simp at h1
      | some ci =>
        rw [hc] at h1
        simp only [Option.bind_some] at h1
        have hmem : elems[i].1 ∈ elems.map (·.1) := List.mem_map.2 ⟨elems[i], List.getElem_mem _, rfl⟩
        obtain ⟨x, hq, hr⟩ := ho H enc' base sp held n ci elems[i].1 elems[i].2 h1 fun m hm => hw m (by
          simp only [DataW.weights, hu, List.mem_cons, List.mem_append]
          exact .inr (.inl (weightsAll_mem _ _ hmem m hm)))
        have hl := (World.cells?_some hc).2.1
        have hg : (elems.map (·.1)).getD i .nil = elems[i].1 := by
          rw [List.getD_eq_getElem?_getD, List.getElem?_map, List.getElem?_eq_getElem (by omega)]; rfl
        exact ⟨x, ⟨by rw [← hr.1, hl], by rw [hg]; exact hq⟩, ci, rfl, hr⟩
    obtain ⟨ls, hll, hls⟩ := list_of len each
    obtain ⟨ys, hy1, hy2, hy3⟩ := typedB (μ := μ) (ok := ok) (enc := enc) ls (elems.map (·.1)) (by rw [List.length_map]; omega) fun i x hx => (hls i x hx).1.2
    have henc : encL s enc ys = .sl s ls.length fun i j => (ls.getD i []).getD j .any := by
      subst hy1
      unfold encL
      rw [List.length_map]
      congr 1
      funext i j
      cases hy : ys[i]? <;> simp [List.getD_eq_getElem?_getD, hy]
    refine ⟨_, ⟨ys, ?_, hy2, rfl⟩, ?_⟩
    · simp only [Rows.uptoBulk]
      omega
    rw [henc]
    refine CellsR.one rfl ⟨some a, cap, by rw [hll], by omega, ?_, fun h0 => ?_⟩
    · rw [hll]; exact Nat.le_trans hln (by decide)
    · rw [hll] at h0
      obtain ⟨c0, hc0, _⟩ := (hls 0 _ (List.getElem?_eq_getElem (by omega))).2
      have hblk := World.cells?_block hc0 hs0
      rw [Nat.zero_mul] at hc0 hblk
      have hadd : a.add 0 = a := rfl
      rw [hadd] at hc0 hblk
      have hsp : a.spot = none := by
        have h2 := (World.cells?_some hc0).2.2 0 hs0
        rw [hadd, List.getElem?_eq_getElem (by rw [(World.cells?_some hc0).2.1]; exact hs0)] at h2
        exact World.cell?_spot h2
      refine ⟨a.block, a.off, by cases a; simp_all, rfl, hblk, fun i hi j hj => ?_⟩
      rw [hll] at hi
      obtain ⟨⟨hxl, _⟩, ci, hci, hr⟩ := hls i _ (List.getElem?_eq_getElem (by omega))
      obtain ⟨x, h1, h2, h3⟩ := hr.2 j (by rw [hxl]; exact hj)
      refine ⟨x, ?_, h2, ?_⟩
      · have h4 := (World.cells?_some hci).2.2 j hj
        rw [← h1, ← h4]
        congr 1
        unfold Addr.add
        cases a with
        | mk b o sp' =>
          simp only at hsp
          subst hsp
          by_cases hi0 : i * s = 0
          · simp only [hi0, if_true]
            by_cases hj0 : j = 0
            · simp [hj0]
            · simp [hj0]
          · simp only [hi0, if_false]
            by_cases hj0 : j = 0
            · simp [hj0]
            · simp [hj0, Nat.add_assoc]
      · show Rd w _ ((ls.getD i []).getD j .any) x
        rw [List.getD_eq_getElem?_getD (l := ls), List.getElem?_eq_getElem (by omega)]
        exact h3
/-- Fields, one behind the other. -/
def catB : List (Nat → List AV → Prop) → Nat → List AV → Prop
  | [], _, l => l = []
  | Q :: Qs, n, l => ∃ a b n1 n2, n1 + n2 ≤ n ∧ Q n1 a ∧ catB Qs n2 b ∧ l = a ++ b
def fieldsB (P : Program) (w : World) : List Field → List (Nat → List AV → Prop) → Nat → Nat → Prop
  | [], [], off, tot => off = tot
  | f :: fs, Q :: Qs, off, tot => f.offset = off ∧ OpensB P w f.type Q ∧ fieldsB P w fs Qs (off + P.cellsOf f.type) tot
  | _, _, _, _ => False
theorem fields_openB {H : Type} {enc : TypeId × Value → H} {base : Nat} {sp : Nat → Bool} {held : Bool} {n : Nat} {cs : List Value} : ∀ (fs : List Field) (Qs : List (Nat → List AV → Prop)) (off : Nat) (xs : List (DataW H × List MemPlace)),
    fieldsB P w fs Qs off cs.length → xs.length = fs.length → (∀ (i : Nat) (f : Field), fs[i]? = some f → DataW.trod enc P w base sp held n f.type ((cs.drop f.offset).take (P.cellsOf f.type)) = xs[i]?) →
    (∀ m ∈ DataW.weightsEach P (fs.map (·.type)) (xs.map (·.1)), m ≤ reachBytes) → ∃ l, catB Qs (Rows.uptoBulkAll (xs.map (·.1))) l ∧ CellsR w (cs.drop off) l
  | [], [], off, xs, h, _, _, _ => ⟨[], rfl, by rw [show off = cs.length from h, List.drop_length]; exact CellsR.nil w⟩
  | f :: fs, Q :: Qs, off, x :: xs, h, hl, hf, hw => by
    obtain ⟨rfl, ho, h⟩ := h
    have h0 := hf 0 f rfl
    simp only [List.getElem?_cons_zero] at h0
    obtain ⟨a, ha, hra⟩ := ho H enc base sp held n _ x.1 x.2 h0 fun m hm => hw m (by simp only [List.map_cons, DataW.weightsEach, List.mem_append]; exact .inl hm)
    obtain ⟨b, hb, hrb⟩ := fields_openB fs Qs _ xs h (by simpa using hl) (fun i g hg => by simpa using hf (i + 1) g (by simpa using hg)) fun m hm => hw m (by simp only [List.map_cons, DataW.weightsEach, List.mem_append]; exact .inr hm)
    refine ⟨a ++ b, ⟨a, b, _, _, Nat.le_refl _, ha, hb, rfl⟩, ?_⟩
    have := hra.append hrb
    rwa [← List.drop_drop, List.take_append_drop] at this
  | [], _ :: _, _, _, h, _, _, _ => h.elim
  | _ :: _, [], _, _, h, _, _, _ => h.elim
  | _ :: _, _ :: _, _, [], _, hl, _, _ => by simp at hl
theorem opensB_struct {fs : Array Field} {Qs : List (Nat → List AV → Prop)} (hu : P.underlying t = some (.struct fs)) (h : fieldsB P w fs.toList Qs 0 (P.cellsOf t)) : OpensB P w t (fun n l => ∃ m, m + 1 = n ∧ catB Qs m l) := by
  intro H enc base sp held fuel cs d p ht hw
  obtain ⟨xs, n, rfl, hx, hl, hlen, hf⟩ := DataW.trod_struct hu ht
  simp only [Prod.mk.injEq] at hx
  obtain ⟨rfl, _⟩ := hx
  rw [← hl] at h
  obtain ⟨l, h1, h2⟩ := fields_openB fs.toList Qs 0 xs h (by simpa using hlen) (fun i f hi => hf i f (by simpa using hi)) fun m hm => hw m (by simpa only [DataW.weights, hu] using hm)
  exact ⟨l, ⟨_, by simp only [Rows.uptoBulk], h1⟩, by simpa using h2⟩
/-- An argument of one cell; one that is a struct. -/
theorem argB_one {Q : Nat → List AV → Prop} {H : Type} {enc : TypeId × Value → H} {base : Nat} {sp : Nat → Bool} {held : Bool} {d : DataW H} {p : List MemPlace} {v : Value} (ho : OpensB P w t Q) (h : DataW.Trod enc P w base sp held t v d p) (hw : ∀ n ∈ d.weights P t, n ≤ reachBytes) (hv : v.oneCell' = true) :
    ∃ a, Q (Rows.uptoBulk d) [a] ∧ Rd w (fun _ => none) a v := by
  obtain ⟨fuel, h⟩ := h
  obtain ⟨l, hq, hl, hr⟩ := ho H enc base sp held fuel _ d p h hw
  have hc : v.cells.toList = [v] := by cases v <;> first | rfl | cases hv
  rw [hc] at hl hr
  match l, hl with
  | [a], _ =>
    obtain ⟨x, h1, _, h3⟩ := hr 0 (by simp)
    simp at h1
    subst h1
    exact ⟨a, hq, h3⟩
theorem argB_agg {Q : Nat → List AV → Prop} {H : Type} {enc : TypeId × Value → H} {base : Nat} {sp : Nat → Bool} {held : Bool} {d : DataW H} {p : List MemPlace} {cs : Array Value} (ho : OpensB P w t Q) (h : DataW.Trod enc P w base sp held t (.agg cs) d p) (hw : ∀ n ∈ d.weights P t, n ≤ reachBytes) :
    ∃ l, Q (Rows.uptoBulk d) l ∧ Rd w (fun _ => none) (aggL l) (.agg cs) := by
  obtain ⟨fuel, h⟩ := h
  obtain ⟨l, hq, hl, hr⟩ := ho H enc base sp held fuel _ d p h hw
  refine ⟨l, hq, cs, rfl, by simpa [Value.cells] using hl, fun j hj => ?_⟩
  obtain ⟨x, h1, h2, h3⟩ := hr j hj
  exact ⟨x, by simpa [Value.cells] using h1, h2, h3⟩
end
end Go.Proofs.YtmalhikcdideoaaDoor

set_option linter.unusedVariables false
set_option linter.unusedSimpArgs false
namespace Go.Proofs.YtmalhikcdideoaaDoor
open Go Sl
attribute [local irreducible] LpQ XR XRo XRg XRQ putQ XFv XL XW2 wQ putW X XO XOp XH XHo XW SeqQ BlkQ XOQ XHQ NrmQ XC XM XG XHM XHG XD CallK
section
variable (w : World)
abbrev BI (n : Nat) (l : List AV) : Prop := ∃ x : Int, i64B x ∧ 1 ≤ n ∧ l = [I x]
abbrev BB (n : Nat) (l : List AV) : Prop := 1 ≤ n ∧ ∃ b : Bool, l = [B b]
abbrev BS (n : Nat) (l : List AV) : Prop := ∃ s : ByteArray, s.size + 1 ≤ n ∧ l = [S s]
theorem c_int : Tryd.prog.cellsOf 3 = 1 := by kernel_rfl
theorem c_bool : Tryd.prog.cellsOf 4 = 1 := by kernel_rfl
theorem c_str : Tryd.prog.cellsOf 9 = 1 := by kernel_rfl
theorem b_int : 0 < Tryd.prog.bytesOf 3 := Nat.lt_of_lt_of_eq (by decide : 0 < 8) (by kernel_rfl)
theorem o_int : OpensB Tryd.prog w 3 BI := opensB_i64 Tryd.underlying3
theorem o_bool : OpensB Tryd.prog w 4 BB := OpensB.of (opens_bool Tryd.underlying4)
theorem o_str : OpensB Tryd.prog w 9 BS := opensB_string Tryd.underlying9
def one1 {α : Type} (_ : α) : Nat := 1
abbrev Bints (n : Nat) (l : List AV) : Prop := ∃ k : List Int, sumL one1 k + 1 ≤ n ∧ (∀ x ∈ k, i64B x) ∧ l = [encL 1 cI k]
theorem c_ints : Tryd.prog.cellsOf 37 = 1 := by kernel_rfl
theorem o_ints : OpensB Tryd.prog w 37 Bints :=
  opensB_list (enc := cI) (μ := one1) (ok := i64B) Tryd.underlying37 c_int (by decide) b_int ((o_int w).mono fun n l ⟨x, h1, h2, h3⟩ => ⟨x, h2, h1, h3⟩)
theorem c_val : Tryd.prog.cellsOf 123 = 2 := by kernel_rfl
theorem o_val : OpensB Tryd.prog w 123 fun n l => ∃ a b : Int, 1 ≤ n ∧ l = [I a, I b] := by
  refine (opensB_struct (w := w) Tryd.underlying123 (Qs := [BI, BI]) (by
    simp only [fieldsB, c_int, c_val]
    exact ⟨trivial, o_int w, trivial, o_int w, trivial⟩)).mono ?_
  rintro n l ⟨m, hm, _, _, n1, n2, hn, ⟨a, _, _, rfl⟩, ⟨_, _, n3, n4, hn2, ⟨b, _, _, rfl⟩, rfl, rfl⟩, rfl⟩
  exact ⟨a, b, by omega, rfl⟩
theorem c_step : Tryd.prog.cellsOf 114 = 2 := by kernel_rfl
theorem b_step : 0 < Tryd.prog.bytesOf 114 := Nat.lt_of_lt_of_eq (by decide : 0 < 16) (by kernel_rfl)
def okSt (x : Int × Int) : Prop := i64B x.1 ∧ i64B x.2
theorem o_step : OpensB Tryd.prog w 114 fun n l => ∃ x : Int × Int, one1 x ≤ n ∧ okSt x ∧ l = cSt x := by
  refine (opensB_struct (w := w) Tryd.underlying114 (Qs := [BI, BI]) (by
    simp only [fieldsB, c_int, c_step]
    exact ⟨trivial, o_int w, trivial, o_int w, trivial⟩)).mono ?_
  rintro n l ⟨m, hm, _, _, n1, n2, hn, ⟨a, ha, _, rfl⟩, ⟨_, _, n3, n4, hn2, ⟨b, hb, _, rfl⟩, rfl, rfl⟩, rfl⟩
  exact ⟨(a, b), by unfold one1; omega, ⟨ha, hb⟩, rfl⟩
abbrev Bsteps (n : Nat) (l : List AV) : Prop := ∃ k : List (Int × Int), sumL one1 k + 1 ≤ n ∧ (∀ x ∈ k, okSt x) ∧ l = [encL 2 cSt k]
theorem c_steps : Tryd.prog.cellsOf 66 = 1 := by kernel_rfl
theorem o_steps : OpensB Tryd.prog w 66 Bsteps :=
  opensB_list (enc := cSt) (μ := one1) (ok := okSt) Tryd.underlying66 c_step (by decide) b_step (o_step w)
theorem c_node : Tryd.prog.cellsOf 39 = 5 := by kernel_rfl
theorem b_node : 0 < Tryd.prog.bytesOf 39 := Nat.lt_of_lt_of_eq (by decide : 0 < 64) (by kernel_rfl)
def muNd (x : Nd) : Nat := x.nm.size + x.kids.length + 1
def okNd (x : Nd) : Prop := i64B x.op ∧ (∀ k ∈ x.kids, i64B k) ∧ i64B x.kd ∧ i64B x.n
theorem sum_one {α : Type} : ∀ l : List α, sumL one1 l = l.length
  | [] => rfl
  | x :: r => by rw [sumL, sum_one r, List.length_cons]; unfold one1; omega
theorem o_node : OpensB Tryd.prog w 39 fun n l => ∃ x : Nd, muNd x ≤ n ∧ okNd x ∧ l = cNd x := by
  refine (opensB_struct (w := w) Tryd.underlying39 (Qs := [BI, Bints, BI, BI, BS]) (by
    simp only [fieldsB, c_int, c_ints, c_str, c_node]
    exact ⟨trivial, o_int w, trivial, o_ints w, trivial, o_int w, trivial, o_int w, trivial, o_str w, trivial⟩)).mono ?_
  rintro n l ⟨m, hm, _, _, n1, n2, hn, ⟨a, ha, _, rfl⟩, ⟨_, _, n3, n4, hn2, ⟨k, hk, hkb, rfl⟩, ⟨_, _, n5, n6, hn3, ⟨c, hc, _, rfl⟩, ⟨_, _, n7, n8, hn4, ⟨d, hd, _, rfl⟩, ⟨_, _, n9, n10, hn5, ⟨s, hs, rfl⟩, rfl, rfl⟩, rfl⟩, rfl⟩, rfl⟩, rfl⟩
  rw [sum_one] at hk
  exact ⟨⟨a, k, c, d, s⟩, by unfold muNd; simp only; omega, ⟨ha, hkb, hc, hd⟩, rfl⟩
theorem o_expr : OpensB Tryd.prog w 42 fun n l => ∃ k : List Nd, sumL muNd k + 1 ≤ n ∧ (∀ x ∈ k, okNd x) ∧ l = [encL 5 cNd k] :=
  opensB_list (enc := cNd) (μ := muNd) (ok := okNd) Tryd.underlying42 c_node (by decide) b_node (o_node w)
theorem c_table : Tryd.prog.cellsOf 68 = 5 := by kernel_rfl
theorem b_table : 0 < Tryd.prog.bytesOf 68 := Nat.lt_of_lt_of_eq (by decide : 0 < 64) (by kernel_rfl)
def muTb (t : Tb) : Nat := t.name.size + t.steps.length + 1
def okTb (t : Tb) : Prop := i64B t.fr ∧ i64B t.to ∧ ∀ x ∈ t.steps, okSt x
theorem o_table : OpensB Tryd.prog w 68 fun n l => ∃ x : Tb, muTb x ≤ n ∧ okTb x ∧ l = cTb x := by
  refine (opensB_struct (w := w) Tryd.underlying68 (Qs := [BS, BI, BI, BB, Bsteps]) (by
    simp only [fieldsB, c_bool, c_int, c_steps, c_str, c_table]
    exact ⟨trivial, o_str w, trivial, o_int w, trivial, o_int w, trivial, o_bool w, trivial, o_steps w, trivial⟩)).mono ?_
  rintro n l ⟨m, hm, _, _, n1, n2, hn, ⟨s, hs, rfl⟩, ⟨_, _, n3, n4, hn2, ⟨a, ha, _, rfl⟩, ⟨_, _, n5, n6, hn3, ⟨b, hb, _, rfl⟩, ⟨_, _, n7, n8, hn4, ⟨_, c, rfl⟩, ⟨_, _, n9, n10, hn5, ⟨k, hk, hkb, rfl⟩, rfl, rfl⟩, rfl⟩, rfl⟩, rfl⟩, rfl⟩
  rw [sum_one] at hk
  exact ⟨⟨s, a, b, c, k⟩, by unfold muTb; simp only; omega, ⟨ha, hb, hkb⟩, rfl⟩
abbrev Btables (n : Nat) (l : List AV) : Prop := ∃ k : List Tb, sumL muTb k + 1 ≤ n ∧ (∀ x ∈ k, okTb x) ∧ l = [encL 5 cTb k]
theorem c_tables : Tryd.prog.cellsOf 60 = 1 := by kernel_rfl
theorem o_tables : OpensB Tryd.prog w 60 Btables :=
  opensB_list (enc := cTb) (μ := muTb) (ok := okTb) Tryd.underlying60 c_table (by decide) b_table (o_table w)
theorem c_attr : Tryd.prog.cellsOf 125 = 7 := by kernel_rfl
theorem b_attr : 0 < Tryd.prog.bytesOf 125 := Nat.lt_of_lt_of_eq (by decide : 0 < 64) (by kernel_rfl)
theorem o_attr : OpensB Tryd.prog w 125 fun n l => ∃ x : At, one1 x ≤ n ∧ True ∧ l = cAt x := by
  refine OpensB.weak (opensB_struct (w := w) Tryd.underlying125 (Qs := [BS, BI, BB, BI, BI, fun n l => ∃ a b : Int, 1 ≤ n ∧ l = [I a, I b]]) (by
    simp only [fieldsB, c_bool, c_int, c_val, c_str, c_attr]
    exact ⟨trivial, o_str w, trivial, o_int w, trivial, o_bool w, trivial, o_int w, trivial, o_int w, trivial, o_val w, trivial⟩)) ?_
  rintro n l ⟨m, hm, _, _, n1, n2, hn, ⟨s, hs, rfl⟩, ⟨_, _, n3, n4, hn2, ⟨a, ha, _, rfl⟩, ⟨_, _, n5, n6, hn3, ⟨_, b, rfl⟩, ⟨_, _, n7, n8, hn4, ⟨c, hc, _, rfl⟩, ⟨_, _, n9, n10, hn5, ⟨d, hd, _, rfl⟩, ⟨_, _, n11, n12, hn6, ⟨v1, v2, _, rfl⟩, rfl, rfl⟩, rfl⟩, rfl⟩, rfl⟩, rfl⟩, rfl⟩
  refine ⟨_, ⟨⟨s, a⟩, by unfold one1; omega, trivial, rfl⟩, rfl, fun j => ?_⟩
  rcases j with _ | _ | _ | _ | _ | _ | _ | j <;> simp [cAt]
theorem c_attrs : Tryd.prog.cellsOf 62 = 1 := by kernel_rfl
abbrev Battrs (n : Nat) (l : List AV) : Prop := ∃ k : List At, sumL one1 k + 1 ≤ n ∧ (∀ x ∈ k, True) ∧ l = [encL 7 cAt k]
theorem o_attrs : OpensB Tryd.prog w 62 Battrs :=
  opensB_list (enc := cAt) (μ := one1) (ok := fun _ => True) Tryd.underlying62 c_attr (by decide) b_attr (o_attr w)
theorem c_articles : Tryd.prog.cellsOf 63 = 1 := by kernel_rfl
theorem c_act : Tryd.prog.cellsOf 65 = 6 := by kernel_rfl
theorem b_act : 0 < Tryd.prog.bytesOf 65 := Nat.lt_of_lt_of_eq (by decide : 0 < 104) (by kernel_rfl)
def muAc (a : Ac) : Nat := a.attrs.length + sumL muTb a.tables + 1
def okAc (a : Ac) : Prop := ∀ t ∈ a.tables, okTb t
theorem o_act : OpensB Tryd.prog w 65 fun n l => ∃ x : Ac, muAc x ≤ n ∧ okAc x ∧ l = cAc x := by
  refine OpensB.weak (opensB_struct (w := w) Tryd.underlying65 (Qs := [BS, BI, BI, Battrs, Btables, fun n l => 1 ≤ n ∧ l = [.any]]) (by
    simp only [fieldsB, c_int, c_str, c_attrs, c_tables, c_articles, c_act]
    exact ⟨trivial, o_str w, trivial, o_int w, trivial, o_int w, trivial, o_attrs w, trivial, o_tables w, trivial, OpensB.of (opens_sliceAny Tryd.underlying63), trivial⟩)) ?_
  rintro n l ⟨m, hm, _, _, n1, n2, hn, ⟨s, hs, rfl⟩, ⟨_, _, n3, n4, hn2, ⟨a, ha, _, rfl⟩, ⟨_, _, n5, n6, hn3, ⟨b, hb, _, rfl⟩, ⟨_, _, n7, n8, hn4, ⟨k, hk, _, rfl⟩, ⟨_, _, n9, n10, hn5, ⟨q, hq, hqb, rfl⟩, ⟨_, _, n11, n12, hn6, ⟨_, rfl⟩, rfl, rfl⟩, rfl⟩, rfl⟩, rfl⟩, rfl⟩, rfl⟩
  rw [sum_one] at hk
  refine ⟨_, ⟨⟨k, q⟩, by unfold muAc; simp only; omega, hqb, rfl⟩, rfl, fun j => ?_⟩
  rcases j with _ | _ | _ | _ | _ | _ | j <;> simp [cAc]
theorem o_acts : OpensB Tryd.prog w 59 fun n l => ∃ k : List Ac, sumL muAc k + 1 ≤ n ∧ (∀ x ∈ k, okAc x) ∧ l = [encL 6 cAc k] :=
  opensB_list (enc := cAc) (μ := muAc) (ok := okAc) Tryd.underlying59 c_act (by decide) b_act (o_act w)
end
end Go.Proofs.YtmalhikcdideoaaDoor

namespace Go.Proofs.YtmalhikcdideoaaDoor
open Go Go.ChangeShapes Go.WideShapes Go.ChangeAt Go.RowKit Sl
theorem own : ownKnob Tryd.prog.godebug = none := by kernel_rfl
theorem laidOut : laidOutB Tryd.prog = true := by kernel_rfl
theorem cells5 : Tryd.prog.cellsOf 5 = 1 := by kernel_rfl
theorem cells188 : Tryd.prog.cellsOf 188 = 1 := by kernel_rfl
theorem cells85 : Tryd.prog.cellsOf 85 = 256 := by kernel_rfl
theorem cells210 : Tryd.prog.cellsOf 210 = 20 := by kernel_rfl
theorem space_agg : (Rows.laid_strings_asciiSpace : DataW Unit) = .agg ((List.range 256).map fun i => .lit (.int .u8 (if (9 ≤ i ∧ i ≤ 13) ∨ i = 32 then 1 else 0))) := by kernel_rfl
theorem pow_agg : (Rows.laid_internal_strconv_uint64pow10 : DataW Unit) = .agg ((List.range 20).map fun i => .lit (.int .u64 ((10 : Nat) ^ i : Nat))) := by kernel_rfl
theorem pow_eq : ((List.range 20).map fun i => Value.int .u64 ((10 : Nat) ^ i : Nat)) = powL := by kernel_rfl
theorem lits_of {H : Type} {enc : TypeId × Value → H} {P : Program} {w : World} {base : Nat} {sp : Nat → Bool} {held : Bool} {n m : Nat} {e t : TypeId} {cs : List Value} {f : Nat → Int} {p : List MemPlace} {k : IntKind}
    (ht : P.underlying t = some (.array n e)) (he : P.underlying e = some (.int k)) (hc : P.cellsOf e = 1) (hct : P.cellsOf t = n) (h : DataW.trod enc P w base sp held m t cs = some (.agg ((List.range n).map fun i => .lit (.int k (f i))), p)) :
    cs = (List.range n).map fun i => .int k (f i) := by
  obtain ⟨xs, m1, rfl, hx, hlen, hn, hel⟩ := DataW.trod_array ht h
  simp only [Prod.mk.injEq, DataW.agg.injEq] at hx
  rw [hct] at hlen
  refine List.ext_getElem (by simp [hlen]) fun i h1 h2 => ?_
  have hi : i < n := by omega
  have hE := hel i hi
  rw [hc, Nat.mul_one] at hE
  obtain ⟨x, hxi⟩ : ∃ x, xs[i]? = some x := ⟨_, List.getElem?_eq_getElem (by omega)⟩
  rw [hxi] at hE
  have hd : (cs.drop i).take 1 = [cs[i]] := by
    rw [List.drop_eq_getElem_cons h1]; rfl
  rw [hd] at hE
  obtain ⟨v, e1, e2, _⟩ := DataW.trod_int he hE
  have e3 : (xs.map (·.1))[i]? = some (.lit (.int k (f i))) := by rw [← hx.1]; simp [hi]
  rw [List.getElem?_map, hxi, e2] at e3
  simp only [Option.map_some, Option.some.injEq, DataW.lit.injEq, Lit.int.injEq, true_and] at e3
  simp only [List.cons.injEq, and_true] at e1
  rw [e1]
  simp [e3]
/-- A variable that reads as listed: its block. -/
theorem var_heap {W : World} {name : String} {g : Nat} {cs : Array Value} {L : List Value} (hg : Tryd.prog.globalNamed name = some g) (hv : W.var? Tryd.prog name = some cs) (hcs : cs.toList = L) : ∃ ty fr, W.heap[g]? = some (.cells L.toArray ty fr) := by
  simp only [World.var?, hg, Option.bind_some] at hv
  split at hv
  · rename_i cs' ty fr hw
    simp only [Option.some.injEq] at hv
    subst hv
    refine ⟨ty, fr, ?_⟩
    rw [hw]
    congr 2
    apply Array.toList_inj.1
    rw [hcs]
  · cases hv
theorem gSpace : Tryd.prog.globalNamed "strings.asciiSpace" = some 0 := by kernel_rfl
theorem tSpace : (Tryd.prog.globals[0]?).map (·.type) = some 85 := by kernel_rfl
theorem gPow : Tryd.prog.globalNamed "internal/strconv.uint64pow10" = some 5 := by kernel_rfl
theorem tPow : (Tryd.prog.globals[5]?).map (·.type) = some 210 := by kernel_rfl
theorem space_heap {enc : TypeId × Value → Unit} {W : World} {base : Nat} {sp : Nat → Bool} {held : Bool} {g m : Nat} {t : TypeId} {cs : Array Value} {p : List MemPlace} (hg : Tryd.prog.globalNamed "strings.asciiSpace" = some g)
    (ht : (Tryd.prog.globals[g]?).map (·.type) = some t) (hv : W.var? Tryd.prog "strings.asciiSpace" = some cs) (hd : DataW.trod enc Tryd.prog W base sp held m t cs.toList = some (Rows.laid_strings_asciiSpace, p)) : ∃ ty fr, W.heap[0]? = some (.cells spaceL.toArray ty fr) := by
  obtain rfl := Option.some.inj (gSpace.symm.trans hg)
  obtain rfl := Option.some.inj (tSpace.symm.trans ht)
  rw [space_agg] at hd
  exact var_heap gSpace hv (lits_of Tryd.underlying85 Tryd.underlying5 cells5 cells85 hd)
theorem pow_heap {enc : TypeId × Value → Unit} {W : World} {base : Nat} {sp : Nat → Bool} {held : Bool} {g m : Nat} {t : TypeId} {cs : Array Value} {p : List MemPlace} (hg : Tryd.prog.globalNamed "internal/strconv.uint64pow10" = some g)
    (ht : (Tryd.prog.globals[g]?).map (·.type) = some t) (hv : W.var? Tryd.prog "internal/strconv.uint64pow10" = some cs) (hd : DataW.trod enc Tryd.prog W base sp held m t cs.toList = some (Rows.laid_internal_strconv_uint64pow10, p)) : ∃ ty fr, W.heap[5]? = some (.cells powL.toArray ty fr) := by
  obtain rfl := Option.some.inj (gPow.symm.trans hg)
  obtain rfl := Option.some.inj (tPow.symm.trans ht)
  rw [pow_agg] at hd
  exact var_heap gPow hv ((lits_of Tryd.underlying210 Tryd.underlying188 cells188 cells210 hd).trans pow_eq)
theorem glob_both {W : World} (h1 : ∃ ty fr, W.heap[0]? = some (.cells spaceL.toArray ty fr)) (h2 : ∃ ty fr, W.heap[5]? = some (.cells powL.toArray ty fr)) : GlobH W fun _ => none := by
  rintro x hx
  simp only [gl, List.mem_cons, List.not_mem_nil, or_false] at hx
  rcases hx with rfl | rfl
  · refine ⟨rfl, h1, fun y hy => ?_⟩
    simp only [spaceL, List.mem_map] at hy
    obtain ⟨i, _, rfl⟩ := hy
    rfl
  · refine ⟨rfl, h2, fun y hy => ?_⟩
    simp only [powL, List.mem_map] at hy
    obtain ⟨i, _, rfl⟩ := hy
    rfl
theorem mem_all {l : List Nat} (h : l.all (· ≤ reachBytes) = true) : ∀ n ∈ l, n ≤ reachBytes := fun n hn => by simpa using List.all_eq_true.1 h n hn
end Go.Proofs.YtmalhikcdideoaaDoor

set_option linter.unusedVariables false
namespace Go.Proofs.YtmalhikcdideoaaDoor.kinds
open Go Go.ChangeShapes Go.WideShapes Go.ChangeAt Go.RowKit Sl
theorem plain : (Rows.typesKindsUptoRow.laid.all fun x => x.2.handleName?.isNone) = true := by kernel_rfl
theorem glob_of_laid {W : World} (h : laidMetH Tryd.prog Rows.typesKindsUptoRow.laid W) : GlobH W fun _ => none := by
  rw [MakeChecks.laidMetH_plain _ _ _ plain] at h
  obtain ⟨ps, ⟨_, _, _, _, _, _, _, _, _, _, ⟨_, _, _, _, _, _, _, _, _, _, ⟨g3, t3, c3, _, p3, _, hg3, ht3, hv3, hd3, ⟨_, _, _, _, _, _, _, _, _, _, ⟨_, _, _, _, _, _, _, _, _, _, ⟨g6, t6, c6, _, p6, _, hg6, ht6, hv6, hd6, _⟩, _⟩, _⟩, _⟩, _⟩, _⟩, _, _⟩ := h
  exact glob_both (space_heap hg6 ht6 hv6 hd6) (pow_heap hg3 ht3 hv3 hd3)
theorem kinds_walk (l : List Ac) (e : List Nd) (hb : sumL muAc l + sumL muNd e ≤ 1048576) (ho : ∀ a ∈ l, okAc a) (W : World) (hg : GlobH W fun _ => none) {v0 v1 : Value} (h0 : Rd W (fun _ => none) (encL 6 cAc l) v0) (h1 : Rd W (fun _ => none) (encL 5 cNd e) v1) :
    Calls Tryd.prog 7 #[v0, v1] W fun e w' => e = .returned (.bool true) ∧ Below W.heap.size W w' := by
  have hlen : ∀ a ∈ l, a.attrs.length ≤ 1048576 ∧ sumL muTb a.tables ≤ 1048576 := fun a ha => by
    have h1 := sumL_mem (f := muAc) ha
    have h2 : muAc a = a.attrs.length + sumL muTb a.tables + 1 := rfl
    omega
  have htl : ∀ ts : List Tb, ts.length ≤ sumL muTb ts := sumL_len fun t => by unfold muTb; omega
  have hall : ∀ l : List Ac, (tabsL l).length ≤ sumL muAc l := by
    intro l
    induction l with
    | nil => exact Nat.le_refl _
    | cons a r ih =>
      have := htl a.tables
      have h2 : muAc a = a.attrs.length + sumL muTb a.tables + 1 := rfl
      unfold tabsL at ih ⊢
      rw [List.flatMap_cons, List.length_append, sumL]
      omega
  have hk := kinds_ok l e (fun x hx => by have h1 := sumL_mem (f := muNd) hx; have h2 : muNd x = x.nm.size + x.kids.length + 1 := rfl; omega)
    (by have := sumL_len (f := muAc) (fun a => by unfold muAc; omega) l; omega) (fun a ha => by have := hlen a ha; omega) (fun a ha => by have := hlen a ha; have := htl a.tables; omega)
    (by have := hall l; omega) (fun t ht => by
      obtain ⟨a, ha, hta⟩ := List.mem_flatMap.1 ht
      have h2 := (hlen a ha).2
      have h3 := sumL_mem (f := muTb) hta
      obtain ⟨o1, o2, o3⟩ := ho a ha t hta
      have h4 : muTb t = t.name.size + t.steps.length + 1 := rfl
      exact ⟨by omega, by omega, o1, o2, o3⟩)
  refine (hk (fun _ => none) W #[v0, v1] ⟨fun b o hb => (by cases hb), hg⟩ ⟨rfl, fun i a hi => ?_⟩).mono ?_
  · match i, hi with
    | 0, hi => cases hi; exact ⟨_, rfl, h0⟩
    | 1, hi => cases hi; exact ⟨_, rfl, h1⟩
    | n + 2, hi => simp at hi
  · rintro e w' ⟨u, r, h', rfl, ⟨rfl, rfl⟩, hr, _, hio, hst⟩
    exact ⟨by rw [show u = .bool true from hr], hst.below hio⟩
theorem reads (os : Os) {H : Type} (enc : TypeId × Value → H) : ∃ places, DataW.whole enc Tryd.prog ((World.laidAll Tryd.prog os Rows.typesKindsUptoRow.laid).forCall (fun _ _ => 0) ⟨#[], #[.slice none 0 0, .slice none 0 0], []⟩).memory Tryd.f7.params.toList Rows.typesKindsSpec.vars false #[Value.slice none 0 0, .slice none 0 0].toList 8 = some ([.nil, .nil], [], places) :=
  ⟨[], by kernel_rfl⟩
set_option maxRecDepth 100000 in
theorem lifted (os : Os) (started : os.Started) (H : Type) (enc : TypeId × Value → H) (F : Stop.Interp) :
    ReturnsInHanded {} Tryd.checked os 7 .any ((Rows.OpenSpec.upto Rows.typesKindsSpec).preRow enc Tryd.prog Tryd.f7 Rows.typesKindsUptoRow.domain false Rows.typesKindsUptoRow.laid) (((Rows.OpenSpec.upto Rows.typesKindsSpec).at F).post enc Tryd.prog Tryd.f7 false true false false) := by
  obtain ⟨places, hx⟩ := reads os enc
  have hok : Input.okWideB Tryd.prog ((World.laidAll Tryd.prog os Rows.typesKindsUptoRow.laid).forCall (fun _ _ => 0) ⟨#[], #[.slice none 0 0, .slice none 0 0], []⟩) 7 ⟨#[], #[.slice none 0 0, .slice none 0 0], []⟩ = true := by kernel_rfl
  refine returnsInHanded_of_row (C := Tryd.checked) (s := Rows.OpenSpec.upto Rows.typesKindsSpec) own started (by kernel_rfl) Tryd.func7
    ⟨World.laidAll Tryd.prog os Rows.typesKindsUptoRow.laid, fun _ _ => 0, ⟨#[], #[.slice none 0 0, .slice none 0 0], []⟩, World.laidAll_os _ _ _, World.shaped_of_ZipB (by kernel_rfl) (by kernel_rfl), (Input.okWide_of_okWideB (base := 0) hok).1, (Input.okWide_of_okWideB hok).2,
      OpenSpec.preRow_of_cond 8 hx (by kernel_rfl) (fun k hk => by cases hk; kernel_rfl) (by kernel_rfl) (by rw [MakeChecks.laidMetH_plain _ _ _ plain]; exact laidMet_laidAll _ (by kernel_rfl) (by kernel_rfl)), by simp [Assume.holds]⟩ ?_
  intro W base args ds gs before hval0 hW _ hcond hsz0 hL _ _
  have hsz : (DataW.weightsEach Tryd.prog (Tryd.f7.params.toList ++ Rows.typesKindsSpec.plain.varTypes Tryd.prog) (ds ++ gs)).all (· ≤ reachBytes) = true := hsz0
  have hval : ∀ (j : Nat) t v, Tryd.f7.params[j]? = some t → args[j]? = some v → Value.okWide Tryd.prog W .any base t v := hval0
  have hbulk : Rows.uptoBulkAll (ds ++ gs) ≤ 1048576 := of_decide_eq_true (hcond _ rfl)
  have hW' := hW
  obtain ⟨p, q, hA0, hV, rfl, hfz, hnd⟩ := hW
  have hA : DataW.TrodAll enc Tryd.prog W 0 (fun _ => true) true Tryd.f7.params.toList args.toList ds p := hA0
  rw [Tryd.params7] at hA hval hsz
  obtain ⟨v0, vs0, d0, ds0, p0, q0, hargs, rfl, rfl, t0, r0⟩ := trodAll_cons hA
  obtain ⟨v1, vs1, d1, ds1, p1, q1, rfl, rfl, rfl, t1, r1⟩ := trodAll_cons r0
  obtain ⟨rfl, rfl, rfl⟩ := trodAll_nil r1
  obtain rfl : args = #[v0, v1] := by cases args; simp_all
  obtain ⟨rfl, rfl⟩ := trodVars_none hV
  have hs := mem_all hsz
  have w0 : ∀ n ∈ d0.weights Tryd.prog 59, n ≤ reachBytes := fun n hn => hs n (by simp only [List.cons_append, List.nil_append, DataW.weightsEach, List.mem_append]; exact .inl hn)
  have w1 : ∀ n ∈ d1.weights Tryd.prog 42, n ≤ reachBytes := fun n hn => hs n (by simp only [List.cons_append, List.nil_append, DataW.weightsEach, List.mem_append]; exact .inr (.inl hn))
  have hb2 : Rows.uptoBulk d0 + Rows.uptoBulk d1 ≤ 1048576 := by
    simp only [List.append_nil, Rows.uptoBulkAll] at hbulk
    omega
  obtain ⟨a0, l0, b0, e0⟩ := okWide_slice Tryd.underlying59 (hval 0 _ v0 rfl rfl)
  obtain ⟨a1, l1, b1, e1⟩ := okWide_slice Tryd.underlying42 (hval 1 _ v1 rfl rfl)
  obtain ⟨x0, ⟨l, m0, o0, y0⟩, z0⟩ := argB_one (o_acts W) t0 w0 (by rw [e0]; rfl)
  obtain ⟨x1, ⟨e, m1, o1, y1⟩, z1⟩ := argB_one (o_expr W) t1 w1 (by rw [e1]; rfl)
  obtain rfl : x0 = encL 6 cAc l := by simpa using y0
  obtain rfl : x1 = encL 5 cNd e := by simpa using y1
  clear hA0 hval0 hsz0 hsz hbulk
  have lt : ∀ {t : TypeId} {v : Value} {d : DataW H} {p : List MemPlace}, DataW.Trod enc Tryd.prog W 0 (fun _ => true) true t v d p → ∀ x ∈ p, x.block < W.heap.size := fun k => by obtain ⟨m, hm⟩ := k; exact DataW.trod_lt m _ _ _ hm
  refine (kinds_walk l e (by omega) o0 W (glob_of_laid hL) z0 z1).mono fun r W' ⟨he, bel⟩ => ?_
  subst he
  exact ⟨_, rfl, _, _, _, [], _, [], hW', trodAll_mk1 (shut_bool Tryd.underlying4 _), (trodAll_cons_mk (Below.trod laidOut (by kernel_rfl) (of_decide_eq_true (by kernel_rfl)) t0 bel (lt t0)) (trodAll_cons_mk (Below.trod laidOut (by kernel_rfl) (of_decide_eq_true (by kernel_rfl)) t1 bel (lt t1)) trodAll_mk0)), rfl, bel.frame _, fun h => by cases h⟩
theorem holds : Rows.TypesKindsUptoSaid :=
  OpenClaim.holds_of_cond 7 Tryd.f7 rfl rfl rfl rfl rfl rfl rfl ⟨rfl, rfl, rfl, rfl, rfl⟩ rfl rfl rfl rfl rfl (by kernel_rfl) Tryd.func7 (by kernel_rfl)
    (of_decide_eq_true (by kernel_rfl)) (by unfold Func.isWrapper; first | (rw [if_pos (by decide +kernel)]; kernel_rfl) | (rw [if_neg (by decide +kernel)]; exact ⟨rfl, rfl⟩))
    (fun os started H enc _ F => by rw [OpenClaim.pre_eq_preRow]; exact lifted os started H enc F)
end Go.Proofs.YtmalhikcdideoaaDoor.kinds
namespace Go.Proofs.YtmalhikcdideoaaDoor
open Go
theorem typesKinds_card : Rows.TypesKindsUptoCardSaid :=
  Claim7.holds_tied_plain_at .later [] _ _ _ _ kinds.holds (fun _ h => by cases h) (by kernel_rfl) (fun _ h => by cases h) typesKindsUpto_row_tie rfl ⟨rfl, rfl⟩ (by kernel_rfl) rfl
    (fun f fn hf hfn => by
      obtain rfl : f = 7 := Option.some.inj ((show Tryd.prog.funcNamed "moothall/mootlaw2.TypesKinds" = some 7 by kernel_rfl).symm.trans hf) |>.symm
      obtain rfl : fn = Tryd.f7 := (Option.some.inj (Tryd.func7.symm.trans hfn)).symm
      exact ⟨by kernel_rfl, fun j t ht => by
        rw [Tryd.params7] at ht
        have hm : t ∈ [59, 42] := by simpa using Array.mem_of_getElem? ht
        have hall : ([59, 42].all fun u => !Tryd.prog.wantsStandIn u) = true := by kernel_rfl
        exact (show Tryd.prog.wantsStandIn t = false by simpa using List.all_eq_true.1 hall t hm)⟩)
    (by kernel_rfl)
end Go.Proofs.YtmalhikcdideoaaDoor
