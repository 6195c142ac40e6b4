/- The semantic layer, first part: abstract values, the abstract heap of blocks of the call's own, what it is for a frame and a world to agree with them, and that agreement outlives what does not touch it. -/
import Derived.Test.YtmalhikcdideoaaGreatDoorGl
import Derived.WalkKit
import Derived.Below
import Derived.Orders
import Derived.Maps.AppendAt
import Derived.Laws.Rows
set_option linter.unusedVariables false
set_option linter.unusedSimpArgs false
namespace Go.Proofs.YtmalhikcdideoaaGreatDoor.Sl
open Go Go.RowKit

/-- An abstract value: a scalar as it is; a slice that nobody writes; a struct; several results; a slice on an own block; a pointer into what nobody writes; a map's entries (in the heap alone); a slice of no capacity; anything. -/
inductive AV where
  | v (x : Value)
  | sl (s n : Nat) (f : Nat → Nat → AV)
  | agg (m : Nat) (f : Nat → AV)
  | tup (m : Nat) (f : Nat → AV)
  | row (b s off len : Nat)
  | fp (m : Nat) (f : Nat → AV)
  | pt (b s i j : Nat)
  | mp (n : Nat) (f : Nat → Nat → AV)
  | e0
  | any

/-- A struct by its cells. -/
def aggL (l : List AV) : AV := .agg l.length fun j => l.getD j .any
/-- Two results; three. -/
def tup2 (a b : AV) : AV := .tup 2 fun j => if j = 0 then a else b
def tup3 (a b c : AV) : AV := .tup 3 fun j => if j = 0 then a else if j = 1 then b else c

/-- A block of the call's own: n elements of s cells. -/
structure Ob where
  ty : TypeId
  s : Nat
  n : Nat
  f : Nat → Nat → AV

abbrev Hp := Nat → Option Ob

def upd {α : Type} (T : Nat → α) (d : Nat) (x : α) : Nat → α := fun i => if i = d then x else T i
theorem upd_eq {α : Type} (T : Nat → α) (d : Nat) (x : α) (i : Nat) : upd T d x i = if i = d then x else T i := rfl
theorem upd_same {α : Type} (T : Nat → α) (d : Nat) (x : α) : upd T d x d = x := by simp [upd]
theorem upd_ne {α : Type} (T : Nat → α) {d i : Nat} (x : α) (h : i ≠ d) : upd T d x i = T i := by simp [upd, h]

/-- The abstract value tells the value, in this world. -/
def Rd (w : World) (h : Hp) : AV → Value → Prop
  | .v x, u => u = x
  | .sl s n f, u => ∃ A c, u = .slice A n c ∧ n ≤ c ∧ n ≤ 140737488355328 ∧ (0 < n → ∃ b off, A = some ⟨b, off, none⟩ ∧ h b = none ∧ b < w.heap.size ∧
      ∀ i, i < n → ∀ j, j < s → ∃ x, w.cell? ⟨b, off + (i * s + j), none⟩ = some x ∧ x.oneCell' = true ∧ Rd w h (f i j) x)
  | .agg m f, u => ∃ cs : Array Value, u = .agg cs ∧ cs.size = m ∧ ∀ j, j < m → ∃ x, cs[j]? = some x ∧ x.oneCell' = true ∧ Rd w h (f j) x
  | .tup m f, u => ∃ cs : Array Value, u = .tuple cs ∧ cs.size = m ∧ ∀ j, j < m → ∃ x, cs[j]? = some x ∧ Rd w h (f j) x
  | .row b s off len, u => ∃ cap, u = .slice (some ⟨b, off * s, none⟩) len cap ∧ len ≤ cap ∧ b < w.heap.size ∧ off + cap ≤ 9223372036854775807 ∧
      (∀ o, h b = some o → ∃ c fr, w.heap[b]? = some (.cells c o.ty fr) ∧ c.size = (off + cap) * s)
  | .fp m f, u => ∃ b off, u = .pointer (some ⟨b, off, none⟩) ∧ h b = none ∧ b < w.heap.size ∧ ∀ j, j < m → ∃ x, w.cell? ⟨b, off + j, none⟩ = some x ∧ x.oneCell' = true ∧ Rd w h (f j) x
  | .pt b s i j, u => u = .pointer (some ⟨b, i * s + j, none⟩)
  | .mp _ _, _ => False
  | .e0, u => ∃ A, u = .slice A 0 0
  | .any, _ => True

/-- A block of cells holds what is told of it. -/
def CellsH (w : World) (h : Hp) (b : Nat) (o : Ob) : Prop := ∃ c, w.heap[b]? = some (.cells c o.ty (0, 0)) ∧ o.n * o.s ≤ c.size ∧ 0 < o.s ∧
  ∀ i, i < o.n → ∀ j, j < o.s → ∃ x, c[i * o.s + j]? = some x ∧ x.oneCell' = true ∧ Rd w h (o.f i j) x
/-- An own map: n entries, each a key, a value, and when it was laid; and its clock. -/
def MapH (w : World) (h : Hp) (b n clock : Nat) (g : Nat → Nat → AV) : Prop := ∃ es : Array MapEntry, w.heap[b]? = some (.map es clock) ∧ es.size = n ∧
  (∀ i, i < n → ∃ e, es[i]? = some e ∧ Rd w h (g i 0) e.key ∧ Rd w h (g i 1) e.val ∧ g i 2 = .v (.int .i64 e.born) ∧ e.born < clock) ∧
  ∀ (i j : Nat) (e e' : MapEntry), i < j → es[i]? = some e → es[j]? = some e' → e.born < e'.born
/-- A map; an iterator over a text; an iterator over a map. -/
def OtherH (w : World) (h : Hp) (b : Nat) (o : Ob) : Prop := o.ty = 0 ∧
  ((∃ n g clock, o.f 0 0 = .mp n g ∧ o.f 0 1 = .v (.int .i64 ((clock : Nat) : Int)) ∧ MapH w h b n clock g) ∨
  (∃ s pos, o.f 0 0 = .v (.string s) ∧ o.f 0 1 = .v (.int .i64 ((pos : Nat) : Int)) ∧ w.heap[b]? = some (.stringIter s pos)) ∨
  (∃ m since stepped seen, o.f 0 0 = .v (.map (some m)) ∧ o.f 0 1 = .v (.int .i64 ((since : Nat) : Int)) ∧ o.f 0 2 = .v (.int .i64 ((stepped : Nat) : Int)) ∧
    o.f 0 3 = .v (.tuple (seen.map fun k : Nat => Value.int .i64 k)) ∧ w.heap[b]? = some (.mapIter (some m) since seen stepped)))
def HeldH (w : World) (h : Hp) (b : Nat) (o : Ob) : Prop := if o.n = 0 ∧ o.s = 0 then OtherH w h b o else CellsH w h b o
/-- The variables of the program that are known, and that nobody writes. -/
def GlobH (w : World) (h : Hp) : Prop := ∀ x ∈ gl, h x.1 = none ∧ (∃ ty fr, w.heap[x.1]? = some (.cells x.2.toArray ty fr)) ∧ ∀ y ∈ x.2, y.oneCell' = true
/-- The own blocks hold what the abstract heap tells. -/
structure RelH (w : World) (h : Hp) : Prop where
  own : ∀ b o, h b = some o → HeldH w h b o
  glob : GlobH w h
theorem RelH.cells {w : World} {h : Hp} (hr : RelH w h) {b : Nat} {o : Ob} (ho : h b = some o) (hne : 0 < o.n ∨ 0 < o.s) : ∃ c, w.heap[b]? = some (.cells c o.ty (0, 0)) ∧ o.n * o.s ≤ c.size ∧ 0 < o.s ∧
    ∀ i, i < o.n → ∀ j, j < o.s → ∃ x, c[i * o.s + j]? = some x ∧ x.oneCell' = true ∧ Rd w h (o.f i j) x := by
  have := hr.own b o ho
  unfold HeldH at this
  rw [if_neg (by omega)] at this
  exact this

/-- The streams are as they were. -/
structure Io (w0 w : World) : Prop where
  os : w.os = w0.os
  tape : w.tape = w0.tape
  output : w.output = w0.output
theorem Io.refl (w : World) : Io w w := ⟨rfl, rfl, rfl⟩
theorem Io.trans {a b c : World} (h : Io a b) (k : Io b c) : Io a c := ⟨k.os.trans h.os, k.tape.trans h.tape, k.output.trans h.output⟩

/-- A step of the world under which what was told stays told. -/
structure Stp (w : World) (h : Hp) (w' : World) (h' : Hp) : Prop where
  size : w.heap.size ≤ w'.heap.size
  block : ∀ b, b < w.heap.size → h b = none → w'.heap[b]? = w.heap[b]?
  noacq : ∀ b, b < w.heap.size → h b = none → h' b = none
  rows : ∀ b o', b < w.heap.size → h' b = some o' → ∃ o, h b = some o ∧ o.ty = o'.ty ∧ ∀ c fr, w.heap[b]? = some (.cells c o.ty fr) → ∃ c' fr', w'.heap[b]? = some (.cells c' o.ty fr') ∧ c'.size = c.size

theorem GlobH.step {w w' : World} {h h' : Hp} (g : GlobH w h) (st : Stp w h w' h') : GlobH w' h' := by
  intro x hx
  obtain ⟨h1, ⟨ty, fr, h2⟩, h3⟩ := g x hx
  have hlt : x.1 < w.heap.size := (Array.getElem?_eq_some_iff.1 h2).1
  exact ⟨st.noacq _ hlt h1, ⟨ty, fr, (st.block _ hlt h1).trans h2⟩, h3⟩

theorem cell_block {w w' : World} {b off : Nat} (hb : w'.heap[b]? = w.heap[b]?) : w'.cell? ⟨b, off, none⟩ = w.cell? ⟨b, off, none⟩ := World.cell?_of_block (a := ⟨b, off, none⟩) hb

theorem Rd.step {w w' : World} {h h' : Hp} (st : Stp w h w' h') : ∀ (a : AV) (u : Value), Rd w h a u → Rd w' h' a u := by
  intro a
  induction a with
  | v x => intro u hu; exact hu
  | any => intro u _; trivial
  | pt b s i j => intro u hu; exact hu
  | mp n f ih => intro u hu; exact hu
  | e0 => intro u hu; exact hu
  | sl s n f ih =>
    rintro u ⟨A, c, rfl, hc, hm, hr⟩
    refine ⟨A, c, rfl, hc, hm, fun hn => ?_⟩
    obtain ⟨b, off, hA, hb, hlt, hcell⟩ := hr hn
    refine ⟨b, off, hA, st.noacq b hlt hb, Nat.lt_of_lt_of_le hlt st.size, fun i hi j hj => ?_⟩
    obtain ⟨x, hx, h1, hx'⟩ := hcell i hi j hj
    exact ⟨x, (cell_block (st.block b hlt hb)).trans hx, h1, ih i j x hx'⟩
  | agg m f ih =>
    rintro u ⟨cs, rfl, hs, hr⟩
    refine ⟨cs, rfl, hs, fun j hj => ?_⟩
    obtain ⟨x, hx, h1, hx'⟩ := hr j hj
    exact ⟨x, hx, h1, ih j x hx'⟩
  | tup m f ih =>
    rintro u ⟨cs, rfl, hs, hr⟩
    refine ⟨cs, rfl, hs, fun j hj => ?_⟩
    obtain ⟨x, hx, hx'⟩ := hr j hj
    exact ⟨x, hx, ih j x hx'⟩
  | row b s off len =>
    rintro u ⟨cap, rfl, hl, hlt, hm, ho⟩
    refine ⟨cap, rfl, hl, Nat.lt_of_lt_of_le hlt st.size, hm, fun o' ho' => ?_⟩
    obtain ⟨o, h1, h2, h3⟩ := st.rows b o' hlt ho'
    obtain ⟨c, fr, h4, h5⟩ := ho o h1
    obtain ⟨c', fr', h6, h7⟩ := h3 c fr h4
    exact ⟨c', fr', h2 ▸ h6, h7.trans h5⟩
  | fp m f ih =>
    rintro u ⟨b, off, rfl, hb, hlt, hr⟩
    refine ⟨b, off, rfl, st.noacq b hlt hb, Nat.lt_of_lt_of_le hlt st.size, fun j hj => ?_⟩
    obtain ⟨x, hx, h1, hx'⟩ := hr j hj
    exact ⟨x, (cell_block (st.block b hlt hb)).trans hx, h1, ih j x hx'⟩

theorem Stp.refl (w : World) (h : Hp) : Stp w h w h := ⟨Nat.le_refl _, fun _ _ _ => rfl, fun _ _ x => x, fun b o' _ ho => ⟨o', ho, rfl, fun c fr hc => ⟨c, fr, hc, rfl⟩⟩⟩

theorem RelH.lt {w : World} {h : Hp} (hr : RelH w h) {b : Nat} {o : Ob} (hb : h b = some o) : b < w.heap.size := by
  have hx := hr.own b o hb
  unfold HeldH at hx
  split at hx
  · rcases hx.2 with ⟨n, g, k, _, _, es, he, _⟩ | ⟨s, p, _, _, he⟩ | ⟨m, a, c, d, _, _, _, _, he⟩ <;> exact (Array.getElem?_eq_some_iff.1 he).1
  · obtain ⟨c, hc, _⟩ := hx
    exact (Array.getElem?_eq_some_iff.1 hc).1
theorem HeldH.step {w w' : World} {h h' : Hp} {b : Nat} {o : Ob} (hx : HeldH w h b o) (st : Stp w h w' h') (hb : w'.heap[b]? = w.heap[b]?) : HeldH w' h' b o := by
  unfold HeldH at hx ⊢
  split at hx
  · rename_i hc
    rw [if_pos hc]
    refine ⟨hx.1, ?_⟩
    rcases hx.2 with ⟨n, g, k, h1, h2, es, he, hs, hes, hp⟩ | ⟨s, p, h1, h2, he⟩ | ⟨m, a, c, d, h1, h2, h3, h4, he⟩
    · refine .inl ⟨n, g, k, h1, h2, es, hb.trans he, hs, fun i hi => ?_, hp⟩
      obtain ⟨e, e1, e2, e3, e4⟩ := hes i hi
      exact ⟨e, e1, e2.step st, e3.step st, e4⟩
    · exact .inr (.inl ⟨s, p, h1, h2, hb.trans he⟩)
    · exact .inr (.inr ⟨m, a, c, d, h1, h2, h3, h4, hb.trans he⟩)
  · rename_i hc
    rw [if_neg hc]
    obtain ⟨c, hc, hn, hp, hcell⟩ := hx
    refine ⟨c, hb.trans hc, hn, hp, fun i hi j hj => ?_⟩
    obtain ⟨x, hx, h1, hx'⟩ := hcell i hi j hj
    exact ⟨x, hx, h1, hx'.step st⟩

theorem Stp.trans {w0 w w' : World} {h0 h h' : Hp} (s : Stp w0 h0 w h) (t : Stp w h w' h') : Stp w0 h0 w' h' := by
  refine ⟨Nat.le_trans s.size t.size, fun b hb hn => (t.block b (Nat.lt_of_lt_of_le hb s.size) (s.noacq b hb hn)).trans (s.block b hb hn), fun b hb hn => t.noacq b (Nat.lt_of_lt_of_le hb s.size) (s.noacq b hb hn), fun b o'' hb ho => ?_⟩
  obtain ⟨o', h1, h2, h3⟩ := t.rows b o'' (Nat.lt_of_lt_of_le hb s.size) ho
  obtain ⟨o, h4, h5, h6⟩ := s.rows b o' hb h1
  refine ⟨o, h4, h5.trans h2, fun c fr hc => ?_⟩
  obtain ⟨c', fr', h7, h8⟩ := h6 c fr hc
  rw [h5] at h7
  obtain ⟨c'', fr'', h9, h10⟩ := h3 c' fr' h7
  exact ⟨c'', fr'', h5 ▸ h9, h10.trans h8⟩
theorem Stp.below {w0 w : World} {h : Hp} (s : Stp w0 (fun _ => none) w h) (k : Io w0 w) : Below w0.heap.size w0 w := ⟨k.os, k.tape, k.output, s.size, fun b hb => s.block b hb rfl⟩

/-- The world grows: nothing that was there turns. -/
theorem Stp.grow {w w' : World} {h : Hp} (hr : RelH w h) (hs : w.heap.size ≤ w'.heap.size) (hb : ∀ b, b < w.heap.size → w'.heap[b]? = w.heap[b]?) : Stp w h w' h :=
  ⟨hs, fun b hlt _ => hb b hlt, fun _ _ x => x, fun b o' hlt ho => ⟨o', ho, rfl, fun c fr hc => ⟨c, fr, (hb b hlt).trans hc, rfl⟩⟩⟩
theorem RelH.grow {w w' : World} {h : Hp} (hr : RelH w h) (hs : w.heap.size ≤ w'.heap.size) (hb : ∀ b, b < w.heap.size → w'.heap[b]? = w.heap[b]?) : RelH w' h := by
  refine ⟨fun b o ho => ?_, hr.glob.step (Stp.grow hr hs hb)⟩
  exact (hr.own b o ho).step (Stp.grow hr hs hb) (hb b (hr.lt ho))

theorem Rd_aggL {w : World} {h : Hp} {m : Nat} {f : Nat → AV} {u : Value} (hr : Rd w h (.agg m f) u) : Rd w h (aggL ((List.range m).map f)) u := by
  obtain ⟨cs, rfl, hs, hc⟩ := hr
  refine ⟨cs, rfl, by simp [hs], fun j hj => ?_⟩
  have hj' : j < m := by simpa using hj
  obtain ⟨x, hx, h1, hr⟩ := hc j hj'
  refine ⟨x, hx, h1, ?_⟩
  have e : ((List.range m).map f).getD j .any = f j := by simp [List.getD_eq_getElem?_getD, List.getElem?_range hj']
  show Rd w h (((List.range m).map f).getD j .any) x
  rw [e]; exact hr

/-- The frame and the world agree with the abstract slots and the abstract heap. -/
structure Rel (w0 : World) (h0 : Hp) (N : Nat) (T : Nat → AV) (h : Hp) (a : Act) (w : World) : Prop where
  size : a.tmps.size = N
  defers : a.defers = []
  slots : ∀ i, Rd w h (T i) (a.tmps.getD i undef)
  heap : RelH w h
  io : Io w0 w
  stp : Stp w0 h0 w h

/-- A variable of the program. -/
def glV (g : Nat) : Option (Nat × List Value) → AV
  | some x => .fp x.2.length fun j => .v (x.2.getD j undef)
  | none => .v (.pointer (some ⟨g, 0, none⟩))
def glA (g : Nat) : AV := glV g (gl.find? fun x => x.1 == g)
def ev (T : Nat → AV) : Operand → AV
  | .tmp t => T t
  | .const v => .v v
  | .global g => glA g
  | .func f => .v (.func (.func f) #[] #[])

theorem Rel.ev {w0 : World} {h0 : Hp} {N : Nat} {T : Nat → AV} {h : Hp} {a : Act} {w : World} (r : Rel w0 h0 N T h a w) (x : Operand) : Rd w h (ev T x) (a.eval x) := by
  cases x with
  | tmp t => exact r.slots t
  | const v => rfl
  | global g =>
    show Rd w h (glA g) (.pointer (some ⟨g, 0, none⟩))
    unfold glA
    cases hf : gl.find? fun x => x.1 == g with
    | none => rfl
    | some x =>
      have hx := List.mem_of_find?_eq_some hf
      have hg : x.1 = g := by simpa using List.find?_some hf
      obtain ⟨h1, ⟨ty, fr, h2⟩, h3⟩ := r.heap.glob x hx
      subst hg
      refine ⟨x.1, 0, rfl, h1, (Array.getElem?_eq_some_iff.1 h2).1, fun j hj => ?_⟩
      have hj' : x.2[j]? = some x.2[j] := List.getElem?_eq_getElem hj
      refine ⟨x.2[j], ?_, h3 _ (List.getElem_mem hj), ?_⟩
      · simp only [World.cell?, h2, Nat.zero_add]
        simp [hj]
      · show x.2[j] = x.2.getD j undef
        rw [List.getD_eq_getElem?_getD, hj']; rfl
  | func f => rfl

theorem getD_set (ts : Array Value) (d i : Nat) (x : Value) (hd : d < ts.size) : (ts.setIfInBounds d x).getD i undef = if i = d then x else ts.getD i undef := by
  by_cases h : i = d
  · subst h
    simp [Array.getD_eq_getD_getElem?, Array.getElem?_setIfInBounds, hd]
  · simp [Array.getD_eq_getD_getElem?, Array.getElem?_setIfInBounds, h, Ne.symm h]

/-- A slot is written; the world has stepped. -/
theorem Rel.put {w0 : World} {h0 : Hp} {N : Nat} {T : Nat → AV} {h h' : Hp} {a : Act} {w w' : World} (r : Rel w0 h0 N T h a w) {d : Nat} (hd : d < N) {x : AV} {u : Value} (hx : Rd w' h' x u)
    (st : Stp w h w' h') (hh : RelH w' h') (hk : Io w w') : Rel w0 h0 N (upd T d x) h' (a.put (some d) u) w' := by
  refine ⟨by simp [Act.put, r.size], by simp [Act.put, r.defers], fun i => ?_, hh, r.io.trans hk, r.stp.trans st⟩
  have e : (a.put (some d) u).tmps.getD i undef = if i = d then u else a.tmps.getD i undef := by
    simp only [Act.put]
    exact getD_set _ _ _ _ (by rw [r.size]; exact hd)
  rw [e]
  unfold upd
  by_cases hi : i = d
  · simp only [hi, if_true]; exact hx
  · simp only [hi, if_false]; exact (r.slots i).step st
theorem Rel.put0 {w0 : World} {h0 : Hp} {N : Nat} {T : Nat → AV} {h h' : Hp} {a : Act} {w w' : World} (r : Rel w0 h0 N T h a w) {u : Value}
    (st : Stp w h w' h') (hh : RelH w' h') (hk : Io w w') : Rel w0 h0 N T h' (a.put none u) w' :=
  ⟨r.size, r.defers, fun i => (r.slots i).step st, hh, r.io.trans hk, r.stp.trans st⟩

end Go.Proofs.YtmalhikcdideoaaGreatDoor.Sl
