/- The semantic layer, thirteenth part: what a call borrows, slices made by appending, lists. -/
import Derived.Test.YtmalhikcdideoaaGreatDoorSlL
set_option linter.unusedVariables false
set_option linter.unusedSimpArgs false
namespace Go.Proofs.YtmalhikcdideoaaGreatDoor.Sl
open Go Go.RowKit

/-- Without anything of one's own, a reads as a'. -/
def Lend (h : Hp) (a a' : AV) : Prop := ∀ w u, RelH w h → Rd w h a u → Rd w (fun _ => none) a' u
def Flat : AV → Prop
  | .v _ => True
  | .agg m f => ∀ j, j < m → Flat (f j)
  | .tup m f => ∀ j, j < m → Flat (f j)
  | .any => True
  | .e0 => True
  | .pt _ _ _ _ => True
  | _ => False
theorem sub_none (h : Hp) : ∀ b o, (fun _ => none : Hp) b = some o → h b = some o := fun b o hb => by cases hb
theorem Lend.refl {h : Hp} (a : AV) : Lend h a a := fun w u hh hr => hr.step (stp_forget (sub_none h))
theorem Rd.flat {w w' : World} {h h' : Hp} : ∀ (a : AV) (u : Value), Flat a → Rd w h a u → Rd w' h' a u := by
  intro a
  induction a with
  | v x => intro u _ hu; exact hu
  | any => intro u _ _; trivial
  | e0 => intro u _ hu; exact hu
  | pt b s i j => intro u _ hu; exact hu
  | agg m f ih =>
    rintro u hf ⟨cs, rfl, hs, hr⟩
    refine ⟨cs, rfl, hs, fun j hj => ?_⟩
    obtain ⟨x, hx, h1, hx'⟩ := hr j hj
    exact ⟨x, hx, h1, ih j x (hf j hj) hx'⟩
  | tup m f ih =>
    rintro u hf ⟨cs, rfl, hs, hr⟩
    refine ⟨cs, rfl, hs, fun j hj => ?_⟩
    obtain ⟨x, hx, hx'⟩ := hr j hj
    exact ⟨x, hx, ih j x (hf j hj) hx'⟩
  | sl s n f ih => intro u hf; exact hf.elim
  | row b s off len => intro u hf; exact hf.elim
  | mp n f ih => intro u hf; exact hf.elim
  | fp m f ih => intro u hf; exact hf.elim
theorem Lend.row {h : Hp} {b s n : Nat} {o : Ob} {f : Nat → Nat → AV} (hb : h b = some o) (h1 : o.s = s) (h2 : n ≤ o.n) (h3 : n ≤ 140737488355328) (hf : ∀ i, i < n → ∀ j, j < s → o.f i j = f i j) : Lend h (.row b s 0 n) (.sl s n f) := by
  intro w u hh hr
  obtain ⟨cap, hu, hle, hlt, _⟩ := hr
  subst h1
  refine ⟨some ⟨b, 0 * o.s, none⟩, cap, hu, hle, h3, fun _ => ⟨b, 0 * o.s, rfl, rfl, hlt, fun i hi j hj => ?_⟩⟩
  obtain ⟨c, hc, hn, hp, hcell⟩ := hh.cells hb (.inl (by omega))
  obtain ⟨y, hy, hy1, hyr⟩ := hcell i (by omega) j hj
  exact ⟨y, by simp only [World.cell?, hc]; simpa using hy, hy1, by rw [← hf i hi j hj]; exact hyr.step (stp_forget (sub_none h))⟩
theorem Lend.sl {h : Hp} {s n : Nat} {f g : Nat → Nat → AV} (hf : ∀ i, i < n → ∀ j, j < s → f i j = g i j) : Lend h (.sl s n f) (.sl s n g) := by
  intro w u hh hr
  obtain ⟨A, c, hu, hc, hm, hr⟩ := hr.step (stp_forget (sub_none h))
  refine ⟨A, c, hu, hc, hm, fun hn => ?_⟩
  obtain ⟨b, off, h1, h2, h3, h4⟩ := hr hn
  refine ⟨b, off, h1, h2, h3, fun i hi j hj => ?_⟩
  obtain ⟨x, hx, h5, h6⟩ := h4 i hi j hj
  exact ⟨x, hx, h5, by rw [← hf i hi j hj]; exact h6⟩
theorem Lend.nil {h : Hp} {s : Nat} {f : Nat → Nat → AV} : Lend h (.v (.slice none 0 0)) (.sl s 0 f) := by
  intro w u hh hr
  exact ⟨none, 0, hr, Nat.le_refl _, by omega, fun hn => absurd hn (by omega)⟩

theorem Lend.e0 {h : Hp} {s : Nat} {f : Nat → Nat → AV} : Lend h .e0 (.sl s 0 f) := by
  rintro w u hh ⟨A, hr⟩
  exact ⟨A, 0, hr, Nat.le_refl _, by omega, fun hn => absurd hn (by omega)⟩

inductive LendL (h : Hp) : List AV → List AV → Prop
  | nil : LendL h [] []
  | cons {a a' : AV} {l l' : List AV} : Lend h a a' → LendL h l l' → LendL h (a :: l) (a' :: l')
theorem LendL.get {h : Hp} {l l' : List AV} (hl : LendL h l l') : l.length = l'.length ∧ ∀ (i : Nat) (a' : AV), l'[i]? = some a' → ∃ a, l[i]? = some a ∧ Lend h a a' := by
  induction hl with
  | nil => exact ⟨rfl, fun i a' h => by simp at h⟩
  | cons h1 _ ih =>
    refine ⟨by simp [ih.1], fun i a' h => ?_⟩
    cases i with
    | zero => simp at h; subst h; exact ⟨_, by simp, h1⟩
    | succ i => simp at h ⊢; exact ih.2 i a' h
theorem LendL.self {h : Hp} : ∀ l : List AV, LendL h l l
  | [] => .nil
  | a :: l => .cons (Lend.refl a) (LendL.self l)
/-- A call whose arguments are borrowed. -/
theorem Pure.lend {P : Program} {h : Hp} {f : FuncId} {args args' : List AV} {r : AV} (c : Pure P f args' r) (hl : LendL h args args') (hf : Flat r) : PureAt P h f args r := by
  intro w vals hh ha
  have ha' : RdL w (fun _ => none) args' vals := by
    refine ⟨by rw [ha.1, hl.get.1], fun i a' hi => ?_⟩
    obtain ⟨a, h1, h2⟩ := hl.get.2 i a' hi
    obtain ⟨u, hu, hr⟩ := ha.2 i a h1
    exact ⟨u, hu, h2 w u hh hr⟩
  refine (c (fun _ => none) w vals (relH_forget hh (sub_none h)) ha').mono fun e w' ⟨u, r', h', he, ⟨e1, e2⟩, hr, hh', hio, hst⟩ => ?_
  subst e1; subst e2
  have hblk : ∀ b, b < w.heap.size → w'.heap[b]? = w.heap[b]? := fun b hb => hst.block b hb rfl
  exact ⟨u, r', h, he, ⟨rfl, rfl⟩, Rd.flat r' u hf hr, hh.grow hst.size hblk, hio, Stp.grow hh hst.size hblk⟩

theorem Flat.v (x : Value) : Flat (.v x) := trivial
theorem Flat.tup2 {a b : AV} (h1 : Flat a) (h2 : Flat b) : Flat (tup2 a b) := fun j hj => by
  show Flat (if j = 0 then a else b)
  split <;> assumption
theorem Flat.aggL {l : List AV} (hl : ∀ a ∈ l, Flat a) : Flat (aggL l) := fun j hj => by
  show Flat (l.getD j .any)
  rw [List.getD_eq_getElem?_getD, List.getElem?_eq_getElem hj]
  exact hl _ (List.getElem_mem hj)

/-- A slice of the call's own, made by appending, above the heap h0; or still none. -/
def Own (h0 h : Hp) (a : AV) (e : TypeId) (s n : Nat) (f : Nat → Nat → AV) : Prop :=
  Sub h0 h ∧ ((n = 0 ∧ (a = .v (.slice none 0 0) ∨ a = .e0)) ∨ ∃ b o, a = .row b s 0 n ∧ h0 b = none ∧ h b = some o ∧ o.s = s ∧ o.ty = e ∧ o.n = n ∧ 0 < n ∧ ∀ i, i < n → ∀ j, j < s → o.f i j = f i j)
theorem Own.none {h : Hp} {e : TypeId} {s : Nat} {f : Nat → Nat → AV} : Own h h (.v (.slice none 0 0)) e s 0 f := ⟨Sub.refl h, .inl ⟨rfl, .inl rfl⟩⟩
theorem Own.lend {h0 h : Hp} {a : AV} {e : TypeId} {s n : Nat} {f : Nat → Nat → AV} (o : Own h0 h a e s n f) (h3 : n ≤ 140737488355328) : Lend h a (.sl s n f) := by
  rcases o with ⟨_, ⟨rfl, rfl | rfl⟩ | ⟨b, o, rfl, _, h1, h2, h4, h5, _, h6⟩⟩
  · exact Lend.nil
  · exact Lend.e0
  · exact Lend.row h1 h2 (by omega) h3 h6
theorem Own.fin {h0 h : Hp} {a : AV} {e : TypeId} {s n : Nat} {f : Nat → Nat → AV} (o : Own h0 h a e s n f) {r r' : AV} (hr : r = r') : Wk h r h0 r' := Wk.fin o.1 hr
theorem Own.frozen {h0 h : Hp} {a : AV} {e : TypeId} {s n : Nat} {f : Nat → Nat → AV} (o : Own h0 h a e s n f) (h3 : n ≤ 140737488355328) : Wk h a h0 (.sl s n f) := by
  constructor
  intro w u hh hr
  refine ⟨stp_forget o.1, relH_forget hh o.1, ?_⟩
  rcases o with ⟨hs, ⟨rfl, rfl | rfl⟩ | ⟨b, o, rfl, hb0, h1, h2, h4, h5, _, h6⟩⟩
  · exact ⟨Option.none, 0, hr, Nat.le_refl _, by omega, fun hn => absurd hn (by omega)⟩
  · obtain ⟨A, hr⟩ := hr
    exact ⟨A, 0, hr, Nat.le_refl _, by omega, fun hn => absurd hn (by omega)⟩
  · obtain ⟨cap, hu, hle, hlt, _⟩ := hr
    subst h2
    refine ⟨some ⟨b, 0 * o.s, Option.none⟩, cap, hu, hle, h3, fun _ => ⟨b, 0 * o.s, rfl, hb0, hlt, fun i hi j hj => ?_⟩⟩
    obtain ⟨c, hc, hn, hp, hcell⟩ := hh.cells h1 (.inl (by omega))
    obtain ⟨y, hy, hy1, hyr⟩ := hcell i (by omega) j hj
    exact ⟨y, by simp only [World.cell?, hc]; simpa using hy, hy1, by rw [← h6 i hi j hj]; exact hyr.step (stp_forget hs)⟩
/-- An append, whatever block it gives. -/
theorem Own.append {P : Program} {N : Nat} {T : Nat → AV} {h0 h : Hp} {K : (Nat → AV) → Hp → Prop} {d : Option Tmp} {x y : Operand} {t e : TypeId} {t' : TypeId} {p : String} {af : Array Edge} {g : Option (Nat × Bool)} {s n m by_ : Nat} {z : List Value} {f q : Nat → Nat → AV}
    (o : Own h0 h (ev T x) e s n f) (hu : P.underlying t = some (.slice e)) (hz : zeroA P e = some (s, z)) (hb : bytesT P e = some by_) (hd : dOk N d = true) (hs : srcA h s (ev T y) = some (m, q)) (hm : (n + m) * by_ ≤ 140737488355328) (hm' : n + m ≤ 140737488355328)
    (hk : ∀ a h', Own h0 h' a e s (n + m) (fun i j => if i < n then f i j else q (i - n) j) → (∀ c oc, h c = some oc → ev T x ≠ .row c s 0 n → h' c = some oc) → K (putD T d a) h') : XW P N ⟨d, .call ⟨.builtin .append, #[x, y], #[t, t]⟩, t', p, af, g⟩ T h K := by
  have hsub := o.1
  rcases o with ⟨_, ⟨hn, ha | ha⟩ | ⟨b, ob, ha, hb0, h1, h2, h4, h5, hpos, h6⟩⟩
  · subst hn
    simp only [XW, hu, hz, hb, hs, ha]
    refine ⟨hd, .inl ⟨trivial, by simpa using hm, by omega, fun h => hk _ _ ⟨hsub, .inl ⟨by omega, .inl rfl⟩⟩ (fun c oc hc _ => hc), fun hpos b hbn => hk _ _ ⟨Sub.upd ?_ hsub, .inr ⟨b, _, by simp, ?_, upd_same _ _ _, rfl, rfl, by simp, by omega, fun i hi j hj => by simp⟩⟩ (fun c oc hc _ => by rw [upd_ne _ _ (fun e => by subst e; rw [hc] at hbn; cases hbn)]; exact hc)⟩⟩
    · cases hx : h0 b with
      | none => rfl
      | some o => rw [hsub b o hx] at hbn; cases hbn
    · cases hx : h0 b with
      | none => rfl
      | some o => rw [hsub b o hx] at hbn; cases hbn
  · subst hn
    simp only [XW, hu, hz, hb, hs, ha]
    refine ⟨hd, .inl ⟨trivial, by simpa using hm, by omega, fun h => hk _ _ ⟨hsub, .inl ⟨by omega, .inr rfl⟩⟩ (fun c oc hc _ => hc), fun hpos b hbn => hk _ _ ⟨Sub.upd ?_ hsub, .inr ⟨b, _, by simp, ?_, upd_same _ _ _, rfl, rfl, by simp, by omega, fun i hi j hj => by simp⟩⟩ (fun c oc hc _ => by rw [upd_ne _ _ (fun e => by subst e; rw [hc] at hbn; cases hbn)]; exact hc)⟩⟩
    · cases hx : h0 b with
      | none => rfl
      | some o => rw [hsub b o hx] at hbn; cases hbn
    · cases hx : h0 b with
      | none => rfl
      | some o => rw [hsub b o hx] at hbn; cases hbn
  · simp only [XW, hu, hz, hb, hs, ha, h1]
    refine ⟨hd, .inl ⟨trivial, h2, trivial, h4, h5, hm, hm', fun b' hb' => hk _ _ ⟨?_, .inr ⟨b', _, rfl, ?_, upd_same _ _ _, rfl, rfl, rfl, by omega, fun i hi j hj => ?_⟩⟩ (fun c oc hc hne => ?_)⟩⟩
    · have hb'0 : h0 b' = Option.none := by
        rcases hb' with rfl | hb'
        · exact hb0
        · cases hx : h0 b' with
          | none => rfl
          | some o => rw [hsub b' o hx] at hb'; cases hb'
      exact Sub.upd hb'0 (Sub.upd hb0 hsub)
    · rcases hb' with rfl | hb'
      · exact hb0
      · cases hx : h0 b' with
        | none => rfl
        | some o => rw [hsub b' o hx] at hb'; cases hb'
    · show (if i < n then ob.f i j else q (i - n) j) = (if i < n then f i j else q (i - n) j)
      split
      · rw [h6 i (by omega) j hj]
      · rfl
    · have hcb : c ≠ b := fun e => hne (by rw [ha, e])
      have hcb' : c ≠ b' := by
        rcases hb' with rfl | hb'
        · exact hcb
        · intro e; subst e; rw [hc] at hb'; cases hb'
      rw [upd_ne _ _ hcb', upd_ne _ _ hcb]; exact hc
theorem Own.ne {h0 h : Hp} {a : AV} {e : TypeId} {s n c : Nat} {f : Nat → Nat → AV} {oc : Ob} (o : Own h0 h a e s n f) (hc : h c = some oc) (hne : oc.s ≠ s ∨ oc.ty ≠ e) : a ≠ .row c s 0 n := by
  rintro rfl
  rcases o with ⟨_, ⟨_, ha | ha⟩ | ⟨b, ob, ha, hb0, h1, h2, h4, h5, hpos, h6⟩⟩
  · cases ha
  · cases ha
  · cases ha
    rw [hc] at h1
    cases h1
    rcases hne with h | h
    · exact h h2
    · exact h h4

/-- A list of things, each of s cells. -/
def encL {α : Type} (s : Nat) (enc : α → List AV) (l : List α) : AV := .sl s l.length fun i j => match l[i]? with
  | some x => (enc x).getD j .any
  | none => .any
def cellsL {α : Type} (enc : α → List AV) (l : List α) : Nat → Nat → AV := fun i j => match l[i]? with
  | some x => (enc x).getD j .any
  | none => .any
theorem encL_eq {α : Type} (s : Nat) (enc : α → List AV) (l : List α) : encL s enc l = .sl s l.length (cellsL enc l) := rfl
theorem cellsL_at {α : Type} {enc : α → List AV} {l : List α} {i : Nat} {x : α} (h : l[i]? = some x) (j : Nat) : cellsL enc l i j = (enc x).getD j .any := by simp [cellsL, h]
theorem Own.snoc {α : Type} {h0 h : Hp} {a : AV} {e : TypeId} {s n : Nat} {enc : α → List AV} {l : List α} {q : Nat → Nat → AV} {x : α} (hn : n = l.length) (o : Own h0 h a e s (n + 1) fun i j => if i < n then cellsL enc l i j else q (i - n) j) (hq : ∀ j, j < s → q 0 j = (enc x).getD j .any) : Own h0 h a e s (l ++ [x]).length (cellsL enc (l ++ [x])) := by
  subst hn
  rw [List.length_append, List.length_singleton]
  rcases o with ⟨hs, ⟨h1, _⟩ | ⟨b, o, h1, h2, h3, h4, h5, h6, h7, h8⟩⟩
  · omega
  · refine ⟨hs, .inr ⟨b, o, h1, h2, h3, h4, h5, h6, h7, fun i hi j hj => ?_⟩⟩
    rw [h8 i hi j hj]
    by_cases hil : i < l.length
    · simp [hil, cellsL, List.getElem?_append_left hil]
    · have hie : i = l.length := by omega
      subst hie
      simp [cellsL, hq j hj]
end Go.Proofs.YtmalhikcdideoaaGreatDoor.Sl
