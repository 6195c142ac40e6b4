/- The semantic layer, eighth part: what is told abstractly of operations, regions and code is what the machine does; a call by its body. -/
import Derived.Test.YtmalhikcdideoaaGreatDoorSlP
set_option linter.unusedVariables false
set_option linter.unusedSimpArgs false
namespace Go.Proofs.YtmalhikcdideoaaGreatDoor.Sl
open Go Go.RowKit

section
variable {P : Program} {N : Nat} {w0 : World} {h0 : Hp} {T : Nat → AV} {h : Hp} {a : Act} {w : World}
variable {K : (Nat → AV) → Hp → Prop} {next : Act → World → Prop} {Q : Exit → Act → World → Prop}

theorem XW_sound {o : Oper} (hx : XW P N o T h K) (r : Rel w0 h0 N T h a w) (hn : ∀ T' h' a' w', K T' h' → Rel w0 h0 N T' h' a' w' → next a' w') : o.wp P a w next Q := by
  obtain ⟨hd, hx⟩ := hx
  split at hx
  · rename_i e ho
    split at hx
    · rename_i n z hz
      exact alloc_sound ho hd hz hx r hn
    · cases hx
  · rename_i e x ho
    split at hx
    · rename_i n f hz
      exact box_sound ho hd hz hx.1 hx.2 r hn
    · cases hx
  · rename_i t ad x ho
    have had := r.ev ad
    split at hx
    · rename_i n row m f b off ht hc he
      rw [he] at had
      split at hx
      · rename_i ob hb
        obtain ⟨rfl, h1, h2, hk⟩ := hx
        have had' : a.eval ad = .pointer (some ⟨b, off, none⟩) := had
        exact store_sound ho hd ht hc hb (i := 0) (j := off) (by simpa using had') h1 h2 hk r hn
      · cases hx
    · rename_i n row m f b s i j ht hc he
      rw [he] at had
      split at hx
      · rename_i ob hb
        obtain ⟨rfl, rfl, h1, h2, hk⟩ := hx
        exact store_sound ho hd ht hc hb (i := i) (j := j) had h1 h2 hk r hn
      · cases hx
    · cases hx
  · rename_i t parts ho
    split at hx
    · rename_i pl m z hp hz
      split at hx
      · rename_i F hF
        exact build_sound ho hd hp hz hF hx r hn
      · cases hx
    · cases hx
  · rename_i t len parts ho
    split at hx
    · rename_i e hu
      split at hx
      · rename_i s z hz
        split at hx
        · rename_i l hl
          obtain ⟨h1, h2, hk⟩ := hx
          rcases Nat.eq_zero_or_pos len with h0 | h0
          · subst h0; exact buildSlice0_sound ho hd hu hz hl h1 (h2 rfl) r hn
          · exact buildSlice_sound ho hd hu hz hl h1 h0 (hk h0).1 (hk h0).2 r hn
        · cases hx
      · cases hx
    · cases hx
  · rename_i f args tys ho
    exact callX_sound ho hd hx r hn
  · rename_i x args tys ho
    split at hx
    · rename_i f first caps hT
      exact callv_sound ho hd hT hx.1 hx.2.1 hx.2.2 r hn
    · cases hx
  · rename_i args tys ho
    split at hx
    · rename_i s x t t' ha hty
      rcases hx with ⟨rfl, hx⟩ | hx
      case inr =>
        obtain ⟨e, z, bts, b, hu, hu', hz, hby, hxv, hx⟩ := hx
        have hxe : a.eval x = .string b := by have := r.ev x; rw [hxv] at this; exact this
        have hS : SrcRun P w h t t' o.type e (a.eval x) 1 b.size (bytesF b) := by rw [hxe]; exact SrcRun.str hu hu' b
        rcases hx with ⟨hs, h1, h2, h3, h4⟩ | ⟨k, n, ob, hs, hb, h1, h3, h4, h5, h6, h7⟩
        · exact append_nil_sound ho ha hty hd hu hz hby hS (A0 := none) (x0 := .v (.slice none 0 0)) (by have := r.ev s; rw [hs] at this; exact this) rfl h1 h2 h3 h4 r hn
        · exact append_row_sound ho ha hty hd hu hz hby hS hs hb h1 h3 h4 h5 h6 h7 r hn
      split at hx
      · rename_i e hu
        split at hx
        · rename_i sz z bts hz hby
          split at hx
          · rename_i m g hsrc
            split at hx
            · rename_i hs
              obtain ⟨h1, h2, h3, h4⟩ := hx
              exact append_nil_sound ho ha hty hd hu hz hby (SrcRun.ofA r.heap hu (zeroA_pos hz) hsrc (r.ev x)) (A0 := none) (x0 := .v (.slice none 0 0)) (by have := r.ev s; rw [hs] at this; exact this) rfl h1 h2 h3 h4 r hn
            · rename_i b s' n hs
              split at hx
              · rename_i ob hb
                obtain ⟨h1, rfl, h3, h4, h5, h6, h7⟩ := hx
                exact append_row_sound ho ha hty hd hu hz hby (SrcRun.ofA r.heap hu (zeroA_pos hz) hsrc (r.ev x)) hs hb h1 h3 h4 h5 h6 h7 r hn
              · cases hx
            · rename_i hs
              obtain ⟨h1, h2, h3, h4⟩ := hx
              have he := r.ev s
              rw [hs] at he
              obtain ⟨A0, he⟩ := he
              exact append_nil_sound ho ha hty hd hu hz hby (SrcRun.ofA r.heap hu (zeroA_pos hz) hsrc (r.ev x)) (x0 := .e0) he ⟨A0, rfl⟩ h1 h2 h3 h4 r hn
            · cases hx
          · cases hx
        · cases hx
      · cases hx
    · cases hx
  · exact XW2_sound hd hx r hn

theorem XOp_sound {o : Oper} (hx : XOp P N o T h K) (r : Rel w0 h0 N T h a w) (hn : ∀ T' h' a' w', K T' h' → Rel w0 h0 N T' h' a' w' → next a' w') : o.wp P a w next Q := by
  unfold XOp at hx
  split at hx
  · rename_i v hv
    obtain ⟨u, hu, hr⟩ := stp_sound r hv
    unfold Oper.wp
    rw [hu]
    exact hn _ _ _ _ hx.2 (r.put_same hx.1 hr)
  · exact XW_sound hx r hn

theorem gvA_yielded (r : Rel w0 h0 N T h a w) {ops : Array Oper} {j : Nat} {want b : Bool} (hg : gvA ops.toList T j want = some b) : (b = want → yielded ops a.tmps j = some want) ∧ (b ≠ want → yielded ops a.tmps j ≠ some want) := by
  unfold gvA at hg
  unfold yielded
  have e : ops.toList[j]? = ops[j]? := by simp
  rw [e] at hg
  split at hg
  · rename_i d hd
    rw [hd]
    have hs := r.slots d
    simp only [Option.bind_some]
    unfold gvS at hg
    split at hg
    · rename_i b' hT
      simp only [Option.some.injEq] at hg; subst hg
      rw [hT] at hs
      have hs' : a.tmps.getD d undef = .bool b' := hs
      cases hdd : a.tmps[d]? with
      | none =>
        rw [Array.getD_eq_getD_getElem?, hdd] at hs'
        cases hs'
      | some u =>
        rw [Array.getD_eq_getD_getElem?, hdd] at hs'
        simp only [Option.getD_some] at hs'
        rw [hs']
        exact ⟨fun e => by rw [e], fun e => by simpa using e⟩
    · rename_i z hT
      simp only [Option.some.injEq] at hg; subst hg
      rw [hT] at hs
      have hs' : a.tmps.getD d undef = .tuple z := hs
      refine ⟨fun e => absurd e (by cases want <;> simp), fun _ => ?_⟩
      cases hdd : a.tmps[d]? with
      | none => simp
      | some u =>
        rw [Array.getD_eq_getD_getElem?, hdd] at hs'
        simp only [Option.getD_some] at hs'
        rw [hs']; simp
    · cases hg
  · cases hg

theorem XO_sound {ops : Array Oper} : ∀ {l : List Oper} {T : Nat → AV} {h : Hp} {a : Act} {w : World}, XO P N ops.toList l T h K → Rel w0 h0 N T h a w → (∀ T' h' a' w', K T' h' → Rel w0 h0 N T' h' a' w' → Q .normal a' w') → wpList P ops Q l a w := by
  intro l
  induction l with
  | nil => intro T h a w hx r hn; exact hn _ _ _ _ hx r
  | cons o l ih =>
    intro T h a w hx r hn
    unfold XO at hx
    unfold wpList
    split at hx
    · rename_i hg
      rw [if_pos (by simp [Region.wanted, hg])]
      exact .inl (XOp_sound hx r fun T' h' a' w' hk r' => ih hk r' hn)
    · rename_i j want hg
      split at hx
      · rename_i b hb
        have hy := gvA_yielded r hb
        by_cases hbw : b = want
        · rw [if_pos (by simp [Region.wanted, hg, hy.1 hbw])]
          exact .inl (XOp_sound (hx.1 hbw) r fun T' h' a' w' hk r' => ih hk r' hn)
        · rw [if_neg (by simp [Region.wanted, hg, hy.2 hbw])]
          obtain ⟨hd, hk⟩ := hx.2 hbw
          exact ih hk (r.put_same hd (x := un) (u := undef) rfl) hn
      · cases hx

/-- The post of code. -/
def XQ (w0 : World) (h0 : Hp) (N : Nat) (Q : Exit → (Nat → AV) → Hp → Prop) : Exit → Act → World → Prop := fun e a w => ∃ T h, Q e T h ∧ Rel w0 h0 N T h a w

theorem X_sound : ∀ (c : Code) {T : Nat → AV} {h : Hp} {a : Act} {w : World} {Q : Exit → (Nat → AV) → Hp → Prop}, X P N c T h Q → Rel w0 h0 N T h a w → c.wp P (XQ w0 h0 N Q) a w := by
  intro c
  induction c with
  | skip => intro T h a w Q hx r; exact wp_skip ⟨T, h, hx, r⟩
  | region id ops draw =>
    intro T h a w Q hx r
    unfold X at hx
    cases draw with
    | true =>
      rw [if_pos rfl] at hx
      exact Code.wp_mono (fun e a' w' ⟨he, T', h', hk, hr⟩ => by subst he; exact ⟨T', h', hk, hr⟩) (hx w0 h0 a w r)
    | false =>
      rw [if_neg (by simp)] at hx
      exact wp_region_list (XO_sound hx r fun T' h' a' w' hk hr => ⟨T', h', hk, hr⟩)
  | seq x y ihx ihy =>
    intro T h a w Q hx r
    unfold X at hx
    refine wp_seq (Code.wp_mono (fun e a' w' ⟨T', h', hk, hr⟩ => ?_) (ihx hx r))
    cases e <;> first
      | exact ihy hk hr
      | exact ⟨T', h', hk, hr⟩
  | cond c x y ihx ihy =>
    intro T h a w Q hx r
    unfold X at hx
    split at hx
    · rename_i t ht
      have hc := r.ev c
      rw [ht] at hc
      refine wp_cond_split (t := t) hc (fun h1 => ihx (hx.1 h1) r) (fun h1 => ihy (hx.2 h1) r)
    · cases hx
  | block id c ih =>
    intro T h a w Q hx r
    unfold X at hx
    refine wp_block (Code.wp_mono (fun e a' w' ⟨T', h', hk, hr⟩ => ?_) (ih hx r))
    cases e with
    | exit i =>
      simp only [Exit.inBlock]
      simp only at hk
      split
      · rename_i hi
        rw [if_pos hi] at hk
        exact ⟨T', h', hk, hr⟩
      · rename_i hi
        rw [if_neg hi] at hk
        exact ⟨T', h', hk, hr⟩
    | _ => exact ⟨T', h', hk, hr⟩
  | loop c ih =>
    intro T h a w Q hx r
    unfold X at hx
    obtain ⟨J, n0, h1, h2⟩ := hx
    let p : Act → World → Nat → Prop := fun a w n => ∃ T h, J n T h ∧ Rel w0 h0 N T h a w
    have least : ∀ a w n, p a w n → ∃ m, p a w m ∧ ∀ k, p a w k → m ≤ k := by
      intro a w n
      induction n using Nat.strongRecOn with
      | _ n ih =>
        intro hn
        by_cases hlt : ∃ k, k < n ∧ p a w k
        · obtain ⟨k, hk, hp⟩ := hlt
          exact ih k hk hp
        · exact ⟨n, hn, fun k hk => Nat.le_of_not_lt fun h => hlt ⟨k, h, hk⟩⟩
    let m : Act → World → Nat := fun a w => Classical.epsilon fun n => p a w n ∧ ∀ k, p a w k → n ≤ k
    have hm : ∀ a w n, p a w n → p a w (m a w) ∧ ∀ k, p a w k → m a w ≤ k := by
      intro a w n hn
      exact Classical.epsilon_spec (p := fun n => p a w n ∧ ∀ k, p a w k → n ≤ k) (least a w n hn)
    refine wp_loop (fun a w => ∃ n, p a w n) m ⟨n0, T, h, h1, r⟩ fun a w ⟨n, hn⟩ => ?_
    obtain ⟨T, h, k1, k2⟩ := (hm a w n hn).1
    refine Code.wp_mono (fun e a' w' ⟨T', h', hk, hr⟩ => ?_) (ih (h2 _ T h k1) k2)
    cases e with
    | normal =>
      obtain ⟨n', hlt, T2, h2', hw, hj⟩ := hk
      have hr2 := hw _ _ _ _ hr
      exact ⟨⟨n', T2, h2', hj, hr2⟩, Nat.lt_of_le_of_lt ((hm a' w' n' ⟨T2, h2', hj, hr2⟩).2 n' ⟨T2, h2', hj, hr2⟩) hlt⟩
    | _ => exact ⟨T', h', hk, hr⟩
  | exit id => intro T h a w Q hx r; exact wp_exit ⟨T, h, hx, r⟩
  | ret => intro T h a w Q hx r; exact wp_ret ⟨T, h, hx, r⟩
  | _ => intros; rename_i hx _; exact hx.elim
end

/-- What is left of a heap, and what a value then tells: objects given up, rows that nobody writes any more. -/
structure Wk (h : Hp) (r : AV) (h' : Hp) (r' : AV) : Prop where
  out : ∀ w u, RelH w h → Rd w h r u → Stp w h w h' ∧ RelH w h' ∧ Rd w h' r' u
theorem Wk.refl (h : Hp) (r : AV) : Wk h r h r := ⟨fun w u hh hr => ⟨Stp.refl w h, hh, hr⟩⟩
theorem Wk.sub {h h' : Hp} (r : AV) (hs : ∀ b o, h' b = some o → h b = some o) : Wk h r h' r := ⟨fun w u hh hr => ⟨stp_forget hs, relH_forget hh hs, hr.step (stp_forget hs)⟩⟩

def T0 (args : List AV) : Nat → AV := fun i => args.getD i .any
def resA (P : Program) (h : Hp) (T : Nat → AV) : List ResultVar → Option AV
  | [.tmp t] => some (T t)
  | [.cell t ty] => match T t with
    | .v (.pointer (some p)) => loadA P h ty (.v (.pointer (some p)))
    | _ => none
  | [.cell t ty, .tmp u] => match T t with
    | .v (.pointer (some p)) => match loadA P h ty (.v (.pointer (some p))) with
      | some x => some (tup2 x (T u))
      | none => none
    | _ => none
  | [.tmp t, .tmp u] => some (tup2 (T t) (T u))
  | [.tmp t, .tmp u, .tmp v] => some (tup3 (T t) (T u) (T v))
  | [] => some (.tup 0 fun _ => .any)
  | _ => none
theorem resA_run {P : Program} {N : Nat} {w0 : World} {h0 : Hp} {T : Nat → AV} {h : Hp} {a : Act} {w : World} (r : Rel w0 h0 N T h a w) {fn : Func} {v : AV} (hr : resA P h T fn.results.toList = some v) :
    ∃ u, (results fn a.tmps).run P w = .ok u w ∧ Rd w h v u := by
  unfold resA at hr
  split at hr
  · rename_i t hl
    have hl' : fn.results = #[.tmp t] := by rw [← Array.toList_inj]; simpa using hl
    simp only [Option.some.injEq] at hr; subst hr
    exact ⟨_, results_tmp hl' _ _ _, r.slots t⟩
  · rename_i t ty hl
    have hl' : fn.results = #[.cell t ty] := by rw [← Array.toList_inj]; simpa using hl
    split at hr
    · rename_i p hT
      have hs := r.slots t
      rw [hT] at hs
      have hs' : a.tmps.getD t undef = .pointer (some p) := hs
      obtain ⟨u, hu, hrd⟩ := load_sound (P := P) r.heap hr (u := .pointer (some p)) rfl
      refine ⟨u, ?_, hrd⟩
      simp only [Instr.loadAt, Instr.sureAddr, Sem.run_bind, Sem.run_pure, Result.andThen_ok] at hu
      rw [Array.getD_eq_getD_getElem?] at hs'
      simp [results, hl', hs', asAddr, hu]
    · cases hr
  · rename_i t ty y hl
    have hl' : fn.results = #[.cell t ty, .tmp y] := by rw [← Array.toList_inj]; simpa using hl
    split at hr
    · rename_i p hT
      have hs := r.slots t
      rw [hT] at hs
      have hs' : a.tmps.getD t undef = .pointer (some p) := hs
      split at hr
      · rename_i x hx
        simp only [Option.some.injEq] at hr; subst hr
        obtain ⟨u, hu, hrd⟩ := load_sound (P := P) r.heap hx (u := .pointer (some p)) rfl
        simp only [Instr.loadAt, Instr.sureAddr, Sem.run_bind, Sem.run_pure, Result.andThen_ok] at hu
        rw [Array.getD_eq_getD_getElem?] at hs'
        refine ⟨.tuple #[u, a.tmps.getD y undef], by simp [results, hl', hs', asAddr, hu], _, rfl, rfl, fun j hj => ?_⟩
        match j, hj with
        | 0, _ => exact ⟨_, rfl, hrd⟩
        | 1, _ => exact ⟨_, rfl, r.slots y⟩
      · cases hr
    · cases hr
  · rename_i t u hl
    have hl' : fn.results = #[.tmp t, .tmp u] := by rw [← Array.toList_inj]; simpa using hl
    simp only [Option.some.injEq] at hr; subst hr
    refine ⟨_, results_tmp2 hl' _ _ _, _, rfl, rfl, fun j hj => ?_⟩
    match j, hj with
    | 0, _ => exact ⟨_, rfl, r.slots t⟩
    | 1, _ => exact ⟨_, rfl, r.slots u⟩
  · rename_i t u v hl
    have hl' : fn.results = #[.tmp t, .tmp u, .tmp v] := by rw [← Array.toList_inj]; simpa using hl
    simp only [Option.some.injEq] at hr; subst hr
    refine ⟨.tuple #[a.tmps.getD t undef, a.tmps.getD u undef, a.tmps.getD v undef], by simp [results, hl'], _, rfl, rfl, fun j hj => ?_⟩
    match j, hj with
    | 0, _ => exact ⟨_, rfl, r.slots t⟩
    | 1, _ => exact ⟨_, rfl, r.slots u⟩
    | 2, _ => exact ⟨_, rfl, r.slots v⟩
  · rename_i hl
    have hl' : fn.results = #[] := by rw [← Array.toList_inj]; simpa using hl
    simp only [Option.some.injEq] at hr; subst hr
    exact ⟨_, results_none hl' _ _ _, _, rfl, rfl, fun j hj => absurd hj (by omega)⟩
  · cases hr

/-- A call by its body. -/
theorem callK_body {P : Program} {f : FuncId} {fn : Func} {c : Code} (hf : P.funcs[f]? = some fn) (hb : fn.body = some c) {args : List AV} {h : Hp} {K : AV → Hp → Prop} (hn : args.length ≤ fn.ntmps)
    (hx : X P fn.ntmps c (T0 args) h fun e T h' => (match e with | .normal => True | .ret => True | _ => False) ∧ ∃ r, resA P h' T fn.results.toList = some r ∧ ∃ r' h'', Wk h' r h'' r' ∧ K r' h'') : CallK P h f args K := by
  intro w vals hh ⟨hsz, ha⟩
  refine calls_of_wp hf hb ?_
  have r : Rel w h fn.ntmps (T0 args) h { tmps := vals ++ Array.replicate (fn.ntmps - vals.size) undef, defers := [] } w := by
    refine ⟨by simp; omega, rfl, fun i => ?_, hh, Io.refl w, Stp.refl w h⟩
    unfold T0
    by_cases hi : i < args.length
    · have hai : args[i]? = some args[i] := List.getElem?_eq_getElem hi
      obtain ⟨u, hu, hr⟩ := ha i _ hai
      have e1 : args.getD i .any = args[i] := by simp [List.getD_eq_getElem?_getD, hai]
      have e2 : (vals ++ Array.replicate (fn.ntmps - vals.size) undef).getD i undef = u := by
        rw [Array.getD_eq_getD_getElem?, Array.getElem?_append_left (by omega), hu]
        rfl
      rw [e1, e2]; exact hr
    · have e1 : args.getD i .any = .any := by simp [List.getD_eq_getElem?_getD, List.getElem?_eq_none (by omega : args.length ≤ i)]
      rw [e1]; trivial
  refine Code.wp_mono (fun e a' w' ⟨T', h', ⟨he, v, hv, r', h'', hw, hk⟩, hr⟩ => ?_) (X_sound c hx r)
  obtain ⟨u, hu, hrd⟩ := resA_run hr hv
  obtain ⟨st, rh, rd⟩ := hw.out w' u hr.heap hrd
  have post : ∃ u r h', Ending.returned u = .returned u ∧ K r h' ∧ Rd w' h' r u ∧ RelH w' h' ∧ Io w w' ∧ Stp w h w' h' := ⟨u, r', h'', rfl, hk, rd, rh, hr.io, hr.stp.trans st⟩
  cases e with
  | normal => exact ⟨hr.defers, u, hu, ⟨u, r', h'', rfl, hk, rd, rh, hr.io, hr.stp.trans st⟩⟩
  | ret => exact ⟨hr.defers, u, hu, ⟨u, r', h'', rfl, hk, rd, rh, hr.io, hr.stp.trans st⟩⟩
  | exit i => exact he.elim
  | goto l => exact he.elim
  | panic ch => exact he.elim
  | outgrown => exact he.elim
end Go.Proofs.YtmalhikcdideoaaGreatDoor.Sl
