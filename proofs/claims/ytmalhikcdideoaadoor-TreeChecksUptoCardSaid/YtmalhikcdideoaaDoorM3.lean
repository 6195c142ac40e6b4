/- PROVED: the law TreeChecks returns true for every expression and every integer, and both read behind the call as they read before (the second form's row, and its tied card). Conditions: what the row itself asks (the four listed variables of Go's library read as listed; what is read is of bulk at most 1048576). -/
import Derived.Test.YtmalhikcdideoaaDoorM2
import Derived.Test.YtmalhikcdideoaaDoorCards
import Derived.Test.YtmalhikcdideoaaDoorTie
import Derived.LaidMore
import Derived.Lay
import Derived.ShutString
import Derived.ChangeOld
import Derived.Below
import Derived.SizedLaws
import Derived.SevenTiedAt
import Derived.MakeChecks
import Derived.Deep.DeepHandedRow
set_option linter.unusedVariables false
namespace Go.Proofs.YtmalhikcdideoaaDoor.checks
open Go Go.ChangeShapes Go.WideShapes Go.ChangeAt Go.RowKit Sl
theorem plain : (Rows.treeChecksUptoRow.laid.all fun x => x.2.handleName?.isNone) = true := by kernel_rfl
theorem glob_one {W : World} (h1 : ∃ ty fr, W.heap[0]? = some (.cells spaceL.toArray ty fr)) : GlobH W fun _ => none := by
  rintro x hx
  simp only [gl, List.mem_cons, List.not_mem_nil, or_false] at hx
  subst hx
  refine ⟨rfl, h1, fun y hy => ?_⟩
  simp only [spaceL, List.mem_map] at hy
  obtain ⟨i, _, rfl⟩ := hy
  rfl
theorem glob_of_laid {W : World} (h : laidMetH Tryd.prog Rows.treeChecksUptoRow.laid W) : GlobH W fun _ => none := by
  rw [MakeChecks.laidMetH_plain _ _ _ plain] at h
  obtain ⟨ps, ⟨_, _, _, _, _, _, _, _, _, _, ⟨_, _, _, _, _, _, _, _, _, _, ⟨g, t, cs, f, p, q, hg, ht, hv, hd, _⟩, _⟩, _⟩, _, _⟩ := h
  exact glob_one (space_heap hg ht hv hd)
theorem checks_walk (e : List Nd) (op : Int) (hb : sumL muNd e ≤ 1048576) (W : World) (hg : GlobH W fun _ => none) {v0 v1 : Value} (h0 : Rd W (fun _ => none) (encL 5 cNd e) v0) (h1 : Rd W (fun _ => none) (I op) v1) :
    Calls Tryd.prog 8 #[v0, v1] W fun e w' => e = .returned (.bool true) ∧ Below W.heap.size W w' := by
  have hk := checks_ok e op (fun x hx => by have h1 := sumL_mem (f := muNd) hx; have h2 : muNd x = x.nm.size + x.kids.length + 1 := rfl; omega)
    (by have := sumL_len (f := muNd) (fun a => by unfold muNd; omega) e; omega)
  refine (hk (fun _ => none) W #[v0, v1] ⟨fun b o hb => (by cases hb), hg⟩ ⟨rfl, fun i a hi => ?_⟩).mono ?_
  · match i, hi with
    | 0, hi => cases hi; exact ⟨_, rfl, h0⟩
    | 1, hi => cases hi; exact ⟨_, rfl, h1⟩
    | n + 2, hi => simp at hi
  · rintro e w' ⟨u, r, h', rfl, ⟨rfl, rfl⟩, hr, _, hio, hst⟩
    exact ⟨by rw [show u = .bool true from hr], hst.below hio⟩
theorem reads (os : Os) {H : Type} (enc : TypeId × Value → H) : ∃ places, DataW.whole enc Tryd.prog ((World.laidAll Tryd.prog os Rows.treeChecksUptoRow.laid).forCall (fun _ _ => 0) ⟨#[], #[.slice none 0 0, .int .i64 0], []⟩).memory Tryd.f8.params.toList Rows.treeChecksSpec.vars false #[Value.slice none 0 0, .int .i64 0].toList 8 = some ([.nil, .lit (.int .i64 0)], [], places) :=
  ⟨[], by kernel_rfl⟩
set_option maxRecDepth 100000 in
theorem lifted (os : Os) (started : os.Started) (H : Type) (enc : TypeId × Value → H) (F : Stop.Interp) :
    ReturnsInHanded {} Tryd.checked os 8 .any ((Rows.OpenSpec.upto Rows.treeChecksSpec).preRow enc Tryd.prog Tryd.f8 Rows.treeChecksUptoRow.domain false Rows.treeChecksUptoRow.laid) (((Rows.OpenSpec.upto Rows.treeChecksSpec).at F).post enc Tryd.prog Tryd.f8 false true false false) := by
  obtain ⟨places, hx⟩ := reads os enc
  have hok : Input.okWideB Tryd.prog ((World.laidAll Tryd.prog os Rows.treeChecksUptoRow.laid).forCall (fun _ _ => 0) ⟨#[], #[.slice none 0 0, .int .i64 0], []⟩) 8 ⟨#[], #[.slice none 0 0, .int .i64 0], []⟩ = true := by kernel_rfl
  refine returnsInHanded_of_row (C := Tryd.checked) (s := Rows.OpenSpec.upto Rows.treeChecksSpec) own started (by kernel_rfl) Tryd.func8
    ⟨World.laidAll Tryd.prog os Rows.treeChecksUptoRow.laid, fun _ _ => 0, ⟨#[], #[.slice none 0 0, .int .i64 0], []⟩, World.laidAll_os _ _ _, World.shaped_of_ZipB (by kernel_rfl) (by kernel_rfl), (Input.okWide_of_okWideB (base := 0) hok).1, (Input.okWide_of_okWideB hok).2,
      OpenSpec.preRow_of_cond 8 hx (by kernel_rfl) (fun k hk => by cases hk; kernel_rfl) (by kernel_rfl) (by rw [MakeChecks.laidMetH_plain _ _ _ plain]; exact laidMet_laidAll _ (by kernel_rfl) (by kernel_rfl)), by simp [Assume.holds]⟩ ?_
  intro W base args ds gs before hval0 hW _ hcond hsz0 hL _ _
  have hsz : (DataW.weightsEach Tryd.prog (Tryd.f8.params.toList ++ Rows.treeChecksSpec.plain.varTypes Tryd.prog) (ds ++ gs)).all (· ≤ reachBytes) = true := hsz0
  have hval : ∀ (j : Nat) t v, Tryd.f8.params[j]? = some t → args[j]? = some v → Value.okWide Tryd.prog W .any base t v := hval0
  have hbulk : Rows.uptoBulkAll (ds ++ gs) ≤ 1048576 := of_decide_eq_true (hcond _ rfl)
  have hW' := hW
  obtain ⟨p, q, hA0, hV, rfl, hfz, hnd⟩ := hW
  have hA : DataW.TrodAll enc Tryd.prog W 0 (fun _ => true) true Tryd.f8.params.toList args.toList ds p := hA0
  rw [Tryd.params8] at hA hval hsz
  obtain ⟨v0, vs0, d0, ds0, p0, q0, hargs, rfl, rfl, t0, r0⟩ := trodAll_cons hA
  obtain ⟨v1, vs1, d1, ds1, p1, q1, rfl, rfl, rfl, t1, r1⟩ := trodAll_cons r0
  obtain ⟨rfl, rfl, rfl⟩ := trodAll_nil r1
  obtain rfl : args = #[v0, v1] := by cases args; simp_all
  obtain ⟨rfl, rfl⟩ := trodVars_none hV
  have hs := mem_all hsz
  have w0 : ∀ n ∈ d0.weights Tryd.prog 42, n ≤ reachBytes := fun n hn => hs n (by simp only [List.cons_append, List.nil_append, DataW.weightsEach, List.mem_append]; exact .inl hn)
  have w1 : ∀ n ∈ d1.weights Tryd.prog 3, n ≤ reachBytes := fun n hn => hs n (by simp only [List.cons_append, List.nil_append, DataW.weightsEach, List.mem_append]; exact .inr (.inl hn))
  have hb2 : Rows.uptoBulk d0 + Rows.uptoBulk d1 ≤ 1048576 := by
    simp only [List.append_nil, Rows.uptoBulkAll] at hbulk
    omega
  obtain ⟨a0, l0, b0, e0⟩ := okWide_slice Tryd.underlying42 (hval 0 _ v0 rfl rfl)
  obtain ⟨n1, e1⟩ := okWide_int Tryd.underlying3 (hval 1 3 v1 rfl rfl)
  obtain ⟨x0, ⟨e, m0, o0, y0⟩, z0⟩ := argB_one (o_expr W) t0 w0 (by rw [e0]; rfl)
  obtain ⟨x1, ⟨op, o1, m1, y1⟩, z1⟩ := argB_one (o_int W) t1 w1 (by rw [e1]; rfl)
  obtain rfl : x0 = encL 5 cNd e := by simpa using y0
  obtain rfl : x1 = I op := by simpa using y1
  clear hA0 hval0 hsz0 hsz hbulk
  have lt : ∀ {t : TypeId} {v : Value} {d : DataW H} {p : List MemPlace}, DataW.Trod enc Tryd.prog W 0 (fun _ => true) true t v d p → ∀ x ∈ p, x.block < W.heap.size := fun k => by obtain ⟨m, hm⟩ := k; exact DataW.trod_lt m _ _ _ hm
  refine (checks_walk e op (by omega) W (glob_of_laid hL) z0 z1).mono fun r W' ⟨he, bel⟩ => ?_
  subst he
  exact ⟨_, rfl, _, _, _, [], _, [], hW', trodAll_mk1 (shut_bool Tryd.underlying4 _), (trodAll_cons_mk (Below.trod laidOut (by kernel_rfl) (of_decide_eq_true (by kernel_rfl)) t0 bel (lt t0)) (trodAll_cons_mk (Below.trod laidOut (by kernel_rfl) (of_decide_eq_true (by kernel_rfl)) t1 bel (lt t1)) trodAll_mk0)), rfl, bel.frame _, fun h => by cases h⟩
theorem holds : Rows.TreeChecksUptoSaid :=
  OpenClaim.holds_of_cond 8 Tryd.f8 rfl rfl rfl rfl rfl rfl rfl ⟨rfl, rfl, rfl, rfl, rfl⟩ rfl rfl rfl rfl rfl (by kernel_rfl) Tryd.func8 (by kernel_rfl)
    (of_decide_eq_true (by kernel_rfl)) (by unfold Func.isWrapper; first | (rw [if_pos (by decide +kernel)]; kernel_rfl) | (rw [if_neg (by decide +kernel)]; exact ⟨rfl, rfl⟩))
    (fun os started H enc _ F => by rw [OpenClaim.pre_eq_preRow]; exact lifted os started H enc F)
end Go.Proofs.YtmalhikcdideoaaDoor.checks
namespace Go.Proofs.YtmalhikcdideoaaDoor
open Go
theorem treeChecks_card : Rows.TreeChecksUptoCardSaid :=
  Claim7.holds_tied_plain_at .later [] _ _ _ _ checks.holds (fun _ h => by cases h) (by kernel_rfl) (fun _ h => by cases h) treeChecksUpto_row_tie rfl ⟨rfl, rfl⟩ (by kernel_rfl) rfl
    (fun f fn hf hfn => by
      obtain rfl : f = 8 := Option.some.inj ((show Tryd.prog.funcNamed "moothall/mootlaw2.TreeChecks" = some 8 by kernel_rfl).symm.trans hf) |>.symm
      obtain rfl : fn = Tryd.f8 := (Option.some.inj (Tryd.func8.symm.trans hfn)).symm
      exact ⟨by kernel_rfl, fun j t ht => by
        rw [Tryd.params8] at ht
        have hm : t ∈ [42, 3] := by simpa using Array.mem_of_getElem? ht
        have hall : ([42, 3].all fun u => !Tryd.prog.wantsStandIn u) = true := by kernel_rfl
        exact (show Tryd.prog.wantsStandIn t = false by simpa using List.all_eq_true.1 hall t hm)⟩)
    (by kernel_rfl)
end Go.Proofs.YtmalhikcdideoaaDoor
