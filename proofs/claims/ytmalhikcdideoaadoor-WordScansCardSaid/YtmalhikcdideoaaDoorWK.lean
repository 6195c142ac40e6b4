/- PROVED: the law WordScans returns true for every text, and the text reads as it did (the row, and its tied card). Conditions: what the row itself asks (the two listed variables of Go's library read as listed; a text of at most 2 to the 47 less 4096 bytes). -/
import Derived.Test.YtmalhikcdideoaaDoorWJ
import Derived.Test.YtmalhikcdideoaaDoorRows
import Derived.Test.YtmalhikcdideoaaDoorCards
import Derived.Test.YtmalhikcdideoaaDoorTie
import Derived.WalkKit
import Derived.ProofKit
import Derived.LaidMore
import Derived.OpenShut
import Derived.ShutString
import Derived.ChangeOld
import Derived.Below
import Derived.SizedLaws
import Derived.SevenTiedAt
import Derived.MakeChecks
namespace Go.Proofs.YtmalhikcdideoaaDoor
open Go Go.ChangeShapes Go.WideShapes Go.ChangeAt Go.RowKit Sl
open Go.ChangeMaps (open_string shut_string)
theorem own : ownKnob Tryd.prog.godebug = none := by kernel_rfl
/-- The two listed variables. -/
abbrev laidS : List (String × DataW Unit) := [("unicode.White_Space", Rows.laid_unicode_White_Space), ("strings.asciiSpace", Rows.laid_strings_asciiSpace)]
theorem door_metS (os : Os) (args : Array Value) : laidMetH Tryd.prog laidS ((World.doorLaid Tryd.prog 58 os).forCall (fun _ _ => 0) ⟨#[], args, []⟩).memory :=
  laidMetH_of_parts3 (fuel := 8) (laidMet_of_run' 8 (by kernel_rfl) (by kernel_rfl)) (by kernel_rfl) (by kernel_rfl)
theorem gSpace : Tryd.prog.globalNamed "strings.asciiSpace" = some 0 := by kernel_rfl
theorem tSpace : (Tryd.prog.globals[0]?).map (·.type) = some 85 := by kernel_rfl
theorem cells5 : Tryd.prog.cellsOf 5 = 1 := by kernel_rfl
theorem cells85 : Tryd.prog.cellsOf 85 = 256 := by kernel_rfl
/-- The datum of the table, as a list of bytes. -/
theorem space_agg : (Rows.laid_strings_asciiSpace : DataW Unit) = .agg ((List.range 256).map fun i => .lit (.int .u8 (if (9 ≤ i ∧ i ≤ 13) ∨ i = 32 then 1 else 0))) := by kernel_rfl
theorem space_lit {H : Type} {enc : TypeId × Value → H} {P : Program} {w : World} {base : Nat} {sp : Nat → Bool} {held : Bool} {n m : Nat} {e t : TypeId} {cs : List Value} {f : Nat → Int} {p : List MemPlace} {k : IntKind}
    (ht : P.underlying t = some (.array n e)) (he : P.underlying e = some (.int k)) (hc : P.cellsOf e = 1) (hct : P.cellsOf t = n) (h : DataW.trod enc P w base sp held m t cs = some (.agg ((List.range n).map fun i => .lit (.int k (f i))), p)) :
    cs = (List.range n).map fun i => .int k (f i) := by
  obtain ⟨xs, m1, rfl, hx, hlen, hn, hel⟩ := DataW.trod_array ht h
  simp only [Prod.mk.injEq, DataW.agg.injEq] at hx
  rw [hct] at hlen
  refine List.ext_getElem (by simp [hlen]) fun i h1 h2 => ?_
  have hi : i < n := by omega
  have hE := hel i hi
  rw [hc, Nat.mul_one] at hE
  obtain ⟨x, hxi⟩ : ∃ x, xs[i]? = some x := ⟨_, List.getElem?_eq_getElem (by omega)⟩
  rw [hxi] at hE
  have hd : (cs.drop i).take 1 = [cs[i]] := by
    rw [List.drop_eq_getElem_cons h1]; rfl
  rw [hd] at hE
  obtain ⟨v, e1, e2, _⟩ := DataW.trod_int he hE
  have e3 : (xs.map (·.1))[i]? = some (.lit (.int k (f i))) := by rw [← hx.1]; simp [hi]
  rw [List.getElem?_map, hxi, e2] at e3
  simp only [Option.map_some, Option.some.injEq, DataW.lit.injEq, Lit.int.injEq, true_and] at e3
  simp only [List.cons.injEq, and_true] at e1
  rw [e1]
  simp [e3]
/-- What the condition gives: the table's cells. -/
theorem glob_of_laidS {W : World} (h : laidMetH Tryd.prog laidS W) : GlobH W fun _ => none := by
  rw [MakeChecks.laidMetH_plain _ _ _ (by kernel_rfl)] at h
  obtain ⟨ps, ⟨g0, t0, cs0, f0, p0, q0, hg0, ht0, hv0, hd0, ⟨g1, t1, cs1, f1, p1, q1, hg1, ht1, hv1, hd1, _, _⟩, _⟩, _, _⟩ := h
  obtain rfl := Option.some.inj (gSpace.symm.trans hg1)
  obtain rfl := Option.some.inj (tSpace.symm.trans ht1)
  rw [space_agg] at hd1
  have hcs := space_lit und85 und5 cells5 cells85 hd1
  rintro x hx
  simp only [gl, List.mem_cons, List.not_mem_nil, or_false] at hx
  subst hx
  refine ⟨rfl, ?_, ?_⟩
  · simp only [World.var?, hg1, Option.bind_some] at hv1
    split at hv1
    · rename_i cs ty fr hw
      simp only [Option.some.injEq] at hv1
      subst hv1
      refine ⟨ty, fr, ?_⟩
      rw [hw]
      congr 2
      apply Array.toList_inj.1
      rw [hcs]
      rfl
    · cases hv1
  · intro y hy
    simp only [spaceL, List.mem_map] at hy
    obtain ⟨i, _, rfl⟩ := hy
    rfl
theorem scans_walk (s : ByteArray) (hs : s.size ≤ 140737488355328) (W : World) (hg : GlobH W fun _ => none) : Calls Tryd.prog 3 #[.string s] W fun e w' => e = .returned (.bool true) ∧ Below W.heap.size W w' := by
  refine (scans_ok s hs (fun _ => none) W #[.string s] ⟨fun b o hb => (by cases hb), hg⟩ ⟨rfl, fun i a hi => ?_⟩).mono ?_
  · match i, hi with
    | 0, hi => exact ⟨.string s, rfl, by cases hi; rfl⟩
    | n + 1, hi => simp at hi
  · rintro e w' ⟨u, r, h', rfl, ⟨rfl, rfl⟩, hr, _, hio, hst⟩
    exact ⟨by rw [show u = .bool true from hr], hst.below hio⟩
theorem own_par : Tryd.f3.params.toList = [9] := by kernel_rfl
set_option maxRecDepth 100000 in
theorem lifted (os : Os) (started : os.Started) (H : Type) (enc : TypeId × Value → H) :
    ReturnsInHanded {} Tryd.checked os 3 .any (fun w args => (Rows.wordScansSpec.pre enc Tryd.prog Tryd.f3 [] false w args ∧ laidMetH Tryd.prog laidS w) ∧ sizedMet enc Tryd.prog Tryd.f3 (OpenSpec.ofChange Rows.wordScansSpec) false w args)
      (Rows.wordScansSpec.post enc Tryd.prog Tryd.f3 false true false false) := by
  refine returnsInHanded_of_change_and (C := Tryd.checked) (X := fun w _ => laidMetH Tryd.prog laidS w) (fun _ _ _ hh h => h.of_heap hh) own started (by kernel_rfl) Tryd.func3
    (ChangeSpec.witness_shaped (enc := enc) (C := Tryd.checked) (os := os) (X := fun w _ => laidMetH Tryd.prog laidS w) false (World.doorLaid Tryd.prog 58 os) #[.string ByteArray.empty] 8 rfl (World.shaped_of_RefB (by kernel_rfl) (by kernel_rfl)) (by kernel_rfl) (by kernel_rfl) (by kernel_rfl) (door_metS os _)) ?_
  intro W base args ds gs before hval0 hW _ hsz0 hL _
  have hsz : (DataW.weightsEach Tryd.prog (Tryd.f3.params.toList ++ Rows.wordScansSpec.plain.varTypes Tryd.prog) (ds ++ gs)).all (· ≤ reachBytes) = true := hsz0
  have hval : ∀ (j : Nat) t v, Tryd.f3.params[j]? = some t → args[j]? = some v → Value.okWide Tryd.prog W .any base t v := hval0
  have hW' := hW
  obtain ⟨p, q, hA0, hV, rfl, hfz, hnd⟩ := hW
  have hA : DataW.TrodAll enc Tryd.prog W 0 (fun _ => true) true Tryd.f3.params.toList args.toList ds p := hA0
  rw [Tryd.params3] at hA hval hsz
  obtain ⟨v0, d0, rfl, rfl, h0⟩ := trodAll_one hA
  obtain ⟨rfl, rfl⟩ := trodVars_none hV
  obtain ⟨a0, rfl, rfl, rfl, y0⟩ := open_string Tryd.underlying9 (hval 0 9 v0 rfl rfl) h0
  have w0 : a0.size ≤ 140737488351232 := by
    have z := sized_string hsz (j := 0) (t := 9) rfl rfl
    rw [Array.length_toList] at z
    exact z
  clear hA0 hval0 hsz0 hsz
  refine (scans_walk a0 (by omega) W (glob_of_laidS hL)).mono fun e W' ⟨he, bel⟩ => ?_
  subst he
  exact ⟨_, rfl, _, _, _, [], _, [], hW', trodAll_mk1 (shut_bool Tryd.underlying4 _), trodAll_mk1 (shut_string Tryd.underlying9 y0), rfl, bel.frame _, fun h => by cases h⟩
theorem wordScans_holds : Rows.WordScansSaid :=
  OpenClaim.holds_of_wide 3 Tryd.f3 rfl rfl rfl rfl rfl rfl rfl ⟨rfl, rfl, rfl, rfl, rfl⟩ rfl rfl rfl rfl rfl (by kernel_rfl) Tryd.func3 (by kernel_rfl)
    (of_decide_eq_true (by kernel_rfl)) (by unfold Func.isWrapper; first | (rw [if_pos (by decide +kernel)]; kernel_rfl) | (rw [if_neg (by decide +kernel)]; exact ⟨rfl, rfl⟩))
    (fun os started H enc _ => lifted os started H enc)
theorem wordScans_card : Rows.WordScansCardSaid :=
  Claim7.holds_tied_plain_at .later [] [.listed, .data] true (true, "dd8d1b3a72e9302f0a89a205440ce6c2b4c8c6adadf28cda95d84440ce1c2bfe") false
    wordScans_holds (fun _ h => by cases h) (by kernel_rfl) (fun _ h => by cases h) wordScans_row_tie rfl ⟨rfl, rfl⟩ (by kernel_rfl) rfl
    (fun f fn hf hfn => by
      obtain rfl : f = 3 := Option.some.inj ((show Tryd.prog.funcNamed "moothall/mootlaw2.WordScans" = some 3 by kernel_rfl).symm.trans hf) |>.symm
      obtain rfl : fn = Tryd.f3 := (Option.some.inj (Tryd.func3.symm.trans hfn)).symm
      exact ⟨by kernel_rfl, fun j t ht => by
        rw [Tryd.params3] at ht
        have hm : t ∈ [9] := by simpa using Array.mem_of_getElem? ht
        have hall : ([9].all fun u => !Tryd.prog.wantsStandIn u) = true := by kernel_rfl
        exact (show Tryd.prog.wantsStandIn t = false by simpa using List.all_eq_true.1 hall t hm)⟩)
    (by kernel_rfl)
end Go.Proofs.YtmalhikcdideoaaDoor
