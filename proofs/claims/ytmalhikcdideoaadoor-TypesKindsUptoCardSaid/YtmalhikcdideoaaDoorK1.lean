/- mootref2.KindOf. types.kind. The plain law of TypesKinds: the program's look at a tree and the reference's agree, and so do the kinds. types.Of. strings.Builder: copyCheck, by the machine's own steps. strings.Builder: contracts. strings.Builder: WriteString. DERIVED: THE SHELF's CONTRACTS AT THIS DUMP, IN PLAIN WORDS (tools/lay-plain.mjs out of 'RedShelf.lean', which tools/lay-shelf.mjs wrote): TH -/
import Derived.Test.YtmalhikcdideoaaDoorK0
import Derived.Lib.Builder
import Derived.Lib.UnsafeStr
import Derived.Laws.Externs
import Derived.Shelf.RegionOpenPlain
import Derived.WalkKit
import Derived.Shelf.Strconv.Itoa3
import Derived.Shelf.Strings.Builder1
import Derived.Shelf.Sort.Plain
import Derived.Test.YtmalhikcdideoaaDoorProg
import Derived.Lib.LaidTab
import Derived.Lib.ItoaLen
set_option linter.unusedVariables false
set_option linter.unusedSimpArgs false
namespace Go.Proofs.YtmalhikcdideoaaDoor
open Go Sl
attribute [local irreducible] LpQ XR XRo XRg XRQ putQ XFv XL XW2 wQ putW X XO XOp XH XHo XW SeqQ BlkQ XOQ XHQ NrmQ XC XM XG XHM XHG XD CallK
open Go.RowKit
set_option maxHeartbeats 4000000 in
theorem kindOf_ok (tE : List Nd → Int) (e : List Nd) (l : List Ac) (ht : Pure Tryd.prog 20 [encL 5 cNd e] (I (tE e)))
    (hke : tE e = 0 → e.length ≤ 100 ∧ e ≠ [] ∧ ∀ (i : Nat) (x : Nd), e[i]? = some x → (∀ k ∈ x.kids, 0 ≤ k ∧ k < i) ∧ (x.kids.length : Int) = ar x.op ∧ 0 ≤ x.op ∧ x.op ≤ 18)
    (hl : l.length ≤ 1000000000) (hal : ∀ a ∈ l, a.attrs.length ≤ 1000000000) (hatl : ∀ a ∈ l, a.tables.length ≤ 1000000000) :
    Pure Tryd.prog 38 [encL 6 cAc l, encL 5 cNd e] (tup2 (I (treeOf tE l e).1) (I (treeOf tE l e).2)) := by
  generalize hR : treeOf tE l e = R
  unfold treeOf at hR
  intro h
  by_cases q1 : tE e = 0
  case neg =>
    rw [if_pos q1] at hR
    subst hR
    refine callK_body Tryd.func38 rfl (by rw [nt38]; simp) ?_; rw [nt38, rs38]
    ((repeat' (first | simp [go_sem, X_region, *] | simp (disch := omega) only [om, *] | ((first | refine XC_split ?_ ?_ | refine XG_true ?_ ?_ | refine XG_false ?_ ?_ | refine XRg_true ?_ ?_ | refine XRg_false ?_ ?_) <;> intro hc <;> (try simp only [bl] at hc) <;> (try (exfalso; omega))) | refine XD_w [] [] [] (fun _ => none) mixed (by decide +kernel) (sub_none _) ?_ | refine Pure.call (ht) ?_ | refine ⟨_, Pure.at (ht), ?_⟩ | refine ⟨_, ht, ?_⟩ | refine PureAt.call (ht) ?_ | (intro bk hbk; (try simp only [go_sem] at hbk)))); all_goals (refine Wk.fin (by repeat (first | exact Sub.refl _ | refine Sub.upd (by simp [*]) ?_)) ?_; first | (simp [*]; done) | (simp only []; (repeat' (first | split | rfl | omega | (simp_all; done))); done) | (simp [*]; (repeat' (first | split | omega | (rw [Bool.eq_iff_iff]; simp; omega))); done) | (simp [*])))
  rw [if_neg (fun h => h q1)] at hR
  rw [q1] at ht
  obtain ⟨hel, hne, hke⟩ := hke q1
  have hne : 0 < e.length := List.length_pos_iff.2 hne
  have hq : ∀ k k' : ByteArray, keyEq (keyT Tryd.prog 9) (S k) (S k') = some (decide (k = k')) := fun k k' => by rw [kt120]; simp [keyEq]
  have hkt : keyT Tryd.prog 9 ≠ 0 := by rw [kt120]; decide
  refine callK_body Tryd.func38 rfl (by rw [nt38]; simp) ?_; rw [nt38, rs38]
  (repeat' (first | simp [go_sem, X_region, *] | simp (disch := omega) only [om, *] | ((first | refine XC_split ?_ ?_ | refine XG_true ?_ ?_ | refine XG_false ?_ ?_ | refine XRg_true ?_ ?_ | refine XRg_false ?_ ?_) <;> intro hc <;> (try simp only [bl] at hc) <;> (try (exfalso; omega))) | refine XD_w [] [] [] (fun _ => none) mixed (by decide +kernel) (sub_none _) ?_ | refine Pure.call (ht) ?_ | refine ⟨_, Pure.at (ht), ?_⟩ | refine ⟨_, ht, ?_⟩ | refine PureAt.call (ht) ?_ | fail))
  intro b1 hb1 b2 n1 n2 hb2
  refine X_lpF (fun i => (9 ≤ i ∧ i ≤ 11) ∨ (34 ≤ i ∧ i ≤ 96)) (fun k T g => ∃ (ma : List (ByteArray × Int)) (mt : List (ByteArray × Option Tb)), k ≤ l.length ∧ T 9 = I ((k : Int) - 1) ∧ Sub h g ∧ MapsA g b1 b2 ma mt ∧ MaIs ma (fun nm => atF nm (l.drop k)) ∧ MtIs mt (tabsL (l.drop k))) l.length ⟨[], [], Nat.le_refl _, by simp [go_sem], Sub.upd hb2 (Sub.upd hb1 (Sub.refl _)), ⟨_, _, by rw [upd_ne _ _ n2]; exact upd_same _ _ _, upd_same _ _ _, IsMap.nil _ _, IsMap.nil _ _⟩, ⟨fun nm => by simp [mget, atF]⟩, ⟨fun nm => by simp [mget, tabsL, findF]⟩⟩ ?_
  rintro J hJ k T g hfr ⟨ma, mt, hk, t9, hsub, ⟨o1, o2, ho1, ho2, hm1, hm2⟩, hma, hmt⟩
  rcases k with _ | k
  · rw [List.drop_zero] at hma hmt
    (repeat' (first | simp [go_sem, X_region, *] | simp (disch := omega) only [om, *] | ((first | refine XC_split ?_ ?_ | refine XG_true ?_ ?_ | refine XG_false ?_ ?_ | refine XRg_true ?_ ?_ | refine XRg_false ?_ ?_) <;> intro hc <;> (try simp only [bl] at hc) <;> (try (exfalso; omega))) | refine XD_w [] [] [] (fun _ => none) mixed (by decide +kernel) (sub_none _) ?_ | fail))
    clear hJ
    generalize hNK : (nodeK (fun nm => atF nm l) fun nm => findF nm (tabsL l)) = NK at hR
    refine X_lpF (fun i => (4 ≤ i ∧ i ≤ 5) ∨ i = 12 ∨ (14 ≤ i ∧ i ≤ 15) ∨ (17 ≤ i ∧ i ≤ 23) ∨ (99 ≤ i ∧ i ≤ 228)) (fun n T g' => ∃ (i : Nat) (r : List Nd) (acc : List Int), n = r.length ∧ i ≤ e.length ∧ e.drop i = r ∧ kndF NK r acc = R ∧ T 99 = I i ∧ acc.length = i ∧ Own g g' (T 12) 3 1 acc.length (cellsL cI acc)) e.length ⟨0, e, [], rfl, by omega, rfl, hR, by simp [go_sem], rfl, by simpa [go_sem] using Own.none⟩ ?_
    clear hR
    rintro J1 hJ1 n T1 g1 hfr1 ⟨i, r, acc, rfl, hi, hd, hR, t99, hacc, hown⟩
    rcases r with _ | ⟨x, r⟩
    · have hlt := drop_nil hd
      rw [kndF] at hR
      subst hR
      obtain ⟨m, hm⟩ : ∃ m, acc.length = m + 1 := ⟨acc.length - 1, by omega⟩
      have hsub' : Sub h g1 := hsub.trans hown.1
      rcases hown with ⟨_, ⟨h1, _⟩ | ⟨gb, og, t12, _, hgb, s1, s2, s3, _, hf⟩⟩
      · omega
      have hlast : acc[m]? = some (acc.getD (acc.length - 1) 0) := by
        rw [hm, Nat.add_sub_cancel, List.getD_eq_getElem?_getD, List.getElem?_eq_getElem (by omega)]; rfl
      have hfm := hf m (by omega) 0 (by omega)
      rw [cellsL_at hlast] at hfm
      simp only [cI, List.getD_cons_zero] at hfm
      generalize acc.getD (acc.length - 1) 0 = v at *
      rw [hm] at t12 s3
      clear hf
      (repeat' (first | simp [go_sem, X_region, *] | simp (disch := omega) only [om, *] | ((first | refine XC_split ?_ ?_ | refine XG_true ?_ ?_ | refine XG_false ?_ ?_ | refine XRg_true ?_ ?_ | refine XRg_false ?_ ?_) <;> intro hc <;> (try simp only [bl] at hc) <;> (try (exfalso; omega))) | refine XD_w [] [] [] (fun _ => none) mixed (by decide +kernel) (sub_none _) ?_ | fail))
      exact Wk.drop _ hsub'
    · obtain ⟨hlt, hx, hd2⟩ := drop_cons hd
      have hxi : e[i]? = some x := List.getElem?_eq_some_iff.2 ⟨hlt, hx⟩
      obtain ⟨hk1, hk2, hk3, hk4⟩ := hke i x hxi
      (repeat' (first | simp [go_sem, X_region, *] | simp (disch := omega) only [om, *] | ((first | refine XC_split ?_ ?_ | refine XG_true ?_ ?_ | refine XG_false ?_ ?_ | refine XRg_true ?_ ?_ | refine XRg_false ?_ ?_) <;> intro hc <;> (try simp only [bl] at hc) <;> (try (exfalso; omega))) | refine XD_w [] [] [] (fun _ => none) mixed (by decide +kernel) (sub_none _) ?_ | fail))
      intro b5 hb5
      have hg1 : ∀ c oc, g c = some oc → upd g1 b5 (some ⟨39, 5, 1, fun i' j' => if i' = 0 ∧ j' < 5 then [I x.op, AV.sl 1 x.kids.length (cellsL cI x.kids), I x.kd, I x.n, S x.nm][j']?.getD AV.any else AV.v ([Value.int IntKind.i64 0, Value.slice none 0 0, Value.int IntKind.i64 0, Value.int IntKind.i64 0, Value.string ⟨#[]⟩][j']?.getD undef)⟩) c = some oc := fun c oc hc => by
        have := hown.1 c oc hc
        rw [upd_ne _ _ (ne_free hb5 this).2]; exact this
      (repeat' (first | simp [go_sem, X_region, *] | simp (disch := omega) only [om, *] | ((first | refine XC_split ?_ ?_ | refine XG_true ?_ ?_ | refine XG_false ?_ ?_ | refine XRg_true ?_ ?_ | refine XRg_false ?_ ?_) <;> intro hc <;> (try simp only [bl] at hc) <;> (try (exfalso; omega))) | refine XD_w [] [] [] (fun _ => none) mixed (by decide +kernel) (sub_none _) ?_ | fail))
      refine X_lpH (fun i => i = 15 ∨ i = 17 ∨ (106 ≤ i ∧ i ≤ 117)) (fun hE n T g' => ∃ (j : Nat) (rk out : List Int), n = rk.length ∧ j ≤ x.kids.length ∧ x.kids.drop j = rk ∧ out ++ rk.map (fun k => acc.getD k.toNat 0) = x.kids.map (fun k => acc.getD k.toNat 0) ∧ T 106 = I j ∧ out.length = j ∧ Own hE g' (T 15) 3 1 out.length (cellsL cI out)) x.kids.length
        ⟨0, x.kids, [], rfl, by omega, rfl, rfl, by simp [go_sem], rfl, by simpa [go_sem] using Own.none⟩ ?_
      rintro hE hEq J2 hJ2 n2 T2 g2 hfr2 ⟨j, rk, out, rfl, hj, hdk, hks, t106, hout, hown2⟩
      have kE : ∀ c oc, hE c = some oc → g2 c = some oc := fun c oc hc => hown2.1 c oc hc
      have k5 := kE b5 _ (by rw [← hEq]; exact upd_same _ _ _)
      have kg : ∀ c oc, g c = some oc → g2 c = some oc := fun c oc hc => kE c oc (by rw [← hEq]; exact hg1 c oc hc)
      rcases rk with _ | ⟨y, rk⟩
      · have hltk := drop_nil hdk
        rw [List.map_nil, List.append_nil] at hks
        have hx3 := ar_le x.op
        rw [kndF, ← hks] at hR
        have hol : (out.length : Int) = ar x.op := by rw [hks, List.length_map]; exact hk2
        (repeat' (first | simp [go_sem, X_region, *] | simp (disch := omega) only [om, *] | ((first | refine XC_split ?_ ?_ | refine XG_true ?_ ?_ | refine XG_false ?_ ?_ | refine XRg_true ?_ ?_ | refine XRg_false ?_ ?_) <;> intro hc <;> (try simp only [bl] at hc) <;> (try (exfalso; omega))) | refine XD_w [] [] [] (fun _ => none) mixed (by decide +kernel) (sub_none _) ?_ | fail))
        refine X_lookup (k := x.nm) (z := 0) hm1 (kg b1 _ ho1) (by simp [go_sem]) (by simp [go_sem]) und120 (hq _) hkt zv3 ?_
        rw [hma.out]
        (repeat' (first | simp [go_sem, X_region, lookR, *] | simp (disch := omega) only [om, *] | ((first | refine XC_split ?_ ?_ | refine XG_true ?_ ?_ | refine XG_false ?_ ?_ | refine XRg_true ?_ ?_ | refine XRg_false ?_ ?_) <;> intro hc <;> (try simp only [bl] at hc) <;> (try (exfalso; omega))) | refine XD_w [] [] [] (fun _ => none) mixed (by decide +kernel) (sub_none _) ?_ | fail))
        refine X_lookup (k := x.nm) (z := none) hm2 (kg b2 _ ho2) (by simp [go_sem]) (by simp [go_sem]) und121 (hq _) hkt zv68 ?_
        rw [hmt.out]
        cases hT : findF x.nm (tabsL l) with
        | none =>
          rw [Option.map_none, Option.getD_none]
          (repeat' (first | simp [go_sem, X_region, lookR, *] | simp (disch := omega) only [om, *] | ((first | refine XC_split ?_ ?_ | refine XG_true ?_ ?_ | refine XG_false ?_ ?_ | refine XRg_true ?_ ?_ | refine XRg_false ?_ ?_) <;> intro hc <;> (try simp only [bl] at hc) <;> (try (exfalso; omega))) | refine XD_w [] [] [] (fun _ => none) mixed (by decide +kernel) (sub_none _) ?_ | fail))
          intro b22 hb22
          clear hks
          have m5 := ne_free hb22 k5
          have hsub22 : ∀ ob, Sub h (upd g2 b22 (some ob)) := fun ob c oc hc => by
            have := kg c oc (hsub c oc hc)
            rw [upd_ne _ _ (ne_free hb22 this).2]; exact this
          have hs12 : Sub g1 g2 := fun c oc hc => kE c oc (by rw [← hEq, upd_ne _ _ (ne_free hb5 hc).2]; exact hc)
          have hown12 : Own g g2 (T1 12) 3 1 acc.length (cellsL cI acc) := by
            refine ⟨hown.1.trans hs12, ?_⟩
            rcases hown.2 with h1 | ⟨gb, og, h1, h2, h3, h4⟩
            · exact .inl h1
            · exact .inr ⟨gb, og, h1, h2, hs12 _ _ h3, h4⟩
          have hgo : ∀ v : Int, NK x out = (v, 0) → kndF NK r (acc ++ [v]) = R := fun v h1 => by
            rw [h1, if_neg (by simp)] at hR
            exact hR
          have herr : ∀ c : Int, NK x out = (0, c) → c ≠ 0 → (tup2 (I 0) (I c) : AV) = tup2 (I R.1) (I R.2) := fun c h1 h2 => by
            rw [h1, if_pos h2] at hR
            rw [← hR]
          cases hA : atF x.nm l with
          | none =>
            (repeat' (first | simp [go_sem, X_region, *] | simp (disch := omega) only [om, *] | ((first | refine XC_split ?_ ?_ | refine XG_true ?_ ?_ | refine XG_false ?_ ?_ | refine XRg_true ?_ ?_ | refine XRg_false ?_ ?_) <;> intro hc <;> (try simp only [bl] at hc) <;> (try (exfalso; omega))) | refine XD_w [] [] [] (fun _ => none) mixed (by decide +kernel) (sub_none _) ?_ | fail))
            all_goals first
              | (refine Wk.fin (hsub22 _) (herr 15 ?_ (by decide)); rw [← hNK]; simp [nodeK, hA, hT, *]; done)
              | (refine Wk.fin (hsub22 _) (herr 8 ?_ (by decide)); rw [← hNK]; simp [nodeK, hA, hT, *]; done)
              | skip
            · have hv : NK x out = (x.kd, 0) := by
                rw [← hNK]
                simp [nodeK, hA, hT, tb0, *]
                done
              intro b13 n13 n14 hb13
              refine Own.push (x := x.kd) (enc := cI) (hown12.alloc hb22) (by first | (simp [go_sem]; done) | (simp [go_sem]; omega)) und37 zr3 by3 (by first | (simp [go_sem]; done) | (simp [go_sem]; omega)) (by rw [upd_ne _ _ n13]; exact hb13) (by first | (simp [go_sem]; done) | (simp [go_sem]; omega)) rfl (Nat.le_refl _) (by first | (simp [go_sem]; done) | (simp [go_sem]; omega)) (by omega) (by omega) fun a1 h1 hown1 hkeep1 => ?_
              (repeat' (first | simp [go_sem, X_region, *] | simp (disch := omega) only [om, *] | ((first | refine XC_split ?_ ?_ | refine XG_true ?_ ?_ | refine XG_false ?_ ?_ | refine XRg_true ?_ ?_ | refine XRg_false ?_ ?_) <;> intro hc <;> (try simp only [bl] at hc) <;> (try (exfalso; omega))) | refine XD_w [] [] [] (fun _ => none) mixed (by decide +kernel) (sub_none _) ?_ | fail))
              refine ⟨_, Nat.lt_succ_self _, hJ1.out _ _ _ ⟨?_, i + 1, r, acc ++ [x.kd], rfl, by omega, hd2, hgo _ hv, by simp [go_sem, *], by simp [hacc], by simpa [go_sem] using hown1⟩⟩
              repeat (refine fr_upd (by decide) ?_)
              refine fr_in (by intro i; omega) hfr2 ?_
              repeat (refine fr_upd (by decide) ?_)
              exact hfr1
            · have hop : isOp x.op := ⟨by omega, by omega⟩
              have hol3 : (out.length : Int) = ar x.op := by first | exact hol | (rw [hol]; congr 1)
              have hp : ∀ ob, PureAt Tryd.prog (upd g2 b22 (some ob)) 76 [I x.op, T2 15, I 0, I 0] (tup2 (I (permF x.op (out.getD 0 0) (out.getD 1 0) (out.getD 2 0) 0 0).1) (B (permP x.op 0 0 out))) := fun ob => Pure.lend (perm_all hop hol3 0 0) (.cons (Lend.refl _) (.cons ((hown2.alloc hb22).lend (by omega)) (.cons (Lend.refl _) (.cons (Lend.refl _) .nil)))) (Flat.tup2 (Flat.v _) (Flat.v _))
              rcases (Bool.eq_false_or_eq_true (permP x.op 0 0 out)).symm with hq | hq
              · rw [hq] at hp
                (repeat' (first | simp [go_sem, X_region, *] | simp (disch := omega) only [om, *] | ((first | refine XC_split ?_ ?_ | refine XG_true ?_ ?_ | refine XG_false ?_ ?_ | refine XRg_true ?_ ?_ | refine XRg_false ?_ ?_) <;> intro hc <;> (try simp only [bl] at hc) <;> (try (exfalso; omega))) | refine XD_w [] [] [] (fun _ => none) mixed (by decide +kernel) (sub_none _) ?_ | refine Pure.call (hp _) ?_ | refine ⟨_, Pure.at (hp _), ?_⟩ | refine ⟨_, hp _, ?_⟩ | refine PureAt.call (hp _) ?_ | fail))
                refine Wk.fin (hsub22 _) (herr 8 ?_ (by decide))
                rw [← hNK]
                simp [nodeK, hA, hT, tb0, hq, *]
                done
              · rw [hq] at hp
                (repeat' (first | simp [go_sem, X_region, *] | simp (disch := omega) only [om, *] | ((first | refine XC_split ?_ ?_ | refine XG_true ?_ ?_ | refine XG_false ?_ ?_ | refine XRg_true ?_ ?_ | refine XRg_false ?_ ?_) <;> intro hc <;> (try simp only [bl] at hc) <;> (try (exfalso; omega))) | refine XD_w [] [] [] (fun _ => none) mixed (by decide +kernel) (sub_none _) ?_ | refine Pure.call (hp _) ?_ | refine ⟨_, Pure.at (hp _), ?_⟩ | refine ⟨_, hp _, ?_⟩ | refine PureAt.call (hp _) ?_ | fail))
                have hv : NK x out = ((permF x.op (out.getD 0 0) (out.getD 1 0) (out.getD 2 0) 0 0).1, 0) := by
                  rw [← hNK]
                  simp [nodeK, hA, hT, tb0, *]
                  done
                intro b13 n13 n14 hb13
                refine Own.push (x := (permF x.op (out.getD 0 0) (out.getD 1 0) (out.getD 2 0) 0 0).1) (enc := cI) (hown12.alloc hb22) (by first | (simp [go_sem]; done) | (simp [go_sem]; omega)) und37 zr3 by3 (by first | (simp [go_sem]; done) | (simp [go_sem]; omega)) (by rw [upd_ne _ _ n13]; exact hb13) (by first | (simp [go_sem]; done) | (simp [go_sem]; omega)) rfl (Nat.le_refl _) (by first | (simp [go_sem]; done) | (simp [go_sem]; omega)) (by omega) (by omega) fun a1 h1 hown1 hkeep1 => ?_
                (repeat' (first | simp [go_sem, X_region, *] | simp (disch := omega) only [om, *] | ((first | refine XC_split ?_ ?_ | refine XG_true ?_ ?_ | refine XG_false ?_ ?_ | refine XRg_true ?_ ?_ | refine XRg_false ?_ ?_) <;> intro hc <;> (try simp only [bl] at hc) <;> (try (exfalso; omega))) | refine XD_w [] [] [] (fun _ => none) mixed (by decide +kernel) (sub_none _) ?_ | fail))
                refine ⟨_, Nat.lt_succ_self _, hJ1.out _ _ _ ⟨?_, i + 1, r, acc ++ [(permF x.op (out.getD 0 0) (out.getD 1 0) (out.getD 2 0) 0 0).1], rfl, by omega, hd2, hgo _ hv, by simp [go_sem, *], by simp [hacc], by simpa [go_sem] using hown1⟩⟩
                repeat (refine fr_upd (by decide) ?_)
                refine fr_in (by intro i; omega) hfr2 ?_
                repeat (refine fr_upd (by decide) ?_)
                exact hfr1
          | some ak =>
            (repeat' (first | simp [go_sem, X_region, *] | simp (disch := omega) only [om, *] | ((first | refine XC_split ?_ ?_ | refine XG_true ?_ ?_ | refine XG_false ?_ ?_ | refine XRg_true ?_ ?_ | refine XRg_false ?_ ?_) <;> intro hc <;> (try simp only [bl] at hc) <;> (try (exfalso; omega))) | refine XD_w [] [] [] (fun _ => none) mixed (by decide +kernel) (sub_none _) ?_ | fail))
            all_goals first
              | (refine Wk.fin (hsub22 _) (herr 15 ?_ (by decide)); rw [← hNK]; simp [nodeK, hA, hT, *]; done)
              | (refine Wk.fin (hsub22 _) (herr 8 ?_ (by decide)); rw [← hNK]; simp [nodeK, hA, hT, *]; done)
              | skip
            all_goals first
              | (skip
                 have hv : NK x out = (ak, 0) := by
                   rw [← hNK]
                   simp [nodeK, hA, hT, tb0, *]
                   done
                 intro b13 n13 n14 hb13
                 refine Own.push (x := ak) (enc := cI) (hown12.alloc hb22) (by first | (simp [go_sem]; done) | (simp [go_sem]; omega)) und37 zr3 by3 (by first | (simp [go_sem]; done) | (simp [go_sem]; omega)) (by rw [upd_ne _ _ n13]; exact hb13) (by first | (simp [go_sem]; done) | (simp [go_sem]; omega)) rfl (Nat.le_refl _) (by first | (simp [go_sem]; done) | (simp [go_sem]; omega)) (by omega) (by omega) fun a1 h1 hown1 hkeep1 => ?_
                 (repeat' (first | simp [go_sem, X_region, *] | simp (disch := omega) only [om, *] | ((first | refine XC_split ?_ ?_ | refine XG_true ?_ ?_ | refine XG_false ?_ ?_ | refine XRg_true ?_ ?_ | refine XRg_false ?_ ?_) <;> intro hc <;> (try simp only [bl] at hc) <;> (try (exfalso; omega))) | refine XD_w [] [] [] (fun _ => none) mixed (by decide +kernel) (sub_none _) ?_ | fail))
                 refine ⟨_, Nat.lt_succ_self _, hJ1.out _ _ _ ⟨?_, i + 1, r, acc ++ [ak], rfl, by omega, hd2, hgo _ hv, by simp [go_sem, *], by simp [hacc], by simpa [go_sem] using hown1⟩⟩
                 repeat (refine fr_upd (by decide) ?_)
                 refine fr_in (by intro i; omega) hfr2 ?_
                 repeat (refine fr_upd (by decide) ?_)
                 exact hfr1
                 done)
              | (skip
                 have hv : NK x out = (x.kd, 0) := by
                   rw [← hNK]
                   simp [nodeK, hA, hT, tb0, *]
                   done
                 intro b13 n13 n14 hb13
                 refine Own.push (x := x.kd) (enc := cI) (hown12.alloc hb22) (by first | (simp [go_sem]; done) | (simp [go_sem]; omega)) und37 zr3 by3 (by first | (simp [go_sem]; done) | (simp [go_sem]; omega)) (by rw [upd_ne _ _ n13]; exact hb13) (by first | (simp [go_sem]; done) | (simp [go_sem]; omega)) rfl (Nat.le_refl _) (by first | (simp [go_sem]; done) | (simp [go_sem]; omega)) (by omega) (by omega) fun a1 h1 hown1 hkeep1 => ?_
                 (repeat' (first | simp [go_sem, X_region, *] | simp (disch := omega) only [om, *] | ((first | refine XC_split ?_ ?_ | refine XG_true ?_ ?_ | refine XG_false ?_ ?_ | refine XRg_true ?_ ?_ | refine XRg_false ?_ ?_) <;> intro hc <;> (try simp only [bl] at hc) <;> (try (exfalso; omega))) | refine XD_w [] [] [] (fun _ => none) mixed (by decide +kernel) (sub_none _) ?_ | fail))
                 refine ⟨_, Nat.lt_succ_self _, hJ1.out _ _ _ ⟨?_, i + 1, r, acc ++ [x.kd], rfl, by omega, hd2, hgo _ hv, by simp [go_sem, *], by simp [hacc], by simpa [go_sem] using hown1⟩⟩
                 repeat (refine fr_upd (by decide) ?_)
                 refine fr_in (by intro i; omega) hfr2 ?_
                 repeat (refine fr_upd (by decide) ?_)
                 exact hfr1
                 done)
              | (skip
                 have hv : NK x out = (5, 0) := by
                   rw [← hNK]
                   simp [nodeK, hA, hT, tb0, *]
                   done
                 intro b13 n13 n14 hb13
                 refine Own.push (x := 5) (enc := cI) (hown12.alloc hb22) (by first | (simp [go_sem]; done) | (simp [go_sem]; omega)) und37 zr3 by3 (by first | (simp [go_sem]; done) | (simp [go_sem]; omega)) (by rw [upd_ne _ _ n13]; exact hb13) (by first | (simp [go_sem]; done) | (simp [go_sem]; omega)) rfl (Nat.le_refl _) (by first | (simp [go_sem]; done) | (simp [go_sem]; omega)) (by omega) (by omega) fun a1 h1 hown1 hkeep1 => ?_
                 (repeat' (first | simp [go_sem, X_region, *] | simp (disch := omega) only [om, *] | ((first | refine XC_split ?_ ?_ | refine XG_true ?_ ?_ | refine XG_false ?_ ?_ | refine XRg_true ?_ ?_ | refine XRg_false ?_ ?_) <;> intro hc <;> (try simp only [bl] at hc) <;> (try (exfalso; omega))) | refine XD_w [] [] [] (fun _ => none) mixed (by decide +kernel) (sub_none _) ?_ | fail))
                 refine ⟨_, Nat.lt_succ_self _, hJ1.out _ _ _ ⟨?_, i + 1, r, acc ++ [5], rfl, by omega, hd2, hgo _ hv, by simp [go_sem, *], by simp [hacc], by simpa [go_sem] using hown1⟩⟩
                 repeat (refine fr_upd (by decide) ?_)
                 refine fr_in (by intro i; omega) hfr2 ?_
                 repeat (refine fr_upd (by decide) ?_)
                 exact hfr1
                 done)
              | skip
            all_goals
              have hop : isOp x.op := ⟨by omega, by omega⟩
              have hol3 : (out.length : Int) = ar x.op := by first | exact hol | (rw [hol]; congr 1)
              have hp : ∀ ob, PureAt Tryd.prog (upd g2 b22 (some ob)) 76 [I x.op, T2 15, I 0, I 0] (tup2 (I (permF x.op (out.getD 0 0) (out.getD 1 0) (out.getD 2 0) 0 0).1) (B (permP x.op 0 0 out))) := fun ob => Pure.lend (perm_all hop hol3 0 0) (.cons (Lend.refl _) (.cons ((hown2.alloc hb22).lend (by omega)) (.cons (Lend.refl _) (.cons (Lend.refl _) .nil)))) (Flat.tup2 (Flat.v _) (Flat.v _))
              rcases (Bool.eq_false_or_eq_true (permP x.op 0 0 out)).symm with hq | hq
              · rw [hq] at hp
                (repeat' (first | simp [go_sem, X_region, *] | simp (disch := omega) only [om, *] | ((first | refine XC_split ?_ ?_ | refine XG_true ?_ ?_ | refine XG_false ?_ ?_ | refine XRg_true ?_ ?_ | refine XRg_false ?_ ?_) <;> intro hc <;> (try simp only [bl] at hc) <;> (try (exfalso; omega))) | refine XD_w [] [] [] (fun _ => none) mixed (by decide +kernel) (sub_none _) ?_ | refine Pure.call (hp _) ?_ | refine ⟨_, Pure.at (hp _), ?_⟩ | refine ⟨_, hp _, ?_⟩ | refine PureAt.call (hp _) ?_ | fail))
                refine Wk.fin (hsub22 _) (herr 8 ?_ (by decide))
                rw [← hNK]
                simp [nodeK, hA, hT, tb0, hq, *]
                done
              · rw [hq] at hp
                (repeat' (first | simp [go_sem, X_region, *] | simp (disch := omega) only [om, *] | ((first | refine XC_split ?_ ?_ | refine XG_true ?_ ?_ | refine XG_false ?_ ?_ | refine XRg_true ?_ ?_ | refine XRg_false ?_ ?_) <;> intro hc <;> (try simp only [bl] at hc) <;> (try (exfalso; omega))) | refine XD_w [] [] [] (fun _ => none) mixed (by decide +kernel) (sub_none _) ?_ | refine Pure.call (hp _) ?_ | refine ⟨_, Pure.at (hp _), ?_⟩ | refine ⟨_, hp _, ?_⟩ | refine PureAt.call (hp _) ?_ | fail))
                have hv : NK x out = ((permF x.op (out.getD 0 0) (out.getD 1 0) (out.getD 2 0) 0 0).1, 0) := by
                  rw [← hNK]
                  simp [nodeK, hA, hT, tb0, *]
                  done
                intro b13 n13 n14 hb13
                refine Own.push (x := (permF x.op (out.getD 0 0) (out.getD 1 0) (out.getD 2 0) 0 0).1) (enc := cI) (hown12.alloc hb22) (by first | (simp [go_sem]; done) | (simp [go_sem]; omega)) und37 zr3 by3 (by first | (simp [go_sem]; done) | (simp [go_sem]; omega)) (by rw [upd_ne _ _ n13]; exact hb13) (by first | (simp [go_sem]; done) | (simp [go_sem]; omega)) rfl (Nat.le_refl _) (by first | (simp [go_sem]; done) | (simp [go_sem]; omega)) (by omega) (by omega) fun a1 h1 hown1 hkeep1 => ?_
                (repeat' (first | simp [go_sem, X_region, *] | simp (disch := omega) only [om, *] | ((first | refine XC_split ?_ ?_ | refine XG_true ?_ ?_ | refine XG_false ?_ ?_ | refine XRg_true ?_ ?_ | refine XRg_false ?_ ?_) <;> intro hc <;> (try simp only [bl] at hc) <;> (try (exfalso; omega))) | refine XD_w [] [] [] (fun _ => none) mixed (by decide +kernel) (sub_none _) ?_ | fail))
                refine ⟨_, Nat.lt_succ_self _, hJ1.out _ _ _ ⟨?_, i + 1, r, acc ++ [(permF x.op (out.getD 0 0) (out.getD 1 0) (out.getD 2 0) 0 0).1], rfl, by omega, hd2, hgo _ hv, by simp [go_sem, *], by simp [hacc], by simpa [go_sem] using hown1⟩⟩
                repeat (refine fr_upd (by decide) ?_)
                refine fr_in (by intro i; omega) hfr2 ?_
                repeat (refine fr_upd (by decide) ?_)
                exact hfr1
        | some tb =>
          rw [Option.map_some, Option.getD_some]
          (repeat' (first | simp [go_sem, X_region, lookR, *] | simp (disch := omega) only [om, *] | ((first | refine XC_split ?_ ?_ | refine XG_true ?_ ?_ | refine XG_false ?_ ?_ | refine XRg_true ?_ ?_ | refine XRg_false ?_ ?_) <;> intro hc <;> (try simp only [bl] at hc) <;> (try (exfalso; omega))) | refine XD_w [] [] [] (fun _ => none) mixed (by decide +kernel) (sub_none _) ?_ | fail))
          intro b22 hb22
          clear hks
          have m5 := ne_free hb22 k5
          have hsub22 : ∀ ob, Sub h (upd g2 b22 (some ob)) := fun ob c oc hc => by
            have := kg c oc (hsub c oc hc)
            rw [upd_ne _ _ (ne_free hb22 this).2]; exact this
          have hs12 : Sub g1 g2 := fun c oc hc => kE c oc (by rw [← hEq, upd_ne _ _ (ne_free hb5 hc).2]; exact hc)
          have hown12 : Own g g2 (T1 12) 3 1 acc.length (cellsL cI acc) := by
            refine ⟨hown.1.trans hs12, ?_⟩
            rcases hown.2 with h1 | ⟨gb, og, h1, h2, h3, h4⟩
            · exact .inl h1
            · exact .inr ⟨gb, og, h1, h2, hs12 _ _ h3, h4⟩
          have hgo : ∀ v : Int, NK x out = (v, 0) → kndF NK r (acc ++ [v]) = R := fun v h1 => by
            rw [h1, if_neg (by simp)] at hR
            exact hR
          have herr : ∀ c : Int, NK x out = (0, c) → c ≠ 0 → (tup2 (I 0) (I c) : AV) = tup2 (I R.1) (I R.2) := fun c h1 h2 => by
            rw [h1, if_pos h2] at hR
            rw [← hR]
          cases hA : atF x.nm l with
          | none =>
            (repeat' (first | simp [go_sem, X_region, *] | simp (disch := omega) only [om, *] | ((first | refine XC_split ?_ ?_ | refine XG_true ?_ ?_ | refine XG_false ?_ ?_ | refine XRg_true ?_ ?_ | refine XRg_false ?_ ?_) <;> intro hc <;> (try simp only [bl] at hc) <;> (try (exfalso; omega))) | refine XD_w [] [] [] (fun _ => none) mixed (by decide +kernel) (sub_none _) ?_ | fail))
            all_goals first
              | (refine Wk.fin (hsub22 _) (herr 15 ?_ (by decide)); rw [← hNK]; simp [nodeK, hA, hT, *]; done)
              | (refine Wk.fin (hsub22 _) (herr 8 ?_ (by decide)); rw [← hNK]; simp [nodeK, hA, hT, *]; done)
              | skip
            all_goals first
              | (skip
                 have hv : NK x out = (x.kd, 0) := by
                   rw [← hNK]
                   simp [nodeK, hA, hT, tb0, *]
                   done
                 intro b13 n13 n14 hb13
                 refine Own.push (x := x.kd) (enc := cI) (hown12.alloc hb22) (by first | (simp [go_sem]; done) | (simp [go_sem]; omega)) und37 zr3 by3 (by first | (simp [go_sem]; done) | (simp [go_sem]; omega)) (by rw [upd_ne _ _ n13]; exact hb13) (by first | (simp [go_sem]; done) | (simp [go_sem]; omega)) rfl (Nat.le_refl _) (by first | (simp [go_sem]; done) | (simp [go_sem]; omega)) (by omega) (by omega) fun a1 h1 hown1 hkeep1 => ?_
                 (repeat' (first | simp [go_sem, X_region, *] | simp (disch := omega) only [om, *] | ((first | refine XC_split ?_ ?_ | refine XG_true ?_ ?_ | refine XG_false ?_ ?_ | refine XRg_true ?_ ?_ | refine XRg_false ?_ ?_) <;> intro hc <;> (try simp only [bl] at hc) <;> (try (exfalso; omega))) | refine XD_w [] [] [] (fun _ => none) mixed (by decide +kernel) (sub_none _) ?_ | fail))
                 refine ⟨_, Nat.lt_succ_self _, hJ1.out _ _ _ ⟨?_, i + 1, r, acc ++ [x.kd], rfl, by omega, hd2, hgo _ hv, by simp [go_sem, *], by simp [hacc], by simpa [go_sem] using hown1⟩⟩
                 repeat (refine fr_upd (by decide) ?_)
                 refine fr_in (by intro i; omega) hfr2 ?_
                 repeat (refine fr_upd (by decide) ?_)
                 exact hfr1
                 done)
              | (skip
                 have hv : NK x out = (5, 0) := by
                   rw [← hNK]
                   simp [nodeK, hA, hT, tb0, *]
                   done
                 intro b13 n13 n14 hb13
                 refine Own.push (x := 5) (enc := cI) (hown12.alloc hb22) (by first | (simp [go_sem]; done) | (simp [go_sem]; omega)) und37 zr3 by3 (by first | (simp [go_sem]; done) | (simp [go_sem]; omega)) (by rw [upd_ne _ _ n13]; exact hb13) (by first | (simp [go_sem]; done) | (simp [go_sem]; omega)) rfl (Nat.le_refl _) (by first | (simp [go_sem]; done) | (simp [go_sem]; omega)) (by omega) (by omega) fun a1 h1 hown1 hkeep1 => ?_
                 (repeat' (first | simp [go_sem, X_region, *] | simp (disch := omega) only [om, *] | ((first | refine XC_split ?_ ?_ | refine XG_true ?_ ?_ | refine XG_false ?_ ?_ | refine XRg_true ?_ ?_ | refine XRg_false ?_ ?_) <;> intro hc <;> (try simp only [bl] at hc) <;> (try (exfalso; omega))) | refine XD_w [] [] [] (fun _ => none) mixed (by decide +kernel) (sub_none _) ?_ | fail))
                 refine ⟨_, Nat.lt_succ_self _, hJ1.out _ _ _ ⟨?_, i + 1, r, acc ++ [5], rfl, by omega, hd2, hgo _ hv, by simp [go_sem, *], by simp [hacc], by simpa [go_sem] using hown1⟩⟩
                 repeat (refine fr_upd (by decide) ?_)
                 refine fr_in (by intro i; omega) hfr2 ?_
                 repeat (refine fr_upd (by decide) ?_)
                 exact hfr1
                 done)
              | skip
            all_goals first
              | (have h16 : x.op = 16 := by omega
                 have hop : isOp 16 := ⟨by omega, by omega⟩
                 have hol3 : (out.length : Int) = ar 16 := by first | exact hol | (rw [hol]; congr 1)
                 have hp : ∀ ob, PureAt Tryd.prog (upd g2 b22 (some ob)) 76 [I 16, T2 15, I tb.fr, I tb.to] (tup2 (I (permF 16 (out.getD 0 0) (out.getD 1 0) (out.getD 2 0) tb.fr tb.to).1) (B (permP 16 tb.fr tb.to out))) := fun ob => Pure.lend (perm_all hop hol3 tb.fr tb.to) (.cons (Lend.refl _) (.cons ((hown2.alloc hb22).lend (by omega)) (.cons (Lend.refl _) (.cons (Lend.refl _) .nil)))) (Flat.tup2 (Flat.v _) (Flat.v _))
                 rcases (Bool.eq_false_or_eq_true (permP 16 tb.fr tb.to out)).symm with hq | hq
                 · rw [hq] at hp
                   (repeat' (first | simp [go_sem, X_region, *] | simp (disch := omega) only [om, *] | ((first | refine XC_split ?_ ?_ | refine XG_true ?_ ?_ | refine XG_false ?_ ?_ | refine XRg_true ?_ ?_ | refine XRg_false ?_ ?_) <;> intro hc <;> (try simp only [bl] at hc) <;> (try (exfalso; omega))) | refine XD_w [] [] [] (fun _ => none) mixed (by decide +kernel) (sub_none _) ?_ | refine Pure.call (hp _) ?_ | refine ⟨_, Pure.at (hp _), ?_⟩ | refine ⟨_, hp _, ?_⟩ | refine PureAt.call (hp _) ?_ | fail))
                   refine Wk.fin (hsub22 _) (herr 8 ?_ (by decide))
                   rw [← hNK]
                   simp [nodeK, hA, hT, tb0, hq, *]
                   done
                 · rw [hq] at hp
                   (repeat' (first | simp [go_sem, X_region, *] | simp (disch := omega) only [om, *] | ((first | refine XC_split ?_ ?_ | refine XG_true ?_ ?_ | refine XG_false ?_ ?_ | refine XRg_true ?_ ?_ | refine XRg_false ?_ ?_) <;> intro hc <;> (try simp only [bl] at hc) <;> (try (exfalso; omega))) | refine XD_w [] [] [] (fun _ => none) mixed (by decide +kernel) (sub_none _) ?_ | refine Pure.call (hp _) ?_ | refine ⟨_, Pure.at (hp _), ?_⟩ | refine ⟨_, hp _, ?_⟩ | refine PureAt.call (hp _) ?_ | fail))
                   have hv : NK x out = ((permF 16 (out.getD 0 0) (out.getD 1 0) (out.getD 2 0) tb.fr tb.to).1, 0) := by
                     rw [← hNK]
                     simp [nodeK, hA, hT, tb0, *]
                     done
                   intro b13 n13 n14 hb13
                   refine Own.push (x := (permF 16 (out.getD 0 0) (out.getD 1 0) (out.getD 2 0) tb.fr tb.to).1) (enc := cI) (hown12.alloc hb22) (by first | (simp [go_sem]; done) | (simp [go_sem]; omega)) und37 zr3 by3 (by first | (simp [go_sem]; done) | (simp [go_sem]; omega)) (by rw [upd_ne _ _ n13]; exact hb13) (by first | (simp [go_sem]; done) | (simp [go_sem]; omega)) rfl (Nat.le_refl _) (by first | (simp [go_sem]; done) | (simp [go_sem]; omega)) (by omega) (by omega) fun a1 h1 hown1 hkeep1 => ?_
                   (repeat' (first | simp [go_sem, X_region, *] | simp (disch := omega) only [om, *] | ((first | refine XC_split ?_ ?_ | refine XG_true ?_ ?_ | refine XG_false ?_ ?_ | refine XRg_true ?_ ?_ | refine XRg_false ?_ ?_) <;> intro hc <;> (try simp only [bl] at hc) <;> (try (exfalso; omega))) | refine XD_w [] [] [] (fun _ => none) mixed (by decide +kernel) (sub_none _) ?_ | fail))
                   refine ⟨_, Nat.lt_succ_self _, hJ1.out _ _ _ ⟨?_, i + 1, r, acc ++ [(permF 16 (out.getD 0 0) (out.getD 1 0) (out.getD 2 0) tb.fr tb.to).1], rfl, by omega, hd2, hgo _ hv, by simp [go_sem, *], by simp [hacc], by simpa [go_sem] using hown1⟩⟩
                   repeat (refine fr_upd (by decide) ?_)
                   refine fr_in (by intro i; omega) hfr2 ?_
                   repeat (refine fr_upd (by decide) ?_)
                   exact hfr1
                 done)
              | (skip
                 have hop : isOp x.op := ⟨by omega, by omega⟩
                 have hol3 : (out.length : Int) = ar x.op := by first | exact hol | (rw [hol]; congr 1)
                 have hp : ∀ ob, PureAt Tryd.prog (upd g2 b22 (some ob)) 76 [I x.op, T2 15, I tb.fr, I tb.to] (tup2 (I (permF x.op (out.getD 0 0) (out.getD 1 0) (out.getD 2 0) tb.fr tb.to).1) (B (permP x.op tb.fr tb.to out))) := fun ob => Pure.lend (perm_all hop hol3 tb.fr tb.to) (.cons (Lend.refl _) (.cons ((hown2.alloc hb22).lend (by omega)) (.cons (Lend.refl _) (.cons (Lend.refl _) .nil)))) (Flat.tup2 (Flat.v _) (Flat.v _))
                 rcases (Bool.eq_false_or_eq_true (permP x.op tb.fr tb.to out)).symm with hq | hq
                 · rw [hq] at hp
                   (repeat' (first | simp [go_sem, X_region, *] | simp (disch := omega) only [om, *] | ((first | refine XC_split ?_ ?_ | refine XG_true ?_ ?_ | refine XG_false ?_ ?_ | refine XRg_true ?_ ?_ | refine XRg_false ?_ ?_) <;> intro hc <;> (try simp only [bl] at hc) <;> (try (exfalso; omega))) | refine XD_w [] [] [] (fun _ => none) mixed (by decide +kernel) (sub_none _) ?_ | refine Pure.call (hp _) ?_ | refine ⟨_, Pure.at (hp _), ?_⟩ | refine ⟨_, hp _, ?_⟩ | refine PureAt.call (hp _) ?_ | fail))
                   refine Wk.fin (hsub22 _) (herr 8 ?_ (by decide))
                   rw [← hNK]
                   simp [nodeK, hA, hT, tb0, hq, *]
                   done
                 · rw [hq] at hp
                   (repeat' (first | simp [go_sem, X_region, *] | simp (disch := omega) only [om, *] | ((first | refine XC_split ?_ ?_ | refine XG_true ?_ ?_ | refine XG_false ?_ ?_ | refine XRg_true ?_ ?_ | refine XRg_false ?_ ?_) <;> intro hc <;> (try simp only [bl] at hc) <;> (try (exfalso; omega))) | refine XD_w [] [] [] (fun _ => none) mixed (by decide +kernel) (sub_none _) ?_ | refine Pure.call (hp _) ?_ | refine ⟨_, Pure.at (hp _), ?_⟩ | refine ⟨_, hp _, ?_⟩ | refine PureAt.call (hp _) ?_ | fail))
                   have hv : NK x out = ((permF x.op (out.getD 0 0) (out.getD 1 0) (out.getD 2 0) tb.fr tb.to).1, 0) := by
                     rw [← hNK]
                     simp [nodeK, hA, hT, tb0, *]
                     done
                   intro b13 n13 n14 hb13
                   refine Own.push (x := (permF x.op (out.getD 0 0) (out.getD 1 0) (out.getD 2 0) tb.fr tb.to).1) (enc := cI) (hown12.alloc hb22) (by first | (simp [go_sem]; done) | (simp [go_sem]; omega)) und37 zr3 by3 (by first | (simp [go_sem]; done) | (simp [go_sem]; omega)) (by rw [upd_ne _ _ n13]; exact hb13) (by first | (simp [go_sem]; done) | (simp [go_sem]; omega)) rfl (Nat.le_refl _) (by first | (simp [go_sem]; done) | (simp [go_sem]; omega)) (by omega) (by omega) fun a1 h1 hown1 hkeep1 => ?_
                   (repeat' (first | simp [go_sem, X_region, *] | simp (disch := omega) only [om, *] | ((first | refine XC_split ?_ ?_ | refine XG_true ?_ ?_ | refine XG_false ?_ ?_ | refine XRg_true ?_ ?_ | refine XRg_false ?_ ?_) <;> intro hc <;> (try simp only [bl] at hc) <;> (try (exfalso; omega))) | refine XD_w [] [] [] (fun _ => none) mixed (by decide +kernel) (sub_none _) ?_ | fail))
                   refine ⟨_, Nat.lt_succ_self _, hJ1.out _ _ _ ⟨?_, i + 1, r, acc ++ [(permF x.op (out.getD 0 0) (out.getD 1 0) (out.getD 2 0) tb.fr tb.to).1], rfl, by omega, hd2, hgo _ hv, by simp [go_sem, *], by simp [hacc], by simpa [go_sem] using hown1⟩⟩
                   repeat (refine fr_upd (by decide) ?_)
                   refine fr_in (by intro i; omega) hfr2 ?_
                   repeat (refine fr_upd (by decide) ?_)
                   exact hfr1
                 done)
          | some ak =>
            (repeat' (first | simp [go_sem, X_region, *] | simp (disch := omega) only [om, *] | ((first | refine XC_split ?_ ?_ | refine XG_true ?_ ?_ | refine XG_false ?_ ?_ | refine XRg_true ?_ ?_ | refine XRg_false ?_ ?_) <;> intro hc <;> (try simp only [bl] at hc) <;> (try (exfalso; omega))) | refine XD_w [] [] [] (fun _ => none) mixed (by decide +kernel) (sub_none _) ?_ | fail))
            all_goals first
              | (refine Wk.fin (hsub22 _) (herr 15 ?_ (by decide)); rw [← hNK]; simp [nodeK, hA, hT, *]; done)
              | (refine Wk.fin (hsub22 _) (herr 8 ?_ (by decide)); rw [← hNK]; simp [nodeK, hA, hT, *]; done)
              | skip
            all_goals first
              | (skip
                 have hv : NK x out = (ak, 0) := by
                   rw [← hNK]
                   simp [nodeK, hA, hT, tb0, *]
                   done
                 intro b13 n13 n14 hb13
                 refine Own.push (x := ak) (enc := cI) (hown12.alloc hb22) (by first | (simp [go_sem]; done) | (simp [go_sem]; omega)) und37 zr3 by3 (by first | (simp [go_sem]; done) | (simp [go_sem]; omega)) (by rw [upd_ne _ _ n13]; exact hb13) (by first | (simp [go_sem]; done) | (simp [go_sem]; omega)) rfl (Nat.le_refl _) (by first | (simp [go_sem]; done) | (simp [go_sem]; omega)) (by omega) (by omega) fun a1 h1 hown1 hkeep1 => ?_
                 (repeat' (first | simp [go_sem, X_region, *] | simp (disch := omega) only [om, *] | ((first | refine XC_split ?_ ?_ | refine XG_true ?_ ?_ | refine XG_false ?_ ?_ | refine XRg_true ?_ ?_ | refine XRg_false ?_ ?_) <;> intro hc <;> (try simp only [bl] at hc) <;> (try (exfalso; omega))) | refine XD_w [] [] [] (fun _ => none) mixed (by decide +kernel) (sub_none _) ?_ | fail))
                 refine ⟨_, Nat.lt_succ_self _, hJ1.out _ _ _ ⟨?_, i + 1, r, acc ++ [ak], rfl, by omega, hd2, hgo _ hv, by simp [go_sem, *], by simp [hacc], by simpa [go_sem] using hown1⟩⟩
                 repeat (refine fr_upd (by decide) ?_)
                 refine fr_in (by intro i; omega) hfr2 ?_
                 repeat (refine fr_upd (by decide) ?_)
                 exact hfr1
                 done)
              | (skip
                 have hv : NK x out = (x.kd, 0) := by
                   rw [← hNK]
                   simp [nodeK, hA, hT, tb0, *]
                   done
                 intro b13 n13 n14 hb13
                 refine Own.push (x := x.kd) (enc := cI) (hown12.alloc hb22) (by first | (simp [go_sem]; done) | (simp [go_sem]; omega)) und37 zr3 by3 (by first | (simp [go_sem]; done) | (simp [go_sem]; omega)) (by rw [upd_ne _ _ n13]; exact hb13) (by first | (simp [go_sem]; done) | (simp [go_sem]; omega)) rfl (Nat.le_refl _) (by first | (simp [go_sem]; done) | (simp [go_sem]; omega)) (by omega) (by omega) fun a1 h1 hown1 hkeep1 => ?_
                 (repeat' (first | simp [go_sem, X_region, *] | simp (disch := omega) only [om, *] | ((first | refine XC_split ?_ ?_ | refine XG_true ?_ ?_ | refine XG_false ?_ ?_ | refine XRg_true ?_ ?_ | refine XRg_false ?_ ?_) <;> intro hc <;> (try simp only [bl] at hc) <;> (try (exfalso; omega))) | refine XD_w [] [] [] (fun _ => none) mixed (by decide +kernel) (sub_none _) ?_ | fail))
                 refine ⟨_, Nat.lt_succ_self _, hJ1.out _ _ _ ⟨?_, i + 1, r, acc ++ [x.kd], rfl, by omega, hd2, hgo _ hv, by simp [go_sem, *], by simp [hacc], by simpa [go_sem] using hown1⟩⟩
                 repeat (refine fr_upd (by decide) ?_)
                 refine fr_in (by intro i; omega) hfr2 ?_
                 repeat (refine fr_upd (by decide) ?_)
                 exact hfr1
                 done)
              | (skip
                 have hv : NK x out = (5, 0) := by
                   rw [← hNK]
                   simp [nodeK, hA, hT, tb0, *]
                   done
                 intro b13 n13 n14 hb13
                 refine Own.push (x := 5) (enc := cI) (hown12.alloc hb22) (by first | (simp [go_sem]; done) | (simp [go_sem]; omega)) und37 zr3 by3 (by first | (simp [go_sem]; done) | (simp [go_sem]; omega)) (by rw [upd_ne _ _ n13]; exact hb13) (by first | (simp [go_sem]; done) | (simp [go_sem]; omega)) rfl (Nat.le_refl _) (by first | (simp [go_sem]; done) | (simp [go_sem]; omega)) (by omega) (by omega) fun a1 h1 hown1 hkeep1 => ?_
                 (repeat' (first | simp [go_sem, X_region, *] | simp (disch := omega) only [om, *] | ((first | refine XC_split ?_ ?_ | refine XG_true ?_ ?_ | refine XG_false ?_ ?_ | refine XRg_true ?_ ?_ | refine XRg_false ?_ ?_) <;> intro hc <;> (try simp only [bl] at hc) <;> (try (exfalso; omega))) | refine XD_w [] [] [] (fun _ => none) mixed (by decide +kernel) (sub_none _) ?_ | fail))
                 refine ⟨_, Nat.lt_succ_self _, hJ1.out _ _ _ ⟨?_, i + 1, r, acc ++ [5], rfl, by omega, hd2, hgo _ hv, by simp [go_sem, *], by simp [hacc], by simpa [go_sem] using hown1⟩⟩
                 repeat (refine fr_upd (by decide) ?_)
                 refine fr_in (by intro i; omega) hfr2 ?_
                 repeat (refine fr_upd (by decide) ?_)
                 exact hfr1
                 done)
              | skip
            all_goals first
              | (have h16 : x.op = 16 := by omega
                 have hop : isOp 16 := ⟨by omega, by omega⟩
                 have hol3 : (out.length : Int) = ar 16 := by first | exact hol | (rw [hol]; congr 1)
                 have hp : ∀ ob, PureAt Tryd.prog (upd g2 b22 (some ob)) 76 [I 16, T2 15, I tb.fr, I tb.to] (tup2 (I (permF 16 (out.getD 0 0) (out.getD 1 0) (out.getD 2 0) tb.fr tb.to).1) (B (permP 16 tb.fr tb.to out))) := fun ob => Pure.lend (perm_all hop hol3 tb.fr tb.to) (.cons (Lend.refl _) (.cons ((hown2.alloc hb22).lend (by omega)) (.cons (Lend.refl _) (.cons (Lend.refl _) .nil)))) (Flat.tup2 (Flat.v _) (Flat.v _))
                 rcases (Bool.eq_false_or_eq_true (permP 16 tb.fr tb.to out)).symm with hq | hq
                 · rw [hq] at hp
                   (repeat' (first | simp [go_sem, X_region, *] | simp (disch := omega) only [om, *] | ((first | refine XC_split ?_ ?_ | refine XG_true ?_ ?_ | refine XG_false ?_ ?_ | refine XRg_true ?_ ?_ | refine XRg_false ?_ ?_) <;> intro hc <;> (try simp only [bl] at hc) <;> (try (exfalso; omega))) | refine XD_w [] [] [] (fun _ => none) mixed (by decide +kernel) (sub_none _) ?_ | refine Pure.call (hp _) ?_ | refine ⟨_, Pure.at (hp _), ?_⟩ | refine ⟨_, hp _, ?_⟩ | refine PureAt.call (hp _) ?_ | fail))
                   refine Wk.fin (hsub22 _) (herr 8 ?_ (by decide))
                   rw [← hNK]
                   simp [nodeK, hA, hT, tb0, hq, *]
                   done
                 · rw [hq] at hp
                   (repeat' (first | simp [go_sem, X_region, *] | simp (disch := omega) only [om, *] | ((first | refine XC_split ?_ ?_ | refine XG_true ?_ ?_ | refine XG_false ?_ ?_ | refine XRg_true ?_ ?_ | refine XRg_false ?_ ?_) <;> intro hc <;> (try simp only [bl] at hc) <;> (try (exfalso; omega))) | refine XD_w [] [] [] (fun _ => none) mixed (by decide +kernel) (sub_none _) ?_ | refine Pure.call (hp _) ?_ | refine ⟨_, Pure.at (hp _), ?_⟩ | refine ⟨_, hp _, ?_⟩ | refine PureAt.call (hp _) ?_ | fail))
                   have hv : NK x out = ((permF 16 (out.getD 0 0) (out.getD 1 0) (out.getD 2 0) tb.fr tb.to).1, 0) := by
                     rw [← hNK]
                     simp [nodeK, hA, hT, tb0, *]
                     done
                   intro b13 n13 n14 hb13
                   refine Own.push (x := (permF 16 (out.getD 0 0) (out.getD 1 0) (out.getD 2 0) tb.fr tb.to).1) (enc := cI) (hown12.alloc hb22) (by first | (simp [go_sem]; done) | (simp [go_sem]; omega)) und37 zr3 by3 (by first | (simp [go_sem]; done) | (simp [go_sem]; omega)) (by rw [upd_ne _ _ n13]; exact hb13) (by first | (simp [go_sem]; done) | (simp [go_sem]; omega)) rfl (Nat.le_refl _) (by first | (simp [go_sem]; done) | (simp [go_sem]; omega)) (by omega) (by omega) fun a1 h1 hown1 hkeep1 => ?_
                   (repeat' (first | simp [go_sem, X_region, *] | simp (disch := omega) only [om, *] | ((first | refine XC_split ?_ ?_ | refine XG_true ?_ ?_ | refine XG_false ?_ ?_ | refine XRg_true ?_ ?_ | refine XRg_false ?_ ?_) <;> intro hc <;> (try simp only [bl] at hc) <;> (try (exfalso; omega))) | refine XD_w [] [] [] (fun _ => none) mixed (by decide +kernel) (sub_none _) ?_ | fail))
                   refine ⟨_, Nat.lt_succ_self _, hJ1.out _ _ _ ⟨?_, i + 1, r, acc ++ [(permF 16 (out.getD 0 0) (out.getD 1 0) (out.getD 2 0) tb.fr tb.to).1], rfl, by omega, hd2, hgo _ hv, by simp [go_sem, *], by simp [hacc], by simpa [go_sem] using hown1⟩⟩
                   repeat (refine fr_upd (by decide) ?_)
                   refine fr_in (by intro i; omega) hfr2 ?_
                   repeat (refine fr_upd (by decide) ?_)
                   exact hfr1
                 done)
              | (skip
                 have hop : isOp x.op := ⟨by omega, by omega⟩
                 have hol3 : (out.length : Int) = ar x.op := by first | exact hol | (rw [hol]; congr 1)
                 have hp : ∀ ob, PureAt Tryd.prog (upd g2 b22 (some ob)) 76 [I x.op, T2 15, I tb.fr, I tb.to] (tup2 (I (permF x.op (out.getD 0 0) (out.getD 1 0) (out.getD 2 0) tb.fr tb.to).1) (B (permP x.op tb.fr tb.to out))) := fun ob => Pure.lend (perm_all hop hol3 tb.fr tb.to) (.cons (Lend.refl _) (.cons ((hown2.alloc hb22).lend (by omega)) (.cons (Lend.refl _) (.cons (Lend.refl _) .nil)))) (Flat.tup2 (Flat.v _) (Flat.v _))
                 rcases (Bool.eq_false_or_eq_true (permP x.op tb.fr tb.to out)).symm with hq | hq
                 · rw [hq] at hp
                   (repeat' (first | simp [go_sem, X_region, *] | simp (disch := omega) only [om, *] | ((first | refine XC_split ?_ ?_ | refine XG_true ?_ ?_ | refine XG_false ?_ ?_ | refine XRg_true ?_ ?_ | refine XRg_false ?_ ?_) <;> intro hc <;> (try simp only [bl] at hc) <;> (try (exfalso; omega))) | refine XD_w [] [] [] (fun _ => none) mixed (by decide +kernel) (sub_none _) ?_ | refine Pure.call (hp _) ?_ | refine ⟨_, Pure.at (hp _), ?_⟩ | refine ⟨_, hp _, ?_⟩ | refine PureAt.call (hp _) ?_ | fail))
                   refine Wk.fin (hsub22 _) (herr 8 ?_ (by decide))
                   rw [← hNK]
                   simp [nodeK, hA, hT, tb0, hq, *]
                   done
                 · rw [hq] at hp
                   (repeat' (first | simp [go_sem, X_region, *] | simp (disch := omega) only [om, *] | ((first | refine XC_split ?_ ?_ | refine XG_true ?_ ?_ | refine XG_false ?_ ?_ | refine XRg_true ?_ ?_ | refine XRg_false ?_ ?_) <;> intro hc <;> (try simp only [bl] at hc) <;> (try (exfalso; omega))) | refine XD_w [] [] [] (fun _ => none) mixed (by decide +kernel) (sub_none _) ?_ | refine Pure.call (hp _) ?_ | refine ⟨_, Pure.at (hp _), ?_⟩ | refine ⟨_, hp _, ?_⟩ | refine PureAt.call (hp _) ?_ | fail))
                   have hv : NK x out = ((permF x.op (out.getD 0 0) (out.getD 1 0) (out.getD 2 0) tb.fr tb.to).1, 0) := by
                     rw [← hNK]
                     simp [nodeK, hA, hT, tb0, *]
                     done
                   intro b13 n13 n14 hb13
                   refine Own.push (x := (permF x.op (out.getD 0 0) (out.getD 1 0) (out.getD 2 0) tb.fr tb.to).1) (enc := cI) (hown12.alloc hb22) (by first | (simp [go_sem]; done) | (simp [go_sem]; omega)) und37 zr3 by3 (by first | (simp [go_sem]; done) | (simp [go_sem]; omega)) (by rw [upd_ne _ _ n13]; exact hb13) (by first | (simp [go_sem]; done) | (simp [go_sem]; omega)) rfl (Nat.le_refl _) (by first | (simp [go_sem]; done) | (simp [go_sem]; omega)) (by omega) (by omega) fun a1 h1 hown1 hkeep1 => ?_
                   (repeat' (first | simp [go_sem, X_region, *] | simp (disch := omega) only [om, *] | ((first | refine XC_split ?_ ?_ | refine XG_true ?_ ?_ | refine XG_false ?_ ?_ | refine XRg_true ?_ ?_ | refine XRg_false ?_ ?_) <;> intro hc <;> (try simp only [bl] at hc) <;> (try (exfalso; omega))) | refine XD_w [] [] [] (fun _ => none) mixed (by decide +kernel) (sub_none _) ?_ | fail))
                   refine ⟨_, Nat.lt_succ_self _, hJ1.out _ _ _ ⟨?_, i + 1, r, acc ++ [(permF x.op (out.getD 0 0) (out.getD 1 0) (out.getD 2 0) tb.fr tb.to).1], rfl, by omega, hd2, hgo _ hv, by simp [go_sem, *], by simp [hacc], by simpa [go_sem] using hown1⟩⟩
                   repeat (refine fr_upd (by decide) ?_)
                   refine fr_in (by intro i; omega) hfr2 ?_
                   repeat (refine fr_upd (by decide) ?_)
                   exact hfr1
                 done)
      · obtain ⟨hltk, hxk, hdk2⟩ := drop_cons hdk
        have hy := hk1 y (by rw [← hxk]; exact List.getElem_mem hltk)
        obtain ⟨yn, rfl⟩ : ∃ yn : Nat, y = yn := ⟨y.toNat, by omega⟩
        have hyn : yn < acc.length := by omega
        obtain ⟨v, hv⟩ : ∃ v, acc[yn]? = some v := ⟨_, List.getElem?_eq_getElem hyn⟩
        obtain ⟨gb, og, t12, kgb, s1, s2, hf⟩ : ∃ gb og, T1 12 = .row gb 1 0 acc.length ∧ g2 gb = some og ∧ og.s = 1 ∧ og.n = acc.length ∧ og.f yn 0 = I v := by
          rcases hown.2 with ⟨h1, _⟩ | ⟨gb, og, t12, _, hgb, s1, s2, s3, _, hf⟩
          · omega
          · refine ⟨gb, og, t12, kE gb og ?_, s1, s3, ?_⟩
            · rw [← hEq, upd_ne _ _ (ne_free hb5 hgb).2]; exact hgb
            · rw [hf yn hyn 0 (by omega), cellsL_at hv]; rfl
        have hks' : (out ++ [v]) ++ rk.map (fun k => acc.getD k.toNat 0) = x.kids.map (fun k => acc.getD k.toNat 0) := by
          rw [← hks]
          simp [List.getD_eq_getElem?_getD, hv]
        have hx3 := ar_le x.op
        (repeat' (first | simp [go_sem, X_region, *] | simp (disch := omega) only [om, *] | ((first | refine XC_split ?_ ?_ | refine XG_true ?_ ?_ | refine XG_false ?_ ?_ | refine XRg_true ?_ ?_ | refine XRg_false ?_ ?_) <;> intro hc <;> (try simp only [bl] at hc) <;> (try (exfalso; omega))) | refine XD_w [] [] [] (fun _ => none) mixed (by decide +kernel) (sub_none _) ?_ | fail))
        intro b13 hb13
        refine Own.push (x := v) (enc := cI) hown2 (by simp [go_sem]) und37 zr3 by3 (by simp [go_sem]) hb13 (by simp [go_sem]) rfl (Nat.le_refl _) (by simp [go_sem]) (by omega) (by omega) fun a1 h1 hown1 hkeep1 => ?_
        (repeat' (first | simp [go_sem, X_region, *] | simp (disch := omega) only [om, *] | ((first | refine XC_split ?_ ?_ | refine XG_true ?_ ?_ | refine XG_false ?_ ?_ | refine XRg_true ?_ ?_ | refine XRg_false ?_ ?_) <;> intro hc <;> (try simp only [bl] at hc) <;> (try (exfalso; omega))) | refine XD_w [] [] [] (fun _ => none) mixed (by decide +kernel) (sub_none _) ?_ | fail))
        exact ⟨_, Nat.lt_succ_self _, hJ2.out _ _ _ ⟨(by (repeat (refine fr_upd (by decide) ?_)); exact hfr2), j + 1, rk, out ++ [v], rfl, by omega, hdk2, hks', by simp [go_sem, *], by simp [hout], by simpa [go_sem] using hown1⟩⟩
  · have hlt : k < l.length := by omega
    obtain ⟨x, hx⟩ : ∃ x, l[k]? = some x := ⟨_, List.getElem?_eq_getElem hlt⟩
    have hd : l.drop k = x :: l.drop (k + 1) := by rw [List.drop_eq_getElem_cons hlt]; congr 1; rw [List.getElem?_eq_getElem hlt] at hx; exact Option.some.inj hx
    have hkk : ((k + 1 : Nat) : Int) - 1 = (k : Int) := by omega
    rw [hkk] at t9
    have hx' : l[k] = x := by rw [List.getElem?_eq_getElem hlt] at hx; exact Option.some.inj hx
    have hxm : x ∈ l := by rw [← hx']; exact List.getElem_mem hlt
    have e1 := hal x hxm
    have e2 := hatl x hxm
    (repeat' (first | simp [go_sem, X_region, *] | simp (disch := omega) only [om, *] | ((first | refine XC_split ?_ ?_ | refine XG_true ?_ ?_ | refine XG_false ?_ ?_ | refine XRg_true ?_ ?_ | refine XRg_false ?_ ?_) <;> intro hc <;> (try simp only [bl] at hc) <;> (try (exfalso; omega))) | refine XD_w [] [] [] (fun _ => none) mixed (by decide +kernel) (sub_none _) ?_ | fail))
    refine X_lpF (fun i => i = 10 ∨ (45 ≤ i ∧ i ≤ 67)) (fun m T g => ∃ (ma : List (ByteArray × Int)), m ≤ x.attrs.length ∧ T 10 = I ((m : Int) - 1) ∧ Sub h g ∧ MapsA g b1 b2 ma mt ∧ MaIs ma (fun nm => (atIn nm (x.attrs.drop m)).or (atF nm (l.drop (k + 1))))) x.attrs.length ⟨ma, Nat.le_refl _, by simp [go_sem], hsub, ⟨o1, o2, ho1, ho2, hm1, hm2⟩, ⟨fun nm => by simp [atIn, hma.out nm]⟩⟩ ?_
    clear hsub ho1 ho2 hm1 hm2 hma ma o1 o2
    rintro J2 hJ2 m T2 g2 hfr2 ⟨ma, hm, t10, hsub, ⟨o1, o2, ho1, ho2, hm1, hm2⟩, hma⟩
    rcases m with _ | m
    · rw [List.drop_zero] at hma
      (repeat' (first | simp [go_sem, X_region, *] | simp (disch := omega) only [om, *] | ((first | refine XC_split ?_ ?_ | refine XG_true ?_ ?_ | refine XG_false ?_ ?_ | refine XRg_true ?_ ?_ | refine XRg_false ?_ ?_) <;> intro hc <;> (try simp only [bl] at hc) <;> (try (exfalso; omega))) | refine XD_w [] [] [] (fun _ => none) mixed (by decide +kernel) (sub_none _) ?_ | fail))
      refine X_lpF (fun i => i = 11 ∨ (75 ≤ i ∧ i ≤ 96)) (fun m T g => ∃ (mt : List (ByteArray × Option Tb)), m ≤ x.tables.length ∧ T 11 = I ((m : Int) - 1) ∧ Sub h g ∧ MapsA g b1 b2 ma mt ∧ MtIs mt (x.tables.drop m ++ tabsL (l.drop (k + 1)))) x.tables.length ⟨mt, Nat.le_refl _, by simp [go_sem], hsub, ⟨o1, o2, ho1, ho2, hm1, hm2⟩, ⟨fun nm => by simp [hmt.out nm]⟩⟩ ?_
      clear hsub ho1 ho2 hm1 hm2 hmt o1 o2
      rintro J3 hJ3 m T3 g3 hfr3 ⟨mt, hm, t11, hsub, ⟨o1, o2, ho1, ho2, hm1, hm2⟩, hmt⟩
      rcases m with _ | m
      · rw [List.drop_zero] at hmt
        (repeat' (first | simp [go_sem, X_region, *] | simp (disch := omega) only [om, *] | ((first | refine XC_split ?_ ?_ | refine XG_true ?_ ?_ | refine XG_false ?_ ?_ | refine XRg_true ?_ ?_ | refine XRg_false ?_ ?_) <;> intro hc <;> (try simp only [bl] at hc) <;> (try (exfalso; omega))) | refine XD_w [] [] [] (fun _ => none) mixed (by decide +kernel) (sub_none _) ?_ | fail))
        refine ⟨_, Nat.lt_succ_self _, hJ.out _ _ _ ⟨?_, ma, mt, by omega, by simp [go_sem, *], hsub, ⟨o1, o2, ho1, ho2, hm1, hm2⟩, ⟨fun nm => by rw [hma.out nm, hd, atF]⟩, ⟨fun nm => by rw [hmt.out nm, hd]; simp [tabsL]⟩⟩⟩
        repeat (refine fr_upd (by decide) ?_)
        refine fr_in (by intro i; omega) hfr3 ?_
        repeat (refine fr_upd (by decide) ?_)
        refine fr_in (by intro i; omega) hfr2 ?_
        repeat (refine fr_upd (by decide) ?_)
        exact hfr
      · have hlt2 : m < x.tables.length := by omega
        obtain ⟨y, hy⟩ : ∃ y, x.tables[m]? = some y := ⟨_, List.getElem?_eq_getElem hlt2⟩
        have hy' : x.tables[m] = y := by rw [List.getElem?_eq_getElem hlt2] at hy; exact Option.some.inj hy
        have hmm : ((m + 1 : Nat) : Int) - 1 = (m : Int) := by omega
        rw [hmm] at t11
        have hd2 : x.tables.drop m = y :: x.tables.drop (m + 1) := by rw [List.drop_eq_getElem_cons hlt2, hy']
        (repeat' (first | simp [go_sem, X_region, *] | simp (disch := omega) only [om, *] | ((first | refine XC_split ?_ ?_ | refine XG_true ?_ ?_ | refine XG_false ?_ ?_ | refine XRg_true ?_ ?_ | refine XRg_false ?_ ?_) <;> intro hc <;> (try simp only [bl] at hc) <;> (try (exfalso; omega))) | refine XD_w [5, 9, 14, 17] [] [18] (fun _ => none) mixed (by decide +kernel) (sub_none _) ?_ | fail))
        refine X_mapUpdate (k := y.name) (v := some y) hm2 ho2 (by simp [go_sem]) (by simp [go_sem]) (by simp [go_sem]) und121 (hq _) hkt fun ob' hm2' => ?_
        (repeat' (first | simp [go_sem, X_region, *] | simp (disch := omega) only [om, *] | ((first | refine XC_split ?_ ?_ | refine XG_true ?_ ?_ | refine XG_false ?_ ?_ | refine XRg_true ?_ ?_ | refine XRg_false ?_ ?_) <;> intro hc <;> (try simp only [bl] at hc) <;> (try (exfalso; omega))) | refine XD_w [] [] [] (fun _ => none) mixed (by decide +kernel) (sub_none _) ?_ | fail))
        refine ⟨_, Nat.lt_succ_self _, hJ3.out _ _ _ ⟨(by (repeat (refine fr_upd (by decide) ?_)); exact hfr3), mset mt y.name (some y), by omega, by simp [go_sem, *], Sub.upd hb2 hsub, ⟨o1, ob', by rw [upd_ne _ _ n2]; exact ho1, upd_same _ _ _, hm1, hm2'⟩, ⟨fun nm => ?_⟩⟩⟩
        rw [mget_mset, hmt.out nm, hd2, List.cons_append, findF]
        by_cases hnm : nm = y.name
        · rw [if_pos hnm, if_pos hnm.symm]; rfl
        · rw [if_neg hnm, if_neg (fun e => hnm e.symm)]
    · have hlt2 : m < x.attrs.length := by omega
      obtain ⟨y, hy⟩ : ∃ y, x.attrs[m]? = some y := ⟨_, List.getElem?_eq_getElem hlt2⟩
      have hy' : x.attrs[m] = y := by rw [List.getElem?_eq_getElem hlt2] at hy; exact Option.some.inj hy
      have hmm : ((m + 1 : Nat) : Int) - 1 = (m : Int) := by omega
      rw [hmm] at t10
      have hd2 : x.attrs.drop m = y :: x.attrs.drop (m + 1) := by rw [List.drop_eq_getElem_cons hlt2, hy']
      (repeat' (first | simp [go_sem, X_region, *] | simp (disch := omega) only [om, *] | ((first | refine XC_split ?_ ?_ | refine XG_true ?_ ?_ | refine XG_false ?_ ?_ | refine XRg_true ?_ ?_ | refine XRg_false ?_ ?_) <;> intro hc <;> (try simp only [bl] at hc) <;> (try (exfalso; omega))) | refine XD_w [5, 9, 14, 18] [] [19] (fun _ => none) mixed (by decide +kernel) (sub_none _) ?_ | fail))
      refine X_mapUpdate (k := y.name) (v := y.kind) hm1 ho1 (by simp [go_sem]) (by simp [go_sem]) (by simp [go_sem]) und120 (hq _) hkt fun ob' hm1' => ?_
      (repeat' (first | simp [go_sem, X_region, *] | simp (disch := omega) only [om, *] | ((first | refine XC_split ?_ ?_ | refine XG_true ?_ ?_ | refine XG_false ?_ ?_ | refine XRg_true ?_ ?_ | refine XRg_false ?_ ?_) <;> intro hc <;> (try simp only [bl] at hc) <;> (try (exfalso; omega))) | refine XD_w [] [] [] (fun _ => none) mixed (by decide +kernel) (sub_none _) ?_ | fail))
      refine ⟨_, Nat.lt_succ_self _, hJ2.out _ _ _ ⟨(by (repeat (refine fr_upd (by decide) ?_)); exact hfr2), mset ma y.name y.kind, by omega, by simp [go_sem, *], Sub.upd hb1 hsub, ⟨ob', o2, upd_same _ _ _, by rw [upd_ne _ _ n1]; exact ho2, hm1', hm2⟩, ⟨fun nm => ?_⟩⟩⟩
      rw [mget_mset, hma.out nm, hd2, atIn]
      by_cases hnm : nm = y.name
      · rw [if_pos hnm, if_pos hnm.symm, Option.some_or]
      · rw [if_neg hnm, if_neg (fun e => hnm e.symm)]
end Go.Proofs.YtmalhikcdideoaaDoor

set_option linter.unusedVariables false
set_option linter.unusedSimpArgs false
namespace Go.Proofs.YtmalhikcdideoaaDoor
open Go Sl
attribute [local irreducible] LpQ XR XRo XRg XRQ putQ XFv XL XW2 wQ putW X XO XOp XH XHo XW SeqQ BlkQ XOQ XHQ NrmQ XC XM XG XHM XHG XD CallK
/-- A table, told: its name, from, to, slices, and its steps. -/
abbrev encTb (nm : AV) (fr to : Int) (sl : Bool) (st : AV) : AV := aggL [nm, I fr, I to, B sl, st]
abbrev encNd (op : Int) (kids : AV) (kd n : Int) (nm : AV) : AV := aggL [I op, kids, I kd, I n, nm]
theorem either_sl {h : Hp} {f : Nat → Nat → AV} (k : Int) (xs : List Int) (hl : xs.length ≤ 1000) (hf : f = fun i j => ((xs.map fun x (_ : Nat) => I x)[i]?.getD fun _ => .any) j) :
    PureAt Tryd.prog h 102 [I k, .sl 1 xs.length f] (B (eitherB k xs)) := by
  refine Pure.lend (either_ok k xs) (.cons (Lend.refl _) (.cons (Lend.sl fun i hi j hj => ?_) .nil)) trivial
  obtain rfl : j = 0 := by omega
  rw [hf]
  simp [hi, cI]
theorem either1 (k x : Int) : eitherB k [x] = decide (k = x ∨ k = 0) := by simp [eitherB, Bool.eq_iff_iff]
theorem row1 {h : Hp} {b : Nat} {ob : Ob} (k x : Int) (hb : h b = some ob) (h1 : ob.s = 1) (h2 : ob.n = 1) (hf : ob.f = fun i j => (([x].map fun x (_ : Nat) => I x)[i]?.getD fun _ => .any) j) :
    PureAt Tryd.prog h 102 [I k, .row b 1 0 1] (B (decide (k = x ∨ k = 0))) := by
  rw [← either1]
  exact either_lit k [x] (by simp) hb h1 h2 hf
theorem sl1 {h : Hp} {f : Nat → Nat → AV} (k x : Int) (hf : f = fun i j => (([x].map fun x (_ : Nat) => I x)[i]?.getD fun _ => .any) j) :
    PureAt Tryd.prog h 102 [I k, .sl 1 1 f] (B (decide (k = x ∨ k = 0))) := by
  rw [← either1]
  exact either_sl k [x] (by simp) hf
def kindF (op nk a b c fr to : Int) : Int × Bool :=
  if op = 0 then (nk, true)
  else if op = 4 then (1, decide (a = 1 ∨ a = 0))
  else if op = 5 ∨ op = 6 then (1, decide ((a = 1 ∨ a = 0) ∧ (b = 1 ∨ b = 0)))
  else if op = 9 then (1, (joinK a b).2)
  else if op = 7 ∨ op = 8 then (1, (joinK a b).2 && decide ((joinK a b).1 ≠ 1))
  else if op = 13 ∨ op = 14 then ((joinK a b).1, (joinK a b).2 && decide ((joinK a b).1 ≠ 1))
  else if op = 10 ∨ op = 11 then sumK op a b
  else if op = 12 then productK a b
  else if op = 15 then ((joinK b c).1, (joinK b c).2 && decide (a = 1 ∨ a = 0))
  else if op = 16 then (to, decide (a = fr ∨ a = 0))
  else if op = 17 then (2, decide (a = 2 ∨ a = 0))
  else (5, decide ((a = 4 ∨ a = 0) ∧ (b = 4 ∨ b = 0)))
section
variable (kids nm tn st : AV) (nk n a b c fr to : Int) (sl : Bool)
theorem kind_0 : Pure Tryd.prog 75 [encNd 0 kids nk n nm, encL 1 cI [], encTb tn fr to sl st] (tup2 (I (kindF 0 nk a b c fr to).1) (B (kindF 0 nk a b c fr to).2)) := by
  intro h; refine callK_body Tryd.func75 rfl (by rw [nt75]; simp) ?_; rw [nt75, rs75]
  ((repeat' (first | simp [go_sem, X_region, *] | simp (disch := omega) only [om, *] | ((first | refine XC_split ?_ ?_ | refine XG_true ?_ ?_ | refine XG_false ?_ ?_ | refine XRg_true ?_ ?_ | refine XRg_false ?_ ?_) <;> intro hc <;> (try simp only [bl] at hc) <;> (try (exfalso; omega))) | refine XD_w [] [] [] (fun _ => none) mixed (by decide +kernel) (sub_none _) ?_ | (intro bk hbk; (try simp only [go_sem] at hbk)))); all_goals (refine Wk.fin (by repeat (first | exact Sub.refl _ | refine Sub.upd (by simp [*]) ?_)) ?_; first | (simp [kindF, *]; done) | (simp only [kindF]; (repeat' (first | split | rfl | omega | (simp_all; done))); done) | (simp [kindF, *]; (repeat' (first | split | omega | (rw [Bool.eq_iff_iff]; simp; omega))); done) | (simp [kindF, *])))
theorem kind_4 : Pure Tryd.prog 75 [encNd 4 kids nk n nm, encL 1 cI [a], encTb tn fr to sl st] (tup2 (I (kindF 4 nk a b c fr to).1) (B (kindF 4 nk a b c fr to).2)) := by
  intro h; refine callK_body Tryd.func75 rfl (by rw [nt75]; simp) ?_; rw [nt75, rs75]
  ((repeat' (first | simp [go_sem, X_region, *] | simp (disch := omega) only [om, *] | ((first | refine XC_split ?_ ?_ | refine XG_true ?_ ?_ | refine XG_false ?_ ?_ | refine XRg_true ?_ ?_ | refine XRg_false ?_ ?_) <;> intro hc <;> (try simp only [bl] at hc) <;> (try (exfalso; omega))) | refine XD_w [] [] [] (fun _ => none) mixed (by decide +kernel) (sub_none _) ?_ | refine Pure.call (row1 _ _ (upd_same _ _ _) rfl rfl rfl) ?_ | refine ⟨_, Pure.at (row1 _ _ (upd_same _ _ _) rfl rfl rfl), ?_⟩ | refine ⟨_, row1 _ _ (upd_same _ _ _) rfl rfl rfl, ?_⟩ | refine PureAt.call (row1 _ _ (upd_same _ _ _) rfl rfl rfl) ?_ | (intro bk hbk; (try simp only [go_sem] at hbk)))); all_goals (refine Wk.fin (by repeat (first | exact Sub.refl _ | refine Sub.upd (by simp [*]) ?_)) ?_; first | (simp [kindF, *]; done) | (simp only [kindF]; (repeat' (first | split | rfl | omega | (simp_all; done))); done) | (simp [kindF, *]; (repeat' (first | split | omega | (rw [Bool.eq_iff_iff]; simp; omega))); done) | (simp [kindF, *])))
theorem kind_5 : Pure Tryd.prog 75 [encNd 5 kids nk n nm, encL 1 cI (a :: b :: []), encTb tn fr to sl st] (tup2 (I (kindF 5 nk a b c fr to).1) (B (kindF 5 nk a b c fr to).2)) := by
  intro h; refine callK_body Tryd.func75 rfl (by rw [nt75]; simp) ?_; rw [nt75, rs75]
  ((repeat' (first | simp [go_sem, X_region, *] | simp (disch := omega) only [om, *] | ((first | refine XC_split ?_ ?_ | refine XG_true ?_ ?_ | refine XG_false ?_ ?_ | refine XRg_true ?_ ?_ | refine XRg_false ?_ ?_) <;> intro hc <;> (try simp only [bl] at hc) <;> (try (exfalso; omega))) | refine XD_w [] [] [] (fun _ => none) mixed (by decide +kernel) (sub_none _) ?_ | refine Pure.call (row1 _ _ (upd_same _ _ _) rfl rfl rfl) ?_ | refine ⟨_, Pure.at (row1 _ _ (upd_same _ _ _) rfl rfl rfl), ?_⟩ | refine ⟨_, row1 _ _ (upd_same _ _ _) rfl rfl rfl, ?_⟩ | refine PureAt.call (row1 _ _ (upd_same _ _ _) rfl rfl rfl) ?_ | (intro bk hbk; (try simp only [go_sem] at hbk)))); all_goals (refine Wk.fin (by repeat (first | exact Sub.refl _ | refine Sub.upd (by simp [*]) ?_)) ?_; first | (simp [kindF, *]; done) | (simp only [kindF]; (repeat' (first | split | rfl | omega | (simp_all; done))); done) | (simp [kindF, *]; (repeat' (first | split | omega | (rw [Bool.eq_iff_iff]; simp; omega))); done) | (simp [kindF, *])))
theorem kind_9 : Pure Tryd.prog 75 [encNd 9 kids nk n nm, encL 1 cI (a :: b :: []), encTb tn fr to sl st] (tup2 (I (kindF 9 nk a b c fr to).1) (B (kindF 9 nk a b c fr to).2)) := by
  intro h; refine callK_body Tryd.func75 rfl (by rw [nt75]; simp) ?_; rw [nt75, rs75]
  ((repeat' (first | simp [go_sem, X_region, *] | simp (disch := omega) only [om, *] | ((first | refine XC_split ?_ ?_ | refine XG_true ?_ ?_ | refine XG_false ?_ ?_ | refine XRg_true ?_ ?_ | refine XRg_false ?_ ?_) <;> intro hc <;> (try simp only [bl] at hc) <;> (try (exfalso; omega))) | refine XD_w [] [] [] (fun _ => none) mixed (by decide +kernel) (sub_none _) ?_ | refine Pure.call (join_ok _ _) ?_ | refine ⟨_, Pure.at (join_ok _ _), ?_⟩ | refine ⟨_, join_ok _ _, ?_⟩ | refine PureAt.call (join_ok _ _) ?_ | (intro bk hbk; (try simp only [go_sem] at hbk)))); all_goals (refine Wk.fin (by repeat (first | exact Sub.refl _ | refine Sub.upd (by simp [*]) ?_)) ?_; first | (simp [kindF, *]; done) | (simp only [kindF]; (repeat' (first | split | rfl | omega | (simp_all; done))); done) | (simp [kindF, *]; (repeat' (first | split | omega | (rw [Bool.eq_iff_iff]; simp; omega))); done) | (simp [kindF, *])))
theorem kind_16 : Pure Tryd.prog 75 [encNd 16 kids nk n nm, encL 1 cI [a], encTb tn fr to sl st] (tup2 (I (kindF 16 nk a b c fr to).1) (B (kindF 16 nk a b c fr to).2)) := by
  intro h; refine callK_body Tryd.func75 rfl (by rw [nt75]; simp) ?_; rw [nt75, rs75]
  ((repeat' (first | simp [go_sem, X_region, *] | simp (disch := omega) only [om, *] | ((first | refine XC_split ?_ ?_ | refine XG_true ?_ ?_ | refine XG_false ?_ ?_ | refine XRg_true ?_ ?_ | refine XRg_false ?_ ?_) <;> intro hc <;> (try simp only [bl] at hc) <;> (try (exfalso; omega))) | refine XD_w [] [] [] (fun _ => none) mixed (by decide +kernel) (sub_none _) ?_ | refine Pure.call (sl1 _ _ rfl) ?_ | refine ⟨_, Pure.at (sl1 _ _ rfl), ?_⟩ | refine ⟨_, sl1 _ _ rfl, ?_⟩ | refine PureAt.call (sl1 _ _ rfl) ?_ | (intro bk hbk; (try simp only [go_sem] at hbk)))); all_goals (refine Wk.fin (by repeat (first | exact Sub.refl _ | refine Sub.upd (by simp [*]) ?_)) ?_; first | (simp [kindF, *]; done) | (simp only [kindF]; (repeat' (first | split | rfl | omega | (simp_all; done))); done) | (simp [kindF, *]; (repeat' (first | split | omega | (rw [Bool.eq_iff_iff]; simp; omega))); done) | (simp [kindF, *])))
theorem kind_12 : Pure Tryd.prog 75 [encNd 12 kids nk n nm, encL 1 cI (a :: b :: []), encTb tn fr to sl st] (tup2 (I (kindF 12 nk a b c fr to).1) (B (kindF 12 nk a b c fr to).2)) := by
  intro h; refine callK_body Tryd.func75 rfl (by rw [nt75]; simp) ?_; rw [nt75, rs75]
  ((repeat' (first | simp [go_sem, X_region, *] | simp (disch := omega) only [om, *] | ((first | refine XC_split ?_ ?_ | refine XG_true ?_ ?_ | refine XG_false ?_ ?_ | refine XRg_true ?_ ?_ | refine XRg_false ?_ ?_) <;> intro hc <;> (try simp only [bl] at hc) <;> (try (exfalso; omega))) | refine XD_w [] [] [] (fun _ => none) mixed (by decide +kernel) (sub_none _) ?_ | refine Pure.call (product_ok _ _) ?_ | refine ⟨_, Pure.at (product_ok _ _), ?_⟩ | refine ⟨_, product_ok _ _, ?_⟩ | refine PureAt.call (product_ok _ _) ?_ | (intro bk hbk; (try simp only [go_sem] at hbk)))); all_goals (refine Wk.fin (by repeat (first | exact Sub.refl _ | refine Sub.upd (by simp [*]) ?_)) ?_; first | (simp [kindF, *]; done) | (simp only [kindF]; (repeat' (first | split | rfl | omega | (simp_all; done))); done) | (simp [kindF, *]; (repeat' (first | split | omega | (rw [Bool.eq_iff_iff]; simp; omega))); done) | (simp [kindF, *])))
theorem kind_15 : Pure Tryd.prog 75 [encNd 15 kids nk n nm, encL 1 cI (a :: b :: c :: []), encTb tn fr to sl st] (tup2 (I (kindF 15 nk a b c fr to).1) (B (kindF 15 nk a b c fr to).2)) := by
  intro h; refine callK_body Tryd.func75 rfl (by rw [nt75]; simp) ?_; rw [nt75, rs75]
  ((repeat' (first | simp [go_sem, X_region, *] | simp (disch := omega) only [om, *] | ((first | refine XC_split ?_ ?_ | refine XG_true ?_ ?_ | refine XG_false ?_ ?_ | refine XRg_true ?_ ?_ | refine XRg_false ?_ ?_) <;> intro hc <;> (try simp only [bl] at hc) <;> (try (exfalso; omega))) | refine XD_w [] [] [] (fun _ => none) mixed (by decide +kernel) (sub_none _) ?_ | refine Pure.call (join_ok _ _) ?_ | refine ⟨_, Pure.at (join_ok _ _), ?_⟩ | refine ⟨_, join_ok _ _, ?_⟩ | refine PureAt.call (join_ok _ _) ?_ | refine Pure.call (row1 _ _ (upd_same _ _ _) rfl rfl rfl) ?_ | refine ⟨_, Pure.at (row1 _ _ (upd_same _ _ _) rfl rfl rfl), ?_⟩ | refine ⟨_, row1 _ _ (upd_same _ _ _) rfl rfl rfl, ?_⟩ | refine PureAt.call (row1 _ _ (upd_same _ _ _) rfl rfl rfl) ?_ | (intro bk hbk; (try simp only [go_sem] at hbk)))); all_goals (refine Wk.fin (by repeat (first | exact Sub.refl _ | refine Sub.upd (by simp [*]) ?_)) ?_; first | (simp [kindF, *]; done) | (simp only [kindF]; (repeat' (first | split | rfl | omega | (simp_all; done))); done) | (simp [kindF, *]; (repeat' (first | split | omega | (rw [Bool.eq_iff_iff]; simp; omega))); done) | (simp [kindF, *])))
theorem kind_6 : Pure Tryd.prog 75 [encNd 6 kids nk n nm, encL 1 cI (a :: b :: []), encTb tn fr to sl st] (tup2 (I (kindF 6 nk a b c fr to).1) (B (kindF 6 nk a b c fr to).2)) := by
  intro h; refine callK_body Tryd.func75 rfl (by rw [nt75]; simp) ?_; rw [nt75, rs75]
  ((repeat' (first | simp [go_sem, X_region, *] | simp (disch := omega) only [om, *] | ((first | refine XC_split ?_ ?_ | refine XG_true ?_ ?_ | refine XG_false ?_ ?_ | refine XRg_true ?_ ?_ | refine XRg_false ?_ ?_) <;> intro hc <;> (try simp only [bl] at hc) <;> (try (exfalso; omega))) | refine XD_w [] [] [] (fun _ => none) mixed (by decide +kernel) (sub_none _) ?_ | refine Pure.call (row1 _ _ (upd_same _ _ _) rfl rfl rfl) ?_ | refine ⟨_, Pure.at (row1 _ _ (upd_same _ _ _) rfl rfl rfl), ?_⟩ | refine ⟨_, row1 _ _ (upd_same _ _ _) rfl rfl rfl, ?_⟩ | refine PureAt.call (row1 _ _ (upd_same _ _ _) rfl rfl rfl) ?_ | (intro bk hbk; (try simp only [go_sem] at hbk)))); all_goals (refine Wk.fin (by repeat (first | exact Sub.refl _ | refine Sub.upd (by simp [*]) ?_)) ?_; first | (simp [kindF, *]; done) | (simp only [kindF]; (repeat' (first | split | rfl | omega | (simp_all; done))); done) | (simp [kindF, *]; (repeat' (first | split | omega | (rw [Bool.eq_iff_iff]; simp; omega))); done) | (simp [kindF, *])))
theorem kind_7 : Pure Tryd.prog 75 [encNd 7 kids nk n nm, encL 1 cI (a :: b :: []), encTb tn fr to sl st] (tup2 (I (kindF 7 nk a b c fr to).1) (B (kindF 7 nk a b c fr to).2)) := by
  intro h; refine callK_body Tryd.func75 rfl (by rw [nt75]; simp) ?_; rw [nt75, rs75]
  ((repeat' (first | simp [go_sem, X_region, *] | simp (disch := omega) only [om, *] | ((first | refine XC_split ?_ ?_ | refine XG_true ?_ ?_ | refine XG_false ?_ ?_ | refine XRg_true ?_ ?_ | refine XRg_false ?_ ?_) <;> intro hc <;> (try simp only [bl] at hc) <;> (try (exfalso; omega))) | refine XD_w [] [] [] (fun _ => none) mixed (by decide +kernel) (sub_none _) ?_ | refine Pure.call (join_ok _ _) ?_ | refine ⟨_, Pure.at (join_ok _ _), ?_⟩ | refine ⟨_, join_ok _ _, ?_⟩ | refine PureAt.call (join_ok _ _) ?_ | (intro bk hbk; (try simp only [go_sem] at hbk)))); all_goals (refine Wk.fin (by repeat (first | exact Sub.refl _ | refine Sub.upd (by simp [*]) ?_)) ?_; first | (simp [kindF, *]; done) | (simp only [kindF]; (repeat' (first | split | rfl | omega | (simp_all; done))); done) | (simp [kindF, *]; (repeat' (first | split | omega | (rw [Bool.eq_iff_iff]; simp; omega))); done) | (simp [kindF, *])))
theorem kind_8 : Pure Tryd.prog 75 [encNd 8 kids nk n nm, encL 1 cI (a :: b :: []), encTb tn fr to sl st] (tup2 (I (kindF 8 nk a b c fr to).1) (B (kindF 8 nk a b c fr to).2)) := by
  intro h; refine callK_body Tryd.func75 rfl (by rw [nt75]; simp) ?_; rw [nt75, rs75]
  ((repeat' (first | simp [go_sem, X_region, *] | simp (disch := omega) only [om, *] | ((first | refine XC_split ?_ ?_ | refine XG_true ?_ ?_ | refine XG_false ?_ ?_ | refine XRg_true ?_ ?_ | refine XRg_false ?_ ?_) <;> intro hc <;> (try simp only [bl] at hc) <;> (try (exfalso; omega))) | refine XD_w [] [] [] (fun _ => none) mixed (by decide +kernel) (sub_none _) ?_ | refine Pure.call (join_ok _ _) ?_ | refine ⟨_, Pure.at (join_ok _ _), ?_⟩ | refine ⟨_, join_ok _ _, ?_⟩ | refine PureAt.call (join_ok _ _) ?_ | (intro bk hbk; (try simp only [go_sem] at hbk)))); all_goals (refine Wk.fin (by repeat (first | exact Sub.refl _ | refine Sub.upd (by simp [*]) ?_)) ?_; first | (simp [kindF, *]; done) | (simp only [kindF]; (repeat' (first | split | rfl | omega | (simp_all; done))); done) | (simp [kindF, *]; (repeat' (first | split | omega | (rw [Bool.eq_iff_iff]; simp; omega))); done) | (simp [kindF, *])))
theorem kind_13 : Pure Tryd.prog 75 [encNd 13 kids nk n nm, encL 1 cI (a :: b :: []), encTb tn fr to sl st] (tup2 (I (kindF 13 nk a b c fr to).1) (B (kindF 13 nk a b c fr to).2)) := by
  intro h; refine callK_body Tryd.func75 rfl (by rw [nt75]; simp) ?_; rw [nt75, rs75]
  ((repeat' (first | simp [go_sem, X_region, *] | simp (disch := omega) only [om, *] | ((first | refine XC_split ?_ ?_ | refine XG_true ?_ ?_ | refine XG_false ?_ ?_ | refine XRg_true ?_ ?_ | refine XRg_false ?_ ?_) <;> intro hc <;> (try simp only [bl] at hc) <;> (try (exfalso; omega))) | refine XD_w [] [] [] (fun _ => none) mixed (by decide +kernel) (sub_none _) ?_ | refine Pure.call (join_ok _ _) ?_ | refine ⟨_, Pure.at (join_ok _ _), ?_⟩ | refine ⟨_, join_ok _ _, ?_⟩ | refine PureAt.call (join_ok _ _) ?_ | (intro bk hbk; (try simp only [go_sem] at hbk)))); all_goals (refine Wk.fin (by repeat (first | exact Sub.refl _ | refine Sub.upd (by simp [*]) ?_)) ?_; first | (simp [kindF, *]; done) | (simp only [kindF]; (repeat' (first | split | rfl | omega | (simp_all; done))); done) | (simp [kindF, *]; (repeat' (first | split | omega | (rw [Bool.eq_iff_iff]; simp; omega))); done) | (simp [kindF, *])))
theorem kind_14 : Pure Tryd.prog 75 [encNd 14 kids nk n nm, encL 1 cI (a :: b :: []), encTb tn fr to sl st] (tup2 (I (kindF 14 nk a b c fr to).1) (B (kindF 14 nk a b c fr to).2)) := by
  intro h; refine callK_body Tryd.func75 rfl (by rw [nt75]; simp) ?_; rw [nt75, rs75]
  ((repeat' (first | simp [go_sem, X_region, *] | simp (disch := omega) only [om, *] | ((first | refine XC_split ?_ ?_ | refine XG_true ?_ ?_ | refine XG_false ?_ ?_ | refine XRg_true ?_ ?_ | refine XRg_false ?_ ?_) <;> intro hc <;> (try simp only [bl] at hc) <;> (try (exfalso; omega))) | refine XD_w [] [] [] (fun _ => none) mixed (by decide +kernel) (sub_none _) ?_ | refine Pure.call (join_ok _ _) ?_ | refine ⟨_, Pure.at (join_ok _ _), ?_⟩ | refine ⟨_, join_ok _ _, ?_⟩ | refine PureAt.call (join_ok _ _) ?_ | (intro bk hbk; (try simp only [go_sem] at hbk)))); all_goals (refine Wk.fin (by repeat (first | exact Sub.refl _ | refine Sub.upd (by simp [*]) ?_)) ?_; first | (simp [kindF, *]; done) | (simp only [kindF]; (repeat' (first | split | rfl | omega | (simp_all; done))); done) | (simp [kindF, *]; (repeat' (first | split | omega | (rw [Bool.eq_iff_iff]; simp; omega))); done) | (simp [kindF, *])))
theorem kind_10 : Pure Tryd.prog 75 [encNd 10 kids nk n nm, encL 1 cI (a :: b :: []), encTb tn fr to sl st] (tup2 (I (kindF 10 nk a b c fr to).1) (B (kindF 10 nk a b c fr to).2)) := by
  intro h; refine callK_body Tryd.func75 rfl (by rw [nt75]; simp) ?_; rw [nt75, rs75]
  ((repeat' (first | simp [go_sem, X_region, *] | simp (disch := omega) only [om, *] | ((first | refine XC_split ?_ ?_ | refine XG_true ?_ ?_ | refine XG_false ?_ ?_ | refine XRg_true ?_ ?_ | refine XRg_false ?_ ?_) <;> intro hc <;> (try simp only [bl] at hc) <;> (try (exfalso; omega))) | refine XD_w [] [] [] (fun _ => none) mixed (by decide +kernel) (sub_none _) ?_ | refine Pure.call (sum_ok _ _ _) ?_ | refine ⟨_, Pure.at (sum_ok _ _ _), ?_⟩ | refine ⟨_, sum_ok _ _ _, ?_⟩ | refine PureAt.call (sum_ok _ _ _) ?_ | (intro bk hbk; (try simp only [go_sem] at hbk)))); all_goals (refine Wk.fin (by repeat (first | exact Sub.refl _ | refine Sub.upd (by simp [*]) ?_)) ?_; first | (simp [kindF, *]; done) | (simp only [kindF]; (repeat' (first | split | rfl | omega | (simp_all; done))); done) | (simp [kindF, *]; (repeat' (first | split | omega | (rw [Bool.eq_iff_iff]; simp; omega))); done) | (simp [kindF, *])))
theorem kind_11 : Pure Tryd.prog 75 [encNd 11 kids nk n nm, encL 1 cI (a :: b :: []), encTb tn fr to sl st] (tup2 (I (kindF 11 nk a b c fr to).1) (B (kindF 11 nk a b c fr to).2)) := by
  intro h; refine callK_body Tryd.func75 rfl (by rw [nt75]; simp) ?_; rw [nt75, rs75]
  ((repeat' (first | simp [go_sem, X_region, *] | simp (disch := omega) only [om, *] | ((first | refine XC_split ?_ ?_ | refine XG_true ?_ ?_ | refine XG_false ?_ ?_ | refine XRg_true ?_ ?_ | refine XRg_false ?_ ?_) <;> intro hc <;> (try simp only [bl] at hc) <;> (try (exfalso; omega))) | refine XD_w [] [] [] (fun _ => none) mixed (by decide +kernel) (sub_none _) ?_ | refine Pure.call (sum_ok _ _ _) ?_ | refine ⟨_, Pure.at (sum_ok _ _ _), ?_⟩ | refine ⟨_, sum_ok _ _ _, ?_⟩ | refine PureAt.call (sum_ok _ _ _) ?_ | (intro bk hbk; (try simp only [go_sem] at hbk)))); all_goals (refine Wk.fin (by repeat (first | exact Sub.refl _ | refine Sub.upd (by simp [*]) ?_)) ?_; first | (simp [kindF, *]; done) | (simp only [kindF]; (repeat' (first | split | rfl | omega | (simp_all; done))); done) | (simp [kindF, *]; (repeat' (first | split | omega | (rw [Bool.eq_iff_iff]; simp; omega))); done) | (simp [kindF, *])))
theorem kind_17 : Pure Tryd.prog 75 [encNd 17 kids nk n nm, encL 1 cI [a], encTb tn fr to sl st] (tup2 (I (kindF 17 nk a b c fr to).1) (B (kindF 17 nk a b c fr to).2)) := by
  intro h; refine callK_body Tryd.func75 rfl (by rw [nt75]; simp) ?_; rw [nt75, rs75]
  ((repeat' (first | simp [go_sem, X_region, *] | simp (disch := omega) only [om, *] | ((first | refine XC_split ?_ ?_ | refine XG_true ?_ ?_ | refine XG_false ?_ ?_ | refine XRg_true ?_ ?_ | refine XRg_false ?_ ?_) <;> intro hc <;> (try simp only [bl] at hc) <;> (try (exfalso; omega))) | refine XD_w [] [] [] (fun _ => none) mixed (by decide +kernel) (sub_none _) ?_ | refine Pure.call (row1 _ _ (upd_same _ _ _) rfl rfl rfl) ?_ | refine ⟨_, Pure.at (row1 _ _ (upd_same _ _ _) rfl rfl rfl), ?_⟩ | refine ⟨_, row1 _ _ (upd_same _ _ _) rfl rfl rfl, ?_⟩ | refine PureAt.call (row1 _ _ (upd_same _ _ _) rfl rfl rfl) ?_ | (intro bk hbk; (try simp only [go_sem] at hbk)))); all_goals (refine Wk.fin (by repeat (first | exact Sub.refl _ | refine Sub.upd (by simp [*]) ?_)) ?_; first | (simp [kindF, *]; done) | (simp only [kindF]; (repeat' (first | split | rfl | omega | (simp_all; done))); done) | (simp [kindF, *]; (repeat' (first | split | omega | (rw [Bool.eq_iff_iff]; simp; omega))); done) | (simp [kindF, *])))
theorem kind_18 : Pure Tryd.prog 75 [encNd 18 kids nk n nm, encL 1 cI (a :: b :: []), encTb tn fr to sl st] (tup2 (I (kindF 18 nk a b c fr to).1) (B (kindF 18 nk a b c fr to).2)) := by
  intro h; refine callK_body Tryd.func75 rfl (by rw [nt75]; simp) ?_; rw [nt75, rs75]
  ((repeat' (first | simp [go_sem, X_region, *] | simp (disch := omega) only [om, *] | ((first | refine XC_split ?_ ?_ | refine XG_true ?_ ?_ | refine XG_false ?_ ?_ | refine XRg_true ?_ ?_ | refine XRg_false ?_ ?_) <;> intro hc <;> (try simp only [bl] at hc) <;> (try (exfalso; omega))) | refine XD_w [] [] [] (fun _ => none) mixed (by decide +kernel) (sub_none _) ?_ | refine Pure.call (row1 _ _ (upd_same _ _ _) rfl rfl rfl) ?_ | refine ⟨_, Pure.at (row1 _ _ (upd_same _ _ _) rfl rfl rfl), ?_⟩ | refine ⟨_, row1 _ _ (upd_same _ _ _) rfl rfl rfl, ?_⟩ | refine PureAt.call (row1 _ _ (upd_same _ _ _) rfl rfl rfl) ?_ | (intro bk hbk; (try simp only [go_sem] at hbk)))); all_goals (refine Wk.fin (by repeat (first | exact Sub.refl _ | refine Sub.upd (by simp [*]) ?_)) ?_; first | (simp [kindF, *]; done) | (simp only [kindF]; (repeat' (first | split | rfl | omega | (simp_all; done))); done) | (simp [kindF, *]; (repeat' (first | split | omega | (rw [Bool.eq_iff_iff]; simp; omega))); done) | (simp [kindF, *])))
end
def kindP (op nk fr to : Int) (k : List Int) : Bool := (kindF op nk (k.getD 0 0) (k.getD 1 0) (k.getD 2 0) fr to).2
section
variable (kids nm tn st : AV) (nk nn : Int) (fr to : Int) (sl : Bool)
theorem kind_all {op : Int} (hop : op = 0 ∨ isOp op) {l : List Int} (hl : (l.length : Int) = ar op) :
    ∃ q : Int, Pure Tryd.prog 75 [encNd op kids nk nn nm, encL 1 cI l, encTb tn fr to sl st] (tup2 (I q) (B (kindP op nk fr to l))) := by
  rcases hop with rfl | hop
  · obtain rfl := len0 (show (l.length : Int) = 0 by rw [hl]; decide)
    exact ⟨_, kind_0 kids nm tn st nk nn 0 0 0 fr to sl⟩
  · have t1 : ar op = 1 → ∃ a, l = [a] := fun h => len1 (by rw [hl, h])
    have t2 : ar op = 2 → ∃ a b, l = [a, b] := fun h => len2 (by rw [hl, h])
    have t3 : ar op = 3 → ∃ a b c, l = [a, b, c] := fun h => len3 (by rw [hl, h])
    rcases hop.cases with rfl | rfl | rfl | rfl | rfl | rfl | rfl | rfl | rfl | rfl | rfl | rfl | rfl | rfl | rfl
    · obtain ⟨a, rfl⟩ := t1 (by decide); exact ⟨_, kind_4 kids nm tn st nk nn a 0 0 fr to sl⟩
    · obtain ⟨a, b, rfl⟩ := t2 (by decide); exact ⟨_, kind_5 kids nm tn st nk nn a b 0 fr to sl⟩
    · obtain ⟨a, b, rfl⟩ := t2 (by decide); exact ⟨_, kind_6 kids nm tn st nk nn a b 0 fr to sl⟩
    · obtain ⟨a, b, rfl⟩ := t2 (by decide); exact ⟨_, kind_7 kids nm tn st nk nn a b 0 fr to sl⟩
    · obtain ⟨a, b, rfl⟩ := t2 (by decide); exact ⟨_, kind_8 kids nm tn st nk nn a b 0 fr to sl⟩
    · obtain ⟨a, b, rfl⟩ := t2 (by decide); exact ⟨_, kind_9 kids nm tn st nk nn a b 0 fr to sl⟩
    · obtain ⟨a, b, rfl⟩ := t2 (by decide); exact ⟨_, kind_10 kids nm tn st nk nn a b 0 fr to sl⟩
    · obtain ⟨a, b, rfl⟩ := t2 (by decide); exact ⟨_, kind_11 kids nm tn st nk nn a b 0 fr to sl⟩
    · obtain ⟨a, b, rfl⟩ := t2 (by decide); exact ⟨_, kind_12 kids nm tn st nk nn a b 0 fr to sl⟩
    · obtain ⟨a, b, rfl⟩ := t2 (by decide); exact ⟨_, kind_13 kids nm tn st nk nn a b 0 fr to sl⟩
    · obtain ⟨a, b, rfl⟩ := t2 (by decide); exact ⟨_, kind_14 kids nm tn st nk nn a b 0 fr to sl⟩
    · obtain ⟨a, b, c, rfl⟩ := t3 (by decide); exact ⟨_, kind_15 kids nm tn st nk nn a b c fr to sl⟩
    · obtain ⟨a, rfl⟩ := t1 (by decide); exact ⟨_, kind_16 kids nm tn st nk nn a 0 0 fr to sl⟩
    · obtain ⟨a, rfl⟩ := t1 (by decide); exact ⟨_, kind_17 kids nm tn st nk nn a 0 0 fr to sl⟩
    · obtain ⟨a, b, rfl⟩ := t2 (by decide); exact ⟨_, kind_18 kids nm tn st nk nn a b 0 fr to sl⟩
/-- On a slice made by appending. -/
theorem kind_own {op : Int} (hop : op = 0 ∨ isOp op) {l : List Int} (hl : (l.length : Int) = ar op) : ∃ q : Int, ∀ {h0 h : Hp} {a : AV}, Own h0 h a 3 1 l.length (cellsL cI l) →
    PureAt Tryd.prog h 75 [encNd op kids nk nn nm, a, encTb tn fr to sl st] (tup2 (I q) (B (kindP op nk fr to l))) := by
  obtain ⟨q, hq⟩ := kind_all kids nm tn st nk nn fr to sl hop hl
  have hl3 : l.length ≤ 3 := by
    have : ar op ≤ 3 := by unfold ar; repeat' split <;> omega
    omega
  exact ⟨q, fun o => Pure.lend hq (.cons (Lend.refl _) (.cons (o.lend (by omega)) (.cons (Lend.refl _) .nil))) (Flat.tup2 (Flat.v _) (Flat.v _))⟩
end
end Go.Proofs.YtmalhikcdideoaaDoor

set_option linter.unusedVariables false
set_option linter.unusedSimpArgs false
namespace Go.Proofs.YtmalhikcdideoaaDoor
open Go Sl
attribute [local irreducible] LpQ XR XRo XRg XRQ putQ XFv XL XW2 wQ putW X XO XOp XH XHo XW SeqQ BlkQ XOQ XHQ NrmQ XC XM XG XHM XHG XD CallK
open Go.RowKit
/-- What both looks know when they have gone through some nodes. -/
structure Both (N : Nat) (u : List Int) (m : List (Int × Bool)) : Prop where
  len : u.length = N
  at_ : ∀ k : Nat, k < N → u[k]? = some (if mget m (k : Int) = some true then 1 else 0)
  all : ∀ k, mget m k = none ∨ mget m k = some true
  sum : (m.length : Int) = u.sum
  last : ∀ k : Int, (N : Int) - 1 ≤ k → mget m k = none
theorem mset_len {κ ν : Type} [DecidableEq κ] : ∀ (m : List (κ × ν)) (k : κ) (v : ν), mget m k = none → (mset m k v).length = m.length + 1
  | [], k, v, _ => rfl
  | x :: r, k, v, h => by
    unfold mget at h
    by_cases hk : k = x.1
    · rw [if_pos hk] at h; cases h
    · rw [if_neg hk] at h
      unfold mset
      rw [if_neg hk, List.length_cons, mset_len r k v h, List.length_cons]
theorem sum_set : ∀ (u : List Int) (k : Nat) (a b : Int), u[k]? = some a → (u.set k b).sum = u.sum - a + b
  | [], k, a, b, h => by simp at h
  | x :: r, 0, a, b, h => by simp at h; subst h; simp [List.sum_cons]; omega
  | x :: r, k + 1, a, b, h => by
    have := sum_set r k a b (by simpa using h)
    rw [List.set_cons_succ, List.sum_cons, List.sum_cons, this]
    omega
theorem both_use (N : Nat) : ∀ (ks u : List Int) (m : List (Int × Bool)), Both N u m → (∀ k ∈ ks, 0 ≤ k ∧ k < (N : Int) - 1) →
    (upF m ks = none ∧ useF u ks = none) ∨ ∃ m' u', upF m ks = some m' ∧ useF u ks = some u' ∧ Both N u' m'
  | [], u, m, hb, _ => .inr ⟨m, u, rfl, rfl, hb⟩
  | k :: r, u, m, hb, hk => by
    have h1 := hk k (List.mem_cons_self ..)
    obtain ⟨n, rfl⟩ : ∃ n : Nat, k = n := ⟨k.toNat, by omega⟩
    have hn : n < N := by omega
    have hu := hb.at_ n hn
    have hg : u.getD n 0 = if mget m (n : Int) = some true then 1 else 0 := by rw [List.getD_eq_getElem?_getD, hu]; rfl
    unfold upF useF
    rw [Int.toNat_natCast, hg]
    rcases hb.all n with h2 | h2
    · rw [h2]
      have hle : ¬ ((1 : Int) < (if (none : Option Bool) = some true then 1 else 0) + 1) := by simp
      rw [if_neg hle, if_neg (by simp)]
      refine both_use N r _ _ ⟨by simp [hb.len], fun j hj => ?_, fun j => ?_, ?_, fun j hj => ?_⟩ fun j hj => hk j (List.mem_cons_of_mem _ hj)
      · rw [mget_mset, List.getElem?_set]
        by_cases hj2 : n = j
        · subst hj2; simp [hb.len, hn]
        · have e : ¬ ((j : Int) = (n : Int)) := by omega
          rw [if_neg hj2]
          simp only [if_neg e]
          exact hb.at_ j hj
      · rw [mget_mset]
        by_cases hj2 : j = n
        · rw [if_pos hj2]; exact .inr rfl
        · rw [if_neg hj2]; exact hb.all j
      · rw [mset_len _ _ _ h2, sum_set _ _ _ _ hu, h2, ← hb.sum]
        simp
      · rw [mget_mset, if_neg (by omega)]; exact hb.last j hj
    · rw [h2]
      rw [if_pos (by simp), if_pos (by simp)]
      exact .inl ⟨rfl, rfl⟩
theorem both_nodes (oneE : Nd → Nat → Int) (N : Nat) : ∀ (r : List Nd) (i : Nat) (u : List Int) (m : List (Int × Bool)), (∀ (j : Nat) (x : Nd), r[j]? = some x → oneE x (i + j) = 0 → ∀ k ∈ x.kids, 0 ≤ k ∧ k < ((i + j : Nat) : Int)) →
    i + r.length = N → Both N u m → (nodesG oneE r i m).1 = (nodesF oneE r i u).1 ∧ ((nodesF oneE r i u).1 = 0 → Both N (nodesF oneE r i u).2 (nodesG oneE r i m).2)
  | [], i, u, m, _, _, hb => ⟨rfl, fun _ => hb⟩
  | x :: r, i, u, m, hx, hi, hb => by
    unfold nodesG nodesF
    by_cases q : oneE x i = 0
    · rw [if_neg (fun h => h q), if_neg (fun h => h q)]
      have h1 := hx 0 x rfl q
      rw [List.length_cons] at hi
      rcases both_use N x.kids u m hb (fun k hk => ⟨(h1 k hk).1, by have := (h1 k hk).2; omega⟩) with ⟨e1, e2⟩ | ⟨m', u', e1, e2, hb'⟩
      · rw [e1, e2]; exact ⟨rfl, fun h => by cases h⟩
      · rw [e1, e2]
        exact both_nodes oneE N r (i + 1) u' m' (fun j y hy h => by
          have := hx (j + 1) y (by simpa using hy) (by rw [show i + (j + 1) = i + 1 + j by omega]; exact h)
          rw [show i + (j + 1) = i + 1 + j by omega] at this
          exact this) (by omega) hb'
    · rw [if_pos q, if_pos q]; exact ⟨rfl, fun h => absurd h q⟩
theorem mget_nil (k : Int) : mget ([] : List (Int × Bool)) k = none := rfl
theorem sum_ones : ∀ u : List Int, (∀ x ∈ u, x = 0 ∨ x = 1) → u.sum ≤ u.length ∧ (u.sum = u.length ↔ (u.any fun x => decide (0 = x)) = false)
  | [], _ => by simp
  | x :: r, h => by
    obtain ⟨h1, h2⟩ := sum_ones r fun y hy => h y (List.mem_cons_of_mem _ hy)
    rw [List.sum_cons, List.length_cons, List.any_cons]
    rcases h x (List.mem_cons_self ..) with rfl | rfl
    · simp; omega
    · simp only [Int.natCast_add, Int.natCast_one]
      refine ⟨by omega, ?_⟩
      have h3 : (decide ((0 : Int) = 1)) = false := by decide
      rw [h3, Bool.false_or, ← h2]
      omega
theorem sum_append1 (u : List Int) (a : Int) : (u ++ [a]).sum = u.sum + a := by
  induction u with
  | nil => simp
  | cons x r ih => rw [List.cons_append, List.sum_cons, ih, List.sum_cons]; omega
theorem tree_check (oneE : Nd → Nat → Int) (e : List Nd) (h : ∀ (i : Nat) (x : Nd), e[i]? = some x → oneE x i = 0 → ∀ k ∈ x.kids, 0 ≤ k ∧ k < (i : Int)) : treeE oneE e = chkE oneE e := by
  unfold treeE chkE
  by_cases q1 : 100 < e.length
  · rw [if_pos q1, if_pos q1]
  rw [if_neg q1, if_neg q1]
  by_cases q2 : e.length = 0
  · rw [if_pos q2, if_pos q2]
  rw [if_neg q2, if_neg q2]
  obtain ⟨n, hn⟩ : ∃ n, e.length = n + 1 := ⟨e.length - 1, by omega⟩
  have hs0 : (List.replicate e.length (0 : Int)).sum = 0 := by
    induction e.length with
    | zero => rfl
    | succ n ih => rw [List.replicate_succ, List.sum_cons, ih]; rfl
  have hb0 : Both e.length (List.replicate e.length 0) [] := ⟨by simp, fun k hk => by rw [mget_nil, List.getElem?_replicate, if_pos hk]; rfl, fun k => .inl rfl, by rw [hs0]; rfl, fun k _ => rfl⟩
  obtain ⟨h1, h2⟩ := both_nodes oneE e.length e 0 (List.replicate e.length 0) [] (fun j x hx h0 => by rw [Nat.zero_add] at h0 ⊢; exact h j x hx h0) (by omega) hb0
  rw [h1]
  by_cases q3 : (nodesF oneE e 0 (List.replicate e.length 0)).1 = 0
  case neg => rw [if_pos q3, if_pos q3]
  have n3 : ¬ ((nodesF oneE e 0 (List.replicate e.length 0)).1 ≠ 0) := fun h => h q3
  rw [if_neg n3, if_neg n3]
  have hb := h2 q3
  generalize (nodesF oneE e 0 (List.replicate e.length 0)).2 = u at *
  generalize (nodesG oneE e 0 []).2 = m at *
  have hlu : u.length = n + 1 := by rw [hb.len, hn]
  have hul : u[n]? = some 0 := by
    rw [hb.at_ n (by omega), hb.last n (by omega)]; rfl
  have hsplit : u = u.take n ++ [0] := by
    conv => lhs; rw [← List.take_append_drop n u]
    congr 1
    rw [List.drop_eq_getElem_cons (by omega), List.drop_of_length_le (by omega)]
    rw [List.getElem?_eq_getElem (by omega)] at hul
    rw [Option.some.inj hul]
  have h01 : ∀ x ∈ u.take n, x = 0 ∨ x = 1 := fun x hx => by
    obtain ⟨k, hk, rfl⟩ := List.getElem_of_mem (List.mem_of_mem_take hx)
    have := hb.at_ k (by omega)
    rw [List.getElem?_eq_getElem hk] at this
    rw [Option.some.inj this]
    split <;> simp
  obtain ⟨s1, s2⟩ := sum_ones (u.take n) h01
  have hsum := hb.sum
  rw [hsplit, sum_append1] at hsum
  have htl : (u.take n).length = n := by rw [List.length_take]; omega
  rw [htl] at s1 s2
  rw [hn, Nat.add_sub_cancel]
  by_cases q4 : m.length = n
  · have n4 : ¬ (m.length ≠ n) := fun h => h q4
    rw [if_neg n4, if_neg]
    rw [s2.1 (by omega)]; simp
  · rw [if_pos q4, if_pos]
    cases ha : (u.take n).any fun x => decide (0 = x) with
    | true => rfl
    | false => exact absurd (s2.2 ha) (by omega)
/-- What the look says of each node. -/
theorem nodesG_all (oneE : Nd → Nat → Int) : ∀ (r : List Nd) (i : Nat) (m : List (Int × Bool)), (nodesG oneE r i m).1 = 0 → ∀ (j : Nat) (x : Nd), r[j]? = some x → oneE x (i + j) = 0
  | [], i, m, _, j, x, hx => by simp at hx
  | y :: r, i, m, h, j, x, hx => by
    unfold nodesG at h
    by_cases q : oneE y i = 0
    · rw [if_neg (fun h => h q)] at h
      cases hU : upF m y.kids with
      | none => rw [hU] at h; cases h
      | some m' =>
        rw [hU] at h
        rcases j with _ | j
        · simp at hx; subst hx; exact q
        · have := nodesG_all oneE r (i + 1) m' h j x (by simpa using hx)
          rw [show i + (j + 1) = i + 1 + j by omega]; exact this
    · rw [if_pos q] at h; exact absurd h q
theorem treeE_ok (oneE : Nd → Nat → Int) (e : List Nd) (h : treeE oneE e = 0) : e.length ≤ 100 ∧ e ≠ [] ∧ ∀ (i : Nat) (x : Nd), e[i]? = some x → oneE x i = 0 := by
  unfold treeE at h
  by_cases q1 : 100 < e.length
  · rw [if_pos q1] at h; cases h
  rw [if_neg q1] at h
  by_cases q2 : e.length = 0
  · rw [if_pos q2] at h; cases h
  rw [if_neg q2] at h
  by_cases q3 : (nodesG oneE e 0 []).1 = 0
  · refine ⟨by omega, fun hc => by rw [hc] at q2; exact q2 rfl, fun i x hx => ?_⟩
    have := nodesG_all oneE e 0 [] q3 i x hx
    rwa [Nat.zero_add] at this
  · rw [if_pos q3] at h; exact absurd h q3
/-- What a node is that is taken alone. -/
theorem oneE_all {nameB : ByteArray → Bool} {x : Nd} {i : Nat} (h : oneE nameB x i = 0) : (x.kids.length : Int) = ar x.op ∧ 0 ≤ x.op ∧ x.op ≤ 18 ∧ (∀ k ∈ x.kids, 0 ≤ k ∧ k < (i : Int)) ∧ (x.op = 0 → 1 ≤ x.kd ∧ x.kd ≤ 6) := by
  unfold oneE at h
  split at h
  · cases h
  split at h
  · cases h
  split at h
  · cases h
  rename_i h1 h2 h3
  have h0 : 0 ≤ x.op ∧ x.op ≤ 18 := by
    unfold ar at h1
    split at h1
    · simp at h1
    · omega
  refine ⟨by omega, h0.1, h0.2, fun k hk => ?_, fun ho => ?_⟩
  · have h4 : ¬ (k < 0 ∨ (i : Int) ≤ k) := fun hc => h3 (List.any_eq_true.2 ⟨k, hk, by simpa using hc⟩)
    omega
  · split at h
    · cases h
    rw [ho] at h
    simp only [true_and, if_true] at h
    split at h
    · cases h
    · rename_i h5
      unfold checkV at h
      simp only at h
      split at h
      · cases h
      · omega
/-- The kinds of nodes as types.Of finds them. -/
def nodeT (at_ : ByteArray → Option Int) (tb : ByteArray → Option Tb) (x : Nd) (ks : List Int) : Int × Int :=
  if x.op = 1 ∨ x.op = 2 ∨ x.op = 3 then lookF x.op (at_ x.nm)
  else if x.op = 16 then (match tb x.nm with
    | none => (0, 15)
    | some t => if ¬ (0 < t.fr ∧ t.fr ≤ 6) ∨ ¬ (0 < t.to ∧ t.to ≤ 6) then (0, 8) else if kindP x.op x.kd t.fr t.to ks = true then ((kindF x.op x.kd (ks.getD 0 0) (ks.getD 1 0) (ks.getD 2 0) t.fr t.to).1, 0) else (0, 8))
  else if kindP x.op x.kd 0 0 ks = true then ((kindF x.op x.kd (ks.getD 0 0) (ks.getD 1 0) (ks.getD 2 0) 0 0).1, 0) else (0, 8)
theorem kind_perm {op : Int} (hop : isOp op) (nk a b c fr to fr' to' : Int) (ha : 1 ≤ ar op → 1 ≤ a ∧ a ≤ 6) (hb : 2 ≤ ar op → 1 ≤ b ∧ b ≤ 6) (hc : 3 ≤ ar op → 1 ≤ c ∧ c ≤ 6) (ht : op = 16 → fr' = fr ∧ to' = to) :
    (permF op a b c fr to).2 = (kindF op nk a b c fr' to').2 ∧ ((permF op a b c fr to).2 = true → (permF op a b c fr to).1 = (kindF op nk a b c fr' to').1) := by
  rcases hop.cases with rfl | rfl | rfl | rfl | rfl | rfl | rfl | rfl | rfl | rfl | rfl | rfl | rfl | rfl | rfl
  all_goals first
    | obtain ⟨rfl, rfl⟩ := ht rfl
    | skip
  all_goals replace ha := ha (by decide)
  all_goals first
    | replace hb := hb (by decide)
    | clear hb
  all_goals first
    | replace hc := hc (by decide)
    | clear hc
  all_goals (have a0 : a ≠ 0 := by omega)
  all_goals first
    | (have b0 : b ≠ 0 := by omega)
    | skip
  all_goals first
    | (have c0 : c ≠ 0 := by omega)
    | skip
  all_goals by_cases hab : a = b
  all_goals first
    | (simp [permF, kindF, joinK, sumK, productK, *]; done)
    | (simp [permF, kindF, joinK, sumK, productK, *]; omega)
    | (by_cases hbc : b = c <;> simp [permF, kindF, joinK, sumK, productK, a0, b0, c0, hbc] <;> omega)
    | (by_cases hbc : b = c <;> simp [permF, kindF, joinK, sumK, productK, a0, b0, c0, hbc]; done)
    | (have a6 : a = 1 ∨ a = 2 ∨ a = 3 ∨ a = 4 ∨ a = 5 ∨ a = 6 := by omega
       have b6 : b = 1 ∨ b = 2 ∨ b = 3 ∨ b = 4 ∨ b = 5 ∨ b = 6 := by omega
       clear hab hop ht ha hb a0 b0
       rcases a6 with rfl | rfl | rfl | rfl | rfl | rfl <;> rcases b6 with rfl | rfl | rfl | rfl | rfl | rfl <;> simp [permF, kindF, sumK, productK])
theorem perm_range {op : Int} (hop : isOp op) (a b c fr to : Int) (ha : 1 ≤ ar op → 1 ≤ a ∧ a ≤ 6) (hb : 2 ≤ ar op → 1 ≤ b ∧ b ≤ 6) (hc : 3 ≤ ar op → 1 ≤ c ∧ c ≤ 6) (ht : op = 16 → 1 ≤ to ∧ to ≤ 6) :
    1 ≤ (permF op a b c fr to).1 ∧ (permF op a b c fr to).1 ≤ 6 := by
  rcases hop.cases with rfl | rfl | rfl | rfl | rfl | rfl | rfl | rfl | rfl | rfl | rfl | rfl | rfl | rfl | rfl
  all_goals replace ha := ha (by decide)
  all_goals first
    | replace hb := hb (by decide)
    | clear hb
  all_goals first
    | replace hc := hc (by decide)
    | clear hc
  all_goals simp [permF]
  all_goals first
    | omega
    | (have := ht rfl; omega)
    | (split <;> simp <;> omega)
theorem getD_range {ks : List Int} (hr : ∀ v ∈ ks, 1 ≤ v ∧ v ≤ 6) {j : Nat} (hj : j < ks.length) : 1 ≤ ks.getD j 0 ∧ ks.getD j 0 ≤ 6 := by
  rw [List.getD_eq_getElem?_getD, List.getElem?_eq_getElem hj]
  exact hr _ (List.getElem_mem hj)
theorem node_same (at_ : ByteArray → Option Int) (tb : ByteArray → Option Tb) (x : Nd) (ks : List Int) (hr : ∀ v ∈ ks, 1 ≤ v ∧ v ≤ 6) (hk : (ks.length : Int) = ar x.op) (h0 : 0 ≤ x.op) (h18 : x.op ≤ 18) (hl : x.op = 0 → 1 ≤ x.kd ∧ x.kd ≤ 6) :
    nodeK at_ tb x ks = nodeT at_ tb x ks ∧ ((nodeK at_ tb x ks).2 = 0 → 1 ≤ (nodeK at_ tb x ks).1 ∧ (nodeK at_ tb x ks).1 ≤ 6) := by
  by_cases q0 : x.op = 0
  · rw [nodeK, if_pos q0, nodeT, if_neg (by omega), if_neg (by omega)]
    have e : ∀ q, kindF x.op x.kd q (ks.getD 1 0) (ks.getD 2 0) 0 0 = (x.kd, true) := fun q => by rw [kindF, if_pos q0]
    rw [kindP, e]
    exact ⟨rfl, fun _ => hl q0⟩
  by_cases q1 : x.op ≤ 3
  · have h3 : x.op = 1 ∨ x.op = 2 ∨ x.op = 3 := by omega
    unfold nodeK nodeT
    rw [if_neg q0, if_pos h3]
    cases hA : at_ x.nm with
    | none =>
      rw [if_pos (.inl ⟨q1, rfl⟩)]
      exact ⟨rfl, fun h => by cases h⟩
    | some k =>
      have e1 : ¬ (x.op ≤ 3 ∧ (some k).isSome = false ∨ x.op = 16 ∧ (tb x.nm).isSome = false) := by
        rintro (⟨_, h⟩ | ⟨h, _⟩)
        · cases h
        · omega
      rw [if_neg e1]
      unfold lookF
      simp only [Option.getD_some]
      rcases h3 with h3 | h3 | h3
      · simp only [h3]
        by_cases hk : 1 ≤ k ∧ k ≤ 6
        · have hk' : 0 < k ∧ k ≤ 6 := by omega
          simp [hk, hk']
        · have hk' : ¬ (0 < k ∧ k ≤ 6) := by omega
          simp [hk, hk']
      · simp only [h3]
        by_cases hk : k = 2 ∨ k = 3 ∨ k = 5 ∨ k = 6
        · simp [hk]; omega
        · simp [hk]
      · simp only [h3]
        by_cases hk : k = 1 <;> simp [hk]
  have hop : isOp x.op := ⟨by omega, h18⟩
  have ga : 1 ≤ ar x.op → 1 ≤ ks.getD 0 0 ∧ ks.getD 0 0 ≤ 6 := fun h => getD_range hr (by omega)
  have gb : 2 ≤ ar x.op → 1 ≤ ks.getD 1 0 ∧ ks.getD 1 0 ≤ 6 := fun h => getD_range hr (by omega)
  have gc : 3 ≤ ar x.op → 1 ≤ ks.getD 2 0 ∧ ks.getD 2 0 ≤ 6 := fun h => getD_range hr (by omega)
  have n1 : ¬ (x.op = 1) := by omega
  have n2 : ¬ (x.op = 2) := by omega
  have n3 : ¬ (x.op = 3) := by omega
  have n123 : ¬ (x.op = 1 ∨ x.op = 2 ∨ x.op = 3) := by omega
  unfold nodeK nodeT
  rw [if_neg q0, if_neg n123]
  by_cases q16 : x.op = 16
  · rw [if_pos q16]
    cases hT : tb x.nm with
    | none =>
      rw [if_pos (.inr ⟨q16, rfl⟩)]
      exact ⟨rfl, fun h => by cases h⟩
    | some t =>
      have e1 : ¬ (x.op ≤ 3 ∧ (at_ x.nm).isSome = false ∨ x.op = 16 ∧ (some t).isSome = false) := by
        rintro (⟨h, _⟩ | ⟨_, h⟩)
        · omega
        · cases h
      rw [if_neg e1, if_neg n1]
      simp only [Option.getD_some]
      by_cases q6 : ¬ (0 < t.fr ∧ t.fr ≤ 6) ∨ ¬ (0 < t.to ∧ t.to ≤ 6)
      · have e2 : x.op = 16 ∧ (min t.fr t.to < 1 ∨ 6 < max t.fr t.to) := ⟨q16, by omega⟩
        rw [if_pos e2, if_pos q6]
        exact ⟨rfl, fun h => by cases h⟩
      have e2 : ¬ (x.op = 16 ∧ (min t.fr t.to < 1 ∨ 6 < max t.fr t.to)) := by omega
      rw [if_neg e2, if_neg q6, if_neg n2, if_neg n3]
      obtain ⟨p1, p2⟩ := kind_perm hop x.kd (ks.getD 0 0) (ks.getD 1 0) (ks.getD 2 0) t.fr t.to t.fr t.to ga gb gc fun _ => ⟨rfl, rfl⟩
      have pr := perm_range hop (ks.getD 0 0) (ks.getD 1 0) (ks.getD 2 0) t.fr t.to ga gb gc fun _ => by omega
      unfold permP kindP
      rw [← p1]
      cases hq : (permF x.op (ks.getD 0 0) (ks.getD 1 0) (ks.getD 2 0) t.fr t.to).2 with
      | true => rw [if_pos rfl, if_pos rfl, p2 hq]; rw [p2 hq] at pr; exact ⟨rfl, fun _ => pr⟩
      | false => rw [if_neg (by simp), if_neg (by simp)]; exact ⟨rfl, fun h => by cases h⟩
  · have e1 : ¬ (x.op ≤ 3 ∧ (at_ x.nm).isSome = false ∨ x.op = 16 ∧ (tb x.nm).isSome = false) := by
      rintro (⟨h, _⟩ | ⟨h, _⟩)
      · omega
      · exact q16 h
    have e2 : ¬ (x.op = 16 ∧ (min ((tb x.nm).getD tb0).fr ((tb x.nm).getD tb0).to < 1 ∨ 6 < max ((tb x.nm).getD tb0).fr ((tb x.nm).getD tb0).to)) := fun h => q16 h.1
    rw [if_neg q16, if_neg e1, if_neg n1, if_neg e2, if_neg n2, if_neg n3]
    obtain ⟨p1, p2⟩ := kind_perm hop x.kd (ks.getD 0 0) (ks.getD 1 0) (ks.getD 2 0) ((tb x.nm).getD tb0).fr ((tb x.nm).getD tb0).to 0 0 ga gb gc fun h => absurd h q16
    have pr := perm_range hop (ks.getD 0 0) (ks.getD 1 0) (ks.getD 2 0) ((tb x.nm).getD tb0).fr ((tb x.nm).getD tb0).to ga gb gc fun h => absurd h q16
    unfold permP kindP
    rw [← p1]
    cases hq : (permF x.op (ks.getD 0 0) (ks.getD 1 0) (ks.getD 2 0) ((tb x.nm).getD tb0).fr ((tb x.nm).getD tb0).to).2 with
    | true => rw [if_pos rfl, if_pos rfl, p2 hq]; rw [p2 hq] at pr; exact ⟨rfl, fun _ => pr⟩
    | false => rw [if_neg (by simp), if_neg (by simp)]; exact ⟨rfl, fun h => by cases h⟩
theorem knd_same (nk nk' : Nd → List Int → Int × Int) : ∀ (r : List Nd) (i : Nat) (acc : List Int), acc.length = i → (∀ v ∈ acc, 1 ≤ v ∧ v ≤ 6) →
    (∀ (j : Nat) (x : Nd), r[j]? = some x → (∀ k ∈ x.kids, 0 ≤ k ∧ k < ((i + j : Nat) : Int)) ∧ ∀ ks : List Int, ks.length = x.kids.length → (∀ v ∈ ks, 1 ≤ v ∧ v ≤ 6) → nk x ks = nk' x ks ∧ ((nk x ks).2 = 0 → 1 ≤ (nk x ks).1 ∧ (nk x ks).1 ≤ 6)) →
    kndF nk r acc = kndF nk' r acc
  | [], i, acc, _, _, _ => rfl
  | x :: r, i, acc, hi, ha, hx => by
    obtain ⟨h1, h2⟩ := hx 0 x rfl
    obtain ⟨h3, h4⟩ := h2 (x.kids.map fun k => acc.getD k.toNat 0) (by simp) fun v hv => by
      obtain ⟨k, hk, rfl⟩ := List.mem_map.1 hv
      have := h1 k hk
      exact getD_range ha (by omega)
    unfold kndF
    rw [← h3]
    by_cases q : (nk x (x.kids.map fun k => acc.getD k.toNat 0)).2 = 0
    · rw [if_neg (fun h => h q), if_neg (fun h => h q)]
      refine knd_same nk nk' r (i + 1) _ (by simp [hi]) (fun v hv => ?_) fun j y hy => ?_
      · rcases List.mem_append.1 hv with hv | hv
        · exact ha v hv
        · rw [List.mem_singleton.1 hv]; exact h4 q
      · have := hx (j + 1) y (by simpa using hy)
        rw [show i + (j + 1) = i + 1 + j by omega] at this
        exact this
    · rw [if_pos q, if_pos q]
/-- The kinds of a tree by the reference are those of types.Of. -/
def ofF (cE : List Nd → Int) (l : List Ac) (e : List Nd) : Int × Int := if cE e ≠ 0 then (0, cE e) else kndF (nodeT (fun nm => atF nm l) fun nm => findF nm (tabsL l)) e []
theorem of_tree (nameB : ByteArray → Bool) (l : List Ac) (e : List Nd) : treeOf (treeE (oneE nameB)) l e = ofF (chkE (oneE nameB)) l e := by
  have h0 : treeE (oneE nameB) e = chkE (oneE nameB) e := tree_check _ e fun i x _ h => (oneE_all h).2.2.2.1
  unfold treeOf ofF
  rw [← h0]
  by_cases q : treeE (oneE nameB) e = 0
  · rw [if_neg (fun h => h q), if_neg (fun h => h q)]
    obtain ⟨_, _, h1⟩ := treeE_ok _ e q
    refine knd_same _ _ e 0 [] rfl (fun v hv => by cases hv) fun j x hx => ?_
    obtain ⟨f1, f2, f3, f4, f5⟩ := oneE_all (h1 j x hx)
    rw [Nat.zero_add]
    exact ⟨f4, fun ks hl hr => node_same _ _ x ks hr (by rw [hl]; exact f1) f2 f3 f5⟩
  · rw [if_pos q, if_pos q]
end Go.Proofs.YtmalhikcdideoaaDoor

set_option linter.unusedVariables false
set_option linter.unusedSimpArgs false
namespace Go.Proofs.YtmalhikcdideoaaDoor
open Go Sl
attribute [local irreducible] LpQ XR XRo XRg XRQ putQ XFv XL XW2 wQ putW X XO XOp XH XHo XW SeqQ BlkQ XOQ XHQ NrmQ XC XM XG XHM XHG XD CallK
open Go.RowKit
section
variable (kids nm tn st : AV) (nk nn : Int) (fr to : Int) (sl : Bool)
/-- types.kind, whatever the operation; its answer in full. -/
theorem kind_full {op : Int} (hop : op = 0 ∨ isOp op) {l : List Int} (hl : (l.length : Int) = ar op) :
    Pure Tryd.prog 75 [encNd op kids nk nn nm, encL 1 cI l, encTb tn fr to sl st] (tup2 (I (kindF op nk (l.getD 0 0) (l.getD 1 0) (l.getD 2 0) fr to).1) (B (kindP op nk fr to l))) := by
  rcases hop with rfl | hop
  · obtain rfl := len0 (show (l.length : Int) = 0 by rw [hl]; decide)
    exact kind_0 kids nm tn st nk nn 0 0 0 fr to sl
  · have t1 : ar op = 1 → ∃ a, l = [a] := fun h => len1 (by rw [hl, h])
    have t2 : ar op = 2 → ∃ a b, l = [a, b] := fun h => len2 (by rw [hl, h])
    have t3 : ar op = 3 → ∃ a b c, l = [a, b, c] := fun h => len3 (by rw [hl, h])
    rcases hop.cases with rfl | rfl | rfl | rfl | rfl | rfl | rfl | rfl | rfl | rfl | rfl | rfl | rfl | rfl | rfl
    · obtain ⟨a, rfl⟩ := t1 (by decide); exact kind_4 kids nm tn st nk nn a 0 0 fr to sl
    · obtain ⟨a, b, rfl⟩ := t2 (by decide); exact kind_5 kids nm tn st nk nn a b 0 fr to sl
    · obtain ⟨a, b, rfl⟩ := t2 (by decide); exact kind_6 kids nm tn st nk nn a b 0 fr to sl
    · obtain ⟨a, b, rfl⟩ := t2 (by decide); exact kind_7 kids nm tn st nk nn a b 0 fr to sl
    · obtain ⟨a, b, rfl⟩ := t2 (by decide); exact kind_8 kids nm tn st nk nn a b 0 fr to sl
    · obtain ⟨a, b, rfl⟩ := t2 (by decide); exact kind_9 kids nm tn st nk nn a b 0 fr to sl
    · obtain ⟨a, b, rfl⟩ := t2 (by decide); exact kind_10 kids nm tn st nk nn a b 0 fr to sl
    · obtain ⟨a, b, rfl⟩ := t2 (by decide); exact kind_11 kids nm tn st nk nn a b 0 fr to sl
    · obtain ⟨a, b, rfl⟩ := t2 (by decide); exact kind_12 kids nm tn st nk nn a b 0 fr to sl
    · obtain ⟨a, b, rfl⟩ := t2 (by decide); exact kind_13 kids nm tn st nk nn a b 0 fr to sl
    · obtain ⟨a, b, rfl⟩ := t2 (by decide); exact kind_14 kids nm tn st nk nn a b 0 fr to sl
    · obtain ⟨a, b, c, rfl⟩ := t3 (by decide); exact kind_15 kids nm tn st nk nn a b c fr to sl
    · obtain ⟨a, rfl⟩ := t1 (by decide); exact kind_16 kids nm tn st nk nn a 0 0 fr to sl
    · obtain ⟨a, rfl⟩ := t1 (by decide); exact kind_17 kids nm tn st nk nn a 0 0 fr to sl
    · obtain ⟨a, b, rfl⟩ := t2 (by decide); exact kind_18 kids nm tn st nk nn a b 0 fr to sl
/-- On a slice made by appending. -/
theorem kind_fullO {op : Int} (hop : op = 0 ∨ isOp op) {l : List Int} (hl : (l.length : Int) = ar op) {h0 h : Hp} {a : AV} (o : Own h0 h a 3 1 l.length (cellsL cI l)) :
    PureAt Tryd.prog h 75 [encNd op kids nk nn nm, a, encTb tn fr to sl st] (tup2 (I (kindF op nk (l.getD 0 0) (l.getD 1 0) (l.getD 2 0) fr to).1) (B (kindP op nk fr to l))) := by
  have hl3 : l.length ≤ 3 := by
    have : ar op ≤ 3 := by unfold ar; repeat' split <;> omega
    omega
  exact Pure.lend (kind_full kids nm tn st nk nn fr to sl hop hl) (.cons (Lend.refl _) (.cons (o.lend (by omega)) (.cons (Lend.refl _) .nil))) (Flat.tup2 (Flat.v _) (Flat.v _))
end
/-- The kinds found so far, in a block of the call's own. -/
structure Knd (h : Hp) (b n : Nat) (acc : List Int) : Prop where
  out : ∃ o, h b = some o ∧ o.ty = 3 ∧ o.s = 1 ∧ o.n = n ∧ Hid (∀ k x, acc[k]? = some x → o.f k 0 = I x)
theorem knd_next {acc : List Int} {f : Nat → Nat → AV} {i : Nat} (v : Int) (hi : acc.length = i) (h : ∀ k x, acc[k]? = some x → f k 0 = I x) :
    ∀ k x, (acc ++ [v])[k]? = some x → (if k = i ∧ 0 = 0 then AV.v (Value.int IntKind.i64 v) else f k 0) = I x := by
  intro k x hx
  rcases Nat.lt_trichotomy k i with hk | hk | hk
  · rw [if_neg (fun h => by omega)]
    rw [List.getElem?_append_left (by omega)] at hx
    exact h k x hx
  · rw [if_pos ⟨hk, rfl⟩]
    rw [List.getElem?_append_right (by omega), show k - acc.length = 0 by omega] at hx
    simp only [List.getElem?_cons_zero, Option.some.injEq] at hx
    rw [hx]
  · rw [List.getElem?_eq_none (by simp; omega)] at hx
    cases hx
set_option maxHeartbeats 4000000 in
theorem of_ok (cE : List Nd → Int) (e : List Nd) (l : List Ac) (hc : Pure Tryd.prog 41 [encL 5 cNd e] (I (cE e)))
    (hke : cE e = 0 → e.length ≤ 100 ∧ e ≠ [] ∧ ∀ (i : Nat) (x : Nd), e[i]? = some x → (∀ k ∈ x.kids, 0 ≤ k ∧ k < i) ∧ (x.kids.length : Int) = ar x.op ∧ 0 ≤ x.op ∧ x.op ≤ 18)
    (hal : ∀ a ∈ l, a.attrs.length ≤ 1000000000) (hN : (tabsL l).length ≤ 1000000000) (hst : ∀ a ∈ l, ∀ t ∈ a.tables, t.steps.length ≤ 1000000000) :
    Pure Tryd.prog 37 [encL 6 cAc l, encL 5 cNd e] (tup2 (I (ofF cE l e).1) (I (ofF cE l e).2)) := by
  generalize hR : ofF cE l e = R
  unfold ofF at hR
  have hlook := fun x => looked_ok l (fun a ha => Nat.le_trans (hal a ha) (by decide)) x
  have htab := tables_ok l hN hst
  intro h
  by_cases q1 : cE e = 0
  case neg =>
    rw [if_pos q1] at hR
    subst hR
    refine callK_body Tryd.func37 rfl (by rw [nt37]; simp) ?_; rw [nt37, rs37]
    ((repeat' (first | simp [go_sem, X_region, *] | simp (disch := omega) only [om, *] | ((first | refine XC_split ?_ ?_ | refine XG_true ?_ ?_ | refine XG_false ?_ ?_ | refine XRg_true ?_ ?_ | refine XRg_false ?_ ?_) <;> intro hc <;> (try simp only [bl] at hc) <;> (try (exfalso; omega))) | refine XD_w [] [] [] (fun _ => none) mixed (by decide +kernel) (sub_none _) ?_ | refine Pure.call (hc) ?_ | refine ⟨_, Pure.at (hc), ?_⟩ | refine ⟨_, hc, ?_⟩ | refine PureAt.call (hc) ?_ | (intro bk hbk; (try simp only [go_sem] at hbk)))); all_goals (refine Wk.fin (by repeat (first | exact Sub.refl _ | refine Sub.upd (by simp [*]) ?_)) ?_; first | (simp [*]; done) | (simp only []; (repeat' (first | split | rfl | omega | (simp_all; done))); done) | (simp [*]; (repeat' (first | split | omega | (rw [Bool.eq_iff_iff]; simp; omega))); done) | (simp [*])))
  rw [if_neg (fun h => h q1)] at hR
  rw [q1] at hc
  obtain ⟨hel, hne, hke⟩ := hke q1
  have hne : 0 < e.length := List.length_pos_iff.2 hne
  refine callK_body Tryd.func37 rfl (by rw [nt37]; simp) ?_; rw [nt37, rs37]
  (repeat' (first | simp [go_sem, X_region, *] | simp (disch := omega) only [om, *] | ((first | refine XC_split ?_ ?_ | refine XG_true ?_ ?_ | refine XG_false ?_ ?_ | refine XRg_true ?_ ?_ | refine XRg_false ?_ ?_) <;> intro hc <;> (try simp only [bl] at hc) <;> (try (exfalso; omega))) | refine XD_w [] [] [] (fun _ => none) mixed (by decide +kernel) (sub_none _) ?_ | refine Pure.call (hc) ?_ | refine ⟨_, Pure.at (hc), ?_⟩ | refine ⟨_, hc, ?_⟩ | refine PureAt.call (hc) ?_ | fail))
  refine X_makeSlice (s := 1) (by_ := 8) e.length e.length und37 zr3 by3 (by simp [go_sem]) (by simp [go_sem]) (by omega) (by omega) (by omega) fun b hb => ?_
  (repeat' (first | simp [go_sem, X_region, *] | simp (disch := omega) only [om, *] | ((first | refine XC_split ?_ ?_ | refine XG_true ?_ ?_ | refine XG_false ?_ ?_ | refine XRg_true ?_ ?_ | refine XRg_false ?_ ?_) <;> intro hc <;> (try simp only [bl] at hc) <;> (try (exfalso; omega))) | refine XD_w [] [] [] (fun _ => none) mixed (by decide +kernel) (sub_none _) ?_ | fail))
  generalize hNK : (nodeT (fun nm => atF nm l) fun nm => findF nm (tabsL l)) = NK at hR
  refine X_lpF (fun i => (4 ≤ i ∧ i ≤ 5) ∨ (8 ≤ i ∧ i ≤ 12) ∨ (14 ≤ i ∧ i ≤ 18) ∨ (29 ≤ i ∧ i ≤ 112)) (fun k T g => ∃ (i : Nat) (r : List Nd) (acc : List Int), k = r.length ∧ i ≤ e.length ∧ e.drop i = r ∧ kndF NK r acc = R ∧ T 29 = I i ∧ acc.length = i ∧ Sub h g ∧ Knd g b e.length acc) e.length ⟨0, e, [], rfl, by omega, rfl, hR, by simp [go_sem], rfl, Sub.upd hb (Sub.refl _), ⟨_, upd_same _ _ _, rfl, rfl, rfl, ⟨fun k x hx => by simp at hx⟩⟩⟩ ?_
  clear hR
  rintro J hJ k T g hfr ⟨i, r, acc, rfl, hi, hd, hR, t29, hacc, hsub, ⟨o, ho, o1, o2, o3, ⟨o4⟩⟩⟩
  rcases r with _ | ⟨x, r⟩
  · have hlt := drop_nil hd
    rw [kndF] at hR
    subst hR
    obtain ⟨m, hm⟩ : ∃ m, e.length = m + 1 := ⟨e.length - 1, by omega⟩
    have hlast : acc[m]? = some (acc.getD (acc.length - 1) 0) := by
      rw [show acc.length - 1 = m by omega, List.getD_eq_getElem?_getD, List.getElem?_eq_getElem (by omega)]; rfl
    have hfm := o4 m _ hlast
    generalize acc.getD (acc.length - 1) 0 = v at *
    clear o4
    have hm1 : ((e.length : Nat) : Int) - 1 = (m : Int) := by omega
    (repeat' (first | simp [go_sem, X_region, *] | simp (disch := omega) only [om, *] | ((first | refine XC_split ?_ ?_ | refine XG_true ?_ ?_ | refine XG_false ?_ ?_ | refine XRg_true ?_ ?_ | refine XRg_false ?_ ?_) <;> intro hc <;> (try simp only [bl] at hc) <;> (try (exfalso; omega))) | refine XD_w [] [] [] (fun _ => none) mixed (by decide +kernel) (sub_none _) ?_ | fail))
    exact Wk.fin hsub rfl
  · obtain ⟨hlt, hx, hd2⟩ := drop_cons hd
    have hxi : e[i]? = some x := List.getElem?_eq_some_iff.2 ⟨hlt, hx⟩
    obtain ⟨hk1, hk2, hk3, hk4⟩ := hke i x hxi
    have hgl := hlook x
    simp only [cNd] at hgl
    rw [kndF] at hR
    (repeat' (first | simp [go_sem, X_region, *] | simp (disch := omega) only [om, *] | ((first | refine XC_split ?_ ?_ | refine XG_true ?_ ?_ | refine XG_false ?_ ?_ | refine XRg_true ?_ ?_ | refine XRg_false ?_ ?_) <;> intro hc <;> (try simp only [bl] at hc) <;> (try (exfalso; omega))) | refine XD_w [] [] [] (fun _ => none) mixed (by decide +kernel) (sub_none _) ?_ | refine Pure.call (hgl) ?_ | refine ⟨_, Pure.at (hgl), ?_⟩ | refine ⟨_, hgl, ?_⟩ | refine PureAt.call (hgl) ?_ | fail))
    intro b9 hb9
    have n9 := ne_free hb9 ho
    by_cases qn : x.op = 1 ∨ x.op = 2 ∨ x.op = 3
    · have e1 : ∀ ks, NK x ks = lookF x.op (atF x.nm l) := fun ks => by rw [← hNK]; unfold nodeT; rw [if_pos qn]
      rw [e1] at hR
      generalize lookF x.op (atF x.nm l) = lk at *
      have hsubX : ∀ ob9 ob, Sub h (upd (upd g b9 (some ob9)) b (some ob)) := fun ob9 ob => Sub.upd hb (Sub.upd (sub_free hsub hb9) hsub)
      by_cases q2 : lk.2 = 0
      · rw [q2] at hgl
        rw [if_neg (fun h => h q2)] at hR
        rcases qn with qn | qn | qn
        all_goals
          rw [qn] at hgl
          (repeat' (first | simp [go_sem, X_region, *] | simp (disch := omega) only [om, *] | ((first | refine XC_split ?_ ?_ | refine XG_true ?_ ?_ | refine XG_false ?_ ?_ | refine XRg_true ?_ ?_ | refine XRg_false ?_ ?_) <;> intro hc <;> (try simp only [bl] at hc) <;> (try (exfalso; omega))) | refine XD_w [] [] [] (fun _ => none) mixed (by decide +kernel) (sub_none _) ?_ | refine Pure.call (hgl) ?_ | refine ⟨_, Pure.at (hgl), ?_⟩ | refine ⟨_, hgl, ?_⟩ | refine PureAt.call (hgl) ?_ | fail))
        all_goals exact ⟨_, Nat.lt_succ_self _, hJ.out _ _ _ ⟨(by (repeat (refine fr_upd (by decide) ?_)); exact hfr), i + 1, r, acc ++ [lk.1], rfl, by omega, hd2, hR, by simp [go_sem, *], by simp [hacc], hsubX _ _, ⟨_, upd_same _ _ _, rfl, rfl, rfl, ⟨knd_next _ hacc o4⟩⟩⟩⟩
      · rw [if_pos q2] at hR
        subst hR
        rcases qn with qn | qn | qn
        all_goals
          rw [qn] at hgl
          (repeat' (first | simp [go_sem, X_region, *] | simp (disch := omega) only [om, *] | ((first | refine XC_split ?_ ?_ | refine XG_true ?_ ?_ | refine XG_false ?_ ?_ | refine XRg_true ?_ ?_ | refine XRg_false ?_ ?_) <;> intro hc <;> (try simp only [bl] at hc) <;> (try (exfalso; omega))) | refine XD_w [] [] [] (fun _ => none) mixed (by decide +kernel) (sub_none _) ?_ | refine Pure.call (hgl) ?_ | refine ⟨_, Pure.at (hgl), ?_⟩ | refine ⟨_, hgl, ?_⟩ | refine PureAt.call (hgl) ?_ | fail))
        all_goals exact Wk.fin (Sub.upd (sub_free hsub hb9) hsub) rfl
    · (repeat' (first | simp [go_sem, X_region, *] | simp (disch := omega) only [om, *] | ((first | refine XC_split ?_ ?_ | refine XG_true ?_ ?_ | refine XG_false ?_ ?_ | refine XRg_true ?_ ?_ | refine XRg_false ?_ ?_) <;> intro hc <;> (try simp only [bl] at hc) <;> (try (exfalso; omega))) | refine XD_w [] [] [] (fun _ => none) mixed (by decide +kernel) (sub_none _) ?_ | fail))
      refine X_lpH (fun i => i = 12 ∨ i = 14 ∨ (63 ≤ i ∧ i ≤ 74)) (fun hE n T g' => ∃ (j : Nat) (rk out : List Int), n = rk.length ∧ j ≤ x.kids.length ∧ x.kids.drop j = rk ∧ out ++ rk.map (fun k => acc.getD k.toNat 0) = x.kids.map (fun k => acc.getD k.toNat 0) ∧ T 63 = I j ∧ out.length = j ∧ Own hE g' (T 12) 3 1 out.length (cellsL cI out)) x.kids.length
        ⟨0, x.kids, [], rfl, by omega, rfl, rfl, by simp [go_sem], rfl, by simpa [go_sem] using Own.none⟩ ?_
      rintro hE hEq J2 hJ2 n2 T2 g2 hfr2 ⟨j, rk, out, rfl, hj, hdk, hks, t63, hout, hown2⟩
      have kE : ∀ c oc, hE c = some oc → g2 c = some oc := fun c oc hc => hown2.1 c oc hc
      have k9 := kE b9 _ (by rw [← hEq]; exact upd_same _ _ _)
      have kg : ∀ c oc, g c = some oc → g2 c = some oc := fun c oc hc => kE c oc (by rw [← hEq, upd_ne _ _ (ne_free hb9 hc).2]; exact hc)
      rcases rk with _ | ⟨y, rk⟩
      · have hltk := drop_nil hdk
        rw [List.map_nil, List.append_nil] at hks
        rw [← hks] at hR
        have hx3 := ar_le x.op
        have hol : (out.length : Int) = ar x.op := by rw [hks, List.length_map]; exact hk2
        clear hks
        have kb := kg b _ ho
        have hsub2 : Sub h g2 := hsub.trans kg
        (repeat' (first | simp [go_sem, X_region, *] | simp (disch := omega) only [om, *] | ((first | refine XC_split ?_ ?_ | refine XG_true ?_ ?_ | refine XG_false ?_ ?_ | refine XRg_true ?_ ?_ | refine XRg_false ?_ ?_) <;> intro hc <;> (try simp only [bl] at hc) <;> (try (exfalso; omega))) | refine XD_w [] [] [] (fun _ => none) mixed (by decide +kernel) (sub_none _) ?_ | fail))
        intro b15 hb15
        have hsubZ : ∀ o15, Sub h (upd g2 b15 (some o15)) := fun o15 => Sub.upd (sub_free hsub2 hb15) hsub2
        have hsubY : ∀ o15 ob, Sub h (upd (upd g2 b15 (some o15)) b (some ob)) := fun o15 ob => Sub.upd hb (hsubZ o15)
        have m9 := ne_free hb15 k9
        have mb := ne_free hb15 kb
        have hgo : ∀ v : Int, NK x out = (v, 0) → kndF NK r (acc ++ [v]) = R := fun v h1 => by
          rw [h1, if_neg (by simp)] at hR
          exact hR
        have herr : ∀ c : Int, NK x out = (0, c) → c ≠ 0 → (0, c) = R := fun c h1 h2 => by
          rw [h1, if_pos h2] at hR
          exact hR
        clear hR
        by_cases q16 : x.op = 16
        · have hfind := find_ok x.nm (tabsL l)
          have e2 : NK x out = match findF x.nm (tabsL l) with
            | none => (0, 15)
            | some t => if ¬ (0 < t.fr ∧ t.fr ≤ 6) ∨ ¬ (0 < t.to ∧ t.to ≤ 6) then (0, 8) else if kindP x.op x.kd t.fr t.to out = true then ((kindF x.op x.kd (out.getD 0 0) (out.getD 1 0) (out.getD 2 0) t.fr t.to).1, 0) else (0, 8) := by
            rw [← hNK]; unfold nodeT; rw [if_neg qn, if_pos q16]; try rfl
          cases hT : findF x.nm (tabsL l) with
          | none =>
            rw [hT] at hfind e2
            simp only [Option.isSome_none] at hfind
            have hR := herr 15 e2 (by decide)
            subst hR
            (repeat' (first | simp [go_sem, X_region, *] | simp (disch := omega) only [om, *] | ((first | refine XC_split ?_ ?_ | refine XG_true ?_ ?_ | refine XG_false ?_ ?_ | refine XRg_true ?_ ?_ | refine XRg_false ?_ ?_) <;> intro hc <;> (try simp only [bl] at hc) <;> (try (exfalso; omega))) | refine XD_w [] [] [] (fun _ => none) mixed (by decide +kernel) (sub_none _) ?_ | refine Pure.call (htab) ?_ | refine ⟨_, Pure.at (htab), ?_⟩ | refine ⟨_, htab, ?_⟩ | refine PureAt.call (htab) ?_ | refine Pure.call (hfind) ?_ | refine ⟨_, Pure.at (hfind), ?_⟩ | refine ⟨_, hfind, ?_⟩ | refine PureAt.call (hfind) ?_ | fail))
            exact Wk.fin (hsubZ _) rfl
          | some tb =>
            rw [hT] at hfind e2
            simp only [Option.isSome_some] at e2 hfind
            have hu1 := unitary_ok tb.fr
            have hu2 := unitary_ok tb.to
            by_cases u1 : 0 < tb.fr ∧ tb.fr ≤ 6
            case neg =>
              rw [decide_eq_false u1] at hu1
              rw [if_pos (.inl u1)] at e2
              have hR := herr 8 e2 (by decide)
              subst hR
              (repeat' (first | simp [go_sem, X_region, *] | simp (disch := omega) only [om, *] | ((first | refine XC_split ?_ ?_ | refine XG_true ?_ ?_ | refine XG_false ?_ ?_ | refine XRg_true ?_ ?_ | refine XRg_false ?_ ?_) <;> intro hc <;> (try simp only [bl] at hc) <;> (try (exfalso; omega))) | refine XD_w [] [] [] (fun _ => none) mixed (by decide +kernel) (sub_none _) ?_ | refine Pure.call (htab) ?_ | refine ⟨_, Pure.at (htab), ?_⟩ | refine ⟨_, htab, ?_⟩ | refine PureAt.call (htab) ?_ | refine Pure.call (hfind) ?_ | refine ⟨_, Pure.at (hfind), ?_⟩ | refine ⟨_, hfind, ?_⟩ | refine PureAt.call (hfind) ?_ | refine Pure.call (hu1) ?_ | refine ⟨_, Pure.at (hu1), ?_⟩ | refine ⟨_, hu1, ?_⟩ | refine PureAt.call (hu1) ?_ | fail))
              exact Wk.fin (hsubZ _) rfl
            rw [decide_eq_true u1] at hu1
            by_cases u2 : 0 < tb.to ∧ tb.to ≤ 6
            case neg =>
              rw [decide_eq_false u2] at hu2
              rw [if_pos (.inr u2)] at e2
              have hR := herr 8 e2 (by decide)
              subst hR
              (repeat' (first | simp [go_sem, X_region, *] | simp (disch := omega) only [om, *] | ((first | refine XC_split ?_ ?_ | refine XG_true ?_ ?_ | refine XG_false ?_ ?_ | refine XRg_true ?_ ?_ | refine XRg_false ?_ ?_) <;> intro hc <;> (try simp only [bl] at hc) <;> (try (exfalso; omega))) | refine XD_w [] [] [] (fun _ => none) mixed (by decide +kernel) (sub_none _) ?_ | refine Pure.call (htab) ?_ | refine ⟨_, Pure.at (htab), ?_⟩ | refine ⟨_, htab, ?_⟩ | refine PureAt.call (htab) ?_ | refine Pure.call (hfind) ?_ | refine ⟨_, Pure.at (hfind), ?_⟩ | refine ⟨_, hfind, ?_⟩ | refine PureAt.call (hfind) ?_ | refine Pure.call (hu1) ?_ | refine ⟨_, Pure.at (hu1), ?_⟩ | refine ⟨_, hu1, ?_⟩ | refine PureAt.call (hu1) ?_ | refine Pure.call (hu2) ?_ | refine ⟨_, Pure.at (hu2), ?_⟩ | refine ⟨_, hu2, ?_⟩ | refine PureAt.call (hu2) ?_ | fail))
              exact Wk.fin (hsubZ _) rfl
            rw [decide_eq_true u2] at hu2
            have n6 : ¬ (¬ (0 < tb.fr ∧ tb.fr ≤ 6) ∨ ¬ (0 < tb.to ∧ tb.to ≤ 6)) := by
              rintro (h | h)
              · exact h u1
              · exact h u2
            rw [if_neg n6, q16] at e2
            have hkd : ∀ ob, PureAt Tryd.prog (upd g2 b15 (some ob)) 75 [encNd 16 (encL 1 cI x.kids) x.kd x.n (S x.nm), T2 12, encTb (S tb.name) tb.fr tb.to tb.sl (encL 2 cSt tb.steps)] (tup2 (I (kindF 16 x.kd (out.getD 0 0) (out.getD 1 0) (out.getD 2 0) tb.fr tb.to).1) (B (kindP 16 x.kd tb.fr tb.to out))) := fun ob => kind_fullO _ _ _ _ _ _ _ _ _ (.inr ⟨by omega, by omega⟩) (by rw [hol, q16]) (hown2.alloc hb15)
            rcases (Bool.eq_false_or_eq_true (kindP 16 x.kd tb.fr tb.to out)).symm with hq | hq
            · rw [hq] at hkd e2
              rw [if_neg (by decide)] at e2
              have hR := herr 8 e2 (by decide)
              subst hR
              (repeat' (first | simp [go_sem, X_region, *] | simp (disch := omega) only [om, *] | ((first | refine XC_split ?_ ?_ | refine XG_true ?_ ?_ | refine XG_false ?_ ?_ | refine XRg_true ?_ ?_ | refine XRg_false ?_ ?_) <;> intro hc <;> (try simp only [bl] at hc) <;> (try (exfalso; omega))) | refine XD_w [] [] [] (fun _ => none) mixed (by decide +kernel) (sub_none _) ?_ | refine Pure.call (htab) ?_ | refine ⟨_, Pure.at (htab), ?_⟩ | refine ⟨_, htab, ?_⟩ | refine PureAt.call (htab) ?_ | refine Pure.call (hfind) ?_ | refine ⟨_, Pure.at (hfind), ?_⟩ | refine ⟨_, hfind, ?_⟩ | refine PureAt.call (hfind) ?_ | refine Pure.call (hu1) ?_ | refine ⟨_, Pure.at (hu1), ?_⟩ | refine ⟨_, hu1, ?_⟩ | refine PureAt.call (hu1) ?_ | refine Pure.call (hu2) ?_ | refine ⟨_, Pure.at (hu2), ?_⟩ | refine ⟨_, hu2, ?_⟩ | refine PureAt.call (hu2) ?_ | refine Pure.call (hkd _) ?_ | refine ⟨_, Pure.at (hkd _), ?_⟩ | refine ⟨_, hkd _, ?_⟩ | refine PureAt.call (hkd _) ?_ | fail))
              exact Wk.fin (hsubZ _) rfl
            · rw [hq] at hkd e2
              rw [if_pos rfl] at e2
              have hR := hgo _ e2
              clear hgo herr e2
              generalize (kindF 16 x.kd (out.getD 0 0) (out.getD 1 0) (out.getD 2 0) tb.fr tb.to).1 = v at *
              (repeat' (first | simp [go_sem, X_region, *] | simp (disch := omega) only [om, *] | ((first | refine XC_split ?_ ?_ | refine XG_true ?_ ?_ | refine XG_false ?_ ?_ | refine XRg_true ?_ ?_ | refine XRg_false ?_ ?_) <;> intro hc <;> (try simp only [bl] at hc) <;> (try (exfalso; omega))) | refine XD_w [] [] [] (fun _ => none) mixed (by decide +kernel) (sub_none _) ?_ | refine Pure.call (htab) ?_ | refine ⟨_, Pure.at (htab), ?_⟩ | refine ⟨_, htab, ?_⟩ | refine PureAt.call (htab) ?_ | refine Pure.call (hfind) ?_ | refine ⟨_, Pure.at (hfind), ?_⟩ | refine ⟨_, hfind, ?_⟩ | refine PureAt.call (hfind) ?_ | refine Pure.call (hu1) ?_ | refine ⟨_, Pure.at (hu1), ?_⟩ | refine ⟨_, hu1, ?_⟩ | refine PureAt.call (hu1) ?_ | refine Pure.call (hu2) ?_ | refine ⟨_, Pure.at (hu2), ?_⟩ | refine ⟨_, hu2, ?_⟩ | refine PureAt.call (hu2) ?_ | refine Pure.call (hkd _) ?_ | refine ⟨_, Pure.at (hkd _), ?_⟩ | refine ⟨_, hkd _, ?_⟩ | refine PureAt.call (hkd _) ?_ | fail))
              refine ⟨_, Nat.lt_succ_self _, hJ.out _ _ _ ⟨?_, i + 1, r, acc ++ [v], rfl, by omega, hd2, hR, by simp [go_sem, *], by simp [hacc], hsubY _ _, ⟨_, upd_same _ _ _, rfl, rfl, rfl, ⟨knd_next _ hacc o4⟩⟩⟩⟩
              repeat (refine fr_upd (by decide) ?_)
              refine fr_in (by intro i; omega) hfr2 ?_
              repeat (refine fr_upd (by decide) ?_)
              exact hfr
        · have e2 : NK x out = if kindP x.op x.kd 0 0 out = true then ((kindF x.op x.kd (out.getD 0 0) (out.getD 1 0) (out.getD 2 0) 0 0).1, 0) else (0, 8) := by
            rw [← hNK]; unfold nodeT; rw [if_neg qn, if_neg q16]
          have hkd : ∀ ob, PureAt Tryd.prog (upd g2 b15 (some ob)) 75 [encNd x.op (encL 1 cI x.kids) x.kd x.n (S x.nm), T2 12, encTb (S ⟨#[]⟩) 0 0 false (.v (.slice none 0 0))] (tup2 (I (kindF x.op x.kd (out.getD 0 0) (out.getD 1 0) (out.getD 2 0) 0 0).1) (B (kindP x.op x.kd 0 0 out))) := fun ob => kind_fullO _ _ _ _ _ _ _ _ _ (by unfold isOp; omega) hol (hown2.alloc hb15)
          rcases (Bool.eq_false_or_eq_true (kindP x.op x.kd 0 0 out)).symm with hq | hq
          · rw [hq] at hkd e2
            rw [if_neg (by decide)] at e2
            have hR := herr 8 e2 (by decide)
            subst hR
            (repeat' (first | simp [go_sem, X_region, *] | simp (disch := omega) only [om, *] | ((first | refine XC_split ?_ ?_ | refine XG_true ?_ ?_ | refine XG_false ?_ ?_ | refine XRg_true ?_ ?_ | refine XRg_false ?_ ?_) <;> intro hc <;> (try simp only [bl] at hc) <;> (try (exfalso; omega))) | refine XD_w [] [] [] (fun _ => none) mixed (by decide +kernel) (sub_none _) ?_ | refine Pure.call (hkd _) ?_ | refine ⟨_, Pure.at (hkd _), ?_⟩ | refine ⟨_, hkd _, ?_⟩ | refine PureAt.call (hkd _) ?_ | fail))
            exact Wk.fin (hsubZ _) rfl
          · rw [hq] at hkd e2
            rw [if_pos rfl] at e2
            have hR := hgo _ e2
            clear hgo herr e2
            generalize (kindF x.op x.kd (out.getD 0 0) (out.getD 1 0) (out.getD 2 0) 0 0).1 = v at *
            (repeat' (first | simp [go_sem, X_region, *] | simp (disch := omega) only [om, *] | ((first | refine XC_split ?_ ?_ | refine XG_true ?_ ?_ | refine XG_false ?_ ?_ | refine XRg_true ?_ ?_ | refine XRg_false ?_ ?_) <;> intro hc <;> (try simp only [bl] at hc) <;> (try (exfalso; omega))) | refine XD_w [] [] [] (fun _ => none) mixed (by decide +kernel) (sub_none _) ?_ | refine Pure.call (hkd _) ?_ | refine ⟨_, Pure.at (hkd _), ?_⟩ | refine ⟨_, hkd _, ?_⟩ | refine PureAt.call (hkd _) ?_ | fail))
            refine ⟨_, Nat.lt_succ_self _, hJ.out _ _ _ ⟨?_, i + 1, r, acc ++ [v], rfl, by omega, hd2, hR, by simp [go_sem, *], by simp [hacc], hsubY _ _, ⟨_, upd_same _ _ _, rfl, rfl, rfl, ⟨knd_next _ hacc o4⟩⟩⟩⟩
            repeat (refine fr_upd (by decide) ?_)
            refine fr_in (by intro i; omega) hfr2 ?_
            repeat (refine fr_upd (by decide) ?_)
            exact hfr
      · obtain ⟨hltk, hxk, hdk2⟩ := drop_cons hdk
        have hy := hk1 y (by rw [← hxk]; exact List.getElem_mem hltk)
        obtain ⟨yn, rfl⟩ : ∃ yn : Nat, y = yn := ⟨y.toNat, by omega⟩
        have hyn : yn < acc.length := by omega
        obtain ⟨v, hv⟩ : ∃ v, acc[yn]? = some v := ⟨_, List.getElem?_eq_getElem hyn⟩
        have kb := kg b _ ho
        have hvf := o4 yn v hv
        have hks' : (out ++ [v]) ++ rk.map (fun k => acc.getD k.toNat 0) = x.kids.map (fun k => acc.getD k.toNat 0) := by
          rw [← hks]
          simp [List.getD_eq_getElem?_getD, hv]
        have hx3 := ar_le x.op
        (repeat' (first | simp [go_sem, X_region, *] | simp (disch := omega) only [om, *] | ((first | refine XC_split ?_ ?_ | refine XG_true ?_ ?_ | refine XG_false ?_ ?_ | refine XRg_true ?_ ?_ | refine XRg_false ?_ ?_) <;> intro hc <;> (try simp only [bl] at hc) <;> (try (exfalso; omega))) | refine XD_w [] [] [] (fun _ => none) mixed (by decide +kernel) (sub_none _) ?_ | fail))
        intro b13 hb13
        refine Own.push (x := v) (enc := cI) hown2 (by simp [go_sem]) und37 zr3 by3 (by simp [go_sem]) hb13 (by simp [go_sem]) rfl (Nat.le_refl _) (by simp [go_sem]) (by omega) (by omega) fun a1 h1 hown1 hkeep1 => ?_
        (repeat' (first | simp [go_sem, X_region, *] | simp (disch := omega) only [om, *] | ((first | refine XC_split ?_ ?_ | refine XG_true ?_ ?_ | refine XG_false ?_ ?_ | refine XRg_true ?_ ?_ | refine XRg_false ?_ ?_) <;> intro hc <;> (try simp only [bl] at hc) <;> (try (exfalso; omega))) | refine XD_w [] [] [] (fun _ => none) mixed (by decide +kernel) (sub_none _) ?_ | fail))
        exact ⟨_, Nat.lt_succ_self _, hJ2.out _ _ _ ⟨(by (repeat (refine fr_upd (by decide) ?_)); exact hfr2), j + 1, rk, out ++ [v], rfl, by omega, hdk2, hks', by simp [go_sem, *], by simp [hout], by simpa [go_sem] using hown1⟩⟩
end Go.Proofs.YtmalhikcdideoaaDoor

set_option linter.unusedVariables false
set_option linter.unusedSimpArgs false
namespace Go.Proofs.YtmalhikcdideoaaDoor
open Go Sl
attribute [local irreducible] LpQ XR XRo XRg XRQ putQ XFv XL XW2 wQ putW X XO XOp XH XHo XW SeqQ BlkQ XOQ XHQ NrmQ XC XM XG XHM XHG XD CallK
open Go.RowKit
theorem d_ptr : Tryd.prog.underlying 96 = some (.pointer 99) := by kernel_rfl
theorem d_uns : Tryd.prog.underlying 176 = some .unsafePointer := by kernel_rfl
theorem lies_self {P : Program} {e : TypeId} {s d count : Nat} (hc : P.cellsOf e = s) (hs : 0 < s) (hf : sameLayout P P.depth e e = true) (hd : P.depth = d + 1) (hn : 1 ≤ count) : liesAt P P.depth e count 0 e 1 = true := by
  have h1 : rowAt P (sameLayout P P.depth · e) P.depth e count 0 1 = true := by
    rw [show rowAt P (sameLayout P P.depth · e) P.depth = rowAt P (sameLayout P P.depth · e) (d + 1) by rw [hd]]
    unfold rowAt
    have hs0 : s ≠ 0 := by omega
    simp [hc, hs0, hf, hn]
  have h2 : liesAt P P.depth e count 0 e 1 = liesAt P (d + 1) e count 0 e 1 := by rw [hd]
  rw [h2]
  unfold liesAt
  rw [h1]
  rfl
set_option maxHeartbeats 1000000 in
set_option maxRecDepth 100000 in
theorem check_fresh (b n : Nat) (w : World) (h0 : w.cell? ⟨b, 0, none⟩ = some (.pointer none)) (hsh : w.shape? b = some (99, n)) (hn : 2 ≤ n) (hfz : w.frozen? ⟨b, 0, none⟩ = false) :
    Calls Tryd.prog 99 #[.pointer (some ⟨b, 0, none⟩)] w fun e w' => e = .returned (.tuple #[]) ∧ w' = w.setCell ⟨b, 0, none⟩ (.pointer (some ⟨b, 0, none⟩)) := by
  go_enter Tryd.func99, Tryd.ntmps99
  obtain ⟨j, hj, hjs⟩ : ∃ j, Tryd.prog.info? 99 = some j ∧ j.size = 2 := Option.map_eq_some_iff.1 (by kernel_rfl : (Tryd.prog.info? 99).map (·.size) = some 2)
  go_wp2
  rw [Lib.run_to_unsafe w ⟨b, 0, none⟩ d_ptr d_uns hj (by rw [hjs]; decide) hsh (show 0 < n by omega)]
  simp only [Result.andThen]
  rw [Oper.upon_value]
  go_wp2
  rw [run_callFunc_extern Tryd.func125 (by kernel_rfl) (by kernel_rfl) (by kernel_rfl) (e := Extern.AbiNoEscape.same) (by kernel_rfl)]
  rw [Lib.run_noEscape]
  simp only [Result.andThen]
  rw [Oper.upon_value]
  go_wp2
  rw [Lib.run_from_unsafe w ⟨b, 0, none⟩ d_uns d_ptr hj hsh (lies_self (s := 2) (by kernel_rfl) (by decide) (by kernel_rfl) (d := Tryd.prog.depth - 1) (by kernel_rfl) (show 1 ≤ n / Tryd.prog.cellsOf 99 by rw [(by kernel_rfl : Tryd.prog.cellsOf 99 = 2)]; omega))]
  simp only [Result.andThen]
  rw [Oper.upon_value]
  go_wp2
  go_end0
  exact ⟨rfl, rfl⟩
set_option maxHeartbeats 1000000 in
set_option maxRecDepth 100000 in
theorem check_used (b : Nat) (w : World) (h0 : w.cell? ⟨b, 0, none⟩ = some (.pointer (some ⟨b, 0, none⟩))) :
    Calls Tryd.prog 99 #[.pointer (some ⟨b, 0, none⟩)] w fun e w' => e = .returned (.tuple #[]) ∧ w' = w := by
  go_enter Tryd.func99, Tryd.ntmps99
  obtain ⟨j, hj, hjs⟩ : ∃ j, Tryd.prog.info? 99 = some j ∧ j.size = 2 := Option.map_eq_some_iff.1 (by kernel_rfl : (Tryd.prog.info? 99).map (·.size) = some 2)
  go_wp2
  rw [Lib.run_neq_ptr_same w _ d_ptr hj]
  go_wp2
  go_end0
  exact ⟨rfl, rfl⟩
set_option maxHeartbeats 2000000 in
set_option maxRecDepth 100000 in
theorem string_run (b g cap : Nat) (l : List UInt8) (cells : Nat) (w : World) (hl0 : l ≠ []) (hcap : l.length ≤ cap) (h63 : l.length ≤ 9223372036854775807) (c0 : w.cell? ⟨b, 1, none⟩ = some (.slice (some ⟨g, 0, none⟩) l.length cap))
    (hsh : w.shape? g = some (5, cells)) (hn : l.length ≤ cells) (hcell : ∀ j x, l[j]? = some x → w.cell? ((⟨g, 0, none⟩ : Addr).add j) = some (.int .u8 x.toNat)) :
    Calls Tryd.prog 64 #[.pointer (some ⟨b, 0, none⟩)] w fun e w' => e = .returned (.string ⟨l.toArray⟩) ∧ w' = w.drew.freeze ⟨g, 0, none⟩ l.length := by
  have hl : l.length ≠ 0 := by simpa using hl0
  have c1 : w.drew.cell? ⟨b, 1, none⟩ = some (.slice (some ⟨g, 0, none⟩) l.length cap) := c0
  have hSD : (Builtin.unsafeSliceData_ #[97] 151 #[.slice (some ⟨g, 0, none⟩) l.length cap]).run Tryd.prog w.drew = .ok (.pointer (some ⟨g, 0, none⟩)) w.drew :=
    Lib.run_unsafeSliceData_row _ _ _ _ _ _ (by omega)
  have hUS : (Builtin.unsafeString_ #[151, 3] 9 #[.pointer (some ⟨g, 0, none⟩), .int .i64 l.length]).run Tryd.prog w.drew = .ok (.string ⟨l.toArray⟩) (w.drew.freeze ⟨g, 0, none⟩ l.length) :=
    Lib.run_unsafeString_row w.drew 151 3 9 5 (by kernel_rfl) (by kernel_rfl) g cells hsh l hl0 hn h63 hcell
  have mixed := mixed
  go_enter Tryd.func64, Tryd.ntmps64
  go_wp2
  go_region_o
  all_goals (go_wp2; go_ret; exact ⟨rfl, rfl⟩)
set_option maxHeartbeats 2000000 in
set_option maxRecDepth 100000 in
theorem string_nil (b : Nat) (w : World) (c0 : w.cell? ⟨b, 1, none⟩ = some (.slice none 0 0)) :
    Calls Tryd.prog 64 #[.pointer (some ⟨b, 0, none⟩)] w fun e w' => e = .returned (.string ⟨#[]⟩) ∧ w' = w.drew := by
  have c1 : w.drew.cell? ⟨b, 1, none⟩ = some (.slice none 0 0) := c0
  have hSD : (Builtin.unsafeSliceData_ #[97] 151 #[.slice none 0 0]).run Tryd.prog w.drew = .ok (.pointer none) w.drew := rfl
  have hUS : (Builtin.unsafeString_ #[151, 3] 9 #[.pointer none, .int .i64 0]).run Tryd.prog w.drew = .ok (.string ⟨#[]⟩) w.drew := Lib.run_unsafeString_none w.drew _ _ _ none
  have mixed := mixed
  go_enter Tryd.func64, Tryd.ntmps64
  go_wp2
  go_region_o
  all_goals (go_wp2; go_ret; exact ⟨rfl, rfl⟩)
end Go.Proofs.YtmalhikcdideoaaDoor

set_option linter.unusedVariables false
set_option linter.unusedSimpArgs false
namespace Go.Proofs.YtmalhikcdideoaaDoor
open Go Sl
attribute [local irreducible] LpQ XR XRo XRg XRQ putQ XFv XL XW2 wQ putW X XO XOp XH XHo XW SeqQ BlkQ XOQ XHQ NrmQ XC XM XG XHM XHG XD CallK
open Go.RowKit
abbrev ptrV (b : Nat) : AV := .v (.pointer (some ⟨b, 0, none⟩))
@[go_sem] def cB (c : UInt8) : List AV := [U8 c]
/-- A builder of the call's own, above the heap h0: what was written. -/
structure BldO (b : Nat) (o : Ob) : Prop where
  ty : o.ty = 99
  s : o.s = 2
  n : o.n = 1
  f : o.f 0 0 = .v (.pointer none) ∨ o.f 0 0 = ptrV b
def Bld (h0 h : Hp) (b : Nat) (l : List UInt8) : Prop := h0 b = none ∧ ∃ o, BldO b o ∧ (l = [] → o.f 0 1 = .v (.slice none 0 0)) ∧ Own (upd h0 b (some o)) h (o.f 0 1) 5 1 l.length (cellsL cB l)
theorem Bld.fresh {h : Hp} {b : Nat} (hb : h b = none) : Bld h (upd h b (some ⟨99, 2, 1, fun _ j => .v (([.pointer none, .slice none 0 0] : List Value).getD j undef)⟩)) b [] :=
  ⟨hb, _, ⟨rfl, rfl, rfl, .inl rfl⟩, fun _ => rfl, Own.none⟩
theorem Bld.sub {h0 h : Hp} {b : Nat} {l : List UInt8} (x : Bld h0 h b l) : Sub h0 h := by
  obtain ⟨hb, o, _, _, hown⟩ := x
  exact fun c oc hc => hown.1 c oc (by rw [upd_ne _ _ (ne_free hb hc).2]; exact hc)
theorem upd_id {h : Hp} {b : Nat} {o : Ob} (hb : h b = some o) : upd h b (some o) = h := by
  funext c
  by_cases hc : c = b
  · subst hc; rw [upd_same, hb]
  · rw [upd_ne _ _ hc]
def setP (b : Nat) (o : Ob) : Ob := ⟨o.ty, 2, 1, fun i j => if i = 0 ∧ j = 0 then ptrV b else o.f i j⟩
theorem check_ok {h : Hp} {b : Nat} {o : Ob} (hb : h b = some o) (ho : BldO b o) : CallK Tryd.prog h 99 [ptrV b] fun r h' => ∃ o', h' = upd h b (some o') ∧ BldO b o' ∧ o'.f 0 1 = o.f 0 1 := by
  unfold CallK
  intro w vals hh ha
  obtain rfl : vals = #[.pointer (some ⟨b, 0, none⟩)] := by
    obtain ⟨u, e, r⟩ := ha.2 0 _ rfl
    cases r
    have h1 := ha.1
    apply Array.ext
    · simpa using h1
    · intro i h2 h3
      match i, h3 with
      | 0, _ => rw [Array.getElem?_eq_getElem h2] at e; simpa using e
  obtain ⟨c, hc, hsz, _, hcell⟩ := hh.cells hb (.inl (by rw [ho.n]; omega))
  rw [ho.n, ho.s] at hsz
  obtain ⟨x0, hx0, _, hr0⟩ := hcell 0 (by rw [ho.n]; omega) 0 (by rw [ho.s]; omega)
  have hx0' : c[0]? = some x0 := by simpa using hx0
  rw [ho.ty] at hc
  have hcl : w.cell? ⟨b, 0, none⟩ = some x0 := by simp only [World.cell?, hc]; exact hx0'
  rcases ho.f with hf | hf
  · rw [hf] at hr0
    cases hr0
    refine (check_fresh b c.size w hcl (by simp [World.shape?, hc]) (by omega) (by simp [World.frozen?, hc])).mono ?_
    rintro e w' ⟨rfl, rfl⟩
    have hs : (w.setCell ⟨b, 0, none⟩ (.pointer (some ⟨b, 0, none⟩))).heap[b]? = some (.cells (c.setIfInBounds 0 (.pointer (some ⟨b, 0, none⟩))) o.ty (0, 0)) := by
      rw [ho.ty]
      simp [World.setCell, Array.getElem?_modify, hc]
    have hoth : ∀ k, k ≠ b → k < w.heap.size → (w.setCell ⟨b, 0, none⟩ (.pointer (some ⟨b, 0, none⟩))).heap[k]? = w.heap[k]? := fun k hk _ => by
      simp [World.setCell, Array.getElem?_modify, Ne.symm hk]
    have hsize : w.heap.size ≤ (w.setCell ⟨b, 0, none⟩ (.pointer (some ⟨b, 0, none⟩))).heap.size := by simp [World.setCell]
    have hc2 : w.heap[b]? = some (.cells c o.ty (0, 0)) := by rw [ho.ty]; exact hc
    have hrel := relH_set (o' := setP b o) hh hb hc2 hs (by simp) hoth hsize rfl (by simpa [setP] using hsz) (by show 0 < 2; decide) fun i hi j hj => by
      have hi : i < 1 := hi
      obtain rfl : i = 0 := by omega
      have hj : j < 2 := hj
      rcases (show j = 0 ∨ j = 1 by omega) with rfl | rfl
      · exact ⟨.pointer (some ⟨b, 0, none⟩), by simp [setP, show 0 < c.size by omega], rfl, rfl⟩
      · obtain ⟨x1, hx1, h1, hr1⟩ := hcell 0 (by rw [ho.n]; omega) 1 (by rw [ho.s]; omega)
        exact ⟨x1, by simpa [setP] using hx1, h1, by simpa [setP] using hr1⟩
    have hst := stp_set (o' := setP b o) hb hc2 hs (by simp) hoth hsize rfl
    exact ⟨_, .tup 0 fun _ => .any, upd h b (some (setP b o)), rfl, ⟨setP b o, rfl, ⟨ho.ty, rfl, rfl, .inr rfl⟩, rfl⟩, ⟨#[], rfl, rfl, fun j hj => absurd hj (by omega)⟩, hrel, ⟨rfl, rfl, rfl⟩, hst⟩
  · rw [hf] at hr0
    cases hr0
    refine (check_used b w hcl).mono ?_
    rintro e w' ⟨rfl, rfl⟩
    exact ⟨_, .tup 0 fun _ => .any, h, rfl, ⟨o, (upd_id hb).symm, ho, rfl⟩, ⟨#[], rfl, rfl, fun j hj => absurd hj (by omega)⟩, hh, Io.refl _, Stp.refl _ _⟩
/-- What is read of a builder; nothing of what was made since h0 is the call's own any more. -/
theorem string_ok {h0 h : Hp} {b : Nat} {l : List UInt8} (x : Bld h0 h b l) (hl : l.length ≤ 140737488355328) : CallK Tryd.prog h 64 [ptrV b] fun r h' => r = S (bOf l) ∧ h' = h0 := by
  have hsub := x.sub
  obtain ⟨hb0, o, ho, hnil, hown⟩ := x
  have hb := hown.1 b o (upd_same _ _ _)
  unfold CallK
  intro w vals hh ha
  obtain rfl : vals = #[.pointer (some ⟨b, 0, none⟩)] := by
    obtain ⟨u, e, r⟩ := ha.2 0 _ rfl
    cases r
    have h1 := ha.1
    apply Array.ext
    · simpa using h1
    · intro i h2 h3
      match i, h3 with
      | 0, _ => rw [Array.getElem?_eq_getElem h2] at e; simpa using e
  obtain ⟨c, hc, hsz, _, hcell⟩ := hh.cells hb (.inl (by rw [ho.n]; omega))
  rw [ho.n, ho.s] at hsz
  obtain ⟨x1, hx1, _, hr1⟩ := hcell 0 (by rw [ho.n]; omega) 1 (by rw [ho.s]; omega)
  have hx1' : c[1]? = some x1 := by simpa [ho.s] using hx1
  have hcl : w.cell? ⟨b, 1, none⟩ = some x1 := by simp only [World.cell?, hc]; exact hx1'
  rcases l with _ | ⟨c0, l⟩
  · rw [hnil rfl] at hr1
    cases hr1
    refine (string_nil b w hcl).mono ?_
    rintro e w' ⟨rfl, rfl⟩
    exact ⟨_, _, h0, rfl, ⟨rfl, rfl⟩, rfl, (relH_forget hh hsub).grow (Nat.le_refl _) (fun _ _ => rfl), ⟨rfl, rfl, rfl⟩, (stp_forget hsub).trans (Stp.grow (relH_forget hh hsub) (Nat.le_refl _) fun _ _ => rfl)⟩
  · rcases hown with ⟨_, ⟨hz, _⟩ | ⟨g, og, hrow, hg0, hg, s1, s2, s3, hpos, hf⟩⟩
    · cases hz
    rw [hrow] at hr1
    obtain ⟨cap, rfl, hcap, hlt, _, hsize⟩ := hr1
    obtain ⟨cg, hcg, hgsz, _, hgc⟩ := hh.cells hg (.inl (by omega))
    rw [s1, s3, Nat.mul_one] at hgsz
    rw [s2] at hcg
    have hw0 : ((0 : Nat) * 1) = 0 := rfl
    rw [hw0] at hcl
    refine (string_run b g cap (c0 :: l) cg.size w (by simp) hcap (by omega) hcl (by simp [World.shape?, hcg]) hgsz (fun j y hy => ?_)).mono ?_
    · have hj : j < (c0 :: l).length := (List.getElem?_eq_some_iff.1 hy).1
      obtain ⟨z, hz, _, hrz⟩ := hgc j (by omega) 0 (by omega)
      rw [hf j hj 0 (by omega), cellsL_at hy] at hrz
      cases hrz
      rw [s1] at hz
      have : ((⟨g, 0, none⟩ : Addr).add j) = ⟨g, j, none⟩ := by
        unfold Addr.add
        by_cases hj0 : j = 0 <;> simp [hj0]
      rw [this]
      simp only [World.cell?, hcg]
      simpa using hz
    · rintro e w' ⟨rfl, rfl⟩
      have hoth : ∀ k, k ≠ g → (w.drew.freeze ⟨g, 0, none⟩ (c0 :: l).length).heap[k]? = w.heap[k]? := fun k hk => by
        unfold World.freeze
        split
        · rfl
        · have e : w.drew.heap = w.heap := rfl
          simp [Array.getElem?_modify, Ne.symm hk, e]
      have hsz2 : w.heap.size ≤ (w.drew.freeze ⟨g, 0, none⟩ (c0 :: l).length).heap.size := by
        unfold World.freeze
        split
        · exact Nat.le_refl _
        · have e : w.drew.heap = w.heap := rfl
          simp [e]
      have h0g : h0 g = none := by
        rw [← hg0, upd_ne _ _ (fun e => by rw [e, upd_same] at hg0; cases hg0)]
      have st : Stp w h (w.drew.freeze ⟨g, 0, none⟩ (c0 :: l).length) h0 := by
        refine ⟨hsz2, fun k _ hk => hoth k (fun e => by rw [e, hg] at hk; cases hk), fun k _ hk => sub_none_of hsub hk, fun k o' _ hk => ?_⟩
        have hkg : k ≠ g := fun e => by rw [e, h0g] at hk; cases hk
        exact ⟨o', hsub k o' hk, rfl, fun c fr hcc => ⟨c, fr, (hoth k hkg).trans hcc, rfl⟩⟩
      have hrel : RelH (w.drew.freeze ⟨g, 0, none⟩ (c0 :: l).length) h0 := by
        refine ⟨fun k o' hk => ?_, hh.glob.step st⟩
        have hkg : k ≠ g := fun e => by rw [e, h0g] at hk; cases hk
        exact (hh.own k o' (hsub k o' hk)).step st (hoth k hkg)
      refine ⟨_, _, h0, rfl, ⟨rfl, rfl⟩, rfl, hrel, ?_, st⟩
      unfold World.freeze
      split
      · exact ⟨rfl, rfl, rfl⟩
      · exact ⟨rfl, rfl, rfl⟩
end Go.Proofs.YtmalhikcdideoaaDoor

set_option linter.unusedVariables false
set_option linter.unusedSimpArgs false
namespace Go.Proofs.YtmalhikcdideoaaDoor
open Go Sl
attribute [local irreducible] LpQ XR XRo XRg XRQ putQ XFv XL XW2 wQ putW X XO XOp XH XHo XW SeqQ BlkQ XOQ XHQ NrmQ XC XM XG XHM XHG XD CallK
theorem Own.congr {h0 h : Hp} {a : AV} {e : TypeId} {s n : Nat} {f g : Nat → Nat → AV} (o : Own h0 h a e s n f) (hfg : ∀ i, i < n → ∀ j, j < s → f i j = g i j) : Own h0 h a e s n g := by
  obtain ⟨hs, ho⟩ := o
  refine ⟨hs, ho.imp id ?_⟩
  rintro ⟨b, o, h1, h2, h3, h4, h5, h6, h7, h8⟩
  exact ⟨b, o, h1, h2, h3, h4, h5, h6, h7, fun i hi j hj => (h8 i hi j hj).trans (hfg i hi j hj)⟩
/-- An append of a text, whatever block it gives. -/
theorem Own.appendStr {P : Program} {N : Nat} {T : Nat → AV} {h0 h : Hp} {K : (Nat → AV) → Hp → Prop} {d : Option Tmp} {x y : Operand} {t u e : TypeId} {t' : TypeId} {p : String} {af : Array Edge} {g : Option (Nat × Bool)} {n by_ : Nat} {z : List Value} {f : Nat → Nat → AV} {s : ByteArray} {a : AV}
    (o : Own h0 h a e 1 n f) (ha : ev T x = a) (hne : a ≠ .e0) (hu : P.underlying t = some (.slice e)) (hu' : P.underlying u = some .string) (hz : zeroA P e = some (1, z)) (hb : bytesT P e = some by_) (hd : dOk N d = true) (hs : ev T y = .v (.string s)) (hm : (n + s.size) * by_ ≤ 140737488355328) (hm' : n + s.size ≤ 140737488355328)
    (hk : ∀ a' h', Own h0 h' a' e 1 (n + s.size) (fun i j => if i < n then f i j else bytesF s (i - n) j) → (∀ c oc, h c = some oc → a ≠ .row c 1 0 n → h' c = some oc) → K (putD T d a') h') : XW P N ⟨d, .call ⟨.builtin .append, #[x, y], #[t, u]⟩, t', p, af, g⟩ T h K := by
  have hsub := o.1
  unfold XW
  refine ⟨hd, .inr ⟨e, z, by_, s, hu, hu', hz, hb, hs, ?_⟩⟩
  rcases o with ⟨_, ⟨hn, ha' | ha'⟩ | ⟨b, ob, ha', hb0, h1, h2, h4, h5, hpos, h6⟩⟩
  · subst hn
    refine .inl ⟨ha.trans ha', by simpa using hm, by omega, fun h => hk _ _ ⟨hsub, .inl ⟨by omega, .inl rfl⟩⟩ (fun c oc hc _ => hc), fun hpos b hbn => hk _ _ ⟨Sub.upd ?_ hsub, .inr ⟨b, _, by simp, ?_, upd_same _ _ _, rfl, rfl, by simp, by omega, fun i hi j hj => by simp [bytesF]⟩⟩ (fun c oc hc _ => by rw [upd_ne _ _ (fun e => by subst e; rw [hc] at hbn; cases hbn)]; exact hc)⟩
    · exact sub_none_of hsub hbn
    · exact sub_none_of hsub hbn
  · exact absurd ha' hne
  · refine .inr ⟨b, n, ob, ha.trans ha', h1, h2, h4, h5, hm, hm', fun b' hb' => hk _ _ ⟨?_, .inr ⟨b', _, rfl, ?_, upd_same _ _ _, rfl, rfl, rfl, by omega, fun i hi j hj => ?_⟩⟩ (fun c oc hc hne => ?_)⟩
    · have hb'0 : h0 b' = Option.none := by
        rcases hb' with rfl | hb'
        · exact hb0
        · exact sub_none_of hsub hb'
      exact Sub.upd hb'0 (Sub.upd hb0 hsub)
    · rcases hb' with rfl | hb'
      · exact hb0
      · exact sub_none_of hsub hb'
    · show (if i < n then ob.f i j else bytesF s (i - n) j) = (if i < n then f i j else bytesF s (i - n) j)
      split
      · rw [h6 i (by omega) j hj]
      · rfl
    · have hcb : c ≠ b := fun e => hne (by rw [ha', e])
      have hcb' : c ≠ b' := by
        rcases hb' with rfl | hb'
        · exact hcb
        · intro e; subst e; rw [hc] at hb'; cases hb'
      rw [upd_ne _ _ hcb', upd_ne _ _ hcb]; exact hc
theorem write_ok {h0 h : Hp} {b : Nat} {l : List UInt8} (x : Bld h0 h b l) (s : ByteArray) (hne : l ≠ [] ∨ s.data.toList ≠ []) (hlen : l.length + s.size ≤ 140737488355328) :
    CallK Tryd.prog h 63 [ptrV b, S s] fun r h' => Bld h0 h' b (l ++ s.data.toList) := by
  obtain ⟨hb0, o, ho, hnil, hown⟩ := x
  have hb := hown.1 b o (upd_same _ _ _)
  refine callK_body Tryd.func63 rfl (by rw [nt63]; simp) ?_; rw [nt63, rs63]
  (repeat' (first | simp [go_sem, X_region, *] | simp (disch := omega) only [om, *] | ((first | refine XC_split ?_ ?_ | refine XG_true ?_ ?_ | refine XG_false ?_ ?_ | refine XRg_true ?_ ?_ | refine XRg_false ?_ ?_) <;> intro hc <;> (try simp only [bl] at hc) <;> (try (exfalso; omega))) | refine XD_w [] [] [] (fun _ => none) mixed (by decide +kernel) (sub_none _) ?_ | fail))
  refine CallK.mono (check_ok hb ho) ?_
  rintro r1 h1 ⟨o1, rfl, ho1, hf1⟩
  have own1 : Own (upd h0 b (some o1)) (upd h b (some o1)) (o1.f 0 1) 5 1 l.length (cellsL cB l) := by
    rw [hf1]
    have := hown.other (o2 := o1) (upd_same _ _ _) fun c hc e => by
      rcases hown with ⟨_, ⟨_, h2 | h2⟩ | ⟨g, og, h2, h3, _⟩⟩
      · rw [hc] at h2; cases h2
      · rw [hc] at h2; cases h2
      · rw [hc] at h2
        cases h2
        subst e
        rw [upd_same] at h3
        cases h3
    rwa [upd_upd] at this
  have hne0 : o1.f 0 1 ≠ .e0 := by
    rw [hf1]
    intro e
    by_cases hl : l = []
    · rw [hnil hl] at e; cases e
    · rcases hown with ⟨_, ⟨h1, _⟩ | ⟨g, og, h2, _⟩⟩
      · exact hl (List.length_eq_zero_iff.1 h1)
      · rw [h2] at e; cases e
  clear hown hf1
  generalize hh1 : upd h b (some o1) = h1 at *
  have hb1 : h1 b = some o1 := by rw [← hh1, upd_same]
  clear hh1
  have e1 := ho1.s
  have e2 := ho1.n
  obtain ⟨a, ha⟩ : ∃ a, o1.f 0 1 = a := ⟨_, rfl⟩
  rw [ha] at own1 hne0
  (repeat' (first | simp [go_sem, X_region, *] | simp (disch := omega) only [om, *] | ((first | refine XC_split ?_ ?_ | refine XG_true ?_ ?_ | refine XG_false ?_ ?_ | refine XRg_true ?_ ?_ | refine XRg_false ?_ ?_) <;> intro hc <;> (try simp only [bl] at hc) <;> (try (exfalso; omega))) | refine XD_w [] [] [] (fun _ => none) mixed (by decide +kernel) (sub_none _) ?_ | fail))
  refine Own.appendStr own1 (by simp [go_sem]) hne0 und97 und9 zr5 by5 (by simp [go_sem]) (s := s) (by simp [go_sem]) (by omega) (by omega) ?_
  rintro a' h2 own2 hk2
  have hb2 : h2 b = some o1 := own2.1 b o1 (upd_same _ _ _)
  have hpos : 0 < l.length + s.size := by
    rcases hne with h | h
    · have := List.length_pos_iff.2 h
      omega
    · have : 0 < s.data.toList.length := List.length_pos_iff.2 h
      have : s.size = s.data.toList.length := rfl
      omega
  have hgb : ∀ c, a' = .row c 1 0 (l.length + s.size) → c ≠ b := by
    rintro c hc rfl
    rcases own2 with ⟨_, ⟨h1, _⟩ | ⟨g, og, h1, h3, _⟩⟩
    · omega
    · rw [h1] at hc
      cases hc
      rw [upd_same] at h3
      cases h3
  obtain ⟨g, hg⟩ : ∃ g, a' = .row g 1 0 (l.length + s.size) := by
    rcases own2 with ⟨_, ⟨h1, _⟩ | ⟨g, og, h1, _⟩⟩
    · omega
    · exact ⟨g, h1⟩
  have hf0 := ho1.f
  subst hg
  (repeat' (first | simp [go_sem, X_region, *] | simp (disch := omega) only [om, *] | ((first | refine XC_split ?_ ?_ | refine XG_true ?_ ?_ | refine XG_false ?_ ?_ | refine XRg_true ?_ ?_ | refine XRg_false ?_ ?_) <;> intro hc <;> (try simp only [bl] at hc) <;> (try (exfalso; omega))) | refine XD_w [] [] [] (fun _ => none) mixed (by decide +kernel) (sub_none _) ?_ | fail))
  refine ⟨_, _, Wk.refl _ _, hb0, ⟨o1.ty, 2, 1, fun i' j' => if i' = 0 ∧ 1 ≤ j' ∧ j' < 2 then AV.row g 1 0 (l.length + s.size) else o1.f i' j'⟩, ⟨ho1.ty, rfl, rfl, ?_⟩, fun h => ?_, ?_⟩
  · simpa using hf0
  · rw [List.append_eq_nil_iff] at h
    rcases hne with h' | h'
    · exact absurd h.1 h'
    · exact absurd h.2 h'
  · have e1 := own2.other (o2 := ⟨o1.ty, 2, 1, fun i' j' => if i' = 0 ∧ 1 ≤ j' ∧ j' < 2 then AV.row g 1 0 (l.length + s.size) else o1.f i' j'⟩) (upd_same _ _ _) fun c hc => hgb c hc
    rw [upd_upd] at e1
    have e2 : (l ++ s.data.toList).length = l.length + s.size := by rw [List.length_append]; rfl
    rw [e2]
    refine Own.congr e1 fun i hi j hj => ?_
    obtain rfl : j = 0 := by omega
    by_cases hil : i < l.length
    · rw [if_pos hil, cellsL_at (x := l[i]) (by simp [hil]), cellsL_at (x := l[i]) (by rw [List.getElem?_append_left hil]; simp)]
    · have h3 : i - l.length < s.data.toList.length := by have : s.size = s.data.toList.length := rfl; omega
      rw [if_neg hil, cellsL_at (x := s.data.toList[i - l.length]) (by rw [List.getElem?_append_right (by omega)]; simp)]
      unfold bytesF
      rw [List.getD_eq_getElem?_getD, List.getElem?_eq_getElem h3]
      rfl
end Go.Proofs.YtmalhikcdideoaaDoor

namespace Go.Proofs
open Go.Shelf
def Tryd.laysM171_ren : Go.Shelf.Ren := ⟨fun | 171 => 98 | 243 => 124 | 246 => 140 | 283 => 149 | 284 => 150 | 285 => 151 | 286 => 152 | 129 => 136 | 317 => 154 | 318 => 155 | 319 => 156 | 320 => 157 | 337 => 158 | 338 => 159 | n => n, fun | 3 => 3 | 9 => 9 | 2 => 2 | 4 => 4 | 171 => 203 | 0 => 0 | 53 => 188 | 37 => 97 | 5 => 5 | 173 => 205 | 212 => 210 | 51 => 136 | 20 => 20 | 213 => 211 | 46 => 139 | 232 => 212 | 233 => 213 | n => n, fun | 17 => 5 | 18 => 6 | 19 => 7 | n => n⟩
theorem Tryd.laysM171 : Go.Proofs.LaysM.n171 Tryd.prog Tryd.laysM171_ren := {
  mixed := by kernel_rfl
  f129 := Tryd.func136.trans (congrArg some (by kernel_rfl))
  f171 := Tryd.func98.trans (congrArg some (by kernel_rfl))
  f243 := Tryd.func124.trans (congrArg some (by kernel_rfl))
  f246 := Tryd.func140.trans (congrArg some (by kernel_rfl))
  f283 := Tryd.func149.trans (congrArg some (by kernel_rfl))
  f284 := Tryd.func150.trans (congrArg some (by kernel_rfl))
  f285 := Tryd.func151.trans (congrArg some (by kernel_rfl))
  f286 := Tryd.func152.trans (congrArg some (by kernel_rfl))
  f317 := Tryd.func154.trans (congrArg some (by kernel_rfl))
  f318 := Tryd.func155.trans (congrArg some (by kernel_rfl))
  f319 := Tryd.func156.trans (congrArg some (by kernel_rfl))
  f320 := Tryd.func157.trans (congrArg some (by kernel_rfl))
  f337 := Tryd.func158.trans (congrArg some (by kernel_rfl))
  f338 := Tryd.func159.trans (congrArg some (by kernel_rfl))
  t0 := Tryd.underlying0
  a0 := Tryd.isAgg0
  z0 := Tryd.sizeOf0
  v0 := Tryd.zeroValue0
  t2 := Tryd.underlying2
  a2 := Tryd.isAgg2
  z2 := Tryd.sizeOf2
  v2 := Tryd.zeroValue2
  t3 := Tryd.underlying3
  a3 := Tryd.isAgg3
  z3 := Tryd.sizeOf3
  v3 := Tryd.zeroValue3
  t4 := Tryd.underlying4
  a4 := Tryd.isAgg4
  z4 := Tryd.sizeOf4
  v4 := Tryd.zeroValue4
  t5 := Tryd.underlying5
  a5 := Tryd.isAgg5
  z5 := Tryd.sizeOf5
  v5 := Tryd.zeroValue5
  t9 := Tryd.underlying9
  a9 := Tryd.isAgg9
  z9 := Tryd.sizeOf9
  v9 := Tryd.zeroValue9
  t20 := Tryd.underlying20
  a20 := Tryd.isAgg20
  z20 := Tryd.sizeOf20
  v20 := Tryd.zeroValue20
  t37 := Tryd.underlying97
  a37 := Tryd.isAgg97
  z37 := Tryd.sizeOf97
  v37 := Tryd.zeroValue97
  t46 := Tryd.underlying139
  a46 := Tryd.isAgg139
  z46 := Tryd.sizeOf139
  v46 := Tryd.zeroValue139
  t51 := Tryd.underlying136
  a51 := Tryd.isAgg136
  z51 := Tryd.sizeOf136
  v51 := Tryd.zeroValue136
  t53 := Tryd.underlying188
  a53 := Tryd.isAgg188
  z53 := Tryd.sizeOf188
  v53 := Tryd.zeroValue188
  t171 := Tryd.underlying203
  a171 := Tryd.isAgg203
  z171 := Tryd.sizeOf203
  v171 := Tryd.zeroValue203
  t173 := Tryd.underlying205
  a173 := Tryd.isAgg205
  z173 := Tryd.sizeOf205
  v173 := Tryd.zeroValue205
  t212 := Tryd.underlying210
  a212 := Tryd.isAgg210
  z212 := Tryd.sizeOf210
  v212 := Tryd.zeroValue210
  t213 := Tryd.underlying211
  a213 := Tryd.isAgg211
  z213 := Tryd.sizeOf211
  t232 := Tryd.underlying212
  a232 := Tryd.isAgg212
  z232 := Tryd.sizeOf212
  v232 := Tryd.zeroValue212
  t233 := Tryd.underlying213
  a233 := Tryd.isAgg213
  z233 := Tryd.sizeOf213
  v233 := Tryd.zeroValue213
  g17 := by kernel_rfl
  g18 := by kernel_rfl
  g19 := by kernel_rfl
  i0 := by kernel_rfl
  i2 := by kernel_rfl
  i3 := by kernel_rfl
  i4 := by kernel_rfl
  i5 := by kernel_rfl
  i9 := by kernel_rfl
  i20 := by kernel_rfl
  i37 := by kernel_rfl
  i46 := by kernel_rfl
  i51 := by kernel_rfl
  i53 := by kernel_rfl
  i171 := by kernel_rfl
  i173 := by kernel_rfl
  i212 := by kernel_rfl
  i232 := by kernel_rfl
  i233 := by kernel_rfl
  m17 := by kernel_rfl
  m18 := by kernel_rfl
  m19 := by kernel_rfl }
def Tryd.lays190_ren : Go.Shelf.Ren := ⟨fun | 190 => 79 | 125 => 112 | 258 => 111 | 128 => 135 | 129 => 136 | 302 => 127 | 303 => 128 | 304 => 129 | 305 => 130 | 306 => 131 | 307 => 132 | 308 => 87 | 309 => 133 | 310 => 134 | 333 => 141 | 329 => 142 | 330 => 143 | 334 => 144 | 335 => 145 | 336 => 116 | 344 => 153 | n => n, fun | 31 => 33 | 9 => 9 | 3 => 3 | 46 => 139 | 0 => 0 | 51 => 136 | 53 => 188 | 4 => 4 | 183 => 181 | 182 => 180 | 131 => 89 | 5 => 5 | 218 => 193 | 222 => 197 | 228 => 207 | 229 => 80 | n => n, fun | n => n⟩
theorem Tryd.lays190 : Go.Proofs.Lays.n190 Tryd.prog Tryd.lays190_ren := {
  mixed := by kernel_rfl
  f125 := Tryd.func112.trans (congrArg some (by kernel_rfl))
  f128 := Tryd.func135.trans (congrArg some (by kernel_rfl))
  f129 := Tryd.func136.trans (congrArg some (by kernel_rfl))
  f190 := Tryd.func79.trans (congrArg some (by kernel_rfl))
  f258 := Tryd.func111.trans (congrArg some (by kernel_rfl))
  f302 := Tryd.func127.trans (congrArg some (by kernel_rfl))
  f303 := Tryd.func128.trans (congrArg some (by kernel_rfl))
  f304 := Tryd.func129.trans (congrArg some (by kernel_rfl))
  f305 := Tryd.func130.trans (congrArg some (by kernel_rfl))
  f306 := Tryd.func131.trans (congrArg some (by kernel_rfl))
  f307 := Tryd.func132.trans (congrArg some (by kernel_rfl))
  f308 := Tryd.func87.trans (congrArg some (by kernel_rfl))
  f309 := Tryd.func133.trans (congrArg some (by kernel_rfl))
  f310 := Tryd.func134.trans (congrArg some (by kernel_rfl))
  f329 := Tryd.func142.trans (congrArg some (by kernel_rfl))
  f330 := Tryd.func143.trans (congrArg some (by kernel_rfl))
  f333 := Tryd.func141.trans (congrArg some (by kernel_rfl))
  f334 := Tryd.func144.trans (congrArg some (by kernel_rfl))
  f335 := Tryd.func145.trans (congrArg some (by kernel_rfl))
  f336 := Tryd.func116.trans (congrArg some (by kernel_rfl))
  f344 := Tryd.func153.trans (congrArg some (by kernel_rfl))
  t0 := Tryd.underlying0
  a0 := Tryd.isAgg0
  z0 := Tryd.sizeOf0
  v0 := Tryd.zeroValue0
  t3 := Tryd.underlying3
  a3 := Tryd.isAgg3
  z3 := Tryd.sizeOf3
  v3 := Tryd.zeroValue3
  t4 := Tryd.underlying4
  a4 := Tryd.isAgg4
  z4 := Tryd.sizeOf4
  v4 := Tryd.zeroValue4
  t5 := Tryd.underlying5
  a5 := Tryd.isAgg5
  z5 := Tryd.sizeOf5
  v5 := Tryd.zeroValue5
  t9 := Tryd.underlying9
  a9 := Tryd.isAgg9
  z9 := Tryd.sizeOf9
  v9 := Tryd.zeroValue9
  t31 := Tryd.underlying33
  a31 := Tryd.isAgg33
  z31 := Tryd.sizeOf33
  v31 := Tryd.zeroValue33
  t46 := Tryd.underlying139
  a46 := Tryd.isAgg139
  z46 := Tryd.sizeOf139
  v46 := Tryd.zeroValue139
  t51 := Tryd.underlying136
  a51 := Tryd.isAgg136
  z51 := Tryd.sizeOf136
  v51 := Tryd.zeroValue136
  t53 := Tryd.underlying188
  a53 := Tryd.isAgg188
  z53 := Tryd.sizeOf188
  v53 := Tryd.zeroValue188
  t131 := Tryd.underlying89
  a131 := Tryd.isAgg89
  z131 := Tryd.sizeOf89
  v131 := Tryd.zeroValue89
  t182 := Tryd.underlying180
  a182 := Tryd.isAgg180
  z182 := Tryd.sizeOf180
  v182 := Tryd.zeroValue180
  t183 := Tryd.underlying181
  a183 := Tryd.isAgg181
  z183 := Tryd.sizeOf181
  v183 := Tryd.zeroValue181
  t218 := Tryd.underlying193
  a218 := Tryd.isAgg193
  z218 := Tryd.sizeOf193
  v218 := Tryd.zeroValue193
  t222 := Tryd.underlying197
  a222 := Tryd.isAgg197
  z222 := Tryd.sizeOf197
  v222 := Tryd.zeroValue197
  t228 := Tryd.underlying207
  a228 := Tryd.isAgg207
  z228 := Tryd.sizeOf207
  v228 := Tryd.zeroValue207
  t229 := Tryd.underlying80
  a229 := Tryd.isAgg80
  z229 := Tryd.sizeOf80
  v229 := Tryd.zeroValue80 }
end Go.Proofs

set_option linter.unusedVariables false
set_option linter.unusedSimpArgs false
namespace Go.Proofs.YtmalhikcdideoaaDoor
open Go Sl
attribute [local irreducible] LpQ XR XRo XRg XRQ putQ XFv XL XW2 wQ putW X XO XOp XH XHo XW SeqQ BlkQ XOQ XHQ NrmQ XC XM XG XHM XHG XD CallK
theorem vals_one {w : World} {h : Hp} {x : Value} {vals : Array Value} (ha : RdL w h [.v x] vals) : vals = #[x] := by
  obtain ⟨u, e, r⟩ := ha.2 0 _ rfl
  cases r
  have h1 := ha.1
  apply Array.ext
  · simpa using h1
  · intro i h2 h3
    match i, h3 with
    | 0, _ => rw [Array.getElem?_eq_getElem h2] at e; simpa using e
theorem tab_of {w : World} {h : Hp} (hh : RelH w h) : Lib.TabIs Tryd.prog w "internal/strconv.uint64pow10" .u64 Lib.pow10Tab := by
  obtain ⟨_, ⟨ty, fr, hc⟩, _⟩ := hh.glob (5, powL) (by simp [gl])
  have hg : Tryd.prog.globalNamed "internal/strconv.uint64pow10" = some 5 := by kernel_rfl
  have hc' : w.heap[5]? = some (Obj.cells powL.toArray ty fr) := hc
  unfold Lib.TabIs World.var?
  rw [hg, Option.bind_some, hc']
  rfl
theorem itoa_ok (n : Int) (h0 : -9223372036854775808 ≤ n) (h1 : n ≤ 9223372036854775807) : Pure Tryd.prog 98 [I n] (S ⟨(Lib.itoa n).toArray⟩) := by
  intro h
  unfold CallK
  intro w vals hh ha
  obtain rfl : vals = #[.int .i64 n] := vals_one ha
  refine (Any.strconv_Itoa Tryd.laysM171 n h0 h1 w (tab_of hh)).mono ?_
  rintro e w' ⟨rfl, k, os, rfl⟩
  have hb : ∀ b, b < w.heap.size → (Go.Sort.grow (w.drewN k) os).heap[b]? = w.heap[b]? := fun b hb => by
    have : (w.drewN k).heap = w.heap := rfl
    simp [Go.Sort.grow, this, Array.getElem?_append_left hb]
  have hs : w.heap.size ≤ (Go.Sort.grow (w.drewN k) os).heap.size := by
    have : (w.drewN k).heap = w.heap := rfl
    simp [Go.Sort.grow, this]
  exact ⟨_, _, h, rfl, ⟨rfl, rfl⟩, rfl, hh.grow hs hb, ⟨rfl, rfl, rfl⟩, Stp.grow hh hs hb⟩
def boolB (b : Bool) : ByteArray := if b then ⟨#[116, 114, 117, 101]⟩ else ⟨#[102, 97, 108, 115, 101]⟩
theorem fbool1_ok (b : Bool) : Pure Tryd.prog 100 [B b] (S (boolB b)) := by
  cases b
  · intro h; refine callK_body Tryd.func100 rfl (by rw [nt100]; simp) ?_; rw [nt100, rs100]
    ((repeat' (first | simp [go_sem, X_region, *] | simp (disch := omega) only [om, *] | ((first | refine XC_split ?_ ?_ | refine XG_true ?_ ?_ | refine XG_false ?_ ?_ | refine XRg_true ?_ ?_ | refine XRg_false ?_ ?_) <;> intro hc <;> (try simp only [bl] at hc) <;> (try (exfalso; omega))) | refine XD_w [] [] [] (fun _ => none) mixed (by decide +kernel) (sub_none _) ?_ | (intro bk hbk; (try simp only [go_sem] at hbk)))); all_goals (refine Wk.fin (by repeat (first | exact Sub.refl _ | refine Sub.upd (by simp [*]) ?_)) ?_; first | (simp [boolB, *]; done) | (simp only [boolB]; (repeat' (first | split | rfl | omega | (simp_all; done))); done) | (simp [boolB, *]; (repeat' (first | split | omega | (rw [Bool.eq_iff_iff]; simp; omega))); done) | (simp [boolB, *])))
  · intro h; refine callK_body Tryd.func100 rfl (by rw [nt100]; simp) ?_; rw [nt100, rs100]
    ((repeat' (first | simp [go_sem, X_region, *] | simp (disch := omega) only [om, *] | ((first | refine XC_split ?_ ?_ | refine XG_true ?_ ?_ | refine XG_false ?_ ?_ | refine XRg_true ?_ ?_ | refine XRg_false ?_ ?_) <;> intro hc <;> (try simp only [bl] at hc) <;> (try (exfalso; omega))) | refine XD_w [] [] [] (fun _ => none) mixed (by decide +kernel) (sub_none _) ?_ | (intro bk hbk; (try simp only [go_sem] at hbk)))); all_goals (refine Wk.fin (by repeat (first | exact Sub.refl _ | refine Sub.upd (by simp [*]) ?_)) ?_; first | (simp [boolB, *]; done) | (simp only [boolB]; (repeat' (first | split | rfl | omega | (simp_all; done))); done) | (simp [boolB, *]; (repeat' (first | split | omega | (rw [Bool.eq_iff_iff]; simp; omega))); done) | (simp [boolB, *])))
theorem fbool_ok (b : Bool) : Pure Tryd.prog 71 [B b] (S (boolB b)) := by
  intro h; refine callK_body Tryd.func71 rfl (by rw [nt71]; simp) ?_; rw [nt71, rs71]
  ((repeat' (first | simp [go_sem, X_region, *] | simp (disch := omega) only [om, *] | ((first | refine XC_split ?_ ?_ | refine XG_true ?_ ?_ | refine XG_false ?_ ?_ | refine XRg_true ?_ ?_ | refine XRg_false ?_ ?_) <;> intro hc <;> (try simp only [bl] at hc) <;> (try (exfalso; omega))) | refine XD_w [] [] [] (fun _ => none) mixed (by decide +kernel) (sub_none _) ?_ | refine Pure.call (fbool1_ok _) ?_ | refine ⟨_, Pure.at (fbool1_ok _), ?_⟩ | refine ⟨_, fbool1_ok _, ?_⟩ | refine PureAt.call (fbool1_ok _) ?_ | (intro bk hbk; (try simp only [go_sem] at hbk)))); all_goals (refine Wk.fin (by repeat (first | exact Sub.refl _ | refine Sub.upd (by simp [*]) ?_)) ?_; first | (simp [*]; done) | (simp only []; (repeat' (first | split | rfl | omega | (simp_all; done))); done) | (simp [*]; (repeat' (first | split | omega | (rw [Bool.eq_iff_iff]; simp; omega))); done) | (simp [*])))
end Go.Proofs.YtmalhikcdideoaaDoor

set_option linter.unusedVariables false
set_option linter.unusedSimpArgs false
namespace Go.Proofs.YtmalhikcdideoaaDoor
open Go Sl
attribute [local irreducible] LpQ XR XRo XRg XRQ putQ XFv XL XW2 wQ putW X XO XOp XH XHo XW SeqQ BlkQ XOQ XHQ NrmQ XC XM XG XHM XHG XD CallK
open Go.RowKit
theorem rd_row_to {w : World} {h hF : Hp} {b s n : Nat} {o : Ob} {f : Nat → Nat → AV} {u : Value} (hs : Sub hF h) (hF0 : hF b = none) (hb : h b = some o) (h1 : o.s = s) (h2 : n ≤ o.n) (h3 : n ≤ 140737488355328) (hf : ∀ i, i < n → ∀ j, j < s → o.f i j = f i j) (hh : RelH w h) (hr : Rd w h (.row b s 0 n) u) : Rd w hF (.sl s n f) u := by
  obtain ⟨cap, hu, hle, hlt, _⟩ := hr
  subst h1
  refine ⟨some ⟨b, 0 * o.s, none⟩, cap, hu, hle, h3, fun _ => ⟨b, 0 * o.s, rfl, hF0, hlt, fun i hi j hj => ?_⟩⟩
  obtain ⟨c, hc, hn, hp, hcell⟩ := hh.cells hb (.inl (by omega))
  obtain ⟨y, hy, hy1, hyr⟩ := hcell i (by omega) j hj
  exact ⟨y, by simp only [World.cell?, hc]; simpa using hy, hy1, by rw [← hf i hi j hj]; exact hyr.step (stp_forget hs)⟩
/-- A call that is handed a literal's row, and forgets it. -/
theorem CallK.row2 {h : Hp} {f : FuncId} {k s n : Nat} {ob : Ob} {g : Nat → Nat → AV} {x : Value} {K : AV → Hp → Prop} (hk : h k = none) (h1 : ob.s = s) (h2 : ob.n = n) (h3 : n ≤ 140737488355328) (hf : ∀ i, i < n → ∀ j, j < s → ob.f i j = g i j)
    (c : CallK Tryd.prog h f [.v x, .sl s n g] K) : CallK Tryd.prog (upd h k (some ob)) f [.v x, .row k s 0 n] K := by
  have hs : Sub h (upd h k (some ob)) := fun c oc hc => by rw [upd_ne _ _ (fun e => by rw [e, hk] at hc; cases hc)]; exact hc
  unfold CallK at c ⊢
  intro w vals hh ha
  refine (c w vals (relH_forget hh hs) ⟨ha.1, fun i a hi => ?_⟩).mono ?_
  · match i, hi with
    | 0, hi =>
      obtain ⟨u, e, r⟩ := ha.2 0 _ rfl
      cases hi
      exact ⟨u, e, r⟩
    | 1, hi =>
      obtain ⟨u, e, r⟩ := ha.2 1 _ rfl
      cases hi
      exact ⟨u, e, rd_row_to hs hk (upd_same _ _ _) h1 (by omega) h3 hf hh r⟩
  · rintro e w' ⟨u, r, h', k1, k2, k3, k4, k5, k6⟩
    exact ⟨u, r, h', k1, k2, k3, k4, k5, (stp_forget hs).trans k6⟩
theorem Bld.alloc {h0 h : Hp} {b k : Nat} {l : List UInt8} {ob : Ob} (x : Bld h0 h b l) (hk : h k = none) : Bld h0 (upd h k (some ob)) b l := by
  obtain ⟨hb, o, h1, h2, h3⟩ := x
  exact ⟨hb, o, h1, h2, h3.alloc hk⟩
theorem Bld.weaken {h0 h1 h : Hp} {b : Nat} {l : List UInt8} (x : Bld h1 h b l) (hs : Sub h0 h1) : Bld h0 h b l := by
  obtain ⟨hb, o, e1, e2, e3⟩ := x
  have hs2 : Sub (upd h0 b (some o)) (upd h1 b (some o)) := fun c oc hc => by
    by_cases hcb : c = b
    · subst hcb; rw [upd_same] at hc ⊢; exact hc
    · rw [upd_ne _ _ hcb] at hc ⊢; exact hs c oc hc
  refine ⟨sub_none_of hs hb, o, e1, e2, fun c oc hc => e3.1 c oc (hs2 c oc hc), ?_⟩
  rcases e3.2 with h | ⟨g, og, k1, k2, k3⟩
  · exact .inl h
  · exact .inr ⟨g, og, k1, sub_none_of hs2 k2, k3⟩
def numsL : List Int → List UInt8
  | [] => []
  | n :: l => Lib.itoa n ++ [32] ++ numsL l
theorem rnum_ok {h0 h : Hp} {b : Nat} {s : List UInt8} (x : Bld h0 h b s) (l : List Int) (hlen : s.length + 22 * l.length ≤ 140737488355328) (hi : ∀ n ∈ l, -9223372036854775808 ≤ n ∧ n ≤ 9223372036854775807) :
    CallK Tryd.prog h 62 [ptrV b, encL 1 cI l] fun r h' => Bld h0 h' b (s ++ numsL l) := by
  refine callK_body Tryd.func62 rfl (by rw [nt62]; simp) ?_; rw [nt62, rs62]
  (repeat' (first | simp [go_sem, X_region, *] | simp (disch := omega) only [om, *] | ((first | refine XC_split ?_ ?_ | refine XG_true ?_ ?_ | refine XG_false ?_ ?_ | refine XRg_true ?_ ?_ | refine XRg_false ?_ ?_) <;> intro hc <;> (try simp only [bl] at hc) <;> (try (exfalso; omega))) | refine XD_w [] [] [] (fun _ => none) mixed (by decide +kernel) (sub_none _) ?_ | fail))
  obtain ⟨R, hR⟩ : ∃ R : List UInt8, s ++ numsL l = R := ⟨_, rfl⟩
  refine X_lpF (fun i => i = 5 ∨ (8 ≤ i ∧ i ≤ 17)) (fun n T h' => ∃ (i : Nat) (r : List Int) (acc : List UInt8), n = r.length ∧ i ≤ l.length ∧ l.drop i = r ∧ T 8 = I i ∧ Bld h0 h' b acc ∧ acc ++ numsL r = R ∧ acc.length + 22 * r.length ≤ 140737488355328) l.length
    ⟨0, l, s, rfl, by omega, rfl, by simp [go_sem], x, hR, hlen⟩ ?_
  clear x
  rintro J hJ n T h' hfr ⟨i, r, acc, rfl, hle, hd, h8, x, hacc, hal⟩
  rcases r with _ | ⟨y, r⟩
  · have hlt := drop_nil hd
    obtain rfl : i = l.length := by omega
    simp only [numsL, List.append_nil] at hacc
    subst hacc
    (repeat' (first | simp [go_sem, X_region, *] | simp (disch := omega) only [om, *] | ((first | refine XC_split ?_ ?_ | refine XG_true ?_ ?_ | refine XG_false ?_ ?_ | refine XRg_true ?_ ?_ | refine XRg_false ?_ ?_) <;> intro hc <;> (try simp only [bl] at hc) <;> (try (exfalso; omega))) | refine XD_w [] [] [] (fun _ => none) mixed (by decide +kernel) (sub_none _) ?_ | fail))
    exact ⟨_, _, Wk.refl _ _, x⟩
  · obtain ⟨hlt, hx, hd2⟩ := drop_cons hd
    have hy := hi y (by rw [← hx]; exact List.getElem_mem hlt)
    have hit := itoa_ok y hy.1 hy.2
    have hil := Lib.itoa_length_le y hy.1 hy.2
    (repeat' (first | simp [go_sem, X_region, *] | simp (disch := omega) only [om, *] | ((first | refine XC_split ?_ ?_ | refine XG_true ?_ ?_ | refine XG_false ?_ ?_ | refine XRg_true ?_ ?_ | refine XRg_false ?_ ?_) <;> intro hc <;> (try simp only [bl] at hc) <;> (try (exfalso; omega))) | refine XD_w [] [] [] (fun _ => none) mixed (by decide +kernel) (sub_none _) ?_ | refine Pure.call (hit) ?_ | refine ⟨_, Pure.at (hit), ?_⟩ | refine ⟨_, hit, ?_⟩ | refine PureAt.call (hit) ?_ | fail))
    have hsz : (({ data := (Lib.itoa y).toArray } : ByteArray) ++ ({ data := #[32] } : ByteArray)).data.toList = Lib.itoa y ++ [32] := by simp
    have hsz2 : (({ data := (Lib.itoa y).toArray } : ByteArray) ++ ({ data := #[32] } : ByteArray)).size = (Lib.itoa y).length + 1 := by
      refine (Array.length_toList.symm.trans (congrArg List.length hsz)).trans ?_
      simp
    simp only [List.length_cons] at hal
    refine (write_ok x _ (.inr (by rw [hsz]; simp)) (by rw [hsz2]; omega)).mono ?_
    rintro r1 h1 x1
    rw [hsz] at x1
    refine ⟨_, Nat.lt_succ_self _, hJ.out _ _ _ ⟨(by (repeat (refine fr_upd (by decide) ?_)); exact hfr), i + 1, r, _, rfl, by omega, hd2, by simp [go_sem], x1, ?_, ?_⟩⟩
    · rw [← hacc]; simp [numsL]
    · simp only [List.length_append, List.length_cons, List.length_nil]; omega
theorem num_lit {h0 h : Hp} {b k : Nat} {s : List UInt8} {ob : Ob} (x : Bld h0 h b s) (l : List Int) (hlen : s.length + 22 * l.length ≤ 140737488355328) (hi : ∀ n ∈ l, -9223372036854775808 ≤ n ∧ n ≤ 9223372036854775807) (hk : h k = none) (h1 : ob.s = 1) (h2 : ob.n = l.length) (hf : ob.f = fun i j => ((l.map fun x (_ : Nat) => I x)[i]?.getD fun _ => .any) j) :
    CallK Tryd.prog (upd h k (some ob)) 62 [ptrV b, .row k 1 0 l.length] fun r h' => Bld h0 h' b (s ++ numsL l) := by
  refine CallK.row2 hk h1 h2 (by omega) (fun i hi j hj => ?_) (rnum_ok x l hlen hi)
  obtain rfl : j = 0 := by omega
  rw [hf]
  simp [hi, cI, cellsL]
end Go.Proofs.YtmalhikcdideoaaDoor

set_option linter.unusedVariables false
set_option linter.unusedSimpArgs false
namespace Go.Proofs.YtmalhikcdideoaaDoor
open Go Sl
attribute [local irreducible] LpQ XR XRo XRg XRQ putQ XFv XL XW2 wQ putW X XO XOp XH XHo XW SeqQ BlkQ XOQ XHQ NrmQ XC XM XG XHM XHG XD CallK
open Go.RowKit
def stepsL : List (Int × Int) → List UInt8
  | [] => []
  | x :: l => numsL [x.1, x.2] ++ stepsL l
def wholeL (t : Tb) : List UInt8 := numsL [t.name.size, t.fr, t.to] ++ (t.name ++ boolB t.sl).data.toList ++ stepsL t.steps
theorem numsL_len : ∀ (l : List Int), (∀ n ∈ l, -9223372036854775808 ≤ n ∧ n ≤ 9223372036854775807) → (numsL l).length ≤ 22 * l.length
  | [], _ => by simp [numsL]
  | n :: l, h => by
    have h1 := Lib.itoa_length_le n (h n (by simp)).1 (h n (by simp)).2
    have h2 := numsL_len l fun x hx => h x (by simp [hx])
    simp only [numsL, List.length_append, List.length_cons, List.length_nil]
    omega
def i64B (n : Int) : Prop := -9223372036854775808 ≤ n ∧ n ≤ 9223372036854775807
theorem whole_ok (t : Tb) (hn : t.name.size ≤ 1000000000000) (hs : t.steps.length ≤ 1000000000000) (h1 : i64B t.fr) (h2 : i64B t.to) (h3 : ∀ x ∈ t.steps, i64B x.1 ∧ i64B x.2) : Pure Tryd.prog 36 [encTbA t] (S (bOf (wholeL t))) := by
  obtain ⟨nm, fr, to, sl, steps⟩ := t
  dsimp only at hn hs h1 h2 h3
  have hb := fbool_ok sl
  have hbs : (boolB sl).data.toList.length ≤ 5 := by cases sl <;> decide
  have hbs' : (boolB sl).size ≤ 5 := hbs
  intro h; refine callK_body Tryd.func36 rfl (by rw [nt36]; simp) ?_; rw [nt36, rs36]
  (repeat' (first | simp [go_sem, X_region, *] | simp (disch := omega) only [om, *] | ((first | refine XC_split ?_ ?_ | refine XG_true ?_ ?_ | refine XG_false ?_ ?_ | refine XRg_true ?_ ?_ | refine XRg_false ?_ ?_) <;> intro hc <;> (try simp only [bl] at hc) <;> (try (exfalso; omega))) | refine XD_w [] [] [] (fun _ => none) mixed (by decide +kernel) (sub_none _) ?_ | fail))
  intro b1 hb1 b2 n1 n2 hb2
  (repeat' (first | simp [go_sem, X_region, *] | simp (disch := omega) only [om, *] | ((first | refine XC_split ?_ ?_ | refine XG_true ?_ ?_ | refine XG_false ?_ ?_ | refine XRg_true ?_ ?_ | refine XRg_false ?_ ?_) <;> intro hc <;> (try simp only [bl] at hc) <;> (try (exfalso; omega))) | refine XD_w [] [] [] (fun _ => none) mixed (by decide +kernel) (sub_none _) ?_ | fail))
  have hb2' : upd h b1 (some ⟨68, 5, 1, fun x j => [S nm, I fr, I to, B sl, AV.sl 2 steps.length (cellsL cSt steps)][j]?.getD AV.any⟩) b2 = none := by rw [upd_ne _ _ n1]; exact hb2
  have kb1 : upd h b1 (some ⟨68, 5, 1, fun x j => [S nm, I fr, I to, B sl, AV.sl 2 steps.length (cellsL cSt steps)][j]?.getD AV.any⟩) b1 = some ⟨68, 5, 1, fun x j => [S nm, I fr, I to, B sl, AV.sl 2 steps.length (cellsL cSt steps)][j]?.getD AV.any⟩ := upd_same _ _ _
  have hsub0 : Sub h (upd h b1 (some ⟨68, 5, 1, fun x j => [S nm, I fr, I to, B sl, AV.sl 2 steps.length (cellsL cSt steps)][j]?.getD AV.any⟩)) := fun c oc hc => by rw [upd_ne _ _ (ne_free hb1 hc).2]; exact hc
  intro b3 m1 m2 m3 m4 hb3
  have hb3' : upd (upd h b1 (some ⟨68, 5, 1, fun x j => [S nm, I fr, I to, B sl, AV.sl 2 steps.length (cellsL cSt steps)][j]?.getD AV.any⟩)) b2 (some ⟨99, 2, 1, fun x j => AV.v ([Value.pointer none, Value.slice none 0 0][j]?.getD undef)⟩) b3 = none := by rw [upd_ne _ _ m1, upd_ne _ _ m3]; exact hb3
  generalize upd h b1 (some ⟨68, 5, 1, fun x j => [S nm, I fr, I to, B sl, AV.sl 2 steps.length (cellsL cSt steps)][j]?.getD AV.any⟩) = H1 at *
  have x0 : Bld H1 (upd H1 b2 (some ⟨99, 2, 1, fun x j => AV.v ([Value.pointer none, Value.slice none 0 0][j]?.getD undef)⟩)) b2 [] := ⟨hb2', _, ⟨rfl, rfl, rfl, .inl rfl⟩, fun _ => rfl, Own.none⟩
  have hin : ∀ n ∈ [(nm.size : Int), fr, to], -9223372036854775808 ≤ n ∧ n ≤ 9223372036854775807 := by
    simp only [List.mem_cons, List.not_mem_nil, or_false]
    rintro n (rfl | rfl | rfl)
    · exact ⟨by omega, by omega⟩
    · exact h1
    · exact h2
  have hnl := numsL_len _ hin
  simp only [List.length_cons, List.length_nil] at hnl
  refine CallK.mono (num_lit x0 [(nm.size : Int), fr, to] (by simp) hin hb3' rfl rfl rfl) ?_
  rintro r1 g1 x1
  have kg1 := x1.sub _ _ kb1
  rw [List.nil_append] at x1
  refine XD_w [] [1, 3] [6] H1 mixed (by decide +kernel) x1.sub ?_
  (repeat' (first | simp [go_sem, X_region, *] | simp (disch := omega) only [om, *] | ((first | refine XC_split ?_ ?_ | refine XG_true ?_ ?_ | refine XG_false ?_ ?_ | refine XRg_true ?_ ?_ | refine XRg_false ?_ ?_) <;> intro hc <;> (try simp only [bl] at hc) <;> (try (exfalso; omega))) | refine XD_w [] [] [] (fun _ => none) mixed (by decide +kernel) (sub_none _) ?_ | refine Pure.call (hb) ?_ | refine ⟨_, Pure.at (hb), ?_⟩ | refine ⟨_, hb, ?_⟩ | refine PureAt.call (hb) ?_ | fail))
  have hnb' : (nm ++ boolB sl).size = nm.size + (boolB sl).size := ByteArray.size_append
  have hnb : (nm ++ boolB sl).data.toList.length = nm.size + (boolB sl).size := hnb'
  have hbp : 0 < (boolB sl).size := by cases sl <;> decide
  refine (write_ok x1 (nm ++ boolB sl) (.inr (fun e => by rw [e] at hnb; simp at hnb; omega)) (by omega)).mono ?_
  rintro r2 g2 x2
  have kg2 := x2.sub _ _ kb1
  refine ⟨fun _ => x2.sub, ?_⟩
  (repeat' (first | simp [go_sem, X_region, *] | simp (disch := omega) only [om, *] | ((first | refine XC_split ?_ ?_ | refine XG_true ?_ ?_ | refine XG_false ?_ ?_ | refine XRg_true ?_ ?_ | refine XRg_false ?_ ?_) <;> intro hc <;> (try simp only [bl] at hc) <;> (try (exfalso; omega))) | refine XD_w [] [] [] (fun _ => none) mixed (by decide +kernel) (sub_none _) ?_ | fail))
  obtain ⟨R, hR⟩ : ∃ R : List UInt8, numsL [(nm.size : Int), fr, to] ++ (nm ++ boolB sl).data.toList ++ stepsL steps = R := ⟨_, rfl⟩
  have hR2 : wholeL ⟨nm, fr, to, sl, steps⟩ = R := hR
  rw [hR2]
  clear hR2
  have hl2 : (numsL [(nm.size : Int), fr, to] ++ (nm ++ boolB sl).data.toList).length + 44 * steps.length ≤ 140737488355328 := by rw [List.length_append, hnb]; omega
  generalize numsL [(nm.size : Int), fr, to] ++ (nm ++ boolB sl).data.toList = acc0 at *
  clear x1 x0 kg1
  refine X_lpF (fun i => i = 5 ∨ (25 ≤ i ∧ i ≤ 35)) (fun n T h' => ∃ (i : Nat) (r : List (Int × Int)) (acc : List UInt8), n = r.length ∧ i ≤ steps.length ∧ steps.drop i = r ∧ T 25 = I i ∧ Bld H1 h' b2 acc ∧ acc ++ stepsL r = R ∧ acc.length + 44 * r.length ≤ 140737488355328) steps.length
    ⟨0, steps, acc0, rfl, by omega, rfl, by simp [go_sem], x2, hR, hl2⟩ ?_
  clear x2 kg2 hl2 hR
  rintro J hJ n T g hfr ⟨i, r, acc, rfl, hle, hd, h25, x, hacc, hal⟩
  rcases r with _ | ⟨y, r⟩
  · have hlt := drop_nil hd
    obtain rfl : i = steps.length := by omega
    simp only [stepsL, List.append_nil] at hacc
    subst hacc
    (repeat' (first | simp [go_sem, X_region, *] | simp (disch := omega) only [om, *] | ((first | refine XC_split ?_ ?_ | refine XG_true ?_ ?_ | refine XG_false ?_ ?_ | refine XRg_true ?_ ?_ | refine XRg_false ?_ ?_) <;> intro hc <;> (try simp only [bl] at hc) <;> (try (exfalso; omega))) | refine XD_w [] [] [] (fun _ => none) mixed (by decide +kernel) (sub_none _) ?_ | fail))
    refine (string_ok x (by omega)).mono ?_
    rintro r1 h1 ⟨rfl, rfl⟩
    exact Wk.drop _ hsub0
  · obtain ⟨hlt, hx, hd2⟩ := drop_cons hd
    have hy := h3 y (by rw [← hx]; exact List.getElem_mem hlt)
    (repeat' (first | simp [go_sem, X_region, *] | simp (disch := omega) only [om, *] | ((first | refine XC_split ?_ ?_ | refine XG_true ?_ ?_ | refine XG_false ?_ ?_ | refine XRg_true ?_ ?_ | refine XRg_false ?_ ?_) <;> intro hc <;> (try simp only [bl] at hc) <;> (try (exfalso; omega))) | refine XD_w [] [] [] (fun _ => none) mixed (by decide +kernel) (sub_none _) ?_ | fail))
    intro b4 hb4 b5 k1 k2 hb5
    have x4 := x.alloc (ob := ⟨114, 2, 1, fun i' j' => if i' = 0 ∧ j' < 2 then [I y.fst, I y.snd][j']?.getD AV.any else AV.v ([Value.int IntKind.i64 0, Value.int IntKind.i64 0][j']?.getD undef)⟩) hb4
    have hin2 : ∀ n ∈ [y.1, y.2], -9223372036854775808 ≤ n ∧ n ≤ 9223372036854775807 := by
      simp only [List.mem_cons, List.not_mem_nil, or_false]
      rintro n (rfl | rfl)
      · exact hy.1
      · exact hy.2
    have hnl2 := numsL_len _ hin2
    simp only [List.length_cons, List.length_nil] at hnl2 hal
    refine CallK.mono (num_lit x4 [y.1, y.2] (by simp only [List.length_cons, List.length_nil]; omega) hin2 (by rw [upd_ne _ _ k1]; exact hb5) rfl rfl rfl) ?_
    rintro r5 g5 x5
    refine ⟨_, Nat.lt_succ_self _, hJ.out _ _ _ ⟨(by (repeat (refine fr_upd (by decide) ?_)); exact hfr), i + 1, r, _, rfl, by omega, hd2, by simp [go_sem], x5, ?_, ?_⟩⟩
    · rw [← hacc]; simp [stepsL]
    · simp only [List.length_append]; omega
end Go.Proofs.YtmalhikcdideoaaDoor

set_option linter.unusedVariables false
set_option linter.unusedSimpArgs false
namespace Go.Proofs.YtmalhikcdideoaaDoor
open Go Sl
attribute [local irreducible] LpQ XR XRo XRg XRQ putQ XFv XL XW2 wQ putW X XO XOp XH XHo XW SeqQ BlkQ XOQ XHQ NrmQ XC XM XG XHM XHG XD CallK


def isLetter (c : UInt8) : Bool := decide (97 ≤ c.toNat ∧ c.toNat ≤ 122)
def isDigit (c : UInt8) : Bool := decide (48 ≤ c.toNat ∧ c.toNat ≤ 57)
def isInner (c : UInt8) : Bool := isLetter c || isDigit c || decide (c.toNat = 45)
def isNum (c : UInt8) : Bool := isDigit c || decide (c.toNat = 46) || decide (c.toNat = 45) || decide (c.toNat = 37)
def isSign (c : UInt8) : Bool := decide (c.toNat = 58 ∨ c.toNat = 59 ∨ c.toNat = 44 ∨ c.toNat = 40 ∨ c.toNat = 41)
def keysB : List ByteArray := [⟨#[97, 99, 116]⟩, ⟨#[97, 110, 100]⟩, ⟨#[97, 114, 116, 105, 99, 108, 101]⟩, ⟨#[97, 116, 45, 109, 111, 115, 116]⟩, ⟨#[97, 116, 116, 114, 105, 98, 117, 116, 101]⟩, ⟨#[98, 97, 115, 101]⟩, ⟨#[98, 101, 108, 111, 119]⟩, ⟨#[98, 111, 111, 108]⟩, ⟨#[99, 111, 117, 110, 116]⟩, ⟨#[100, 97, 116, 101]⟩, ⟨#[100, 97, 121, 115]⟩, ⟨#[100, 111, 119, 110]⟩, ⟨#[101, 108, 115, 101]⟩, ⟨#[101, 110, 97, 99, 116, 101, 100]⟩, ⟨#[101, 113, 117, 97, 108, 115]⟩, ⟨#[102, 97, 108, 115, 101]⟩, ⟨#[102, 114, 111, 109]⟩, ⟨#[103, 105, 118, 101, 115]⟩, ⟨#[103, 114, 101, 97, 116, 101, 115, 116]⟩, ⟨#[104, 97, 108, 102]⟩, ⟨#[104, 97, 108, 102, 45, 111, 117, 116]⟩, ⟨#[104, 97, 108, 102, 45, 116, 119, 111]⟩, ⟨#[105, 102]⟩, ⟨#[105, 110, 112, 117, 116]⟩, ⟨#[105, 115]⟩, ⟨#[108, 101, 97, 115, 116]⟩, ⟨#[108, 101, 118, 101, 108]⟩, ⟨#[109, 105, 110, 117, 115]⟩, ⟨#[109, 111, 110, 101, 121]⟩, ⟨#[110, 111, 116]⟩, ⟨#[110, 117, 109, 98, 101, 114]⟩, ⟨#[111, 102]⟩, ⟨#[111, 114]⟩, ⟨#[111, 118, 101, 114]⟩, ⟨#[112, 108, 117, 115]⟩, ⟨#[114, 111, 117, 110, 100]⟩, ⟨#[115, 99, 97, 108, 101]⟩, ⟨#[115, 104, 97, 114, 101]⟩, ⟨#[115, 108, 105, 99, 101, 115]⟩, ⟨#[116, 97, 98, 108, 101]⟩, ⟨#[116, 104, 101, 110]⟩, ⟨#[116, 105, 109, 101, 115]⟩, ⟨#[116, 111]⟩, ⟨#[116, 111, 116, 97, 108]⟩, ⟨#[116, 114, 117, 101]⟩, ⟨#[117, 112]⟩, ⟨#[119, 101, 105, 103, 104, 116]⟩, ⟨#[119, 104, 101, 110]⟩, ⟨#[121, 101, 97, 114, 115]⟩]
def isKey (s : ByteArray) : Bool := keysB.any fun k => decide (s = k)
/-- A token: its kind, its text, its line. -/
structure Tok where
  kind : Int
  text : ByteArray
  line : Int
deriving DecidableEq
@[go_sem] def cT (t : Tok) : List AV := [I t.kind, S t.text, I t.line]
def digitNext : List UInt8 → Bool
  | [] => false
  | d :: _ => isDigit d
/-- The kind and the length of the token at the head. -/
def oneF (c : UInt8) (r : List UInt8) : Int × Nat :=
  if isLetter c then
    let n := 1 + (r.takeWhile isInner).length
    if isKey (bOf ((c :: r).take n)) then (2, n) else if 20 < n then (0, 0) else (1, n)
  else if isDigit c || (decide (c.toNat = 45) && digitNext r) then (3, 1 + (r.takeWhile isNum).length)
  else if isSign c then (4, 1) else (0, 0)
def scanW : List UInt8 → Int → List Tok → List Tok × Int × Int
  | [], _, out => (out, 0, 0)
  | c :: r, line, out =>
    if c.toNat = 32 ∨ c.toNat = 10 then scanW r (if c.toNat = 10 then line + 1 else line) out
    else if (oneF c r).1 = 0 then ([], line, 14)
    else scanW (r.drop ((oneF c r).2 - 1)) line (out ++ [⟨(oneF c r).1, bOf ((c :: r).take (oneF c r).2), line⟩])
termination_by l => l.length
decreasing_by
  all_goals simp
  omega
theorem oneF_pos (c : UInt8) (r : List UInt8) (h : (oneF c r).1 ≠ 0) : 1 ≤ (oneF c r).2 ∧ (oneF c r).2 ≤ r.length + 1 := by
  have h1 := (List.takeWhile_prefix (l := r) isInner).length_le
  have h2 := (List.takeWhile_prefix (l := r) isNum).length_le
  have key : ∀ x : Int × Nat, (x = (2, 1 + (r.takeWhile isInner).length) ∨ x = (0, 0) ∨ x = (1, 1 + (r.takeWhile isInner).length) ∨ x = (3, 1 + (r.takeWhile isNum).length) ∨ x = (4, 1)) → x.1 ≠ 0 → 1 ≤ x.2 ∧ x.2 ≤ r.length + 1 := by
    rintro x (rfl | rfl | rfl | rfl | rfl) hx <;> first | (exact absurd rfl hx) | (dsimp only; omega)
  refine key _ ?_ h
  unfold oneF
  dsimp only
  repeat' split
  all_goals simp
/-- All of it, when it is not too large. -/
def linesF (s : ByteArray) : List Tok × Int × Int := if 30000 < s.size then ([], 0, 2) else scanW s.data.toList 1 []
end Go.Proofs.YtmalhikcdideoaaDoor
