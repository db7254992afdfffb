/- Contracts: MirrorNetwork, the program's. -/
import Derived.Test.YtelilimkcboioaaRen
import Derived.Test.YtelilimkcboioaaMark
namespace Go.Proofs.Ytelilimkcboioaa
open Go.RowKit
set_option linter.unusedVariables false

set_option maxHeartbeats 1600000 in
set_option maxRecDepth 100000 in
theorem renamedM (N : Nat) (M : Int) (v : Value) (ps : List (Nat × Nat)) (cb : Value) (fm : Nat → Int) (w : World) (h : IntSS w v (rowsOf ps)) (hp : PsOk N ps)
    (hf : ∀ W i, Below w.heap.size w W → i < N → Calls Try.prog 65 #[.int .i64 (i : Int), cb] W fun e w' => e = .returned (.int .i64 (fm i)) ∧ w' = W) (hfm : ∀ i, i < N → In64 (fm i)) :
    Calls Try.prog 60 #[.agg #[.int .i64 N, v], .int .i64 M, .func (.func 65) #[] #[cb]] w (GivesNet w M (renL (fun a b => (fm a, fm b)) ps)) := by
  obtain ⟨ao, cap, rfl, hcap, hmax, hnil, hcell⟩ := pairs_open h
  have HC := Lib.hid hcell; clear hcell h
  have HP := Lib.hid hp
  have HF := Lib.hid hf
  have HM := Lib.hid hfm
  unfold maxLen at hmax
  have hN8 := HP.out.2.1
  have h60 : ps.length ≤ 60 := HP.out.2.2.1
  clear hp hf hfm
  obtain ⟨i0, hi, hz0, hz1, hz2⟩ := info_parts infoInts
  go_enter Try.func60, Try.ntmps60
  go_wp2
  go_loopw [15] (fun i wr => ∃ k : Nat, k ≤ ps.length ∧ i = .int .i64 k ∧ ∃ (u : Value), Hid (NetIn (w.heap.size + 1 + 1) (w.heap.size + 3) M ((renL (fun a b => (fm a, fm b)) ps).take k) wr u) ∧ Hid (Kept (w.heap.size + 1 + 1) (w.heap.size + 3) (((w.alloc (.cells #[.int .i64 N, .slice ao ps.length cap] 26)).alloc (.cells #[.int .i64 0, .slice none 0 0] 26)).alloc (.cells #[.int .i64 M, .slice none 0 0] 26)) wr)) (fun i _ => ps.length - (intOf i).toNat)
  case atStart =>
    have hS := NetIn.start ((w.alloc (.cells #[.int .i64 N, .slice ao ps.length cap] 26)).alloc (.cells #[.int .i64 0, .slice none 0 0] 26)) M 26
    rw [World.size_alloc, World.size_alloc] at hS
    exact ⟨0, Nat.zero_le _, rfl, _, Lib.hid hS, Lib.hid (Kept.refl _ _ _ (by simp))⟩
  case round =>
    obtain ⟨k, hk, rfl, u, HN, HK⟩ := hrel
    have hb : Below w.heap.size w wr := ((((Below.refl _ w).alloc (Nat.le_refl _) _).alloc (by simp) _).alloc (by simp; omega) _).trans (HK.out.1.mono (by omega))
    by_cases hlt : k < ps.length
    · obtain ⟨b, q, x, po, pc, rfl, hu, g1, g2, d0, d1⟩ := HC.out k hlt
      have c1 := Below.keeps hb _ _ hu
      have c2 := Below.keeps hb _ _ d0
      have c3 := Below.keeps hb _ _ d1
      have hxw : x < w.heap.size := World.block_lt_of_cell? w _ d0
      have hbw : b < w.heap.size := World.block_lt_of_cell? w _ hu
      unfold maxLen at g2
      clear hu d0 d1
      have HD : Hid ((renL (fun a b => (fm a, fm b)) ps).take (k + 1) = (renL (fun a b => (fm a, fm b)) ps).take k ++ [[fm ps[k].1, fm ps[k].2]]) := renL_next _ _ k hlt
      have HA : Hid (ps[k].1 < N) := (HP.out.2.2.2 k hlt).1
      have HB : Hid (ps[k].2 < N) := (HP.out.2.2.2 k hlt).2.1
      obtain ⟨⟨vs, hO, hR⟩, cn, cu2, cf2, hB, hlo⟩ := HN.out
      have HO := Lib.hid hO
      have HW := Lib.hid hR
      have HU : Hid (∀ g, g < w.heap.size + 3 → some g ≠ u.ownBlock) := fun g hg e => by have := HO.out.lt e.symm; omega
      have hvl : vs.length ≤ 60 := by have := HW.out.1; rw [List.length_take, renL_length] at this; omega
      have hB2 : w.heap.size + 1 + 1 < wr.heap.size := by omega
      have hB3 : w.heap.size + 1 + 1 < wr.heap.size + 1 := by omega
      have hbd : Hid (Below w.heap.size w wr.drew) := hb.drew
      clear hO hR HN
      generalize ps[k].1 = ia at *
      generalize ps[k].2 = ib at *
      have F1 : Hid (Calls Try.prog 65 #[.int .i64 (ia : Int), cb] wr.drew fun e w' => e = .returned (.int .i64 (fm ia)) ∧ w' = wr.drew) := HF.out _ ia hbd.out HA.out
      have F2 : Hid (Calls Try.prog 65 #[.int .i64 (ib : Int), cb] wr.drew fun e w' => e = .returned (.int .i64 (fm ib)) ∧ w' = wr.drew) := HF.out _ ib hbd.out HB.out
      go_wp2
      rw [show Op.load 22 (Operand.tmp 19) = ldOp 22 (Operand.tmp 19) from rfl]
      go_region_held3 (fun w' => w'.cell? ⟨x, po, none⟩ = some (.int .i64 ia) ∧ w'.cell? ⟨x, po + 1, none⟩ = some (.int .i64 ib)) ((go_split_ands; refine ⟨?_, ?_⟩ <;> (first | assumption | exact cell_al (by assumption) | exact cell_st (by assumption) (by first | (simp; done) | (simp; omega)) | exact cell_gr hgrow (by assumption) (HU.out _ (by first | (simp; done) | (simp; omega)))))) ((first
        | (refine step_append_lies _ (by rfl) (.tmp 20) (.tmp 32) 22 (by rfl) (w.heap.size + 3) tInts i0 (.slice none 0 0) 1 24 Try.underlying22 hi hz0 hz1 hz2 rfl (by decide) u vs.length vs (by first | rfl | simp [Act.eval]) (by exact (HO.out.1.alloc _ |>.alloc _)) ⟨wr.heap.size + 1, 0, none⟩ 1 1 [.slice (some ⟨wr.heap.size, 0, none⟩) 2 2] (by simp [Act.eval]) (by rfl) (by exact news_two _ _ _ _) (by simp [Value.oneCell']) (by decide) (by unfold maxLen; omega) (by omega) (by simp; omega) (wr.heap.size + 2) (by simp) ?_; intro g cap2 w1 hown hgrow hat hlt2; have zz := after_new (below_two _ _ _) hgrow cu2 cf2 (HU.out _ (by first | (simp; done) | (simp; omega))); obtain ⟨z1, z2⟩ := zz)
        | (go_at_call 65; refine Calls.mono (by with_reducible exact F1.out) ?_; rintro e w9 ⟨rfl, rfl⟩)
        | (go_at_call 65; refine Calls.mono (by with_reducible exact F2.out) ?_; rintro e w9 ⟨rfl, rfl⟩)))
      all_goals
        obtain ⟨P, Q⟩ := NetIn.push (n := M) HO.out HW.out cn cu2 cf2 hB hlo (below_two _ _ _) (pair_two _ (fm ia) (fm ib) (HM.out _ HA.out) (HM.out _ HB.out) _) (by simp) hown hgrow HK.out
        rw [← HD.out] at P
        clear hown hgrow hat hlt2 z1 z2 HO HW
        go_wp2
        go_roundw
        case rel => exact ⟨k + 1, by omega, by go_num, _, Lib.hid P, Lib.hid Q⟩
        case measure => first | (simp [intOf]; done) | (simp [intOf]; omega)
    · have hk' : k = ps.length := by omega
      subst hk'
      obtain ⟨hR, cn, cu, cf, hB, hlo⟩ := HN.out
      rw [List.take_of_length_le (by rw [renL_length]; exact Nat.le_refl _)] at hR
      obtain ⟨d0, d1, f0, f1, _⟩ := ((ResC.start (w.alloc (.cells #[.int .i64 N, .slice ao ps.length cap] 26)) 26).below ((Below.refl (w.heap.size + 1 + 1) _).alloc (by simp) (.cells #[.int .i64 M, .slice none 0 0] 26)) (by simp)).below HK.out.1 (by simp)
      rw [World.size_alloc] at d0 d1 f0 f1
      obtain ⟨a3, l3, c3, hu⟩ := hR.shape
      subst hu
      obtain ⟨R, B⟩ := hR.res (R := w.heap.size + 1) (x := .int .i64 M) (y := .slice a3 l3 c3) (by omega) hb (by omega)
      clear hR HN HK hb
      go_wp2
      exact bodyPost_ret (v := .agg #[.int .i64 M, .slice a3 l3 c3]) (by simp [results, Try.results60, go_sem, d0, d1]) rfl ⟨_, rfl, R, B⟩

theorem mirrorC (q : Nat) (N : Nat) (i : Nat) (W : World) (hc : W.cell? ⟨q, 0, none⟩ = some (.int .i64 (N : Int))) (h1 : N ≤ 8) (hi : i < N) :
    Calls Try.prog 65 #[.int .i64 (i : Int), .pointer (some ⟨q, 0, none⟩)] W fun e w' => e = .returned (.int .i64 ((N : Int) - 1 - (i : Int))) ∧ w' = W := by
  have q1 : IntKind.i64.wrap ((N : Int) - 1) = (N : Int) - 1 := IntWalk.i64_in _ ⟨by omega, by omega⟩
  have q2 : IntKind.i64.wrap ((N : Int) - 1 - (i : Int)) = (N : Int) - 1 - (i : Int) := IntWalk.i64_in _ ⟨by omega, by omega⟩
  go_enter Try.func65, Try.ntmps65
  go_wp2
  go_ret
  exact ⟨rfl, rfl⟩

open Go.Lib Go.Sort in
theorem revInts {lo hi g : Nat} {v : Value} {xs : List Int} {w : World} (h : OwnI tInt w lo hi v xs) (hg : v.ownBlock = some g) :
    Calls Try.prog 66 #[v] w fun e w' => e = .returned (.tuple #[]) ∧ OwnI tInt w' lo hi v xs.reverse ∧ Chg g (g + 1) w w' := by
  rcases h.1.cases with ⟨rfl, _⟩ | ⟨g', cap, rfl, h1, h2, h3, h4, h5, hown, _, _⟩
  · cases hg
  · simp [Value.ownBlock] at hg
    subst hg
    simp only [List.length_map] at h1 hown ⊢
    obtain ⟨g2, cap2, e, _, _, _, _, _, HH⟩ := holds_of_ownsRow (enc := Value.int .i64) (zs := xs) hown (by intro e; cases e)
    cases e
    have C := AnyE.slices_Reverse Try.revInts (Value.int .i64) (fun _ => rfl) g' 0 cap xs w HH (by unfold maxLen at h2; omega)
    refine Calls.mono C fun e w' ⟨a, n, b⟩ => ?_
    subst b
    have k := ownsRow_putRow (q := n) (k := xs.length) (ys := xs.reverse) hown (by simp) (Nat.le_refl _)
    rw [List.take_of_length_le (by simp)] at k
    refine ⟨a, ⟨⟨by simpa using k, h.1.2⟩, fun x hx => h.2 x (List.mem_reverse.1 hx)⟩, ⟨rfl, rfl, rfl, by simp [Sort.ahead], fun i _ hi => ?_⟩⟩
    simp [putRow, mapBlock, Sort.ahead, Array.getElem?_modify, show g' ≠ i by omega]
set_option maxHeartbeats 1600000 in
set_option maxRecDepth 100000 in
theorem implMirrorNetwork (n : Int) (v : Value) (rows : List (List Int)) (w : World) (hn : (Lit.int .i64 n).wf = true) (h : IntSS w v rows) (hl : rows.length + sumLen rows ≤ 1048576) :
    Calls Try.prog 38 #[.agg #[.int .i64 n, v]] w (GivesNB w (nbN (MirP n rows) n) (nbR (MirP n rows) (mirL n rows)) (tf (MirP n rows))) := by
  have hk : Hid (∀ W, Below w.heap.size w W → IntSS W v rows) := fun W hb => h.keep (Below.keeps hb)
  obtain ⟨ao, cap, hv, hcap, hmax, _⟩ := h
  unfold maxLen at hmax
  clear hn hl
  rcases Classical.em (NetP n rows) with hN | hN
  · have ht := tf_yes hN
    have h60 := hN.2.1
    have hN0 := hN
    obtain ⟨N, rfl, hr, hp⟩ := hN.pairs
    have HN := Lib.hid hN0
    have HP := Lib.hid hp
    have HR := Lib.hid hr
    have hN8 := hp.2.1
    have hpl : (pairsOf rows).length = rows.length := by rw [pairsOf, List.length_map]
    have HL := Lib.hid hpl
    subst hv
    clear hN hN0 hp hr hpl
    have hP : MirP N rows := ⟨HN.out, trivial⟩
    rw [nbN_yes hP, nbR_yes hP, tf_yes hP]
    clear hP
    clear HN
    go_enter Try.func38, Try.ntmps38
    go_wp2_with fail
    refine (implNetworkOk _ _ rows _ (hk.out _ (((Below.refl _ _).alloc (Nat.le_refl _) _).alloc (by simp) _))).mono ?_; rintro e w1 ⟨rfl, b1⟩
    have r1 := (ResC.start (w.alloc (.cells #[.int .i64 N, .slice ao rows.length cap] 26)) 26).below b1 (by simp)
    rw [World.size_alloc] at r1
    have cx : w1.cell? ⟨w.heap.size, 0, none⟩ = some (.int .i64 N) := (b1.cell (by simp; omega)).trans (by simp [go_sem])
    have cy : w1.cell? ⟨w.heap.size, 1, none⟩ = some (.slice ao rows.length cap) := (b1.cell (by simp; omega)).trans (by simp [go_sem])
    have bw1 : Below w.heap.size w w1 := (((Below.refl _ _).alloc (Nat.le_refl _) _).alloc (by simp) _).trans (b1.mono (by simp; omega))
    have s1 : w.heap.size + 2 ≤ w1.heap.size := by have := b1.size; simpa using this
    have y1 : w.heap.size < w1.heap.size := by omega
    have y2 : w.heap.size + 1 < w1.heap.size := by omega
    have hI1 : IntSS w1 (.slice ao rows.length cap) (rowsOf (pairsOf rows)) := by rw [← HR.out]; exact hk.out _ bw1
    go_wp2_with fail
    refine (renamedM N N _ (pairsOf rows) (.pointer (some ⟨w.heap.size, 0, none⟩)) (fun i => (N : Int) - 1 - (i : Int)) w1 hI1 HP.out (fun W i hW hi => mirrorC _ N i W (Below.keeps hW _ _ cx) hN8 hi) (fun i hi => WalkArith.wf_i64 (by omega))).mono ?_; rintro e w2 ⟨u2, rfl, R2, b2⟩
    obtain ⟨qs, HQ⟩ : ∃ qs, Hid (qs = renL (fun a b => ((N : Int) - 1 - (a : Int), (N : Int) - 1 - (b : Int))) (pairsOf rows)) := ⟨_, rfl⟩
    have R2 : OwnSS tInt tInts w2 w1.heap.size w2.heap.size u2 qs := by rw [HQ.out]; exact R2
    have HQL : Hid (qs.length = rows.length) := by show _ = _; rw [HQ.out, renL_length, HL.out]
    have HM : Hid (mirL N rows = qs.map List.reverse) := by show _ = _; rw [HQ.out]; simp [mirL, renL]
    have s2 := b2.size
    have r2 := r1.below b2 (by omega)
    have bw2 := bw1.trans (b2.mono (by omega))
    obtain ⟨vs, hO, hR⟩ := R2
    have HVL : Hid (vs.length = qs.length) := hR.1
    obtain ⟨a2, l2, c2, hu2⟩ : ∃ a l c, u2 = .slice a l c := OwnSS.shape ⟨vs, hO, hR⟩
    obtain ⟨w2b, HW⟩ : ∃ W, Hid (W = w2.alloc (.cells #[.int .i64 N, u2] 26)) := ⟨_, rfl⟩
    have b2b : Below w2.heap.size w2 w2b := by rw [HW.out]; exact (Below.refl _ _).alloc (Nat.le_refl _) _
    have k0 : w2b.cell? ⟨w2.heap.size, 0, none⟩ = some (.int .i64 N) := by rw [HW.out]; simp [go_sem]
    have k1 : w2b.cell? ⟨w2.heap.size, 1, none⟩ = some u2 := by rw [HW.out]; simp [go_sem]
    have z2 : w2.heap.size < w2b.heap.size := by rw [HW.out]; simp
    have bw2b := bw2.trans (b2b.mono (by omega))
    have r2b := r2.below b2b (by omega)
    have hO := hO.below b2b (Nat.le_refl _)
    have hR := hR.below b2b (Nat.le_refl _)
    have hlen : u2 = .slice a2 rows.length c2 := by
      rcases hO.cases with ⟨hx, hy⟩ | ⟨g, cap', hx, _⟩
      · rw [hx] at hu2; cases hu2
        rw [hx]; congr 1
        have := HQL.out; have := HVL.out; rw [hy] at this; simp at this; omega
      · rw [hx] at hu2; cases hu2
        rw [hx, HVL.out, HQL.out]
    have hc60 : rows.length ≤ c2 ∧ c2 ≤ 9223372036854775807 := by
      rcases hO.cases with ⟨hx, hy⟩ | ⟨g, cap', hx, q1, q2, _⟩
      · rw [hx] at hlen; simp only [Value.slice.injEq] at hlen; obtain ⟨_, q3, q4⟩ := hlen; omega
      · rw [hx] at hlen; unfold maxLen at q2; simp only [Value.slice.injEq] at hlen; obtain ⟨_, q3, q4⟩ := hlen; omega
    clear hu2
    subst hlen
    go_wp2
    rw [← HW.out]
    clear HW
    go_loopw [19] (fun i wr => ∃ j : Nat, j ≤ rows.length ∧ i = .int .i64 j ∧ RowsOwn tInt wr w1.heap.size w2.heap.size vs ((qs.map List.reverse).take j ++ qs.drop j) ∧ Own tInts wr w1.heap.size w2.heap.size (.slice a2 rows.length c2) vs ∧ Chg w1.heap.size w2.heap.size w2b wr) (fun i _ => rows.length - (intOf i).toNat)
    case atStart => exact ⟨0, Nat.zero_le _, rfl, by simpa using hR, hO, Chg.refl _ _ _⟩
    case round =>
      obtain ⟨j, hj, rfl, hRj, hOj, hch⟩ := hrel
      by_cases hlt : j < rows.length
      · have hlv : j < vs.length := by rw [HVL.out, HQL.out]; exact hlt
        have hlq : j < qs.length := by rw [HQL.out]; exact hlt
        obtain ⟨g, ha2, c1⟩ : ∃ g, a2 = some ⟨g, 0, none⟩ ∧ wr.cell? ⟨g, j, none⟩ = some vs[j] := by
          rcases hOj.cases with ⟨_, hx⟩ | ⟨g', cap', hx, _, _, _, _, _, _, hc, _⟩
          · rw [hx] at hlv; simp at hlv
          · simp only [Value.slice.injEq] at hx
            obtain ⟨rfl, -, -⟩ := hx
            exact ⟨g', rfl, hc j hlv⟩
        subst ha2
        have hjl : j < ((qs.map List.reverse).take j ++ qs.drop j).length := by simp; omega
        have hrow' : ((qs.map List.reverse).take j ++ qs.drop j)[j] = qs[j] := by
          rw [List.getElem_append_right (by simp; omega)]
          simp [Nat.min_eq_left (Nat.le_of_lt hlq)]
        have hset : ((qs.map List.reverse).take j ++ qs.drop j).set j qs[j].reverse = (qs.map List.reverse).take (j + 1) ++ qs.drop (j + 1) := by
          rw [List.drop_eq_getElem_cons hlq, List.take_succ_eq_append_getElem (by simp; exact hlq)]
          rw [set_mid _ _ _ _ j (by simp; omega)]
          simp
        have hoj := hRj.2.1 j hlv hjl
        rw [hrow'] at hoj
        have hq2 : qs[j].length = 2 := by simp [HQ.out, renL]
        rcases hoj.tight with ⟨hv, hx⟩ | ⟨gj, hgj, hl1, hl2, hl3, ht⟩
        · rw [hx] at hq2; simp at hq2
        · have HS := Lib.hid hset
          clear hset hrow' hq2
          obtain ⟨av, lv, cv, hvv⟩ := hoj.shape
          have hgj2 := hgj
          rw [hvv] at c1
          go_wp2_with (go_at_call 66; rw [← hvv]; refine (revInts ht hgj).mono ?_; rintro e w3 ⟨rfl, R3, c3⟩)
          have R1 : RowsOwn tInt w3 w1.heap.size w2.heap.size vs ((qs.map List.reverse).take (j + 1) ++ qs.drop (j + 1)) := by
            rw [← HS.out]
            exact hRj.put hlv hgj (R3.wide hl1 hl2) c3
          have R2' : Own tInts w3 w1.heap.size w2.heap.size (.slice (some ⟨g, 0, none⟩) rows.length c2) vs :=
            ⟨ownsRow_block hOj.1 fun g1 hg1 => by
              have hne : g1 ≠ gj := fun e => own_ne ht.1 hOj (by decide) hgj (by rw [hg1, e])
              have := hOj.lt hg1
              exact c3.block _ this.2.2 (by omega), hOj.2⟩
          have R4 : Chg w1.heap.size w2.heap.size w2b w3 := hch.trans (c3.wide hl1 hl2)
          clear hRj hOj hch hoj R3 c3 ht
          go_wp2
          go_roundw
          case rel => exact ⟨j + 1, by omega, by go_num, R1, R2', R4⟩
          case measure => first | (simp [intOf]; done) | (simp [intOf]; omega)
      · have hj' : j = rows.length := by omega
        have s3 := hch.size
        have R : OwnSS tInt tInts wr w1.heap.size wr.heap.size (.slice a2 rows.length c2) (qs.map List.reverse) := by
          rw [List.drop_of_length_le (by rw [HQL.out]; omega), List.append_nil, List.take_of_length_le (by rw [List.length_map, HQL.out]; omega)] at hRj
          exact OwnSS.wide ⟨vs, hOj, hRj⟩ (Nat.le_refl _) (by omega)
        have k0 := chg_cell hch (.inr (Nat.le_refl _)) k0
        have k1 := chg_cell hch (.inr (Nat.le_refl _)) k1
        have b3 : Below w1.heap.size w2b wr := hch.below (by omega) (Nat.le_refl _)
        obtain ⟨d0, d1, f0, f1, _⟩ := r2b.below b3 (by omega)
        have bw : Below w.heap.size w wr := bw2b.trans (b3.mono (by omega))
        obtain ⟨RR, BB⟩ := R.res (R := w.heap.size + 1) (x := .int .i64 N) (y := .slice a2 rows.length c2) (by omega) bw (by omega)
        clear hRj hOj R
        go_wp2
        exact bodyPost_ret (v := .tuple #[.agg #[.int .i64 N, .slice a2 rows.length c2], .bool true]) (by simp [results, Try.results38, go_sem, d0, d1]) rfl ⟨_, rfl, by rw [HM.out]; exact RR, BB⟩
  · have ht := tf_no hN
    have hNP : ¬ (MirP n rows) := fun h => hN (And.left h)
    rw [nbN_no hNP, nbR_no hNP, tf_no hNP]
    clear hNP
    subst hv
    clear hN
    go_enter Try.func38, Try.ntmps38
    go_wp2_with fail
    refine (implNetworkOk _ _ rows _ (hk.out _ (((Below.refl _ _).alloc (Nat.le_refl _) _).alloc (by simp) _))).mono ?_; rintro e w1 ⟨rfl, b1⟩
    obtain ⟨d0, d1, f0, f1, _⟩ := (ResC.start (w.alloc (.cells #[.int .i64 n, .slice ao rows.length cap] 26)) 26).below b1 (by simp)
    rw [World.size_alloc] at d0 d1 f0 f1
    have bw : Below w.heap.size w w1 := (((Below.refl _ _).alloc (Nat.le_refl _) _).alloc (by simp) _).trans (b1.mono (by simp; omega))
    go_wp2
    exact bodyPost_ret (v := .tuple #[.agg #[.int .i64 0, .slice none 0 0], .bool false]) (by simp [results, Try.results38, go_sem, d0, d1]) rfl ⟨_, rfl, OwnSS.nil _ _ _ _ _, (bw.setCell (by simp) _).setCell (by simp) _⟩

end Go.Proofs.Ytelilimkcboioaa
