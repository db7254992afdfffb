/- Contracts: JoinNetworks, the program's and the reference's, walked. -/
import Derived.Test.YtcmdnjnnidkboaaJoin
import Derived.Test.YtcmdnjnnidkboaaNetB
import Derived.Test.YtcmdnjnnidkboaaSlice
namespace Go.Proofs.Ytcmdnjnnidkboaa
open Go.RowKit
set_option linter.unusedVariables false

theorem OwnSS.setOther {w : World} {lo hi g k : Nat} {v u : Value} {rows : List (List Int)} {cs : Array Value} {t : TypeId} {fr : Nat × Nat} (h : OwnSS tInt tInts w lo hi v rows) (hg : w.heap[g]? = some (.cells cs t fr)) (h1 : t ≠ tInt) (h2 : t ≠ tInts) :
    OwnSS tInt tInts (w.setCell ⟨g, k, none⟩ u) lo hi v rows := by
  obtain ⟨vs, hO, hR⟩ := h
  have key : ∀ (e : TypeId) (b : Value) (ws : List Value) (l h' : Nat), t ≠ e → Own e w l h' b ws → Own e (w.setCell ⟨g, k, none⟩ u) l h' b ws := fun e b ws l h' hne ho => by
    refine ⟨ownsRow_block ho.1 fun g' hg' => Below.heap_setCell _ _ _ _ ?_, ho.2⟩
    show g' ≠ g
    intro e'
    subst e'
    rcases ho.1.2 with ⟨hx, _⟩ | ⟨g1, cap1, cur1, hx, _, hgg1, _⟩
    · rw [hx] at hg'; cases hg'
    · rw [hx] at hg'
      simp [Value.ownBlock] at hg'
      subst hg'
      rw [hg] at hgg1
      simp only [Option.some.injEq, Obj.cells.injEq] at hgg1
      exact hne hgg1.2.1
  exact ⟨vs, key _ _ _ _ _ h2 hO, hR.map fun b xs ho => ⟨key _ _ _ _ _ h1 ho.1, ho.2⟩⟩
theorem fieldNet (n : Int) (a : Option Addr) (l c : Nat) (W : World) : (Instr.field 26 (.agg #[.int .i64 n, .slice a l c]) 1).run Try.prog W = .ok (.slice a l c) W := by kernel_rfl
theorem own_far {e : TypeId} {w : World} {lo hi : Nat} {v : Value} {us : List Value} (h : Own e w lo hi v us) (L : Nat) (hL : L ≤ lo) : Hid (∀ g, g < L → some g ≠ v.ownBlock) := fun g hg e => by have := h.lt e.symm; omega
theorem OwnSS.shapeL {w : World} {lo hi : Nat} {v : Value} {rows : List (List Int)} (h : OwnSS tInt tInts w lo hi v rows) : ∃ a c, v = .slice a rows.length c := by
  obtain ⟨vs, hO, hR⟩ := h
  rcases hO.cases with ⟨rfl, rfl⟩ | ⟨g, cap, rfl, _⟩
  · have := hR.1; exact ⟨none, 0, by rw [← this]; rfl⟩
  · exact ⟨_, _, by rw [hR.1]⟩
theorem OwnSS.opened {w : World} {lo hi : Nat} {v : Value} {rows : List (List Int)} (h : OwnSS tInt tInts w lo hi v rows) (h0 : 0 < rows.length) :
    ∃ g c vs, v = .slice (some ⟨g, 0, none⟩) rows.length c ∧ Own tInts w lo hi v vs ∧ RowsOwn tInt w lo hi vs rows ∧ (∀ j u, vs[j]? = some u → w.cell? ((⟨g, 0, none⟩ : Addr).add j) = some u) ∧ (∀ u ∈ vs, u.oneCell' = true) ∧ vs.length = rows.length := by
  obtain ⟨vs, hO, hR⟩ := h
  have hl := hR.1
  have h1 : ∀ u ∈ vs, u.oneCell' = true := fun u hu => by
    obtain ⟨i, hi', rfl⟩ := List.getElem_of_mem hu
    obtain ⟨a, l, c, e⟩ := (hR.2.1 i hi' (by rw [← hl]; exact hi')).shape
    rw [e]; rfl
  rcases hO.cases with ⟨rfl, rfl⟩ | ⟨g, cap, rfl, _, _, _, _, _, _, hc, _⟩
  · simp at hl; omega
  · refine ⟨g, cap, vs, by rw [hl], hO, hR, fun j u hj => ?_, h1, hl⟩
    rcases Nat.lt_or_ge j vs.length with hj' | hj'
    · rw [List.getElem?_eq_getElem hj'] at hj
      cases hj
      have : ((⟨g, 0, none⟩ : Addr).add j) = ⟨g, j, none⟩ := by unfold Addr.add; split <;> simp_all
      rw [this]; exact hc j hj'
    · rw [List.getElem?_eq_none hj'] at hj; cases hj

/-- append of a slice of rows to another one, both of the call's own, in one step of a region. -/
theorem step_append_rows (w : World) {ops : Array Oper} {o : Oper} {a : Act} {K : Act → World → Prop} {Q : Exit → Act → World → Prop} {E : Prop} (hgd : o.guard = none) (s x : Operand) (t : TypeId)
    (ho : o.op = .call { callee := .builtin .append, args := #[s, x], argTypes := #[t, t] }) (ht : Try.prog.underlying t = some (.slice tInts))
    (lo mid : Nat) (u1 u2 : Value) (rows qs : List (List Int)) (hs : a.eval s = u1) (hx : a.eval x = u2) (h1 : OwnSS tInt tInts w lo mid u1 rows) (h2 : OwnSS tInt tInts w mid w.heap.size u2 qs)
    (hlo : lo ≤ mid) (hmid : mid ≤ w.heap.size) (h60 : rows.length ≤ 60) (h60' : qs.length ≤ 60)
    (h : ∀ a5 l5 c5 w', OwnSS tInt tInts w' lo w'.heap.size (.slice a5 l5 c5) (rows ++ qs) → Chg lo mid w w' → K (a.put o.dst (.slice a5 l5 c5)) w') :
    if Region.wanted o (yielded ops a.tmps) = true then Oper.wp Try.prog o a w K Q else E := by
  obtain ⟨i0, hi, hz0, hz1, hz2⟩ := info_parts infoInts
  rcases Nat.eq_zero_or_pos qs.length with h0 | h0
  · obtain ⟨a2, c2, rfl⟩ := h2.shapeL
    obtain ⟨a1, l1, c1, hu⟩ := h1.shape
    subst hu
    have hq : qs = [] := List.eq_nil_of_length_eq_zero h0
    rw [h0] at hx
    obtain ⟨vs, hO, hR⟩ := h1
    refine step_append_none w hgd s x t ho lo tInts i0 ht hi (.slice a1 l1 c1) vs.length vs hs hO.1 a2 c2 hx (h a1 l1 c1 w ?_ (Chg.refl _ _ _))
    rw [hq, List.append_nil]
    exact OwnSS.wide ⟨vs, hO, hR⟩ (Nat.le_refl _) hmid
  · obtain ⟨g4, c4, us, rfl, hO4, hR4, hc4, h14, hl4⟩ := h2.opened h0
    obtain ⟨vs, hO, hR⟩ := h1
    have hvl := hR.1
    refine step_append_lies w hgd s x t ho lo tInts i0 (.slice none 0 0) 1 24 ht hi hz0 hz1 hz2 rfl (by decide) u1 vs.length vs hs hO.1 ⟨g4, 0, none⟩ qs.length c4 us hx (by omega) hc4 h14 h0 (by unfold maxLen; omega) (by omega) (by omega) w.heap.size rfl ?_
    intro g5 cap5 w5 hown hgrow hat hlt5
    have R5 := OwnSS.joined (w1 := w5) (v' := .slice (some ⟨g5, 0, none⟩) (vs.length + qs.length) cap5) hO hR hR4 hlo hmid (by rw [List.length_append, hl4]; exact hown) hgrow
    have bb := below_app (Below.refl _ _) hO hgrow (Nat.le_refl _) (by omega)
    exact h _ _ _ w5 R5 ⟨bb.os, bb.tape, bb.output, bb.size, fun k hk ho => hgrow.block k hk fun e => by have := hO.lt e.symm; omega⟩

set_option maxHeartbeats 6000000 in
set_option maxRecDepth 100000 in
theorem specJoinNetworks (n : Int) (v : Value) (rows : List (List Int)) (n' : Int) (v' : Value) (rows' : List (List Int)) (w : World) (hn : (Lit.int .i64 n).wf = true) (h : IntSS w v rows) (hl : rows.length + sumLen rows ≤ 1048576) (hn' : (Lit.int .i64 n').wf = true) (h' : IntSS w v' rows') (hl' : rows'.length + sumLen rows' ≤ 1048576) :
    Calls Try.prog 9 #[.agg #[.int .i64 n, v], .agg #[.int .i64 n', v']] w (GivesNB w (nbN (JnP n rows n' rows') n) (nbR (JnP n rows n' rows') (rows ++ rows')) (tf (JnP n rows n' rows'))) := by
  have hk : Hid (∀ W, Below w.heap.size w W → IntSS W v rows) := fun W hb => h.keep (Below.keeps hb)
  have hk' : Hid (∀ W, Below w.heap.size w W → IntSS W v' rows') := fun W hb => h'.keep (Below.keeps hb)
  obtain ⟨ao, cap, hv, hcap, hmax, _⟩ := h
  obtain ⟨ao', cap', hv', hcap', hmax', _⟩ := h'
  unfold maxLen at hmax hmax'
  clear hn hl hn' hl'
  subst hv; subst hv'
  rcases Classical.em (NetP n rows) with hN | hN
  · have ht := tf_yes hN
    rcases Classical.em (NetP n' rows') with hM | hM
    · have ht' := tf_yes hM
      by_cases hnn : n = n'
      · subst hnn
        have h60 := hN.2.1
        have h60' := hM.2.1
        have HNN := Lib.hid hN
        have HMM := Lib.hid hM
        obtain ⟨N, rfl, hr, hp⟩ := hN.pairs
        obtain ⟨N', hNe, hr', hp'⟩ := hM.pairs
        have hNe : N' = N := by omega
        subst hNe
        have HP := Lib.hid hp; have HP' := Lib.hid hp'; have HR := Lib.hid hr; have HR' := Lib.hid hr'
        clear hN hM hp hp' hr hr'
        by_cases hsum : rows.length + rows'.length ≤ 60
        · have hj : tf (NetP N' (rows ++ rows')) = true := tf_yes ((HNN.out.join HMM.out).2 hsum)
          have hP : JnP N' rows N' rows' := ⟨HNN.out, HMM.out, rfl, hsum⟩
          rw [nbN_yes hP, nbR_yes hP, tf_yes hP]
          clear hP HNN HMM
          have hR60 : Hid (rows.length + rows'.length ≤ 60) := hsum
          clear hsum
          go_enter Try.func9, Try.ntmps9
          go_wp2_with fail
          refine (specNetworkOk _ _ rows _ (hk.out _ ((((Below.refl _ _).alloc (Nat.le_refl _) _).alloc (by simp) _).alloc (by simp; omega) _))).mono ?_; rintro e w1 ⟨rfl, b1⟩
          have r1 := (ResC.start ((w.alloc (.cells #[.int .i64 N', .slice ao rows.length cap] 26)).alloc (.cells #[.int .i64 N', .slice ao' rows'.length cap'] 26)) 26).below b1 (by simp)
          rw [World.size_alloc, World.size_alloc] at r1
          have ca0 : w1.cell? ⟨w.heap.size, 0, none⟩ = some (.int .i64 N') := (b1.cell (by simp; omega)).trans (by simp [go_sem])
          have ca1 : w1.cell? ⟨w.heap.size, 1, none⟩ = some (.slice ao rows.length cap) := (b1.cell (by simp; omega)).trans (by simp [go_sem])
          have cb0 : w1.cell? ⟨w.heap.size + 1, 0, none⟩ = some (.int .i64 N') := (b1.cell (by simp)).trans (by simp [go_sem])
          have cb1 : w1.cell? ⟨w.heap.size + 1, 1, none⟩ = some (.slice ao' rows'.length cap') := (b1.cell (by simp)).trans (by simp [go_sem])
          have bw1 : Below w.heap.size w w1 := ((((Below.refl _ _).alloc (Nat.le_refl _) _).alloc (by simp) _).alloc (by simp; omega) _).trans (b1.mono (by simp; omega))
          have s1 : w.heap.size + 3 ≤ w1.heap.size := by have := b1.size; simpa using this
          go_wp2_with fail
          refine (specNetworkOk _ _ rows' _ (hk'.out _ bw1)).mono ?_; rintro e w2 ⟨rfl, b2⟩
          have s2 := b2.size
          have ca0 := Below.keeps b2 _ _ ca0
          have ca1 := Below.keeps b2 _ _ ca1
          have cb0 := Below.keeps b2 _ _ cb0
          have cb1 := Below.keeps b2 _ _ cb1
          have bw2 := bw1.trans (b2.mono (by omega))
          have r2 := r1.below b2 (by omega)
          have hne9 : (((N' : Int)) != ((N' : Int))) = false := by simp
          have HI1 : Hid (IntSS w2.drew (.slice ao rows.length cap) (rowsOf (pairsOf rows))) := (by rw [← HR.out]; exact hk.out _ bw2.drew)
          go_wp2
          go_region_held3 (fun w' => w'.cell? ⟨w.heap.size, 0, none⟩ = some (.int .i64 N') ∧ w'.cell? ⟨w.heap.size, 1, none⟩ = some (.slice ao rows.length cap) ∧ w'.cell? ⟨w.heap.size + 1, 1, none⟩ = some (.slice ao' rows'.length cap'))
            ((go_split_ands; refine ⟨?_, ?_, ?_⟩ <;> (first | assumption | exact cell_st (by assumption) (by first | (simp; done) | (simp; omega)) | exact cell_st (cell_st (by assumption) (by first | (simp; done) | (simp; omega))) (by first | (simp; done) | (simp; omega)) | exact Below.keeps b6 _ _ (by assumption) | exact chg_cell b5w (.inl (by omega)) (by assumption) | exact Below.keeps b4 _ _ (by assumption) | exact Below.keeps b3 _ _ (by assumption))))
            ((first | (refine step_append_rows _ (by rfl) (.tmp 26) (.tmp 29) 22 (by rfl) Try.underlying22 w2.heap.size w3.heap.size (.slice a3 l3 c3) (.slice a4 l4 c4) rows rows' (by rfl) (by rfl) R3b R4 s3 s4 h60 h60' ?_; intro a5 l5 c5 w5 R5 b5w; have s5 := b5w.size) | (go_at_call 29; refine Calls.mono (by with_reducible exact l02Copy N' _ (pairsOf rows) _ HI1.out HP.out) ?_; rintro e w3 ⟨u3, rfl, R3, b3⟩; have s3 : w2.heap.size ≤ w3.heap.size := b3.size; rw [← HR.out] at R3; obtain ⟨a3, l3, c3, hu3⟩ := R3.shape; subst hu3) | (go_at_call 29; refine Calls.mono (by with_reducible exact l02Copy N' _ (pairsOf rows') _ (by rw [← HR'.out]; exact hk'.out _ (bw2.drew.trans (b3.mono (by first | (simp; done) | (simp; omega))))) HP'.out) ?_; rintro e w4 ⟨u4, rfl, R4, b4⟩; have s4 := b4.size; rw [← HR'.out] at R4; have R3b := R3.below b4 (Nat.le_refl _); obtain ⟨a4, l4, c4, hu4⟩ := R4.shape; subst hu4) | (go_at_call 28; refine Calls.mono (by with_reducible exact l02Out N' _ (rows ++ rows') _ R5.intss) ?_; rintro e w6 ⟨rfl, b6⟩; have s6 := b6.size; rw [hj]; simp only [cond_true]; have b3q : Below w2.heap.size w2 w3 := (Below.refl _ w2).drew.trans b3; have b5 : Below w2.heap.size w2 w5 := (b3q.trans (b4.mono s3)).trans (b5w.below (by omega) (Nat.le_refl _)); have b7 : Below w2.heap.size w2 w6 := b5.trans (b6.mono (by omega)); have bw6 := bw2.trans (b7.mono (by omega)); obtain ⟨d0, d1, f0, f1, _⟩ := r2.below b7 (by omega); have R6 := (R5.below b6 (Nat.le_refl _)).wide (Nat.le_refl _) s6; obtain ⟨RR, BB⟩ := R6.res (R := w.heap.size + 1 + 1) (x := .int .i64 N') (y := .slice a5 l5 c5) (by omega) bw6 (by omega))))
          go_wp2
          exact bodyPost_ret (v := .tuple #[.agg #[.int .i64 N', .slice a5 l5 c5], .bool true]) (by simp [results, Try.results9, go_sem, d0, d1]) rfl ⟨_, rfl, RR, BB⟩
        · have hj : tf (NetP N' (rows ++ rows')) = false := tf_no (fun hh => hsum ((HNN.out.join HMM.out).1 hh))
          have hNP : ¬ JnP N' rows N' rows' := fun h => hsum h.2.2.2
          rw [nbN_no hNP, nbR_no hNP, tf_no hNP]
          clear hNP HNN HMM hsum
          go_enter Try.func9, Try.ntmps9
          go_wp2_with fail
          refine (specNetworkOk _ _ rows _ (hk.out _ ((((Below.refl _ _).alloc (Nat.le_refl _) _).alloc (by simp) _).alloc (by simp; omega) _))).mono ?_; rintro e w1 ⟨rfl, b1⟩
          have r1 := (ResC.start ((w.alloc (.cells #[.int .i64 N', .slice ao rows.length cap] 26)).alloc (.cells #[.int .i64 N', .slice ao' rows'.length cap'] 26)) 26).below b1 (by simp)
          rw [World.size_alloc, World.size_alloc] at r1
          have ca0 : w1.cell? ⟨w.heap.size, 0, none⟩ = some (.int .i64 N') := (b1.cell (by simp; omega)).trans (by simp [go_sem])
          have ca1 : w1.cell? ⟨w.heap.size, 1, none⟩ = some (.slice ao rows.length cap) := (b1.cell (by simp; omega)).trans (by simp [go_sem])
          have cb0 : w1.cell? ⟨w.heap.size + 1, 0, none⟩ = some (.int .i64 N') := (b1.cell (by simp)).trans (by simp [go_sem])
          have cb1 : w1.cell? ⟨w.heap.size + 1, 1, none⟩ = some (.slice ao' rows'.length cap') := (b1.cell (by simp)).trans (by simp [go_sem])
          have bw1 : Below w.heap.size w w1 := ((((Below.refl _ _).alloc (Nat.le_refl _) _).alloc (by simp) _).alloc (by simp; omega) _).trans (b1.mono (by simp; omega))
          have s1 : w.heap.size + 3 ≤ w1.heap.size := by have := b1.size; simpa using this
          go_wp2_with fail
          refine (specNetworkOk _ _ rows' _ (hk'.out _ bw1)).mono ?_; rintro e w2 ⟨rfl, b2⟩
          have s2 := b2.size
          have ca0 := Below.keeps b2 _ _ ca0
          have ca1 := Below.keeps b2 _ _ ca1
          have cb0 := Below.keeps b2 _ _ cb0
          have cb1 := Below.keeps b2 _ _ cb1
          have bw2 := bw1.trans (b2.mono (by omega))
          have r2 := r1.below b2 (by omega)
          have hne9 : (((N' : Int)) != ((N' : Int))) = false := by simp
          have HI1 : Hid (IntSS w2.drew (.slice ao rows.length cap) (rowsOf (pairsOf rows))) := (by rw [← HR.out]; exact hk.out _ bw2.drew)
          go_wp2
          go_region_held3 (fun w' => w'.cell? ⟨w.heap.size, 0, none⟩ = some (.int .i64 N') ∧ w'.cell? ⟨w.heap.size, 1, none⟩ = some (.slice ao rows.length cap) ∧ w'.cell? ⟨w.heap.size + 1, 1, none⟩ = some (.slice ao' rows'.length cap'))
            ((go_split_ands; refine ⟨?_, ?_, ?_⟩ <;> (first | assumption | exact cell_st (by assumption) (by first | (simp; done) | (simp; omega)) | exact cell_st (cell_st (by assumption) (by first | (simp; done) | (simp; omega))) (by first | (simp; done) | (simp; omega)) | exact Below.keeps b6 _ _ (by assumption) | exact chg_cell b5w (.inl (by omega)) (by assumption) | exact Below.keeps b4 _ _ (by assumption) | exact Below.keeps b3 _ _ (by assumption))))
            ((first | (refine step_append_rows _ (by rfl) (.tmp 26) (.tmp 29) 22 (by rfl) Try.underlying22 w2.heap.size w3.heap.size (.slice a3 l3 c3) (.slice a4 l4 c4) rows rows' (by rfl) (by rfl) R3b R4 s3 s4 h60 h60' ?_; intro a5 l5 c5 w5 R5 b5w; have s5 := b5w.size) | (go_at_call 29; refine Calls.mono (by with_reducible exact l02Copy N' _ (pairsOf rows) _ HI1.out HP.out) ?_; rintro e w3 ⟨u3, rfl, R3, b3⟩; have s3 : w2.heap.size ≤ w3.heap.size := b3.size; rw [← HR.out] at R3; obtain ⟨a3, l3, c3, hu3⟩ := R3.shape; subst hu3) | (go_at_call 29; refine Calls.mono (by with_reducible exact l02Copy N' _ (pairsOf rows') _ (by rw [← HR'.out]; exact hk'.out _ (bw2.drew.trans (b3.mono (by first | (simp; done) | (simp; omega))))) HP'.out) ?_; rintro e w4 ⟨u4, rfl, R4, b4⟩; have s4 := b4.size; rw [← HR'.out] at R4; have R3b := R3.below b4 (Nat.le_refl _); obtain ⟨a4, l4, c4, hu4⟩ := R4.shape; subst hu4) | (go_at_call 28; refine Calls.mono (by with_reducible exact l02Out N' _ (rows ++ rows') _ R5.intss) ?_; rintro e w6 ⟨rfl, b6⟩; have s6 := b6.size; rw [hj]; simp only [cond_false]; have b3q : Below w2.heap.size w2 w3 := (Below.refl _ w2).drew.trans b3; have b5 : Below w2.heap.size w2 w5 := (b3q.trans (b4.mono s3)).trans (b5w.below (by omega) (Nat.le_refl _)); have b7 : Below w2.heap.size w2 w6 := b5.trans (b6.mono (by omega)); have bw6 := bw2.trans (b7.mono (by omega)); obtain ⟨d0, d1, f0, f1, _⟩ := r2.below b7 (by omega))))
          go_wp2
          exact bodyPost_ret (v := .tuple #[.agg #[.int .i64 0, .slice none 0 0], .bool false]) (by simp [results, Try.results9, go_sem, d0, d1]) rfl ⟨_, rfl, OwnSS.nil _ _ _ _ _, (bw6.setCell (by first | (simp; done) | (simp; omega)) _).setCell (by first | (simp; done) | (simp; omega)) _⟩
      · have hne : (n != n') = true := by simp [hnn]
        have hNP : ¬ JnP n rows n' rows' := fun h => hnn h.2.2.1
        rw [nbN_no hNP, nbR_no hNP, tf_no hNP]
        clear hNP
        clear hN hM hnn
        go_enter Try.func9, Try.ntmps9
        go_wp2_with fail
        refine (specNetworkOk _ _ rows _ (hk.out _ ((((Below.refl _ _).alloc (Nat.le_refl _) _).alloc (by simp) _).alloc (by simp; omega) _))).mono ?_; rintro e w1 ⟨rfl, b1⟩
        have r1 := (ResC.start ((w.alloc (.cells #[.int .i64 n, .slice ao rows.length cap] 26)).alloc (.cells #[.int .i64 n', .slice ao' rows'.length cap'] 26)) 26).below b1 (by simp)
        rw [World.size_alloc, World.size_alloc] at r1
        have ca0 : w1.cell? ⟨w.heap.size, 0, none⟩ = some (.int .i64 n) := (b1.cell (by simp; omega)).trans (by simp [go_sem])
        have ca1 : w1.cell? ⟨w.heap.size, 1, none⟩ = some (.slice ao rows.length cap) := (b1.cell (by simp; omega)).trans (by simp [go_sem])
        have cb0 : w1.cell? ⟨w.heap.size + 1, 0, none⟩ = some (.int .i64 n') := (b1.cell (by simp)).trans (by simp [go_sem])
        have cb1 : w1.cell? ⟨w.heap.size + 1, 1, none⟩ = some (.slice ao' rows'.length cap') := (b1.cell (by simp)).trans (by simp [go_sem])
        have bw1 : Below w.heap.size w w1 := ((((Below.refl _ _).alloc (Nat.le_refl _) _).alloc (by simp) _).alloc (by simp; omega) _).trans (b1.mono (by simp; omega))
        have s1 : w.heap.size + 3 ≤ w1.heap.size := by have := b1.size; simpa using this
        go_wp2_with fail
        refine (specNetworkOk _ _ rows' _ (hk'.out _ bw1)).mono ?_; rintro e w2 ⟨rfl, b2⟩
        have s2 := b2.size
        have ca0 := Below.keeps b2 _ _ ca0
        have ca1 := Below.keeps b2 _ _ ca1
        have cb0 := Below.keeps b2 _ _ cb0
        have cb1 := Below.keeps b2 _ _ cb1
        have bw2 := bw1.trans (b2.mono (by omega))
        have r2 := r1.below b2 (by omega)
        obtain ⟨d0, d1, f0, f1, _⟩ := r2
        go_wp2
        exact bodyPost_ret (v := .tuple #[.agg #[.int .i64 0, .slice none 0 0], .bool false]) (by simp [results, Try.results9, go_sem, d0, d1]) rfl ⟨_, rfl, OwnSS.nil _ _ _ _ _, (bw2.setCell (by first | (simp; done) | (simp; omega)) _).setCell (by first | (simp; done) | (simp; omega)) _⟩
    · have ht' := tf_no hM
      have hNP : ¬ JnP n rows n' rows' := fun h => hM h.2.1
      rw [nbN_no hNP, nbR_no hNP, tf_no hNP]
      clear hNP
      clear hN hM
      go_enter Try.func9, Try.ntmps9
      go_wp2_with fail
      refine (specNetworkOk _ _ rows _ (hk.out _ ((((Below.refl _ _).alloc (Nat.le_refl _) _).alloc (by simp) _).alloc (by simp; omega) _))).mono ?_; rintro e w1 ⟨rfl, b1⟩
      have r1 := (ResC.start ((w.alloc (.cells #[.int .i64 n, .slice ao rows.length cap] 26)).alloc (.cells #[.int .i64 n', .slice ao' rows'.length cap'] 26)) 26).below b1 (by simp)
      rw [World.size_alloc, World.size_alloc] at r1
      have ca0 : w1.cell? ⟨w.heap.size, 0, none⟩ = some (.int .i64 n) := (b1.cell (by simp; omega)).trans (by simp [go_sem])
      have ca1 : w1.cell? ⟨w.heap.size, 1, none⟩ = some (.slice ao rows.length cap) := (b1.cell (by simp; omega)).trans (by simp [go_sem])
      have cb0 : w1.cell? ⟨w.heap.size + 1, 0, none⟩ = some (.int .i64 n') := (b1.cell (by simp)).trans (by simp [go_sem])
      have cb1 : w1.cell? ⟨w.heap.size + 1, 1, none⟩ = some (.slice ao' rows'.length cap') := (b1.cell (by simp)).trans (by simp [go_sem])
      have bw1 : Below w.heap.size w w1 := ((((Below.refl _ _).alloc (Nat.le_refl _) _).alloc (by simp) _).alloc (by simp; omega) _).trans (b1.mono (by simp; omega))
      have s1 : w.heap.size + 3 ≤ w1.heap.size := by have := b1.size; simpa using this
      go_wp2_with fail
      refine (specNetworkOk _ _ rows' _ (hk'.out _ bw1)).mono ?_; rintro e w2 ⟨rfl, b2⟩
      have s2 := b2.size
      have ca0 := Below.keeps b2 _ _ ca0
      have ca1 := Below.keeps b2 _ _ ca1
      have cb0 := Below.keeps b2 _ _ cb0
      have cb1 := Below.keeps b2 _ _ cb1
      have bw2 := bw1.trans (b2.mono (by omega))
      have r2 := r1.below b2 (by omega)
      obtain ⟨d0, d1, f0, f1, _⟩ := r2
      go_wp2
      exact bodyPost_ret (v := .tuple #[.agg #[.int .i64 0, .slice none 0 0], .bool false]) (by simp [results, Try.results9, go_sem, d0, d1]) rfl ⟨_, rfl, OwnSS.nil _ _ _ _ _, (bw2.setCell (by first | (simp; done) | (simp; omega)) _).setCell (by first | (simp; done) | (simp; omega)) _⟩
  · have ht := tf_no hN
    have hNP : ¬ JnP n rows n' rows' := fun h => hN h.1
    rw [nbN_no hNP, nbR_no hNP, tf_no hNP]
    clear hNP
    clear hN
    go_enter Try.func9, Try.ntmps9
    go_wp2_with fail
    refine (specNetworkOk _ _ rows _ (hk.out _ ((((Below.refl _ _).alloc (Nat.le_refl _) _).alloc (by simp) _).alloc (by simp; omega) _))).mono ?_; rintro e w1 ⟨rfl, b1⟩
    have r1 := (ResC.start ((w.alloc (.cells #[.int .i64 n, .slice ao rows.length cap] 26)).alloc (.cells #[.int .i64 n', .slice ao' rows'.length cap'] 26)) 26).below b1 (by simp)
    rw [World.size_alloc, World.size_alloc] at r1
    have ca0 : w1.cell? ⟨w.heap.size, 0, none⟩ = some (.int .i64 n) := (b1.cell (by simp; omega)).trans (by simp [go_sem])
    have ca1 : w1.cell? ⟨w.heap.size, 1, none⟩ = some (.slice ao rows.length cap) := (b1.cell (by simp; omega)).trans (by simp [go_sem])
    have cb0 : w1.cell? ⟨w.heap.size + 1, 0, none⟩ = some (.int .i64 n') := (b1.cell (by simp)).trans (by simp [go_sem])
    have cb1 : w1.cell? ⟨w.heap.size + 1, 1, none⟩ = some (.slice ao' rows'.length cap') := (b1.cell (by simp)).trans (by simp [go_sem])
    have bw1 : Below w.heap.size w w1 := ((((Below.refl _ _).alloc (Nat.le_refl _) _).alloc (by simp) _).alloc (by simp; omega) _).trans (b1.mono (by simp; omega))
    have s1 : w.heap.size + 3 ≤ w1.heap.size := by have := b1.size; simpa using this
    obtain ⟨d0, d1, f0, f1, _⟩ := r1
    go_wp2
    exact bodyPost_ret (v := .tuple #[.agg #[.int .i64 0, .slice none 0 0], .bool false]) (by simp [results, Try.results9, go_sem, d0, d1]) rfl ⟨_, rfl, OwnSS.nil _ _ _ _ _, (bw1.setCell (by first | (simp; done) | (simp; omega)) _).setCell (by first | (simp; done) | (simp; omega)) _⟩
set_option maxHeartbeats 6000000 in
set_option maxRecDepth 100000 in
theorem implJoinNetworks (n : Int) (v : Value) (rows : List (List Int)) (n' : Int) (v' : Value) (rows' : List (List Int)) (w : World) (hn : (Lit.int .i64 n).wf = true) (h : IntSS w v rows) (hl : rows.length + sumLen rows ≤ 1048576) (hn' : (Lit.int .i64 n').wf = true) (h' : IntSS w v' rows') (hl' : rows'.length + sumLen rows' ≤ 1048576) :
    Calls Try.prog 11 #[.agg #[.int .i64 n, v], .agg #[.int .i64 n', v']] w (GivesNB w (nbN (JnP n rows n' rows') n) (nbR (JnP n rows n' rows') (rows ++ rows')) (tf (JnP n rows n' rows'))) := by
  have hk : Hid (∀ W, Below w.heap.size w W → IntSS W v rows) := fun W hb => h.keep (Below.keeps hb)
  have hk' : Hid (∀ W, Below w.heap.size w W → IntSS W v' rows') := fun W hb => h'.keep (Below.keeps hb)
  obtain ⟨ao, cap, hv, hcap, hmax, _⟩ := h
  obtain ⟨ao', cap', hv', hcap', hmax', _⟩ := h'
  unfold maxLen at hmax hmax'
  clear hn hl hn' hl'
  subst hv; subst hv'
  rcases Classical.em (NetP n rows) with hN | hN
  · have ht := tf_yes hN
    rcases Classical.em (NetP n' rows') with hM | hM
    · have ht' := tf_yes hM
      by_cases hnn : n = n'
      · subst hnn
        have h60 := hN.2.1
        have h60' := hM.2.1
        have HNN := Lib.hid hN
        have HMM := Lib.hid hM
        obtain ⟨N, rfl, hr, hp⟩ := hN.pairs
        obtain ⟨N', hNe, hr', hp'⟩ := hM.pairs
        have hNe : N' = N := by omega
        subst hNe
        have HP := Lib.hid hp; have HP' := Lib.hid hp'; have HR := Lib.hid hr; have HR' := Lib.hid hr'
        clear hN hM hp hp' hr hr'
        by_cases hsum : rows.length + rows'.length ≤ 60
        · have hj : tf (NetP N' (rows ++ rows')) = true := tf_yes ((HNN.out.join HMM.out).2 hsum)
          have hP : JnP N' rows N' rows' := ⟨HNN.out, HMM.out, rfl, hsum⟩
          rw [nbN_yes hP, nbR_yes hP, tf_yes hP]
          clear hP HNN HMM
          have hR60 : Hid (rows.length + rows'.length ≤ 60) := hsum
          clear hsum
          go_enter Try.func11, Try.ntmps11
          go_wp2_with fail
          refine (implNetworkOk _ _ rows _ (hk.out _ ((((Below.refl _ _).alloc (Nat.le_refl _) _).alloc (by simp) _).alloc (by simp; omega) _))).mono ?_; rintro e w1 ⟨rfl, b1⟩
          have r1 := (ResC.start ((w.alloc (.cells #[.int .i64 N', .slice ao rows.length cap] 26)).alloc (.cells #[.int .i64 N', .slice ao' rows'.length cap'] 26)) 26).below b1 (by simp)
          rw [World.size_alloc, World.size_alloc] at r1
          have ca0 : w1.cell? ⟨w.heap.size, 0, none⟩ = some (.int .i64 N') := (b1.cell (by simp; omega)).trans (by simp [go_sem])
          have ca1 : w1.cell? ⟨w.heap.size, 1, none⟩ = some (.slice ao rows.length cap) := (b1.cell (by simp; omega)).trans (by simp [go_sem])
          have cb0 : w1.cell? ⟨w.heap.size + 1, 0, none⟩ = some (.int .i64 N') := (b1.cell (by simp)).trans (by simp [go_sem])
          have cb1 : w1.cell? ⟨w.heap.size + 1, 1, none⟩ = some (.slice ao' rows'.length cap') := (b1.cell (by simp)).trans (by simp [go_sem])
          have bw1 : Below w.heap.size w w1 := ((((Below.refl _ _).alloc (Nat.le_refl _) _).alloc (by simp) _).alloc (by simp; omega) _).trans (b1.mono (by simp; omega))
          have s1 : w.heap.size + 3 ≤ w1.heap.size := by have := b1.size; simpa using this
          go_wp2_with fail
          refine (implNetworkOk _ _ rows' _ (hk'.out _ bw1)).mono ?_; rintro e w2 ⟨rfl, b2⟩
          have s2 := b2.size
          have ca0 := Below.keeps b2 _ _ ca0
          have ca1 := Below.keeps b2 _ _ ca1
          have cb0 := Below.keeps b2 _ _ cb0
          have cb1 := Below.keeps b2 _ _ cb1
          have bw2 := bw1.trans (b2.mono (by omega))
          have r2 := r1.below b2 (by omega)
          have hne9 : (((N' : Int)) != ((N' : Int))) = false := by simp
          go_wp2_with fail
          refine (ownN N' _ (pairsOf rows) _ (by rw [← HR.out]; exact hk.out _ bw2) HP.out).mono ?_; rintro e w3 ⟨u3, rfl, R3, b3⟩
          rw [← HR.out] at R3
          obtain ⟨a3, l3, c3, hu3⟩ := R3.shape
          subst hu3
          have s3 := b3.size
          have cb0 := Below.keeps b3 _ _ cb0
          have cb1 := Below.keeps b3 _ _ cb1
          obtain ⟨w3b, HW3⟩ : ∃ W, Hid (W = w3.alloc (.cells #[.int .i64 N', .slice a3 l3 c3] 26)) := ⟨_, rfl⟩
          have b3b : Below w3.heap.size w3 w3b := by rw [HW3.out]; exact (Below.refl _ _).alloc (Nat.le_refl _) _
          have k0 : w3b.cell? ⟨w3.heap.size, 0, none⟩ = some (.int .i64 N') := by rw [HW3.out]; simp [go_sem]
          have k1 : w3b.cell? ⟨w3.heap.size, 1, none⟩ = some (.slice a3 l3 c3) := by rw [HW3.out]; simp [go_sem]
          have k2 : w3b.frozen? ⟨w3.heap.size, 1, none⟩ = false := by rw [HW3.out]; simp [go_sem]
          have hp : w3b.heap[w3.heap.size]? = some (.cells #[.int .i64 N', .slice a3 l3 c3] 26 (0, 0)) := by rw [HW3.out]; exact heap_alloc_new _ _
          have z3 : w3.heap.size < w3b.heap.size := by rw [HW3.out]; simp
          have cb0 := Below.keeps b3b _ _ cb0
          have cb1 := Below.keeps b3b _ _ cb1
          have R3w := R3.below b3b (Nat.le_refl _)
          have hfd := fieldNet N'
          have HI2 : Hid (IntSS w3b.drew (.slice ao' rows'.length cap') (rowsOf (pairsOf rows'))) := (by rw [← HR'.out]; exact hk'.out _ ((bw2.trans ((b3.trans (b3b.mono s3)).mono (by omega))).drew))
          go_wp2
          rw [← HW3.out]
          clear HW3
          rw [show Op.load 22 (Operand.tmp 25) = ldOp 22 (Operand.tmp 25) from rfl]
          go_region_held3 (fun w' => w'.cell? ⟨w.heap.size + 1, 0, none⟩ = some (.int .i64 N') ∧ w'.cell? ⟨w.heap.size + 1, 1, none⟩ = some (.slice ao' rows'.length cap'))
            ((go_split_ands; refine ⟨?_, ?_⟩ <;> (first | assumption | exact cell_st (by assumption) (by first | (simp; done) | (simp; omega)) | exact chg_cell b5w (.inl (by omega)) (by assumption) | exact Below.keeps b4 _ _ (by assumption))))
            ((first | (refine step_append_rows _ (by rfl) (.tmp 26) (.tmp 29) 22 (by rfl) Try.underlying22 w2.heap.size w3.heap.size (.slice a3 l3 c3) (.slice a4 l4 c4) rows rows' (by rfl) (by rfl) R3b R4w s3 (Nat.le_of_lt z4) h60 h60' ?_; intro a5 l5 c5 w5 R5 b5w; have s5 := b5w.size; have k0 := chg_cell b5w (.inr (Nat.le_refl _)) k0; have k1 := chg_cell b5w (.inr (Nat.le_refl _)) k1; have k2 := (World.frozen?_of_block (a := ⟨w3.heap.size, 1, none⟩) (b5w.block _ z4 (.inr (Nat.le_refl _)))).trans k2; have hp := (b5w.block _ z4 (.inr (Nat.le_refl _))).trans hp) | (go_at_call 32; refine Calls.mono (by with_reducible exact ownN N' _ (pairsOf rows') _ HI2.out HP'.out) ?_; rintro e w4 ⟨u4, rfl, R4, b4⟩; have s4 : w3b.heap.size ≤ w4.heap.size := b4.size; rw [← HR'.out] at R4; have b4w : Below w3b.heap.size w3b w4 := (Below.refl _ w3b).drew.trans b4; have R3b := R3w.below b4w (by omega); have R4w : OwnSS tInt tInts w4 w3.heap.size w4.heap.size u4 rows' := R4.wide (by exact Nat.le_of_lt z3) (Nat.le_refl _); obtain ⟨a4, l4, c4, hu4⟩ := R4.shape; subst hu4; have k1 := Below.keeps b4w _ _ k1; have k2 := (b4w.frozen (p := ⟨w3.heap.size, 1, none⟩) z3).trans k2; have k0 := Below.keeps b4w _ _ k0; have hp := (b4w.block _ z3).trans hp; have z4 : w3.heap.size < w4.heap.size := Nat.lt_of_lt_of_le z3 s4)))
          all_goals
            have b5 : Below w2.heap.size w2 w5 := ((b3.trans (b3b.mono s3)).trans (b4w.mono (by omega))).trans (b5w.below (by omega) (Nat.le_refl _))
            obtain ⟨w6, HW⟩ : ∃ W, Hid (W = w5.setCell ⟨w3.heap.size, 1, none⟩ (.slice a5 l5 c5)) := ⟨_, rfl⟩
            have s6 : w6.heap.size = w5.heap.size := by rw [HW.out, size_setCell]
            have R6 : OwnSS tInt tInts w6 w2.heap.size w6.heap.size (.slice a5 l5 c5) (rows ++ rows') := by
              rw [s6, HW.out]; exact R5.setOther hp (by decide) (by decide)
            have b6 : Below w2.heap.size w2 w6 := by rw [HW.out]; exact b5.setCell (by exact s3) _
            have e0 : w6.cell? ⟨w3.heap.size, 0, none⟩ = some (.int .i64 N') := by rw [HW.out, World.cell?_setCell_other _ _ _ _ (by simp)]; exact k0
            have e1 : w6.cell? ⟨w3.heap.size, 1, none⟩ = some (.slice a5 l5 c5) := by rw [HW.out]; exact World.cell?_setCell_same _ _ _ k1
            have bw6 := bw2.trans (b6.mono (by omega))
            have r6 := r2.below b6 (by omega)
            go_wp2_with fail
            rw [← HW.out]
            refine (checkedC N' _ (rows ++ rows') w6 R6.intss).mono ?_; rintro e w7 ⟨rfl, b7⟩
            rw [hj]
            simp only [cond_true]
            have s7 := b7.size
            have bw7 := bw6.trans (b7.mono (by omega))
            obtain ⟨d0, d1, f0, f1, _⟩ := r6.below b7 (by omega)
            have R7 := (R6.below b7 (Nat.le_refl _)).wide (Nat.le_refl _) s7
            obtain ⟨RR, BB⟩ := R7.res (R := w.heap.size + 1 + 1) (x := .int .i64 N') (y := .slice a5 l5 c5) (by omega) bw7 (by omega)
            go_wp2
            exact bodyPost_ret (v := .tuple #[.agg #[.int .i64 N', .slice a5 l5 c5], .bool true]) (by simp [results, Try.results11, go_sem, d0, d1]) rfl ⟨_, rfl, RR, BB⟩
        · have hj : tf (NetP N' (rows ++ rows')) = false := tf_no (fun hh => hsum ((HNN.out.join HMM.out).1 hh))
          have hNP : ¬ JnP N' rows N' rows' := fun h => hsum h.2.2.2
          rw [nbN_no hNP, nbR_no hNP, tf_no hNP]
          clear hNP HNN HMM hsum
          go_enter Try.func11, Try.ntmps11
          go_wp2_with fail
          refine (implNetworkOk _ _ rows _ (hk.out _ ((((Below.refl _ _).alloc (Nat.le_refl _) _).alloc (by simp) _).alloc (by simp; omega) _))).mono ?_; rintro e w1 ⟨rfl, b1⟩
          have r1 := (ResC.start ((w.alloc (.cells #[.int .i64 N', .slice ao rows.length cap] 26)).alloc (.cells #[.int .i64 N', .slice ao' rows'.length cap'] 26)) 26).below b1 (by simp)
          rw [World.size_alloc, World.size_alloc] at r1
          have ca0 : w1.cell? ⟨w.heap.size, 0, none⟩ = some (.int .i64 N') := (b1.cell (by simp; omega)).trans (by simp [go_sem])
          have ca1 : w1.cell? ⟨w.heap.size, 1, none⟩ = some (.slice ao rows.length cap) := (b1.cell (by simp; omega)).trans (by simp [go_sem])
          have cb0 : w1.cell? ⟨w.heap.size + 1, 0, none⟩ = some (.int .i64 N') := (b1.cell (by simp)).trans (by simp [go_sem])
          have cb1 : w1.cell? ⟨w.heap.size + 1, 1, none⟩ = some (.slice ao' rows'.length cap') := (b1.cell (by simp)).trans (by simp [go_sem])
          have bw1 : Below w.heap.size w w1 := ((((Below.refl _ _).alloc (Nat.le_refl _) _).alloc (by simp) _).alloc (by simp; omega) _).trans (b1.mono (by simp; omega))
          have s1 : w.heap.size + 3 ≤ w1.heap.size := by have := b1.size; simpa using this
          go_wp2_with fail
          refine (implNetworkOk _ _ rows' _ (hk'.out _ bw1)).mono ?_; rintro e w2 ⟨rfl, b2⟩
          have s2 := b2.size
          have ca0 := Below.keeps b2 _ _ ca0
          have ca1 := Below.keeps b2 _ _ ca1
          have cb0 := Below.keeps b2 _ _ cb0
          have cb1 := Below.keeps b2 _ _ cb1
          have bw2 := bw1.trans (b2.mono (by omega))
          have r2 := r1.below b2 (by omega)
          have hne9 : (((N' : Int)) != ((N' : Int))) = false := by simp
          go_wp2_with fail
          refine (ownN N' _ (pairsOf rows) _ (by rw [← HR.out]; exact hk.out _ bw2) HP.out).mono ?_; rintro e w3 ⟨u3, rfl, R3, b3⟩
          rw [← HR.out] at R3
          obtain ⟨a3, l3, c3, hu3⟩ := R3.shape
          subst hu3
          have s3 := b3.size
          have cb0 := Below.keeps b3 _ _ cb0
          have cb1 := Below.keeps b3 _ _ cb1
          obtain ⟨w3b, HW3⟩ : ∃ W, Hid (W = w3.alloc (.cells #[.int .i64 N', .slice a3 l3 c3] 26)) := ⟨_, rfl⟩
          have b3b : Below w3.heap.size w3 w3b := by rw [HW3.out]; exact (Below.refl _ _).alloc (Nat.le_refl _) _
          have k0 : w3b.cell? ⟨w3.heap.size, 0, none⟩ = some (.int .i64 N') := by rw [HW3.out]; simp [go_sem]
          have k1 : w3b.cell? ⟨w3.heap.size, 1, none⟩ = some (.slice a3 l3 c3) := by rw [HW3.out]; simp [go_sem]
          have k2 : w3b.frozen? ⟨w3.heap.size, 1, none⟩ = false := by rw [HW3.out]; simp [go_sem]
          have hp : w3b.heap[w3.heap.size]? = some (.cells #[.int .i64 N', .slice a3 l3 c3] 26 (0, 0)) := by rw [HW3.out]; exact heap_alloc_new _ _
          have z3 : w3.heap.size < w3b.heap.size := by rw [HW3.out]; simp
          have cb0 := Below.keeps b3b _ _ cb0
          have cb1 := Below.keeps b3b _ _ cb1
          have R3w := R3.below b3b (Nat.le_refl _)
          have hfd := fieldNet N'
          have HI2 : Hid (IntSS w3b.drew (.slice ao' rows'.length cap') (rowsOf (pairsOf rows'))) := (by rw [← HR'.out]; exact hk'.out _ ((bw2.trans ((b3.trans (b3b.mono s3)).mono (by omega))).drew))
          go_wp2
          rw [← HW3.out]
          clear HW3
          rw [show Op.load 22 (Operand.tmp 25) = ldOp 22 (Operand.tmp 25) from rfl]
          go_region_held3 (fun w' => w'.cell? ⟨w.heap.size + 1, 0, none⟩ = some (.int .i64 N') ∧ w'.cell? ⟨w.heap.size + 1, 1, none⟩ = some (.slice ao' rows'.length cap'))
            ((go_split_ands; refine ⟨?_, ?_⟩ <;> (first | assumption | exact cell_st (by assumption) (by first | (simp; done) | (simp; omega)) | exact chg_cell b5w (.inl (by omega)) (by assumption) | exact Below.keeps b4 _ _ (by assumption))))
            ((first | (refine step_append_rows _ (by rfl) (.tmp 26) (.tmp 29) 22 (by rfl) Try.underlying22 w2.heap.size w3.heap.size (.slice a3 l3 c3) (.slice a4 l4 c4) rows rows' (by rfl) (by rfl) R3b R4w s3 (Nat.le_of_lt z4) h60 h60' ?_; intro a5 l5 c5 w5 R5 b5w; have s5 := b5w.size; have k0 := chg_cell b5w (.inr (Nat.le_refl _)) k0; have k1 := chg_cell b5w (.inr (Nat.le_refl _)) k1; have k2 := (World.frozen?_of_block (a := ⟨w3.heap.size, 1, none⟩) (b5w.block _ z4 (.inr (Nat.le_refl _)))).trans k2; have hp := (b5w.block _ z4 (.inr (Nat.le_refl _))).trans hp) | (go_at_call 32; refine Calls.mono (by with_reducible exact ownN N' _ (pairsOf rows') _ HI2.out HP'.out) ?_; rintro e w4 ⟨u4, rfl, R4, b4⟩; have s4 : w3b.heap.size ≤ w4.heap.size := b4.size; rw [← HR'.out] at R4; have b4w : Below w3b.heap.size w3b w4 := (Below.refl _ w3b).drew.trans b4; have R3b := R3w.below b4w (by omega); have R4w : OwnSS tInt tInts w4 w3.heap.size w4.heap.size u4 rows' := R4.wide (by exact Nat.le_of_lt z3) (Nat.le_refl _); obtain ⟨a4, l4, c4, hu4⟩ := R4.shape; subst hu4; have k1 := Below.keeps b4w _ _ k1; have k2 := (b4w.frozen (p := ⟨w3.heap.size, 1, none⟩) z3).trans k2; have k0 := Below.keeps b4w _ _ k0; have hp := (b4w.block _ z3).trans hp; have z4 : w3.heap.size < w4.heap.size := Nat.lt_of_lt_of_le z3 s4)))
          all_goals
            have b5 : Below w2.heap.size w2 w5 := ((b3.trans (b3b.mono s3)).trans (b4w.mono (by omega))).trans (b5w.below (by omega) (Nat.le_refl _))
            obtain ⟨w6, HW⟩ : ∃ W, Hid (W = w5.setCell ⟨w3.heap.size, 1, none⟩ (.slice a5 l5 c5)) := ⟨_, rfl⟩
            have s6 : w6.heap.size = w5.heap.size := by rw [HW.out, size_setCell]
            have R6 : OwnSS tInt tInts w6 w2.heap.size w6.heap.size (.slice a5 l5 c5) (rows ++ rows') := by
              rw [s6, HW.out]; exact R5.setOther hp (by decide) (by decide)
            have b6 : Below w2.heap.size w2 w6 := by rw [HW.out]; exact b5.setCell (by exact s3) _
            have e0 : w6.cell? ⟨w3.heap.size, 0, none⟩ = some (.int .i64 N') := by rw [HW.out, World.cell?_setCell_other _ _ _ _ (by simp)]; exact k0
            have e1 : w6.cell? ⟨w3.heap.size, 1, none⟩ = some (.slice a5 l5 c5) := by rw [HW.out]; exact World.cell?_setCell_same _ _ _ k1
            have bw6 := bw2.trans (b6.mono (by omega))
            have r6 := r2.below b6 (by omega)
            go_wp2_with fail
            rw [← HW.out]
            refine (checkedC N' _ (rows ++ rows') w6 R6.intss).mono ?_; rintro e w7 ⟨rfl, b7⟩
            rw [hj]
            simp only [cond_false]
            have s7 := b7.size
            have bw7 := bw6.trans (b7.mono (by omega))
            obtain ⟨d0, d1, f0, f1, _⟩ := r6.below b7 (by omega)
            go_wp2
            exact bodyPost_ret (v := .tuple #[.agg #[.int .i64 0, .slice none 0 0], .bool false]) (by simp [results, Try.results11, go_sem, d0, d1]) rfl ⟨_, rfl, OwnSS.nil _ _ _ _ _, (bw7.setCell (by first | (simp; done) | (simp; omega)) _).setCell (by first | (simp; done) | (simp; omega)) _⟩
      · have hne : (n != n') = true := by simp [hnn]
        have hNP : ¬ JnP n rows n' rows' := fun h => hnn h.2.2.1
        rw [nbN_no hNP, nbR_no hNP, tf_no hNP]
        clear hNP
        clear hN hM hnn
        go_enter Try.func11, Try.ntmps11
        go_wp2_with fail
        refine (implNetworkOk _ _ rows _ (hk.out _ ((((Below.refl _ _).alloc (Nat.le_refl _) _).alloc (by simp) _).alloc (by simp; omega) _))).mono ?_; rintro e w1 ⟨rfl, b1⟩
        have r1 := (ResC.start ((w.alloc (.cells #[.int .i64 n, .slice ao rows.length cap] 26)).alloc (.cells #[.int .i64 n', .slice ao' rows'.length cap'] 26)) 26).below b1 (by simp)
        rw [World.size_alloc, World.size_alloc] at r1
        have ca0 : w1.cell? ⟨w.heap.size, 0, none⟩ = some (.int .i64 n) := (b1.cell (by simp; omega)).trans (by simp [go_sem])
        have ca1 : w1.cell? ⟨w.heap.size, 1, none⟩ = some (.slice ao rows.length cap) := (b1.cell (by simp; omega)).trans (by simp [go_sem])
        have cb0 : w1.cell? ⟨w.heap.size + 1, 0, none⟩ = some (.int .i64 n') := (b1.cell (by simp)).trans (by simp [go_sem])
        have cb1 : w1.cell? ⟨w.heap.size + 1, 1, none⟩ = some (.slice ao' rows'.length cap') := (b1.cell (by simp)).trans (by simp [go_sem])
        have bw1 : Below w.heap.size w w1 := ((((Below.refl _ _).alloc (Nat.le_refl _) _).alloc (by simp) _).alloc (by simp; omega) _).trans (b1.mono (by simp; omega))
        have s1 : w.heap.size + 3 ≤ w1.heap.size := by have := b1.size; simpa using this
        go_wp2_with fail
        refine (implNetworkOk _ _ rows' _ (hk'.out _ bw1)).mono ?_; rintro e w2 ⟨rfl, b2⟩
        have s2 := b2.size
        have ca0 := Below.keeps b2 _ _ ca0
        have ca1 := Below.keeps b2 _ _ ca1
        have cb0 := Below.keeps b2 _ _ cb0
        have cb1 := Below.keeps b2 _ _ cb1
        have bw2 := bw1.trans (b2.mono (by omega))
        have r2 := r1.below b2 (by omega)
        obtain ⟨d0, d1, f0, f1, _⟩ := r2
        go_wp2
        exact bodyPost_ret (v := .tuple #[.agg #[.int .i64 0, .slice none 0 0], .bool false]) (by simp [results, Try.results11, go_sem, d0, d1]) rfl ⟨_, rfl, OwnSS.nil _ _ _ _ _, (bw2.setCell (by first | (simp; done) | (simp; omega)) _).setCell (by first | (simp; done) | (simp; omega)) _⟩
    · have ht' := tf_no hM
      have hNP : ¬ JnP n rows n' rows' := fun h => hM h.2.1
      rw [nbN_no hNP, nbR_no hNP, tf_no hNP]
      clear hNP
      clear hN hM
      go_enter Try.func11, Try.ntmps11
      go_wp2_with fail
      refine (implNetworkOk _ _ rows _ (hk.out _ ((((Below.refl _ _).alloc (Nat.le_refl _) _).alloc (by simp) _).alloc (by simp; omega) _))).mono ?_; rintro e w1 ⟨rfl, b1⟩
      have r1 := (ResC.start ((w.alloc (.cells #[.int .i64 n, .slice ao rows.length cap] 26)).alloc (.cells #[.int .i64 n', .slice ao' rows'.length cap'] 26)) 26).below b1 (by simp)
      rw [World.size_alloc, World.size_alloc] at r1
      have ca0 : w1.cell? ⟨w.heap.size, 0, none⟩ = some (.int .i64 n) := (b1.cell (by simp; omega)).trans (by simp [go_sem])
      have ca1 : w1.cell? ⟨w.heap.size, 1, none⟩ = some (.slice ao rows.length cap) := (b1.cell (by simp; omega)).trans (by simp [go_sem])
      have cb0 : w1.cell? ⟨w.heap.size + 1, 0, none⟩ = some (.int .i64 n') := (b1.cell (by simp)).trans (by simp [go_sem])
      have cb1 : w1.cell? ⟨w.heap.size + 1, 1, none⟩ = some (.slice ao' rows'.length cap') := (b1.cell (by simp)).trans (by simp [go_sem])
      have bw1 : Below w.heap.size w w1 := ((((Below.refl _ _).alloc (Nat.le_refl _) _).alloc (by simp) _).alloc (by simp; omega) _).trans (b1.mono (by simp; omega))
      have s1 : w.heap.size + 3 ≤ w1.heap.size := by have := b1.size; simpa using this
      go_wp2_with fail
      refine (implNetworkOk _ _ rows' _ (hk'.out _ bw1)).mono ?_; rintro e w2 ⟨rfl, b2⟩
      have s2 := b2.size
      have ca0 := Below.keeps b2 _ _ ca0
      have ca1 := Below.keeps b2 _ _ ca1
      have cb0 := Below.keeps b2 _ _ cb0
      have cb1 := Below.keeps b2 _ _ cb1
      have bw2 := bw1.trans (b2.mono (by omega))
      have r2 := r1.below b2 (by omega)
      obtain ⟨d0, d1, f0, f1, _⟩ := r2
      go_wp2
      exact bodyPost_ret (v := .tuple #[.agg #[.int .i64 0, .slice none 0 0], .bool false]) (by simp [results, Try.results11, go_sem, d0, d1]) rfl ⟨_, rfl, OwnSS.nil _ _ _ _ _, (bw2.setCell (by first | (simp; done) | (simp; omega)) _).setCell (by first | (simp; done) | (simp; omega)) _⟩
  · have ht := tf_no hN
    have hNP : ¬ JnP n rows n' rows' := fun h => hN h.1
    rw [nbN_no hNP, nbR_no hNP, tf_no hNP]
    clear hNP
    clear hN
    go_enter Try.func11, Try.ntmps11
    go_wp2_with fail
    refine (implNetworkOk _ _ rows _ (hk.out _ ((((Below.refl _ _).alloc (Nat.le_refl _) _).alloc (by simp) _).alloc (by simp; omega) _))).mono ?_; rintro e w1 ⟨rfl, b1⟩
    have r1 := (ResC.start ((w.alloc (.cells #[.int .i64 n, .slice ao rows.length cap] 26)).alloc (.cells #[.int .i64 n', .slice ao' rows'.length cap'] 26)) 26).below b1 (by simp)
    rw [World.size_alloc, World.size_alloc] at r1
    have ca0 : w1.cell? ⟨w.heap.size, 0, none⟩ = some (.int .i64 n) := (b1.cell (by simp; omega)).trans (by simp [go_sem])
    have ca1 : w1.cell? ⟨w.heap.size, 1, none⟩ = some (.slice ao rows.length cap) := (b1.cell (by simp; omega)).trans (by simp [go_sem])
    have cb0 : w1.cell? ⟨w.heap.size + 1, 0, none⟩ = some (.int .i64 n') := (b1.cell (by simp)).trans (by simp [go_sem])
    have cb1 : w1.cell? ⟨w.heap.size + 1, 1, none⟩ = some (.slice ao' rows'.length cap') := (b1.cell (by simp)).trans (by simp [go_sem])
    have bw1 : Below w.heap.size w w1 := ((((Below.refl _ _).alloc (Nat.le_refl _) _).alloc (by simp) _).alloc (by simp; omega) _).trans (b1.mono (by simp; omega))
    have s1 : w.heap.size + 3 ≤ w1.heap.size := by have := b1.size; simpa using this
    obtain ⟨d0, d1, f0, f1, _⟩ := r1
    go_wp2
    exact bodyPost_ret (v := .tuple #[.agg #[.int .i64 0, .slice none 0 0], .bool false]) (by simp [results, Try.results11, go_sem, d0, d1]) rfl ⟨_, rfl, OwnSS.nil _ _ _ _ _, (bw1.setCell (by first | (simp; done) | (simp; omega)) _).setCell (by first | (simp; done) | (simp; omega)) _⟩
end Go.Proofs.Ytcmdnjnnidkboaa
