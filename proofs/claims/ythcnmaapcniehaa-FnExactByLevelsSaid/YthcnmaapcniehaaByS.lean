/- Contract: ByLevels, the reference's. -/
import Derived.Test.YthcnmaapcniehaaByP
import Derived.Test.YthcnmaapcniehaaNb
import Derived.Test.YthcnmaapcniehaaOwn
import Derived.BigRegion
import Derived.BigGuard
import Derived.RegionTactic
namespace Go.Proofs.Ythcnmaapcniehaa
open Go.RowKit
set_option linter.unusedVariables false

/-- The comparators' numbers in ByLevels' order. -/
def srtB (ps : List (Nat × Nat)) : List Nat := byN ps 8 60
theorem srtB_of {N : Nat} {ps : List (Nat × Nat)} (hp : PsOk N ps) {l : List Nat} (h1 : l.Pairwise (ltB ps)) (h2 : ∀ x, x ∈ l ↔ x < ps.length) : l = srtB ps := by
  refine sorted_eq (ltB_irr ps) (ltB_trans ps) _ _ h1 (pair_byN ps 8 60) fun x => ?_
  rw [h2]
  unfold srtB
  rw [mem_byN]
  refine ⟨fun h => ?_, fun h => h.1⟩
  have h3 := lvB_bd ps x h
  have h4 := hp.2.2.2 x h
  have h5 := hp.2.1
  have h6 := hp.2.2.1
  refine ⟨h, h3.1, by omega, ?_⟩
  unfold mnB
  rw [List.getD_eq_getElem?_getD, List.getElem?_eq_getElem h, Option.getD_some]
  omega
theorem byN_srt {N : Nat} {ps : List (Nat × Nat)} (hp : PsOk N ps) {D : Nat} (hD : maxTo (levL ps) ps.length ≤ D) : byN ps N D = srtB ps := srtB_of hp (pair_byN ps N D) (byN_all hp hD)
noncomputable def byR (n : Int) (rows : List (List Int)) : List (List Int) := rowsOf (pkL (pairsOf rows) (srtB (pairsOf rows)))
theorem nodup_lt {r : Nat → Nat → Prop} (irr : ∀ x, ¬ r x x) {l : List Nat} (h : l.Pairwise r) : l.Nodup := List.Pairwise.imp (fun {a b} hab e => by subst e; exact irr a hab) h
theorem short_of {ps : List (Nat × Nat)} {l : List Nat} (h : l.Pairwise (ltB ps)) (h2 : ∀ x ∈ l, x < ps.length) : l.length ≤ ps.length := by
  have := (nodup_lt (ltB_irr ps) h).length_le_of_subset (l₂ := List.range ps.length) fun x hx => List.mem_range.2 (h2 x hx)
  simpa using this
theorem Kept.below {B lo : Nat} {W1 wr w' : World} (h : Kept B lo W1 wr) (hb : Below wr.heap.size wr w') (h1 : B ≤ wr.heap.size) (h2 : lo ≤ wr.heap.size) : Kept B lo W1 w' :=
  ⟨h.1.trans (hb.mono h1), fun i q1 q2 => (hb.block i (by omega)).trans (h.2 i q1 q2)⟩
/-- The reference's state: the network in block B, the rows in the order l so far. -/
def ByIn (B lo : Nat) (N : Nat) (ps : List (Nat × Nat)) (l : List Nat) (W1 wr : World) : Prop := (∃ u, NetIn B lo N (rowsOf (pkL ps l)) wr u) ∧ Kept B lo W1 wr
theorem ByIn.below {B lo N : Nat} {ps : List (Nat × Nat)} {l : List Nat} {W1 wr w' : World} (h : ByIn B lo N ps l W1 wr) (hb : Below wr.heap.size wr w') : ByIn B lo N ps l W1 w' := by
  obtain ⟨⟨u, hu⟩, hk⟩ := h
  have h5 := hu.2.2.2.2.1
  have h6 := hu.2.2.2.2.2
  exact ⟨⟨u, hu.below hb⟩, hk.below hb (by omega) h6⟩
theorem ByIn.drew {B lo N : Nat} {ps : List (Nat × Nat)} {l : List Nat} {W1 wr : World} (h : ByIn B lo N ps l W1 wr) : ByIn B lo N ps l W1 wr.drew := h.below ((Below.refl _ _).drew)

set_option maxHeartbeats 8000000 in
set_option maxRecDepth 100000 in
theorem specByLevels (n : Int) (v : Value) (rows : List (List Int)) (w : World) (hwn : (Lit.int .i64 n).wf = true) (h : IntSS w v rows) (hl : rows.length + sumLen rows ≤ 1048576) :
    Calls Try.prog 5 #[.agg #[.int .i64 n, v]] w (GivesNB w (nbN (NetP n rows) n) (nbR (NetP n rows) (byR n rows)) (tf (NetP n rows))) := by
  have hk : Hid (∀ W, Below w.heap.size w W → IntSS W v rows) := fun W hb => h.keep (Below.keeps hb)
  rcases Classical.em (NetP n rows) with hS | hS
  · have hts := tf_yes hS
    rw [nbN_yes hS, nbR_yes hS]
    obtain ⟨N, rfl, hrows, hp⟩ := hS.pairs
    have HRES : Hid (byR (N : Int) rows = rowsOf (pkL (pairsOf rows) (srtB (pairsOf rows)))) := Lib.hid rfl
    rw [HRES.out]
    clear HRES
    have HP0 := Lib.hid hp
    have HD0 : Hid (depN (N : Int) rows = maxTo (levL (pairsOf rows)) rows.length) := Lib.hid (depN_yes hS)
    have HDEP : Hid (∀ W, Below w.heap.size w W → Calls Try.prog 14 #[.agg #[.int .i64 N, v]] W (GivesN W (depN N rows))) := Lib.hid fun W hb => specDepthOf _ _ rows W hwn (hk.out W hb) hl
    have HNOK : Hid (∀ W, Below w.heap.size w W → Calls Try.prog 12 #[.agg #[.int .i64 N, v]] W (GivesB W (tf (NetP N rows)))) := Lib.hid fun W hb => specNetworkOk _ _ rows W (hk.out W hb)
    rw [hts] at HNOK ⊢
    have hprl := pairsOf_length' rows
    generalize pairsOf rows = ps at *
    have hk2 : Hid (∀ W, Below w.heap.size w W → IntSS W v (rowsOf ps)) := Lib.hid fun W hb => hrows ▸ hk.out W hb
    have hm1 := maxTo_ge (levL ps) 0 ps.length (by rw [levL_length]; exact Nat.le_refl _)
    obtain ⟨D, HD, hD60⟩ : ∃ D : Nat, Hid (depN (N : Int) rows = D) ∧ D ≤ 60 := by
      have h9 : ∀ k, k ≤ ps.length → 0 ≤ maxTo (levL ps) k ∧ maxTo (levL ps) k ≤ 60 := by
        intro k
        induction k with
        | zero => intro _; simp [maxTo]
        | succ k ih =>
          intro hk9
          have h10 := ih (by omega)
          rw [maxTo_succ _ _ (by rw [levL_length]; omega)]
          have h11 := lvB_bd ps k hk9
          have h12 := hp.2.2.1
          unfold lvB at h11
          rw [List.getD_eq_getElem?_getD, List.getElem?_eq_getElem (by rw [levL_length]; omega), Option.getD_some] at h11
          omega
      have h13 := h9 ps.length (Nat.le_refl _)
      refine ⟨(depN (N : Int) rows).toNat, Lib.hid ?_, ?_⟩
      · rw [HD0.out, ← hprl]; omega
      · rw [HD0.out, ← hprl]; omega
    have HFIN : Hid (byN ps N D = srtB ps) := Lib.hid (byN_srt hp (by have := HD0.out; rw [HD.out, ← hprl] at this; omega))
    rw [HD.out] at HDEP
    have hp1 := hp.1
    have hp8 := hp.2.1
    have h60 := hp.2.2.1
    obtain ⟨ao, cap, hv, hcap, hmax, _, hcell⟩ := pairs_open (hk2.out w (Below.refl _ _))
    subst hv
    have HC := Lib.hid hcell
    unfold maxLen at hmax
    clear hcell hrows hk hS h hl hwn hts hprl hm1 hp HD0
    obtain ⟨i0, hi, hz0, hz1, hz2⟩ := info_parts infoInts
    go_enter Try.func5, Try.ntmps5
    go_wp2_with fail
    refine (HNOK.out _ (((Below.refl _ _).alloc (Nat.le_refl _) _).alloc (by simp) _)).mono ?_; rintro e w1 ⟨rfl, b1⟩
    have r1 := (ResC.start (w.alloc (.cells #[.int .i64 N, .slice ao ps.length cap] 26)) 26).below b1 (by simp)
    rw [World.size_alloc] at r1
    have cx : w1.cell? ⟨w.heap.size, 0, none⟩ = some (.int .i64 N) := (b1.cell (by simp; omega)).trans (by simp [go_sem])
    have cy : w1.cell? ⟨w.heap.size, 1, none⟩ = some (.slice ao ps.length cap) := (b1.cell (by simp; omega)).trans (by simp [go_sem])
    have bw1 : Below w.heap.size w w1 := (((Below.refl _ _).alloc (Nat.le_refl _) _).alloc (by simp) _).trans (b1.mono (by simp; omega))
    have s1 : w.heap.size + 2 ≤ w1.heap.size := by have := b1.size; simpa using this
    have y01 : w.heap.size < w1.heap.size := by omega
    clear b1 HNOK
    obtain ⟨W1, HW1⟩ : ∃ W, Hid (W = w1.alloc (.cells #[.int .i64 N, .slice none 0 0] 26)) := ⟨_, rfl⟩
    have bO : Below w1.heap.size w1 W1 := by rw [HW1.out]; exact (Below.refl _ _).alloc (Nat.le_refl _) _
    have hN0 : NetIn w1.heap.size (w1.heap.size + 1) N [] W1 (.slice none 0 0) := by rw [HW1.out]; exact NetIn.start _ _ _
    have s2 : w1.heap.size + 1 ≤ W1.heap.size := by rw [HW1.out]; simp
    have hcx : w.heap.size < W1.heap.size := by omega
    have cx1 := Below.keeps bO _ _ cx
    have cy1 := Below.keeps bO _ _ cy
    have bw2 := bw1.trans (bO.mono bw1.size)
    go_wp2_with fail
    rw [← HW1.out]
    refine (l02Levels N _ ps W1 (hk2.out _ bw2) HP0.out).mono ?_; rintro e w2 ⟨lv, rfl, OL, b2⟩
    obtain ⟨al, ll, cl, hlv⟩ := OL.shape
    have hN2 := hN0.later b2
    have s3 := b2.size
    have IL := OL.ints
    subst hlv
    obtain ⟨al', cl', hv, hc1, hc2, -, hLc⟩ := IL
    simp only [Value.slice.injEq] at hv
    obtain ⟨rfl, rfl, rfl⟩ := hv
    rw [levL_length] at *
    have HL : Hid (∀ k (h : k < ps.length), ∃ g o, al = some ⟨g, o, none⟩ ∧ w2.cell? ⟨g, o + k, none⟩ = some (.int .i64 (lvB ps k)) ∧ w1.heap.size < g ∧ g < w2.heap.size) := Lib.hid fun k hk => by
      obtain ⟨g, o, u, e, hu, hu2, -⟩ := hLc k (by rw [levL_length]; exact hk)
      refine ⟨g, o, e, ?_, ?_, World.block_lt_of_cell? _ _ hu⟩
      · rw [hu, hu2]; unfold lvB; rw [List.getD_eq_getElem?_getD, List.getElem?_eq_getElem (by rw [levL_length]; exact hk)]; rfl
      · have := OL.1.lt (g := g) (by rw [e]; rfl); omega
    have cx2 := Below.keeps b2 _ _ cx1
    have cy2 := Below.keeps b2 _ _ cy1
    have bw3 := bw2.trans (b2.mono bw2.size)
    have r3 := (r1.below bO (by omega)).below b2 (by omega)
    obtain ⟨lo, hlo⟩ : ∃ lo, lo = w2.heap.size := ⟨_, rfl⟩
    have HB0 : Hid (ByIn w1.heap.size w2.heap.size N ps [] w2 w2) := Lib.hid ⟨⟨_, hN2⟩, Kept.refl _ _ _ (by omega)⟩
    have HX : Hid (∀ wr, Kept w1.heap.size w2.heap.size w2 wr → wr.cell? ⟨w.heap.size, 0, none⟩ = some (.int .i64 N) ∧ wr.cell? ⟨w.heap.size, 1, none⟩ = some (.slice ao ps.length cap)) := Lib.hid fun wr hK => ⟨(hK.cell (by show w.heap.size ≠ _; omega) (by show w.heap.size < _; omega)).trans cx2, (hK.cell (by show w.heap.size ≠ _; omega) (by show w.heap.size < _; omega)).trans cy2⟩
    have HR3 := Lib.hid r3
    have HBW : Hid (∀ wr, Kept w1.heap.size w2.heap.size w2 wr → Below w.heap.size w wr) := Lib.hid fun wr hK => bw3.trans (hK.1.mono (by omega))
    have HPC : Hid (∀ k (h : k < ps.length), ∃ b q x po pc, ao = some ⟨b, q, none⟩ ∧ (∀ wr, Kept w1.heap.size w2.heap.size w2 wr → wr.cell? ⟨b, q + k, none⟩ = some (.slice (some ⟨x, po, none⟩) 2 pc) ∧ wr.cell? ⟨x, po, none⟩ = some (.int .i64 (ps[k].1 : Nat)) ∧ wr.cell? ⟨x, po + 1, none⟩ = some (.int .i64 (ps[k].2 : Nat))) ∧ 2 ≤ pc ∧ pc ≤ 2 ^ 63 - 1 ∧ x < w.heap.size) := Lib.hid fun k hk => by
      obtain ⟨b, q, x, po, pc, rfl, hu, g1, g2, d0, d1⟩ := HC.out k hk
      exact ⟨b, q, x, po, pc, rfl, fun wr hK => ⟨Below.keeps (HBW.out wr hK) _ _ hu, Below.keeps (HBW.out wr hK) _ _ d0, Below.keeps (HBW.out wr hK) _ _ d1⟩, g1, g2, World.block_lt_of_cell? w _ d0⟩
    have hhl : hcap = hcap := rfl
    have y1 : w.heap.size < w2.heap.size := by omega
    have y2 : w1.heap.size < w2.heap.size := by omega
    clear hLc OL cx cy cx1 cy1 cx2 cy2 bw1 bw2 bw3 r1 r3 HC hN0 hN2 b2 bO HW1 hcx hlo hhl hc1 s2 s3
    go_wp2
    go_loopw [6] (fun t6 wr => ∃ m : Nat, m ≤ D ∧ t6 = .int .i64 ((m : Int) + 1) ∧ Hid (ByIn w1.heap.size w2.heap.size N ps (byN ps N m) w2 wr)) (fun t6 _ => D + 1 - (intOf t6).toNat)
    case atStart => exact ⟨0, Nat.zero_le _, rfl, HB0⟩
    case round =>
      clear HB0
      obtain ⟨m, hm, rfl, HB⟩ := hrel
      obtain ⟨cx, cy⟩ := HX.out wr HB.out.2
      have hwr : w.heap.size < wr.heap.size := World.block_lt_of_cell? _ _ cx
      go_wp2_with fail
      refine (HDEP.out wr (HBW.out wr HB.out.2)).mono ?_; rintro e wa ⟨rfl, ba⟩
      have HBa : Hid (ByIn w1.heap.size w2.heap.size N ps (byN ps N m) w2 wa) := Lib.hid (HB.out.below ba)
      obtain ⟨cx3, cy3⟩ := HX.out wa HBa.out.2
      clear cx cy HB ba hwr
      have hwa : w.heap.size < wa.heap.size := World.block_lt_of_cell? _ _ cx3
      by_cases hlt : m < D
      · have q1 : (m : Int) + 1 ≤ (D : Int) := by omega
        have q2 : decide ((m : Int) + 1 ≤ (D : Int)) = true := decide_eq_true q1
        have HB1 : Hid (ByIn w1.heap.size w2.heap.size N ps (byN ps N m ++ byW ps (m + 1) 0) w2 wa) := Lib.hid (by rw [show byW ps (m + 1) 0 = [] from rfl, List.append_nil]; exact HBa.out)
        clear HBa cx3 cy3 hwa
        go_wp2
        go_loopw [7] (fun t7 wr => ∃ c : Nat, c ≤ N ∧ t7 = .int .i64 c ∧ Hid (ByIn w1.heap.size w2.heap.size N ps (byN ps N m ++ byW ps (m + 1) c) w2 wr)) (fun t7 _ => N - (intOf t7).toNat)
        case atStart => exact ⟨0, Nat.zero_le _, rfl, HB1⟩
        case round =>
          clear HB1
          obtain ⟨c, hc, rfl, HB⟩ := hrel
          obtain ⟨cx, cy⟩ := HX.out wr HB.out.2
          have hwr : w.heap.size < wr.heap.size := World.block_lt_of_cell? _ _ cx
          by_cases hltc : c < N
          · have q3 : (c : Int) < (N : Int) := by omega
            have HB1 : Hid (ByIn w1.heap.size w2.heap.size N ps ((byN ps N m ++ byW ps (m + 1) c) ++ byI ps (m + 1) c 0) w2 wr) := Lib.hid (by rw [show byI ps (m + 1) c 0 = [] from rfl, List.append_nil]; exact HB.out)
            clear HB
            go_wp2
            clear cx cy hwr
            go_loopw [34] (fun t34 wr => ∃ k : Nat, k ≤ ps.length ∧ t34 = .int .i64 k ∧ Hid (ByIn w1.heap.size w2.heap.size N ps ((byN ps N m ++ byW ps (m + 1) c) ++ byI ps (m + 1) c k) w2 wr)) (fun t34 _ => ps.length - (intOf t34).toNat)
            case atStart => exact ⟨0, Nat.zero_le _, rfl, HB1⟩
            case round =>
              clear HB1
              obtain ⟨k, hk, rfl, HB⟩ := hrel
              by_cases hltk : k < ps.length
              · obtain ⟨b, q, x, po, pc, rfl, hce, g1, g2, hxw⟩ := HPC.out k hltk
                obtain ⟨g, o, rfl, lc, g3, g4⟩ := HL.out k hltk
                obtain ⟨d0, d1, d2⟩ := hce wr HB.out.2
                have d3 : wr.cell? ⟨g, o + k, none⟩ = some (.int .i64 (lvB ps k)) := (HB.out.2.cell (by show g ≠ _; omega) g4).trans lc
                have hmn : Hid (mnB ps k = min ps[k].1 ps[k].2) := Lib.hid (by unfold mnB; rw [List.getD_eq_getElem?_getD, List.getElem?_eq_getElem hltk]; rfl)
                have HW : Hid (In64 (ps[k].1 : Nat) ∧ In64 (ps[k].2 : Nat)) := Lib.hid ⟨WalkArith.wf_i64 (by have := (HP0.out.2.2.2 k hltk).1; omega), WalkArith.wf_i64 (by have := (HP0.out.2.2.2 k hltk).2.1; omega)⟩
                have HSN := Lib.hid (pkL_snoc ps ((byN ps N m ++ byW ps (m + 1) c) ++ byI ps (m + 1) c k) k hltk)
                have q4 : (k : Int) < (ps.length : Int) := by omega
                clear hce lc
                by_cases hlv : lvB ps k = ((m + 1 : Nat) : Int)
                · rw [hlv] at d3
                  rcases Nat.lt_or_ge ps[k].2 ps[k].1 with hmm | hmm
                  · have hmw : mnB ps k = ps[k].2 := by rw [hmn.out]; omega
                    by_cases hcw : ps[k].2 = c
                    · have HYES := Lib.hid (byI_yes (ps := ps) hlv (hmw.trans hcw))
                      obtain ⟨wq, hwq⟩ : ∃ wq, Hid (wr.drew = wq) := ⟨_, rfl⟩
                      obtain ⟨⟨u, hN⟩, hKe⟩ := HB.out.drew
                      have e1 : wr.drew.cell? ⟨x, po, none⟩ = some (.int .i64 (ps[k].1 : Nat)) := d1
                      have e2 : wr.drew.cell? ⟨x, po + 1, none⟩ = some (.int .i64 (ps[k].2 : Nat)) := d2
                      rw [hwq.out] at hN hKe e1 e2
                      have HK := Lib.hid hKe
                      obtain ⟨⟨vs, hO, hR⟩, cn, cu2, cf2, hB, hlo⟩ := hN
                      have HO := Lib.hid hO
                      have HRW := Lib.hid hR
                      have HU : Hid (∀ g, g < w2.heap.size → some g ≠ u.ownBlock) := fun g hg e => by have := HO.out.lt e.symm; omega
                      have hvl : vs.length ≤ 60 := by
                        have h1 := HRW.out.1
                        rw [rowsOf_length, pkL_length] at h1
                        have h2 := short_of (ps := ps) (l := (byN ps N m ++ byW ps (m + 1) c) ++ byI ps (m + 1) c k) ?_ ?_
                        · omega
                        · have := pair_byN ps (c + 1) (m + 1)
                          refine List.pairwise_append.2 ⟨List.pairwise_append.2 ⟨pair_byN ps N m, pair_byW ps (m + 1) c, fun a ha b hb => ?_⟩, pair_byI ps (m + 1) c k, fun a ha b hb => ?_⟩
                          · have h3 := (mem_byN.1 ha).2.2.1
                            have h4 := (mem_byW.1 hb).2.1
                            unfold ltB; omega
                          · have h4 := (mem_byI.1 hb).2
                            rcases List.mem_append.1 ha with ha | ha
                            · have h3 := (mem_byN.1 ha).2.2.1
                              unfold ltB; omega
                            · have h3 := (mem_byW.1 ha).2
                              unfold ltB; omega
                        · intro y hy
                          rcases List.mem_append.1 hy with hy | hy
                          · rcases List.mem_append.1 hy with hy | hy
                            · exact (mem_byN.1 hy).1
                            · exact (mem_byW.1 hy).1
                          · have := (mem_byI.1 hy).1; omega
                      have hB2 : w1.heap.size < wq.heap.size := by omega
                      have hB3 : w1.heap.size < wq.heap.size + 1 := by omega
                      have t1 : (((m + 1 : Nat) : Int) == (m : Int) + 1) = true := by simp
                      have HYS := Lib.hid (show rowsOf (pkL ps ((byN ps N m ++ byW ps (m + 1) c) ++ byI ps (m + 1) c (k + 1))) = rowsOf (pkL ps ((byN ps N m ++ byW ps (m + 1) c) ++ byI ps (m + 1) c k)) ++ [[(ps[k].1 : Int), (ps[k].2 : Int)]] by rw [HYES.out, ← List.append_assoc, HSN.out])
                      clear hO hR HB hKe HYES HSN hlv hmw hmn
                      generalize ps[k].1 = ia at *
                      generalize ps[k].2 = ib at *
                      have z1 : (ib : Int) < (ia : Int) := by omega
                      have z2 : min (ia : Int) (ib : Int) = (ib : Int) := by omega
                      have t2 : ((ib : Int) == (c : Int)) = true := by simp [hcw]
                      have t3 : (min (ia : Int) (ib : Int) == (c : Int)) = true := by rw [z2]; exact t2
                      clear hcw z2
                      go_wp2
                      go_region
                      all_goals
                        rw [hwq.out]
                        clear d0 d1 d2 d3 hwq
                        go_wp2
                        rw [show Op.load 22 (Operand.tmp 56) = ldOp 22 (Operand.tmp 56) from rfl]
                        go_region_held3 (fun w' => w'.cell? ⟨x, po, none⟩ = some (.int .i64 (ia : Nat)) ∧ w'.cell? ⟨x, po + 1, none⟩ = some (.int .i64 (ib : Nat))) ((go_split_ands; refine ⟨?_, ?_⟩ <;> (first | assumption | exact cell_al (by assumption) | exact cell_st (by assumption) (by first | (simp; done) | (simp; omega)) | exact cell_gr hgrow (by assumption) (HU.out _ (by first | (simp; done) | (simp; omega))) | exact Below.keeps b2 _ _ (by assumption)))) ((refine step_append_lies _ (by rfl) (.tmp 57) (.tmp 65) 22 (by rfl) w2.heap.size tInts i0 (.slice none 0 0) 1 24 Try.underlying22 hi hz0 hz1 hz2 rfl (by decide) u vs.length vs (by first | rfl | simp [Act.eval]) (by exact (HO.out.1.alloc _ |>.alloc _)) ⟨wq.heap.size + 1, 0, none⟩ 1 1 [.slice (some ⟨wq.heap.size, 0, none⟩) 2 2] (by simp [Act.eval]) (by rfl) (by exact news_two _ _ _ _) (by simp [Value.oneCell']) (by decide) (by unfold maxLen; omega) (by omega) (by simp; omega) (wq.heap.size + 2) (by simp) ?_; intro g9 cap2 w9 hown hgrow hat hlt2; have zz := after_new (below_two _ _ _) hgrow cu2 cf2 (HU.out _ (by first | (simp; done) | (simp; omega))); obtain ⟨z11, z12⟩ := zz))
                        all_goals
                          obtain ⟨P, Q⟩ := NetIn.push (n := (N : Int)) HO.out HRW.out cn cu2 cf2 hB hlo (below_two _ _ _) (pair_two _ _ _ HW.out.1 HW.out.2 _) (by simp) hown hgrow HK.out
                          rw [← HYS.out] at P
                          have HBN := Lib.hid (show ByIn w1.heap.size w2.heap.size N ps ((byN ps N m ++ byW ps (m + 1) c) ++ byI ps (m + 1) c (k + 1)) w2 _ from ⟨⟨_, P⟩, Q⟩)
                          clear hown hgrow hat hlt2 z11 z12 HO HRW P Q
                          go_wp2
                          go_roundw
                          case rel => exact ⟨k + 1, by omega, by go_num, HBN⟩
                          case measure => simp [intOf]; omega
                    · have HNO : Hid (byI ps (m + 1) c (k + 1) = byI ps (m + 1) c k) := Lib.hid (byI_no fun h => hcw (hmw.symm.trans h.2))
                      have t1 : (((m + 1 : Nat) : Int) == (m : Int) + 1) = true := by simp
                      have HB2 : Hid (ByIn w1.heap.size w2.heap.size N ps ((byN ps N m ++ byW ps (m + 1) c) ++ byI ps (m + 1) c (k + 1)) w2 wr.drew) := Lib.hid (by rw [HNO.out]; exact HB.out.drew)
                      clear HB HNO hlv hmw hmn HW HSN
                      generalize ps[k].1 = ia at *
                      generalize ps[k].2 = ib at *
                      have z1 : (ib : Int) < (ia : Int) := by omega
                      have z2 : min (ia : Int) (ib : Int) = (ib : Int) := by omega
                      have t2 : ((ib : Int) == (c : Int)) = false := by simp; omega
                      have t3 : (min (ia : Int) (ib : Int) == (c : Int)) = false := by rw [z2]; exact t2
                      clear hcw z2
                      go_wp2
                      go_region
                      all_goals
                        go_wp2
                        go_roundw
                        case rel => exact ⟨k + 1, by omega, by go_num, HB2⟩
                        case measure => simp [intOf]; omega
                  · have hmw : mnB ps k = ps[k].1 := by rw [hmn.out]; omega
                    by_cases hcw : ps[k].1 = c
                    · have HYES := Lib.hid (byI_yes (ps := ps) hlv (hmw.trans hcw))
                      obtain ⟨wq, hwq⟩ : ∃ wq, Hid (wr.drew = wq) := ⟨_, rfl⟩
                      obtain ⟨⟨u, hN⟩, hKe⟩ := HB.out.drew
                      have e1 : wr.drew.cell? ⟨x, po, none⟩ = some (.int .i64 (ps[k].1 : Nat)) := d1
                      have e2 : wr.drew.cell? ⟨x, po + 1, none⟩ = some (.int .i64 (ps[k].2 : Nat)) := d2
                      rw [hwq.out] at hN hKe e1 e2
                      have HK := Lib.hid hKe
                      obtain ⟨⟨vs, hO, hR⟩, cn, cu2, cf2, hB, hlo⟩ := hN
                      have HO := Lib.hid hO
                      have HRW := Lib.hid hR
                      have HU : Hid (∀ g, g < w2.heap.size → some g ≠ u.ownBlock) := fun g hg e => by have := HO.out.lt e.symm; omega
                      have hvl : vs.length ≤ 60 := by
                        have h1 := HRW.out.1
                        rw [rowsOf_length, pkL_length] at h1
                        have h2 := short_of (ps := ps) (l := (byN ps N m ++ byW ps (m + 1) c) ++ byI ps (m + 1) c k) ?_ ?_
                        · omega
                        · have := pair_byN ps (c + 1) (m + 1)
                          refine List.pairwise_append.2 ⟨List.pairwise_append.2 ⟨pair_byN ps N m, pair_byW ps (m + 1) c, fun a ha b hb => ?_⟩, pair_byI ps (m + 1) c k, fun a ha b hb => ?_⟩
                          · have h3 := (mem_byN.1 ha).2.2.1
                            have h4 := (mem_byW.1 hb).2.1
                            unfold ltB; omega
                          · have h4 := (mem_byI.1 hb).2
                            rcases List.mem_append.1 ha with ha | ha
                            · have h3 := (mem_byN.1 ha).2.2.1
                              unfold ltB; omega
                            · have h3 := (mem_byW.1 ha).2
                              unfold ltB; omega
                        · intro y hy
                          rcases List.mem_append.1 hy with hy | hy
                          · rcases List.mem_append.1 hy with hy | hy
                            · exact (mem_byN.1 hy).1
                            · exact (mem_byW.1 hy).1
                          · have := (mem_byI.1 hy).1; omega
                      have hB2 : w1.heap.size < wq.heap.size := by omega
                      have hB3 : w1.heap.size < wq.heap.size + 1 := by omega
                      have t1 : (((m + 1 : Nat) : Int) == (m : Int) + 1) = true := by simp
                      have HYS := Lib.hid (show rowsOf (pkL ps ((byN ps N m ++ byW ps (m + 1) c) ++ byI ps (m + 1) c (k + 1))) = rowsOf (pkL ps ((byN ps N m ++ byW ps (m + 1) c) ++ byI ps (m + 1) c k)) ++ [[(ps[k].1 : Int), (ps[k].2 : Int)]] by rw [HYES.out, ← List.append_assoc, HSN.out])
                      clear hO hR HB hKe HYES HSN hlv hmw hmn
                      generalize ps[k].1 = ia at *
                      generalize ps[k].2 = ib at *
                      have z1 : ¬ (ib : Int) < (ia : Int) := by omega
                      have z2 : min (ia : Int) (ib : Int) = (ia : Int) := by omega
                      have t2 : ((ia : Int) == (c : Int)) = true := by simp [hcw]
                      have t3 : (min (ia : Int) (ib : Int) == (c : Int)) = true := by rw [z2]; exact t2
                      clear hcw z2
                      go_wp2
                      go_region
                      all_goals
                        rw [hwq.out]
                        clear d0 d1 d2 d3 hwq
                        go_wp2
                        rw [show Op.load 22 (Operand.tmp 56) = ldOp 22 (Operand.tmp 56) from rfl]
                        go_region_held3 (fun w' => w'.cell? ⟨x, po, none⟩ = some (.int .i64 (ia : Nat)) ∧ w'.cell? ⟨x, po + 1, none⟩ = some (.int .i64 (ib : Nat))) ((go_split_ands; refine ⟨?_, ?_⟩ <;> (first | assumption | exact cell_al (by assumption) | exact cell_st (by assumption) (by first | (simp; done) | (simp; omega)) | exact cell_gr hgrow (by assumption) (HU.out _ (by first | (simp; done) | (simp; omega))) | exact Below.keeps b2 _ _ (by assumption)))) ((refine step_append_lies _ (by rfl) (.tmp 57) (.tmp 65) 22 (by rfl) w2.heap.size tInts i0 (.slice none 0 0) 1 24 Try.underlying22 hi hz0 hz1 hz2 rfl (by decide) u vs.length vs (by first | rfl | simp [Act.eval]) (by exact (HO.out.1.alloc _ |>.alloc _)) ⟨wq.heap.size + 1, 0, none⟩ 1 1 [.slice (some ⟨wq.heap.size, 0, none⟩) 2 2] (by simp [Act.eval]) (by rfl) (by exact news_two _ _ _ _) (by simp [Value.oneCell']) (by decide) (by unfold maxLen; omega) (by omega) (by simp; omega) (wq.heap.size + 2) (by simp) ?_; intro g9 cap2 w9 hown hgrow hat hlt2; have zz := after_new (below_two _ _ _) hgrow cu2 cf2 (HU.out _ (by first | (simp; done) | (simp; omega))); obtain ⟨z11, z12⟩ := zz))
                        all_goals
                          obtain ⟨P, Q⟩ := NetIn.push (n := (N : Int)) HO.out HRW.out cn cu2 cf2 hB hlo (below_two _ _ _) (pair_two _ _ _ HW.out.1 HW.out.2 _) (by simp) hown hgrow HK.out
                          rw [← HYS.out] at P
                          have HBN := Lib.hid (show ByIn w1.heap.size w2.heap.size N ps ((byN ps N m ++ byW ps (m + 1) c) ++ byI ps (m + 1) c (k + 1)) w2 _ from ⟨⟨_, P⟩, Q⟩)
                          clear hown hgrow hat hlt2 z11 z12 HO HRW P Q
                          go_wp2
                          go_roundw
                          case rel => exact ⟨k + 1, by omega, by go_num, HBN⟩
                          case measure => simp [intOf]; omega
                    · have HNO : Hid (byI ps (m + 1) c (k + 1) = byI ps (m + 1) c k) := Lib.hid (byI_no fun h => hcw (hmw.symm.trans h.2))
                      have t1 : (((m + 1 : Nat) : Int) == (m : Int) + 1) = true := by simp
                      have HB2 : Hid (ByIn w1.heap.size w2.heap.size N ps ((byN ps N m ++ byW ps (m + 1) c) ++ byI ps (m + 1) c (k + 1)) w2 wr.drew) := Lib.hid (by rw [HNO.out]; exact HB.out.drew)
                      clear HB HNO hlv hmw hmn HW HSN
                      generalize ps[k].1 = ia at *
                      generalize ps[k].2 = ib at *
                      have z1 : ¬ (ib : Int) < (ia : Int) := by omega
                      have z2 : min (ia : Int) (ib : Int) = (ia : Int) := by omega
                      have t2 : ((ia : Int) == (c : Int)) = false := by simp; omega
                      have t3 : (min (ia : Int) (ib : Int) == (c : Int)) = false := by rw [z2]; exact t2
                      clear hcw z2
                      go_wp2
                      go_region
                      all_goals
                        go_wp2
                        go_roundw
                        case rel => exact ⟨k + 1, by omega, by go_num, HB2⟩
                        case measure => simp [intOf]; omega
                · have HNO : Hid (byI ps (m + 1) c (k + 1) = byI ps (m + 1) c k) := Lib.hid (byI_no fun h => hlv h.1)
                  have t1 : (lvB ps k == (m : Int) + 1) = false := by simp; omega
                  have HB2 : Hid (ByIn w1.heap.size w2.heap.size N ps ((byN ps N m ++ byW ps (m + 1) c) ++ byI ps (m + 1) c (k + 1)) w2 wr.drew) := Lib.hid (by rw [HNO.out]; exact HB.out.drew)
                  clear HB HNO hlv hmn HW HSN
                  generalize lvB ps k = lk at *
                  generalize ps[k].1 = ia at *
                  generalize ps[k].2 = ib at *
                  go_wp2
                  go_region
                  all_goals
                    go_wp2
                    go_roundw
                    case rel => exact ⟨k + 1, by omega, by go_num, HB2⟩
                    case measure => simp [intOf]; omega
              · obtain rfl : k = ps.length := by omega
                have HB2 : Hid (ByIn w1.heap.size w2.heap.size N ps (byN ps N m ++ byW ps (m + 1) (c + 1)) w2 wr) := Lib.hid (by have := HB.out; rw [List.append_assoc] at this; exact this)
                clear HB
                go_wp2
                go_roundw
                case rel => exact ⟨c + 1, by omega, by go_num, HB2⟩
                case measure => simp [intOf]; omega
          · obtain rfl : c = N := by omega
            have q3 : ¬ (c : Int) < (c : Int) := by omega
            have HB2 : Hid (ByIn w1.heap.size w2.heap.size c ps (byN ps c (m + 1)) w2 wr) := Lib.hid HB.out
            clear HB
            go_wp2
            go_roundw
            case rel => exact ⟨m + 1, by omega, by go_num, HB2⟩
            case measure => simp [intOf]; omega
      · obtain rfl : m = D := by omega
        have q1 : ¬ (m : Int) + 1 ≤ (m : Int) := by omega
        have q2 : decide ((m : Int) + 1 ≤ (m : Int)) = false := decide_eq_false q1
        obtain ⟨⟨u, hu⟩, hK⟩ := HBa.out
        obtain ⟨hR, cn, cu, cf, hB, hlo⟩ := hu
        obtain ⟨d0, d1, f0, f1, _⟩ := HR3.out.below hK.1 (by omega)
        have bwa := HBW.out wa hK
        rw [HFIN.out] at hR
        obtain ⟨a5, l5, c5, hu⟩ := hR.shape
        subst hu
        obtain ⟨RR, BB⟩ := hR.res (R := w.heap.size + 1) (x := .int .i64 (N : Int)) (y := .slice a5 l5 c5) (by omega) bwa (by omega)
        clear hR hK HBa HFIN
        go_wp2
        exact bodyPost_ret (v := .tuple #[.agg #[.int .i64 (N : Int), .slice a5 l5 c5], .bool true]) (by simp [results, Try.results5, go_sem, d0, d1]) rfl ⟨_, rfl, RR, BB⟩
  · have hts := tf_no hS
    rw [nbN_no hS, nbR_no hS, hts]
    obtain ⟨ao, cap, hv, _⟩ := id h
    subst hv
    go_enter Try.func5, Try.ntmps5
    go_wp2_with fail
    refine (specNetworkOk _ _ rows _ (hk.out _ (((Below.refl _ _).alloc (Nat.le_refl _) _).alloc (by simp) _))).mono ?_; rintro e w1 ⟨rfl, b1⟩
    rw [hts]
    have r1 := (ResC.start (w.alloc (.cells #[.int .i64 n, .slice ao rows.length cap] 26)) 26).below b1 (by simp)
    rw [World.size_alloc] at r1
    have bw1 : Below w.heap.size w w1 := (((Below.refl _ _).alloc (Nat.le_refl _) _).alloc (by simp) _).trans (b1.mono (by simp; omega))
    have s1 : w.heap.size + 2 ≤ w1.heap.size := by have := b1.size; simpa using this
    have y1 : w.heap.size < w1.heap.size := by omega
    have y2 : w.heap.size + 1 < w1.heap.size := by omega
    obtain ⟨d0, d1, f0, f1, _⟩ := r1
    go_wp2
    exact bodyPost_ret (v := .tuple #[.agg #[.int .i64 0, .slice none 0 0], .bool false]) (by simp [results, Try.results5, go_sem, d0, d1]) rfl ⟨_, rfl, OwnSS.nil _ _ _ _ _, ((bw1).setCell (by simp) _).setCell (by simp) _⟩
end Go.Proofs.Ythcnmaapcniehaa
