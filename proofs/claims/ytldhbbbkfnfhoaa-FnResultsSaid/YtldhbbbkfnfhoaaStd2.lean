/- Contracts: StandardOf, the program's and the reference's. -/
import Derived.Test.YtldhbbbkfnfhoaaNb
import Derived.Test.YtldhbbbkfnfhoaaOwn
import Derived.Test.YtldhbbbkfnfhoaaAppNet
import Derived.Test.YtldhbbbkfnfhoaaApp
import Derived.Test.YtldhbbbkfnfhoaaAllMasks
import Derived.Test.YtldhbbbkfnfhoaaMark
import Derived.BigRegion
import Derived.Deep.Cut
namespace Go.Proofs.Ytldhbbbkfnfhoaa
open Go.RowKit
set_option linter.unusedVariables false

/-- A network, a list and a truth value come back, all of it fresh: the list's memory lies ahead of the network's. -/
def GivesStd (w : World) (n : Int) (rows : List (List Int)) (xs : List Int) (b : Bool) (en : Ending) (w' : World) : Prop :=
  ∃ u t mid, en = .returned (.tuple #[.agg #[.int .i64 n, u], t, .bool b]) ∧ OwnI tInt w' w.heap.size mid t xs ∧ OwnSS tInt tInts w' mid w'.heap.size u rows ∧ w.heap.size ≤ mid ∧ mid ≤ w'.heap.size ∧ Below w.heap.size w w'
def StP (n : Int) (rows : List (List Int)) : Prop := NetP n rows ∧ True
noncomputable def nbI (p : Prop) (xs : List Int) : List Int := bif tf p then xs else []
theorem nbI_yes {p : Prop} {xs : List Int} (h : p) : nbI p xs = xs := by unfold nbI; rw [tf_yes h]; rfl
theorem nbI_no {p : Prop} {xs : List Int} (h : ¬ p) : nbI p xs = [] := by unfold nbI; rw [tf_no h]; rfl
def idL (n : Nat) : List Int := (List.range n).map fun (i : Nat) => (i : Int)
theorem idL_length (n : Nat) : (idL n).length = n := by simp [idL]
theorem idL_next (n : Nat) : idL (n + 1) = idL n ++ [(n : Int)] := by simp [idL, List.range_succ]
theorem idL_in (n : Nat) (h : n ≤ 8) : ∀ x ∈ idL n, In64 x := by
  intro x hx
  simp [idL] at hx
  obtain ⟨i, hi, rfl⟩ := hx
  exact WalkArith.wf_i64 (by omega)
/-- The first k rows of the standard form. -/
def stR (ps : List (Nat × Nat)) (xs : List Int) : Nat → List (List Int)
  | 0 => []
  | k + 1 => stR ps xs k ++ [[min ((apTo ps xs k).getD (ps.getD k (0, 0)).1 0) ((apTo ps xs k).getD (ps.getD k (0, 0)).2 0), max ((apTo ps xs k).getD (ps.getD k (0, 0)).1 0) ((apTo ps xs k).getD (ps.getD k (0, 0)).2 0)]]
theorem stR_length (ps : List (Nat × Nat)) (xs : List Int) (k : Nat) : (stR ps xs k).length = k := by
  induction k with
  | zero => rfl
  | succ k ih => simp [stR, ih]
theorem stR_two (ps : List (Nat × Nat)) (xs : List Int) (k : Nat) : ∀ r ∈ stR ps xs k, r.length ≤ 2 := by
  induction k with
  | zero => intro r hr; cases hr
  | succ k ih =>
    intro r hr
    rcases List.mem_append.1 hr with h | h
    · exact ih r h
    · simp only [List.mem_singleton] at h; subst h; simp
def stdR (n : Int) (rows : List (List Int)) : List (List Int) := stR (pairsOf rows) (idL n.toNat) rows.length
def stdI (n : Int) (rows : List (List Int)) : List Int := apTo (pairsOf rows) (idL n.toNat) rows.length
theorem std_le (n : Int) (rows : List (List Int)) : sumLen (nbR (StP n rows) (stdR n rows)) ≤ 120 := nbR_le fun h => by
  have h1 := sumLen_le2 (stdR n rows) (stR_two _ _ _)
  have h2 := h.1.2.1
  rw [stdR, stR_length] at h1
  rw [stdR]; omega
theorem std_le2 (n : Int) (rows : List (List Int)) : (nbI (StP n rows) (stdI n rows)).length ≤ 8 := by
  rcases Classical.em (StP n rows) with h | h
  · rw [nbI_yes h, stdI, apTo_length, idL_length]
    have := h.1.1
    unfold InP at this
    omega
  · rw [nbI_no h]; simp
theorem Fills.lower {e : TypeId} {base base' g cap n : Nat} {wr : World} {ys : List Int} (F : Fills e base g cap wr n ys) (h : base' ≤ base) : Fills e base' g cap wr n ys := by
  refine ⟨F.1, F.2.1, ?_⟩
  rcases F.2.2 with hx | ⟨g', cap', cur, hx, hb, r⟩
  · exact .inl hx
  · exact .inr ⟨g', cap', cur, hx, by omega, r⟩
theorem NetIn.low {B lo : Nat} {n : Int} {rows : List (List Int)} {wr : World} {u : Value} (h : NetIn B lo n rows wr u) {g k : Nat} (hg : g < B) (x : Value) : NetIn B lo n rows (wr.setCell ⟨g, k, none⟩ x) u := by
  obtain ⟨h1, h2, h3, h4, h5, h6⟩ := h
  refine ⟨?_, ?_, ?_, ?_, h5, ?_⟩
  · rw [size_setCell]; exact h1.set (by omega) _
  · rw [World.cell?_setCell_other _ _ _ _ (by first | (simp; done) | (simp; omega))]; exact h2
  · rw [World.cell?_setCell_other _ _ _ _ (by first | (simp; done) | (simp; omega))]; exact h3
  · rw [World.frozen?_setCell]; exact h4
  · rw [size_setCell]; exact h6
theorem ResC.low {R : Nat} {W : World} (h : ResC R W) {g k : Nat} (hg : g ≠ R) (x : Value) : ResC R (W.setCell ⟨g, k, none⟩ x) := by
  obtain ⟨h1, h2, h3, h4, h5⟩ := h
  refine ⟨?_, ?_, ?_, ?_, ?_⟩
  · rw [World.cell?_setCell_other _ _ _ _ (by first | (simp; done) | (simp; omega))]; exact h1
  · rw [World.cell?_setCell_other _ _ _ _ (by first | (simp; done) | (simp; omega))]; exact h2
  · rw [World.frozen?_setCell]; exact h3
  · rw [World.frozen?_setCell]; exact h4
  · rw [size_setCell]; exact h5
theorem NetIn.drew {B lo : Nat} {n : Int} {rows : List (List Int)} {wr : World} {u : Value} (h : NetIn B lo n rows wr u) : NetIn B lo n rows wr.drew u := h.below ((Below.refl _ wr).drew)

theorem news_two0 (w : World) (o1 : Obj) (v : Value) (t : TypeId) : ∀ (j : Nat) (u : Value), [v][j]? = some u → (((w.alloc o1).alloc (.cells #[v] t)).cell? ((⟨w.heap.size + 1, 0, none⟩ : Addr).add j) = some u) := by
  have h := heap_alloc_new (w.alloc o1) (.cells #[v] t)
  rw [World.size_alloc] at h
  exact World.news_of_block (w := ((w.alloc o1).alloc (.cells #[v] t))) h
theorem below_two0 (wr : World) (o1 o2 : Obj) : Below wr.heap.size wr ((wr.alloc o1).alloc o2) := (((Below.refl _ wr).alloc (Nat.le_refl _) o1).alloc (by simp) o2)
theorem pair_two0 (wr : World) (a b : Int) (ha : In64 a) (hb : In64 b) (o2 : Obj) : OwnI tInt ((wr.alloc (.cells #[.int .i64 a, .int .i64 b] tInt)).alloc o2) wr.heap.size ((wr.alloc (.cells #[.int .i64 a, .int .i64 b] tInt)).alloc o2).heap.size (.slice (some ⟨wr.heap.size, 0, none⟩) 2 2) [a, b] :=
  ((Fills.lit tInt wr wr.heap.size [a, b] #[.int .i64 a, .int .i64 b] rfl (Nat.le_refl _) (by simp [maxLen])).alloc o2).own (by simp; omega) (by intro x hx; simp at hx; rcases hx with rfl | rfl <;> assumption)
theorem Fills.keptX {e : TypeId} {base g cap n B lo : Nat} {W w' : World} {ys : List Int} (F : Fills e base g cap W n ys) (h : Kept B lo W w') (h1 : g ≠ B) (h2 : g < lo) : Fills e base g cap w' n ys :=
  ⟨F.1, ownsRow_block F.2 fun g' hg' => by simp [Value.ownBlock] at hg'; subst hg'; exact h.block h1 h2⟩
theorem ResC.keptX {R B lo : Nat} {W w' : World} (h : ResC R W) (hk : Kept B lo W w') (h1 : R ≠ B) (h2 : R < lo) : ResC R w' := by
  obtain ⟨d0, d1, f0, f1, d2⟩ := h
  have hs := hk.1.size
  exact ⟨(hk.cell (a := ⟨R, 0, none⟩) h1 h2).trans d0, (hk.cell (a := ⟨R, 1, none⟩) h1 h2).trans d1, (hk.frozen (a := ⟨R, 0, none⟩) h1 h2).trans f0, (hk.frozen (a := ⟨R, 1, none⟩) h1 h2).trans f1, by omega⟩

set_option maxHeartbeats 1600000 in
set_option maxRecDepth 100000 in
theorem l04FirstI (N : Nat) (w : World) (hN : N ≤ 8) : Calls Try.prog 50 #[.int .i64 N] w (GivesI w (idL N)) := by
  go_enter Try.func50, Try.ntmps50
  go_wp2
  go_loopw [3, 4] (fun o i wr => ∃ k : Nat, k ≤ N ∧ i = .int .i64 k ∧ OwnI tInt wr w.heap.size wr.heap.size o (idL k) ∧ Below w.heap.size w wr) (fun _ i _ => N - (intOf i).toNat)
  case atStart => exact ⟨0, Nat.zero_le _, rfl, OwnI.lit0 3 w w.heap.size (Nat.le_refl _), (Below.refl _ _).alloc (Nat.le_refl _) _⟩
  case round =>
    obtain ⟨k, hk, rfl, hown, hb⟩ := hrel
    have hs := hb.size
    by_cases hlt : k < N
    · have HX := Lib.hid (idL_next k)
      have hl := idL_length k
      go_wp2_with (at_builtin; refine wpList_append1_at _ rfl _ _ 27 rfl 3 (.int .i64 0) 8 Try.underlying27 infoInt (by decide) rfl w.heap.size wr.heap.size _ _ rfl (hown.1.alloc _) ⟨wr.heap.size, 0, none⟩ 1 (.int .i64 k) rfl (cell_alloc0 _ _ _) rfl ?_ ?_ ?_)
      · simp; omega
      · simp; omega
      · intro v' w3 hown' hgr hat
        have R1 := OwnI.snoc hown' hown.2 (show In64 (k : Int) from WalkArith.wf_i64 (by omega))
        rw [← HX.out] at R1
        have R2 := below_app (hb.alloc hs _) (hown.1.alloc _) hgr (Nat.le_refl _) (by simp; omega)
        clear hown hown' hgr hat
        go_wp2
        go_roundw
        case rel => exact ⟨k + 1, by omega, by go_num, R1, R2⟩
        case measure => simp [intOf]; omega
    · have hk' : k = N := by omega
      subst hk'
      go_wp2
      go_ret
      exact ⟨_, rfl, hown, hb⟩
set_option maxHeartbeats 4000000 in
set_option maxRecDepth 100000 in
theorem specStandardOf (n : Int) (v : Value) (rows : List (List Int)) (w : World) (hn : (Lit.int .i64 n).wf = true) (h : IntSS w v rows) (hl : rows.length + sumLen rows ≤ 1048576) :
    Calls Try.prog 24 #[.agg #[.int .i64 n, v]] w (GivesStd w (nbN (StP n rows) n) (nbR (StP n rows) (stdR n rows)) (nbI (StP n rows) (stdI n rows)) (tf (StP n rows))) := by
  have hk : Hid (∀ W, Below w.heap.size w W → IntSS W v rows) := fun W hb => h.keep (Below.keeps hb)
  obtain ⟨ao, cap, hv, hcap, hmax, _⟩ := h
  unfold maxLen at hmax
  clear hn hl
  rcases Classical.em (NetP n rows) with hN | hN
  · have ht := tf_yes hN
    have h60 := hN.2.1
    have hN0 := hN
    obtain ⟨N, rfl, hr, hp⟩ := hN.pairs
    have HN := Lib.hid hN0
    have HP := Lib.hid hp
    have HR := Lib.hid hr
    have hN8 := hp.2.1
    have hN1 := hp.1
    have hpl : (pairsOf rows).length = rows.length := by rw [pairsOf, List.length_map]
    have HL := Lib.hid hpl
    subst hv
    clear hN hN0 hp hr hpl
    have hP : StP N rows := ⟨HN.out, trivial⟩
    rw [nbN_yes hP, nbR_yes hP, nbI_yes hP, tf_yes hP]
    have HE1 : Hid (stdR (N : Int) rows = stR (pairsOf rows) (idL N) rows.length) := by show _ = _; simp [stdR]
    have HE2 : Hid (stdI (N : Int) rows = apTo (pairsOf rows) (idL N) rows.length) := by show _ = _; simp [stdI]
    rw [HE1.out, HE2.out]
    clear hP HN HE1 HE2
    go_enter Try.func24, Try.ntmps24
    go_wp2_with fail
    refine (specNetworkOk _ _ rows _ (hk.out _ (((Below.refl _ _).alloc (Nat.le_refl _) _).alloc (by simp) _))).mono ?_; rintro e w1 ⟨rfl, b1⟩
    have r1 := (ResC.start (w.alloc (.cells #[.int .i64 N, .slice ao rows.length cap] 25)) 25).below b1 (by simp)
    rw [World.size_alloc] at r1
    have cx : w1.cell? ⟨w.heap.size, 0, none⟩ = some (.int .i64 N) := (b1.cell (by simp; omega)).trans (by simp [go_sem])
    have cy : w1.cell? ⟨w.heap.size, 1, none⟩ = some (.slice ao rows.length cap) := (b1.cell (by simp; omega)).trans (by simp [go_sem])
    have bw1 : Below w.heap.size w w1 := (((Below.refl _ _).alloc (Nat.le_refl _) _).alloc (by simp) _).trans (b1.mono (by simp; omega))
    have s1 : w.heap.size + 2 ≤ w1.heap.size := by have := b1.size; simpa using this
    have y1 : w.heap.size < w1.heap.size := by omega
    have y2 : w.heap.size + 1 < w1.heap.size := by omega
    go_wp2_with fail
    refine (l04FirstI N w1 hN8).mono ?_; rintro e w2 ⟨t2, rfl, R2, b2⟩
    obtain ⟨g, gc, rfl, hg1, hg2, hg3, hg4, hg5, F0⟩ := R2.fills (by rw [idL_length]; omega)
    rw [idL_length] at hg1 F0 ⊢
    unfold maxLen at hg2
    have s29 := b2.size
    have F0 := F0.lower (base' := w.heap.size) (by omega)
    have bWN := bw1.trans (b2.mono (by omega))
    have rWN := r1.below b2 (by omega)
    have cx2 := Below.keeps b2 _ _ cx
    have cy2 := Below.keeps b2 _ _ cy
    have y3 : w.heap.size < w2.heap.size := by omega
    clear R2
    obtain ⟨W1, HW1⟩ : ∃ W, Hid (W = w2.alloc (.cells #[.int .i64 N, .slice none 0 0] 25)) := ⟨_, rfl⟩
    have bO : Below w2.heap.size w2 W1 := by rw [HW1.out]; exact (Below.refl _ _).alloc (Nat.le_refl _) _
    have hS : NetIn w2.heap.size (w2.heap.size + 1) N [] W1 (.slice none 0 0) := by rw [HW1.out]; exact NetIn.start _ _ _
    have bwW : Below w.heap.size w W1 := bWN.trans (bO.mono (by omega))
    have rW := rWN.below bO (by omega)
    have F1 := F0.below bO (by omega)
    have hI : IntSS w (.slice ao rows.length cap) (rowsOf (pairsOf rows)) := by rw [← HR.out]; exact hk.out w (Below.refl _ _)
    obtain ⟨ao', cap', hv', _, _, hnil, hcell⟩ := pairs_open hI
    simp only [Value.slice.injEq] at hv'
    obtain ⟨hv1, -, hv2⟩ := hv'
    subst hv1; subst hv2
    have HC := Lib.hid hcell; clear hcell hI
    have s2 : w2.heap.size + 1 ≤ W1.heap.size := by rw [HW1.out]; simp
    have HID := Lib.hid (idL_in N hN8)
    obtain ⟨i0, hi, hz0, hz1, hz2⟩ := info_parts infoInts
    clear F0
    go_wp2
    rw [← HW1.out]
    clear HW1
    go_loopw [24] (fun i wr => ∃ k : Nat, k ≤ rows.length ∧ i = .int .i64 k ∧ ∃ (u : Value), Hid (NetIn w2.heap.size (w2.heap.size + 1) N (stR (pairsOf rows) (idL N) k) wr u) ∧ Hid (Fills tInt w.heap.size g gc wr N (apTo (pairsOf rows) (idL N) k)) ∧ Below w.heap.size w wr ∧ Hid (ResC (w.heap.size + 1) wr)) (fun i _ => rows.length - (intOf i).toNat)
    case atStart => exact ⟨0, Nat.zero_le _, rfl, _, Lib.hid hS, Lib.hid F1, bwW, Lib.hid rW⟩
    case round =>
      obtain ⟨k, hk9, rfl, u, HN, HF, hb, HRC⟩ := hrel
      by_cases hlt : k < rows.length
      · have hlp : k < (pairsOf rows).length := by rw [HL.out]; exact hlt
        obtain ⟨b, q, x, po, pc, rfl, hu, g1, g2, d0, d1⟩ := HC.out k hlp
        have c1 := Below.keeps hb _ _ hu
        have c2 := Below.keeps hb _ _ d0
        have c3 := Below.keeps hb _ _ d1
        have hxw : x < w.heap.size := World.block_lt_of_cell? w _ d0
        have hbw : b < w.heap.size := World.block_lt_of_cell? w _ hu
        have hxg : x ≠ g := by omega
        have hbg : b ≠ g := by omega
        unfold maxLen at g2
        clear hu d0 d1
        have hgp : (pairsOf rows).getD k (0, 0) = (pairsOf rows)[k] := by rw [List.getD_eq_getElem?_getD, List.getElem?_eq_getElem hlp]; rfl
        obtain ⟨hia, hib, hne⟩ := HP.out.2.2.2 k hlp
        have HS1 : Hid (stR (pairsOf rows) (idL N) (k + 1) = stR (pairsOf rows) (idL N) k ++ [[min ((apTo (pairsOf rows) (idL N) k).getD (pairsOf rows)[k].1 0) ((apTo (pairsOf rows) (idL N) k).getD (pairsOf rows)[k].2 0), max ((apTo (pairsOf rows) (idL N) k).getD (pairsOf rows)[k].1 0) ((apTo (pairsOf rows) (idL N) k).getD (pairsOf rows)[k].2 0)]]) := by
          show _ ++ _ = _; rw [hgp]
        have HS2 : Hid (apTo (pairsOf rows) (idL N) (k + 1) = ((apTo (pairsOf rows) (idL N) k).set (pairsOf rows)[k].1 (min ((apTo (pairsOf rows) (idL N) k).getD (pairsOf rows)[k].1 0) ((apTo (pairsOf rows) (idL N) k).getD (pairsOf rows)[k].2 0))).set (pairsOf rows)[k].2 (max ((apTo (pairsOf rows) (idL N) k).getD (pairsOf rows)[k].1 0) ((apTo (pairsOf rows) (idL N) k).getD (pairsOf rows)[k].2 0))) := by
          show _ = _; rw [apTo_succ _ _ k hlp]; rfl
        have hln := apTo_length (pairsOf rows) (idL N) k
        rw [idL_length] at hln
        have hin := apTo_in (pairsOf rows) (idL N) HID.out k
        have F := HF.out
        clear HF
        generalize (pairsOf rows)[k].1 = ia at *
        generalize (pairsOf rows)[k].2 = ib at *
        generalize apTo (pairsOf rows) (idL N) k = ys at *
        have e1 := F.getD ia hia
        have e2 := F.getD ib hib
        have f3 := F.frozen ia
        have f4 := F.frozen ib
        have w1a := in64_getD hin ia
        have w1b := in64_getD hin ib
        have HY : Hid (ys.getD ia 0 = ys.getD ia 0 ∧ ys.length = N) := ⟨rfl, hln⟩
        obtain ⟨x1, X1⟩ : ∃ z, Hid (ys.getD ia 0 = z) := ⟨_, Lib.hid rfl⟩
        obtain ⟨x2, X2⟩ : ∃ z, Hid (ys.getD ib 0 = z) := ⟨_, Lib.hid rfl⟩
        rw [X1.out] at e1 w1a HS1 HS2
        rw [X2.out] at e2 w1b HS1 HS2
        clear hgp
        by_cases hgt : x1 > x2
        · have hd : decide (x1 > x2) = true := decide_eq_true hgt
          have hmin : min x1 x2 = x2 := by omega
          have hmax9 : max x1 x2 = x1 := by omega
          rw [hmin, hmax9] at HS1 HS2
          have F2 := F.set ia x2
          have f2 := F2.getD ib hib
          have f5 := F2.frozen ib
          have F3 := F2.set ib x1
          rw [← HS2.out] at F3
          have hN3 := (HN.out.low (g := g) (k := ia) (by omega) (.int .i64 x2)).low (g := g) (k := ib) (by omega) (.int .i64 x1)
          have hb3 : Below w.heap.size w ((wr.setCell ⟨g, ia, none⟩ (.int .i64 x2)).setCell ⟨g, ib, none⟩ (.int .i64 x1)) := (hb.setCell (by show w.heap.size ≤ g; omega) _).setCell (by show w.heap.size ≤ g; omega) _
          have r3 := (HRC.out.low (g := g) (k := ia) (by omega) (.int .i64 x2)).low (g := g) (k := ib) (by omega) (.int .i64 x1)
          clear F F2 HN HRC hb X1 X2 HY
          go_upto_region 13 with fail
          obtain ⟨W3, HW3⟩ : ∃ W, Hid (W = (wr.setCell ⟨g, ia, none⟩ (.int .i64 x2)).setCell ⟨g, ib, none⟩ (.int .i64 x1)) := ⟨_, rfl⟩
          rw [← HW3.out] at F3 hN3 hb3 r3 ⊢
          clear HW3
          obtain ⟨⟨vs, hO, hR⟩, cn, cu2, cf2, hB, hlo⟩ := hN3
          have HO := Lib.hid hO
          have HW := Lib.hid hR
          have HU : Hid (∀ g, g < w2.heap.size + 1 → some g ≠ u.ownBlock) := fun g hg e => by have := HO.out.lt e.symm; omega
          have hvl : vs.length ≤ 60 := by have := HW.out.1; rw [stR_length] at this; omega
          have hB2 : w2.heap.size < W3.heap.size := by omega
          have hB3 : w2.heap.size < W3.heap.size + 1 := by omega
          clear hO hR
          go_wp2_with (at_builtin; refine wpList_append_lies _ rfl _ _ 23 rfl (w2.heap.size + 1) tInts i0 (.slice none 0 0) 1 24 Try.underlying23 hi hz0 hz1 hz2 rfl (by decide) u vs.length vs rfl (HO.out.1.alloc _ |>.alloc _) ⟨W3.heap.size + 1, 0, none⟩ 1 1 [.slice (some ⟨W3.heap.size, 0, none⟩) 2 2] rfl rfl (news_two0 _ _ _ _) (by simp [Value.oneCell']) (by decide) (by unfold maxLen; omega) (by omega) (by simp; omega) (W3.heap.size + 2) (by simp) ?_; intro g9 cap2 w9 hown hgrow hat hlt2; have zz := after_new (below_two0 _ _ _) hgrow cu2 cf2 (HU.out _ (by first | (simp; done) | (simp; omega))); obtain ⟨z1, z2⟩ := zz)
          all_goals
            obtain ⟨P, Q⟩ := NetIn.push (n := N) (W1 := W3) HO.out HW.out cn cu2 cf2 hB hlo (below_two0 _ _ _) (pair_two0 _ x2 x1 w1b w1a _) (by simp) hown hgrow (Kept.refl _ _ _ (by omega))
            rw [← HS1.out] at P
            have F4 := Fills.keptX F3 Q (by omega) (by omega)
            have r4 := ResC.keptX r3 Q (by omega) (by omega)
            have b4 := hb3.trans (Q.1.mono (by omega))
            clear hown hgrow hat hlt2 z1 z2 HO HW F3 r3 Q
            go_roundw
            case rel => exact ⟨k + 1, by omega, by go_num, _, Lib.hid P, Lib.hid F4, b4, Lib.hid r4⟩
            case measure => first | (simp [intOf]; done) | (simp [intOf]; omega)
        · have hd : decide (x1 > x2) = false := decide_eq_false hgt
          have hmin : min x1 x2 = x1 := by omega
          have hmax9 : max x1 x2 = x2 := by omega
          rw [hmin, hmax9] at HS1 HS2
          have hif : (if x1 < x2 then x2 else x1) = x2 := by split <;> omega
          have HS3 : Hid ((ys.set ia x1).set ib x2 = ys) := by
            show _ = _
            apply List.ext_getElem
            · simp
            · intro j h1 h2
              have hj1 : ia < ys.length := by omega
              have hj2 : ib < ys.length := by omega
              have z1 : x1 = ys[ia] := by rw [← X1.out, List.getD_eq_getElem?_getD, List.getElem?_eq_getElem hj1]; rfl
              have z2 : x2 = ys[ib] := by rw [← X2.out, List.getD_eq_getElem?_getD, List.getElem?_eq_getElem hj2]; rfl
              rw [List.getElem_set, List.getElem_set]
              by_cases q2 : ib = j
              · subst q2; rw [if_pos rfl]; exact z2
              · rw [if_neg q2]
                by_cases q1 : ia = j
                · subst q1; rw [if_pos rfl]; exact z1
                · rw [if_neg q1]
          have F3 : Fills tInt w.heap.size g gc wr N (apTo (pairsOf rows) (idL N) (k + 1)) := by rw [HS2.out, HS3.out]; exact F
          have hN3 := HN.out
          have r3 := HRC.out
          have hb3 := hb
          clear F HN HRC X1 X2 HY HS3
          go_upto_region 13 with fail
          obtain ⟨W3, HW3⟩ : ∃ W, Hid (W = wr) := ⟨_, rfl⟩
          rw [← HW3.out] at F3 hN3 hb3 r3 ⊢
          clear HW3
          obtain ⟨⟨vs, hO, hR⟩, cn, cu2, cf2, hB, hlo⟩ := hN3
          have HO := Lib.hid hO
          have HW := Lib.hid hR
          have HU : Hid (∀ g, g < w2.heap.size + 1 → some g ≠ u.ownBlock) := fun g hg e => by have := HO.out.lt e.symm; omega
          have hvl : vs.length ≤ 60 := by have := HW.out.1; rw [stR_length] at this; omega
          have hB2 : w2.heap.size < W3.heap.size := by omega
          have hB3 : w2.heap.size < W3.heap.size + 1 := by omega
          clear hO hR
          go_wp2_with (at_builtin; refine wpList_append_lies _ rfl _ _ 23 rfl (w2.heap.size + 1) tInts i0 (.slice none 0 0) 1 24 Try.underlying23 hi hz0 hz1 hz2 rfl (by decide) u vs.length vs rfl (HO.out.1.alloc _ |>.alloc _) ⟨W3.heap.size + 1, 0, none⟩ 1 1 [.slice (some ⟨W3.heap.size, 0, none⟩) 2 2] rfl rfl (news_two0 _ _ _ _) (by simp [Value.oneCell']) (by decide) (by unfold maxLen; omega) (by omega) (by simp; omega) (W3.heap.size + 2) (by simp) ?_; intro g9 cap2 w9 hown hgrow hat hlt2; have zz := after_new (below_two0 _ _ _) hgrow cu2 cf2 (HU.out _ (by first | (simp; done) | (simp; omega))); obtain ⟨z1, z2⟩ := zz)
          all_goals
            obtain ⟨P, Q⟩ := NetIn.push (n := N) (W1 := W3) HO.out HW.out cn cu2 cf2 hB hlo (below_two0 _ _ _) (pair_two0 _ x1 x2 w1a w1b _) (by simp) hown hgrow (Kept.refl _ _ _ (by omega))
            rw [← HS1.out] at P
            have F4 := Fills.keptX F3 Q (by omega) (by omega)
            have r4 := ResC.keptX r3 Q (by omega) (by omega)
            have b4 := hb3.trans (Q.1.mono (by omega))
            clear hown hgrow hat hlt2 z1 z2 HO HW F3 r3 Q
            go_roundw
            case rel => exact ⟨k + 1, by omega, by go_num, _, Lib.hid P, Lib.hid F4, b4, Lib.hid r4⟩
            case measure => first | (simp [intOf]; done) | (simp [intOf]; omega)
      · have hk' : k = rows.length := by omega
        subst hk'
        obtain ⟨hR, cn, cu, cf, hB, hlo⟩ := HN.out
        obtain ⟨d0, d1, f0, f1, _⟩ := HRC.out
        have hFI := HF.out
        obtain ⟨a3, l3, c3, hu⟩ := hR.shape
        subst hu
        obtain ⟨RR, BB⟩ := hR.res (R := w.heap.size + 1) (x := .int .i64 N) (y := .slice a3 l3 c3) (by omega) hb (by omega)
        have hz := hR.chg (chg_setCell wr (w.heap.size + 1) 0 (.int .i64 N)) (.inr (by omega))
        have hz2 : OwnSS tInt tInts ((wr.setCell ⟨w.heap.size + 1, 0, none⟩ (.int .i64 N)).setCell ⟨w.heap.size + 1, 1, none⟩ (.slice a3 l3 c3)) (w2.heap.size + 1) ((wr.setCell ⟨w.heap.size + 1, 0, none⟩ (.int .i64 N)).setCell ⟨w.heap.size + 1, 1, none⟩ (.slice a3 l3 c3)).heap.size (.slice a3 l3 c3) (stR (pairsOf rows) (idL N) rows.length) := by
          rw [size_setCell, size_setCell]; exact (hR.set (by omega) _).set (by omega) _
        have hT : OwnI tInt ((wr.setCell ⟨w.heap.size + 1, 0, none⟩ (.int .i64 N)).setCell ⟨w.heap.size + 1, 1, none⟩ (.slice a3 l3 c3)) w.heap.size (w2.heap.size + 1) (.slice (some ⟨g, 0, none⟩) N gc) (apTo (pairsOf rows) (idL N) rows.length) := by
          rcases (hFI.own (hi := w2.heap.size + 1) (by omega) (apTo_in _ _ HID.out _)).tight with ⟨hv, _⟩ | ⟨g', hg', _, _, _, ht⟩
          · cases hv
          · simp [Value.ownBlock] at hg'
            subst hg'
            exact ((ht.chg (chg_setCell wr (w.heap.size + 1) 0 _) (by omega)).chg (chg_setCell _ (w.heap.size + 1) 1 _) (by omega)).wide (by omega) (by omega)
        clear hR HN HF hFI hz HRC
        go_wp2
        exact bodyPost_ret (v := .tuple #[.agg #[.int .i64 N, .slice a3 l3 c3], .slice (some ⟨g, 0, none⟩) N gc, .bool true]) (by simp [results, Try.results24, go_sem, d0, d1]) rfl ⟨_, _, w2.heap.size + 1, rfl, hT, hz2, by omega, by rw [size_setCell, size_setCell]; omega, BB⟩
  · have ht := tf_no hN
    have hNP : ¬ StP n rows := fun h => hN (And.left h)
    rw [nbN_no hNP, nbR_no hNP, nbI_no hNP, tf_no hNP]
    subst hv
    clear hN hNP
    go_enter Try.func24, Try.ntmps24
    go_wp2_with fail
    refine (specNetworkOk _ _ rows _ (hk.out _ (((Below.refl _ _).alloc (Nat.le_refl _) _).alloc (by simp) _))).mono ?_; rintro e w1 ⟨rfl, b1⟩
    obtain ⟨d0, d1, f0, f1, _⟩ := (ResC.start (w.alloc (.cells #[.int .i64 n, .slice ao rows.length cap] 25)) 25).below b1 (by simp)
    rw [World.size_alloc] at d0 d1 f0 f1
    have bw : Below w.heap.size w w1 := (((Below.refl _ _).alloc (Nat.le_refl _) _).alloc (by simp) _).trans (b1.mono (by simp; omega))
    go_wp2
    exact bodyPost_ret (v := .tuple #[.agg #[.int .i64 0, .slice none 0 0], .slice none 0 0, .bool false]) (by simp [results, Try.results24, go_sem, d0, d1]) rfl ⟨_, _, w.heap.size, rfl, ⟨Own.nil _ _ _ _, by simp⟩, OwnSS.nil _ _ _ _ _, Nat.le_refl _, by rw [size_setCell, size_setCell]; exact bw.size, (bw.setCell (by simp) _).setCell (by simp) _⟩
end Go.Proofs.Ytldhbbbkfnfhoaa
