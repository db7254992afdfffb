/- Contracts: the reference's makers of standard networks: l01Once, l03Net, MakeStandard. Of what they draw only the bounds are told. -/
import Derived.Test.YtldhbbbkfnfhoaaMkO
import Derived.Test.YtldhbbbkfnfhoaaStd2
import Derived.Test.YtldhbbbkfnfhoaaTopP
import Derived.Deep.RegionLaw
import Derived.BigRegion
namespace Go.Proofs.Ytldhbbbkfnfhoaa
open Go.RowKit
set_option linter.unusedVariables false

/-- append of any number of elements, as a step of a region that draws its order. -/
theorem step_append_any {P : Program} {w : World} {ops : Array Oper} {o : Oper} {a : Act} {K : Act → World → Prop} {Q : Exit → Act → World → Prop} {E : Prop} (hgd : o.guard = none) (s x : Operand) (t : TypeId)
    (ho : o.op = .call { callee := .builtin .append, args := #[s, x], argTypes := #[t, t] })
    (base : Nat) (e : TypeId) (i : TypeInfo) (z : Value) (size bytes : Nat) (ht : P.underlying t = some (.slice e)) (hi : P.info? e = some i) (hz : i.zero = some z)
    (hsize : i.size = size) (hby : i.bytes = bytes) (hzs : z.cells.size = size) (hsz : 0 < size)
    (v : Value) (n : Nat) (xs : List Value) (hs : a.eval s = v) (hown : w.ownsRow base e size v n xs)
    (ad : Addr) (m c : Nat) (news : List Value) (hx : a.eval x = .slice (some ad) m c) (hl : news.length = m * size) (hnews : ∀ j u, news[j]? = some u → w.cell? (ad.add j) = some u) (h1 : ∀ u ∈ news, u.oneCell' = true)
    (h63 : n + m ≤ maxLen) (hbytes : (n + m) * bytes ≤ 140737488355328) (hbase : base ≤ w.heap.size)
    (h : ∀ v' w', w'.ownsRow base e size v' (n + m) (xs ++ news) → w.grownBy w' v.ownBlock → K (a.put o.dst v') w') :
    if Region.wanted o (yielded ops a.tmps) = true then Oper.wp P o a w K Q else E := by
  have hw : Region.wanted o (yielded ops a.tmps) = true := by simp [Region.wanted, hgd]
  rw [if_pos hw]
  obtain ⟨v', w', hr, h2, h3, h4, h5⟩ := run_append_own_at (P := P) w base t o.type e i z size bytes ht hi hz hsize hby hzs hsz v n xs hown ad m c news hl hnews h1 h63 hbytes hbase
  unfold Oper.wp execOp
  simp only [ho, resolve, invoke, builtin, Sem.run_bind, Sem.run_pure, Result.andThen_ok, List.map_toArray, List.map_cons, List.map_nil, hs, hx, hr]
  exact h v' w' h2 h3

/-- Rows without one of them. -/
theorem RowsOwn.erase {e : TypeId} {w : World} {lo hi : Nat} {vs : List Value} {rows : List (List Int)} (h : RowsOwn e w lo hi vs rows) (k : Nat) : RowsOwn e w lo hi (vs.eraseIdx k) (rows.eraseIdx k) := by
  obtain ⟨h1, h2, h3⟩ := h
  refine ⟨by rw [List.length_eraseIdx, List.length_eraseIdx, h1], fun i q1 q2 => ?_, fun i j q1 q2 g hne hg => ?_⟩
  · rw [List.getElem_eraseIdx, List.getElem_eraseIdx]
    by_cases hik : i < k
    · rw [dif_pos hik, dif_pos hik]; exact h2 i _ _
    · rw [dif_neg hik, dif_neg hik]; exact h2 (i + 1) _ _
  · rw [List.getElem_eraseIdx] at hg ⊢
    by_cases hik : i < k <;> by_cases hjk : j < k
    · rw [dif_pos hik] at hg; rw [dif_pos hjk]; exact h3 i j _ _ g hne hg
    · rw [dif_pos hik] at hg; rw [dif_neg hjk]; exact h3 i (j + 1) _ _ g (by omega) hg
    · rw [dif_neg hik] at hg; rw [dif_pos hjk]; exact h3 (i + 1) j _ _ g (by omega) hg
    · rw [dif_neg hik] at hg; rw [dif_neg hjk]; exact h3 (i + 1) (j + 1) _ _ g (by omega) hg
theorem rowsOf_erase (ps : List (Nat × Nat)) (k : Nat) : rowsOf (ps.eraseIdx k) = (rowsOf ps).eraseIdx k := by
  unfold rowsOf; rw [List.eraseIdx_eq_take_drop_succ, List.eraseIdx_eq_take_drop_succ, List.map_append, List.map_take, List.map_drop]
theorem PrOk.erase {N : Nat} {ps : List (Nat × Nat)} (h : PrOk N ps) (k : Nat) : PrOk N (ps.eraseIdx k) := fun p hp => h p (List.mem_of_mem_eraseIdx hp)
/-- The rows behind the two appends. -/
theorem erased {w6 w8 : World} {lo k n : Nat} {v8 : Value} {vs : List Value} {ps : List (Nat × Nat)} (hR : RowsOwn tInt w6 lo w6.heap.size vs (rowsOf ps)) (hlo : lo ≤ w6.heap.size) (hb : Below w6.heap.size w6 w8)
    (h8 : w8.ownsRow w6.heap.size tInts 1 v8 n (vs.take k ++ vs.drop (k + 1))) : OwnSS tInt tInts w8 lo w8.heap.size v8 (rowsOf (ps.eraseIdx k)) := by
  have hs := hb.size
  rw [← List.eraseIdx_eq_take_drop_succ] at h8
  have hn : n = (vs.eraseIdx k).length := by have := h8.1; omega
  subst hn
  refine ⟨vs.eraseIdx k, ⟨?_, fun g hg => (h8.lt g hg).2⟩, ?_⟩
  · have : Own tInts w8 w6.heap.size w8.heap.size v8 (vs.eraseIdx k) := ⟨h8, fun g hg => (h8.lt g hg).2⟩
    exact (this.wide hlo (Nat.le_refl _)).1
  · rw [rowsOf_erase]
    exact ((hR.erase k).below hb (Nat.le_refl _)).wide (Nat.le_refl _) hs

theorem NetIn.chg {B lo : Nat} {n : Int} {rows : List (List Int)} {wr w' : World} {u : Value} (h : NetIn B lo n rows wr u) {g : Nat} (hc : Chg g (g + 1) wr w') (hg : g < B) : NetIn B lo n rows w' u := by
  obtain ⟨h1, h2, h3, h4, h5, h6⟩ := h
  have hs := hc.size
  exact ⟨(h1.chg hc (.inr (by omega))).wide (Nat.le_refl _) hs, chg_cell hc (.inr (by omega)) h2, chg_cell hc (.inr (by omega)) h3, (chg_frozen hc (b := B) (o := 1) (World.block_lt_of_cell? _ _ h3) (.inr (by omega))).trans h4, h5, by omega⟩
theorem ResC.chg {R g : Nat} {W w' : World} (h : ResC R W) (hc : Chg g (g + 1) W w') (hg : g < R) : ResC R w' := by
  obtain ⟨h1, h2, h3, h4, h5⟩ := h
  have hs := hc.size
  exact ⟨chg_cell hc (.inr (by omega)) h1, chg_cell hc (.inr (by omega)) h2, (chg_frozen hc (b := R) (o := 0) h5 (.inr (by omega))).trans h3, (chg_frozen hc (b := R) (o := 1) h5 (.inr (by omega))).trans h4, by omega⟩
theorem ownSS_opened {w : World} {lo hi : Nat} {u : Value} {rows : List (List Int)} (h : OwnSS tInt tInts w lo hi u rows) (h0 : 0 < rows.length) :
    ∃ vs q c, u = .slice (some ⟨q, 0, none⟩) rows.length c ∧ rows.length ≤ c ∧ c ≤ maxLen ∧ lo ≤ q ∧ q < w.heap.size ∧ vs.length = rows.length ∧ RowsOwn tInt w lo hi vs rows ∧ (∀ j (hj : j < vs.length), w.cell? ⟨q, j, none⟩ = some vs[j]) ∧ ∀ y ∈ vs, y.oneCell' = true := by
  obtain ⟨vs, hO, hR⟩ := h
  have hl := hR.1
  rcases hO.cases with ⟨_, hz⟩ | ⟨g, cap, hv, hc, hm, hlo, _, hw, _, hcell, _⟩
  · subst hz; simp at hl; omega
  · rw [hl] at hv hc
    refine ⟨vs, g, cap, hv, hc, hm, hlo, hw, hl, hR, hcell, fun y hy => ?_⟩
    obtain ⟨i, hi, rfl⟩ := List.getElem_of_mem hy
    obtain ⟨ao, l, c, e⟩ := (hR.2.1 i hi (by rw [← hl]; exact hi)).shape
    rw [e]; rfl
theorem row_shape {w : World} {base : Nat} {e : TypeId} {size : Nat} {v : Value} {n : Nat} {us : List Value} (h : w.ownsRow base e size v n us) : ∃ a l c, v = .slice a l c := by
  rcases h.2 with ⟨rfl, _⟩ | ⟨g, cap, cur, rfl, _⟩
  · exact ⟨_, _, _, rfl⟩
  · exact ⟨_, _, _, rfl⟩
theorem ap1 {w7 w8 : World} (hg : ((w7.alloc (.cells #[] tInts)).drew).grownBy w8 (Value.slice (some ⟨w7.heap.size, 0, none⟩) 0 0).ownBlock) : Below w7.heap.size w7 w8 :=
  (((Below.refl _ w7).alloc (Nat.le_refl _) _).drew).grown hg (by simp) fun k h => by simp [Value.ownBlock] at h; omega
theorem ap2 {w7 w8 w9 : World} {v8 : Value} {n : Nat} {us : List Value} (hb : Below w7.heap.size w7 w8) (h8 : w8.ownsRow w7.heap.size tInts 1 v8 n us) (hg : w8.grownBy w9 v8.ownBlock) : Below w7.heap.size w7 w9 :=
  hb.grown hg hb.size fun k h => (h8.lt k h).1
set_option maxHeartbeats 800000 in
set_option maxRecDepth 100000 in
theorem l01Once (w0 w : World) (g : Nat) (bv : Value) (xs : List Int) (m : Nat) (hB : Bytes w0 bv xs) (hC : Cur w0 w g bv xs.length) (h1 : 1 ≤ m) (h2 : m ≤ 256) :
    Calls Try.prog 45 #[.pointer (some ⟨g, 0, none⟩), .int .i64 m] w fun e w' => ∃ b : Bool, e = .returned (.bool b) ∧ Cur w0 w' g bv xs.length ∧ Chg g (g + 1) w w' := by
  have HD := Lib.hid (l01Below w0 w g bv xs m hB hC h1 h2)
  clear hB hC
  go_enter Try.func45, Try.ntmps45
  go_wp2_with fail
  refine HD.out.mono ?_; rintro e w2 ⟨k, hk, rfl, C2, Ch2⟩
  have HC2 := Lib.hid C2
  have HG2 := Lib.hid Ch2
  clear C2 Ch2 HD
  go_wp2
  go_ret
  exact ⟨_, rfl, HC2.out, HG2.out⟩
set_option maxHeartbeats 8000000 in
set_option maxRecDepth 100000 in
theorem l03Net (w0 w : World) (g : Nat) (bv : Value) (xs : List Int) (hB : Bytes w0 bv xs) (hC : Cur w0 w g bv xs.length) :
    Calls Try.prog 22 #[.pointer (some ⟨g, 0, none⟩), .int .i64 6] w fun e w' => ∃ (N : Nat) (v : Value) (ps : List (Nat × Nat)), e = .returned (.agg #[.int .i64 N, v]) ∧ 1 ≤ N ∧ N ≤ 6 ∧ ps.length ≤ 60 ∧ PrOk N ps ∧ OwnSS tInt tInts w' w.heap.size w'.heap.size v (rowsOf ps) ∧ Cur w0 w' g bv xs.length := by
  have hgl := hC.lt
  have hcs := hC.below.size
  have r0 := ResC.start w 25
  have ba : Below w.heap.size w (w.alloc (.cells #[.int .i64 0, .slice none 0 0] 25)) := (Below.refl _ w).alloc (Nat.le_refl _) _
  have C1 := hC.keep ba hgl hcs
  have HB := Lib.hid hB
  have HD := Lib.hid (l02Draw w0 _ g bv xs 6 hB C1 (by omega) (by omega))
  clear hC C1 hB
  go_enter Try.func22, Try.ntmps22
  go_wp2_with fail
  refine HD.out.mono ?_; rintro e w2 ⟨N, v2, ps0, rfl, hN1, hN6, hpl0, hpr0, HO2, HC2, HG2⟩
  have s2 : w.heap.size + 1 ≤ w2.heap.size := by have := HG2.size; simpa using this
  have r2 : ResC w.heap.size w2 := ⟨chg_cell HG2 (.inr (by omega)) r0.1, chg_cell HG2 (.inr (by omega)) r0.2.1, (chg_frozen HG2 (b := w.heap.size) (o := 0) (by simp) (.inr (by omega))).trans r0.2.2.1, (chg_frozen HG2 (b := w.heap.size) (o := 1) (by simp) (.inr (by omega))).trans r0.2.2.2.1, by omega⟩
  obtain ⟨a2, l2, c2, hv2⟩ := HO2.shape
  subst hv2
  obtain ⟨B, hB9⟩ : ∃ B, Hid (B = w2.heap.size) := ⟨_, rfl⟩
  obtain ⟨W3, HW3⟩ : ∃ W, Hid (W = w2.alloc (.cells #[.int .i64 N, .slice a2 l2 c2] 25)) := ⟨_, rfl⟩
  have b23 : Below w2.heap.size w2 W3 := by rw [HW3.out]; exact (Below.refl _ _).alloc (Nat.le_refl _) _
  have s3 : B + 1 = W3.heap.size := by rw [HW3.out, hB9.out]; simp
  have hBw : w.heap.size + 1 ≤ B := by rw [hB9.out]; exact s2
  have n0 : W3.cell? ⟨B, 0, none⟩ = some (.int .i64 N) := by rw [HW3.out, hB9.out]; simp [go_sem]
  have n1 : W3.cell? ⟨B, 1, none⟩ = some (.slice a2 l2 c2) := by rw [HW3.out, hB9.out]; simp [go_sem]
  have nf : W3.frozen? ⟨B, 1, none⟩ = false := by rw [HW3.out, hB9.out]; unfold World.frozen?; rw [heap_alloc_new]; rfl
  have r3 := r2.below b23 (by omega)
  have C3 := HC2.keep b23 HC2.lt HC2.below.size
  have O3 : OwnSS tInt tInts W3 (w.heap.size + 1) B (.slice a2 l2 c2) (rowsOf ps0) := (by rw [hB9.out]; exact (HO2.below b23 (Nat.le_refl _)).wide (by simp) (Nat.le_refl _))
  have hgB : g < B := by omega
  have hw0B : w0.heap.size ≤ w.heap.size := hcs
  have HPR0 := Lib.hid hpr0
  have HO3 := Lib.hid O3
  have HC3 := Lib.hid C3
  have HR3 := Lib.hid r3
  have HNN := Lib.hid (WalkArith.wf_i64 (show -9223372036854775808 ≤ (N : Int) ∧ (N : Int) ≤ 9223372036854775807 by omega))
  clear HO2 HC2 HG2 r0 r2 r3 O3 C3 HD hpr0 ba b23
  go_wp2_with fail
  rw [← HW3.out, ← hB9.out]
  refine (l01Once w0 W3 g bv xs 2 HB.out HC3.out (by omega) (by omega)).mono ?_; rintro e w4 ⟨b, rfl, C4, Ch4⟩
  have s4 := Ch4.size
  have m0 := chg_cell Ch4 (.inr (by omega)) n0
  have m1 := chg_cell Ch4 (.inr (by omega)) n1
  have mf := (chg_frozen Ch4 (b := B) (o := 1) (by omega) (.inr (by omega))).trans nf
  have r4 : ResC w.heap.size w4 := ⟨chg_cell Ch4 (.inr (by omega)) HR3.out.1, chg_cell Ch4 (.inr (by omega)) HR3.out.2.1, (chg_frozen Ch4 (b := w.heap.size) (o := 0) (by omega) (.inr (by omega))).trans HR3.out.2.2.1, (chg_frozen Ch4 (b := w.heap.size) (o := 1) (by omega) (.inr (by omega))).trans HR3.out.2.2.2.1, by omega⟩
  have O4 := (HO3.out.chg Ch4 (.inr (by omega))).wide (Nat.le_refl _) (show B ≤ w4.heap.size by omega)
  have HC4 := Lib.hid C4
  clear n0 n1 nf HO3 HC3 HR3 Ch4 C4 HW3 hB9
  cases b with
  | false =>
    have O5 := Lib.hid (two_cells (w := w) (x := .int .i64 N) (y := .slice a2 l2 c2) (R := w.heap.size) (base := w.heap.size) O4 (by omega) (Nat.le_refl _))
    obtain ⟨d0, d1, f0, f1, _⟩ := r4
    have C5 := Lib.hid (HC4.out.keep (two_below (w4 := w4) (R := w.heap.size) (x := .int .i64 N) (y := .slice a2 l2 c2)) hgl hcs)
    clear O4
    go_wp2
    exact bodyPost_ret (v := .agg #[.int .i64 N, .slice a2 l2 c2]) (by simp [results, Try.results22, go_sem, d0, d1]) rfl ⟨N, _, ps0, rfl, hN1, hN6, by omega, HPR0.out, O5.out, C5.out⟩
  | true =>
    clear O4
    obtain ⟨lo, hlo9⟩ : ∃ lo, Hid (lo = w4.heap.size) := ⟨_, rfl⟩
    obtain ⟨W5, HW5⟩ : ∃ W, Hid (W = (w4.alloc (.cells #[] tInts)).setCell ⟨B, 1, none⟩ (.slice (some ⟨lo, 0, none⟩) 0 0)) := ⟨_, rfl⟩
    have hBlo : B < lo := by rw [hlo9.out]; omega
    have ba4 : Below w4.heap.size w4 (w4.alloc (.cells #[] tInts)) := (Below.refl _ _).alloc (Nat.le_refl _) _
    have k0 := Below.keeps ba4 _ _ m0
    have k1 := Below.keeps ba4 _ _ m1
    have kf := (ba4.frozen (p := ⟨B, 1, none⟩) (by show B < _; rw [← hlo9.out]; omega)).trans mf
    have b45 : Below B w4 W5 := by rw [HW5.out]; exact (ba4.mono (by rw [← hlo9.out]; omega)).setCell (p := ⟨B, 1, none⟩) (Nat.le_refl B) _
    have hN5 : NetIn B lo N (rowsOf []) W5 (.slice (some ⟨lo, 0, none⟩) 0 0) := by
      rw [HW5.out]
      refine ⟨?_, ?_, World.cell?_setCell_same _ _ _ k1, ?_, hBlo, ?_⟩
      · rw [size_setCell, hlo9.out]
        exact (OwnSS.lit0 tInt tInts w4 w4.heap.size (Nat.le_refl _)).set (by rw [← hlo9.out]; exact hBlo) _
      · rw [World.cell?_setCell_other _ _ _ _ (by simp)]; exact k0
      · rw [World.frozen?_setCell]; exact kf
      · rw [size_setCell, hlo9.out]; simp
    have r5 := Lib.hid (r4.below b45 (by omega))
    have C5 := Lib.hid (HC4.out.keep b45 hgB (by omega))
    have s5 : lo < W5.heap.size := by rw [HW5.out, size_setCell, hlo9.out]; simp
    have HN5 := Lib.hid hN5
    obtain ⟨i0, hi, hz0, hz1, hz2⟩ := info_parts infoInts
    clear hN5 r4 HC4 b45 mf
    go_wp2
    have HW6 : Hid ((w4.alloc (.cells #[] tInts)).setCell ⟨B, 1, none⟩ (.slice (some ⟨w4.heap.size, 0, none⟩) 0 0) = W5) := by show _ = _; rw [HW5.out, hlo9.out]
    rw [HW6.out]
    rw [← hlo9.out]
    clear HW5 HW6 hlo9 k0 k1 kf m0 m1 ba4
    go_loopw [6] (fun i wr => ∃ i9 : Nat, 1 ≤ i9 ∧ i9 ≤ N ∧ i = .int .i64 i9 ∧ ∃ (u : Value) (ps : List (Nat × Nat)), ps.length + 6 ≤ 6 * i9 ∧ Hid (PrOk N ps) ∧ Hid (NetIn B lo N (rowsOf ps) wr u) ∧ Hid (Kept B lo W5 wr)) (fun i _ => N - (intOf i).toNat)
    case atStart => exact ⟨1, Nat.le_refl _, hN1, rfl, _, [], by simp, Lib.hid (fun p hp => by cases hp), HN5, Lib.hid (Kept.refl _ _ _ (by omega))⟩
    case round =>
      obtain ⟨i9, hi1, hiN, rfl, u, ps, hpl, HPR, HN, HK⟩ := hrel
      by_cases hlt : i9 < N
      · have cn := HN.out.2.1
        have hBr : B < wr.heap.size := by have := HN.out.2.2.2.2.2; omega
        go_wp2
        go_loopw [7] (fun j wr => ∃ k : Nat, k ≤ i9 ∧ j = .int .i64 k ∧ ∃ (u : Value) (ps : List (Nat × Nat)), ps.length + k + 6 ≤ 7 * i9 ∧ Hid (PrOk N ps) ∧ Hid (NetIn B lo N (rowsOf ps) wr u) ∧ Hid (Kept B lo W5 wr)) (fun j _ => (intOf j).toNat)
        case atStart => exact ⟨i9, Nat.le_refl _, rfl, u, ps, by omega, HPR, HN, HK⟩
        case round =>
          clear HPR HN HK cn hBr hpl
          obtain ⟨k, hk, rfl, u, ps, hpl, HPR, HN, HK⟩ := hrel
          by_cases hk0 : 0 < k
          · have hd : decide ((k : Int) > 0) = true := decide_eq_true (by omega)
            have hd2 : decide (0 < (k : Int)) = true := decide_eq_true (by omega)
            obtain ⟨⟨vs, hO, hR⟩, cn, cu2, cf2, hB, hlo⟩ := HN.out
            have HO := Lib.hid hO
            have HW := Lib.hid hR
            have HU : Hid (∀ g, g < lo → some g ≠ u.ownBlock) := fun g hg e => by have := HO.out.lt e.symm; omega
            have hvl : vs.length ≤ 60 := by have := HW.out.1; rw [rowsOf_length] at this; omega
            have hB2 : B < wr.heap.size := by omega
            have hB3 : B < wr.heap.size + 1 := by omega
            have HP2 := Lib.hid (HPR.out.snoc (a := k - 1) (b := k) (by omega) (by omega) (by omega))
            have HRW : Hid (rowsOf (ps ++ [(k - 1, k)]) = rowsOf ps ++ [[(k : Int) - 1, (k : Int)]]) := by show _ = _; rw [rowsOf_snoc, show ((k - 1 : Nat) : Int) = (k : Int) - 1 by omega]
            clear hO hR HN HPR
            go_wp2_with (at_builtin; refine wpHold ?_)
            refine Lib.hid ?_
            refine (wpList_append_lies _ rfl _ _ 23 rfl (lo) tInts i0 (.slice none 0 0) 1 24 Try.underlying23 hi hz0 hz1 hz2 rfl (by decide) u vs.length vs rfl (HO.out.1.alloc _ |>.alloc _) ⟨wr.heap.size + 1, 0, none⟩ 1 1 [.slice (some ⟨wr.heap.size, 0, none⟩) 2 2] rfl rfl (news_two0 _ _ _ _) (by simp [Value.oneCell']) (by decide) (by unfold maxLen; omega) (by omega) (by simp; omega) (wr.heap.size + 2) (by simp) ?_); intro g9 cap2 w9 hown hgrow hat hlt2
            have zz := after_new (below_two0 _ _ _) hgrow cu2 cf2 (HU.out _ (by first | (simp; done) | (simp; omega)))
            obtain ⟨z1, z2⟩ := zz
            obtain ⟨P, Q⟩ := NetIn.push (n := N) (W1 := W5) HO.out HW.out cn cu2 cf2 hB hlo (below_two0 _ _ _) (pair_two0 _ _ _ (WalkArith.wf_i64 (by omega)) (WalkArith.wf_i64 (by omega)) _) (by simp) hown hgrow HK.out
            rw [← HRW.out] at P
            clear hown hgrow hat hlt2 HO HW HK
            go_wp2
            go_roundw
            case rel => exact ⟨k - 1, by omega, by go_num, _, _, by rw [List.length_append]; show ps.length + 1 + (k - 1) + 6 ≤ 7 * i9; omega, HP2, Lib.hid P, Lib.hid Q⟩
            case measure => first | (simp [intOf]; done) | (simp [intOf]; omega)
          · have hd : decide ((k : Int) > 0) = false := decide_eq_false (by omega)
            have hd2 : decide (0 < (k : Int)) = false := decide_eq_false (by omega)
            go_wp2
            go_roundw
            case rel => exact ⟨i9 + 1, by omega, by omega, by go_num, u, ps, by omega, HPR, HN, HK⟩
            case measure => simp [intOf]; omega
      · have hpl2 : ps.length ≤ 30 := by omega
        have hbr := HK.out.1
        have HC6 := Lib.hid (C5.out.keep hbr hgB (by omega))
        have HR6 := Lib.hid (r5.out.below hbr (by omega))
        clear HK C5 r5 HN5
        obtain ⟨a6, c6, hv6, hc6, hm6, _, _⟩ := pairs_open HN.out.1.intss
        subst hv6
        have cu := HN.out.2.2.1
        have cn := HN.out.2.1
        have hBr : B < wr.heap.size := by have := HN.out.2.2.2.2.2; omega
        by_cases h0 : 0 < ps.length
        · have hd : decide ((ps.length : Int) > 0) = true := decide_eq_true (by omega)
          have hd2 : decide (0 < (ps.length : Int)) = true := decide_eq_true (by omega)
          go_wp2_with fail
          refine (l01Once w0 wr g bv xs 3 HB.out HC6.out (by omega) (by omega)).mono ?_; rintro e w6 ⟨b, rfl, C7, Ch7⟩
          have HN7 := Lib.hid (HN.out.chg Ch7 hgB)
          have HR7 := Lib.hid (HR6.out.chg Ch7 (by omega))
          have HC7 := Lib.hid C7
          clear HN HR6 HC6 C7 Ch7 cu cn hBr
          cases b with
          | false =>
            obtain ⟨hR, cn, cu, cf, hB8, hlo8⟩ := HN7.out
            have O9 := Lib.hid (two_cells (w := w) (x := .int .i64 N) (y := .slice a6 ps.length c6) (R := w.heap.size) (base := w.heap.size) hR (by omega) (Nat.le_refl _))
            obtain ⟨d0, d1, f0, f1, _⟩ := HR7.out
            have C9 := Lib.hid (HC7.out.keep (two_below (w4 := w6) (R := w.heap.size) (x := .int .i64 N) (y := .slice a6 ps.length c6)) hgl hcs)
            clear hR HN7 HR7 HC7
            go_wp2
            exact bodyPost_ret (v := .agg #[.int .i64 N, .slice a6 ps.length c6]) (by simp [results, Try.results22, go_sem, d0, d1]) rfl ⟨N, _, ps, rfl, hN1, hN6, by omega, HPR.out, O9.out, C9.out⟩
          | true =>
            have cu := HN7.out.2.2.1
            have hBr : B < w6.heap.size := by have := HN7.out.2.2.2.2.2; omega
            go_wp2_with fail
            refine (l01Below w0 w6 g bv xs ps.length HB.out HC7.out (by omega) (by omega)).mono ?_; rintro e w7 ⟨k0, hk0, rfl, C8, Ch8⟩
            have HN8 := Lib.hid (HN7.out.chg Ch8 hgB)
            have HR8 := Lib.hid (HR7.out.chg Ch8 (by omega))
            have HC8 := Lib.hid C8
            clear HN7 HR7 HC7 C8 Ch8 cu hBr
            obtain ⟨hO8, cn, cu, cf, hB8, hlo8⟩ := HN8.out
            obtain ⟨vs, q, c9, hv9, hlc, hcm, hlq, hqw, hvl, hR8, hcell8, hone8⟩ := ownSS_opened hO8 (by rw [rowsOf_length]; exact h0)
            rw [rowsOf_length] at hv9 hlc hvl
            simp only [Value.slice.injEq] at hv9
            obtain ⟨hv9, -, rfl⟩ := hv9
            subst hv9
            unfold maxLen at hcm
            have HRO := Lib.hid hR8
            have HCE := Lib.hid hcell8
            have HON := Lib.hid hone8
            have hBr : B < w7.heap.size := by omega
            have hk1 : ((k0 : Int) + 1) ≤ (ps.length : Int) := by omega
            clear hO8 HN8 hR8 hcell8 hone8
            have HT1 : Hid (∀ W, Below w7.heap.size w7 W → ∀ j y, (vs.take k0)[j]? = some y → W.cell? ((⟨q, 0, none⟩ : Addr).add j) = some y) := fun W hW j y hj => by
              rw [List.getElem?_take] at hj
              split at hj
              · obtain ⟨hj1, hj2⟩ := List.getElem?_eq_some_iff.1 hj
                rw [Addr.add_lit, Nat.zero_add, ← hj2]
                exact Below.keeps hW _ _ (HCE.out j hj1)
              · cases hj
            have hk2 : k0 ≤ c6 := by omega
            by_cases hcc : c6 = k0 + 1
            · subst hcc
              have hk5 : (k0 : Int) ≤ (k0 : Int) + 1 := by omega
              have HT2 : Hid (∀ W, Below w7.heap.size w7 W → ∀ j y, (vs.drop (k0 + 1))[j]? = some y → W.cell? ((⟨q, 0, none⟩ : Addr).add j) = some y) := fun W hW j y hj => by
                rw [List.getElem?_drop] at hj
                obtain ⟨hj1, hj2⟩ := List.getElem?_eq_some_iff.1 hj
                omega
              have hW1 : IntKind.i64.wrap ((k0 : Int) + 1) = (k0 : Int) + 1 := by rw [IntKind.wrap_i64]; omega
              have hW2 : ((k0 : Int) + 1).toNat = k0 + 1 := by omega
              have hW3 : 0 ≤ (k0 : Int) + 1 := by omega
              go_wp2
              rw [show Op.load 23 (Operand.tmp 50) = ldOp 23 (Operand.tmp 50) from rfl, show Op.load 23 (Operand.tmp 55) = ldOp 23 (Operand.tmp 55) from rfl]
              go_region_law (first | (have h9 := hown8; clear h9; refine step_append_any (by rfl) (.tmp 54) (.tmp 59) 23 (by rfl) w7.heap.size tInts i0 (.slice none 0 0) 1 24 Try.underlying23 hi hz0 hz1 hz2 rfl (by decide) v8 (0 + k0) ([] ++ vs.take k0) (by first | rfl | (simp [Act.eval, Act.put]; done)) (by exact hown8) ⟨q, 0, none⟩ 0 0 (vs.drop (k0 + 1)) (by first | rfl | (simp [Act.eval, Act.put]; done)) (by simp; omega) (HT2.out _ B8) (fun y hy => HON.out y (List.mem_of_mem_drop hy)) (by unfold maxLen; omega) (by omega) (by omega) ?_; intro v9 w9 hown9 hgr9; obtain ⟨a9, l9, c10, hv9⟩ := row_shape hown9; subst hv9; have B9 := ap2 B8 hown8 hgr9; have s9 := B9.size; have y1 := Below.keeps B9 _ _ cu; have y2 := (B9.frozen (p := ⟨B, 1, none⟩) hBr).trans cf; have y3 : B < w9.heap.size := Nat.lt_of_lt_of_le hBr s9) | (refine step_append_any (by rfl) (.tmp 49) (.tmp 53) 23 (by rfl) w7.heap.size tInts i0 (.slice none 0 0) 1 24 Try.underlying23 hi hz0 hz1 hz2 rfl (by decide) (.slice (some ⟨w7.heap.size, 0, none⟩) 0 0) 0 [] (by first | rfl | (simp [Act.eval, Act.put]; done)) (by exact (Own.lit0 tInts w7 w7.heap.size (Nat.le_refl _)).1) ⟨q, 0, none⟩ k0 (k0 + 1) (vs.take k0) (by first | rfl | (simp [Act.eval, Act.put]; done)) (by simp; omega) (HT1.out _ (((Below.refl _ w7).alloc (Nat.le_refl _) _).drew)) (fun y hy => HON.out y (List.mem_of_mem_take hy)) (by unfold maxLen; omega) (by omega) (by first | exact Nat.le_succ _ | (simp; done) | (simp; omega)) ?_; intro v8 w8 hown8 hgr8; have B8 := ap1 hgr8; have s8 := B8.size; have z1 := Below.keeps B8 _ _ cu; have z2 := (B8.frozen (p := ⟨B, 1, none⟩) hBr).trans cf; have z3 : B < w8.heap.size := Nat.lt_of_lt_of_le hBr s8) | fail)
              all_goals
                have OE := erased HRO.out hlo8 B9 hown9
                have PE := Lib.hid (HPR.out.erase k0)
                have hle9 : (ps.eraseIdx k0).length ≤ 60 := by rw [List.length_eraseIdx]; split <;> omega
                have OF := OE.set (g := B) (k := 1) hB8 (.slice a9 l9 c10)
                have q0 : (w9.setCell ⟨B, 1, none⟩ (.slice a9 l9 c10)).cell? ⟨B, 0, none⟩ = some (.int .i64 N) := (World.cell?_setCell_other _ _ _ _ (by simp)).trans (Below.keeps B9 _ _ cn)
                have q1 : (w9.setCell ⟨B, 1, none⟩ (.slice a9 l9 c10)).cell? ⟨B, 1, none⟩ = some (.slice a9 l9 c10) := World.cell?_setCell_same _ _ _ y1
                have R9 := HR8.out.below (B9.mono (show B ≤ w7.heap.size by omega)) (by omega)
                have R10 := Lib.hid (R9.below ((Below.refl B w9).setCell (p := ⟨B, 1, none⟩) (Nat.le_refl B) (.slice a9 l9 c10)) (by omega))
                have C10 := (HC8.out.keep (B9.mono (show B ≤ w7.heap.size by omega)) hgB (by omega)).keep ((Below.refl B w9).setCell (p := ⟨B, 1, none⟩) (Nat.le_refl B) (.slice a9 l9 c10)) hgB (by omega)
                have O9 := Lib.hid (two_cells (w := w) (x := .int .i64 N) (y := (.slice a9 l9 c10)) (R := w.heap.size) (base := w.heap.size) (by rw [size_setCell]; exact OF) (by omega) (Nat.le_refl _))
                have C9 := Lib.hid (C10.keep (two_below (w4 := w9.setCell ⟨B, 1, none⟩ (.slice a9 l9 c10)) (R := w.heap.size) (x := .int .i64 N) (y := (.slice a9 l9 c10))) hgl hcs)
                obtain ⟨W9, HW9⟩ : ∃ W, Hid (W = w9.setCell ⟨B, 1, none⟩ (.slice a9 l9 c10)) := ⟨_, rfl⟩
                rw [← HW9.out] at q0 q1 R10 O9 C9
                obtain ⟨d0, d1, f0, f1, _⟩ := R10.out
                clear OE OF R9 C10 hown8 hown9 hgr8 hgr9 R10 HR8 HC8 HPR HRO HCE HON HT1 HT2
                rw [← HW9.out]
                clear HW9
                go_wp2
                exact bodyPost_ret (v := .agg #[.int .i64 N, (.slice a9 l9 c10)]) (by simp [results, Try.results22, go_sem, d0, d1]) rfl ⟨N, _, ps.eraseIdx k0, rfl, hN1, hN6, hle9, PE.out, O9.out, C9.out⟩
            · have HT2 : Hid (∀ W, Below w7.heap.size w7 W → ∀ j y, (vs.drop (k0 + 1))[j]? = some y → W.cell? ((⟨q, k0 + 1, none⟩ : Addr).add j) = some y) := fun W hW j y hj => by
                rw [List.getElem?_drop] at hj
                obtain ⟨hj1, hj2⟩ := List.getElem?_eq_some_iff.1 hj
                rw [Addr.add_lit, ← hj2]
                exact Below.keeps hW _ _ (HCE.out _ hj1)
              have hW1 : IntKind.i64.wrap ((k0 : Int) + 1) = (k0 : Int) + 1 := by rw [IntKind.wrap_i64]; omega
              have hW2 : ((k0 : Int) + 1).toNat = k0 + 1 := by omega
              have hW3 : 0 ≤ (k0 : Int) + 1 := by omega
              go_wp2
              rw [show Op.load 23 (Operand.tmp 50) = ldOp 23 (Operand.tmp 50) from rfl, show Op.load 23 (Operand.tmp 55) = ldOp 23 (Operand.tmp 55) from rfl]
              go_region_law (first | (have h9 := hown8; clear h9; refine step_append_any (by rfl) (.tmp 54) (.tmp 59) 23 (by rfl) w7.heap.size tInts i0 (.slice none 0 0) 1 24 Try.underlying23 hi hz0 hz1 hz2 rfl (by decide) v8 (0 + k0) ([] ++ vs.take k0) (by first | rfl | (simp [Act.eval, Act.put]; done)) (by exact hown8) ⟨q, k0 + 1, none⟩ (ps.length - (k0 + 1)) (c6 - (k0 + 1)) (vs.drop (k0 + 1)) (by first | rfl | (simp [Act.eval, Act.put]; done)) (by simp; omega) (HT2.out _ B8) (fun y hy => HON.out y (List.mem_of_mem_drop hy)) (by unfold maxLen; omega) (by omega) (by omega) ?_; intro v9 w9 hown9 hgr9; obtain ⟨a9, l9, c10, hv9⟩ := row_shape hown9; subst hv9; have B9 := ap2 B8 hown8 hgr9; have s9 := B9.size; have y1 := Below.keeps B9 _ _ cu; have y2 := (B9.frozen (p := ⟨B, 1, none⟩) hBr).trans cf; have y3 : B < w9.heap.size := Nat.lt_of_lt_of_le hBr s9) | (refine step_append_any (by rfl) (.tmp 49) (.tmp 53) 23 (by rfl) w7.heap.size tInts i0 (.slice none 0 0) 1 24 Try.underlying23 hi hz0 hz1 hz2 rfl (by decide) (.slice (some ⟨w7.heap.size, 0, none⟩) 0 0) 0 [] (by first | rfl | (simp [Act.eval, Act.put]; done)) (by exact (Own.lit0 tInts w7 w7.heap.size (Nat.le_refl _)).1) ⟨q, 0, none⟩ k0 c6 (vs.take k0) (by first | rfl | (simp [Act.eval, Act.put]; done)) (by simp; omega) (HT1.out _ (((Below.refl _ w7).alloc (Nat.le_refl _) _).drew)) (fun y hy => HON.out y (List.mem_of_mem_take hy)) (by unfold maxLen; omega) (by omega) (by first | exact Nat.le_succ _ | (simp; done) | (simp; omega)) ?_; intro v8 w8 hown8 hgr8; have B8 := ap1 hgr8; have s8 := B8.size; have z1 := Below.keeps B8 _ _ cu; have z2 := (B8.frozen (p := ⟨B, 1, none⟩) hBr).trans cf; have z3 : B < w8.heap.size := Nat.lt_of_lt_of_le hBr s8) | fail)
              all_goals
                have OE := erased HRO.out hlo8 B9 hown9
                have PE := Lib.hid (HPR.out.erase k0)
                have hle9 : (ps.eraseIdx k0).length ≤ 60 := by rw [List.length_eraseIdx]; split <;> omega
                have OF := OE.set (g := B) (k := 1) hB8 (.slice a9 l9 c10)
                have q0 : (w9.setCell ⟨B, 1, none⟩ (.slice a9 l9 c10)).cell? ⟨B, 0, none⟩ = some (.int .i64 N) := (World.cell?_setCell_other _ _ _ _ (by simp)).trans (Below.keeps B9 _ _ cn)
                have q1 : (w9.setCell ⟨B, 1, none⟩ (.slice a9 l9 c10)).cell? ⟨B, 1, none⟩ = some (.slice a9 l9 c10) := World.cell?_setCell_same _ _ _ y1
                have R9 := HR8.out.below (B9.mono (show B ≤ w7.heap.size by omega)) (by omega)
                have R10 := Lib.hid (R9.below ((Below.refl B w9).setCell (p := ⟨B, 1, none⟩) (Nat.le_refl B) (.slice a9 l9 c10)) (by omega))
                have C10 := (HC8.out.keep (B9.mono (show B ≤ w7.heap.size by omega)) hgB (by omega)).keep ((Below.refl B w9).setCell (p := ⟨B, 1, none⟩) (Nat.le_refl B) (.slice a9 l9 c10)) hgB (by omega)
                have O9 := Lib.hid (two_cells (w := w) (x := .int .i64 N) (y := (.slice a9 l9 c10)) (R := w.heap.size) (base := w.heap.size) (by rw [size_setCell]; exact OF) (by omega) (Nat.le_refl _))
                have C9 := Lib.hid (C10.keep (two_below (w4 := w9.setCell ⟨B, 1, none⟩ (.slice a9 l9 c10)) (R := w.heap.size) (x := .int .i64 N) (y := (.slice a9 l9 c10))) hgl hcs)
                obtain ⟨W9, HW9⟩ : ∃ W, Hid (W = w9.setCell ⟨B, 1, none⟩ (.slice a9 l9 c10)) := ⟨_, rfl⟩
                rw [← HW9.out] at q0 q1 R10 O9 C9
                obtain ⟨d0, d1, f0, f1, _⟩ := R10.out
                clear OE OF R9 C10 hown8 hown9 hgr8 hgr9 R10 HR8 HC8 HPR HRO HCE HON HT1 HT2
                rw [← HW9.out]
                clear HW9
                go_wp2
                exact bodyPost_ret (v := .agg #[.int .i64 N, (.slice a9 l9 c10)]) (by simp [results, Try.results22, go_sem, d0, d1]) rfl ⟨N, _, ps.eraseIdx k0, rfl, hN1, hN6, hle9, PE.out, O9.out, C9.out⟩
        · have hd : decide ((ps.length : Int) > 0) = false := decide_eq_false (by omega)
          have hd2 : decide (0 < (ps.length : Int)) = false := decide_eq_false (by omega)
          obtain ⟨hR, cn, cu, cf, hB8, hlo8⟩ := HN.out
          have O9 := Lib.hid (two_cells (w := w) (x := .int .i64 N) (y := .slice a6 ps.length c6) (R := w.heap.size) (base := w.heap.size) hR (by omega) (Nat.le_refl _))
          obtain ⟨d0, d1, f0, f1, _⟩ := HR6.out
          have C9 := Lib.hid (HC6.out.keep (two_below (w4 := wr) (R := w.heap.size) (x := .int .i64 N) (y := .slice a6 ps.length c6)) hgl hcs)
          clear hR HN HR6 HC6
          go_wp2
          exact bodyPost_ret (v := .agg #[.int .i64 N, .slice a6 ps.length c6]) (by simp [results, Try.results22, go_sem, d0, d1]) rfl ⟨N, _, ps, rfl, hN1, hN6, by omega, HPR.out, O9.out, C9.out⟩
theorem apTo_perm {n : Nat} {ps : List (Nat × Nat)} {xs : List Int} (hp : PsOk n ps) (hl : xs.length = n) (k : Nat) (hk : k ≤ ps.length) : (apTo ps xs k).Perm xs := by
  induction k with
  | zero => exact List.Perm.refl _
  | succ k ih =>
    have hlt : k < ps.length := by omega
    have := hp.2.2.2 k hlt
    rw [apTo_succ ps xs k hlt]
    have hl2 := apTo_length ps xs k
    exact (apStep_perm (by omega) (by omega) this.2.2).trans (ih (by omega))
theorem idL_nodup (n : Nat) : (idL n).Nodup := by
  unfold idL
  exact List.pairwise_map.2 (List.Pairwise.imp (fun h e => h (by omega)) (List.nodup_range (n := n)))
theorem nodup_inj {l : List Int} (h : l.Nodup) {i j : Nat} (hi : i < l.length) (hj : j < l.length) (e : l[i] = l[j]) : i = j := by
  have H := List.pairwise_iff_getElem.1 h
  rcases Nat.lt_trichotomy i j with q | q | q
  · exact absurd e (H i j hi hj q)
  · exact q
  · exact absurd e.symm (H j i hj hi q)
/-- The standard form's comparators. -/
def stP (ps : List (Nat × Nat)) (xs : List Int) : Nat → List (Nat × Nat)
  | 0 => []
  | k + 1 => stP ps xs k ++ [((min ((apTo ps xs k).getD (ps.getD k (0, 0)).1 0) ((apTo ps xs k).getD (ps.getD k (0, 0)).2 0)).toNat, (max ((apTo ps xs k).getD (ps.getD k (0, 0)).1 0) ((apTo ps xs k).getD (ps.getD k (0, 0)).2 0)).toNat)]
theorem stP_length (ps : List (Nat × Nat)) (xs : List Int) (k : Nat) : (stP ps xs k).length = k := by
  induction k with
  | zero => rfl
  | succ k ih => simp [stP, ih]
theorem stP_ok {n : Nat} {ps : List (Nat × Nat)} (hp : PsOk n ps) (k : Nat) (hk : k ≤ ps.length) : stR ps (idL n) k = rowsOf (stP ps (idL n) k) ∧ PrOk n (stP ps (idL n) k) ∧ ∀ p ∈ stP ps (idL n) k, p.1 < p.2 := by
  induction k with
  | zero => exact ⟨rfl, fun p hp => (by cases hp), fun p hp => (by cases hp)⟩
  | succ k ih =>
    obtain ⟨i1, i2, i3⟩ := ih (by omega)
    have hlt : k < ps.length := by omega
    obtain ⟨a1, a2, a3⟩ := hp.2.2.2 k hlt
    have hg : ps.getD k (0, 0) = ps[k] := by rw [List.getD_eq_getElem?_getD, List.getElem?_eq_getElem hlt]; rfl
    have hP := apTo_perm hp (idL_length n) k (by omega)
    have hlen : (apTo ps (idL n) k).length = n := by rw [hP.length_eq, idL_length]
    have hin : ∀ x ∈ apTo ps (idL n) k, 0 ≤ x ∧ x < n := fun x hx => by
      have := hP.mem_iff.1 hx
      unfold idL at this
      obtain ⟨i, hi, rfl⟩ := List.mem_map.1 this
      have := List.mem_range.1 hi
      omega
    have hnd : (apTo ps (idL n) k).Nodup := hP.nodup_iff.2 (idL_nodup n)
    show stR ps (idL n) k ++ _ = rowsOf (stP ps (idL n) k ++ _) ∧ PrOk n (stP ps (idL n) k ++ _) ∧ ∀ p ∈ stP ps (idL n) k ++ _, p.1 < p.2
    rw [hg]
    have e1 : (apTo ps (idL n) k).getD ps[k].1 0 = (apTo ps (idL n) k)[ps[k].1]'(by omega) := by rw [List.getD_eq_getElem?_getD, List.getElem?_eq_getElem (by omega)]; rfl
    have e2 : (apTo ps (idL n) k).getD ps[k].2 0 = (apTo ps (idL n) k)[ps[k].2]'(by omega) := by rw [List.getD_eq_getElem?_getD, List.getElem?_eq_getElem (by omega)]; rfl
    have m1 := hin _ (List.getElem_mem (show ps[k].1 < (apTo ps (idL n) k).length by omega))
    have m2 := hin _ (List.getElem_mem (show ps[k].2 < (apTo ps (idL n) k).length by omega))
    have hne : (apTo ps (idL n) k)[ps[k].1]'(by omega) ≠ (apTo ps (idL n) k)[ps[k].2]'(by omega) := fun e => a3 (nodup_inj hnd _ _ e)
    rw [e1, e2]
    generalize (apTo ps (idL n) k)[ps[k].1]'(by omega) = x at *
    generalize (apTo ps (idL n) k)[ps[k].2]'(by omega) = y at *
    refine ⟨?_, i2.snoc (by omega) (by omega) (by omega), fun p hp => ?_⟩
    · rw [rowsOf_snoc, i1, Int.toNat_of_nonneg (by omega), Int.toNat_of_nonneg (by omega)]
    · rcases List.mem_append.1 hp with h | h
      · exact i3 p h
      · rw [List.mem_singleton] at h; subst h; show _ < _; omega
set_option maxHeartbeats 1600000 in
set_option maxRecDepth 100000 in
theorem makeStandard (w : World) (bv : Value) (xs : List Int) (m : Nat) (hB : Bytes w bv xs) (hl : xs.length ≤ 1048576) (hm : m ≤ 1000) :
    Calls Try.prog 4 #[bv, .int .i64 m] w fun e w' => ∃ (N : Nat) (v : Value) (ps : List (Nat × Nat)), e = .returned (.agg #[.int .i64 N, v]) ∧ 1 ≤ N ∧ N ≤ 6 ∧ ps.length ≤ 60 ∧ PrOk N ps ∧ (∀ p ∈ ps, p.1 < p.2) ∧ OwnSS tInt tInts w' w.heap.size w'.heap.size v (rowsOf ps) ∧ Below w.heap.size w w' := by
  have HBW := Lib.hid (hB.keep (Below.keeps ((Below.refl _ w).alloc (Nat.le_refl _) (.cells #[.int .i64 0, .slice none 0 0] 25))))
  have HN := Lib.hid (l31New _ bv xs m HBW.out hl hm)
  have r0 := ResC.start w 25
  obtain ⟨ao, cap, hv, _⟩ := hB
  subst hv
  have bz : Below w.heap.size w (w.alloc (.cells #[.int .i64 0, .slice none 0 0] 25)) := (Below.refl _ _).alloc (Nat.le_refl _) _
  have hz : w.heap.size < (w.alloc (.cells #[.int .i64 0, .slice none 0 0] 25)).heap.size := by simp
  go_enter Try.func4, Try.ntmps4
  go_wp2_with fail
  refine HN.out.mono ?_; rintro e w1 ⟨g, rfl, C1⟩
  have HD := Lib.hid (l03Net _ w1 g _ xs HBW.out C1)
  clear C1
  go_wp2_with fail
  refine HD.out.mono ?_; rintro e w2 ⟨N, v, ps, rfl, h1, h6, hpl, hpr, HO, HC⟩
  have b2 := HC.below
  have r2 := r0.below b2 (by simp)
  have hp := hpr.psOk h1 (by omega) hpl
  obtain ⟨q1, q2, q3⟩ := stP_ok hp ps.length (Nat.le_refl _)
  have HQ2 := Lib.hid q2
  have HQ3 := Lib.hid q3
  have HP : StP N (rowsOf ps) := ⟨hp.netP, trivial⟩
  have HE : Hid (nbR (StP N (rowsOf ps)) (stdR N (rowsOf ps)) = rowsOf (stP ps (idL N) ps.length)) := by
    show _ = _
    rw [nbR_yes HP]; unfold stdR; rw [pairsOf_rowsOf, rowsOf_length, Int.toNat_natCast]; exact q1
  have HE2 : Hid (nbN (StP N (rowsOf ps)) (N : Int) = (N : Int)) := nbN_yes HP
  have HPL := Lib.hid (stP_length ps (idL N) ps.length)
  obtain ⟨a2, l2, c2, hv2⟩ := HO.shape
  subst hv2
  have s2 := b2.size
  have hzw : w.heap.size + 1 ≤ w2.heap.size := by simpa using s2
  have HIO := Lib.hid HO.intss
  have HSO := Lib.hid (specStandardOf (N : Int) (.slice a2 l2 c2) (rowsOf ps) (w2.alloc (.cells #[.int .i64 N, .slice a2 l2 c2] 25)) (WalkArith.wf_i64 (by omega)) (HIO.out.keep (Below.keeps ((Below.refl _ _).alloc (Nat.le_refl _) _))) (by rw [rowsOf_length, sumLen_rowsOf]; omega))
  rw [HE.out, HE2.out] at HSO
  have bb : Below w2.heap.size w2 (w2.alloc (.cells #[.int .i64 N, .slice a2 l2 c2] 25)) := (Below.refl _ _).alloc (Nat.le_refl _) _
  have r3 := r2.below bb (by omega)
  have bw3 : Below w.heap.size w (w2.alloc (.cells #[.int .i64 N, .slice a2 l2 c2] 25)) := (bz.trans (b2.mono (by simp))).trans (bb.mono (by omega))
  clear HO HC hpr hp q1 q2 q3 HD HN r0 HP HE HE2 HIO
  go_wp2_with fail
  refine HSO.out.mono ?_; rintro e w4 ⟨u4, t4, mid, rfl, OI, OS, hm1, hm2, b4⟩
  have r4 := r3.below b4 (by simp; omega)
  have s4 : w2.heap.size + 1 ≤ w4.heap.size := by have := b4.size; simpa using this
  have bw4 : Below w.heap.size w w4 := bw3.trans (b4.mono (by simp; omega))
  have hmid : w2.heap.size + 1 ≤ mid := by simpa using hm1
  obtain ⟨a4, l4, c4, hv4⟩ := OS.shape
  subst hv4
  have b5 : Below w4.heap.size w4 (w4.alloc (.cells #[.int .i64 N, .slice a4 l4 c4] 25)) := (Below.refl _ _).alloc (Nat.le_refl _) _
  have r5 := r4.below b5 (by omega)
  have O5 := (OS.below b5 (Nat.le_refl _)).wide (lo' := mid) (hi' := (w4.alloc (.cells #[.int .i64 N, .slice a4 l4 c4] 25)).heap.size) (Nat.le_refl _) b5.size
  have O6 := Lib.hid (two_cells (w := w) (x := .int .i64 N) (y := .slice a4 l4 c4) (R := w.heap.size) (base := w.heap.size) O5 (by omega) (Nat.le_refl _))
  have B6 := Lib.hid ((bw4.trans (b5.mono (by omega))).trans (two_below (w4 := (w4.alloc (.cells #[.int .i64 N, .slice a4 l4 c4] 25))) (R := w.heap.size) (x := .int .i64 N) (y := .slice a4 l4 c4)))
  obtain ⟨d0, d1, f0, f1, _⟩ := r5
  clear OI OS O5 b2 b4 b5 bz bb bw3 bw4 HSO HBW r2 r3 r4 hm1 hm2
  go_wp2
  exact bodyPost_ret (v := .agg #[.int .i64 N, .slice a4 l4 c4]) (by simp [results, Try.results4, go_sem, d0, d1]) rfl ⟨N, _, stP ps (idL N) ps.length, rfl, h1, h6, by rw [HPL.out]; exact hpl, HQ2.out, HQ3.out, O6.out, B6.out⟩
end Go.Proofs.Ytldhbbbkfnfhoaa
