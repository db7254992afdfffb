/- Contracts: the reference's makers of networks and lists: l02Pairs, l02Draw, MakeNetwork, l02List, MakeList. Of what they draw only the bounds are told. -/
import Derived.Test.YtldhbbbkfnfhoaaPrng
import Derived.Test.YtldhbbbkfnfhoaaNetIn
import Derived.Test.YtldhbbbkfnfhoaaGridApp
import Derived.Test.YtldhbbbkfnfhoaaAllMasks
import Derived.Test.YtldhbbbkfnfhoaaApp
namespace Go.Proofs.Ytldhbbbkfnfhoaa
open Go.RowKit
set_option linter.unusedVariables false

def PrOk (N : Nat) (ps : List (Nat × Nat)) : Prop := ∀ p ∈ ps, p.1 < N ∧ p.2 < N ∧ p.1 ≠ p.2
theorem PrOk.psOk {N : Nat} {ps : List (Nat × Nat)} (h : PrOk N ps) (h1 : 1 ≤ N) (h8 : N ≤ 8) (h60 : ps.length ≤ 60) : PsOk N ps := ⟨h1, h8, h60, fun i hi => h ps[i] (List.getElem_mem hi)⟩
theorem PrOk.snoc {N a b : Nat} {ps : List (Nat × Nat)} (h : PrOk N ps) (ha : a < N) (hb : b < N) (hab : a ≠ b) : PrOk N (ps ++ [(a, b)]) := by
  intro p hp
  rcases List.mem_append.1 hp with h1 | h1
  · exact h p h1
  · rw [List.mem_singleton] at h1; subst h1; exact ⟨ha, hb, hab⟩
theorem rowsOf_snoc (ps : List (Nat × Nat)) (a b : Nat) : rowsOf (ps ++ [(a, b)]) = rowsOf ps ++ [[(a : Int), (b : Int)]] := by simp [rowsOf]
theorem mk_below (wr : World) (o1 o2 : Obj) : Below wr.heap.size wr ((wr.alloc o1).alloc o2) := (((Below.refl _ wr).alloc (Nat.le_refl _) o1).alloc (by simp) o2)
theorem mk_pair (wr : World) (a b : Int) (ha : In64 a) (hb : In64 b) (o2 : Obj) : OwnI tInt ((wr.alloc (.cells #[.int .i64 a, .int .i64 b] tInt)).alloc o2) wr.heap.size ((wr.alloc (.cells #[.int .i64 a, .int .i64 b] tInt)).alloc o2).heap.size (.slice (some ⟨wr.heap.size, 0, none⟩) 2 2) [a, b] := pair_two wr a b ha hb o2
theorem mod_ne {N a b : Nat} (ha : a < N) (hb : b + 1 < N) : (a + 1 + b) % N ≠ a := by
  rcases Nat.lt_or_ge (a + 1 + b) N with h | h
  · rw [Nat.mod_eq_of_lt h]; omega
  · rw [Nat.mod_eq_sub_mod h, Nat.mod_eq_of_lt (by omega)]; omega

theorem Chg.then {lo hi : Nat} {w w4 w5 : World} (h : Chg lo hi w w4) (b : Below w.heap.size w4 w5) : Chg lo hi w w5 :=
  ⟨b.os.trans h.os, b.tape.trans h.tape, b.output.trans h.output, Nat.le_trans h.size b.size, fun k hk ho => (b.block k hk).trans (h.block k hk ho)⟩

theorem chg_frozen {lo hi : Nat} {w w' : World} (h : Chg lo hi w w') {b o : Nat} (hl : b < w.heap.size) (hg : b < lo ∨ hi ≤ b) : w'.frozen? ⟨b, o, none⟩ = w.frozen? ⟨b, o, none⟩ := World.frozen?_of_block (a := ⟨b, o, none⟩) (h.block b hl hg)
set_option maxHeartbeats 1600000 in
set_option maxRecDepth 100000 in
theorem l02Pairs (w0 w : World) (g : Nat) (bv : Value) (xs : List Int) (N most : Nat) (up : Bool) (hB : Bytes w0 bv xs) (hC : Cur w0 w g bv xs.length) (hN1 : 1 ≤ N) (hN8 : N ≤ 8) (hmo : most ≤ 20) :
    Calls Try.prog 60 #[.pointer (some ⟨g, 0, none⟩), .int .i64 N, .int .i64 most, .bool up] w fun e w' => ∃ v ps, e = .returned v ∧ ps.length ≤ most ∧ PrOk N ps ∧ OwnSS tInt tInts w' w.heap.size w'.heap.size v (rowsOf ps) ∧ Cur w0 w' g bv xs.length ∧ Chg g (g + 1) w w' := by
  have hgl := hC.lt
  have hlo := hC.lo
  have hcs := hC.below.size
  have hgw : g < w.heap.size := hgl
  have C1 : Cur w0 (w.alloc (.cells #[] tInts)) g bv xs.length := hC.keep ((Below.refl _ w).alloc (Nat.le_refl _) _) hgl hcs
  have HB := Lib.hid hB
  have HD := Lib.hid (l01Below w0 _ g bv xs (most + 1) hB C1 (by omega) (by omega))
  clear hC C1 hB
  go_enter Try.func60, Try.ntmps60
  go_wp2_with fail
  refine HD.out.mono ?_; rintro e w2 ⟨k0, hk0, rfl, C2, Ch2⟩
  have HC2 := Lib.hid C2
  have HO2 := Lib.hid ((OwnSS.lit0 tInt tInts w w.heap.size (Nat.le_refl _)).chg Ch2 (.inr (by omega)))
  have sz2 : w.heap.size + 1 ≤ w2.heap.size := by have := Ch2.size; simpa using this
  have HS : Hid (OwnSS tInt tInts w2 w.heap.size w2.heap.size (.slice (some ⟨w.heap.size, 0, none⟩) 0 0) (rowsOf [])) := HO2.out.wide (Nat.le_refl _) (by simp; omega)
  have HG2 := Lib.hid (Chg.comp ((Chg.refl g (g + 1) w).then ((Below.refl _ w).alloc (Nat.le_refl _) (.cells #[] tInts))) Ch2)
  clear C2 Ch2 HD HO2
  go_wp2
  go_loopw [9, 10] (fun o i wr => ∃ (k : Nat) (ps : List (Nat × Nat)), i = .int .i64 k ∧ k + ps.length ≤ most ∧ Hid (PrOk N ps) ∧ Hid (OwnSS tInt tInts wr w.heap.size wr.heap.size o (rowsOf ps)) ∧ Hid (Cur w0 wr g bv xs.length) ∧ w.heap.size ≤ wr.heap.size ∧ Hid (Chg g (g + 1) w wr)) (fun _ i _ => (intOf i).toNat)
  case atStart => exact ⟨k0, [], rfl, by show k0 + 0 ≤ most; omega, fun p hp => (by cases hp), HS, HC2, by omega, HG2⟩
  case round =>
    clear HS HC2 HG2
    obtain ⟨k, ps, rfl, hkm, HP, HO, HC, hws, HG⟩ := hrel
    by_cases hk : 0 < k
    · by_cases hn : 1 < N
      · go_wp2_with fail
        refine (l01Below w0 _ g bv xs N HB.out HC.out (by omega) (by omega)).mono ?_; rintro e w3 ⟨a, ha, rfl, C3, Ch3⟩
        have HC3 := Lib.hid C3
        have HCh3 := Lib.hid Ch3
        clear C3 Ch3
        have en : ((N : Int) - 1) = ((N - 1 : Nat) : Int) := by omega
        go_wp2_with fail
        refine (l01Below w0 _ g bv xs (N - 1) HB.out HC3.out (by omega) (by omega)).mono ?_; rintro e w4 ⟨b0, hb0, rfl, C4, Ch4⟩
        have HC4 := Lib.hid C4
        have hgl := HC.out.lt
        have hCh := HCh3.out.comp Ch4
        have HG4 := Lib.hid (HG.out.comp hCh)
        have HO4 := Lib.hid ((HO.out.chg hCh (.inr (by omega))).wide (Nat.le_refl _) hCh.size)
        have hws4 : w.heap.size ≤ w4.heap.size := Nat.le_trans hws hCh.size
        have hne := mod_ne ha (show b0 + 1 < N by omega)
        have hbl : (a + 1 + b0) % N < N := Nat.mod_lt _ (by omega)
        have hrm : Int.tmod ((a : Int) + 1 + (b0 : Int)) (N : Int) = (((a + 1 + b0) % N : Nat) : Int) := by
          rw [show (a : Int) + 1 + (b0 : Int) = ((a + 1 + b0 : Nat) : Int) by omega, Int.tmod_eq_emod_of_nonneg (by omega)]; exact (Int.natCast_emod _ _).symm
        have hrm2 : ((a : Int) + 1 + (b0 : Int)) % (N : Int) = (((a + 1 + b0) % N : Nat) : Int) := by
          rw [show (a : Int) + 1 + (b0 : Int) = ((a + 1 + b0 : Nat) : Int) by omega]; exact (Int.natCast_emod _ _).symm
        obtain ⟨b, hb⟩ : ∃ b, b = (a + 1 + b0) % N := ⟨_, rfl⟩
        rw [← hb] at hne hbl hrm hrm2
        clear hb C4 Ch4 hCh HCh3 HC HC3
        obtain ⟨vs, hO, hR⟩ := HO4.out
        have hvl : vs.length ≤ 20 := by have := hR.1; rw [rowsOf_length] at this; omega
        have HRR := Lib.hid hR
        clear hR HO HO4
        by_cases hup : up = true ∧ b < a
        · obtain ⟨hu, hba⟩ := hup
          subst hu
          have hd : decide ((a : Int) > (b : Int)) = true := decide_eq_true (by omega)
          go_wp2_with (at_builtin; refine wpList_append1_at _ rfl _ _ 23 rfl tInts (.slice none 0 0) 24 Try.underlying23 infoInts (by decide) rfl w.heap.size w4.heap.size _ vs rfl ((hO.alloc _).alloc _) ⟨w4.heap.size + 1, 0, none⟩ 1 (.slice (some ⟨w4.heap.size, 0, none⟩) 2 2) rfl (by simp) rfl ?_ ?_ ?_)
          · omega
          · first | omega | (simp; omega)
          · intro v' w5 hown' hgr hat
            have bN := mk_below w4 (.cells #[.int .i64 b, .int .i64 a] tInt) (.cells #[.slice (some ⟨w4.heap.size, 0, none⟩) 2 2] tInts)
            have R1 := OwnSS.app hO HRR.out (mk_below _ _ _) (mk_pair w4 b a (WalkArith.wf_i64 (by omega)) (WalkArith.wf_i64 (by omega)) _) (by omega) hown' hgr
            rw [← rowsOf_snoc] at R1
            have b5 : Below w.heap.size w4 w5 := below_app (bN.mono hws4) ((hO.alloc _).alloc _) hgr (Nat.le_refl _) (Nat.le_trans hws4 bN.size)
            have C5 := Lib.hid (HC4.out.keep b5 hgw (by omega))
            have P5 := Lib.hid (HP.out.snoc (a := b) (b := a) (by omega) (by omega) (by omega))
            have R5 := Lib.hid R1
            have HG5 := Lib.hid (HG4.out.then b5)
            have s5 := b5.size
            clear hO HRR hown' hgr hat bN b5 R1
            go_wp2
            go_roundw
            case rel => exact ⟨k - 1, ps ++ [(b, a)], by go_num, by rw [List.length_append]; show k - 1 + (ps.length + 1) ≤ most; omega, P5, R5, C5, by omega, HG5⟩
            case measure => simp [intOf]; omega
        · cases up with
          | true =>
            have hba : ¬ b < a := fun h => hup ⟨rfl, h⟩
            have hba2 : (a : Int) ≤ (b : Int) := by omega
            have hd : decide ((a : Int) > (b : Int)) = false := decide_eq_false (by omega)
            have hd2 : decide ((b : Int) < (a : Int)) = false := decide_eq_false (by omega)
            go_wp2_with (at_builtin; refine wpList_append1_at _ rfl _ _ 23 rfl tInts (.slice none 0 0) 24 Try.underlying23 infoInts (by decide) rfl w.heap.size w4.heap.size _ vs rfl ((hO.alloc _).alloc _) ⟨w4.heap.size + 1, 0, none⟩ 1 (.slice (some ⟨w4.heap.size, 0, none⟩) 2 2) rfl (by simp) rfl ?_ ?_ ?_)
            · omega
            · first | omega | (simp; omega)
            · intro v' w5 hown' hgr hat
              have bN := mk_below w4 (.cells #[.int .i64 a, .int .i64 b] tInt) (.cells #[.slice (some ⟨w4.heap.size, 0, none⟩) 2 2] tInts)
              have R1 := OwnSS.app hO HRR.out (mk_below _ _ _) (mk_pair w4 a b (WalkArith.wf_i64 (by omega)) (WalkArith.wf_i64 (by omega)) _) (by omega) hown' hgr
              rw [← rowsOf_snoc] at R1
              have b5 : Below w.heap.size w4 w5 := below_app (bN.mono hws4) ((hO.alloc _).alloc _) hgr (Nat.le_refl _) (Nat.le_trans hws4 bN.size)
              have C5 := Lib.hid (HC4.out.keep b5 hgw (by omega))
              have P5 := Lib.hid (HP.out.snoc (a := a) (b := b) (by omega) (by omega) (by omega))
              have R5 := Lib.hid R1
              have HG5 := Lib.hid (HG4.out.then b5)
              have s5 := b5.size
              clear hO HRR hown' hgr hat bN b5 R1
              go_wp2
              go_roundw
              case rel => exact ⟨k - 1, ps ++ [(a, b)], by go_num, by rw [List.length_append]; show k - 1 + (ps.length + 1) ≤ most; omega, P5, R5, C5, by omega, HG5⟩
              case measure => simp [intOf]; omega
          | false =>
            go_wp2_with (at_builtin; refine wpList_append1_at _ rfl _ _ 23 rfl tInts (.slice none 0 0) 24 Try.underlying23 infoInts (by decide) rfl w.heap.size w4.heap.size _ vs rfl ((hO.alloc _).alloc _) ⟨w4.heap.size + 1, 0, none⟩ 1 (.slice (some ⟨w4.heap.size, 0, none⟩) 2 2) rfl (by simp) rfl ?_ ?_ ?_)
            · omega
            · first | omega | (simp; omega)
            · intro v' w5 hown' hgr hat
              have bN := mk_below w4 (.cells #[.int .i64 a, .int .i64 b] tInt) (.cells #[.slice (some ⟨w4.heap.size, 0, none⟩) 2 2] tInts)
              have R1 := OwnSS.app hO HRR.out (mk_below _ _ _) (mk_pair w4 a b (WalkArith.wf_i64 (by omega)) (WalkArith.wf_i64 (by omega)) _) (by omega) hown' hgr
              rw [← rowsOf_snoc] at R1
              have b5 : Below w.heap.size w4 w5 := below_app (bN.mono hws4) ((hO.alloc _).alloc _) hgr (Nat.le_refl _) (Nat.le_trans hws4 bN.size)
              have C5 := Lib.hid (HC4.out.keep b5 hgw (by omega))
              have P5 := Lib.hid (HP.out.snoc (a := a) (b := b) (by omega) (by omega) (by omega))
              have R5 := Lib.hid R1
              have HG5 := Lib.hid (HG4.out.then b5)
              have s5 := b5.size
              clear hO HRR hown' hgr hat bN b5 R1
              go_wp2
              go_roundw
              case rel => exact ⟨k - 1, ps ++ [(a, b)], by go_num, by rw [List.length_append]; show k - 1 + (ps.length + 1) ≤ most; omega, P5, R5, C5, by omega, HG5⟩
              case measure => simp [intOf]; omega
      · have hn1 : decide ((N : Int) > 1) = false := decide_eq_false (by omega)
        go_wp2
        go_ret
        exact ⟨_, ps, rfl, by omega, HP.out, HO.out, HC.out, HG.out⟩
    · go_wp2
      go_ret
      exact ⟨_, ps, rfl, by omega, HP.out, HO.out, HC.out, HG.out⟩
theorem two_cells {w w4 : World} {lo R base : Nat} {u x y : Value} {rows : List (List Int)} (h : OwnSS tInt tInts w4 lo w4.heap.size u rows) (hR : R < lo) (hb : base ≤ R) : OwnSS tInt tInts ((w4.setCell ⟨R, 0, none⟩ x).setCell ⟨R, 1, none⟩ y) base ((w4.setCell ⟨R, 0, none⟩ x).setCell ⟨R, 1, none⟩ y).heap.size u rows := by
  rw [size_setCell, size_setCell]
  exact ((h.set hR x).set hR y).wide (by omega) (Nat.le_refl _)
theorem two_below {w4 : World} {R : Nat} {x y : Value} : Below R w4 ((w4.setCell ⟨R, 0, none⟩ x).setCell ⟨R, 1, none⟩ y) := by
  have h1 : Below R w4 (w4.setCell ⟨R, 0, none⟩ x) := (Below.refl _ _).setCell (p := ⟨R, 0, none⟩) (Nat.le_refl R) x
  exact h1.setCell (p := ⟨R, 1, none⟩) (Nat.le_refl R) y
set_option maxHeartbeats 1600000 in
set_option maxRecDepth 100000 in
theorem l02Draw (w0 w : World) (g : Nat) (bv : Value) (xs : List Int) (most : Nat) (hB : Bytes w0 bv xs) (hC : Cur w0 w g bv xs.length) (h1 : 1 ≤ most) (h8 : most ≤ 8) :
    Calls Try.prog 44 #[.pointer (some ⟨g, 0, none⟩), .int .i64 most] w fun e w' => ∃ (N : Nat) (v : Value) (ps : List (Nat × Nat)), e = .returned (.agg #[.int .i64 N, v]) ∧ 1 ≤ N ∧ N ≤ most ∧ ps.length ≤ 12 ∧ PrOk N ps ∧ OwnSS tInt tInts w' w.heap.size w'.heap.size v (rowsOf ps) ∧ Cur w0 w' g bv xs.length ∧ Chg g (g + 1) w w' := by
  have hgl := hC.lt
  have hlo := hC.lo
  have hcs := hC.below.size
  have r0 := ResC.start w 25
  have C1 : Cur w0 (w.alloc (.cells #[.int .i64 0, .slice none 0 0] 25)) g bv xs.length := hC.keep ((Below.refl _ w).alloc (Nat.le_refl _) _) hgl hcs
  have G1 : Chg g (g + 1) w (w.alloc (.cells #[.int .i64 0, .slice none 0 0] 25)) := (Chg.refl g (g + 1) w).then ((Below.refl _ w).alloc (Nat.le_refl _) _)
  have HB := Lib.hid hB
  have HD := Lib.hid (l01Below w0 _ g bv xs most hB C1 (by omega) (by omega))
  obtain ⟨d0, d1, f0, f1, _⟩ := r0
  clear hC C1 hB
  go_enter Try.func44, Try.ntmps44
  go_wp2_with fail
  refine HD.out.mono ?_; rintro e w2 ⟨n0, hn0, rfl, C2, Ch2⟩
  replace d0 := chg_cell Ch2 (.inr (by omega)) d0
  replace d1 := chg_cell Ch2 (.inr (by omega)) d1
  replace G1 := G1.comp Ch2
  have HC2 := Lib.hid C2
  have s2 : w.heap.size + 1 ≤ w2.heap.size := by have := Ch2.size; simpa using this
  have g2 := (chg_frozen Ch2 (b := w.heap.size) (o := 0) (by simp) (.inr (by omega))).trans f0
  have g3 := (chg_frozen Ch2 (b := w.heap.size) (o := 1) (by simp) (.inr (by omega))).trans f1
  have HEN : Hid ((1 : Int) + (n0 : Int) = ((n0 + 1 : Nat) : Int)) := by show _ = _; omega
  clear C2 Ch2 HD f0 f1
  go_wp2_with fail
  refine (l01Below w0 _ g bv xs 4 HB.out HC2.out (by omega) (by omega)).mono ?_; rintro e w3 ⟨n1, hn1, rfl, C3, Ch3⟩
  replace d0 := chg_cell Ch3 (.inr (by omega)) d0
  replace d1 := chg_cell Ch3 (.inr (by omega)) d1
  replace g2 := (chg_frozen Ch3 (b := w.heap.size) (o := 0) (by omega) (.inr (by omega))).trans g2
  replace g3 := (chg_frozen Ch3 (b := w.heap.size) (o := 1) (by omega) (.inr (by omega))).trans g3
  replace G1 := G1.comp Ch3
  have HC3 := Lib.hid C3
  have s3 := Ch3.size
  clear C3 Ch3 HC2
  have HPR : Hid (∀ up, Calls Try.prog 60 #[.pointer (some ⟨g, 0, none⟩), .int .i64 ((n0 + 1 : Nat) : Int), .int .i64 12, .bool up] w3 fun e w' => ∃ v ps, e = .returned v ∧ ps.length ≤ 12 ∧ PrOk (n0 + 1) ps ∧ OwnSS tInt tInts w' w3.heap.size w'.heap.size v (rowsOf ps) ∧ Cur w0 w' g bv xs.length ∧ Chg g (g + 1) w3 w') := fun up => l02Pairs w0 w3 g bv xs (n0 + 1) 12 up HB.out HC3.out (by omega) (by omega) (by omega)
  rw [← HEN.out] at HPR
  go_wp2_with fail
  refine (HPR.out _).mono ?_; rintro e w4 ⟨v, ps, rfl, hpl, hpr, HO, HC, HG⟩
  replace d0 := chg_cell HG (.inr (by omega)) d0
  replace d1 := chg_cell HG (.inr (by omega)) d1
  replace g2 := (chg_frozen HG (b := w.heap.size) (o := 0) (by omega) (.inr (by omega))).trans g2
  replace g3 := (chg_frozen HG (b := w.heap.size) (o := 1) (by omega) (.inr (by omega))).trans g3
  replace G1 := G1.comp HG
  have s4 := HG.size
  obtain ⟨a4, l4, c4, hv4⟩ := HO.shape
  subst hv4
  have O4 := Lib.hid (two_cells (w := w) (x := .int .i64 ((1 : Int) + n0)) (y := .slice a4 l4 c4) (R := w.heap.size) (base := w.heap.size) HO (by omega) (Nat.le_refl _))
  have B4 := two_below (w4 := w4) (R := w.heap.size) (x := .int .i64 ((1 : Int) + n0)) (y := .slice a4 l4 c4)
  have C4 := Lib.hid (HC.keep B4 hgl hcs)
  have G4 := Lib.hid (G1.then B4)
  have HPO := Lib.hid hpr
  clear HO HC HG hpr HPR HC3 HB G1 B4
  go_wp2
  exact bodyPost_ret (v := .agg #[.int .i64 ((1 : Int) + n0), .slice a4 l4 c4]) (by simp [results, Try.results44, go_sem, d0, d1]) rfl ⟨n0 + 1, _, ps, congrArg (fun z : Int => Ending.returned (.agg #[.int .i64 z, .slice a4 l4 c4])) HEN.out, by omega, by omega, hpl, HPO.out, O4.out, C4.out, G4.out⟩
set_option maxHeartbeats 1600000 in
set_option maxRecDepth 100000 in
theorem l02List (w0 w : World) (g : Nat) (bv : Value) (xs : List Int) (N : Nat) (hB : Bytes w0 bv xs) (hC : Cur w0 w g bv xs.length) (hN8 : N ≤ 8) :
    Calls Try.prog 42 #[.pointer (some ⟨g, 0, none⟩), .int .i64 N] w fun e w' => ∃ v l, e = .returned v ∧ l.length = N ∧ (∀ x ∈ l, -3 ≤ x ∧ x ≤ 8) ∧ OwnI tInt w' w.heap.size w'.heap.size v l ∧ Cur w0 w' g bv xs.length := by
  have hgl := hC.lt
  have hgw : g < w.heap.size := hgl
  have hlo := hC.lo
  have hcs := hC.below.size
  have C1 := Lib.hid (hC.keep ((Below.refl _ w).alloc (Nat.le_refl _) (.cells #[] tInt)) hgl hcs)
  have O1 := Lib.hid (OwnI.lit0 tInt w w.heap.size (Nat.le_refl _))
  have HB := Lib.hid hB
  clear hC hB
  go_enter Try.func42, Try.ntmps42
  go_wp2
  go_loopw [5, 6] (fun o i wr => ∃ (k : Nat) (l : List Int), k ≤ N ∧ i = .int .i64 k ∧ l.length = k ∧ Hid (∀ x ∈ l, -3 ≤ x ∧ x ≤ 8) ∧ Hid (OwnI tInt wr w.heap.size wr.heap.size o l) ∧ Hid (Cur w0 wr g bv xs.length) ∧ w.heap.size ≤ wr.heap.size) (fun _ i _ => N - (intOf i).toNat)
  case atStart => exact ⟨0, [], Nat.zero_le _, rfl, rfl, fun x hx => (by cases hx), O1, C1, by simp⟩
  case round =>
    clear O1 C1
    obtain ⟨k, l, hk9, rfl, hlk, HP, HO, HC, hws⟩ := hrel
    by_cases hk : k < N
    · go_wp2_with fail
      refine (l01Below w0 _ g bv xs 12 HB.out HC.out (by omega) (by omega)).mono ?_; rintro e w3 ⟨a, ha, rfl, C3, Ch3⟩
      have HC3 := Lib.hid C3
      have hO3 := (HO.out.chg Ch3 (.inr (by omega))).wide (Nat.le_refl _) Ch3.size
      have hws3 : w.heap.size ≤ w3.heap.size := Nat.le_trans hws Ch3.size
      have hgl := HC.out.lt
      clear C3 Ch3 HO HC
      go_wp2_with (at_builtin; refine wpList_append1_at _ rfl _ _ 27 rfl 3 (.int .i64 0) 8 Try.underlying27 infoInt (by decide) rfl w.heap.size w3.heap.size _ _ rfl (hO3.1.alloc _) ⟨w3.heap.size, 0, none⟩ 1 (.int .i64 ((a : Int) - 3)) rfl (cell_alloc0 _ _ _) rfl ?_ ?_ ?_)
      · simp; omega
      · simp; omega
      · intro v' w4 hown' hgr hat
        have R1 := Lib.hid (OwnI.snoc hown' hO3.2 (show In64 ((a : Int) - 3) from WalkArith.wf_i64 (by omega)))
        have b4 : Below w.heap.size w3 w4 := below_app ((Below.refl _ _).alloc hws3 _) (hO3.1.alloc _) hgr (Nat.le_refl _) (by simp; omega)
        have HC4 := Lib.hid (HC3.out.keep b4 hgw (by omega))
        have P4 : Hid (∀ x ∈ l ++ [(a : Int) - 3], -3 ≤ x ∧ x ≤ 8) := fun x hx => by
          rcases List.mem_append.1 hx with h | h
          · exact HP.out x h
          · rw [List.mem_singleton] at h; omega
        have s4 := b4.size
        clear hO3 hown' hgr hat b4
        go_wp2
        go_roundw
        case rel => exact ⟨k + 1, l ++ [(a : Int) - 3], by omega, by go_num, by rw [List.length_append, hlk]; rfl, P4, R1, HC4, by omega⟩
        case measure => simp [intOf]; omega
    · go_wp2
      go_ret
      exact ⟨_, l, rfl, by omega, HP.out, HO.out, HC.out⟩
set_option maxHeartbeats 800000 in
set_option maxRecDepth 100000 in
theorem makeList (w : World) (bv : Value) (xs : List Int) (m N : Nat) (hB : Bytes w bv xs) (hl : xs.length ≤ 1048576) (hm : m ≤ 1000) (hN : N ≤ 8) :
    Calls Try.prog 20 #[bv, .int .i64 m, .int .i64 N] w fun e w' => ∃ v l, e = .returned v ∧ l.length = N ∧ (∀ x ∈ l, -3 ≤ x ∧ x ≤ 8) ∧ OwnI tInt w' w.heap.size w'.heap.size v l ∧ Below w.heap.size w w' := by
  have HBW := Lib.hid hB
  have HN := Lib.hid (l31New w bv xs m hB hl hm)
  obtain ⟨ao, cap, hv, _⟩ := hB
  subst hv
  go_enter Try.func20, Try.ntmps20
  go_wp2_with fail
  refine HN.out.mono ?_; rintro e w1 ⟨g, rfl, C1⟩
  have b1 := C1.below
  have HD := Lib.hid (l02List w w1 g _ xs N HBW.out C1 hN)
  clear C1
  go_wp2_with fail
  refine HD.out.mono ?_; rintro e w2 ⟨v, l, rfl, h1, h2, HO, HC⟩
  have H2 := Lib.hid h2
  have HOO := Lib.hid (HO.wide (lo' := w.heap.size) b1.size (Nat.le_refl _))
  have b2 := HC.below
  clear h2 HO HC HD HN HBW
  go_wp2
  go_ret
  exact ⟨v, l, rfl, h1, H2.out, HOO.out, b2⟩
end Go.Proofs.Ytldhbbbkfnfhoaa
