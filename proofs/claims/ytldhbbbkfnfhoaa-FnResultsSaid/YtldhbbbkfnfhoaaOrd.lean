/- Contracts: orders, the program's: all orders of some numbers. -/
import Derived.Test.YtldhbbbkfnfhoaaAppNet
import Derived.Test.YtldhbbbkfnfhoaaGridApp
import Derived.Test.YtldhbbbkfnfhoaaApp
import Derived.Test.YtldhbbbkfnfhoaaAllMasks
import Derived.Test.YtldhbbbkfnfhoaaShelfImg
import Derived.Outline
namespace Go.Proofs.Ytldhbbbkfnfhoaa
open Go.RowKit
set_option linter.unusedVariables false

/-- One list's followers: with one number more that it lacks, of the first k numbers. -/
def ordIn (l : List Int) : Nat → List (List Int)
  | 0 => []
  | k + 1 => ordIn l k ++ (if l.contains (k : Int) then [] else [l ++ [(k : Int)]])
def ordSt (N : Nat) (L : List (List Int)) : Nat → List (List Int)
  | 0 => []
  | j + 1 => ordSt N L j ++ ordIn (L.getD j []) N
def ords (N : Nat) : Nat → List (List Int)
  | 0 => [[]]
  | t + 1 => ordSt N (ords N t) (ords N t).length
theorem ordIn_yes {l : List Int} {k : Nat} (h : l.contains (k : Int) = true) : ordIn l (k + 1) = ordIn l k := by rw [ordIn, if_pos h]; simp
theorem ordIn_no {l : List Int} {k : Nat} (h : l.contains (k : Int) = false) : ordIn l (k + 1) = ordIn l k ++ [l ++ [(k : Int)]] := by rw [ordIn, if_neg (by rw [h]; simp)]
theorem ordIn_le (l : List Int) (k : Nat) : (ordIn l k).length ≤ k := by
  induction k with
  | zero => exact Nat.le_refl _
  | succ k ih =>
    cases h : l.contains (k : Int)
    · rw [ordIn_no h]; simp; omega
    · rw [ordIn_yes h]; omega
theorem ordSt_le (N : Nat) (L : List (List Int)) (j : Nat) : (ordSt N L j).length ≤ j * N := by
  induction j with
  | zero => simp [ordSt]
  | succ j ih =>
    show (ordSt N L j ++ ordIn (L.getD j []) N).length ≤ _
    rw [List.length_append, Nat.succ_mul]
    have := ordIn_le (L.getD j []) N
    omega
/-- What is known of all lists: at most 120 of them, each of t numbers below N, none twice. -/
def ordOk (N t : Nat) : Bool := decide ((ords N t).length ≤ 120) && (ords N t).all fun l => decide (l.length = t) && l.all (fun x => decide (0 ≤ x ∧ x < (N : Int))) && decide l.Nodup
theorem ordOk_all : ∀ N : Fin 6, ∀ t : Fin 6, t.val ≤ N.val → ordOk N.val t.val = true := by decide +kernel
theorem ords_ok {N t : Nat} (hN : N ≤ 5) (ht : t ≤ N) : (ords N t).length ≤ 120 ∧ ∀ l ∈ ords N t, l.length = t ∧ (∀ x ∈ l, 0 ≤ x ∧ x < (N : Int)) ∧ l.Nodup := by
  have h := ordOk_all ⟨N, by omega⟩ ⟨t, by omega⟩ ht
  unfold ordOk at h
  simp only [Bool.and_eq_true, decide_eq_true_eq, List.all_eq_true] at h
  exact ⟨h.1, fun l hl => ⟨(h.2 l hl).1.1, (h.2 l hl).1.2, (h.2 l hl).2⟩⟩

set_option maxRecDepth 100000 in
theorem cloneE (v : Value) (w : World) (h : Ints w v []) : Calls Try.prog 58 #[v] w (GivesI w []) := by
  obtain ⟨ao, cap, hv, hc1, hc2, hnil, hcell⟩ := h
  subst hv
  have he := fun W => Lib.run_eql_slice_nil (P := Try.prog) W 27 3 ao 0 cap 0 0 Try.underlying27
  clear hcell
  cases ao with
  | none =>
    have he2 : ∀ W, (binOp .eql 27 (.slice none 0 cap) (.slice none 0 0)).run Try.prog W = .ok (.bool true) W := he
    have hc0 := hnil rfl
    subst hc0
    clear he
    go_enter Try.func58, Try.ntmps58
    go_wp2
    go_ret
    exact ⟨_, rfl, ⟨Own.nil _ _ _ _, by simp⟩, Below.refl _ _⟩
  | some a =>
    go_enter Try.func58, Try.ntmps58
    go_wp2
    go_ret
    exact ⟨_, rfl, OwnI.lit0 3 w w.heap.size (Nat.le_refl _), (Below.refl _ _).alloc (Nat.le_refl _) _⟩
theorem cloneA (v : Value) (xs : List Int) (w : World) (h : Ints w v xs) (h1 : xs.length ≤ 1048576) : Calls Try.prog 58 #[v] w (GivesI w xs) := by
  cases xs with
  | nil => exact cloneE v w h
  | cons x xs => exact cloneI v _ w h (by simp) h1
theorem containsI (v : Value) (xs : List Int) (x : Int) (w : World) (h : Ints w v xs) (h1 : xs.length ≤ 1048576) :
    Calls Try.prog 66 #[v, .int .i64 x] w fun e w' => e = .returned (.bool (xs.contains x)) ∧ w = w' := by
  obtain ⟨ao, cap, rfl, hc1, hc2, hnil, hcell⟩ := h
  cases hx : xs with
  | nil =>
    subst hx
    exact (Try.slices_Contains_int_empty ao cap x w).mono fun e w' ⟨h1, h2⟩ => ⟨h1, h2.symm⟩
  | cons y ys =>
    obtain ⟨b, o, _, hao, _, _⟩ := hcell 0 (by rw [hx]; simp)
    rw [← hx]
    subst hao
    refine (Try.slices_Contains_int b o xs.length cap xs x w (Nat.le_refl _) (by omega) ?_).mono fun e w' ⟨h1, h2⟩ => ⟨by rw [h1, List.take_length], h2.symm⟩
    intro j hj
    obtain ⟨b', o', u, e1, e2, e3, _⟩ := hcell j hj
    simp only [Option.some.injEq, Addr.mk.injEq] at e1
    obtain ⟨rfl, rfl, _⟩ := e1
    rw [e2, e3, List.getD_eq_getElem?_getD, List.getElem?_eq_getElem hj]; rfl
theorem OwnSS.one0 (w : World) : OwnSS tInt tInts ((w.alloc (.cells #[] tInt)).alloc (.cells #[.slice (some ⟨w.heap.size, 0, none⟩) 0 0] tInts)) w.heap.size ((w.alloc (.cells #[] tInt)).alloc (.cells #[.slice (some ⟨w.heap.size, 0, none⟩) 0 0] tInts)).heap.size (.slice (some ⟨w.heap.size + 1, 0, none⟩) 1 1) [[]] := by
  have h1 := World.ownsRow_lit (e := tInts) (base := w.heap.size) (size := 1) (w.alloc (.cells #[] tInt)) #[.slice (some ⟨w.heap.size, 0, none⟩) 0 0] 1 (by simp) (by decide) (by simp)
  rw [World.size_alloc] at h1
  have h2 := (OwnI.lit0 tInt w w.heap.size (Nat.le_refl _)).below ((Below.refl _ (w.alloc (.cells #[] tInt))).alloc (Nat.le_refl _) (.cells #[.slice (some ⟨w.heap.size, 0, none⟩) 0 0] tInts)) (Nat.le_refl _)
  refine ⟨_, ⟨h1, fun g hg => by simp [Value.ownBlock] at hg; simp; omega⟩, ?_⟩
  have h3 := (RowsOwn.nil tInt ((w.alloc (.cells #[] tInt)).alloc (.cells #[.slice (some ⟨w.heap.size, 0, none⟩) 0 0] tInts)) w.heap.size w.heap.size).snoc (h2.wide (Nat.le_refl _) (by simp)) (Nat.le_refl _) (show w.heap.size ≤ ((w.alloc (.cells #[] tInt)).alloc (.cells #[.slice (some ⟨w.heap.size, 0, none⟩) 0 0] tInts)).heap.size by simp; omega)
  exact h3
set_option maxHeartbeats 4000000 in
set_option maxRecDepth 100000 in
theorem orders (N : Nat) (w : World) (hN : N ≤ 5) : Calls Try.prog 56 #[.int .i64 N] w (GivesSS w (ords N N)) := by
  obtain ⟨i0, hi, hz0, hz1, hz2⟩ := info_parts infoInts
  go_enter Try.func56, Try.ntmps56
  go_wp2
  go_loopw [3, 11] (fun o c wr => ∃ t : Nat, t ≤ N ∧ c = .int .i64 t ∧ Hid (OwnSS tInt tInts wr w.heap.size wr.heap.size o (ords N t)) ∧ Below w.heap.size w wr) (fun _ c _ => N - (intOf c).toNat)
  case atStart => exact ⟨0, Nat.zero_le _, rfl, Lib.hid (OwnSS.one0 w), ((Below.refl _ _).alloc (Nat.le_refl _) _).alloc (by simp) _⟩
  case round =>
    obtain ⟨t, ht9, rfl, HO, hb⟩ := hrel
    have hs := hb.size
    by_cases hlt : t < N
    · have HNx : Hid (ords N (t + 1) = ordSt N (ords N t) (ords N t).length) := rfl
      have hok := ords_ok hN ht9
      obtain ⟨aO, capO, hov, hcO, hmO, hnO, hcellO⟩ := HO.out.intss
      have hl120 := hok.1
      have HOK := Lib.hid hok.2
      have HC := Lib.hid hcellO
      unfold maxLen at hmO
      subst hov
      clear hok hcellO
      generalize ords N t = L at *
      have hOS := OwnSS.lit0 tInt tInts wr wr.heap.size (Nat.le_refl _)
      have bL : Below wr.heap.size wr (wr.alloc (.cells #[] tInts)) := (Below.refl _ wr).alloc (Nat.le_refl _) _
      go_wp2
      obtain ⟨wo, rfl⟩ : ∃ wo : World, wo = wr := ⟨_, rfl⟩
      go_loopw [4, 16] (fun o c wt => ∃ j : Nat, j ≤ L.length ∧ c = .int .i64 j ∧ Hid (OwnSS tInt tInts wt wo.heap.size wt.heap.size o (ordSt N L j)) ∧ Below wo.heap.size wo wt) (fun _ c _ => L.length - (intOf c).toNat)
      case atStart => exact ⟨0, Nat.zero_le _, rfl, Lib.hid hOS, bL⟩
      case round =>
        clear hOS bL
        obtain ⟨j, hj9, rfl, HS, hbt⟩ := hrel
        by_cases hltj : j < L.length
        · obtain ⟨b, q, uu, rfl, hu, hI⟩ := HC.out j hltj
          have c1 := Below.keeps hbt _ _ hu
          obtain ⟨hlen, hin, _⟩ := HOK.out L[j] (List.getElem_mem ..)
          have HSt : Hid (ordSt N L (j + 1) = ordSt N L j ++ ordIn L[j] N) := by
            show ordSt N L j ++ ordIn (L.getD j []) N = _
            rw [List.getD_eq_getElem?_getD, List.getElem?_eq_getElem hltj]; rfl
          have hsl := ordSt_le N L j
          have hj5 : j * N ≤ 600 := Nat.le_trans (Nat.mul_le_mul (show j ≤ 120 by omega) hN) (by decide)
          have HIn := Lib.hid hin
          have HI := Lib.hid (fun W (hW : Below wo.heap.size wo W) => hI.keep (Below.keeps hW))
          have HS0 : Hid (OwnSS tInt tInts wr wo.heap.size wr.heap.size u4 (ordSt N L j ++ ordIn L[j] 0)) := by show OwnSS _ _ _ _ _ _ (_ ++ []); rw [List.append_nil]; exact HS.out
          clear hu hI hin HS
          generalize L[j] = l at *
          go_wp2
          go_loopw [4, 21] (fun o c wt => ∃ k : Nat, k ≤ N ∧ c = .int .i64 k ∧ Hid (OwnSS tInt tInts wt wo.heap.size wt.heap.size o (ordSt N L j ++ ordIn l k)) ∧ Below wo.heap.size wo wt) (fun _ c _ => N - (intOf c).toNat)
          case atStart => exact ⟨0, Nat.zero_le _, rfl, HS0, hbt⟩
          case round =>
            clear HS0 hbt c1
            obtain ⟨k, hk9, rfl, HS, hbt⟩ := hrel
            by_cases hltk : k < N
            · have hs3 := hbt.size
              have hil := ordIn_le l k
              go_wp2_with fail
              refine (containsI _ l (k : Int) _ (HI.out _ hbt) (by omega)).mono ?_; rintro e w1 ⟨rfl, rfl⟩
              cases hc : l.contains (k : Int)
              · have HE := Lib.hid (ordIn_no hc)
                obtain ⟨vs, hO, hR⟩ := HS.out
                have hvl : vs.length ≤ 605 := by have := hR.1; rw [List.length_append] at this; omega
                have HRR := Lib.hid hR
                clear hc hR HS
                go_wp2_with fail
                refine (cloneA _ l _ (HI.out _ hbt) (by omega)).mono ?_; rintro e w2 ⟨v2, rfl, R2, b2⟩
                have s2 := b2.size
                go_wp2_with (at_builtin; refine wpList_append1_at _ rfl _ _ 27 rfl 3 (.int .i64 0) 8 Try.underlying27 infoInt (by decide) rfl wr.heap.size w2.heap.size _ _ rfl (R2.1.alloc _) ⟨w2.heap.size, 0, none⟩ 1 (.int .i64 k) rfl (cell_alloc0 _ _ _) rfl ?_ ?_ ?_)
                · simp; omega
                · simp; omega
                · intro v3 w3 hown3 hgr3 hat3
                  have R3 := OwnI.snoc hown3 R2.2 (show In64 (k : Int) from WalkArith.wf_i64 (by omega))
                  obtain ⟨a3, l3, c3, hv3⟩ := R3.shape
                  subst hv3
                  have b3 : Below wr.heap.size wr w3 := below_app (b2.alloc s2 _) (R2.1.alloc _) hgr3 (Nat.le_refl _) (by simp; omega)
                  have s3 := b3.size
                  have bW : Below wr.heap.size wr (w3.alloc (.cells #[.slice a3 l3 c3] tInts)) := b3.alloc s3 _
                  have RW : OwnI tInt (w3.alloc (.cells #[.slice a3 l3 c3] tInts)) wr.heap.size (w3.alloc (.cells #[.slice a3 l3 c3] tInts)).heap.size (.slice a3 l3 c3) (l ++ [(k : Int)]) := (R3.below ((Below.refl _ w3).alloc (Nat.le_refl _) _) (Nat.le_refl _)).wide (Nat.le_refl _) (by simp)
                  clear hown3 hgr3 hat3 R3 R2 b2
                  go_wp2_with (at_builtin; refine wpList_append1_at _ rfl _ _ 23 rfl tInts (.slice none 0 0) 24 Try.underlying23 infoInts (by decide) rfl wo.heap.size wr.heap.size _ vs rfl (hO.below bW (Nat.le_refl _)) ⟨w3.heap.size, 0, none⟩ 1 (.slice a3 l3 c3) rfl (cell_alloc0 _ _ _) rfl ?_ ?_ ?_)
                  · omega
                  · first | omega | (simp; omega)
                  · intro v5 w5 hown5 hgr5 hat5
                    have R5 := OwnSS.app hO HRR.out bW RW hs3 hown5 hgr5
                    have B5 : Below wo.heap.size wo w5 := below_app (hbt.trans (bW.mono hs3)) (hO.below bW (Nat.le_refl _)) hgr5 (Nat.le_refl _) (Nat.le_trans hs3 bW.size)
                    rw [List.append_assoc, ← HE.out] at R5
                    have HS2 := Lib.hid R5
                    clear hO HRR hown5 hgr5 hat5 R5 RW bW b3
                    go_wp2
                    go_roundw
                    case rel => exact ⟨k + 1, by omega, by go_num, HS2, B5⟩
                    case measure => simp [intOf]; omega
              · have HE := Lib.hid (ordIn_yes hc)
                rw [← HE.out] at HS
                clear hc
                go_wp2
                go_roundw
                case rel => exact ⟨k + 1, by omega, by go_num, HS, hbt⟩
                case measure => simp [intOf]; omega
            · obtain rfl : k = N := by omega
              rw [← HSt.out] at HS
              go_wp2
              go_roundw
              case rel => exact ⟨j + 1, by omega, by go_num, HS, hbt⟩
              case measure => simp [intOf]; omega
        · obtain rfl : j = L.length := by omega
          rw [← HNx.out] at HS
          have HS2 := Lib.hid (HS.out.wide hs (Nat.le_refl _))
          have B2 := hb.trans (hbt.mono hs)
          clear HS
          go_wp2
          go_roundw
          case rel => exact ⟨t + 1, by omega, by go_num, HS2, B2⟩
          case measure => simp [intOf]; omega
    · obtain rfl : t = N := by omega
      have R := HO.out
      clear HO
      go_wp2
      go_ret
      exact ⟨_, rfl, R, hb⟩
end Go.Proofs.Ytldhbbbkfnfhoaa
