/- Contracts: FailingList, the program's and the reference's. -/
import Derived.Test.YtjinaiggpngieaaUns2
import Derived.Test.YtjinaiggpngieaaFill
namespace Go.Proofs.Ytjinaiggpngieaa
open Go.RowKit
set_option linter.unusedVariables false

/-- A fresh list and a truth value come back. -/
def GivesLB (w : World) (xs : List Int) (b : Bool) (en : Ending) (w' : World) : Prop := ∃ v, en = .returned (.tuple #[v, .bool b]) ∧ OwnI tInt w' w.heap.size w'.heap.size v xs ∧ Below w.heap.size w w'
def bitN (m k : Nat) : Nat := m / 2 ^ k % 2
def onesTo (m : Nat) : Nat → Nat
  | 0 => 0
  | k + 1 => onesTo m k + bitN m k
theorem onesTo_le (m k : Nat) : onesTo m k ≤ k := by
  induction k with
  | zero => exact Nat.le_refl _
  | succ k ih => unfold onesTo; have : bitN m k < 2 := Nat.mod_lt _ (by decide); omega
def failAt (N m k : Nat) : Int := if bitN m k = 0 then (k : Int) - onesTo m k else (N : Int) - onesN m + onesTo m k
def failTo (N m k : Nat) : List Int := (List.range k).map (failAt N m)
theorem failTo_succ (N m k : Nat) : failTo N m (k + 1) = failTo N m k ++ [failAt N m k] := by simp [failTo, List.range_succ]
theorem failTo_length (N m k : Nat) : (failTo N m k).length = k := by simp [failTo]
theorem onesTo_all (N m : Nat) (hN : N ≤ 8) (hm : m < 2 ^ N) : onesTo m N = onesN m := by
  have H : ∀ N : Fin 9, ∀ m : Fin 256, m.val < 2 ^ N.val → onesTo m.val N.val = onesN m.val := by decide +kernel
  have h2 : 2 ^ N ≤ 256 := Nat.le_trans (Nat.pow_le_pow_right (by omega) hN) (by decide)
  exact H ⟨N, by omega⟩ ⟨m, by omega⟩ hm
theorem bit_ways (m k : Nat) (hm : m < 256) (hk : k < 8) :
    (bitN m k = 0 ∧ Go.bits BinOp.and IntKind.i64 ((m : Int) / 2 ^ k) 1 = 0) ∨ (bitN m k = 1 ∧ Go.bits BinOp.and IntKind.i64 ((m : Int) / 2 ^ k) 1 = 1) := by
  rw [bit_eq m k hm hk]
  unfold bitN
  have := Nat.mod_two_eq_zero_or_one (m / 2 ^ k)
  omega
theorem failAt_in (N m k : Nat) (hN : N ≤ 8) (hm : m < 2 ^ N) (hk : k ≤ N) : -8 ≤ failAt N m k ∧ failAt N m k ≤ 16 := by
  have := onesTo_le m k
  have := onesN_le m
  unfold failAt; split <;> omega
/-- FailingList finds a list. -/
def FlP (n : Int) (rows : List (List Int)) : Prop := fuN n rows ≠ -1
/-- What FailingList returns. -/
noncomputable def flN (n : Int) (rows : List (List Int)) : List Int := bif tf (FlP n rows) then failTo n.toNat (fuN n rows).toNat n.toNat else []
theorem fuN_ways (n : Int) (rows : List (List Int)) : fuN n rows = -1 ∨ ∃ N m : Nat, n = (N : Int) ∧ 1 ≤ N ∧ N ≤ 8 ∧ fuN n rows = (m : Int) ∧ m < 2 ^ N := by
  rcases Classical.em (NetP n rows) with h | h
  · have h' := h
    obtain ⟨N, rfl, _, hp⟩ := h.pairs
    rw [fuN_yes h']
    cases hb : badI N (pairsOf rows) (2 ^ N) with
    | nil => exact .inl rfl
    | cons x xs =>
      have hx := badI_nonneg (N := N) (ps := pairsOf rows) (k := 2 ^ N) (x := x) (by rw [hb]; exact List.mem_cons_self ..)
      obtain ⟨m, rfl⟩ := Int.eq_ofNat_of_zero_le hx.1
      exact .inr ⟨N, m, rfl, hp.1, hp.2.1, rfl, by exact_mod_cast hx.2⟩
  · exact .inl (fuN_no h)
theorem flN_le (n : Int) (rows : List (List Int)) : (flN n rows).length ≤ 8 := by
  unfold flN
  rcases Classical.em (FlP n rows) with h | h
  · rw [tf_yes h]; simp only [cond_true, failTo_length]
    rcases fuN_ways n rows with h1 | ⟨N, m, rfl, h1, h2, _⟩
    · exact absurd h1 h
    · omega
  · rw [tf_no h]; simp

set_option maxHeartbeats 1600000 in
set_option maxRecDepth 100000 in
theorem implFailingList (n : Int) (v : Value) (rows : List (List Int)) (w : World) (hn : (Lit.int .i64 n).wf = true) (h : IntSS w v rows) (hl : rows.length + sumLen rows ≤ 1048576) :
    Calls Try.prog 16 #[.agg #[.int .i64 n, v]] w (GivesLB w (flN n rows) (tf (FlP n rows))) := by
  have hk : Hid (∀ W, Below w.heap.size w W → IntSS W v rows) := fun W hb => h.keep (Below.keeps hb)
  have HNW := Lib.hid hn
  obtain ⟨ao, cap, hv, _⟩ := h
  clear hn
  rcases fuN_ways n rows with hf | ⟨N, m, rfl, h1, h8, hf, hm⟩
  · have HE : Hid (flN n rows = [] ∧ tf (FlP n rows) = false) := by
      have hh : tf (FlP n rows) = false := tf_no fun hh => hh hf
      exact ⟨by unfold flN; rw [hh]; rfl, hh⟩
    rw [HE.out.1, HE.out.2]
    subst hv
    go_enter Try.func16, Try.ntmps16
    go_wp2_with fail
    refine (implFirstUnsorted _ _ rows _ HNW.out (hk.out _ ((Below.refl _ _).alloc (Nat.le_refl _) _)) hl).mono ?_; rintro e w1 ⟨rfl, b1⟩
    obtain ⟨cn, cv, b0, z⟩ := box_cells b1
    go_wp2
    go_ret2
    exact ⟨_, rfl, ⟨Own.nil _ _ _ _, by simp⟩, b0⟩
  · have HE : Hid (flN N rows = failTo N m N ∧ tf (FlP N rows) = true) := by
      have hh : tf (FlP N rows) = true := tf_yes (by unfold FlP; rw [hf]; omega)
      exact ⟨by unfold flN; rw [hh, hf]; rfl, hh⟩
    rw [HE.out.1, HE.out.2]
    have hm256 : m < 256 := Nat.lt_of_lt_of_le hm (Nat.le_trans (Nat.pow_le_pow_right (by omega) h8) (by decide))
    have HMM := Lib.hid hm
    have HALL := Lib.hid (onesTo_all N m h8 hm)
    have hd : decide ((m : Int) < 0) = false := decide_eq_false (by omega)
    have ho8 := onesN_wires N m h8 (by exact_mod_cast hm)
    subst hv
    clear hm
    go_enter Try.func16, Try.ntmps16
    go_wp2_with fail
    refine (implFirstUnsorted _ _ rows _ HNW.out (hk.out _ ((Below.refl _ _).alloc (Nat.le_refl _) _)) hl).mono ?_; rintro e w1 ⟨rfl, b1⟩
    rw [hf]
    obtain ⟨cn, cv, b0, z⟩ := box_cells b1
    have hso : w.heap.size + 1 ≤ w1.heap.size := z
    clear hf
    have C : Hid (∀ W, Calls Try.prog 36 #[.int .i64 m] W fun e w' => e = .returned (.int .i64 (onesN m)) ∧ ∃ n, w' = W.drewN n) :=
      fun W => (ones m W hm256).mono fun _ _ ⟨a, b⟩ => ⟨a, 0, by rw [← b]; rfl⟩
    go_wp2
    go_quiet ((go_at_call 36; exact Calls.quiet_of (C.out _)))
    have bq := below_drewN b0 nq
    have cn2 : (w1.drewN nq).cell? ⟨w.heap.size, 0, none⟩ = some (.int .i64 N) := cn
    have hs2 : w.heap.size < (w1.drewN nq).heap.size := z
    have hso2 : w.heap.size + 1 ≤ (w1.drewN nq).heap.size := z
    generalize w1.drewN nq = w2 at bq cn2 hs2 hso2 ⊢
    clear cn cv b0 z hso b1
    go_wp2
    go_loopw [5, 6, 7, 21] (fun a b o i wr => ∃ k : Nat, k ≤ N ∧ i = .int .i64 k ∧ a = .int .i64 ((k : Int) - onesTo m k) ∧ b = .int .i64 ((N : Int) - onesN m + onesTo m k) ∧ OwnI tInt wr (w.heap.size + 1) wr.heap.size o (failTo N m k) ∧ Below w.heap.size w wr ∧ w.heap.size + 1 ≤ wr.heap.size) (fun _ _ _ i _ => N - (intOf i).toNat)
    case atStart => exact ⟨0, Nat.zero_le _, rfl, by simp [onesTo], by simp [onesTo], OwnI.lit0 3 w2 (w.heap.size + 1) hso2, bq.alloc bq.size _, by simp; omega⟩
    case round =>
      obtain ⟨k, hk2, rfl, rfl, rfl, hown, hb, hz⟩ := hrel
      by_cases hlt : k < N
      · have hol := onesTo_le m k
        have hfl := failTo_length N m k
        have hfi := failAt_in N m k h8 HMM.out (by omega)
        rcases bit_ways m k hm256 (by omega) with ⟨hb0, hb1⟩ | ⟨hb0, hb1⟩
        · have HFA : Hid (failAt N m k = (k : Int) - onesTo m k) := by show _ = _; unfold failAt; rw [if_pos hb0]
          have HOS : Hid (onesTo m (k + 1) = onesTo m k) := by show _ = _; show onesTo m k + bitN m k = _; rw [hb0]; rfl
          go_wp2_with (at_builtin; refine wpList_append1 _ rfl _ _ 27 rfl 3 (.int .i64 0) 8 Try.underlying27 infoInt (by decide) rfl (w.heap.size + 1) wr.heap.size _ _ rfl (hown.1.alloc _) ⟨wr.heap.size, 0, none⟩ 1 (.int .i64 ((k : Int) - onesTo m k)) rfl (cell_alloc0 _ _ _) rfl ?_ ?_ ?_)
          · simp [hfl]; omega
          · simp; omega
          · intro v' w3 hown' hg
            have R1 := OwnI.snoc hown' hown.2 (show In64 ((k : Int) - onesTo m k) from WalkArith.wf_i64 (by omega))
            rw [← HFA.out, ← failTo_succ] at R1
            have R2 := below_app ((Below.refl (w.heap.size + 1) wr).alloc hz _) (hown.1.alloc _) hg (Nat.le_refl _) (by simp; omega)
            have hb := hb.trans (R2.mono (Nat.le_succ _))
            have hz3 : w.heap.size + 1 ≤ w3.heap.size := Nat.le_trans hz R2.size
            clear hown hown' hg R2 hfl hfi
            go_wp2
            go_roundw
            case rel => exact ⟨k + 1, by omega, by go_num, by rw [HOS.out]; go_num, by rw [HOS.out], R1, hb, hz3⟩
            case measure => simp [intOf]; omega
        · have HFA : Hid (failAt N m k = (N : Int) - onesN m + onesTo m k) := by show _ = _; unfold failAt; rw [if_neg (by omega)]
          have HOS : Hid (onesTo m (k + 1) = onesTo m k + 1) := by show _ = _; show onesTo m k + bitN m k = _; rw [hb0]
          go_wp2_with (at_builtin; refine wpList_append1 _ rfl _ _ 27 rfl 3 (.int .i64 0) 8 Try.underlying27 infoInt (by decide) rfl (w.heap.size + 1) wr.heap.size _ _ rfl (hown.1.alloc _) ⟨wr.heap.size, 0, none⟩ 1 (.int .i64 ((N : Int) - onesN m + onesTo m k)) rfl (cell_alloc0 _ _ _) rfl ?_ ?_ ?_)
          · simp [hfl]; omega
          · simp; omega
          · intro v' w3 hown' hg
            have R1 := OwnI.snoc hown' hown.2 (show In64 ((N : Int) - onesN m + onesTo m k) from WalkArith.wf_i64 (by omega))
            rw [← HFA.out, ← failTo_succ] at R1
            have R2 := below_app ((Below.refl (w.heap.size + 1) wr).alloc hz _) (hown.1.alloc _) hg (Nat.le_refl _) (by simp; omega)
            have hb := hb.trans (R2.mono (Nat.le_succ _))
            have hz3 : w.heap.size + 1 ≤ w3.heap.size := Nat.le_trans hz R2.size
            clear hown hown' hg R2 hfl hfi
            go_wp2
            go_roundw
            case rel => exact ⟨k + 1, by omega, by go_num, by rw [HOS.out]; go_num, by rw [HOS.out]; go_num, R1, hb, hz3⟩
            case measure => simp [intOf]; omega
      · obtain rfl : k = N := by omega
        go_wp2
        go_ret2
        exact ⟨_, rfl, hown.wide (by omega) (Nat.le_refl _), hb⟩

def stF (N m b k i : Nat) : Int := if bitN m i < b ∨ (bitN m i = b ∧ i < k) then failAt N m i else 0
def cntF (N m b k : Nat) : Int := if b = 0 then (k : Int) - onesTo m k else (N : Int) - onesN m + onesTo m k
theorem getD_set' (ys : List Int) (i j : Nat) (x : Int) (h : i < ys.length) : (ys.set i x).getD j 0 = if j = i then x else ys.getD j 0 := by
  by_cases hj : j = i
  · subst hj; simp [h]
  · simp [List.getD_eq_getElem?_getD, Ne.symm hj, hj]
theorem bitN_lt (m k : Nat) : bitN m k < 2 := Nat.mod_lt _ (by decide)
theorem ext_getD {xs ys : List Int} (hl : xs.length = ys.length) (h : ∀ i, i < ys.length → xs.getD i 0 = ys.getD i 0) : xs = ys := by
  refine List.ext_getElem hl fun i h1 h2 => ?_
  have := h i h2
  rwa [List.getD_eq_getElem?_getD, List.getD_eq_getElem?_getD, List.getElem?_eq_getElem h1, List.getElem?_eq_getElem h2] at this
theorem failTo_getD (N m k i : Nat) (h : i < k) : (failTo N m k).getD i 0 = failAt N m i := by
  rw [List.getD_eq_getElem?_getD, List.getElem?_eq_getElem (by rw [failTo_length]; exact h)]
  simp [failTo]

end Go.Proofs.Ytjinaiggpngieaa
