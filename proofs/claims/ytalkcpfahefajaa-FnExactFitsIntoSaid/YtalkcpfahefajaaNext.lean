/- Contracts: l04Next, the reference's: the next order in lexicographic order. -/
import Derived.Test.YtalkcpfahefajaaOrd
import Derived.Test.YtalkcpfahefajaaFill
import Derived.RegionTactic
namespace Go.Proofs.Ytalkcpfahefajaa
open Go.RowKit
set_option linter.unusedVariables false

/-- Where the falling tail begins. -/
def pivN (a : List Int) : Nat → Nat
  | 0 => 0
  | i + 1 => if a.getD i 0 > a.getD (i + 1) 0 then pivN a i else i + 1
/-- The last place that is not less than p, from k downwards. -/
def lstN (a : List Int) (p : Int) : Nat → Nat
  | 0 => 0
  | k + 1 => if a.getD (k + 1) 0 < p then lstN a p k else k + 1
/-- The last n - i numbers, the last one first. -/
def revN (a : List Int) (i : Nat) : Nat → List Int
  | 0 => []
  | d + 1 => revN a i d ++ [a.getD (a.length - 1 - d) 0]
def swN (a : List Int) (i k : Nat) : List Int := (a.set (i - 1) (a.getD k 0)).set k (a.getD (i - 1) 0)
def nextA (a : List Int) (i k : Nat) : List Int := (swN a i k).take i ++ revN (swN a i k) i (a.length - i)
/-- The next order: nothing behind the last one. -/
def nextL (a : List Int) : Option (List Int) := if pivN a (a.length - 1) = 0 then none else some (nextA a (pivN a (a.length - 1)) (lstN a (a.getD (pivN a (a.length - 1) - 1) 0) (a.length - 1)))
/-- The orders of N numbers, each but the last followed by the next. -/
def chainB : List (List Int) → Bool
  | [] => true
  | [a] => (nextL a).isNone
  | a :: b :: r => decide (nextL a = some b) && chainB (b :: r)
def okNext (N : Nat) : Bool := chainB (ords N N) && decide (ords N N ≠ []) && (ords N N).all fun a => decide (∀ k, k < N → lstN a (a.getD (pivN a (a.length - 1) - 1) 0) k ≤ k) && (decide (pivN a (a.length - 1) = 0) || decide (pivN a (a.length - 1) ≤ lstN a (a.getD (pivN a (a.length - 1) - 1) 0) (a.length - 1)))
theorem okNext_all : ∀ N : Fin 6, 1 ≤ N.val → okNext N.val = true := by decide +kernel
theorem first_ord : ∀ N : Fin 6, (ords N.val N.val).head? = some ((List.range N.val).map fun (i : Nat) => (i : Int)) := by decide +kernel
theorem revN_length (a : List Int) (i : Nat) : ∀ d, (revN a i d).length = d
  | 0 => rfl
  | d + 1 => by show (revN a i d ++ [_]).length = d + 1; rw [List.length_append, revN_length a i d]; rfl
theorem Fills.take {w : World} {lo g cap n : Nat} {ys : List Int} (F : Fills tInt lo g cap w n ys) (i : Nat) (hi : i ≤ n) (hc : n ≤ cap) (hm : cap ≤ maxLen) (hx : ∀ y ∈ ys, In64 y) : Ints w (.slice (some ⟨g, 0, none⟩) i cap) (ys.take i) := by
  have hl : (ys.take i).length = i := by rw [List.length_take, F.1]; omega
  refine ⟨some ⟨g, 0, none⟩, cap, by rw [hl], by omega, hm, by simp, ?_⟩
  intro k hk
  refine ⟨g, 0, _, rfl, by rw [Nat.zero_add]; exact F.cell k (by omega), ?_, ?_⟩
  · rw [List.getElem_take]
  · rw [List.getElem_take]; exact hx _ (List.getElem_mem _)
set_option maxHeartbeats 1600000 in
set_option maxRecDepth 100000 in
theorem l04Next_no (v : Value) (a : List Int) (w : World) (h : Ints w v a) (hlen : 1 ≤ a.length) (hlen2 : a.length ≤ 8) (hP : pivN a (a.length - 1) = 0) :
    Calls Try.prog 44 #[v] w fun e w' => e = .returned (.tuple #[.slice none 0 0, .bool false]) ∧ Below w.heap.size w w' := by
  obtain ⟨ao, cap, rfl, hcap, hmax, hnil, hcell⟩ := id h
  have HC := Lib.hid hcell
  unfold maxLen at hmax
  have HI := Lib.hid (fun W (hW : Below w.heap.size w W) => h.keep (Below.keeps hW))
  clear hcell h
  obtain ⟨n1, hn1⟩ : ∃ n1, a.length = n1 + 1 := ⟨a.length - 1, by omega⟩
  have HN1 := Lib.hid hn1
  obtain ⟨b, o, uz, hao, hzz1, hzz2⟩ := HC.out 0 (by omega)
  clear hzz1 hzz2
  subst hao
  have HCC : Hid (∀ k, k ≤ n1 → w.cell? ⟨b, o + k, none⟩ = some (.int .i64 (a.getD k 0))) := by
    intro k hk
    obtain ⟨b', o', u, e1, e2, e3, _⟩ := HC.out k (by rw [HN1.out]; omega)
    simp only [Option.some.injEq, Addr.mk.injEq] at e1
    obtain ⟨rfl, rfl, _⟩ := e1
    rw [e2, e3, List.getD_eq_getElem?_getD, List.getElem?_eq_getElem (by rw [HN1.out]; omega)]; rfl
  rw [hn1] at hcap hlen hlen2 hP ⊢
  clear hn1 HC hnil
  have e11 : n1 + 1 - 1 = n1 := by omega
  rw [e11] at hP
  clear e11
  obtain ⟨P, hPP⟩ : ∃ P, P = 0 := ⟨_, rfl⟩
  have HP : Hid (pivN a n1 = P) := hP.trans hPP.symm
  have HP0 := Lib.hid hPP
  clear hP hPP
  go_enter Try.func44, Try.ntmps44
  go_wp2
  go_loopw [4] (fun q wr => ∃ m : Nat, m ≤ n1 ∧ q = .int .i64 m ∧ Hid (pivN a m = P) ∧ ∃ dn, Hid (wr = w.drewN dn)) (fun q _ => (intOf q).toNat)
  case atStart => exact ⟨n1, Nat.le_refl _, rfl, HP, 0, rfl⟩
  case round =>
    obtain ⟨m, hm9, rfl, HM, dn, HW⟩ := hrel
    have hb9 : Below w.heap.size w wr := by rw [HW.out]; exact below_drewN (Below.refl _ _) _
    by_cases hm0 : m = 0
    · subst hm0
      have hP0 : P = 0 := HM.out.symm
      have hd : decide ((0 : Int) > 0) = false := rfl
      have hd2 : decide (((0 : Nat) : Int) > 0) = false := rfl
      go_wp2
      go_quiet (fail)
      go_wp2
      go_ret2
      exact ⟨rfl, below_drewN hb9 _⟩
    · obtain ⟨j, rfl⟩ : ∃ j, m = j + 1 := ⟨m - 1, by omega⟩
      have k1 : wr.cell? ⟨b, o + j, none⟩ = some (.int .i64 (a.getD j 0)) := Below.keeps hb9 _ _ (HCC.out j (by omega))
      have k2 : wr.cell? ⟨b, o + (j + 1), none⟩ = some (.int .i64 (a.getD (j + 1) 0)) := Below.keeps hb9 _ _ (HCC.out (j + 1) (by omega))
      have hw1 : IntKind.i64.wrap ((j : Int) + 1 - 1) = (j : Int) := by rw [IntWalk.i64_in _ ⟨by omega, by omega⟩]; omega
      have hw2 : IntKind.i64.wrap (j : Int) = (j : Int) := IntWalk.i64_in _ ⟨by omega, by omega⟩
      have hd : decide ((j : Int) + 1 > 0) = true := decide_eq_true (by omega)
      have hd2 : decide (0 < (j : Int) + 1) = true := decide_eq_true (by omega)
      generalize hva : a.getD j 0 = va at *
      generalize hvb : a.getD (j + 1) 0 = vb at *
      have HVA := Lib.hid hva
      have HVB := Lib.hid hvb
      clear hva hvb hm0
      by_cases hg : va > vb
      · have hg2 : decide (va > vb) = true := decide_eq_true hg
        have HM2 : Hid (pivN a j = P) := by
          have h1 := HM.out
          show _ = _
          rw [← h1]
          show _ = if a.getD j 0 > a.getD (j + 1) 0 then _ else _
          rw [HVA.out, HVB.out, if_pos hg]
        clear hg
        go_wp2
        go_quiet (fail)
        go_wp2
        go_roundw
        case rel => exact ⟨j, by omega, by go_num, HM2, _, by show _ = _; rw [HW.out]; exact World.drewN_drewN _ _ _⟩
        case measure => first | (simp [intOf]; done) | (simp [intOf]; omega)
      · have hg2 : decide (va > vb) = false := decide_eq_false hg
        have hPj : P = j + 1 := by
          have h1 := HM.out
          rw [← h1]
          show (if a.getD j 0 > a.getD (j + 1) 0 then _ else _) = _
          rw [HVA.out, HVB.out, if_neg hg]
        clear hg
        go_wp2
        go_quiet (fail)
        go_wp2
        exfalso
        have h5 := HP0.out
        omega
set_option maxHeartbeats 1600000 in
set_option maxRecDepth 100000 in
theorem l04Next_yes (v : Value) (a : List Int) (w : World) (P K : Nat) (p : Int) (h : Ints w v a) (hlen : 1 ≤ a.length) (hlen2 : a.length ≤ 8) (hP : pivN a (a.length - 1) = P) (h1P : 1 ≤ P) (hp : a.getD (P - 1) 0 = p) (hK : lstN a p (a.length - 1) = K) (hPK : P ≤ K) :
    Calls Try.prog 44 #[v] w fun e w' => ∃ u, e = .returned (.tuple #[u, .bool true]) ∧ OwnI tInt w' w.heap.size w'.heap.size u (nextA a P K) ∧ Below w.heap.size w w' := by
  obtain ⟨ao, cap, rfl, hcap, hmax, hnil, hcell⟩ := id h
  have HC := Lib.hid hcell
  unfold maxLen at hmax
  have HI := Lib.hid (fun W (hW : Below w.heap.size w W) => h.keep (Below.keeps hW))
  clear hcell h
  obtain ⟨n1, hn1⟩ : ∃ n1, a.length = n1 + 1 := ⟨a.length - 1, by omega⟩
  have HN1 := Lib.hid hn1
  obtain ⟨b, o, uz, hao, hzz1, hzz2⟩ := HC.out 0 (by omega)
  clear hzz1 hzz2
  subst hao
  have HCC : Hid (∀ k, k ≤ n1 → w.cell? ⟨b, o + k, none⟩ = some (.int .i64 (a.getD k 0))) := by
    intro k hk
    obtain ⟨b', o', u, e1, e2, e3, _⟩ := HC.out k (by rw [HN1.out]; omega)
    simp only [Option.some.injEq, Addr.mk.injEq] at e1
    obtain ⟨rfl, rfl, _⟩ := e1
    rw [e2, e3, List.getD_eq_getElem?_getD, List.getElem?_eq_getElem (by rw [HN1.out]; omega)]; rfl
  rw [hn1] at hcap hlen hlen2 hP hK ⊢
  clear hn1 HC hnil
  have e11 : n1 + 1 - 1 = n1 := by omega
  rw [e11] at hP hK
  clear e11
  have HP := Lib.hid hP
  have HK := Lib.hid hK
  have HPv := Lib.hid hp
  have HKP := Lib.hid hPK
  clear hP hK hp hPK
  go_enter Try.func44, Try.ntmps44
  go_wp2
  go_loopw [4] (fun q wr => ∃ m : Nat, m ≤ n1 ∧ q = .int .i64 m ∧ Hid (pivN a m = P) ∧ ∃ dn, Hid (wr = w.drewN dn)) (fun q _ => (intOf q).toNat)
  case atStart => exact ⟨n1, Nat.le_refl _, rfl, HP, 0, rfl⟩
  case round =>
    obtain ⟨m, hm9, rfl, HM, dn, HW⟩ := hrel
    have hb9 : Below w.heap.size w wr := by rw [HW.out]; exact below_drewN (Below.refl _ _) _
    by_cases hm0 : m = 0
    · subst hm0
      have hP0 : P = 0 := HM.out.symm
      have hd : decide ((0 : Int) > 0) = false := rfl
      have hd2 : decide (((0 : Nat) : Int) > 0) = false := rfl
      go_wp2
      go_quiet (fail)
      go_wp2
      exfalso
      omega
    · obtain ⟨j, rfl⟩ : ∃ j, m = j + 1 := ⟨m - 1, by omega⟩
      have k1 : wr.cell? ⟨b, o + j, none⟩ = some (.int .i64 (a.getD j 0)) := Below.keeps hb9 _ _ (HCC.out j (by omega))
      have k2 : wr.cell? ⟨b, o + (j + 1), none⟩ = some (.int .i64 (a.getD (j + 1) 0)) := Below.keeps hb9 _ _ (HCC.out (j + 1) (by omega))
      have hw1 : IntKind.i64.wrap ((j : Int) + 1 - 1) = (j : Int) := by rw [IntWalk.i64_in _ ⟨by omega, by omega⟩]; omega
      have hw2 : IntKind.i64.wrap (j : Int) = (j : Int) := IntWalk.i64_in _ ⟨by omega, by omega⟩
      have hd : decide ((j : Int) + 1 > 0) = true := decide_eq_true (by omega)
      have hd2 : decide (0 < (j : Int) + 1) = true := decide_eq_true (by omega)
      generalize hva : a.getD j 0 = va at *
      generalize hvb : a.getD (j + 1) 0 = vb at *
      have HVA := Lib.hid hva
      have HVB := Lib.hid hvb
      clear hva hvb hm0
      by_cases hg : va > vb
      · have hg2 : decide (va > vb) = true := decide_eq_true hg
        have HM2 : Hid (pivN a j = P) := by
          have h1 := HM.out
          show _ = _
          rw [← h1]
          show _ = if a.getD j 0 > a.getD (j + 1) 0 then _ else _
          rw [HVA.out, HVB.out, if_pos hg]
        clear hg
        go_wp2
        go_quiet (fail)
        go_wp2
        go_roundw
        case rel => exact ⟨j, by omega, by go_num, HM2, _, by show _ = _; rw [HW.out]; exact World.drewN_drewN _ _ _⟩
        case measure => first | (simp [intOf]; done) | (simp [intOf]; omega)
      · have hg2 : decide (va > vb) = false := decide_eq_false hg
        have hPj : P = j + 1 := by
          have h1 := HM.out
          rw [← h1]
          show (if a.getD j 0 > a.getD (j + 1) 0 then _ else _) = _
          rw [HVA.out, HVB.out, if_neg hg]
        clear hg
        have hd3 : decide ((j : Int) + 1 ≤ 0) = false := decide_eq_false (by omega)
        go_wp2
        go_quiet (fail)
        go_wp2
        obtain rfl : P = j + 1 := hPj
        clear hd3 HM k1 k2 hg2 hd hd2 hw1 hw2 HVA HVB hb9
        have hj0 : j + 1 ≤ n1 := hm9
        have hbw : Below w.heap.size w (wr.drewN nq) := by rw [HW.out]; exact below_drewN (below_drewN (Below.refl _ _) _) _
        obtain ⟨w2, HW2⟩ : ∃ W, Hid (W = wr.drewN nq) := ⟨_, rfl⟩
        rw [← HW2.out] at hbw
        rw [← HW2.out]
        clear HW2 HW
        have HPV : Hid (a.getD (j + 1 - 1) 0 = p) := HPv
        go_loopw [5] (fun q wr => ∃ m : Nat, m ≤ n1 ∧ q = .int .i64 m ∧ Hid (lstN a p m = K) ∧ Below w.heap.size w wr) (fun q _ => (intOf q).toNat)
        case atStart => exact ⟨n1, Nat.le_refl _, rfl, HK, hbw⟩
        case round =>
          clear hbw hm9
          obtain ⟨m, hm9, rfl, HM, hbw⟩ := hrel
          have k1 : wr.cell? ⟨b, o + j, none⟩ = some (.int .i64 p) := by
            have := Below.keeps hbw _ _ (HCC.out j (by omega))
            rw [← HPV.out]; exact this
          have k2 : wr.cell? ⟨b, o + m, none⟩ = some (.int .i64 (a.getD m 0)) := Below.keeps hbw _ _ (HCC.out m hm9)
          have hw1 : IntKind.i64.wrap ((j : Int) + 1 - 1) = (j : Int) := by rw [IntWalk.i64_in _ ⟨by omega, by omega⟩]; omega
          have hw2 : IntKind.i64.wrap (j : Int) = (j : Int) := IntWalk.i64_in _ ⟨by omega, by omega⟩
          generalize hva : a.getD m 0 = va at *
          have HVA := Lib.hid hva
          clear hva
          by_cases hg : va < p
          · have hg2 : decide (va < p) = true := decide_eq_true hg
            obtain ⟨m', rfl⟩ : ∃ m', m = m' + 1 := ⟨m - 1, by
              have h1 := HM.out
              have h2 := HKP.out
              rcases Nat.eq_zero_or_pos m with h0 | h0
              · subst h0
                have h3 : lstN a p 0 = 0 := rfl
                omega
              · omega⟩
            have HM2 : Hid (lstN a p m' = K) := by
              have h1 := HM.out
              show _ = _
              rw [← h1]
              show _ = if a.getD (m' + 1) 0 < p then _ else _
              rw [HVA.out, if_pos hg]
            clear hg
            go_wp2
            go_quiet (fail)
            go_wp2
            go_roundw
            case rel => exact ⟨m', by omega, by go_num, HM2, below_drewN hbw _⟩
            case measure => first | (simp [intOf]; done) | (simp [intOf]; omega)
          · have hg2 : decide (va < p) = false := decide_eq_false hg
            have hKm : K = m := by
              have h1 := HM.out
              rw [← h1]
              cases m with
              | zero => rfl
              | succ m' =>
                show (if a.getD (m' + 1) 0 < p then _ else _) = _
                rw [HVA.out, if_neg hg]
            clear hg
            obtain rfl : K = m := hKm
            go_wp2
            go_quiet (fail)
            clear HM HVA hg2 k1 k2 hw1 hw2
            have hPK : j + 1 ≤ K := HKP.out
            have hb3 : Below w.heap.size w (wr.drewN nq) := below_drewN hbw _
            obtain ⟨w3, HW3⟩ : ∃ W, Hid (W = wr.drewN nq) := ⟨_, rfl⟩
            rw [← HW3.out] at hb3
            rw [← HW3.out]
            clear HW3 hbw
            have hs3 := hb3.size
            have HI2 : Hid (∀ W, Below w.heap.size w W → Ints W (.slice (some ⟨b, o, none⟩) (n1 + 1) cap) a) := by have := HI.out; rw [HN1.out] at this; exact this
            go_wp2_with (at_builtin; refine wpList_appendL _ rfl _ _ 34 rfl 3 Try.underlying34 infoInt w.heap.size _ _ _ [] a rfl (OwnI.lit0 3 w3 w.heap.size hs3) rfl (HI2.out _ (hb3.alloc hs3 _)) (by rw [HN1.out]; omega) (by simp [HN1.out]; omega) (by simp; omega) ?_)
            intro v' w4 R1 hg hat
            have R1 : OwnI tInt w4 w.heap.size w4.heap.size v' a := R1
            have b4 := below_app (hb3.alloc hs3 _) (OwnI.lit0 3 w3 w.heap.size hs3).1 hg (Nat.le_refl _) (by simp; omega)
            clear hg hat hb3
            obtain ⟨g, gc, rfl, hg1, hg2, hg3, hg4, hg5, F0⟩ := R1.fills (by rw [HN1.out]; omega)
            have HX := Lib.hid R1.2
            clear R1
            unfold maxLen at hg2
            rw [HN1.out] at hg1 F0 ⊢
            have hbw : b < w.heap.size := World.block_lt_of_cell? w _ (HCC.out 0 (by omega))
            have hbg : b ≠ g := by omega
            have k1 : w4.cell? ⟨b, o + j, none⟩ = some (.int .i64 p) := by
              have := Below.keeps b4 _ _ (HCC.out j (by omega))
              rw [← HPV.out]; exact this
            have k2 : w4.cell? ⟨b, o + K, none⟩ = some (.int .i64 (a.getD K 0)) := Below.keeps b4 _ _ (HCC.out K hm9)
            have hw1 : IntKind.i64.wrap ((j : Int) + 1 - 1) = (j : Int) := by rw [IntWalk.i64_in _ ⟨by omega, by omega⟩]; omega
            have hw2 : IntKind.i64.wrap (j : Int) = (j : Int) := IntWalk.i64_in _ ⟨by omega, by omega⟩
            obtain ⟨q, HQ⟩ : ∃ q, Hid (a.getD K 0 = q) := ⟨_, rfl⟩
            rw [HQ.out] at k2
            have f1 := F0.frozen j
            have e1 := F0.getD j (by omega)
            have F1 := F0.set j q
            have f2 := F1.frozen K
            have e2 := F1.getD K (by omega)
            have F2 := F1.set K p
            have HS : Hid ((a.set j q).set K p = swN a (j + 1) K) := by
              show _ = _
              unfold swN
              rw [← HQ.out, ← HPV.out]; rfl
            rw [HS.out] at F2
            have b5 : Below w.heap.size w (w4.setCell ⟨g, j, none⟩ (.int .i64 q)) := b4.setCell hg3 _
            have b6 : Below w.heap.size w ((w4.setCell ⟨g, j, none⟩ (.int .i64 q)).setCell ⟨g, K, none⟩ (.int .i64 p)) := b5.setCell hg3 _
            have hpin : In64 p := by rw [← HPV.out]; exact in64_getD HX.out _
            have hqin : In64 q := by rw [← HQ.out]; exact in64_getD HX.out _
            have HY : Hid (∀ y ∈ swN a (j + 1) K, In64 y) := by
              show ∀ y ∈ swN a (j + 1) K, In64 y
              rw [← HS.out]
              intro y hy
              rcases List.mem_or_eq_of_mem_set hy with hy | hy
              · rcases List.mem_or_eq_of_mem_set hy with hy | hy
                · exact HX.out y hy
                · subst hy; exact hqin
              · subst hy; exact hpin
            have hs6 : g + 1 ≤ ((w4.setCell ⟨g, j, none⟩ (.int .i64 q)).setCell ⟨g, K, none⟩ (.int .i64 p)).heap.size := by simp only [size_setCell]; omega
            have hs7 := b6.size
            clear F0 F1 b4 b5 HX
            go_wp2
            go_loopw [7, 8] (fun r i wr => ∃ c : Nat, j ≤ c ∧ c ≤ n1 ∧ i = .int .i64 c ∧ OwnI tInt wr (g + 1) wr.heap.size r (revN (swN a (j + 1) K) (j + 1) (n1 - c)) ∧ Fills tInt w.heap.size g gc wr (n1 + 1) (swN a (j + 1) K) ∧ Below w.heap.size w wr ∧ g + 1 ≤ wr.heap.size) (fun _ i _ => (intOf i).toNat)
            case atStart =>
              refine ⟨n1, by omega, Nat.le_refl _, rfl, ?_, F2.alloc _, b6.alloc hs7 _, Nat.le_trans hs6 (by simp)⟩
              rw [Nat.sub_self]
              have h9 := OwnI.lit0 3 _ (g + 1) hs6
              simp only [size_setCell] at h9 ⊢
              exact h9
            case round =>
              clear b6 F2 f1 f2 k1 k2 e1 e2
              obtain ⟨c, hc1, hc2, rfl, hown, F, hb, hs⟩ := hrel
              have hbs := hb.size
              by_cases hlt : j + 1 ≤ c
              · obtain ⟨c', rfl⟩ : ∃ c', c = c' + 1 := ⟨c - 1, by omega⟩
                have e1 := F.getD (c' + 1) (by omega)
                obtain ⟨y, HYY⟩ : ∃ y, Hid ((swN a (j + 1) K).getD (c' + 1) 0 = y) := ⟨_, rfl⟩
                rw [HYY.out] at e1
                have hyin : In64 y := by rw [← HYY.out]; exact in64_getD HY.out _
                have HR : Hid (revN (swN a (j + 1) K) (j + 1) (n1 - c') = revN (swN a (j + 1) K) (j + 1) (n1 - (c' + 1)) ++ [y]) := by
                  show _ = _
                  rw [show n1 - c' = (n1 - (c' + 1)) + 1 by omega]
                  show _ ++ [_] = _
                  rw [F.1, show n1 + 1 - 1 - (n1 - (c' + 1)) = c' + 1 by omega, HYY.out]
                have L : (revN (swN a (j + 1) K) (j + 1) (n1 - (c' + 1))).length ≤ 8 := by rw [revN_length]; omega
                have hd5 : decide ((c' : Int) + 1 ≥ (j : Int) + 1) = true := decide_eq_true (by omega)
                have hd6 : decide ((j : Int) + 1 ≤ (c' : Int) + 1) = true := decide_eq_true (by omega)
                have hw3 : IntKind.i64.wrap ((c' : Int) + 1 - 1) = (c' : Int) := by rw [IntWalk.i64_in _ ⟨by omega, by omega⟩]; omega
                have hw4 : IntKind.i64.wrap (c' : Int) = (c' : Int) := IntWalk.i64_in _ ⟨by omega, by omega⟩
                go_wp2_with (at_builtin; refine wpList_append1 _ rfl _ _ 34 rfl 3 (.int .i64 0) 8 Try.underlying34 infoInt (by decide) rfl (g + 1) wr.heap.size _ _ rfl (hown.1.alloc _) ⟨wr.heap.size, 0, none⟩ 1 (.int .i64 y) rfl (cell_alloc0 _ _ _) rfl ?_ ?_ ?_)
                · simp only [List.length_map]; omega
                · simp; omega
                · intro v' w5 hown' hg
                  have R1 := OwnI.snoc hown' hown.2 hyin
                  rw [← HR.out] at R1
                  have hbb : Below (g + 1) (wr.alloc (.cells #[.int .i64 y] 3)) w5 := below_app (Below.refl (g + 1) _) (hown.1.alloc _) hg (Nat.le_refl _) (by simp; omega)
                  have F5 := (F.alloc (.cells #[.int .i64 y] 3)).below hbb (Nat.lt_succ_self _)
                  have b5 := (hb.alloc hbs (.cells #[.int .i64 y] 3)).trans (hbb.mono (by omega))
                  have hs5 := hbb.size
                  simp at hs5
                  clear hown hown' hg hbb F hb
                  go_wp2
                  go_roundw
                  case rel => exact ⟨c', by omega, by omega, by go_num, R1, F5, b5, by omega⟩
                  case measure => first | (simp [intOf]; done) | (simp [intOf]; omega)
              · obtain rfl : c = j := by omega
                have hd5 : decide ((c : Int) ≥ (c : Int) + 1) = false := decide_eq_false (by omega)
                have hd6 : decide ((c : Int) + 1 ≤ (c : Int)) = false := decide_eq_false (by omega)
                have hT : Hid (Ints wr (.slice (some ⟨g, 0, none⟩) (c + 1) gc) ((swN a (c + 1) K).take (c + 1))) := Fills.take F (c + 1) (by omega) (by omega) (by unfold maxLen; omega) HY.out
                have hTl : ((swN a (c + 1) K).take (c + 1)).length = c + 1 := by rw [List.length_take, F.1]; omega
                have hRl : (revN (swN a (c + 1) K) (c + 1) (n1 - c)).length = n1 - c := revN_length _ _ _
                have hbR := (Below.refl wr.heap.size wr).alloc (Nat.le_refl _) (.cells #[] 3)
                go_wp2_with (at_builtin; refine wpList_appendL _ rfl _ _ 34 rfl 3 Try.underlying34 infoInt wr.heap.size _ _ _ [] _ rfl (OwnI.lit0 3 wr wr.heap.size (Nat.le_refl _)) rfl (hT.out.keep (Below.keeps hbR)) (by rw [hTl]; omega) (by rw [hTl]; simp; omega) (by simp) ?_)
                intro v' w5 R1 hg hat
                have R1 : OwnI tInt w5 wr.heap.size w5.heap.size v' ((swN a (c + 1) K).take (c + 1)) := R1
                have bb5 := below_app hbR (OwnI.lit0 3 wr wr.heap.size (Nat.le_refl _)).1 hg (Nat.le_refl _) (by simp)
                have hr5 := hown.ints.keep (Below.keeps bb5)
                clear hg hat
                go_wp2_with (at_builtin; refine wpList_appendL _ rfl _ _ 34 rfl 3 Try.underlying34 infoInt wr.heap.size _ _ _ _ _ rfl R1 rfl hr5 (by rw [hRl]; omega) (by rw [hTl, hRl]; omega) (bb5.size) ?_)
                intro v2 w6 R2 hg hat
                have bb6 := below_app bb5 R1.1 hg (Nat.le_refl _) bb5.size
                clear hg hat
                go_wp2
                go_ret2
                have HN : nextA a (c + 1) K = (swN a (c + 1) K).take (c + 1) ++ revN (swN a (c + 1) K) (c + 1) (n1 - c) := by
                  unfold nextA; rw [HN1.out, show n1 + 1 - (c + 1) = n1 - c by omega]
                rw [HN]
                exact ⟨_, rfl, R2.wide hbs (Nat.le_refl _), hb.trans (bb6.mono hbs)⟩
end Go.Proofs.Ytalkcpfahefajaa
