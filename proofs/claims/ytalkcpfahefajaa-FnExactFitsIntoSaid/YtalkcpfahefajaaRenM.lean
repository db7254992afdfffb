/- Contracts: RenamedMasks, the program's and the reference's. -/
import Derived.Test.YtalkcpfahefajaaAfter
namespace Go.Proofs.Ytalkcpfahefajaa
open Go.RowKit
set_option linter.unusedVariables false

/-- A mask with other names of its wires, the first k wires of it. -/
def renTo (ns : List Int) (m : Nat) : Nat → Nat
  | 0 => 0
  | k + 1 => renTo ns m k + (if m / 2 ^ k % 2 = 1 then 2 ^ (ns.getD k 0).toNat else 0)
def renM (ns : List Int) (m : Nat) : Nat := renTo ns m ns.length
theorem renTo_yes {ns : List Int} {m k a : Nat} (h : m / 2 ^ k % 2 = 1) (ha : ns.getD k 0 = (a : Int)) : renTo ns m (k + 1) = renTo ns m k + 2 ^ a := by
  rw [renTo, if_pos h, ha, Int.toNat_natCast]
theorem renTo_no {ns : List Int} {m k : Nat} (h : m / 2 ^ k % 2 = 0) : renTo ns m (k + 1) = renTo ns m k := by
  rw [renTo, if_neg (by omega)]; rfl
theorem add_bit (N x a : Nat) (hN : N ≤ 8) (hx : x < 2 ^ N) (ha : a < N) (h0 : x / 2 ^ a % 2 = 0) : x + 2 ^ a < 2 ^ N := by
  have H : ∀ N : Fin 9, ∀ m : Fin 256, m.val < 2 ^ N.val → ∀ k : Fin 8, k.val < N.val → m.val / 2 ^ k.val % 2 = 0 → m.val + 2 ^ k.val < 2 ^ N.val := by decide +kernel
  have h8 : (2 : Nat) ^ N ≤ 256 := pow256n hN
  exact H ⟨N, by omega⟩ ⟨x, by omega⟩ hx ⟨a, by omega⟩ ha h0
theorem add_bit2 (x a b : Nat) (hx : x < 256) (ha : a < 8) (hb : b < 8) (hab : a ≠ b) (h0 : x / 2 ^ a % 2 = 0) (h1 : x / 2 ^ b % 2 = 0) : (x + 2 ^ a) / 2 ^ b % 2 = 0 := by
  have H : ∀ x : Fin 256, ∀ a b : Fin 8, a ≠ b → x.val / 2 ^ a.val % 2 = 0 → x.val / 2 ^ b.val % 2 = 0 → (x.val + 2 ^ a.val) / 2 ^ b.val % 2 = 0 := by decide +kernel
  exact H ⟨x, hx⟩ ⟨a, ha⟩ ⟨b, hb⟩ (fun e => hab (by simpa using e)) h0 h1
theorem PermP.at {N : Nat} {ns : List Int} (h : PermP N ns) (k : Nat) (hk : k < ns.length) : ∃ a : Nat, ns.getD k 0 = (a : Int) ∧ ns[k] = (a : Int) ∧ a < N := by
  have := h.2.1 _ (List.getElem_mem hk)
  refine ⟨ns[k].toNat, ?_, by omega, by omega⟩
  rw [List.getD_eq_getElem?_getD, List.getElem?_eq_getElem hk]
  show ns[k] = _
  omega
/-- What is known of a mask's renaming under way: small, and no bit that has not been named. -/
theorem renTo_ok {N : Nat} {ns : List Int} (hN : N ≤ 8) (h : PermP N ns) (m : Nat) (k : Nat) : k ≤ ns.length → renTo ns m k < 2 ^ N ∧ ∀ b : Nat, b < 8 → ¬ (b : Int) ∈ ns.take k → renTo ns m k / 2 ^ b % 2 = 0 := by
  induction k with
  | zero =>
    intro _
    refine ⟨by show 0 < _; exact Nat.pos_of_ne_zero (by simp), fun b _ _ => ?_⟩
    show 0 / 2 ^ b % 2 = 0
    simp
  | succ k ih =>
    intro hk
    obtain ⟨h1, h2⟩ := ih (by omega)
    obtain ⟨a, ha, ha', haN⟩ := h.at k (by omega)
    have hna : ¬ (a : Int) ∈ ns.take k := by rw [← ha']; exact h.no_twice (by omega)
    have ha0 := h2 a (by omega) hna
    have h8 : (2 : Nat) ^ N ≤ 256 := pow256n hN
    rcases Nat.mod_two_eq_zero_or_one (m / 2 ^ k) with e | e
    · rw [renTo_no e]
      refine ⟨h1, fun b hb hm => h2 b hb fun hx => hm ?_⟩
      rw [take_snocI ns k (by omega)]
      exact List.mem_append_left _ hx
    · rw [renTo_yes e ha]
      refine ⟨add_bit N _ a hN h1 haN ha0, fun b hb hm => ?_⟩
      rw [take_snocI ns k (by omega)] at hm
      refine add_bit2 _ a b (by omega) (by omega) hb (fun e => hm ?_) ha0 (h2 b hb fun hx => hm (List.mem_append_left _ hx))
      subst e
      rw [ha']
      exact List.mem_append_right _ (List.mem_singleton.2 rfl)
theorem renM_lt {N : Nat} {ns : List Int} (hN : N ≤ 8) (h : PermP N ns) (m : Nat) : renM ns m < 2 ^ N := (renTo_ok hN h m ns.length (Nat.le_refl _)).1
theorem or_bit (x a : Nat) (hx : x < 256) (ha : a < 8) (h : x / 2 ^ a % 2 = 0) : Go.bits BinOp.or IntKind.i64 (x : Int) (2 ^ a) = (x : Int) + 2 ^ a := by
  have H : ∀ x : Fin 256, ∀ a : Fin 8, x.val / 2 ^ a.val % 2 = 0 → Go.bits BinOp.or IntKind.i64 (x.val : Int) (2 ^ a.val) = (x.val : Int) + 2 ^ a.val := by decide +kernel
  exact H ⟨x, hx⟩ ⟨a, ha⟩ h
theorem or_zero (x : Nat) (hx : x < 256) : Go.bits BinOp.or IntKind.i64 (x : Int) 0 = (x : Int) := by
  have H : ∀ x : Fin 256, Go.bits BinOp.or IntKind.i64 (x.val : Int) 0 = (x.val : Int) := by decide +kernel
  exact H ⟨x, hx⟩

set_option maxHeartbeats 1600000 in
set_option maxRecDepth 100000 in
theorem l04Rename (N : Nat) (vz vn : Value) (xs ns : List Int) (w : World) (hI : Ints w vz xs) (hl : xs.length ≤ 1048576) (hx : InM (2 ^ N) xs) (hN : 1 ≤ N ∧ N ≤ 8) (hJ : Ints w vn ns) (hP : PermP N ns) :
    Calls Try.prog 43 #[.int .i64 N, vz, vn] w (GivesI w (imgL (2 ^ N) (mapF (renM ns) xs))) := by
  obtain ⟨ao, cap, rfl, hcap, hmax, hnil, hcell⟩ := hI
  obtain ⟨an, capn, rfl, hcapn, hmaxn, hniln, hcelln⟩ := hJ
  have HC := Lib.hid hcell; clear hcell
  have HCN := Lib.hid hcelln; clear hcelln
  have HX := Lib.hid hx; clear hx
  have HP := Lib.hid hP
  have hnl : ns.length ≤ 8 := by have := hP.1; omega
  have hN8 := hN.2
  clear hP
  unfold maxLen at hmax hmaxn
  obtain ⟨M, HM⟩ : ∃ M : Nat, Hid (2 ^ N = M) := ⟨_, rfl⟩
  have hMc : (2 : Int) ^ N = (M : Int) := by rw [← HM.out]; simp
  have hM8 : M ≤ 256 := by rw [← HM.out]; exact pow256n hN8
  rw [HM.out] at HX ⊢
  have HB : Hid (∀ m, renM ns m < M) := fun m => by
    have := renM_lt hN8 HP.out m; rwa [HM.out] at this
  have HT : Hid (∀ m k, k ≤ ns.length → renTo ns m k < M) := fun m k hk => by
    have := (renTo_ok hN8 HP.out m k hk).1; rwa [HM.out] at this
  obtain ⟨i0, hi, hz0, hz1, hz2⟩ := info_parts infoBool
  have hmin : min N 64 = N := by omega
  go_enter Try.func43, Try.ntmps43
  go_wp2_with (at_make; refine wpList_make_full _ rfl _ _ 58 rfl w.heap.size 4 i0 (.bool false) 1 Try.underlying58 hi hz0 hz1 .i64 .i64 _ _ M rfl rfl rfl rfl ?_ ?_ ?_ ?_)
  · rw [hz2]; omega
  · unfold maxLen; omega
  · exact Nat.le_refl _
  intro w1 hown hg
  have F0 : FillsV tBool w.heap.size w.heap.size M w1 M (seenL M (mapF (renM ns) xs) 0) := by rw [seenL_zero]; exact ⟨by simp, by simpa [toList_madeCells_one] using hown⟩
  have hb0 : Below w.heap.size w w1 := (Below.refl _ w).grown hg (Nat.le_refl _) (fun k h => by cases h)
  have hs0 : w.heap.size + 1 ≤ w1.heap.size := (hown.lt w.heap.size rfl).2
  clear hown hg hi hz0 hz1 hz2
  go_wp2
  go_loopw [21] (fun i wr => ∃ k : Nat, k ≤ xs.length ∧ i = .int .i64 k ∧ Hid (FillsV tBool w.heap.size w.heap.size M wr M (seenL M (mapF (renM ns) xs) k)) ∧ Below w.heap.size w wr ∧ w.heap.size + 1 ≤ wr.heap.size) (fun i _ => xs.length - (intOf i).toNat)
  case atStart => exact ⟨0, Nat.zero_le _, rfl, Lib.hid F0, hb0, hs0⟩
  case round =>
    obtain ⟨k, hk, rfl, HFl, hb, hs⟩ := hrel
    by_cases hlt : k < xs.length
    · obtain ⟨b, q, u, rfl, hu, rfl, hwf⟩ := HC.out k hlt
      have c1 : wr.cell? ⟨b, q + k, none⟩ = some (.int .i64 xs[k]) := Below.keeps hb _ _ hu
      have hbd := HX.out _ (List.getElem_mem hlt)
      have hyk := mapF_get (renM ns) xs k hlt (by rw [mapF_length]; exact hlt)
      obtain ⟨m, HMm⟩ : ∃ m : Nat, Hid (xs[k] = (m : Int)) := ⟨xs[k].toNat, by show _ = _; omega⟩
      rw [HMm.out, Int.toNat_natCast] at hyk
      rw [HMm.out] at c1 hbd
      have hbm := HB.out m
      clear hu hwf HMm
      have HYk := Lib.hid hyk
      clear hyk
      have hm8 : m < 256 := by omega
      go_wp2
      go_loop [10, 27] (fun x i => ∃ j : Nat, j ≤ ns.length ∧ i = .int .i64 j ∧ x = .int .i64 (renTo ns m j : Nat)) (fun _ i => ns.length - (intOf i).toNat)
      case atStart => exact ⟨0, Nat.zero_le _, rfl, rfl⟩
      case round =>
        obtain ⟨j, hj, rfl, rfl⟩ := hrel
        by_cases hlj : j < ns.length
        · obtain ⟨b2, q2, u2, rfl, hu2, rfl, hwf2⟩ := HCN.out j hlj
          obtain ⟨a, ha, ha', haN⟩ := HP.out.at j hlj
          rw [ha'] at hu2
          have c2 := Below.keeps hb _ _ hu2
          have hr := HT.out m j (by omega)
          have hr2 : renTo ns m j + 2 ^ a ≤ 512 := by
            have : (2 : Nat) ^ a ≤ 256 := pow256n (by omega)
            omega
          have hbe := bit_eq m j hm8 (by omega)
          have hpa := pow_le8 a (by omega)
          have hpa1 := pow_pos a
          have hma : min a 64 = a := by omega
          have hmj : min j 64 = j := by omega
          clear hu2 hwf2 ha'
          rcases Nat.mod_two_eq_zero_or_one (m / 2 ^ j) with e | e
          · have HE := Lib.hid (renTo_no (ns := ns) e)
            rw [e] at hbe
            have hbe' : Go.bits BinOp.and IntKind.i64 ((m : Int) / 2 ^ j) 1 = 0 := hbe
            clear hbe e ha
            go_wp2
            go_round
            case rel => exact ⟨j + 1, by omega, by go_num, by rw [HE.out]⟩
            case measure => simp [intOf]; omega
          · have HE := Lib.hid (renTo_yes (ns := ns) e ha)
            rw [e] at hbe
            have hbe' : Go.bits BinOp.and IntKind.i64 ((m : Int) / 2 ^ j) 1 = 1 := hbe
            clear hbe e ha
            generalize renTo ns m j = r at *
            have hr3 : ((r + 2 ^ a : Nat) : Int) = (r : Int) + 2 ^ a := by simp
            have HR3 := Lib.hid hr3
            clear hr3
            go_wp2
            go_round
            case rel => exact ⟨j + 1, by omega, by go_num, by rw [HE.out, HR3.out]⟩
            case measure => simp [intOf]; omega
        · obtain rfl : j = ns.length := by omega
          have F := HFl.out
          have HSet := Lib.hid (seenL_set M (mapF (renM ns) xs) k (renM ns m) (by rw [mapF_length]; exact hlt) HYk.out)
          have HRM : Hid (renTo ns m ns.length = renM ns m) := rfl
          rw [HRM.out]
          generalize renM ns m = r at *
          obtain ⟨z, cz, hz⟩ := F.cell r hbm
          have cf := F.frozen r
          have hgs : w.heap.size < wr.heap.size := by omega
          have R1 := F.set r (.bool true)
          rw [HSet.out] at R1
          have R9 := Lib.hid R1
          have R3 : Below w.heap.size w (wr.setCell ⟨w.heap.size, r, none⟩ (.bool true)) := hb.setCell (Nat.le_refl _) _
          have R4 : w.heap.size + 1 ≤ (wr.setCell ⟨w.heap.size, r, none⟩ (.bool true)).heap.size := by rw [size_setCell]; omega
          clear F HFl R1 HSet HYk
          go_wp2
          go_roundw
          case rel => exact ⟨k + 1, by omega, by go_num, R9, R3, R4⟩
          case measure => first | (simp [intOf]; done) | (simp [intOf]; omega)
    · have hk' : k = xs.length := by omega
      subst hk'
      have HG : Hid (∀ j, j < M → (seenL M (mapF (renM ns) xs) xs.length)[j]? = some (.bool (decide ((j : Int) ∈ mapF (renM ns) xs)))) := fun j hj => by
        rw [seenL_get _ _ _ _ hj, List.take_of_length_le (by rw [mapF_length]; exact Nat.le_refl _)]
      generalize mapF (renM ns) xs = ys at *
      obtain ⟨wo, rfl⟩ : ∃ wo : World, wo = wr := ⟨_, rfl⟩
      go_wp2
      obtain ⟨W2, HW2⟩ : ∃ W, Hid (W = wo.alloc (.cells #[] 3)) := ⟨_, rfl⟩
      have hO2 : OwnI tInt W2 wo.heap.size W2.heap.size (.slice (some ⟨wo.heap.size, 0, none⟩) 0 0) (imgL 0 ys) := by rw [HW2.out]; exact OwnI.lit0 3 wo wo.heap.size (Nat.le_refl _)
      have bW2 : Below wo.heap.size wo W2 := by rw [HW2.out]; exact (Below.refl _ _).alloc (Nat.le_refl _) _
      have hs2 := bW2.size
      rw [← HW2.out]
      clear HW2
      go_loopw [13, 49] (fun o i wt => ∃ j : Nat, j ≤ M ∧ i = .int .i64 j ∧ Hid (OwnI tInt wt wo.heap.size wt.heap.size o (imgL j ys)) ∧ Below wo.heap.size wo wt) (fun _ i _ => M - (intOf i).toNat)
      case atStart => exact ⟨0, Nat.zero_le _, rfl, Lib.hid hO2, bW2⟩
      case round =>
        clear hO2 bW2 hs2
        obtain ⟨j, hj, rfl, HO, hbt⟩ := hrel
        have hst := hbt.size
        have hb3 := hb.trans (hbt.mono (by omega))
        by_cases hlt : j < M
        · have F := HFl.out.block (hbt.block _ (by omega))
          obtain ⟨z, cz, hz⟩ := F.cell j hlt
          rw [HG.out j hlt] at hz
          simp only [Option.some.injEq] at hz
          have hl9 := imgL_le j ys
          clear F
          rcases Classical.em ((j : Int) ∈ ys) with hm | hm
          · rw [decide_eq_true hm] at hz
            subst hz
            have HN := Lib.hid (imgL_yes hm)
            clear hm
            have hown := HO.out
            go_wp2_with (at_builtin; refine wpList_append1_at _ rfl _ _ 34 rfl 3 (.int .i64 0) 8 Try.underlying34 infoInt (by decide) rfl wo.heap.size wr.heap.size _ _ rfl (hown.1.alloc _) ⟨wr.heap.size, 0, none⟩ 1 (.int .i64 j) rfl (cell_alloc0 _ _ _) rfl ?_ ?_ ?_)
            · simp; omega
            · simp; omega
            · intro v' w3 hown' hgr hat
              have R1 := OwnI.snoc hown' hown.2 (show In64 (j : Int) from WalkArith.wf_i64 (by omega))
              rw [← HN.out] at R1
              have R9 := Lib.hid R1
              have R2 := below_app (hbt.alloc hst _) (hown.1.alloc _) hgr (Nat.le_refl _) (by simp; omega)
              clear hown hown' hgr hat R1
              go_wp2
              go_roundw
              case rel => exact ⟨j + 1, by omega, by go_num, R9, R2⟩
              case measure => simp [intOf]; omega
          · rw [decide_eq_false hm] at hz
            subst hz
            have R9 : Hid (OwnI tInt wr wo.heap.size wr.heap.size u13 (imgL (j + 1) ys)) := by rw [imgL_no hm]; exact HO
            clear hm
            go_wp2
            go_roundw
            case rel => exact ⟨j + 1, by omega, by go_num, R9, hbt⟩
            case measure => simp [intOf]; omega
        · have hj' : j = M := by omega
          subst hj'
          have hR := HO.out.wide (lo' := w.heap.size) (by omega) (Nat.le_refl _)
          clear HO
          go_wp2
          go_ret
          exact ⟨_, rfl, hR, hb3⟩

def RnmP (n : Int) (xs ns : List Int) : Prop := MasksP n xs ∧ PermP n.toNat ns
noncomputable def rmN (n : Int) (xs ns : List Int) : List Int := onlyI (RnmP n xs ns) (imgL (2 ^ n.toNat) (mapF (renM ns) xs))
theorem rmN_le (n : Int) (xs ns : List Int) : (rmN n xs ns).length ≤ 256 := onlyI_le fun h => by
  have h1 : n ≤ 8 := by have := h.1.1; unfold InP at this; omega
  exact Nat.le_trans (imgL_le _ _) (pow256 h1)
set_option maxHeartbeats 1600000 in
set_option maxRecDepth 100000 in
theorem renMC (q : Nat) (N : Nat) (vn : Value) (ns : List Int) (m : Nat) (W : World) (hc : W.cell? ⟨q, 0, none⟩ = some vn) (hJ : Ints W vn ns) (hP : PermP N ns) (hN : 1 ≤ N ∧ N ≤ 8) (hm : m < 256) :
    Calls Try.prog 58 #[.int .i64 (m : Int), .pointer (some ⟨q, 0, none⟩)] W (GivesN W (renM ns m : Nat)) := by
  obtain ⟨an, capn, rfl, hcapn, hmaxn, hniln, hcelln⟩ := hJ
  have HCN := Lib.hid hcelln; clear hcelln
  have HP := Lib.hid hP
  have hnl : ns.length ≤ 8 := by have := hP.1; omega
  have hN8 := hN.2
  clear hP
  unfold maxLen at hmaxn
  have HRM : Hid (renTo ns m ns.length = renM ns m) := rfl
  go_enter Try.func58, Try.ntmps58
  go_wp2
  go_loop [4, 9] (fun x i => ∃ j : Nat, j ≤ ns.length ∧ i = .int .i64 j ∧ x = .int .i64 (renTo ns m j : Nat)) (fun _ i => ns.length - (intOf i).toNat)
  case atStart => exact ⟨0, Nat.zero_le _, rfl, rfl⟩
  case round =>
    obtain ⟨j, hj, rfl, rfl⟩ := hrel
    by_cases hlj : j < ns.length
    · obtain ⟨b2, q2, u2, rfl, hu2, rfl, hwf2⟩ := HCN.out j hlj
      obtain ⟨a, ha, ha', haN⟩ := HP.out.at j hlj
      rw [ha'] at hu2
      have hro := renTo_ok hN8 HP.out m j (by omega)
      have hra := hro.2 a (by omega) (by rw [← ha']; exact HP.out.no_twice hlj)
      have h8 : (2 : Nat) ^ N ≤ 256 := pow256n hN8
      have hr := hro.1
      have hbe := bit_eq m j hm (by omega)
      have hpa := pow_le8 a (by omega)
      have hpa1 := pow_pos a
      have hma : min a 64 = a := by omega
      have hmj : min j 64 = j := by omega
      have hr256 : renTo ns m j < 256 := by omega
      clear hwf2 ha' hro h8 hr
      rcases Nat.mod_two_eq_zero_or_one (m / 2 ^ j) with e | e
      · have HE := Lib.hid (renTo_no (ns := ns) e)
        rw [e] at hbe
        have hbe' : Go.bits BinOp.and IntKind.i64 ((m : Int) / 2 ^ j) 1 = 0 := hbe
        have ho := or_zero (renTo ns m j) hr256
        clear hbe e ha hra
        generalize renTo ns m j = r at *
        go_wp2
        go_round
        case rel => exact ⟨j + 1, by omega, by go_num, by rw [HE.out]⟩
        case measure => simp [intOf]; omega
      · have HE := Lib.hid (renTo_yes (ns := ns) e ha)
        rw [e] at hbe
        have hbe' : Go.bits BinOp.and IntKind.i64 ((m : Int) / 2 ^ j) 1 = 1 := hbe
        have ho := or_bit (renTo ns m j) a hr256 (by omega) hra
        have hr3 : ((renTo ns m j + 2 ^ a : Nat) : Int) = (renTo ns m j : Int) + 2 ^ a := by simp
        have HR3 := Lib.hid hr3
        clear hbe e ha hra hr3
        generalize renTo ns m j = r at *
        go_wp2
        go_round
        case rel => exact ⟨j + 1, by omega, by go_num, by rw [HE.out, HR3.out]⟩
        case measure => simp [intOf]; omega
    · obtain rfl : j = ns.length := by omega
      rw [HRM.out]
      go_wp2
      go_ret
      exact ⟨rfl, Below.refl _ _⟩
set_option maxHeartbeats 1600000 in
set_option maxRecDepth 100000 in
theorem renamedMasks (N : Nat) (vz vn : Value) (xs ns : List Int) (w : World) (hI : Ints w vz xs) (hl : xs.length ≤ 1048576) (hx : InM (2 ^ N) xs) (hN : 1 ≤ N ∧ N ≤ 8) (hJ : Ints w vn ns) (hP : PermP N ns) :
    Calls Try.prog 49 #[vz, vn] w (GivesI w (imgL (2 ^ N) (mapF (renM ns) xs))) := by
  have ba : Below w.heap.size w (w.alloc (.cells #[vn] 34)) := (Below.refl _ _).alloc (Nat.le_refl _) _
  have HCs : Hid (∀ W (m : Nat), Below (w.alloc (.cells #[vn] 34)).heap.size (w.alloc (.cells #[vn] 34)) W → m < 2 ^ N → Calls Try.prog 58 #[.int .i64 (m : Int), .pointer (some ⟨w.heap.size, 0, none⟩)] W (GivesN W (renM ns m : Nat))) := fun W m hW hm => by
    have hp8 : 2 ^ N ≤ 256 := pow256n hN.2
    exact renMC _ N vn ns m W (Below.keeps hW _ _ (cell_alloc0 _ _ _)) (hJ.keep ((Below.keeps ba).trans (Below.keeps hW))) hP hN (by omega)
  have HI2 := Lib.hid (hI.keep (Below.keeps ba))
  have HFm : Hid (∀ x ∈ xs, renM ns x.toNat < 2 ^ N) := fun x hx => renM_lt hN.2 hP _
  have HX := Lib.hid hx
  obtain ⟨ao, cap, rfl, _⟩ := hI
  obtain ⟨an, capn, rfl, _⟩ := hJ
  clear hx hP
  go_enter Try.func49, Try.ntmps49
  go_wp2_with fail
  refine (imagesR _ xs _ (renM ns) (2 ^ N) _ HI2.out hl HX.out (pow256n hN.2) HCs.out HFm.out).mono ?_; rintro e w5 ⟨u, rfl, R5, b5⟩
  have s4 := ba.size
  have s5 := b5.size
  have bz := ba.trans (b5.mono s4)
  go_wp2
  go_ret
  exact ⟨_, rfl, R5.wide s4 (Nat.le_refl _), bz⟩


end Go.Proofs.Ytalkcpfahefajaa
