/- Contracts: RenamedMasks, the program's and the reference's. -/
import Derived.Test.YtldhbbbkfnfhoaaAfter
namespace Go.Proofs.Ytldhbbbkfnfhoaa
open Go.RowKit
set_option linter.unusedVariables false

/-- A mask with other names of its wires, the first k wires of it. -/
def renTo (ns : List Int) (m : Nat) : Nat → Nat
  | 0 => 0
  | k + 1 => renTo ns m k + (if m / 2 ^ k % 2 = 1 then 2 ^ (ns.getD k 0).toNat else 0)
def renM (ns : List Int) (m : Nat) : Nat := renTo ns m ns.length
theorem renTo_yes {ns : List Int} {m k a : Nat} (h : m / 2 ^ k % 2 = 1) (ha : ns.getD k 0 = (a : Int)) : renTo ns m (k + 1) = renTo ns m k + 2 ^ a := by
  rw [renTo, if_pos h, ha, Int.toNat_natCast]
theorem renTo_no {ns : List Int} {m k : Nat} (h : m / 2 ^ k % 2 = 0) : renTo ns m (k + 1) = renTo ns m k := by
  rw [renTo, if_neg (by omega)]; rfl
theorem add_bit (N x a : Nat) (hN : N ≤ 8) (hx : x < 2 ^ N) (ha : a < N) (h0 : x / 2 ^ a % 2 = 0) : x + 2 ^ a < 2 ^ N := by
  have H : ∀ N : Fin 9, ∀ m : Fin 256, m.val < 2 ^ N.val → ∀ k : Fin 8, k.val < N.val → m.val / 2 ^ k.val % 2 = 0 → m.val + 2 ^ k.val < 2 ^ N.val := by decide +kernel
  have h8 : (2 : Nat) ^ N ≤ 256 := pow256n hN
  exact H ⟨N, by omega⟩ ⟨x, by omega⟩ hx ⟨a, by omega⟩ ha h0
theorem add_bit2 (x a b : Nat) (hx : x < 256) (ha : a < 8) (hb : b < 8) (hab : a ≠ b) (h0 : x / 2 ^ a % 2 = 0) (h1 : x / 2 ^ b % 2 = 0) : (x + 2 ^ a) / 2 ^ b % 2 = 0 := by
  have H : ∀ x : Fin 256, ∀ a b : Fin 8, a ≠ b → x.val / 2 ^ a.val % 2 = 0 → x.val / 2 ^ b.val % 2 = 0 → (x.val + 2 ^ a.val) / 2 ^ b.val % 2 = 0 := by decide +kernel
  exact H ⟨x, hx⟩ ⟨a, ha⟩ ⟨b, hb⟩ (fun e => hab (by simpa using e)) h0 h1
theorem PermP.at {N : Nat} {ns : List Int} (h : PermP N ns) (k : Nat) (hk : k < ns.length) : ∃ a : Nat, ns.getD k 0 = (a : Int) ∧ ns[k] = (a : Int) ∧ a < N := by
  have := h.2.1 _ (List.getElem_mem hk)
  refine ⟨ns[k].toNat, ?_, by omega, by omega⟩
  rw [List.getD_eq_getElem?_getD, List.getElem?_eq_getElem hk]
  show ns[k] = _
  omega
/-- What is known of a mask's renaming under way: small, and no bit that has not been named. -/
theorem renTo_ok {N : Nat} {ns : List Int} (hN : N ≤ 8) (h : PermP N ns) (m : Nat) (k : Nat) : k ≤ ns.length → renTo ns m k < 2 ^ N ∧ ∀ b : Nat, b < 8 → ¬ (b : Int) ∈ ns.take k → renTo ns m k / 2 ^ b % 2 = 0 := by
  induction k with
  | zero =>
    intro _
    refine ⟨by show 0 < _; exact Nat.pos_of_ne_zero (by simp), fun b _ _ => ?_⟩
    show 0 / 2 ^ b % 2 = 0
    simp
  | succ k ih =>
    intro hk
    obtain ⟨h1, h2⟩ := ih (by omega)
    obtain ⟨a, ha, ha', haN⟩ := h.at k (by omega)
    have hna : ¬ (a : Int) ∈ ns.take k := by rw [← ha']; exact h.no_twice (by omega)
    have ha0 := h2 a (by omega) hna
    have h8 : (2 : Nat) ^ N ≤ 256 := pow256n hN
    rcases Nat.mod_two_eq_zero_or_one (m / 2 ^ k) with e | e
    · rw [renTo_no e]
      refine ⟨h1, fun b hb hm => h2 b hb fun hx => hm ?_⟩
      rw [take_snocI ns k (by omega)]
      exact List.mem_append_left _ hx
    · rw [renTo_yes e ha]
      refine ⟨add_bit N _ a hN h1 haN ha0, fun b hb hm => ?_⟩
      rw [take_snocI ns k (by omega)] at hm
      refine add_bit2 _ a b (by omega) (by omega) hb (fun e => hm ?_) ha0 (h2 b hb fun hx => hm (List.mem_append_left _ hx))
      subst e
      rw [ha']
      exact List.mem_append_right _ (List.mem_singleton.2 rfl)
theorem renM_lt {N : Nat} {ns : List Int} (hN : N ≤ 8) (h : PermP N ns) (m : Nat) : renM ns m < 2 ^ N := (renTo_ok hN h m ns.length (Nat.le_refl _)).1
theorem or_bit (x a : Nat) (hx : x < 256) (ha : a < 8) (h : x / 2 ^ a % 2 = 0) : Go.bits BinOp.or IntKind.i64 (x : Int) (2 ^ a) = (x : Int) + 2 ^ a := by
  have H : ∀ x : Fin 256, ∀ a : Fin 8, x.val / 2 ^ a.val % 2 = 0 → Go.bits BinOp.or IntKind.i64 (x.val : Int) (2 ^ a.val) = (x.val : Int) + 2 ^ a.val := by decide +kernel
  exact H ⟨x, hx⟩ ⟨a, ha⟩ h
theorem or_zero (x : Nat) (hx : x < 256) : Go.bits BinOp.or IntKind.i64 (x : Int) 0 = (x : Int) := by
  have H : ∀ x : Fin 256, Go.bits BinOp.or IntKind.i64 (x.val : Int) 0 = (x.val : Int) := by decide +kernel
  exact H ⟨x, hx⟩


def RnmP (n : Int) (xs ns : List Int) : Prop := MasksP n xs ∧ PermP n.toNat ns
noncomputable def rmN (n : Int) (xs ns : List Int) : List Int := onlyI (RnmP n xs ns) (imgL (2 ^ n.toNat) (mapF (renM ns) xs))
theorem rmN_le (n : Int) (xs ns : List Int) : (rmN n xs ns).length ≤ 256 := onlyI_le fun h => by
  have h1 : n ≤ 8 := by have := h.1.1; unfold InP at this; omega
  exact Nat.le_trans (imgL_le _ _) (pow256 h1)
set_option maxHeartbeats 1600000 in
set_option maxRecDepth 100000 in
theorem renMC (q : Nat) (N : Nat) (vn : Value) (ns : List Int) (m : Nat) (W : World) (hc : W.cell? ⟨q, 0, none⟩ = some vn) (hJ : Ints W vn ns) (hP : PermP N ns) (hN : 1 ≤ N ∧ N ≤ 8) (hm : m < 256) :
    Calls Try.prog 55 #[.int .i64 (m : Int), .pointer (some ⟨q, 0, none⟩)] W (GivesN W (renM ns m : Nat)) := by
  obtain ⟨an, capn, rfl, hcapn, hmaxn, hniln, hcelln⟩ := hJ
  have HCN := Lib.hid hcelln; clear hcelln
  have HP := Lib.hid hP
  have hnl : ns.length ≤ 8 := by have := hP.1; omega
  have hN8 := hN.2
  clear hP
  unfold maxLen at hmaxn
  have HRM : Hid (renTo ns m ns.length = renM ns m) := rfl
  go_enter Try.func55, Try.ntmps55
  go_wp2
  go_loop [4, 9] (fun x i => ∃ j : Nat, j ≤ ns.length ∧ i = .int .i64 j ∧ x = .int .i64 (renTo ns m j : Nat)) (fun _ i => ns.length - (intOf i).toNat)
  case atStart => exact ⟨0, Nat.zero_le _, rfl, rfl⟩
  case round =>
    obtain ⟨j, hj, rfl, rfl⟩ := hrel
    by_cases hlj : j < ns.length
    · obtain ⟨b2, q2, u2, rfl, hu2, rfl, hwf2⟩ := HCN.out j hlj
      obtain ⟨a, ha, ha', haN⟩ := HP.out.at j hlj
      rw [ha'] at hu2
      have hro := renTo_ok hN8 HP.out m j (by omega)
      have hra := hro.2 a (by omega) (by rw [← ha']; exact HP.out.no_twice hlj)
      have h8 : (2 : Nat) ^ N ≤ 256 := pow256n hN8
      have hr := hro.1
      have hbe := bit_eq m j hm (by omega)
      have hpa := pow_le8 a (by omega)
      have hpa1 := pow_pos a
      have hma : min a 64 = a := by omega
      have hmj : min j 64 = j := by omega
      have hr256 : renTo ns m j < 256 := by omega
      clear hwf2 ha' hro h8 hr
      rcases Nat.mod_two_eq_zero_or_one (m / 2 ^ j) with e | e
      · have HE := Lib.hid (renTo_no (ns := ns) e)
        rw [e] at hbe
        have hbe' : Go.bits BinOp.and IntKind.i64 ((m : Int) / 2 ^ j) 1 = 0 := hbe
        have ho := or_zero (renTo ns m j) hr256
        clear hbe e ha hra
        generalize renTo ns m j = r at *
        go_wp2
        go_round
        case rel => exact ⟨j + 1, by omega, by go_num, by rw [HE.out]⟩
        case measure => simp [intOf]; omega
      · have HE := Lib.hid (renTo_yes (ns := ns) e ha)
        rw [e] at hbe
        have hbe' : Go.bits BinOp.and IntKind.i64 ((m : Int) / 2 ^ j) 1 = 1 := hbe
        have ho := or_bit (renTo ns m j) a hr256 (by omega) hra
        have hr3 : ((renTo ns m j + 2 ^ a : Nat) : Int) = (renTo ns m j : Int) + 2 ^ a := by simp
        have HR3 := Lib.hid hr3
        clear hbe e ha hra hr3
        generalize renTo ns m j = r at *
        go_wp2
        go_round
        case rel => exact ⟨j + 1, by omega, by go_num, by rw [HE.out, HR3.out]⟩
        case measure => simp [intOf]; omega
    · obtain rfl : j = ns.length := by omega
      rw [HRM.out]
      go_wp2
      go_ret
      exact ⟨rfl, Below.refl _ _⟩
set_option maxHeartbeats 1600000 in
set_option maxRecDepth 100000 in
theorem renamedMasks (N : Nat) (vz vn : Value) (xs ns : List Int) (w : World) (hI : Ints w vz xs) (hl : xs.length ≤ 1048576) (hx : InM (2 ^ N) xs) (hN : 1 ≤ N ∧ N ≤ 8) (hJ : Ints w vn ns) (hP : PermP N ns) :
    Calls Try.prog 37 #[vz, vn] w (GivesI w (imgL (2 ^ N) (mapF (renM ns) xs))) := by
  have ba : Below w.heap.size w (w.alloc (.cells #[vn] 27)) := (Below.refl _ _).alloc (Nat.le_refl _) _
  have HCs : Hid (∀ W (m : Nat), Below (w.alloc (.cells #[vn] 27)).heap.size (w.alloc (.cells #[vn] 27)) W → m < 2 ^ N → Calls Try.prog 55 #[.int .i64 (m : Int), .pointer (some ⟨w.heap.size, 0, none⟩)] W (GivesN W (renM ns m : Nat))) := fun W m hW hm => by
    have hp8 : 2 ^ N ≤ 256 := pow256n hN.2
    exact renMC _ N vn ns m W (Below.keeps hW _ _ (cell_alloc0 _ _ _)) (hJ.keep ((Below.keeps ba).trans (Below.keeps hW))) hP hN (by omega)
  have HI2 := Lib.hid (hI.keep (Below.keeps ba))
  have HFm : Hid (∀ x ∈ xs, renM ns x.toNat < 2 ^ N) := fun x hx => renM_lt hN.2 hP _
  have HX := Lib.hid hx
  obtain ⟨ao, cap, rfl, _⟩ := hI
  obtain ⟨an, capn, rfl, _⟩ := hJ
  clear hx hP
  go_enter Try.func37, Try.ntmps37
  go_wp2_with fail
  refine (imagesR _ xs _ (renM ns) (2 ^ N) _ HI2.out hl HX.out (pow256n hN.2) HCs.out HFm.out).mono ?_; rintro e w5 ⟨u, rfl, R5, b5⟩
  have s4 := ba.size
  have s5 := b5.size
  have bz := ba.trans (b5.mono s4)
  go_wp2
  go_ret
  exact ⟨_, rfl, R5.wide s4 (Nat.le_refl _), bz⟩


set_option maxHeartbeats 1600000 in
set_option maxRecDepth 100000 in
theorem implRenamedMasks (n : Int) (v : Value) (xs : List Int) (v2 : Value) (ns : List Int) (w : World) (hn : (Lit.int .i64 n).wf = true) (h : Ints w v xs) (hl : xs.length ≤ 1048576) (h2 : Ints w v2 ns) (hl2 : ns.length ≤ 1048576) :
    Calls Try.prog 16 #[.int .i64 n, v, v2] w (GivesI w (rmN n xs ns)) := by
  have HI := Lib.hid h
  have HJ := Lib.hid h2
  clear hn
  obtain ⟨ao, cap, hv, _⟩ := h
  obtain ⟨an, capn, hvn, _⟩ := h2
  have HI2 : Hid (∀ W, Below w.heap.size w W → Ints W v xs) := fun W hb => HI.out.keep (Below.keeps hb)
  have HJ2 : Hid (∀ W, Below w.heap.size w W → Ints W v2 ns) := fun W hb => HJ.out.keep (Below.keeps hb)
  rcases Classical.em (MasksP n xs) with hM | hM
  · have ht := tf_yes hM
    have hnb : 1 ≤ n ∧ n ≤ 8 := hM.1
    obtain ⟨N, rfl⟩ : ∃ N : Nat, n = (N : Int) := ⟨n.toNat, by omega⟩
    have HM := Lib.hid hM
    clear hM
    rcases Classical.em (PermP N ns) with hP | hP
    · have hp := tf_yes hP
      have HPm := Lib.hid hP
      have HE : Hid (rmN N xs ns = imgL (2 ^ N) (mapF (renM ns) xs)) := onlyI_yes ⟨HM.out, by rw [Int.toNat_natCast]; exact hP⟩
      rw [HE.out]
      clear hP
      subst hv
      subst hvn
      go_enter Try.func16, Try.ntmps16
      go_wp2_with fail
      refine (implMasksOk _ _ xs _ HI.out).mono ?_; rintro e w1 ⟨rfl, rfl⟩
      rw [ht]
      go_wp2_with fail
      refine (isOrder N _ ns w HJ.out (by omega) hl2).mono ?_; rintro e w2 ⟨rfl, b2⟩
      rw [hp]
      go_wp2_with fail
      refine (renamedMasks N _ _ xs ns w2 (HI2.out _ b2) hl HM.out.inM (by omega) (HJ2.out _ b2) HPm.out).mono ?_; rintro e w5 ⟨u, rfl, R5, b5⟩
      have s4 := b2.size
      have s5 := b5.size
      have bz := b2.trans (b5.mono s4)
      go_wp2
      go_ret
      exact ⟨_, rfl, R5.wide s4 (Nat.le_refl _), bz⟩
    · have hp := tf_no hP
      have HE : Hid (rmN N xs ns = []) := onlyI_no fun h => hP (by have := h.2; rwa [Int.toNat_natCast] at this)
      rw [HE.out]
      clear hP
      subst hv
      subst hvn
      go_enter Try.func16, Try.ntmps16
      go_wp2_with fail
      refine (implMasksOk _ _ xs _ HI.out).mono ?_; rintro e w1 ⟨rfl, rfl⟩
      rw [ht]
      go_wp2_with fail
      refine (isOrder N _ ns w HJ.out (by omega) hl2).mono ?_; rintro e w2 ⟨rfl, b2⟩
      rw [hp]
      go_wp2
      go_ret
      exact GivesI.nil _ _ b2
  · have ht := tf_no hM
    have HE : Hid (rmN n xs ns = []) := onlyI_no fun h => hM h.1
    rw [HE.out]
    clear hM
    subst hv
    subst hvn
    go_enter Try.func16, Try.ntmps16
    go_wp2_with fail
    refine (implMasksOk _ _ xs _ HI.out).mono ?_; rintro e w1 ⟨rfl, rfl⟩
    rw [ht]
    go_wp2
    go_ret
    exact GivesI.nil _ _ (Below.refl _ _)
end Go.Proofs.Ytldhbbbkfnfhoaa
