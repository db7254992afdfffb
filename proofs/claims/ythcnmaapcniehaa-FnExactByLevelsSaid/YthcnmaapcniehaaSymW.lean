/- slices.SortStableFunc's parts on a row of one cell an element: swapRangeCmpFunc, rotateCmpFunc. -/
import Derived.Test.YthcnmaapcniehaaSymP
import Derived.Test.YthcnmaapcniehaaBase
import Derived.Shelf.SlSortCmp.Kit1
import Derived.Sort.WalkB2
import Derived.Sort.WalkB12
import Derived.Deep.LoopGhost
import Derived.BigRegion
namespace Go.Proofs.Ythcnmaapcniehaa
open Go.Shelf Go.RowKit Go.Lib Go.Sort
set_option linter.unusedVariables false
variable {α : Type} [Inhabited α]

set_option maxHeartbeats 4000000 in
set_option maxRecDepth 1000000 in
theorem swapRange (enc : α → Value) (F : Value) (blk off cap a b n N : Nat) (d0 d : Array α) (w0 w : World) (L X M Y Z : List α)
    (R : Row1 enc w0 blk off d0) (hs : d0.size = N) (S : SW enc w0 blk off d w) (hd : d.toList = L ++ (X ++ (M ++ (Y ++ Z)))) (hXY : Y.length = X.length) (ha : a = L.length) (hb : b = L.length + X.length + M.length) (hn : n = X.length) (hsz : N < 4611686018427387904) (hdN : d.size = N) :
    Calls Try.prog 40 #[.slice (some ⟨blk, off, none⟩) N cap, .int .i64 a, .int .i64 b, .int .i64 n, F] w fun e w' =>
      e = .returned (.tuple #[]) ∧ ∃ d' : Array α, d'.size = N ∧ d'.toList = L ++ (Y ++ (M ++ (X ++ Z))) ∧ SW enc w0 blk off d' w' := by
  have hcl0 := R.hO.cells
  simp only [Value.cells] at hcl0
  have hst := R.hO.store Try.prog
  have S0 : Aside (SW enc w0 blk off d w) := S
  have hlen : N = L.length + (X.length + (M.length + (Y.length + Z.length))) := by
    have := congrArg List.length hd
    simp at this; omega
  have HD : Hid (d.toList = srg L X M Y Z 0) := Lib.hid (by rw [hd, srg_zero])
  have HE : Hid (srg L X M Y Z n = L ++ (Y ++ (M ++ (X ++ Z)))) := Lib.hid (by rw [hn, srg_all _ _ _ _ _ hXY])
  have HST : Hid (∀ i (dk : Array α), i < n → dk.toList = srg L X M Y Z i → (swp dk (a + i) (b + i)).toList = srg L X M Y Z (i + 1)) := Lib.hid fun i dk hi hk => srg_step hk hXY (by omega) (by omega) (by omega)
  have hbn : b + n ≤ N := by omega
  have han : a + n ≤ b := by omega
  clear S hd ha hb hn hlen hXY
  go_enter Try.func40, Try.ntmps40
  go_wp2
  go_loopw [10] (fun vi wr => ∃ (i : Nat) (dk : Array α), vi = .int .i64 i ∧ i ≤ n ∧ dk.size = N ∧ Aside (SW enc w0 blk off dk wr) ∧ Hid (dk.toList = srg L X M Y Z i)) (fun i _ => n - (intOf i).toNat)
  case atStart => exact ⟨0, d, rfl, Nat.zero_le _, hdN, S0, HD⟩
  case round =>
    clear S0
    obtain ⟨i, dk, rfl, hi, hds, S1, HK⟩ := hrel
    by_cases hlt : i < n
    · have hltz : (i : Int) < (n : Int) := by omega
      go_wp2_with fail
      obtain ⟨iN, hiN⟩ : ∃ q, q = a + i := ⟨_, rfl⟩
      obtain ⟨jN, hjN⟩ : ∃ q, q = b + i := ⟨_, rfl⟩
      have ea : ((a : Int) + (i : Int)).toNat = iN := by omega
      have pa : (0 : Int) ≤ (a : Int) + (i : Int) := by omega
      have ba : (a : Int) + (i : Int) < (N : Int) := by omega
      have ra : IntKind.i64.wrap ((a : Int) + (i : Int)) = (a : Int) + (i : Int) := by rw [IntKind.wrap_i64]; omega
      have ec : ((b : Int) + (i : Int)).toNat = jN := by omega
      have pc : (0 : Int) ≤ (b : Int) + (i : Int) := by omega
      have bc : (b : Int) + (i : Int) < (N : Int) := by omega
      have rc : IntKind.i64.wrap ((b : Int) + (i : Int)) = (b : Int) + (i : Int) := by rw [IntKind.wrap_i64]; omega
      obtain ⟨x, hx⟩ : ∃ x, x = dk[a + i]! := ⟨_, rfl⟩
      obtain ⟨y, hy⟩ : ∃ x, x = dk[b + i]! := ⟨_, rfl⟩
      have S2 : Aside (SW enc w0 blk off (swp dk (a + i) (b + i)) ((wr.setCell ⟨blk, off + iN, none⟩ (enc y)).setCell ⟨blk, off + jN, none⟩ (enc x)).drew) := by rw [hiN, hjN, hx, hy]; exact S1.out.swapped R (a + i) (b + i) (by omega) (by omega)
      have ca := S1.out.c1 R (by omega) (a + i) (by omega)
      have cb := S1.out.c1 R (by omega) (b + i) (by omega)
      have fa := S1.out.f1 R (by omega) (a + i) (by omega)
      have fb := S1.out.f1 R (by omega) (b + i) (by omega)
      obtain ⟨u, cc⟩ := S1.out.c2 R (by omega) (a + i) (b + i) (by omega) (by omega) (enc y)
      rw [← hjN, ← hiN] at cc
      rw [← hx, ← hiN] at ca
      rw [← hy, ← hjN] at cb
      rw [← hiN] at fa
      rw [← hjN] at fb
      have HK2 : Hid ((swp dk (a + i) (b + i)).toList = srg L X M Y Z (i + 1)) := Lib.hid (HST.out i dk hlt HK.out)
      clear S1 hx hy hiN hjN HK
      go_wp2_with fail
      go_region
      clear ca cb cc fa fb
      generalize ((wr.setCell ⟨blk, off + iN, none⟩ (enc y)).setCell ⟨blk, off + jN, none⟩ (enc x)).drew = w2 at S2 ⊢
      clear ea ec
      go_wp2
      go_roundw
      case rel => exact ⟨i + 1, _, by go_num, by omega, by rw [size_swp]; exact hds, S2, HK2⟩
      case measure => simp [intOf]; omega
    · obtain rfl : i = n := by omega
      go_wp2
      go_end0
      exact ⟨rfl, dk, hds, by rw [HK.out]; exact HE.out, S1.out⟩
set_option maxHeartbeats 4000000 in
set_option maxRecDepth 1000000 in
theorem rotate (enc : α → Value) (F : Value) (blk off cap a m b N : Nat) (d0 d : Array α) (w0 w : World) (L A B Z : List α)
    (R : Row1 enc w0 blk off d0) (hs : d0.size = N) (S : SW enc w0 blk off d w) (hd : d.toList = L ++ (A ++ (B ++ Z))) (ha : a = L.length) (hm : m = L.length + A.length) (hb : b = L.length + A.length + B.length) (hA : 0 < A.length) (hB : 0 < B.length) (hsz : N < 4611686018427387904) (hdN : d.size = N) :
    Calls Try.prog 39 #[.slice (some ⟨blk, off, none⟩) N cap, .int .i64 a, .int .i64 m, .int .i64 b, F] w fun e w' =>
      e = .returned (.tuple #[]) ∧ ∃ d' : Array α, d'.size = N ∧ d'.toList = L ++ (B ++ (A ++ Z)) ∧ SW enc w0 blk off d' w' := by
  have S0 : Aside (SW enc w0 blk off d w) := S
  have hlen : N = L.length + (A.length + (B.length + Z.length)) := by
    have := congrArg List.length hd
    simp at this; omega
  obtain ⟨i0, hi0⟩ : ∃ i0 : Nat, i0 = m - a := ⟨_, rfl⟩
  obtain ⟨j0, hj0⟩ : ∃ j0 : Nat, j0 = b - m := ⟨_, rfl⟩
  have HR0 : Hid (RotI d (L ++ (B ++ (A ++ Z))) i0 j0 m) := Lib.hid (RotI.start hd hA hB (by omega) (by omega) hm)
  obtain ⟨T, HT⟩ : ∃ T, Hid (L ++ (B ++ (A ++ Z)) = T) := ⟨_, Lib.hid rfl⟩
  rw [HT.out] at HR0 ⊢
  have hz1 : (m : Int) - (a : Int) = (i0 : Int) := by omega
  have hz2 : (b : Int) - (m : Int) = (j0 : Int) := by omega
  have hmN : m ≤ N := by omega
  have hjN : m + j0 ≤ N := by omega
  have hi0m : i0 ≤ m := by omega
  clear S hd ha hb hm hA hB hlen hi0 hj0
  go_enter Try.func39, Try.ntmps39
  go_wp2
  go_loopw [10, 11] (fun vi vj wr => ∃ (i j : Nat) (dk : Array α), vi = .int .i64 i ∧ vj = .int .i64 j ∧ i ≤ i0 ∧ j ≤ j0 ∧ dk.size = N ∧ Aside (SW enc w0 blk off dk wr) ∧ Hid (RotI dk T i j m)) (fun i j _ => (intOf i).toNat + (intOf j).toNat)
  case atStart => exact ⟨i0, j0, d, by first | rfl | (rw [hz1]), by first | rfl | (rw [hz2]), Nat.le_refl _, Nat.le_refl _, hdN, S0, HR0⟩
  case round =>
    clear S0 HR0
    obtain ⟨i, j, dk, rfl, rfl, hi, hj, hds, S1, HK⟩ := hrel
    have hz3 : (m : Int) - (i : Int) = ((m - i : Nat) : Int) := by omega
    have hpos : 0 < i ∧ 0 < j := by obtain ⟨_, _, _, _, _, _, _, _, _, h1, h2⟩ := HK.out; exact ⟨h1, h2⟩
    obtain ⟨hp1, hp2⟩ := hpos
    rcases Nat.lt_trichotomy i j with hlt | rfl | hlt
    · obtain ⟨L', X, M, Y, Z', h1, h2, h3, h4, h5, h6, h7⟩ := HK.out.less hlt
      have HC := Lib.hid (swapRange enc F blk off cap (m - i) (m + j - i) i N d0 dk w0 wr L' X M Y Z' R hs S1.out h1 h2 h3 h4 h5 hsz hds)
      have H7 := Lib.hid h7
      clear h1 h2 h3 h4 h5 h7 HK S1
      have e1 : ((i : Int) != (j : Int)) = true := by simp; omega
      have e2 : decide ((i : Int) > (j : Int)) = false := decide_eq_false (by omega)
      have e3 : decide ((j : Int) < (i : Int)) = false := decide_eq_false (by omega)
      have hz4 : (m : Int) + (j : Int) - (i : Int) = ((m + j - i : Nat) : Int) := by omega
      go_wp2_with fail
      try rw [hz3]
      try rw [hz4]
      refine HC.out.mono ?_; rintro e w2 ⟨rfl, d2, hs2, hd2, S2⟩
      have HK2 := Lib.hid (H7.out d2 hd2)
      have HS2 : Aside (SW enc w0 blk off d2 w2) := S2
      clear HC H7 hd2 S2 hz3 hz4
      go_wp2
      go_roundw
      case rel => exact ⟨i, j - i, d2, rfl, by go_num, hi, by omega, hs2, HS2, HK2⟩
      case measure => simp [intOf]; omega
    · obtain ⟨L', X, Y, Z', h1, h2, h3, h4, h5, h6, h7⟩ := HK.out.last
      have HC := Lib.hid (swapRange enc F blk off cap (m - i) m i N d0 dk w0 wr L' X [] Y Z' R hs S1.out h1 h2 h3 h4 h5 hsz hds)
      have H7 := Lib.hid h7
      clear h1 h2 h3 h4 h5 h7 HK S1
      have e1 : ((i : Int) != (i : Int)) = false := by simp
      go_wp2_with fail
      try rw [hz3]
      refine HC.out.mono ?_; rintro e w2 ⟨rfl, d2, hs2, hd2, S2⟩
      clear HC hz3
      go_wp2
      go_end0
      exact ⟨rfl, d2, hs2, by rw [hd2]; exact H7.out, S2⟩
    · obtain ⟨L', X, M, Y, Z', h1, h2, h3, h4, h5, h6, h7⟩ := HK.out.more hlt
      have HC := Lib.hid (swapRange enc F blk off cap (m - i) m j N d0 dk w0 wr L' X M Y Z' R hs S1.out h1 h2 h3 h4 h5 hsz hds)
      have H7 := Lib.hid h7
      clear h1 h2 h3 h4 h5 h7 HK S1
      have e1 : ((i : Int) != (j : Int)) = true := by simp; omega
      have e2 : decide ((i : Int) > (j : Int)) = true := decide_eq_true (by omega)
      have e3 : decide ((j : Int) < (i : Int)) = true := decide_eq_true (by omega)
      go_wp2_with fail
      try rw [hz3]
      refine HC.out.mono ?_; rintro e w2 ⟨rfl, d2, hs2, hd2, S2⟩
      have HK2 := Lib.hid (H7.out d2 hd2)
      have HS2 : Aside (SW enc w0 blk off d2 w2) := S2
      clear HC H7 hd2 S2 hz3
      go_wp2
      go_roundw
      case rel => exact ⟨i - j, j, d2, by go_num, rfl, by omega, hj, hs2, HS2, HK2⟩
      case measure => simp [intOf]; omega
end Go.Proofs.Ythcnmaapcniehaa
