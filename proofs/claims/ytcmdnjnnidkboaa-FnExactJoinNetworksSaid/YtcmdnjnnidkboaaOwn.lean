/- Contracts: own, l02Copy: a network's or a list of pairs' copy in memory of its own. -/
import Derived.Test.YtcmdnjnnidkboaaNetIn
import Derived.Test.YtcmdnjnnidkboaaAppNet
namespace Go.Proofs.Ytcmdnjnnidkboaa
open Go.RowKit
set_option linter.unusedVariables false

theorem cell_al {w : World} {o : Obj} {a : Addr} {x : Value} (h : w.cell? a = some x) : (w.alloc o).cell? a = some x := Below.keeps ((Below.refl _ w).alloc (Nat.le_refl _) o) _ _ h
theorem cell_st {w : World} {a c : Addr} {v x : Value} (h : w.cell? a = some x) (ha : c.block ≠ a.block) : (w.setCell c v).cell? a = some x := (World.cell?_setCell_other _ _ _ _ (fun e => ha (by rw [e]))).trans h
theorem cell_gr {w w1 : World} {r : Option Nat} {a : Addr} {x : Value} (hg : w.grownBy w1 r) (h : w.cell? a = some x) (ha : some a.block ≠ r) : w1.cell? a = some x := (hg.cell_far a (World.block_lt_of_cell? w _ h) ha).trans h
theorem take_next {α : Type} (l : List α) (k : Nat) (h : k < l.length) : l.take (k + 1) = l.take k ++ [l[k]] := by rw [List.take_succ_eq_append_getElem h]

set_option maxHeartbeats 1600000 in
set_option maxRecDepth 100000 in
theorem ownN (N : Nat) (v : Value) (ps : List (Nat × Nat)) (w : World) (h : IntSS w v (rowsOf ps)) (hp : PsOk N ps) :
    Calls Try.prog 32 #[.agg #[.int .i64 N, v]] w (GivesNet w N (rowsOf ps)) := by
  have HI : Hid (IntSS w v (rowsOf ps)) := h
  obtain ⟨ao, cap, rfl, hcap, hmax, hnil, hcell⟩ := h
  have HC := Lib.hid hcell; clear hcell
  rw [rowsOf_length] at hcap HI ⊢
  have HP := Lib.hid hp
  unfold maxLen at hmax
  have h60 : ps.length ≤ 60 := HP.out.2.2.1
  clear hp
  obtain ⟨i0, hi, hz0, hz1, hz2⟩ := info_parts infoInts
  go_enter Try.func32, Try.ntmps32
  go_wp2
  go_loopw [12] (fun i wr => ∃ k : Nat, k ≤ ps.length ∧ i = .int .i64 k ∧ ∃ (u : Value), Hid (NetIn (w.heap.size + 1 + 1) (w.heap.size + 3) N ((rowsOf ps).take k) wr u) ∧ Hid (Kept (w.heap.size + 1 + 1) (w.heap.size + 3) (((w.alloc (.cells #[.int .i64 N, .slice ao ps.length cap] 26)).alloc (.cells #[.int .i64 0, .slice none 0 0] 26)).alloc (.cells #[.int .i64 N, .slice none 0 0] 26)) wr)) (fun i _ => ps.length - (intOf i).toNat)
  case atStart =>
    have hS := NetIn.start ((w.alloc (.cells #[.int .i64 N, .slice ao ps.length cap] 26)).alloc (.cells #[.int .i64 0, .slice none 0 0] 26)) N 26
    rw [World.size_alloc, World.size_alloc] at hS
    exact ⟨0, Nat.zero_le _, rfl, _, Lib.hid hS, Lib.hid (Kept.refl _ _ _ (by simp))⟩
  case round =>
    obtain ⟨k, hk, rfl, u, HN, HK⟩ := hrel
    have hb : Below w.heap.size w wr := ((((Below.refl _ w).alloc (Nat.le_refl _) _).alloc (by simp) _).alloc (by simp; omega) _).trans (HK.out.1.mono (by omega))
    by_cases hlt : k < ps.length
    · obtain ⟨⟨vs, hO, hR⟩, cn, cu2, cf2, hB, hlo⟩ := HN.out
      have HO := Lib.hid hO
      have HR := Lib.hid hR
      have HU : Hid (∀ g, g < w.heap.size + 3 → some g ≠ u.ownBlock) := fun g hg e => by have := HO.out.lt e.symm; omega
      have hvl : vs.length ≤ 60 := by have := HR.out.1; rw [List.length_take, rowsOf_length] at this; omega
      have hB2 : w.heap.size + 1 + 1 < wr.heap.size := by omega
      clear hO hR HN
      obtain ⟨b, q, x, rfl, hx, hIx⟩ := HC.out k (by rw [rowsOf_length]; exact hlt)
      have c1 := Below.keeps hb _ _ hx
      rw [rowsOf_get ps k hlt] at hIx
      have HX : Hid (Ints wr.drew x [(ps[k].1 : Int), (ps[k].2 : Int)]) := hIx.keep (fun a y ha => Below.keeps hb _ _ ha)
      obtain ⟨ax, lx, cx, hxv⟩ : ∃ a l c, x = .slice a l c := by obtain ⟨a, c, e, _⟩ := hIx; exact ⟨_, _, _, e⟩
      subst hxv
      have hbw : b < w.heap.size := World.block_lt_of_cell? w _ hx
      have HD : Hid ((rowsOf ps).take (k + 1) = (rowsOf ps).take k ++ [[(ps[k].1 : Int), (ps[k].2 : Int)]]) := by show _ = _; rw [take_next _ k (by rw [rowsOf_length]; exact hlt), rowsOf_get ps k hlt]
      clear hx hIx
      go_wp2
      rw [show Op.load 22 (Operand.tmp 16) = ldOp 22 (Operand.tmp 16) from rfl]
      go_region_held3 (fun w' => True) (trivial) ((first
          | (refine step_append_lies _ (by rfl) (.tmp 17) (.tmp 20) 22 (by rfl) (w.heap.size + 3) tInts i0 (.slice none 0 0) 1 24 Try.underlying22 hi hz0 hz1 hz2 rfl (by decide) u vs.length vs (by simp [Act.eval]) (by exact ((HO.out.below b2 (Nat.le_refl _)).1.alloc _)) ⟨w2.heap.size, 0, none⟩ 1 1 [.slice a2 l2 cp2] (by simp [Act.eval]) (by rfl) (by exact news_one _ _ _) (by simp [Value.oneCell']) (by decide) (by unfold maxLen; omega) (by omega) (by simp; omega) (w2.heap.size + 1) (by simp) ?_; intro g cap2 w1 hown hgrow hat hlt2; have zz := after_new (b2.alloc (by exact b2.size) _) hgrow cu2 cf2 (HU.out _ (by first | (simp; done) | (simp; omega))); obtain ⟨z1, z2⟩ := zz)
          | (go_at_call 50; refine (cloneI _ [(ps[k].1 : Int), (ps[k].2 : Int)] _ HX.out (by simp) (by simp)).mono ?_; rintro e w2 ⟨v2, rfl, R2, b9⟩; have b2 : Below wr.heap.size wr w2 := (Below.refl _ wr).drew.trans b9; clear b9; obtain ⟨a2, l2, cp2, hv2⟩ := R2.shape; subst hv2; have s2 := b2.size; have k1 := Below.keeps b2 _ _ cu2; have k2 := (b2.frozen (p := ⟨w.heap.size + 1 + 1, 1, none⟩) hB2).trans cf2; have k3 : w.heap.size + 1 + 1 < w2.heap.size := Nat.lt_of_lt_of_le hB2 s2)))
      all_goals
        obtain ⟨P, Q⟩ := NetIn.push (n := N) HO.out HR.out cn cu2 cf2 hB hlo (b2.alloc (by exact b2.size) _) ((R2.below ((Below.refl _ _).alloc (Nat.le_refl _) _) (Nat.le_refl _)).wide (by exact Nat.le_refl _) (by simp)) (by simp) hown hgrow HK.out
        rw [← HD.out] at P
        clear hown hgrow hat hlt2 z1 z2 HO HR R2 b2 k1 k2 k3
        go_wp2
        go_roundw
        case rel => exact ⟨k + 1, by omega, by go_num, _, Lib.hid P, Lib.hid Q⟩
        case measure => simp [intOf]; omega
    · have hk' : k = ps.length := by omega
      subst hk'
      obtain ⟨hR, cn, cu, cf, hB, hlo⟩ := HN.out
      rw [List.take_of_length_le (by rw [rowsOf_length]; exact Nat.le_refl _)] at hR
      obtain ⟨d0, d1, f0, f1, _⟩ := ((ResC.start (w.alloc (.cells #[.int .i64 N, .slice ao ps.length cap] 26)) 26).below ((Below.refl (w.heap.size + 1 + 1) _).alloc (by simp) (.cells #[.int .i64 N, .slice none 0 0] 26)) (by simp)).below HK.out.1 (by simp)
      rw [World.size_alloc] at d0 d1 f0 f1
      obtain ⟨a3, l3, c3, hu⟩ := hR.shape
      subst hu
      obtain ⟨R, B⟩ := hR.res (R := w.heap.size + 1) (x := .int .i64 N) (y := .slice a3 l3 c3) (by omega) hb (by omega)
      clear hR HN HK hb
      go_wp2
      exact bodyPost_ret (v := .agg #[.int .i64 N, .slice a3 l3 c3]) (by simp [results, Try.results32, go_sem, d0, d1]) rfl ⟨_, rfl, R, B⟩
end Go.Proofs.Ytcmdnjnnidkboaa
