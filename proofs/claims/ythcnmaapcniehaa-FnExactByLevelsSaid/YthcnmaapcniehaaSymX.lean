/- slices.symMergeCmpFunc where one of the two runs has one element. -/
import Derived.Test.YthcnmaapcniehaaSymW
import Derived.Shelf.SlSortCmp.QuietGrown
namespace Go.Proofs.Ythcnmaapcniehaa
open Go.Shelf Go.RowKit Go.Lib Go.Sort
set_option linter.unusedVariables false
variable {α : Type} [Inhabited α]

/-- How a merge ends. -/
def SymEnd (enc : α → Value) (lt : α → α → Prop) (w0 : World) (blk off N : Nat) (L A B Z : List α) (e : Ending) (w' : World) : Prop :=
  e = .returned (.tuple #[]) ∧ ∃ (d' : Array α) (C : List α), d'.size = N ∧ d'.toList = L ++ (C ++ Z) ∧ Out lt A B C ∧ SW enc w0 blk off d' w'
/-- 'less', under a plain name. -/
def LtC (cf : α → α → Int) (x y : α) : Prop := cf x y < 0

set_option maxHeartbeats 8000000 in
set_option maxRecDepth 1000000 in
theorem symMerge1 (enc : α → Value) (lt : α → α → Prop) (cf : α → α → Int) (ht : ∀ x y z, lt x y → lt y z → lt x z) (g : Nat) (gb : Array Value) (blk off cap a m b N : Nat) (d0 d : Array α) (w0 w : World) (L B Z : List α) (x : α)
    (eg : ∀ args w, (callFunc g args).run Try.prog w = .ok (.enter g args) w) (hcmp : CmpLays1 Try.prog g gb enc cf blk off N w0)
    (R : Row1 enc w0 blk off d0) (hs : d0.size = N) (S : SW enc w0 blk off d w) (hd : d.toList = L ++ ([x] ++ (B ++ Z))) (hM : Mrg lt cf [x] B) (ha : a = L.length) (hm : m = a + 1) (hb : b = m + B.length) (hsz : N < 4611686018427387904) (hdN : d.size = N) :
    Calls Try.prog 38 #[.slice (some ⟨blk, off, none⟩) N cap, .int .i64 a, .int .i64 m, .int .i64 b, .func (.func g) #[] gb] w (SymEnd enc lt w0 blk off N L [x] B Z) := by
  have mixed : Try.prog.follows .mixedOrders = true := by kernel_rfl
  have hcl0 := R.hO.cells
  simp only [Value.cells] at hcl0
  have hst := R.hO.store Try.prog
  have S0 : Aside (SW enc w0 blk off d w) := S
  have HC : Aside _ := hcmp
  have hlen : N = L.length + (1 + (B.length + Z.length)) := by
    have := congrArg List.length hd
    simp at this; omega
  have hx : d[a]! = x := by rw [at_A hd (t := 0) (by omega) (by simp)]; rfl
  have HB : Hid (∀ t p, p = m + t → t < B.length → d[p]! = B.getD t default) := Lib.hid fun t p hp h => at_B hd (by simp; omega) h
  have HD : Hid (d.toList = upR L x B Z 0) := Lib.hid (by rw [hd, upR_zero])
  have HM := Lib.hid hM
  have HT := Lib.hid ht
  have haN : a < N := by omega
  have hbN : b ≤ N := by omega
  have HST : Hid (∀ u p (dk : Array α), p = a + u → u < B.length → dk.toList = upR L x B Z u → (swp dk p (p + 1)).toList = upR L x B Z (u + 1)) := Lib.hid fun u p dk hp hu hk => upR_step hk hu (by omega) rfl
  have HA : Hid (d[a]! = x) := Lib.hid hx
  have hma : (m : Int) - (a : Int) = 1 := by omega
  have hlB : b - m = B.length := by omega
  have hmb : m ≤ b := by omega
  have hHm : Hid (m = a + 1) := Lib.hid hm
  have ham : a < m := by omega
  clear S hcmp hd ha hb hlen hM ht hx hm
  go_enter Try.func38, Try.ntmps38
  go_wp2
  clear hma
  go_loopw [10, 11] (fun vi vj wr => ∃ (i j : Nat), vi = .int .i64 i ∧ vj = .int .i64 j ∧ m ≤ i ∧ i ≤ j ∧ j ≤ b ∧ Aside (SW enc w0 blk off d wr) ∧ Hid ((i = m ∨ LtC cf d[i - 1]! d[a]!) ∧ (j = b ∨ ¬ LtC cf d[j]! d[a]!))) (fun i j _ => (intOf j).toNat - (intOf i).toNat)
  case atStart => exact ⟨m, b, rfl, rfl, Nat.le_refl _, hmb, Nat.le_refl _, S0, Lib.hid ⟨.inl rfl, .inl rfl⟩⟩
  case round =>
    clear S0
    obtain ⟨i, j, rfl, rfl, hmi, hij, hjb, S1, HI⟩ := hrel
    by_cases hlt : i < j
    · have hltz : (i : Int) < (j : Int) := by omega
      obtain ⟨h, hh⟩ : ∃ h, h = (i + j) / 2 := ⟨_, rfl⟩
      have hz : ((i : Int) + (j : Int)) / 2 = (h : Int) := by omega
      have hih : i ≤ h := by omega
      have hhj : h < j := by omega
      have bh1 : (h : Int) < (N : Int) := by omega
      have bh2 : (a : Int) < (N : Int) := by omega
      have la := S1.out.cl R (by omega) h (by omega)
      have lb := S1.out.cl R (by omega) a (by omega)
      have hc := S1.out.cmp HC.out (by omega) d[h]! d[a]!
      clear hh
      by_cases hv : cf d[h]! d[a]! < 0
      · have hd1 : decide (cf d[h]! d[a]! < 0) = true := decide_eq_true hv
        have HI2 : Hid ((h + 1 = m ∨ LtC cf d[h + 1 - 1]! d[a]!) ∧ (j = b ∨ ¬ LtC cf d[j]! d[a]!)) := Lib.hid ⟨.inr (by rw [Nat.add_sub_cancel]; exact hv), HI.out.2⟩
        obtain ⟨xh, hxh⟩ : ∃ x, x = d[h]! := ⟨_, rfl⟩
        obtain ⟨xa, hxa⟩ : ∃ x, x = d[a]! := ⟨_, rfl⟩
        rw [← hxh] at la hc hv hd1
        rw [← hxa] at lb hc hv hd1
        clear hxh hxa
        go_wp2_with fail
        go_quiet_grown (first | (go_at_fn g; refine Calls.grown_of (hc _ _)))
        have S2 : Aside (SW enc w0 blk off d (grow (wr.drewN nq) osq)) := S1.out.grown nq osq
        clear la lb hc S1
        generalize grow (wr.drewN nq) osq = w2 at S2 ⊢
        clear nq osq
        go_wp2
        go_roundw
        case rel => exact ⟨h + 1, j, by go_num, rfl, by omega, by omega, hjb, S2, HI2⟩
        case measure => simp [intOf]; omega
      · have hd1 : decide (cf d[h]! d[a]! < 0) = false := decide_eq_false hv
        have HI2 : Hid ((i = m ∨ LtC cf d[i - 1]! d[a]!) ∧ (h = b ∨ ¬ LtC cf d[h]! d[a]!)) := Lib.hid ⟨HI.out.1, .inr hv⟩
        obtain ⟨xh, hxh⟩ : ∃ x, x = d[h]! := ⟨_, rfl⟩
        obtain ⟨xa, hxa⟩ : ∃ x, x = d[a]! := ⟨_, rfl⟩
        rw [← hxh] at la hc hv hd1
        rw [← hxa] at lb hc hv hd1
        clear hxh hxa
        go_wp2_with fail
        go_quiet_grown (first | (go_at_fn g; refine Calls.grown_of (hc _ _)))
        have S2 : Aside (SW enc w0 blk off d (grow (wr.drewN nq) osq)) := S1.out.grown nq osq
        clear la lb hc S1
        generalize grow (wr.drewN nq) osq = w2 at S2 ⊢
        clear nq osq
        go_wp2
        go_roundw
        case rel => exact ⟨i, h, rfl, rfl, hmi, hih, by omega, S2, HI2⟩
        case measure => simp [intOf]; omega
    · obtain rfl : i = j := by omega
      have HO : Hid (Out lt [x] B (B.take (i - m) ++ x :: B.drop (i - m))) := Lib.hid (by
        obtain ⟨h1, h2⟩ := HI.out
        rw [HA.out] at h1 h2
        unfold LtC at h1 h2
        refine merge1 HT.out HM.out (by omega) default ?_ ?_
        · rcases Nat.lt_or_ge m i with hmi2 | hmi2
          · rcases h1 with h1 | h1
            · omega
            · rw [HB.out (i - m - 1) (i - 1) (by omega) (by omega)] at h1
              exact .inr h1
          · exact .inl (by omega)
        · rcases Nat.lt_or_ge i b with hmi2 | hmi2
          · rcases h2 with h2 | h2
            · omega
            · rw [HB.out (i - m) i (by omega) (by omega)] at h2
              exact .inr h2
          · exact .inl (by omega))
      obtain ⟨e, he⟩ : ∃ e, e = i - 1 := ⟨_, rfl⟩
      have hze : (i : Int) - 1 = (e : Int) := by omega
      have hem : e - a = i - m := by have := hHm.out; omega
      have hae : a ≤ e := by have := hHm.out; omega
      have heb : e + 1 ≤ b := by omega
      rw [← hem] at HO
      clear HI hem
      go_wp2
      go_loopw [13] (fun vk wr2 => ∃ (k : Nat) (dk : Array α), vk = .int .i64 k ∧ a ≤ k ∧ k ≤ e ∧ dk.size = N ∧ Aside (SW enc w0 blk off dk wr2) ∧ Hid (dk.toList = upR L x B Z (k - a))) (fun k _ => e - (intOf k).toNat)
      case atStart => exact ⟨a, d, rfl, Nat.le_refl _, hae, hdN, S1, Lib.hid (by rw [Nat.sub_self]; exact HD.out)⟩
      case round =>
        clear S1
        obtain ⟨k, dk, rfl, hak, hke, hds, S1, HK⟩ := hrel
        by_cases hlt2 : k < e
        · have hltz : (k : Int) < (e : Int) := by omega
          obtain ⟨k1, hk1⟩ : ∃ q, q = k + 1 := ⟨_, rfl⟩
          have HK2 : Hid ((swp dk k k1).toList = upR L x B Z (k1 - a)) := Lib.hid (by
            have h5 := hHm.out
            have := HST.out (k - a) k dk (by omega) (by omega) HK.out
            rw [hk1, this, show k + 1 - a = k - a + 1 by omega])
          have ea : ((k : Int) + 1).toNat = k1 := by omega
          have ra : IntKind.i64.wrap ((k : Int) + 1) = (k : Int) + 1 := by rw [IntKind.wrap_i64]; omega
          have pa : (0 : Int) ≤ (k : Int) + 1 := by omega
          have ba : (k : Int) + 1 < (N : Int) := by omega
          have bk : (k : Int) < (N : Int) := by omega
          obtain ⟨p, hp⟩ : ∃ x, x = dk[k]! := ⟨_, rfl⟩
          obtain ⟨q, hq⟩ : ∃ x, x = dk[k1]! := ⟨_, rfl⟩
          have S2 : Aside (SW enc w0 blk off (swp dk k k1) ((wr.setCell ⟨blk, off + k, none⟩ (enc q)).setCell ⟨blk, off + k1, none⟩ (enc p)).drew) := by rw [hp, hq]; exact S1.out.swapped R k k1 (by omega) (by omega)
          have c1 := S1.out.c1 R (by omega) k (by omega)
          have c2 := S1.out.c1 R (by omega) k1 (by omega)
          have f1 := S1.out.f1 R (by omega) k (by omega)
          have f2 := S1.out.f1 R (by omega) k1 (by omega)
          obtain ⟨u, c3⟩ := S1.out.c2 R (by omega) k k1 (by omega) (by omega) (enc q)
          rw [← hp] at c1
          rw [← hq] at c2
          have hk1' : Hid (k1 = k + 1) := Lib.hid hk1
          clear S1 hp hq HK hk1
          go_wp2_with fail
          go_region
          clear c1 c2 c3 f1 f2
          generalize ((wr.setCell ⟨blk, off + k, none⟩ (enc q)).setCell ⟨blk, off + k1, none⟩ (enc p)).drew = w2 at S2 ⊢
          clear ea
          go_wp2
          go_roundw
          case rel => exact ⟨k1, _, by have := hk1'.out; subst this; go_num, by have := hk1'.out; omega, by have := hk1'.out; omega, by rw [size_swp]; exact hds, S2, HK2⟩
          case measure => simp [intOf]; omega
        · obtain rfl : k = e := by omega
          have hltz : ¬ (k : Int) < (k : Int) := by omega
          go_wp2
          exact bodyPost_ret (results_none rfl _ _ _) rfl ⟨rfl, dk, _, hds, by rw [HK.out, upR_out], HO.out, S1.out⟩

set_option maxHeartbeats 8000000 in
set_option maxRecDepth 1000000 in
theorem symMerge2 (enc : α → Value) (lt : α → α → Prop) (cf : α → α → Int) (ht : ∀ x y z, lt x y → lt y z → lt x z) (g : Nat) (gb : Array Value) (blk off cap a m b N : Nat) (d0 d : Array α) (w0 w : World) (L A Z : List α) (x : α)
    (eg : ∀ args w, (callFunc g args).run Try.prog w = .ok (.enter g args) w) (hcmp : CmpLays1 Try.prog g gb enc cf blk off N w0)
    (R : Row1 enc w0 blk off d0) (hs : d0.size = N) (S : SW enc w0 blk off d w) (hd : d.toList = L ++ (A ++ ([x] ++ Z))) (hM : Mrg lt cf A [x]) (ha : a = L.length) (hm : m = a + A.length) (hb : b = m + 1) (hA1 : 1 < A.length) (hsz : N < 4611686018427387904) (hdN : d.size = N) :
    Calls Try.prog 38 #[.slice (some ⟨blk, off, none⟩) N cap, .int .i64 a, .int .i64 m, .int .i64 b, .func (.func g) #[] gb] w (SymEnd enc lt w0 blk off N L A [x] Z) := by
  have mixed : Try.prog.follows .mixedOrders = true := by kernel_rfl
  have hcl0 := R.hO.cells
  simp only [Value.cells] at hcl0
  have hst := R.hO.store Try.prog
  have S0 : Aside (SW enc w0 blk off d w) := S
  have HC : Aside _ := hcmp
  have hlen : N = L.length + (A.length + (1 + Z.length)) := by
    have := congrArg List.length hd
    simp at this; omega
  have hx : d[m]! = x := by rw [at_B hd (t := 0) (by omega) (by simp)]; rfl
  have HB : Hid (∀ t p, p = a + t → t < A.length → d[p]! = A.getD t default) := Lib.hid fun t p hp h => at_A hd (by omega) h
  have HD : Hid (d.toList = upR L x A Z A.length) := Lib.hid (by rw [hd, upR_all])
  have HM := Lib.hid hM
  have HT := Lib.hid ht
  have hmN : m < N := by omega
  have HST : Hid (∀ u p (dk : Array α), p = a + u → u < A.length → dk.toList = upR L x A Z (u + 1) → (swp dk (p + 1) p).toList = upR L x A Z u) := Lib.hid fun u p dk hp hu hk => upR_back hk hu (by omega) rfl
  have HA : Hid (d[m]! = x) := Lib.hid hx
  have hma : ((m : Int) - (a : Int) == 1) = false := by simp; omega
  have hbm : (b : Int) - (m : Int) = 1 := by omega
  have hHm : Hid (m = a + A.length) := Lib.hid hm
  have ham : a < m := by omega
  clear S hcmp hd ha hb hlen hM ht hx hm hA1
  go_enter Try.func38, Try.ntmps38
  go_wp2
  go_loopw [14, 15] (fun vi vj wr => ∃ (i j : Nat), vi = .int .i64 i ∧ vj = .int .i64 j ∧ a ≤ i ∧ i ≤ j ∧ j ≤ m ∧ Aside (SW enc w0 blk off d wr) ∧ Hid ((i = a ∨ ¬ LtC cf d[m]! d[i - 1]!) ∧ (j = m ∨ LtC cf d[m]! d[j]!))) (fun i j _ => (intOf j).toNat - (intOf i).toNat)
  case atStart => exact ⟨a, m, rfl, rfl, Nat.le_refl _, by omega, Nat.le_refl _, S0, Lib.hid ⟨.inl rfl, .inl rfl⟩⟩
  case round =>
    clear S0
    obtain ⟨i, j, rfl, rfl, hmi, hij, hjb, S1, HI⟩ := hrel
    by_cases hlt : i < j
    · have hltz : (i : Int) < (j : Int) := by omega
      obtain ⟨h, hh⟩ : ∃ h, h = (i + j) / 2 := ⟨_, rfl⟩
      have hz : ((i : Int) + (j : Int)) / 2 = (h : Int) := by omega
      have hih : i ≤ h := by omega
      have hhj : h < j := by omega
      have bh1 : (h : Int) < (N : Int) := by omega
      have bh2 : (m : Int) < (N : Int) := by omega
      have la := S1.out.cl R (by omega) h (by omega)
      have lb := S1.out.cl R (by omega) m (by omega)
      have hc := S1.out.cmp HC.out (by omega) d[m]! d[h]!
      clear hh
      by_cases hv : cf d[m]! d[h]! < 0
      · have hd1 : decide (cf d[m]! d[h]! < 0) = true := decide_eq_true hv
        have HI2 : Hid ((i = a ∨ ¬ LtC cf d[m]! d[i - 1]!) ∧ (h = m ∨ LtC cf d[m]! d[h]!)) := Lib.hid ⟨HI.out.1, .inr hv⟩
        obtain ⟨xh, hxh⟩ : ∃ x, x = d[h]! := ⟨_, rfl⟩
        obtain ⟨xa, hxa⟩ : ∃ x, x = d[m]! := ⟨_, rfl⟩
        rw [← hxh] at la hc hv hd1
        rw [← hxa] at lb hc hv hd1
        clear hxh hxa
        go_wp2_with fail
        go_quiet_grown (first | (go_at_fn g; refine Calls.grown_of (hc _ _)))
        have S2 : Aside (SW enc w0 blk off d (grow (wr.drewN nq) osq)) := S1.out.grown nq osq
        clear la lb hc S1
        generalize grow (wr.drewN nq) osq = w2 at S2 ⊢
        clear nq osq
        go_wp2
        go_roundw
        case rel => exact ⟨i, h, rfl, rfl, hmi, hih, by omega, S2, HI2⟩
        case measure => simp [intOf]; omega
      · have hd1 : decide (cf d[m]! d[h]! < 0) = false := decide_eq_false hv
        have HI2 : Hid ((h + 1 = a ∨ ¬ LtC cf d[m]! d[h + 1 - 1]!) ∧ (j = m ∨ LtC cf d[m]! d[j]!)) := Lib.hid ⟨.inr (by rw [Nat.add_sub_cancel]; exact hv), HI.out.2⟩
        obtain ⟨xh, hxh⟩ : ∃ x, x = d[h]! := ⟨_, rfl⟩
        obtain ⟨xa, hxa⟩ : ∃ x, x = d[m]! := ⟨_, rfl⟩
        rw [← hxh] at la hc hv hd1
        rw [← hxa] at lb hc hv hd1
        clear hxh hxa
        go_wp2_with fail
        go_quiet_grown (first | (go_at_fn g; refine Calls.grown_of (hc _ _)))
        have S2 : Aside (SW enc w0 blk off d (grow (wr.drewN nq) osq)) := S1.out.grown nq osq
        clear la lb hc S1
        generalize grow (wr.drewN nq) osq = w2 at S2 ⊢
        clear nq osq
        go_wp2
        go_roundw
        case rel => exact ⟨h + 1, j, by go_num, rfl, by omega, by omega, hjb, S2, HI2⟩
        case measure => simp [intOf]; omega
    · obtain rfl : i = j := by omega
      have HO : Hid (Out lt A [x] (A.take (i - a) ++ x :: A.drop (i - a))) := Lib.hid (by
        obtain ⟨h1, h2⟩ := HI.out
        have h9 := hHm.out
        rw [HA.out] at h1 h2
        unfold LtC at h1 h2
        refine merge2 HT.out HM.out (by omega) default ?_ ?_
        · rcases Nat.lt_or_ge a i with hmi2 | hmi2
          · rcases h1 with h1 | h1
            · omega
            · rw [HB.out (i - a - 1) (i - 1) (by omega) (by omega)] at h1
              exact .inr h1
          · exact .inl (by omega)
        · rcases Nat.lt_or_ge i m with hmi2 | hmi2
          · rcases h2 with h2 | h2
            · omega
            · rw [HB.out (i - a) i (by omega) (by omega)] at h2
              exact .inr h2
          · exact .inl (by omega))
      clear HI
      go_wp2
      go_loopw [17] (fun vk wr2 => ∃ (k : Nat) (dk : Array α), vk = .int .i64 k ∧ i ≤ k ∧ k ≤ m ∧ dk.size = N ∧ Aside (SW enc w0 blk off dk wr2) ∧ Hid (dk.toList = upR L x A Z (k - a))) (fun k _ => (intOf k).toNat - i)
      case atStart => exact ⟨m, d, rfl, hjb, Nat.le_refl _, hdN, S1, Lib.hid (by rw [HD.out]; congr 1; have := hHm.out; omega)⟩
      case round =>
        clear S1
        obtain ⟨k, dk, rfl, hak, hke, hds, S1, HK⟩ := hrel
        by_cases hlt2 : i < k
        · have hltz : (k : Int) > (i : Int) := by omega
          have hltz2 : (i : Int) < (k : Int) := by omega
          obtain ⟨k1, hk1⟩ : ∃ q, q = k - 1 := ⟨_, rfl⟩
          have HK2 : Hid ((swp dk k k1).toList = upR L x A Z (k1 - a)) := Lib.hid (by
            have h5 := hHm.out
            have h6 := HK.out
            have := HST.out (k1 - a) k1 dk (by omega) (by omega) (by rw [h6]; congr 1; omega)
            rwa [show k1 + 1 = k by omega] at this)
          have hz : (k : Int) - 1 = (k1 : Int) := by omega
          have bk : (k : Int) < (N : Int) := by omega
          have bk1 : (k1 : Int) < (N : Int) := by omega
          obtain ⟨p, hp⟩ : ∃ x, x = dk[k]! := ⟨_, rfl⟩
          obtain ⟨q, hq⟩ : ∃ x, x = dk[k1]! := ⟨_, rfl⟩
          have S2 : Aside (SW enc w0 blk off (swp dk k k1) ((wr.setCell ⟨blk, off + k, none⟩ (enc q)).setCell ⟨blk, off + k1, none⟩ (enc p)).drew) := by rw [hp, hq]; exact S1.out.swapped R k k1 (by omega) (by omega)
          have c1 := S1.out.c1 R (by omega) k (by omega)
          have c2 := S1.out.c1 R (by omega) k1 (by omega)
          have f1 := S1.out.f1 R (by omega) k (by omega)
          have f2 := S1.out.f1 R (by omega) k1 (by omega)
          obtain ⟨u, c3⟩ := S1.out.c2 R (by omega) k k1 (by omega) (by omega) (enc q)
          rw [← hp] at c1
          rw [← hq] at c2
          have hk1' : Hid (k1 = k - 1) := Lib.hid hk1
          clear S1 hp hq HK hk1
          go_wp2_with fail
          go_region
          clear c1 c2 c3 f1 f2
          generalize ((wr.setCell ⟨blk, off + k, none⟩ (enc q)).setCell ⟨blk, off + k1, none⟩ (enc p)).drew = w2 at S2 ⊢
          go_wp2
          go_roundw
          case rel => exact ⟨k1, _, by first | rfl | go_num, by have := hk1'.out; omega, by have := hk1'.out; omega, by rw [size_swp]; exact hds, S2, HK2⟩
          case measure => simp [intOf]; have := hk1'.out; omega
        · obtain rfl : k = i := by omega
          have hltz : ¬ (k : Int) > (k : Int) := by omega
          have hltz2 : ¬ (k : Int) < (k : Int) := by omega
          go_wp2
          exact bodyPost_ret (results_none rfl _ _ _) rfl ⟨rfl, dk, _, hds, by rw [HK.out, upR_out], HO.out, S1.out⟩
end Go.Proofs.Ythcnmaapcniehaa
