/- slices.symMergeCmpFunc: two sorted runs become one. -/
import Derived.Test.YthcnmaapcniehaaSymX
import Derived.Deep.Cut
namespace Go.Proofs.Ythcnmaapcniehaa
open Go.Shelf Go.RowKit Go.Lib Go.Sort
set_option linter.unusedVariables false
variable {α : Type} [Inhabited α]

/-- What is claimed of merges shorter than s. -/
def SymIH (enc : α → Value) (lt : α → α → Prop) (cf : α → α → Int) (g : Nat) (gb : Array Value) (blk off cap N : Nat) (w0 : World) (s : Nat) : Prop :=
  ∀ (L A B Z : List α) (d : Array α) (w : World) (a m b : Nat), 0 < A.length → 0 < B.length → A.length + B.length < s → SW enc w0 blk off d w → d.size = N → d.toList = L ++ (A ++ (B ++ Z)) → Mrg lt cf A B → a = L.length → m = a + A.length → b = m + B.length →
    Calls Try.prog 38 #[.slice (some ⟨blk, off, none⟩) N cap, .int .i64 a, .int .i64 m, .int .i64 b, .func (.func g) #[] gb] w (SymEnd enc lt w0 blk off N L A B Z)

set_option maxHeartbeats 16000000 in
set_option maxRecDepth 1000000 in
theorem symMerge3 (enc : α → Value) (lt : α → α → Prop) (cf : α → α → Int) (ht : ∀ x y z, lt x y → lt y z → lt x z) (g : Nat) (gb : Array Value) (blk off cap a m b N : Nat) (d0 d : Array α) (w0 w : World) (L A B Z : List α)
    (eg : ∀ args w, (callFunc g args).run Try.prog w = .ok (.enter g args) w) (hcmp : CmpLays1 Try.prog g gb enc cf blk off N w0) (ih : SymIH enc lt cf g gb blk off cap N w0 (A.length + B.length))
    (R : Row1 enc w0 blk off d0) (hs : d0.size = N) (S : SW enc w0 blk off d w) (hd : d.toList = L ++ (A ++ (B ++ Z))) (hM : Mrg lt cf A B) (ha : a = L.length) (hm : m = a + A.length) (hb : b = m + B.length) (hA1 : 1 < A.length) (hB1 : 1 < B.length) (hsz : N < 4611686018427387904) (hdN : d.size = N) :
    Calls Try.prog 38 #[.slice (some ⟨blk, off, none⟩) N cap, .int .i64 a, .int .i64 m, .int .i64 b, .func (.func g) #[] gb] w (SymEnd enc lt w0 blk off N L A B Z) := by
  have mixed : Try.prog.follows .mixedOrders = true := by kernel_rfl
  have hcl0 := R.hO.cells
  simp only [Value.cells] at hcl0
  have hst := R.hO.store Try.prog
  have S0 : Aside (SW enc w0 blk off d w) := S
  have HC : Aside _ := hcmp
  have hlen : N = L.length + (A.length + (B.length + Z.length)) := by
    have := congrArg List.length hd
    simp at this; omega
  have hbN : b ≤ N := by omega
  have ham : a + 1 < m := by omega
  have hmb : m + 1 < b := by omega
  obtain ⟨mid, hmid⟩ : ∃ mid, mid = (a + b) / 2 := ⟨_, rfl⟩
  have hz1 : ((a : Int) + (b : Int)) / 2 = (mid : Int) := by omega
  obtain ⟨n, hn⟩ : ∃ n, n = mid + m := ⟨_, rfl⟩
  have hz2 : (mid : Int) + (m : Int) = (n : Int) := by omega
  have ham1 : ((m : Int) - (a : Int) == 1) = false := by simp; omega
  have hbm1 : ((b : Int) - (m : Int) == 1) = false := by simp; omega
  have HP : Hid (∃ lo hi : Nat, a ≤ lo ∧ lo ≤ hi ∧ hi ≤ m ∧ hi ≤ mid ∧ n ≤ lo + b ∧ (lo = a ∨ n = lo + b) ∧ (hi = m ∨ hi = mid) ∧ (mid < m → (n : Int) - (b : Int) = lo ∧ hi = mid) ∧ (¬ mid < m → lo = a ∧ hi = m)) := Lib.hid (by
    by_cases h : mid < m
    · exact ⟨n - b, mid, by omega, by omega, by omega, by omega, by omega, by omega, by omega, fun _ => ⟨by omega, rfl⟩, fun h2 => absurd h h2⟩
    · exact ⟨a, m, by omega, by omega, by omega, by omega, by omega, by omega, by omega, fun h2 => absurd h2 h, fun _ => ⟨rfl, rfl⟩⟩)
  obtain ⟨lo, hi, hlo, hlh, hhm, hhi, hnb, hLO, hHI, hw1, hw2⟩ := HP.out
  clear HP
  have HLO := Lib.hid hLO
  have HHI := Lib.hid hHI
  have hz3 : (n : Int) - 1 = ((n - 1 : Nat) : Int) := by omega
  obtain ⟨p, hp⟩ : ∃ p, p = n - 1 := ⟨_, rfl⟩
  rw [← hp] at hz3
  have hnp : n = p + 1 := by omega
  have hmN : mid < N := by omega
  have hnab : n ≤ mid + m := by omega
  have hnba : mid + m ≤ n := by omega
  have HN : Hid (n = mid + m) := Lib.hid hn
  have HA := Lib.hid ha
  have HM1 := Lib.hid hm
  have HB1 := Lib.hid hb
  have HD := Lib.hid hd
  have HM := Lib.hid hM
  have HT := Lib.hid ht
  have HIH := Lib.hid ih
  have HNP : Hid (n = p + 1) := Lib.hid hnp
  have ham9 : a < mid := by omega
  have hmb9 : mid < b := by omega
  clear S hcmp hd ha hb hlen hM ht hm hn hp hmid hLO hHI ih hnp
  go_enter Try.func38, Try.ntmps38
  go_upto_if 140 with fail
  go_cut [20, 21] from 138 (fun s20 s21 wx => s20 = .int .i64 lo ∧ s21 = .int .i64 hi ∧ Aside (SW enc w0 blk off d wx))
  case first =>
    by_cases h : mid < m
    · obtain ⟨q1, rfl⟩ := hw1 h
      have q2 : (m : Int) > (hi : Int) := by omega
      have q3 : (hi : Int) < (m : Int) := by omega
      clear hw1 hw2
      go_wp2
      go_meet
      case rel => exact ⟨by first | rfl | (rw [q1]), rfl, S0⟩
    · obtain ⟨rfl, rfl⟩ := hw2 h
      have q2 : ¬ (hi : Int) > (mid : Int) := by omega
      have q3 : ¬ (mid : Int) < (hi : Int) := by omega
      clear hw1 hw2
      go_wp2
      go_meet
      case rel => exact ⟨rfl, rfl, S0⟩
  case rest =>
    obtain ⟨rfl, rfl, S1⟩ := hcut
    clear S0 hw1 hw2 hz1 hz2 ham1 hbm1
    go_wp2
    go_loopw [20, 21] (fun vi vj wr => ∃ (i j : Nat), vi = .int .i64 i ∧ vj = .int .i64 j ∧ lo ≤ i ∧ i ≤ j ∧ j ≤ hi ∧ Aside (SW enc w0 blk off d wr) ∧ Hid ((i = lo ∨ ¬ LtC cf d[p - (i - 1)]! d[i - 1]!) ∧ (j = hi ∨ LtC cf d[p - j]! d[j]!))) (fun i j _ => (intOf j).toNat - (intOf i).toNat)
    case atStart => exact ⟨lo, hi, rfl, rfl, Nat.le_refl _, hlh, Nat.le_refl _, S1, Lib.hid ⟨.inl rfl, .inl rfl⟩⟩
    case round =>
      clear S1
      obtain ⟨i, j, rfl, rfl, hmi, hij, hjb, S1, HI⟩ := hrel
      by_cases hlt : i < j
      · have hltz : (i : Int) < (j : Int) := by omega
        obtain ⟨h, hh⟩ : ∃ h, h = (i + j) / 2 := ⟨_, rfl⟩
        have hz : ((i : Int) + (j : Int)) / 2 = (h : Int) := by omega
        have hih : i ≤ h := by omega
        have hhj : h < j := by omega
        obtain ⟨q, hq⟩ : ∃ q, q = p - h := ⟨_, rfl⟩
        have hn9 := HN.out
        have hnp9 := HNP.out
        have hzq : (p : Int) - (h : Int) = (q : Int) := by omega
        have rq : IntKind.i64.wrap (q : Int) = (q : Int) := by rw [IntKind.wrap_i64]; omega
        have rq2 : IntKind.i64.wrap ((p : Int) - (h : Int)) = (q : Int) := by rw [IntKind.wrap_i64]; omega
        have pq : (0 : Int) ≤ (q : Int) := by omega
        have bh1 : (h : Int) < (N : Int) := by omega
        have bh2 : (q : Int) < (N : Int) := by omega
        have la := S1.out.cl R (by omega) q (by omega)
        have lb := S1.out.cl R (by omega) h (by omega)
        have hc := S1.out.cmp HC.out (by omega) d[q]! d[h]!
        clear hh hn9 hnp9
        by_cases hv : cf d[q]! d[h]! < 0
        · have hd1 : decide (cf d[q]! d[h]! < 0) = true := decide_eq_true hv
          have HI2 : Hid ((i = lo ∨ ¬ LtC cf d[p - (i - 1)]! d[i - 1]!) ∧ (h = hi ∨ LtC cf d[p - h]! d[h]!)) := Lib.hid ⟨HI.out.1, .inr (by rw [← hq]; exact hv)⟩
          obtain ⟨xh, hxh⟩ : ∃ x, x = d[q]! := ⟨_, rfl⟩
          obtain ⟨xa, hxa⟩ : ∃ x, x = d[h]! := ⟨_, rfl⟩
          rw [← hxh] at la hc hv hd1
          rw [← hxa] at lb hc hv hd1
          clear hxh hxa hq
          go_wp2_with fail
          go_quiet_grown (first | (go_at_fn g; refine Calls.grown_of (hc _ _)))
          have S2 : Aside (SW enc w0 blk off d (grow (wr.drewN nq) osq)) := S1.out.grown nq osq
          clear la lb hc S1
          generalize grow (wr.drewN nq) osq = w2 at S2 ⊢
          clear nq osq
          go_wp2
          go_roundw
          case rel => exact ⟨i, h, rfl, rfl, hmi, hih, by omega, S2, HI2⟩
          case measure => simp [intOf]; omega
        · have hd1 : decide (cf d[q]! d[h]! < 0) = false := decide_eq_false hv
          have HI2 : Hid ((h + 1 = lo ∨ ¬ LtC cf d[p - (h + 1 - 1)]! d[h + 1 - 1]!) ∧ (j = hi ∨ LtC cf d[p - j]! d[j]!)) := Lib.hid ⟨.inr (by rw [Nat.add_sub_cancel, ← hq]; exact hv), HI.out.2⟩
          obtain ⟨xh, hxh⟩ : ∃ x, x = d[q]! := ⟨_, rfl⟩
          obtain ⟨xa, hxa⟩ : ∃ x, x = d[h]! := ⟨_, rfl⟩
          rw [← hxh] at la hc hv hd1
          rw [← hxa] at lb hc hv hd1
          clear hxh hxa hq
          go_wp2_with fail
          go_quiet_grown (first | (go_at_fn g; refine Calls.grown_of (hc _ _)))
          have S2 : Aside (SW enc w0 blk off d (grow (wr.drewN nq) osq)) := S1.out.grown nq osq
          clear la lb hc S1
          generalize grow (wr.drewN nq) osq = w2 at S2 ⊢
          clear nq osq
          go_wp2
          go_roundw
          case rel => exact ⟨h + 1, j, by go_num, rfl, by omega, by omega, hjb, S2, HI2⟩
          case measure => simp [intOf]; omega
      · obtain rfl : i = j := by omega
        obtain ⟨e, he⟩ : ∃ e, e = n - i := ⟨_, rfl⟩
        have hn9 := HN.out
        have hze : (n : Int) - (i : Int) = (e : Int) := by omega
        have HPT : Hid (∃ A1 A2 B1 B2 : List α, A = A1 ++ A2 ∧ B = B1 ++ B2 ∧ a + A1.length = i ∧ m + B1.length = e ∧ Mrg lt cf A1 B1 ∧ Mrg lt cf A2 B2 ∧ ∀ C1 C2, Out lt A1 B1 C1 → Out lt A2 B2 C2 → Out lt A B (C1 ++ C2)) := Lib.hid (by
          obtain ⟨h1, h2⟩ := HI.out
          have hp9 : p = n - 1 := by have := HNP.out; omega
          unfold LtC at h1 h2
          rw [hp9] at h1 h2
          exact merge_parts HT.out HD.out HM.out HA.out HM1.out HB1.out hn9 hlo hmi hjb hhm hhi hnb HLO.out HHI.out (by omega) h1 h2)
        obtain ⟨A1, A2, B1, B2, hA, hB, hA9, hB9, hM1, hM2, hO⟩ := HPT.out
        have HO := Lib.hid hO
        have HMA := Lib.hid hM1
        have HMB := Lib.hid hM2
        have hla : A1.length + A2.length = A.length := by rw [hA]; simp
        have hlb : B1.length + B2.length = B.length := by rw [hB]; simp
        have hm9 := HM1.out
        have hb9 := HB1.out
        have ha9 := HA.out
        have HD0 : Hid (d.toList = L ++ (A1 ++ (A2 ++ (B1 ++ (B2 ++ Z))))) := Lib.hid (by rw [HD.out, hA, hB]; simp)
        have hIM : i + A2.length = m := by omega
        have hEB : e + B2.length = b := by omega
        have hMD : a + A1.length + B1.length = mid := by omega
        clear hO hM1 hM2 hA hB HPT HI hn9 he HD HM HLO HHI hlo hmi hij hjb hhm hhi hnb hlh
        clear HN HNP
        have HEQ : Hid (a + A1.length = i ∧ m + B1.length = e ∧ i + A2.length = m ∧ e + B2.length = b ∧ a + A1.length + B1.length = mid ∧ A1.length + A2.length = A.length ∧ B1.length + B2.length = B.length ∧ a < mid ∧ mid < b) := Lib.hid ⟨hA9, hB9, hIM, hEB, hMD, hla, hlb, ham9, hmb9⟩
        clear hm9 hb9 ha9 hA9 hB9 hIM hEB hMD hla hlb
        go_upto_region 39 with fail
        go_cut [185] from 178 (fun s185 wx => ∃ t : Bool, s185 = .bool t ∧ Hid (t = true ↔ 0 < A2.length ∧ 0 < B1.length) ∧ Aside (SW enc w0 blk off d wx))
        case first =>
          rcases Nat.eq_zero_or_pos A2.length with h1 | h1
          · have q1 : ¬ (i : Int) < (m : Int) := by have hq := HEQ.out; omega
            have q3 : decide ((i : Int) < (m : Int)) = false := decide_eq_false q1
            go_wp2
            go_meet
            case rel => exact ⟨false, rfl, Lib.hid ⟨fun h => Bool.noConfusion h, fun h => by omega⟩, S1⟩
          · have q1 : (i : Int) < (m : Int) := by have hq := HEQ.out; omega
            have q3 : decide ((i : Int) < (m : Int)) = true := decide_eq_true q1
            rcases Nat.eq_zero_or_pos B1.length with h2 | h2
            · have q2 : ¬ (m : Int) < (e : Int) := by have hq := HEQ.out; omega
              have q4 : decide ((m : Int) < (e : Int)) = false := decide_eq_false q2
              go_wp2
              go_meet
              case rel => exact ⟨false, rfl, Lib.hid ⟨fun h => Bool.noConfusion h, fun h => by omega⟩, S1⟩
            · have q2 : (m : Int) < (e : Int) := by have hq := HEQ.out; omega
              have q4 : decide ((m : Int) < (e : Int)) = true := decide_eq_true q2
              go_wp2
              go_meet
              case rel => exact ⟨true, rfl, Lib.hid ⟨fun _ => ⟨h1, h2⟩, fun _ => rfl⟩, S1⟩
        case rest =>
        obtain ⟨t1, rfl, HT1, S1⟩ := hcut
        go_upto_if 185 with fail
        go_cut [] from 186 (fun wx => ∃ d1 : Array α, d1.size = N ∧ Hid (d1.toList = L ++ (A1 ++ (B1 ++ (A2 ++ (B2 ++ Z))))) ∧ Aside (SW enc w0 blk off d1 wx))
        case first =>
          cases t1 with
          | true =>
            have h := HT1.out.1 rfl
            have hC := Lib.hid (rotate enc (.func (.func g) #[] gb) blk off cap i m e N d0 d w0 wc (L ++ A1) A2 B1 (B2 ++ Z) R hs S1.out (by rw [HD0.out]; simp) (by have hq := HEQ.out; have := HA.out; simp; omega) (by have hq := HEQ.out; have := HA.out; simp; omega) (by have hq := HEQ.out; have := HA.out; simp; omega) h.1 h.2 hsz hdN)
            go_wp2_with fail
            refine hC.out.mono ?_; rintro e9 w2 ⟨rfl, d1, hs1, hd1, S2⟩
            go_wp2
            go_meet
            case rel => exact ⟨d1, hs1, Lib.hid (by rw [hd1]; simp), S2⟩
          | false =>
            have h : ¬ (0 < A2.length ∧ 0 < B1.length) := fun h => by have := HT1.out.2 h; cases this
            have HD1 : Hid (d.toList = L ++ (A1 ++ (B1 ++ (A2 ++ (B2 ++ Z))))) := Lib.hid (by
              rw [HD0.out]
              rcases Nat.eq_zero_or_pos A2.length with h1 | h1
              · rw [List.length_eq_zero_iff.1 h1]; simp
              · have h2 : B1.length = 0 := by have hq := HEQ.out; omega
                rw [List.length_eq_zero_iff.1 h2]; simp)
            go_wp2
            go_meet
            case rel => exact ⟨d, hdN, HD1, S1⟩
        case rest =>
        obtain ⟨d1, hs1, HD1, S2⟩ := hcut
        clear S1 HD0 HT1
        go_upto_region 41 with fail
        go_cut [199] from 186 (fun s199 wx => ∃ t : Bool, s199 = .bool t ∧ Hid (t = true ↔ 0 < A1.length ∧ 0 < B1.length) ∧ Aside (SW enc w0 blk off d1 wx))
        case first =>
          rcases Nat.eq_zero_or_pos A1.length with h1 | h1
          · have q1 : ¬ (a : Int) < (i : Int) := by have hq := HEQ.out; omega
            have q3 : decide ((a : Int) < (i : Int)) = false := decide_eq_false q1
            go_wp2
            go_meet
            case rel => exact ⟨false, rfl, Lib.hid ⟨fun h => Bool.noConfusion h, fun h => by omega⟩, S2⟩
          · have q1 : (a : Int) < (i : Int) := by have hq := HEQ.out; omega
            have q3 : decide ((a : Int) < (i : Int)) = true := decide_eq_true q1
            rcases Nat.eq_zero_or_pos B1.length with h2 | h2
            · have q2 : ¬ (i : Int) < (mid : Int) := by have hq := HEQ.out; omega
              have q4 : decide ((i : Int) < (mid : Int)) = false := decide_eq_false q2
              go_wp2
              go_meet
              case rel => exact ⟨false, rfl, Lib.hid ⟨fun h => Bool.noConfusion h, fun h => by omega⟩, S2⟩
            · have q2 : (i : Int) < (mid : Int) := by have hq := HEQ.out; omega
              have q4 : decide ((i : Int) < (mid : Int)) = true := decide_eq_true q2
              go_wp2
              go_meet
              case rel => exact ⟨true, rfl, Lib.hid ⟨fun _ => ⟨h1, h2⟩, fun _ => rfl⟩, S2⟩
        case rest =>
        obtain ⟨t2, rfl, HT2, S2⟩ := hcut
        go_upto_if 199 with fail
        go_cut [] from 200 (fun wx => ∃ (d2 : Array α) (C1 : List α), d2.size = N ∧ Hid (d2.toList = L ++ (C1 ++ (A2 ++ (B2 ++ Z)))) ∧ Hid (Out lt A1 B1 C1) ∧ Aside (SW enc w0 blk off d2 wx))
        case first =>
          cases t2 with
          | true =>
            have h := HT2.out.1 rfl
            have hC := Lib.hid (HIH.out L A1 B1 (A2 ++ (B2 ++ Z)) d1 wc a i mid h.1 h.2 (by have hq := HEQ.out; omega) S2.out hs1 HD1.out HMA.out HA.out (by have hq := HEQ.out; omega) (by have hq := HEQ.out; omega))
            go_wp2_with fail
            refine hC.out.mono ?_; rintro e9 w2 ⟨rfl, d2, C1, hs2, hd2, hO1, S3⟩
            go_wp2
            go_meet
            case rel => exact ⟨d2, C1, hs2, Lib.hid hd2, Lib.hid hO1, S3⟩
          | false =>
            have h : ¬ (0 < A1.length ∧ 0 < B1.length) := fun h => by have := HT2.out.2 h; cases this
            have HO1 : Hid (Out lt A1 B1 (A1 ++ B1)) := Lib.hid (by
              rcases Nat.eq_zero_or_pos A1.length with h1 | h1
              · rw [List.length_eq_zero_iff.1 h1]; exact Out.right HMA.out.2.1
              · rw [List.length_eq_zero_iff.1 (show B1.length = 0 by have hq := HEQ.out; omega), List.append_nil]; exact Out.left HMA.out.1)
            go_wp2
            go_meet
            case rel => exact ⟨d1, A1 ++ B1, hs1, Lib.hid (by rw [HD1.out]; simp), HO1, S2⟩
        case rest =>
        obtain ⟨d2, C1, hs2, HD2, HO1, S3⟩ := hcut
        clear S2 HD1 HT2
        go_upto_region 43 with fail
        go_cut [213] from 200 (fun s213 wx => ∃ t : Bool, s213 = .bool t ∧ Hid (t = true ↔ 0 < A2.length ∧ 0 < B2.length) ∧ Aside (SW enc w0 blk off d2 wx))
        case first =>
          rcases Nat.eq_zero_or_pos A2.length with h1 | h1
          · have q1 : ¬ (mid : Int) < (e : Int) := by have hq := HEQ.out; omega
            have q3 : decide ((mid : Int) < (e : Int)) = false := decide_eq_false q1
            go_wp2
            go_meet
            case rel => exact ⟨false, rfl, Lib.hid ⟨fun h => Bool.noConfusion h, fun h => by omega⟩, S3⟩
          · have q1 : (mid : Int) < (e : Int) := by have hq := HEQ.out; omega
            have q3 : decide ((mid : Int) < (e : Int)) = true := decide_eq_true q1
            rcases Nat.eq_zero_or_pos B2.length with h2 | h2
            · have q2 : ¬ (e : Int) < (b : Int) := by have hq := HEQ.out; omega
              have q4 : decide ((e : Int) < (b : Int)) = false := decide_eq_false q2
              go_wp2
              go_meet
              case rel => exact ⟨false, rfl, Lib.hid ⟨fun h => Bool.noConfusion h, fun h => by omega⟩, S3⟩
            · have q2 : (e : Int) < (b : Int) := by have hq := HEQ.out; omega
              have q4 : decide ((e : Int) < (b : Int)) = true := decide_eq_true q2
              go_wp2
              go_meet
              case rel => exact ⟨true, rfl, Lib.hid ⟨fun _ => ⟨h1, h2⟩, fun _ => rfl⟩, S3⟩
        case rest =>
        obtain ⟨t3, rfl, HT3, S3⟩ := hcut
        cases t3 with
        | true =>
          have h := HT3.out.1 rfl
          have hC := Lib.hid (HIH.out (L ++ C1) A2 B2 Z d2 wc mid e b h.1 h.2 (by have hq := HEQ.out; omega) S3.out hs2 (by rw [HD2.out]; simp) HMB.out (by have hq := HEQ.out; have := HO1.out.2.1; have := HA.out; simp; omega) (by have hq := HEQ.out; omega) (by have hq := HEQ.out; omega))
          go_wp2_with fail
          refine hC.out.mono ?_; rintro e9 w2 ⟨rfl, d3, C2, hs3, hd3, hO2, S4⟩
          have HE : Hid (SymEnd enc lt w0 blk off N L A B Z (.returned (.tuple #[])) w2) := Lib.hid ⟨rfl, d3, C1 ++ C2, hs3, by rw [hd3]; simp, HO.out _ _ HO1.out hO2, S4⟩
          go_wp2
          go_end0
          exact HE.out
        | false =>
          have h : ¬ (0 < A2.length ∧ 0 < B2.length) := fun h => by have := HT3.out.2 h; cases this
          have HO2 : Hid (Out lt A2 B2 (A2 ++ B2)) := Lib.hid (by
            rcases Nat.eq_zero_or_pos A2.length with h1 | h1
            · rw [List.length_eq_zero_iff.1 h1]; exact Out.right HMB.out.2.1
            · rw [List.length_eq_zero_iff.1 (show B2.length = 0 by have hq := HEQ.out; omega), List.append_nil]; exact Out.left HMB.out.1)
          have HE : Hid (SymEnd enc lt w0 blk off N L A B Z (.returned (.tuple #[])) wc) := Lib.hid ⟨rfl, d2, C1 ++ (A2 ++ B2), hs2, by rw [HD2.out]; simp, HO.out _ _ HO1.out HO2.out, S3.out⟩
          go_wp2
          go_end0
          exact HE.out

theorem symMerge (enc : α → Value) (lt : α → α → Prop) (cf : α → α → Int) (ht : ∀ x y z, lt x y → lt y z → lt x z) (g : Nat) (gb : Array Value) (blk off cap N : Nat) (d0 : Array α) (w0 : World)
    (eg : ∀ args w, (callFunc g args).run Try.prog w = .ok (.enter g args) w) (hcmp : CmpLays1 Try.prog g gb enc cf blk off N w0)
    (R : Row1 enc w0 blk off d0) (hs : d0.size = N) (hsz : N < 4611686018427387904) : ∀ s, SymIH enc lt cf g gb blk off cap N w0 s := by
  intro s
  induction s with
  | zero => intro L A B Z d w a m b _ _ h; omega
  | succ s ih =>
    intro L A B Z d w a m b hA hB hlt S hdN hd hM ha hm hb
    have ih' : SymIH enc lt cf g gb blk off cap N w0 (A.length + B.length) := fun L' A' B' Z' d' w' a' m' b' q1 q2 q3 => ih L' A' B' Z' d' w' a' m' b' q1 q2 (by omega)
    rcases Nat.lt_or_ge 1 A.length with h1 | h1
    · rcases Nat.lt_or_ge 1 B.length with h2 | h2
      · exact symMerge3 enc lt cf ht g gb blk off cap a m b N d0 d w0 w L A B Z eg hcmp ih' R hs S hd hM ha hm hb h1 h2 hsz hdN
      · obtain ⟨x, rfl⟩ := List.length_eq_one_iff.1 (show B.length = 1 by omega)
        exact symMerge2 enc lt cf ht g gb blk off cap a m b N d0 d w0 w L A Z x eg hcmp R hs S hd hM ha hm (by simpa using hb) h1 hsz hdN
    · obtain ⟨x, rfl⟩ := List.length_eq_one_iff.1 (show A.length = 1 by omega)
      exact symMerge1 enc lt cf ht g gb blk off cap a m b N d0 d w0 w L B Z x eg hcmp R hs S hd hM ha (by simpa using hm) hb hsz hdN
end Go.Proofs.Ythcnmaapcniehaa
