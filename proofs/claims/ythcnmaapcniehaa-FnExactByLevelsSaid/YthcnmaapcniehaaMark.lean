/- Contracts of the laws' helpers that mark a network's rows with running numbers, and ask whether the marks are still held. -/
import Derived.Test.YthcnmaapcniehaaNetA
namespace Go.Proofs.Ythcnmaapcniehaa
open Go.RowKit
set_option linter.unusedVariables false

/-- The rows behind a marking that begins at k. -/
def marksSS : Int → List (List Int) → List (List Int)
  | _, [] => []
  | k, r :: rs => marks k r.length :: marksSS (k + r.length) rs

theorem marksSS_length (rows : List (List Int)) : ∀ k, (marksSS k rows).length = rows.length := by
  induction rows with
  | nil => intro k; rfl
  | cons r rs ih => intro k; simp [marksSS, ih]

theorem marksSS_get (rows : List (List Int)) : ∀ (k : Int) (i : Nat) (h : i < rows.length) (h' : i < (marksSS k rows).length), (marksSS k rows)[i] = marks (k + sumLen (rows.take i)) rows[i].length := by
  induction rows with
  | nil => intro k i h; exact absurd h (Nat.not_lt_zero _)
  | cons r rs ih =>
    intro k i h h'
    cases i with
    | zero => simp [marksSS, sumLen]
    | succ i =>
      simp only [marksSS, List.getElem_cons_succ, List.take_succ_cons]
      rw [ih (k + r.length) i (by simpa using h)]
      congr 1
      simp [sumLen]; omega

theorem sumLen_marks (rows : List (List Int)) : ∀ k, sumLen (marksSS k rows) = sumLen rows := by
  induction rows with
  | nil => intro k; rfl
  | cons r rs ih =>
    intro k
    have := ih (k + r.length)
    unfold sumLen at *
    simp only [marksSS, List.map_cons, List.sum_cons, marks_length, this]

theorem set_mid {α : Type} (A B : List α) (y x : α) (j : Nat) (h : A.length = j) : (A ++ y :: B).set j x = A ++ x :: B := by subst h; simp

/-- A row, in its own block alone. -/
theorem OwnI.tight {e : TypeId} {w : World} {lo hi : Nat} {v : Value} {xs : List Int} (h : OwnI e w lo hi v xs) :
    (v = .slice none 0 0 ∧ xs = []) ∨ ∃ g, v.ownBlock = some g ∧ lo ≤ g ∧ g < hi ∧ g < w.heap.size ∧ OwnI e w g (g + 1) v xs := by
  obtain ⟨⟨h1, h2⟩, h3⟩ := h
  have h1' := h1
  rcases h1.2 with ⟨rfl, hn⟩ | ⟨g, cap, cur, rfl, hb, hgg, rest⟩
  · exact .inl ⟨rfl, List.map_eq_nil_iff.1 (List.eq_nil_of_length_eq_zero hn)⟩
  · exact .inr ⟨g, rfl, hb, h2 g rfl, (h1.lt g rfl).2, ⟨⟨h1.1, .inr ⟨g, cap, cur, rfl, Nat.le_refl _, hgg, rest⟩⟩, fun g' hg' => by simp [Value.ownBlock] at hg'; omega⟩, h3⟩

/-- One row of many is written anew. -/
theorem RowsOwn.put {e : TypeId} {w w' : World} {lo hi : Nat} {vs : List Value} {rows : List (List Int)} {i : Nat} {xs : List Int} (h : RowsOwn e w lo hi vs rows) (hi' : i < vs.length) {g : Nat} (hg : vs[i].ownBlock = some g)
    (ho : OwnI e w' lo hi vs[i] xs) (hc : Chg g (g + 1) w w') : RowsOwn e w' lo hi vs (rows.set i xs) := by
  refine ⟨by simp [h.1], fun j h1 h2 => ?_, h.2.2⟩
  by_cases hj : j = i
  · subst hj
    rw [List.getElem_set_self]
    exact ho
  · rw [List.getElem_set_ne (by omega)]
    have hr := h.2.1 j h1 (by simpa using h2)
    rcases hr.tight with ⟨hv, hx⟩ | ⟨g', hg', _, _, _, ht⟩
    · rw [hv, hx]; exact ⟨Own.nil _ _ _ _, by simp⟩
    · have hne : g' ≠ g := fun e => h.2.2 j i h1 hi' g' hj hg' (by rw [hg, e])
      have := ht.chg hc (by omega)
      exact this.wide (hr.1.lt hg').1 (hr.1.lt hg').2.1

theorem Chg.wide {lo hi lo' hi' : Nat} {w w' : World} (h : Chg lo hi w w') (h1 : lo' ≤ lo) (h2 : hi ≤ hi') : Chg lo' hi' w w' :=
  ⟨h.os, h.tape, h.output, h.size, fun k hk ho => h.block k hk (by omega)⟩
theorem Chg.trans {lo hi : Nat} {a b c : World} (h : Chg lo hi a b) (k : Chg lo hi b c) : Chg lo hi a c :=
  ⟨k.os.trans h.os, k.tape.trans h.tape, k.output.trans h.output, Nat.le_trans h.size k.size, fun i hi ho => (k.block i (Nat.lt_of_lt_of_le hi h.size) ho).trans (h.block i hi ho)⟩
theorem Chg.drew {lo hi : Nat} {a b : World} (h : Chg lo hi a b) : Chg lo hi a b.drew := ⟨h.os, h.tape, h.output, h.size, h.block⟩

set_option maxHeartbeats 800000 in
theorem markIntSS (lo hi : Nat) (v : Value) (rows : List (List Int)) (k : Int) (w : World) (h : OwnSS tInt tInts w lo hi v rows) (h0 : 0 ≤ k) (h1 : k + sumLen rows ≤ 4611686018427387904) :
    Calls Try.prog 25 #[v, .int .i64 k] w fun e w' => e = .returned (.int .i64 (k + sumLen rows)) ∧ OwnSS tInt tInts w' lo hi v (marksSS k rows) ∧ Chg lo hi w w' := by
  obtain ⟨vs, hO, hR⟩ := h
  have hO' := Lib.hid hO
  rcases hO.cases with ⟨rfl, rfl⟩ | ⟨g, cap, rfl, hc1, hc2, hlo, hhi, hsz, hown, hcell, hfz⟩
  · have hr0 : rows = [] := List.eq_nil_of_length_eq_zero hR.1.symm
    subst hr0
    go_enter Try.func25, Try.ntmps25
    go_wp2
    go_loop [1, 5] (fun q i => i = .int .i64 0 ∧ q = .int .i64 k) (fun _ i => 0)
    case atStart => exact ⟨rfl, rfl⟩
    case round =>
      obtain ⟨rfl, rfl⟩ := hrel
      go_wp2
      go_ret
      exact ⟨by simp [sumLen], OwnSS.nil _ _ _ _ _, Chg.refl _ _ _⟩
  · have HL := Lib.hid hR.1
    have hcl := Lib.hid hcell
    unfold maxLen at hc2
    clear hcell hfz hown hO
    go_enter Try.func25, Try.ntmps25
    go_wp2
    go_loopw [1, 5] (fun q i wr => ∃ j : Nat, j ≤ vs.length ∧ i = .int .i64 j ∧ ∃ kj : Int, q = .int .i64 kj ∧ Hid (kj = k + sumLen (rows.take j)) ∧ RowsOwn tInt wr lo hi vs ((marksSS k rows).take j ++ rows.drop j) ∧ Own tInts wr lo hi (.slice (some ⟨g, 0, none⟩) vs.length cap) vs ∧ Chg lo hi w wr) (fun _ i _ => vs.length - (intOf i).toNat)
    case atStart => exact ⟨0, Nat.zero_le _, rfl, k, rfl, by show _ = _; simp [sumLen], by simpa using hR, hO'.out, Chg.refl _ _ _⟩
    case round =>
      obtain ⟨j, hj, rfl, kj, rfl, HK, hRj, hOj, hch⟩ := hrel
      by_cases hlt : j < vs.length
      · have hlt' : j < rows.length := by rw [← HL.out]; exact hlt
        have c1 : wr.cell? ⟨g, j, none⟩ = some vs[j] := by
          rcases hOj.cases with ⟨hx, _⟩ | ⟨g', cap', hx, _, _, _, _, _, _, hc, _⟩
          · cases hx
          · simp only [Value.slice.injEq, Option.some.injEq, Addr.mk.injEq] at hx
            obtain ⟨⟨rfl, -, -⟩, -, -⟩ := hx
            exact hc j hlt
        have hlen := len_le_sumLen rows j hlt'
        have hsum := Lib.hid (sumLen_take_succ rows j hlt')
        have hrow : ((marksSS k rows).take j ++ rows.drop j)[j]? = some rows[j] := by
          rw [List.getElem?_append_right (by simp [marksSS_length]; omega)]
          simp [marksSS_length, Nat.min_eq_left (Nat.le_of_lt hlt'), hlt']
        have hjl : j < ((marksSS k rows).take j ++ rows.drop j).length := by simp [marksSS_length]; omega
        have hrow' : ((marksSS k rows).take j ++ rows.drop j)[j] = rows[j] := by rw [List.getElem?_eq_getElem hjl] at hrow; exact Option.some.inj hrow
        have hoj := hRj.2.1 j hlt hjl
        rw [hrow'] at hoj
        have hset : ((marksSS k rows).take j ++ rows.drop j).set j (marks kj rows[j].length) = (marksSS k rows).take (j + 1) ++ rows.drop (j + 1) := by
          rw [List.drop_eq_getElem_cons hlt', List.take_succ_eq_append_getElem (by rw [marksSS_length]; exact hlt'), marksSS_get rows k j hlt', ← HK.out]
          rw [set_mid _ _ _ _ j (by simp [marksSS_length]; omega)]
          simp only [List.append_assoc, List.singleton_append]
        have hk0 : 0 ≤ kj := by rw [HK.out]; omega
        have hk1 : kj + rows[j].length ≤ 4611686018427387904 := by rw [HK.out]; omega
        have HS := Lib.hid hset
        clear hset hrow hrow' hlen
        rcases hoj.tight with ⟨hv, hx⟩ | ⟨gj, hgj, hl1, hl2, hl3, ht⟩
        · have HV := Lib.hid hv; have HX := Lib.hid hx
          clear hv hx
          have hz : Chg lo hi w wr := hch
          go_wp2_with (go_at_call 35; refine (markIntS 0 0 vs[j] [] kj _ (by rw [HV.out]; exact ⟨Own.nil _ _ _ _, by simp⟩) hk0 (by simp; omega)).mono ?_; rintro e w2 ⟨rfl, R2, c2⟩)
          have R1 : RowsOwn tInt w2 lo hi vs ((marksSS k rows).take (j + 1) ++ rows.drop (j + 1)) := by
            rw [← HS.out, HX.out]
            have h3 := hRj.chg c2 (.inr (Nat.zero_le _))
            refine ⟨by rw [List.length_set]; exact h3.1, fun i i1 i2 => ?_, h3.2.2⟩
            by_cases hij : i = j
            · subst hij
              rw [List.getElem_set_self, HV.out]
              exact ⟨Own.nil _ _ _ _, by simp [marks]⟩
            · rw [List.getElem_set_ne (by omega)]
              exact h3.2.1 i i1 (by simpa using i2)
          have R2' := hOj.chg c2 (.inr (Nat.zero_le _))
          have R3 : Chg lo hi w w2 := by
            refine ⟨c2.os.trans hch.os, c2.tape.trans hch.tape, c2.output.trans hch.output, Nat.le_trans hch.size c2.size, fun i i1 i2 => (c2.block i (Nat.lt_of_lt_of_le i1 hch.size) (.inr (Nat.zero_le _))).trans (hch.block i i1 i2)⟩
          have R4 : Hid (kj + (([] : List Int).length : Int) = k + sumLen (rows.take (j + 1))) := by
            show _ = _; rw [hsum.out, HX.out, HK.out]; simp
          clear hRj hOj hch hoj R2 c2 hz
          go_wp2
          go_roundw
          case rel => exact ⟨j + 1, by omega, by go_num, _, by first | rfl | simp, by first | exact R4 | (have := R4.out; simp at this; exact this), R1, R2', R3⟩
          case measure => simp [intOf]; omega
        · go_wp2_with (go_at_call 35; refine (markIntS gj (gj + 1) vs[j] rows[j] kj _ ht hk0 hk1).mono ?_; rintro e w2 ⟨rfl, R2, c2⟩)
          have R1 : RowsOwn tInt w2 lo hi vs ((marksSS k rows).take (j + 1) ++ rows.drop (j + 1)) := by
            rw [← HS.out]
            exact hRj.put hlt hgj (R2.wide hl1 hl2) c2
          have R2' : Own tInts w2 lo hi (.slice (some ⟨g, 0, none⟩) vs.length cap) vs := by
            have hne : g ≠ gj := fun e => by
              subst e
              rcases hOj.1.2 with ⟨hx, _⟩ | ⟨g1, cap1, cur1, hx, _, hgg1, _⟩
              · cases hx
              · simp only [Value.slice.injEq, Option.some.injEq, Addr.mk.injEq] at hx
                obtain ⟨⟨rfl, -, -⟩, -, -⟩ := hx
                rcases ht.1.1.2 with ⟨hy, _⟩ | ⟨g2, cap2, cur2, hy, _, hgg2, _⟩
                · rw [hy] at hgj; cases hgj
                · rw [hy] at hgj; simp [Value.ownBlock] at hgj; subst hgj
                  rw [hgg1] at hgg2
                  simp only [Option.some.injEq, Obj.cells.injEq] at hgg2
                  exact absurd hgg2.2.1 (by decide)
            exact ⟨ownsRow_block hOj.1 fun g1 hg1 => by simp [Value.ownBlock] at hg1; subst hg1; exact c2.block _ (hOj.lt rfl).2.2 (by omega), hOj.2⟩
          have R3 : Chg lo hi w w2 := hch.trans (c2.wide hl1 hl2)
          have R4 : Hid (kj + (rows[j].length : Int) = k + sumLen (rows.take (j + 1))) := by
            show _ = _; rw [hsum.out, HK.out]; omega
          clear hRj hOj hch hoj R2 c2 ht
          go_wp2
          go_roundw
          case rel => exact ⟨j + 1, by omega, by go_num, _, rfl, R4, R1, R2', R3⟩
          case measure => simp [intOf]; omega
      · have hj' : j = rows.length := by rw [← HL.out]; omega
        have R : OwnSS tInt tInts wr lo hi (.slice (some ⟨g, 0, none⟩) vs.length cap) (marksSS k rows) := by
          rw [hj', List.drop_length, List.append_nil, List.take_of_length_le (by rw [marksSS_length]; exact Nat.le_refl _)] at hRj
          exact ⟨vs, hOj, hRj⟩
        have HK2 : Hid (kj = k + sumLen rows) := by show _ = _; rw [HK.out, hj', List.take_length]
        clear hRj hOj
        go_wp2
        go_ret
        exact ⟨ret_int HK2.out, R, hch⟩

set_option maxHeartbeats 400000 in
theorem heldIntSS (v : Value) (rows : List (List Int)) (k : Int) (w : World) (h : IntSS w v (marksSS k rows)) (h0 : 0 ≤ k) (h1 : k + sumLen rows ≤ 4611686018427387904) :
    Calls Try.prog 26 #[v, .int .i64 k] w (GivesN w (k + sumLen rows)) := by
  obtain ⟨ao, cap, rfl, hcap, hmax, hnil, hcell⟩ := h
  have HC := Lib.hid hcell; clear hcell
  unfold maxLen at hmax
  rw [marksSS_length] at hcap ⊢
  go_enter Try.func26, Try.ntmps26
  go_wp2
  go_loopw [1, 5] (fun q i wr => ∃ j : Nat, j ≤ rows.length ∧ i = .int .i64 j ∧ ∃ kj : Int, q = .int .i64 kj ∧ Hid (kj = k + sumLen (rows.take j)) ∧ Below w.heap.size w wr) (fun _ i _ => rows.length - (intOf i).toNat)
  case atStart => exact ⟨0, Nat.zero_le _, rfl, k, rfl, by show _ = _; simp [sumLen], Below.refl _ _⟩
  case round =>
    obtain ⟨j, hj, rfl, kj, rfl, HK, hb⟩ := hrel
    by_cases hlt : j < rows.length
    · obtain ⟨b, o, u, rfl, hu, hI⟩ := HC.out j (by rw [marksSS_length]; exact hlt)
      rw [marksSS_get rows k j hlt, ← HK.out] at hI
      have c1 := Below.keeps hb _ _ hu
      have HI := Lib.hid (hI.keep (Below.keeps hb))
      have hlen := len_le_sumLen rows j hlt
      have hsum := Lib.hid (sumLen_take_succ rows j hlt)
      have hk0 : 0 ≤ kj := by rw [HK.out]; omega
      have hk1 : kj + rows[j].length ≤ 4611686018427387904 := by rw [HK.out]; omega
      clear hu hI hlen
      go_wp2_with (go_at_call 36; refine (heldIntS u rows[j].length kj _ HI.out hk0 hk1).mono ?_; rintro e w2 ⟨rfl, b2⟩)
      have R1 : Hid (kj + (rows[j].length : Int) = k + sumLen (rows.take (j + 1))) := by
        show _ = _; rw [hsum.out, HK.out]; omega
      have R2 := hb.trans (b2.mono hb.size)
      clear hb b2
      go_wp2
      go_roundw
      case rel => exact ⟨j + 1, by omega, by go_num, _, rfl, R1, R2⟩
      case measure => simp [intOf]; omega
    · have HK2 : Hid (kj = k + sumLen rows) := by show _ = _; rw [HK.out, List.take_of_length_le (by omega)]
      go_wp2
      go_ret
      exact ⟨ret_int HK2.out, hb⟩

theorem markNetwork (lo hi : Nat) (n : Int) (v : Value) (rows : List (List Int)) (k : Int) (w : World) (h : OwnSS tInt tInts w lo hi v rows) (h0 : 0 ≤ k) (h1 : k + sumLen rows ≤ 4611686018427387904) (hs : hi ≤ w.heap.size) :
    Calls Try.prog 9 #[.agg #[.int .i64 n, v], .int .i64 k] w fun e w' => e = .returned (.int .i64 (k + sumLen rows)) ∧ OwnSS tInt tInts w' lo hi v (marksSS k rows) ∧ Chg lo hi w w' := by
  have HH : Hid (∀ o, OwnSS tInt tInts (w.alloc o) lo hi v rows) := fun o => h.below ((Below.refl _ w).alloc (Nat.le_refl _) o) hs
  obtain ⟨a, l, c, hv⟩ := h.shape
  subst hv
  go_enter Try.func9, Try.ntmps9
  go_wp2_with (go_at_call 25; refine (markIntSS lo hi _ rows k _ (HH.out _) h0 h1).mono ?_; rintro e w2 ⟨rfl, R2, c2⟩)
  have R3 : Chg lo hi w w2 := by
    refine ⟨c2.os, c2.tape, c2.output, Nat.le_trans (by simp) c2.size, fun i i1 i2 => (c2.block i (by simp; omega) i2).trans (Below.heap_alloc _ _ _ i1)⟩
  clear c2
  go_ret
  exact ⟨rfl, R2, R3⟩

theorem heldNetwork (n : Int) (v : Value) (rows : List (List Int)) (k : Int) (w : World) (h : IntSS w v (marksSS k rows)) (h0 : 0 ≤ k) (h1 : k + sumLen rows ≤ 4611686018427387904) :
    Calls Try.prog 10 #[.agg #[.int .i64 n, v], .int .i64 k] w (GivesN w (k + sumLen rows)) := by
  have HH : Hid (∀ o, IntSS (w.alloc o) v (marksSS k rows)) := fun o => h.keep (Below.keeps ((Below.refl _ w).alloc (Nat.le_refl _) o))
  obtain ⟨a, c, hv, _⟩ := h
  subst hv
  have hp : 0 ≤ k + (sumLen rows : Int) := by omega
  go_enter Try.func10, Try.ntmps10
  go_wp2_with (go_at_call 26; refine (heldIntSS _ rows k _ (HH.out _) h0 h1).mono ?_; rintro e w2 ⟨rfl, b2⟩)
  go_ret
  exact ⟨rfl, ((Below.refl _ _).alloc (Nat.le_refl _) _).trans (b2.mono (by simp))⟩

end Go.Proofs.Ythcnmaapcniehaa
