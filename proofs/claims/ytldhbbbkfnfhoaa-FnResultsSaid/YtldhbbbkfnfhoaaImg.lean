/- Contracts: slices.Sort and slices.Compact of a row of the call's own; l04All; images over each of its functions. -/
import Derived.Test.YtldhbbbkfnfhoaaPerm
import Derived.Test.YtldhbbbkfnfhoaaImgP
import Derived.Test.YtldhbbbkfnfhoaaApp
import Derived.Test.YtldhbbbkfnfhoaaAllMasks
import Derived.Test.YtldhbbbkfnfhoaaApply
import Derived.Test.YtldhbbbkfnfhoaaShelfImg
import Derived.Lib.OwnBridge
namespace Go.Proofs.Ytldhbbbkfnfhoaa
open Go.RowKit Go.Lib Go.Sort
set_option linter.unusedVariables false

theorem heap_putRowI {w : World} {g q : Nat} {d : Array Int} (k : Nat) (h : k ≠ g) : (putRow (Value.int .i64) (Sort.ahead w q) g 0 d).heap[k]? = w.heap[k]? := by
  simp [putRow, mapBlock, Sort.ahead, Array.getElem?_modify, Ne.symm h]
theorem OwnI.putRowI {w : World} {lo hi g cap q k : Nat} {zs ys : List Int} (h : OwnI tInt w lo hi (.slice (some ⟨g, 0, none⟩) zs.length cap) zs) (hy : ys.length = zs.length) (hk : k ≤ zs.length) (hin : ∀ y ∈ ys.take k, In64 y) :
    OwnI tInt (putRow (Value.int .i64) (Sort.ahead w q) g 0 ys.toArray) lo hi (.slice (some ⟨g, 0, none⟩) k cap) (ys.take k) ∧ Chg lo hi w (putRow (Value.int .i64) (Sort.ahead w q) g 0 ys.toArray) := by
  have hg := h.1.lt (g := g) rfl
  have h1 := h.1.1
  rw [List.length_map] at h1
  refine ⟨⟨⟨?_, fun g' hg' => ?_⟩, hin⟩, ⟨rfl, rfl, rfl, by simp [putRow, mapBlock, Sort.ahead], fun j _ hj => heap_putRowI j (by omega)⟩⟩
  · have := ownsRow_putRow (q := q) (k := k) (ys := ys) h1 hy hk
    rw [List.length_map, List.length_take, Nat.min_eq_left (by omega)]
    exact this
  · simp [Value.ownBlock] at hg'; omega
theorem below_grow (w : World) (os : Array Obj) : Below w.heap.size w (grow w os) :=
  ⟨rfl, rfl, rfl, by simp [grow], fun k hk => by simp only [grow]; rw [Array.getElem?_append_left hk]⟩
theorem Chg.trans {lo hi : Nat} {a b c : World} (h : Chg lo hi a b) (k : Chg lo hi b c) : Chg lo hi a c :=
  ⟨k.os.trans h.os, k.tape.trans h.tape, k.output.trans h.output, Nat.le_trans h.size k.size, fun j hj ho => (k.block j (by have := h.size; omega) ho).trans (h.block j hj ho)⟩

set_option maxRecDepth 100000 in
theorem sortI (lo hi : Nat) (v : Value) (zs : List Int) (w : World) (h : OwnI tInt w lo hi v zs) (hl : zs.length ≤ 2097152) (hhi : hi ≤ w.heap.size) :
    Calls Try.prog 52 #[v] w fun e w' => e = .returned (.tuple #[]) ∧ OwnI tInt w' lo hi v (zs.mergeSort fun x y => decide (x ≤ y)) ∧ Chg lo hi w w' := by
  rcases h.1.cases with ⟨rfl, hz⟩ | ⟨g, cap, rfl, h1, h2, h3, h4, h5, hown, _, _⟩
  · have hz' : zs = [] := List.map_eq_nil_iff.1 hz
    subst hz'
    exact (Try.slices_Sort_int_none none 0 w).mono fun e w' ⟨a, b⟩ => ⟨a, by rw [b]; simpa using h, by rw [b]; exact Chg.refl _ _ _⟩
  · rw [List.length_map] at h h1 hown ⊢
    obtain ⟨g', cap', e, _, _, _, _, _, HH⟩ := holds_of_ownsRow (enc := Value.int .i64) (zs := zs) hown (by intro e; cases e)
    cases e
    refine Calls.mono (Try.slices_Sort_int g 0 cap zs w HH h5 (by omega)) fun e w' ⟨a, n, os, b⟩ => ?_
    have hln : (zs.mergeSort fun x y => decide (x ≤ y)).length = zs.length := by simp
    obtain ⟨P, Q⟩ := OwnI.putRowI (q := n) (k := zs.length) (ys := zs.mergeSort fun x y => decide (x ≤ y)) h hln (Nat.le_refl _) (fun y hy => h.2 y (by have := List.mem_of_mem_take hy; rwa [List.mem_mergeSort] at this))
    rw [List.take_of_length_le (by omega)] at P
    subst b
    have hs := Q.size
    have hg := below_grow (putRow (Value.int .i64) (Sort.ahead w n) g 0 (zs.mergeSort fun x y => decide (x ≤ y)).toArray) os
    exact ⟨a, P.below hg (by omega), Q.trans ⟨hg.os, hg.tape, hg.output, hg.size, fun j hj _ => hg.block j hj⟩⟩
set_option maxRecDepth 100000 in
theorem compactI (lo hi : Nat) (v : Value) (zs : List Int) (w : World) (h : OwnI tInt w lo hi v zs) (hl : zs.length ≤ 2097152) :
    Calls Try.prog 53 #[v] w fun e w' => ∃ u, e = .returned u ∧ OwnI tInt w' lo hi u (Lib.compact zs) ∧ Chg lo hi w w' := by
  rcases h.1.cases with ⟨rfl, hz⟩ | ⟨g, cap, rfl, h1, h2, h3, h4, h5, hown, _, _⟩
  · have hz' : zs = [] := List.map_eq_nil_iff.1 hz
    subst hz'
    exact (Try.slices_Compact_int_empty none 0 w).mono fun e w' ⟨a, b⟩ => ⟨_, a, by rw [b]; exact h, by rw [b]; exact Chg.refl _ _ _⟩
  · rw [List.length_map] at h h1 hown ⊢
    obtain ⟨g', cap', e, _, _, _, _, _, HH⟩ := holds_of_ownsRow (enc := Value.int .i64) (zs := zs) hown (by intro e; cases e)
    cases e
    refine Calls.mono (Try.slices_Compact_int g 0 cap zs w HH (by omega) h1) fun e w' ⟨a, n, b⟩ => ?_
    have hcl : (Lib.compact zs).length ≤ zs.length := by
      unfold Lib.compact Lib.compactUpTo; rw [List.length_map]; exact Nat.le_trans (List.length_filter_le _ _) (by simp)
    obtain ⟨P, Q⟩ := OwnI.putRowI (q := n) (k := (Lib.compact zs).length) (ys := Lib.compact zs ++ List.replicate (zs.length - (Lib.compact zs).length) 0) h (by simp; omega) hcl (fun y hy => h.2 y (by
      rw [List.take_append_of_le_length (Nat.le_refl _), List.take_length] at hy
      exact (compact_mem zs y).1 hy))
    rw [List.take_append_of_le_length (Nat.le_refl _), List.take_length] at P
    subst b
    exact ⟨_, a, P, Q⟩

/-- The results of masks. -/
def mapF (fm : Nat → Nat) (xs : List Int) : List Int := xs.map fun x => ((fm x.toNat : Nat) : Int)
theorem mapF_length (fm : Nat → Nat) (xs : List Int) : (mapF fm xs).length = xs.length := by simp [mapF]
theorem mapF_next (fm : Nat → Nat) (xs : List Int) (k : Nat) (h : k < xs.length) : mapF fm (xs.take (k + 1)) = mapF fm (xs.take k) ++ [((fm xs[k].toNat : Nat) : Int)] := by
  unfold mapF; rw [List.take_succ_eq_append_getElem h, List.map_append]; rfl
theorem mapF_get (fm : Nat → Nat) (xs : List Int) (k : Nat) (h : k < xs.length) (h' : k < (mapF fm xs).length) : (mapF fm xs)[k] = ((fm xs[k].toNat : Nat) : Int) := by simp [mapF]
theorem mapF_bd {fm : Nat → Nat} {xs : List Int} {M : Nat} (h : ∀ x ∈ xs, fm x.toNat < M) : ∀ y ∈ mapF fm xs, 0 ≤ y ∧ y < M := by
  intro y hy
  obtain ⟨x, hx, rfl⟩ := List.mem_map.1 hy
  have := h x hx
  omega
/-- A fact on every mask of a set below 2^N. -/
def InM (M : Nat) (xs : List Int) : Prop := ∀ x ∈ xs, 0 ≤ x ∧ x < (M : Int)

theorem stepN_pow (N m i k : Nat) (hN : N ≤ 8) (hm : m < 2 ^ N) (hi : i < N) (hk : k < N) : stepN m i k < 2 ^ N := by
  by_cases h : m / 2 ^ i % 2 = 1 ∧ m / 2 ^ k % 2 = 0
  · unfold stepN; rw [if_pos h]
    have H : ∀ N : Fin 9, ∀ m : Fin 256, m.val < 2 ^ N.val → ∀ k : Fin 8, k.val < N.val → m.val / 2 ^ k.val % 2 = 0 → m.val + 2 ^ k.val < 2 ^ N.val := by decide +kernel
    have h8 : (2 : Nat) ^ N ≤ 2 ^ 8 := Nat.pow_le_pow_right (by omega) hN
    have := H ⟨N, by omega⟩ ⟨m, by omega⟩ hm ⟨k, by omega⟩ hk h.2
    exact Nat.lt_of_le_of_lt (Nat.add_le_add_right (Nat.sub_le _ _) _) this
  · unfold stepN; rw [if_neg h]; exact hm
theorem bitsN_pow {N : Nat} {ps : List (Nat × Nat)} (h : PsOk N ps) (m : Nat) (hm : m < 2 ^ N) : bitsN ps m < 2 ^ N := by
  have H : ∀ k, k ≤ ps.length → bitsN (ps.take k) m < 2 ^ N := by
    intro k
    induction k with
    | zero => intro _; simpa [bitsN] using hm
    | succ k ih =>
      intro hk
      rw [bitsN_snoc ps m k (by omega)]
      have := h.2.2.2 k (by omega)
      exact stepN_pow N _ _ _ h.2.1 (ih (by omega)) this.1 this.2.1
  have := H ps.length (Nat.le_refl _)
  rwa [List.take_length] at this
theorem OwnI.step1 {w w3 : World} {lo : Nat} {v' : Value} {xs ys : List Int} (h : OwnI tInt w3 lo w3.heap.size v' xs) (e : ys = xs) : OwnI tInt w3 lo w3.heap.size v' ys := by rw [e]; exact h


set_option maxHeartbeats 1600000 in
set_option maxRecDepth 100000 in
theorem imagesA (v : Value) (xs : List Int) (cb1 cb2 : Value) (fm : Nat → Nat) (M : Nat) (w : World) (hI : Ints w v xs) (hl : xs.length ≤ 1048576) (hx : InM M xs) (hM : M ≤ 256)
    (hf : ∀ W m, Below w.heap.size w W → m < M → Calls Try.prog 30 #[.int .i64 (m : Int), cb1, cb2] W (GivesN W (fm m : Nat))) (hfm : ∀ x ∈ xs, fm x.toNat < M) :
    Calls Try.prog 26 #[v, .func (.func 30) #[] #[cb1, cb2]] w (GivesI w (imgL M (mapF fm xs))) := by
  obtain ⟨ao, cap9, rfl, hcap, hmax, hnil, hcell⟩ := hI
  have HC := Lib.hid hcell; clear hcell
  have HF := Lib.hid hf
  have HX := Lib.hid hx
  have HFM := Lib.hid hfm
  clear hf hx hfm
  unfold maxLen at hmax
  go_enter Try.func26, Try.ntmps26
  go_wp2
  go_loopw [5, 11] (fun o i wr => ∃ k : Nat, k ≤ xs.length ∧ i = .int .i64 k ∧ Hid (OwnI tInt wr w.heap.size wr.heap.size o (mapF fm (xs.take k))) ∧ Below w.heap.size w wr) (fun _ i _ => xs.length - (intOf i).toNat)
  case atStart => exact ⟨0, Nat.zero_le _, rfl, OwnI.lit0 3 w w.heap.size (Nat.le_refl _), (Below.refl _ _).alloc (Nat.le_refl _) _⟩
  case round =>
    obtain ⟨k, hk, rfl, HO, hb⟩ := hrel
    have hsz := hb.size
    by_cases hlt : k < xs.length
    · obtain ⟨b, q, u, rfl, hu, rfl, hwf⟩ := HC.out k hlt
      have c1 : wr.cell? ⟨b, q + k, none⟩ = some (.int .i64 xs[k]) := Below.keeps hb _ _ hu
      have hbd := HX.out _ (List.getElem_mem hlt)
      have hfk := HFM.out _ (List.getElem_mem hlt)
      have HN := Lib.hid (mapF_next fm xs k hlt)
      obtain ⟨m, HMm⟩ : ∃ m : Nat, Hid (xs[k] = (m : Int)) := ⟨xs[k].toNat, by show _ = _; omega⟩
      rw [HMm.out, Int.toNat_natCast] at hfk
      rw [HMm.out] at c1 hbd
      have hN2 : Hid (mapF fm (xs.take (k + 1)) = mapF fm (xs.take k) ++ [((fm m : Nat) : Int)]) := by show _ = _; rw [HN.out, HMm.out, Int.toNat_natCast]
      clear hu hwf HN HMm
      have hl9 : (mapF fm (xs.take k)).length ≤ 1048576 := by rw [mapF_length, List.length_take]; omega
      go_wp2_with fail
      refine (HF.out wr m hb (by omega)).mono ?_; rintro e w1 ⟨rfl, b1⟩
      have s1 := b1.size
      have hown := HO.out.below b1 (Nat.le_refl _)
      have hb1 := hb.trans (b1.mono hsz)
      generalize fm m = r at *
      clear HO
      go_wp2_with (at_builtin; refine wpList_append1_at _ rfl _ _ 27 rfl 3 (.int .i64 0) 8 Try.underlying27 infoInt (by decide) rfl w.heap.size wr.heap.size _ _ rfl (hown.1.alloc _) ⟨w1.heap.size, 0, none⟩ 1 (.int .i64 r) rfl (cell_alloc0 _ _ _) rfl ?_ ?_ ?_)
      · simp; omega
      · simp; omega
      · intro v' w3 hown' hgr hat
        have R1 := OwnI.snoc hown' hown.2 (show In64 (r : Int) from WalkArith.wf_i64 (by omega))
        rw [← hN2.out] at R1
        have R9 := Lib.hid R1
        have R2 := below_app (hb1.alloc (by omega) _) (hown.1.alloc _) hgr (Nat.le_refl _) (by simp; omega)
        clear hown hown' hgr hat R1
        go_wp2
        go_roundw
        case rel => exact ⟨k + 1, by omega, by go_num, R9, R2⟩
        case measure => simp [intOf]; omega
    · have hk' : k = xs.length := by omega
      subst hk'
      have hown := HO.out
      rw [List.take_length] at hown
      have hl9 : (mapF fm xs).length ≤ 1048576 := by rw [mapF_length]; exact hl
      clear HO
      have HE := Lib.hid (compact_sort (M := M) (mapF_bd HFM.out))
      go_wp2_with fail
      refine (sortI _ _ _ _ _ hown (by omega) (Nat.le_refl _)).mono ?_; rintro e w1 ⟨rfl, R1, q1⟩
      have s1 := q1.size
      go_wp2_with fail
      refine (compactI _ _ _ _ _ R1 (by simp; omega)).mono ?_; rintro e w2 ⟨u, rfl, R2, q2⟩
      have s2 := q2.size
      rw [HE.out] at R2
      have BB : Below w.heap.size w w2 := (hb.trans (q1.below hsz (Nat.le_refl _))).trans (q2.below (by omega) (Nat.le_refl _))
      go_wp2
      go_ret
      exact ⟨_, rfl, R2.wide (Nat.le_refl _) (by omega), BB⟩

set_option maxHeartbeats 1600000 in
set_option maxRecDepth 100000 in
theorem imagesR (v : Value) (xs : List Int) (cb1 : Value) (fm : Nat → Nat) (M : Nat) (w : World) (hI : Ints w v xs) (hl : xs.length ≤ 1048576) (hx : InM M xs) (hM : M ≤ 256)
    (hf : ∀ W m, Below w.heap.size w W → m < M → Calls Try.prog 55 #[.int .i64 (m : Int), cb1] W (GivesN W (fm m : Nat))) (hfm : ∀ x ∈ xs, fm x.toNat < M) :
    Calls Try.prog 26 #[v, .func (.func 55) #[] #[cb1]] w (GivesI w (imgL M (mapF fm xs))) := by
  obtain ⟨ao, cap9, rfl, hcap, hmax, hnil, hcell⟩ := hI
  have HC := Lib.hid hcell; clear hcell
  have HF := Lib.hid hf
  have HX := Lib.hid hx
  have HFM := Lib.hid hfm
  clear hf hx hfm
  unfold maxLen at hmax
  go_enter Try.func26, Try.ntmps26
  go_wp2
  go_loopw [5, 11] (fun o i wr => ∃ k : Nat, k ≤ xs.length ∧ i = .int .i64 k ∧ Hid (OwnI tInt wr w.heap.size wr.heap.size o (mapF fm (xs.take k))) ∧ Below w.heap.size w wr) (fun _ i _ => xs.length - (intOf i).toNat)
  case atStart => exact ⟨0, Nat.zero_le _, rfl, OwnI.lit0 3 w w.heap.size (Nat.le_refl _), (Below.refl _ _).alloc (Nat.le_refl _) _⟩
  case round =>
    obtain ⟨k, hk, rfl, HO, hb⟩ := hrel
    have hsz := hb.size
    by_cases hlt : k < xs.length
    · obtain ⟨b, q, u, rfl, hu, rfl, hwf⟩ := HC.out k hlt
      have c1 : wr.cell? ⟨b, q + k, none⟩ = some (.int .i64 xs[k]) := Below.keeps hb _ _ hu
      have hbd := HX.out _ (List.getElem_mem hlt)
      have hfk := HFM.out _ (List.getElem_mem hlt)
      have HN := Lib.hid (mapF_next fm xs k hlt)
      obtain ⟨m, HMm⟩ : ∃ m : Nat, Hid (xs[k] = (m : Int)) := ⟨xs[k].toNat, by show _ = _; omega⟩
      rw [HMm.out, Int.toNat_natCast] at hfk
      rw [HMm.out] at c1 hbd
      have hN2 : Hid (mapF fm (xs.take (k + 1)) = mapF fm (xs.take k) ++ [((fm m : Nat) : Int)]) := by show _ = _; rw [HN.out, HMm.out, Int.toNat_natCast]
      clear hu hwf HN HMm
      have hl9 : (mapF fm (xs.take k)).length ≤ 1048576 := by rw [mapF_length, List.length_take]; omega
      go_wp2_with fail
      refine (HF.out wr m hb (by omega)).mono ?_; rintro e w1 ⟨rfl, b1⟩
      have s1 := b1.size
      have hown := HO.out.below b1 (Nat.le_refl _)
      have hb1 := hb.trans (b1.mono hsz)
      generalize fm m = r at *
      clear HO
      go_wp2_with (at_builtin; refine wpList_append1_at _ rfl _ _ 27 rfl 3 (.int .i64 0) 8 Try.underlying27 infoInt (by decide) rfl w.heap.size wr.heap.size _ _ rfl (hown.1.alloc _) ⟨w1.heap.size, 0, none⟩ 1 (.int .i64 r) rfl (cell_alloc0 _ _ _) rfl ?_ ?_ ?_)
      · simp; omega
      · simp; omega
      · intro v' w3 hown' hgr hat
        have R1 := OwnI.snoc hown' hown.2 (show In64 (r : Int) from WalkArith.wf_i64 (by omega))
        rw [← hN2.out] at R1
        have R9 := Lib.hid R1
        have R2 := below_app (hb1.alloc (by omega) _) (hown.1.alloc _) hgr (Nat.le_refl _) (by simp; omega)
        clear hown hown' hgr hat R1
        go_wp2
        go_roundw
        case rel => exact ⟨k + 1, by omega, by go_num, R9, R2⟩
        case measure => simp [intOf]; omega
    · have hk' : k = xs.length := by omega
      subst hk'
      have hown := HO.out
      rw [List.take_length] at hown
      have hl9 : (mapF fm xs).length ≤ 1048576 := by rw [mapF_length]; exact hl
      clear HO
      have HE := Lib.hid (compact_sort (M := M) (mapF_bd HFM.out))
      go_wp2_with fail
      refine (sortI _ _ _ _ _ hown (by omega) (Nat.le_refl _)).mono ?_; rintro e w1 ⟨rfl, R1, q1⟩
      have s1 := q1.size
      go_wp2_with fail
      refine (compactI _ _ _ _ _ R1 (by simp; omega)).mono ?_; rintro e w2 ⟨u, rfl, R2, q2⟩
      have s2 := q2.size
      rw [HE.out] at R2
      have BB : Below w.heap.size w w2 := (hb.trans (q1.below hsz (Nat.le_refl _))).trans (q2.below (by omega) (Nat.le_refl _))
      go_wp2
      go_ret
      exact ⟨_, rfl, R2.wide (Nat.le_refl _) (by omega), BB⟩

set_option maxHeartbeats 1600000 in
set_option maxRecDepth 100000 in
theorem imagesB (v : Value) (xs : List Int) (rx : Value) (fm : Nat → Nat) (M : Nat) (w : World) (hI : Ints w v xs) (hl : xs.length ≤ 1048576) (hx : InM M xs) (hM : M ≤ 256)
    (hf : ∀ W m, Below w.heap.size w W → m < M → Calls Try.prog 28 #[rx, .int .i64 (m : Int)] W (GivesN W (fm m : Nat))) (hfm : ∀ x ∈ xs, fm x.toNat < M) :
    Calls Try.prog 26 #[v, .func (.func 28) #[rx] #[]] w (GivesI w (imgL M (mapF fm xs))) := by
  obtain ⟨ao, cap9, rfl, hcap, hmax, hnil, hcell⟩ := hI
  have HC := Lib.hid hcell; clear hcell
  have HF := Lib.hid hf
  have HX := Lib.hid hx
  have HFM := Lib.hid hfm
  clear hf hx hfm
  unfold maxLen at hmax
  go_enter Try.func26, Try.ntmps26
  go_wp2
  go_loopw [5, 11] (fun o i wr => ∃ k : Nat, k ≤ xs.length ∧ i = .int .i64 k ∧ Hid (OwnI tInt wr w.heap.size wr.heap.size o (mapF fm (xs.take k))) ∧ Below w.heap.size w wr) (fun _ i _ => xs.length - (intOf i).toNat)
  case atStart => exact ⟨0, Nat.zero_le _, rfl, OwnI.lit0 3 w w.heap.size (Nat.le_refl _), (Below.refl _ _).alloc (Nat.le_refl _) _⟩
  case round =>
    obtain ⟨k, hk, rfl, HO, hb⟩ := hrel
    have hsz := hb.size
    by_cases hlt : k < xs.length
    · obtain ⟨b, q, u, rfl, hu, rfl, hwf⟩ := HC.out k hlt
      have c1 : wr.cell? ⟨b, q + k, none⟩ = some (.int .i64 xs[k]) := Below.keeps hb _ _ hu
      have hbd := HX.out _ (List.getElem_mem hlt)
      have hfk := HFM.out _ (List.getElem_mem hlt)
      have HN := Lib.hid (mapF_next fm xs k hlt)
      obtain ⟨m, HMm⟩ : ∃ m : Nat, Hid (xs[k] = (m : Int)) := ⟨xs[k].toNat, by show _ = _; omega⟩
      rw [HMm.out, Int.toNat_natCast] at hfk
      rw [HMm.out] at c1 hbd
      have hN2 : Hid (mapF fm (xs.take (k + 1)) = mapF fm (xs.take k) ++ [((fm m : Nat) : Int)]) := by show _ = _; rw [HN.out, HMm.out, Int.toNat_natCast]
      clear hu hwf HN HMm
      have hl9 : (mapF fm (xs.take k)).length ≤ 1048576 := by rw [mapF_length, List.length_take]; omega
      go_wp2_with fail
      refine (HF.out wr m hb (by omega)).mono ?_; rintro e w1 ⟨rfl, b1⟩
      have s1 := b1.size
      have hown := HO.out.below b1 (Nat.le_refl _)
      have hb1 := hb.trans (b1.mono hsz)
      generalize fm m = r at *
      clear HO
      go_wp2_with (at_builtin; refine wpList_append1_at _ rfl _ _ 27 rfl 3 (.int .i64 0) 8 Try.underlying27 infoInt (by decide) rfl w.heap.size wr.heap.size _ _ rfl (hown.1.alloc _) ⟨w1.heap.size, 0, none⟩ 1 (.int .i64 r) rfl (cell_alloc0 _ _ _) rfl ?_ ?_ ?_)
      · simp; omega
      · simp; omega
      · intro v' w3 hown' hgr hat
        have R1 := OwnI.snoc hown' hown.2 (show In64 (r : Int) from WalkArith.wf_i64 (by omega))
        rw [← hN2.out] at R1
        have R9 := Lib.hid R1
        have R2 := below_app (hb1.alloc (by omega) _) (hown.1.alloc _) hgr (Nat.le_refl _) (by simp; omega)
        clear hown hown' hgr hat R1
        go_wp2
        go_roundw
        case rel => exact ⟨k + 1, by omega, by go_num, R9, R2⟩
        case measure => simp [intOf]; omega
    · have hk' : k = xs.length := by omega
      subst hk'
      have hown := HO.out
      rw [List.take_length] at hown
      have hl9 : (mapF fm xs).length ≤ 1048576 := by rw [mapF_length]; exact hl
      clear HO
      have HE := Lib.hid (compact_sort (M := M) (mapF_bd HFM.out))
      go_wp2_with fail
      refine (sortI _ _ _ _ _ hown (by omega) (Nat.le_refl _)).mono ?_; rintro e w1 ⟨rfl, R1, q1⟩
      have s1 := q1.size
      go_wp2_with fail
      refine (compactI _ _ _ _ _ R1 (by simp; omega)).mono ?_; rintro e w2 ⟨u, rfl, R2, q2⟩
      have s2 := q2.size
      rw [HE.out] at R2
      have BB : Below w.heap.size w w2 := (hb.trans (q1.below hsz (Nat.le_refl _))).trans (q2.below (by omega) (Nat.le_refl _))
      go_wp2
      go_ret
      exact ⟨_, rfl, R2.wide (Nat.le_refl _) (by omega), BB⟩
end Go.Proofs.Ytldhbbbkfnfhoaa
