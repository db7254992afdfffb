/- The order that ByLevels sorts: what lies in its row behind slices.SortStableFunc. -/
import Derived.Test.YthcnmaapcniehaaByS
import Derived.Test.YthcnmaapcniehaaSymZ
namespace Go.Proofs.Ythcnmaapcniehaa
open Go.Shelf Go.RowKit Go.Lib Go.Sort Go.Proofs
set_option linter.unusedVariables false

/-- A world of the sort's differs from the caller's in the row's block and in new blocks alone. -/
theorem sw_chg {α : Type} [Inhabited α] {enc : α → Value} {w0 W : World} {blk off : Nat} {dk : Array α} (h : SW enc w0 blk off dk W) : Chg blk (blk + 1) w0 W := by
  obtain ⟨n, os, rfl⟩ := h
  unfold sortWorld
  refine ⟨rfl, rfl, rfl, by rw [size_grow, size_putRow]; exact Nat.le_add_right _ _, fun k hk ho => ?_⟩
  rw [heap_grow_old _ _ (by rw [size_putRow]; exact hk)]
  unfold putRow mapBlock
  show ((Sort.ahead w0 n).heap.modify blk _)[k]? = w0.heap[k]?
  rw [Array.getElem?_modify, if_neg (by omega)]
  rfl
theorem chg_below {lo hi B : Nat} {w w' : World} (h : Chg lo hi w w') (hB : B ≤ lo) (hs : B ≤ w.heap.size) : Below B w w' := ⟨h.os, h.tape, h.output, h.size, fun k hk => h.block k (by omega) (.inl (by omega))⟩

theorem all_of {n : Nat} {l : List Nat} (hn : l.Nodup) (hl : l.length = n) (hlt : ∀ x ∈ l, x < n) (x : Nat) : x ∈ l ↔ x < n := by
  refine ⟨hlt x, fun hx => ?_⟩
  rcases Classical.em (x ∈ l) with h | h
  · exact h
  · exfalso
    have h1 : (x :: l).Nodup := List.nodup_cons.2 ⟨h, hn⟩
    have h2 := h1.length_le_of_subset (l₂ := List.range n) fun y hy => by
      rcases List.mem_cons.1 hy with rfl | hy
      · exact List.mem_range.2 hx
      · exact List.mem_range.2 (hlt y hy)
    simp at h2; omega

theorem insNone (v F : Value) (w : World) : Calls Try.prog 37 #[v, .int .i64 0, .int .i64 0, F] w fun e w' => e = .returned (.tuple #[]) ∧ w' = w := by
  go_enter Try.func37, Try.ntmps37
  go_wp2
  go_loop [8] (fun i => i = .int .i64 1) (fun _ => 0)
  case atStart => first | rfl | simp
  case round =>
    subst hrel
    go_wp2
    go_end0
    exact ⟨rfl, rfl⟩
theorem stableNone (v F : Value) (w : World) : Calls Try.prog 32 #[v, .int .i64 0, F] w fun e w' => e = .returned (.tuple #[]) ∧ w' = w := by
  go_enter Try.func32, Try.ntmps32
  go_wp2
  go_loop [7, 8] (fun i j => i = .int .i64 0 ∧ j = .int .i64 20) (fun _ _ => 0)
  case atStart => exact ⟨rfl, rfl⟩
  case round =>
    obtain ⟨rfl, rfl⟩ := hrel
    go_wp2_with fail
    refine (insNone _ _ _).mono ?_; rintro e _ ⟨rfl, rfl⟩
    go_wp2
    go_loop [6] (fun i => i = .int .i64 20) (fun _ => 0)
    case atStart => rfl
    case round =>
      subst hrel
      go_wp2
      go_end0
      exact ⟨rfl, rfl⟩
theorem sortNone (a : Option Addr) (c : Nat) (F : Value) (w : World) : Calls Try.prog 18 #[.slice a 0 c, F] w fun e w' => e = .returned (.tuple #[]) ∧ w' = w := by
  go_enter Try.func18, Try.ntmps18
  go_wp2_with fail
  refine (stableNone _ _ _).mono ?_; rintro e _ ⟨rfl, rfl⟩
  go_wp2
  go_end0
  exact ⟨rfl, rfl⟩

/-- How the sorting of ByLevels' order ends. -/
def OrdEnd (ps : List (Nat × Nat)) (a : Option Addr) (lo : Nat) (w : World) (e : Ending) (w' : World) : Prop :=
  e = .returned (.tuple #[]) ∧ Below lo w w' ∧ ∀ i, i < ps.length → ∃ blk, a = some ⟨blk, 0, none⟩ ∧ w'.cell? ⟨blk, i, none⟩ = some (.int .i64 ((srtB ps).getD i 0 : Nat)) ∧ lo ≤ blk ∧ blk < w'.heap.size

theorem sortOrd (N : Nat) (ps : List (Nat × Nat)) (hp : PsOk N ps) (W0 w : World) (b4 b1 c : Nat) (a al ap : Option Addr) (cl cp : Nat) (hk : Below W0.heap.size W0 w)
    (c4 : W0.cell? ⟨b4, 0, none⟩ = some (.slice al ps.length cl)) (IL : Ints W0 (.slice al ps.length cl) (levL ps)) (c1 : W0.cell? ⟨b1, 1, none⟩ = some (.slice ap ps.length cp)) (IP : IntSS W0 (.slice ap ps.length cp) (rowsOf ps))
    (hO : OwnI tInt w W0.heap.size w.heap.size (.slice a ps.length c) (upto ps.length)) :
    Calls Try.prog 18 #[.slice a ps.length c, .func (.func 19) #[] #[.pointer (some ⟨b4, 0, none⟩), .pointer (some ⟨b1, 0, none⟩)]] w (OrdEnd ps a W0.heap.size w) := by
  rcases Nat.eq_zero_or_pos ps.length with h0 | h0
  · rw [h0]
    refine (sortNone a c _ w).mono ?_
    rintro e w' ⟨rfl, rfl⟩
    exact ⟨rfl, (Below.refl _ _).mono hk.size, fun i hi => by omega⟩
  · obtain ⟨g, cap, hv, hcap, hmax, hlo, hhi, hsz, F⟩ := hO.fills (by rw [upto_length]; exact h0)
    rw [upto_length] at hv hcap F
    simp only [Value.slice.injEq] at hv
    obtain ⟨rfl, -, rfl⟩ := hv
    have h60 := hp.2.2.1
    generalize hn : ps.length = n at *
    haveI : Inhabited (Fin n) := ⟨⟨0, h0⟩⟩
    let enc : Fin n → Value := fun x => .int .i64 (x.val : Int)
    let d0 : Array (Fin n) := Array.ofFn fun i : Fin n => i
    have hd0 : d0.size = n := by simp [d0]
    have hat : ∀ t (ht : t < n), d0[t]! = ⟨t, ht⟩ := fun t ht => by
      rw [getElem!_pos d0 t (by rw [hd0]; exact ht)]; simp [d0]
    have hH : Holds enc w g 0 d0 := fun j hj => by
      rw [hd0] at hj
      rw [hat j hj, Nat.zero_add]
      refine ⟨?_, F.frozen j⟩
      have := F.cell j hj
      rw [this]
      simp [enc, upto]
    have hle : (levL ps).length = n := by rw [levL_length, hn]
    have hcmp : CmpLays1 Try.prog 19 #[.pointer (some ⟨b4, 0, none⟩), .pointer (some ⟨b1, 0, none⟩)] enc (fun x y => cfN (levL ps) ps x.val y.val) g 0 n w := by
      intro m os dk hdk x y
      have hK : Keeps W0 (sortWorld enc w g 0 m dk os) := fun ad u hu => by
        have hl := World.block_lt_of_cell? W0 _ hu
        have hw : w.cell? ad = some u := Below.keeps hk _ _ hu
        have hc := sw_chg (enc := enc) (w0 := w) (blk := g) (off := 0) (dk := dk) ⟨m, os, rfl⟩
        exact (World.cell?_of_block (hc.block ad.block (World.block_lt_of_cell? w _ hw) (.inl (by omega)))).trans hw
      have := byCmp (sortWorld enc w g 0 m dk os) b4 b1 al ap cl cp (levL ps) ps x.val y.val (by omega) (by rw [hn]; exact x.isLt) (by rw [hn]; exact y.isLt) (by rw [hle, hn]) (by rw [hn]; exact hK _ _ c4) (by rw [hn]; exact IL.keep hK) (by rw [hn]; exact hK _ _ c1) (by rw [hn]; exact IP.keep hK)
      exact this.mono fun e w' ⟨he, hg⟩ => ⟨he, hg⟩
    have hone : OneCell enc := fun x => rfl
    have key := sortStable enc (fun x y => ltB ps x.val y.val) (fun x y => cfN (levL ps) ps x.val y.val) (fun x => x.val) (fun x y z h1 h2 => ltB_trans ps _ _ _ h1 h2) (fun x y h => cfN_ways ps x.val y.val h) 19 #[.pointer (some ⟨b4, 0, none⟩), .pointer (some ⟨b1, 0, none⟩)] g 0 c n d0 w w
      (enters_of Try.func19 (by kernel_rfl) rfl) hcmp ⟨hone, hH, hsz⟩ hd0 (by omega) (SW.start hH) (fun t ht => by rw [hat t ht])
    refine key.mono ?_
    rintro e w' ⟨rfl, d', hs', hso, S⟩
    have hc := sw_chg S
    refine ⟨rfl, chg_below hc hlo hk.size, fun i hi => ⟨g, rfl, ?_, hlo, Nat.lt_of_lt_of_le hsz hc.size⟩⟩
    have hl : d'.toList.map (fun x => x.val) = srtB ps := by
      have hpw : (d'.toList.map (fun x => x.val)).Pairwise (ltB ps) := by
        refine List.pairwise_iff_getElem.2 fun p q hp1 hq1 hpq => ?_
        simp at hp1 hq1
        have := hso p q (Nat.zero_le _) hpq (by omega)
        rw [getElem!_pos d' p (by omega), getElem!_pos d' q (by omega)] at this
        simpa using this
      refine srtB_of hp hpw fun x => ?_
      rw [hn]
      exact all_of (nodup_lt (ltB_irr ps) hpw) (by simp [hs']) (fun y hy => by
        obtain ⟨z, hz, rfl⟩ := List.mem_map.1 hy
        exact z.isLt) x
    have h9 := (S.holds hsz hH (by rw [hs', hd0]) i (by omega)).1
    rw [Nat.zero_add] at h9
    rw [h9, ← hl, getElem!_pos d' i (by omega), List.getD_eq_getElem?_getD]
    simp [enc]
    rw [Array.getElem?_eq_getElem (by omega)]
    rfl
end Go.Proofs.Ythcnmaapcniehaa
