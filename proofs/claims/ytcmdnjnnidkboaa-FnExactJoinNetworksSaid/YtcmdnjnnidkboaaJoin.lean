/- Contracts: JoinNetworks, the program's and the reference's. -/
import Derived.Test.YtcmdnjnnidkboaaNb
import Derived.Test.YtcmdnjnnidkboaaOwn
import Derived.Test.YtcmdnjnnidkboaaDrop
namespace Go.Proofs.Ytcmdnjnnidkboaa
open Go.RowKit
set_option linter.unusedVariables false

/-- append of nothing to a slice of the call's own. -/
theorem step_append_none {P : Program} (w : World) {ops : Array Oper} {o : Oper} {a : Act} {K : Act → World → Prop} {Q : Exit → Act → World → Prop} {E : Prop} (hgd : o.guard = none) (s x : Operand) (t : TypeId)
    (ho : o.op = .call { callee := .builtin .append, args := #[s, x], argTypes := #[t, t] })
    (base : Nat) (e : TypeId) (i : TypeInfo) (ht : P.underlying t = some (.slice e)) (hi : P.info? e = some i)
    (v : Value) (n : Nat) (xs : List Value) (hs : a.eval s = v) (hown : w.ownsRow base e 1 v n xs) (A : Option Addr) (c : Nat) (hx : a.eval x = .slice A 0 c) (h : K (a.put o.dst v) w) :
    if Region.wanted o (yielded ops a.tmps) = true then Oper.wp P o a w K Q else E := by
  have hw : Region.wanted o (yielded ops a.tmps) = true := by simp [Region.wanted, hgd]
  rw [if_pos hw]
  have hrun : (Builtin.append_ #[t, t] o.type #[v, .slice A 0 c]).run P w = .ok v w := by
    have hl : ∀ ad : Addr, Sem.run P (loadCells ad 0) w = .ok #[] w := fun ad => by unfold loadCells; unfold loadCellsFrom; rfl
    rcases hown.2 with ⟨rfl, rfl⟩ | ⟨g, cap, cur, rfl, _, _, hnc, _⟩
    · cases A
      · simp [Builtin.append_, run_underlying ht, sizeOf, typeInfo, hi, Builtin.lenOf, Builtin.firstCells]
      · simp [Builtin.append_, run_underlying ht, sizeOf, typeInfo, hi, Builtin.lenOf, Builtin.firstCells, hl]
    · cases A
      · simp [Builtin.append_, run_underlying ht, sizeOf, typeInfo, hi, Builtin.lenOf, Builtin.firstCells, hnc, storeCells]
      · simp [Builtin.append_, run_underlying ht, sizeOf, typeInfo, hi, Builtin.lenOf, Builtin.firstCells, hnc, storeCells, hl]
  unfold Oper.wp execOp
  simp only [ho, resolve, invoke, builtin, Sem.run_bind, Sem.run_pure, Result.andThen_ok, List.map_toArray, List.map_cons, List.map_nil, hs, hx, hrun]
  exact h

theorem RowsOwn.append {e : TypeId} {w : World} {lo mid hi : Nat} {vs us : List Value} {rows qs : List (List Int)} (h : RowsOwn e w lo mid vs rows) (k : RowsOwn e w mid hi us qs) (h1 : lo ≤ mid) (h2 : mid ≤ hi) :
    RowsOwn e w lo hi (vs ++ us) (rows ++ qs) := by
  refine ⟨by simp [h.1, k.1], fun i a1 a2 => ?_, fun i j a1 a2 g hne hg => ?_⟩
  · by_cases hi1 : i < vs.length
    · rw [List.getElem_append_left hi1, List.getElem_append_left (by rw [← h.1]; exact hi1)]
      exact (h.2.1 i hi1 _).wide (Nat.le_refl _) h2
    · rw [List.getElem_append_right (by omega), List.getElem_append_right (by rw [← h.1]; omega)]
      have e2 : i - rows.length = i - vs.length := by rw [h.1]
      simp only [e2]
      exact (k.2.1 (i - vs.length) (by simp at a1; omega) _).wide h1 (Nat.le_refl _)
  · have key : ∀ i (q : i < vs.length) g, vs[i].ownBlock = some g → g < mid := fun i q g hg => ((h.2.1 i q (by rw [← h.1]; exact q)).1.lt hg).2.1
    have key2 : ∀ i (q : i < us.length) g, us[i].ownBlock = some g → mid ≤ g := fun i q g hg => ((k.2.1 i q (by rw [← k.1]; exact q)).1.lt hg).1
    simp at a1 a2
    by_cases hi1 : i < vs.length <;> by_cases hj1 : j < vs.length
    · rw [List.getElem_append_left hi1] at hg
      rw [List.getElem_append_left hj1]
      exact h.2.2 i j hi1 hj1 g hne hg
    · rw [List.getElem_append_left hi1] at hg
      rw [List.getElem_append_right (by omega)]
      intro hg2
      have := key i hi1 g hg; have := key2 _ (by omega) g hg2; omega
    · rw [List.getElem_append_right (by omega)] at hg
      rw [List.getElem_append_left hj1]
      intro hg2
      have := key j hj1 g hg2; have := key2 _ (by omega) g hg; omega
    · rw [List.getElem_append_right (by omega)] at hg
      rw [List.getElem_append_right (by omega)]
      exact k.2.2 _ _ (by omega) (by omega) g (by omega) hg

/-- A slice of rows behind an append of another one's rows. -/
theorem OwnSS.joined {w w1 : World} {lo mid : Nat} {u1 v' : Value} {vs us : List Value} {rows qs : List (List Int)} (hO1 : Own tInts w lo mid u1 vs) (hR1 : RowsOwn tInt w lo mid vs rows) (hR2 : RowsOwn tInt w mid w.heap.size us qs)
    (h1 : lo ≤ mid) (h2 : mid ≤ w.heap.size) (hown : w1.ownsRow lo tInts 1 v' (vs ++ us).length (vs ++ us)) (hg : w.grownBy w1 u1.ownBlock) :
    OwnSS tInt tInts w1 lo w1.heap.size v' (rows ++ qs) := by
  have hs := hg.size
  have H := hR1.append hR2 h1 h2
  have key : ∀ u ys, OwnI tInt w lo w.heap.size u ys → OwnI tInt w1 lo w.heap.size u ys := fun u ys ho =>
    ⟨⟨ownsRow_block ho.1.1 fun g hgu => hg.block g (ho.1.lt hgu).2.2 (fun e => own_ne ho.1 hO1 (by decide) hgu e.symm), ho.1.2⟩, ho.2⟩
  exact ⟨vs ++ us, ⟨hown, fun g hg' => (hown.lt g hg').2⟩, (H.map key).wide (Nat.le_refl _) hs⟩

def JnP (n : Int) (rows : List (List Int)) (n' : Int) (rows' : List (List Int)) : Prop := NetP n rows ∧ NetP n' rows' ∧ n = n' ∧ rows.length + rows'.length ≤ 60
theorem jn_le (n : Int) (rows : List (List Int)) (n' : Int) (rows' : List (List Int)) : sumLen (nbR (JnP n rows n' rows') (rows ++ rows')) ≤ 120 := nbR_le fun h => by
  have h1 := sumLen_le2 (rows ++ rows') fun r hr => by
    rcases List.mem_append.1 hr with hr | hr
    · exact h.1.two r hr
    · exact h.2.1.two r hr
  have h2 := h.2.2.2
  rw [List.length_append] at h1; omega
theorem NetP.join {n : Int} {rows qs : List (List Int)} (h : NetP n rows) (k : NetP n qs) : NetP n (rows ++ qs) ↔ rows.length + qs.length ≤ 60 := by
  constructor
  · intro hh; have := hh.2.1; rwa [List.length_append] at this
  · intro hl
    refine ⟨h.1, by rw [List.length_append]; exact hl, fun i hi => ?_⟩
    by_cases hi1 : i < rows.length
    · rw [List.getElem_append_left hi1]; exact h.2.2 i hi1
    · rw [List.getElem_append_right (by omega)]; exact k.2.2 _ _

set_option maxHeartbeats 1600000 in
set_option maxRecDepth 100000 in
theorem l02Out (n : Int) (v : Value) (rows : List (List Int)) (w : World) (h : IntSS w v rows) :
    Calls Try.prog 28 #[.agg #[.int .i64 n, v]] w fun e w' => e = .returned (.tuple #[.agg #[.int .i64 (bif tf (NetP n rows) then n else 0), bif tf (NetP n rows) then v else .slice none 0 0], .bool (tf (NetP n rows))]) ∧ Below w.heap.size w w' := by
  have hk : Hid (∀ W, Below w.heap.size w W → IntSS W v rows) := fun W hb => h.keep (Below.keeps hb)
  obtain ⟨ao, cap, hv, hcap, hmax, _⟩ := h
  subst hv
  rcases Classical.em (NetP n rows) with hN | hN
  · have ht := tf_yes hN
    rw [ht]
    clear hN
    simp only [cond_true]
    go_enter Try.func28, Try.ntmps28
    go_wp2_with fail
    refine (specNetworkOk _ _ rows _ (hk.out _ (((Below.refl _ _).alloc (Nat.le_refl _) _).alloc (by simp) _))).mono ?_; rintro e w1 ⟨rfl, b1⟩
    have r1 := (ResC.start (w.alloc (.cells #[.int .i64 n, .slice ao rows.length cap] 26)) 26).below b1 (by simp)
    rw [World.size_alloc] at r1
    have cx : w1.cell? ⟨w.heap.size, 0, none⟩ = some (.int .i64 n) := (b1.cell (by simp; omega)).trans (by simp [go_sem])
    have cy : w1.cell? ⟨w.heap.size, 1, none⟩ = some (.slice ao rows.length cap) := (b1.cell (by simp; omega)).trans (by simp [go_sem])
    have bw1 : Below w.heap.size w w1 := (((Below.refl _ _).alloc (Nat.le_refl _) _).alloc (by simp) _).trans (b1.mono (by simp; omega))
    have s1 : w.heap.size + 2 ≤ w1.heap.size := by have := b1.size; simpa using this
    have y1 : w.heap.size < w1.heap.size := by omega
    have y2 : w.heap.size + 1 < w1.heap.size := by omega
    obtain ⟨d0, d1, f0, f1, _⟩ := r1
    have bb := (bw1.setCell (p := ⟨w.heap.size + 1, 0, none⟩) (by simp) (.int .i64 n)).setCell (p := ⟨w.heap.size + 1, 1, none⟩) (by simp) (.slice ao rows.length cap)
    go_wp2
    exact bodyPost_ret (v := .tuple #[.agg #[.int .i64 n, .slice ao rows.length cap], .bool true]) (by simp [results, Try.results28, go_sem, d0, d1]) rfl ⟨rfl, bb⟩
  · have ht := tf_no hN
    rw [ht]
    clear hN
    simp only [cond_false]
    go_enter Try.func28, Try.ntmps28
    go_wp2_with fail
    refine (specNetworkOk _ _ rows _ (hk.out _ (((Below.refl _ _).alloc (Nat.le_refl _) _).alloc (by simp) _))).mono ?_; rintro e w1 ⟨rfl, b1⟩
    have r1 := (ResC.start (w.alloc (.cells #[.int .i64 n, .slice ao rows.length cap] 26)) 26).below b1 (by simp)
    rw [World.size_alloc] at r1
    have cx : w1.cell? ⟨w.heap.size, 0, none⟩ = some (.int .i64 n) := (b1.cell (by simp; omega)).trans (by simp [go_sem])
    have cy : w1.cell? ⟨w.heap.size, 1, none⟩ = some (.slice ao rows.length cap) := (b1.cell (by simp; omega)).trans (by simp [go_sem])
    have bw1 : Below w.heap.size w w1 := (((Below.refl _ _).alloc (Nat.le_refl _) _).alloc (by simp) _).trans (b1.mono (by simp; omega))
    have s1 : w.heap.size + 2 ≤ w1.heap.size := by have := b1.size; simpa using this
    have y1 : w.heap.size < w1.heap.size := by omega
    have y2 : w.heap.size + 1 < w1.heap.size := by omega
    obtain ⟨d0, d1, f0, f1, _⟩ := r1
    have bb := (bw1.setCell (p := ⟨w.heap.size + 1, 0, none⟩) (by simp) (.int .i64 0)).setCell (p := ⟨w.heap.size + 1, 1, none⟩) (by simp) (.slice none 0 0)
    go_wp2
    exact bodyPost_ret (v := .tuple #[.agg #[.int .i64 0, .slice none 0 0], .bool false]) (by simp [results, Try.results28, go_sem, d0, d1]) rfl ⟨rfl, bb⟩
set_option maxHeartbeats 1600000 in
set_option maxRecDepth 100000 in
theorem checkedC (n : Int) (v : Value) (rows : List (List Int)) (w : World) (h : IntSS w v rows) :
    Calls Try.prog 33 #[.agg #[.int .i64 n, v]] w fun e w' => e = .returned (.tuple #[.agg #[.int .i64 (bif tf (NetP n rows) then n else 0), bif tf (NetP n rows) then v else .slice none 0 0], .bool (tf (NetP n rows))]) ∧ Below w.heap.size w w' := by
  have hk : Hid (∀ W, Below w.heap.size w W → IntSS W v rows) := fun W hb => h.keep (Below.keeps hb)
  obtain ⟨ao, cap, hv, hcap, hmax, _⟩ := h
  subst hv
  rcases Classical.em (NetP n rows) with hN | hN
  · have ht := tf_yes hN
    rw [ht]
    clear hN
    simp only [cond_true]
    go_enter Try.func33, Try.ntmps33
    go_wp2_with fail
    refine (implNetworkOk _ _ rows _ (hk.out _ (((Below.refl _ _).alloc (Nat.le_refl _) _).alloc (by simp) _))).mono ?_; rintro e w1 ⟨rfl, b1⟩
    have r1 := (ResC.start (w.alloc (.cells #[.int .i64 n, .slice ao rows.length cap] 26)) 26).below b1 (by simp)
    rw [World.size_alloc] at r1
    have cx : w1.cell? ⟨w.heap.size, 0, none⟩ = some (.int .i64 n) := (b1.cell (by simp; omega)).trans (by simp [go_sem])
    have cy : w1.cell? ⟨w.heap.size, 1, none⟩ = some (.slice ao rows.length cap) := (b1.cell (by simp; omega)).trans (by simp [go_sem])
    have bw1 : Below w.heap.size w w1 := (((Below.refl _ _).alloc (Nat.le_refl _) _).alloc (by simp) _).trans (b1.mono (by simp; omega))
    have s1 : w.heap.size + 2 ≤ w1.heap.size := by have := b1.size; simpa using this
    have y1 : w.heap.size < w1.heap.size := by omega
    have y2 : w.heap.size + 1 < w1.heap.size := by omega
    obtain ⟨d0, d1, f0, f1, _⟩ := r1
    have bb := (bw1.setCell (p := ⟨w.heap.size + 1, 0, none⟩) (by simp) (.int .i64 n)).setCell (p := ⟨w.heap.size + 1, 1, none⟩) (by simp) (.slice ao rows.length cap)
    go_wp2
    exact bodyPost_ret (v := .tuple #[.agg #[.int .i64 n, .slice ao rows.length cap], .bool true]) (by simp [results, Try.results33, go_sem, d0, d1]) rfl ⟨rfl, bb⟩
  · have ht := tf_no hN
    rw [ht]
    clear hN
    simp only [cond_false]
    go_enter Try.func33, Try.ntmps33
    go_wp2_with fail
    refine (implNetworkOk _ _ rows _ (hk.out _ (((Below.refl _ _).alloc (Nat.le_refl _) _).alloc (by simp) _))).mono ?_; rintro e w1 ⟨rfl, b1⟩
    have r1 := (ResC.start (w.alloc (.cells #[.int .i64 n, .slice ao rows.length cap] 26)) 26).below b1 (by simp)
    rw [World.size_alloc] at r1
    have cx : w1.cell? ⟨w.heap.size, 0, none⟩ = some (.int .i64 n) := (b1.cell (by simp; omega)).trans (by simp [go_sem])
    have cy : w1.cell? ⟨w.heap.size, 1, none⟩ = some (.slice ao rows.length cap) := (b1.cell (by simp; omega)).trans (by simp [go_sem])
    have bw1 : Below w.heap.size w w1 := (((Below.refl _ _).alloc (Nat.le_refl _) _).alloc (by simp) _).trans (b1.mono (by simp; omega))
    have s1 : w.heap.size + 2 ≤ w1.heap.size := by have := b1.size; simpa using this
    have y1 : w.heap.size < w1.heap.size := by omega
    have y2 : w.heap.size + 1 < w1.heap.size := by omega
    obtain ⟨d0, d1, f0, f1, _⟩ := r1
    have bb := (bw1.setCell (p := ⟨w.heap.size + 1, 0, none⟩) (by simp) (.int .i64 0)).setCell (p := ⟨w.heap.size + 1, 1, none⟩) (by simp) (.slice none 0 0)
    go_wp2
    exact bodyPost_ret (v := .tuple #[.agg #[.int .i64 0, .slice none 0 0], .bool false]) (by simp [results, Try.results33, go_sem, d0, d1]) rfl ⟨rfl, bb⟩
end Go.Proofs.Ytcmdnjnnidkboaa
