/- Contracts: the reference's orders and its sorting by insertion: l02Order, MakeOrder, l08Sort, MakeSorted. -/
import Derived.Test.YtldhbbbkfnfhoaaMk
import Derived.Test.YtldhbbbkfnfhoaaSrtP
import Derived.Test.YtldhbbbkfnfhoaaAppNet
import Derived.Test.YtldhbbbkfnfhoaaPerm
namespace Go.Proofs.Ytldhbbbkfnfhoaa
open Go.RowKit
set_option linter.unusedVariables false

/-- The walk stands here. -/
theorem wpHold {P : Program} {ops : Array Oper} {Q : Exit → Act → World → Prop} {l : List Oper} {a : Act} {w : World} (h : Hid (wpList P ops Q l a w)) : wpList P ops Q l a w := h
/-- append of a part of a row, empty or not, to a row of the call's own. -/
theorem wpList_appendS {P : Program} (w : World) {ops : Array Oper} {rest : List Oper} {o : Oper} {a : Act} {Q : Exit → Act → World → Prop} (hgd : o.guard = none) (s x : Operand) (t : TypeId)
    (ho : o.op = .call { callee := .builtin .append, args := #[s, x], argTypes := #[t, t] })
    (e : TypeId) (ht : P.underlying t = some (.slice e)) (hinfo : (P.info? e).map (fun i => (i.zero, i.size, i.bytes)) = some (some (.int .i64 0), 1, 8))
    (lo hi : Nat) (v : Value) (us xs : List Int) (hs : a.eval s = v) (hown : OwnI e w lo hi v us) (b q cap : Nat) (hx : a.eval x = .slice (some ⟨b, q, none⟩) xs.length cap)
    (hcell : ∀ j (hj : j < xs.length), w.cell? ⟨b, q + j, none⟩ = some (.int .i64 xs[j])) (h64 : ∀ y ∈ xs, In64 y)
    (hlen : us.length + xs.length < 4294967296) (hlo : lo ≤ w.heap.size)
    (h : ∀ v' w', OwnI e w' lo w'.heap.size v' (us ++ xs) → w.grownBy w' v.ownBlock → (v'.ownBlock = v.ownBlock ∨ v'.ownBlock = some w.heap.size) → wpList P ops Q rest (a.put o.dst v') w') : wpList P ops Q (o :: rest) a w := by
  obtain ⟨i, hi', hz0, hz2, hz3⟩ := info_parts hinfo
  have hl : us.length = (us.map (Value.int .i64)).length := by simp
  refine wpList_append_own_at w hgd s x t ho lo e i (.int .i64 0) 1 8 ht hi' hz0 hz2 hz3 rfl (by decide) v us.length (us.map (Value.int .i64)) hs (by have := hown.1.1; rwa [← hl] at this) ⟨b, q, none⟩ xs.length cap (xs.map (Value.int .i64)) hx (by simp) ?_ ?_ ?_ ?_ hlo ?_
  · intro j y hj
    rw [List.getElem?_map] at hj
    rcases Nat.lt_or_ge j xs.length with hj' | hj'
    · rw [List.getElem?_eq_getElem hj'] at hj
      simp at hj; subst hj
      rw [Addr.add_lit]; exact hcell j hj'
    · rw [List.getElem?_eq_none hj'] at hj; simp at hj
  · intro y hy; obtain ⟨z, _, rfl⟩ := List.mem_map.1 hy; rfl
  · unfold maxLen; omega
  · omega
  · intro v' w' hown' hg _ hat
    refine h v' w' ⟨⟨by rw [List.map_append]; simpa using hown', fun g hg' => (hown'.lt g hg').2⟩, fun y hy => ?_⟩ hg hat
    rcases List.mem_append.1 hy with hy | hy
    · exact hown.2 y hy
    · exact h64 y hy
/-- A row of n numbers that begins block q. -/
def RowQ (w : World) (lo q c : Nat) (l : List Int) : Prop := OwnI tInt w lo w.heap.size (.slice (some ⟨q, 0, none⟩) l.length c) l
theorem RowQ.cells {w : World} {lo q c : Nat} {l : List Int} (h : RowQ w lo q c l) : l.length ≤ c ∧ c ≤ maxLen ∧ lo ≤ q ∧ q < w.heap.size ∧ ∀ j (hj : j < l.length), w.cell? ⟨q, j, none⟩ = some (.int .i64 l[j]) := by
  have hlt := h.1.lt (g := q) rfl
  refine ⟨?_, ?_, hlt.1, hlt.2.1, ?_⟩
  all_goals
    rcases h.1.cases with ⟨hx, _⟩ | ⟨g', cap', hv, hc, hm, _, _, _, _, hcell, _⟩
    · cases hx
    · simp only [Value.slice.injEq, Option.some.injEq, Addr.mk.injEq] at hv
      obtain ⟨⟨rfl, -⟩, hk, rfl⟩ := hv
      first
        | (simp at hc; exact hc)
        | exact hm
        | (intro j hj; have := hcell j (by simpa using hj); simpa using this)
theorem OwnI.rowQ {w : World} {lo : Nat} {v : Value} {l : List Int} (h : OwnI tInt w lo w.heap.size v l) (h0 : 0 < l.length) : ∃ q c, v = .slice (some ⟨q, 0, none⟩) l.length c ∧ RowQ w lo q c l := by
  obtain ⟨g, cap, hv, _⟩ := h.fills h0
  subst hv
  exact ⟨g, cap, rfl, h⟩
theorem PermP.insert {l : List Int} (h : PermP l.length l) {k : Nat} : PermP (l.length + 1) (l.take k ++ [(l.length : Int)] ++ l.drop k) := by
  have hp : (l.take k ++ [(l.length : Int)] ++ l.drop k).Perm ((l.length : Int) :: l) := by
    have e : l.take k ++ [(l.length : Int)] ++ l.drop k = l.take k ++ (l.length : Int) :: l.drop k := by simp
    rw [e]
    have h2 := List.perm_middle (a := (l.length : Int)) (l₁ := l.take k) (l₂ := l.drop k)
    rwa [List.take_append_drop] at h2
  refine ⟨hp.length_eq, fun x hx => ?_, ?_⟩
  · rcases List.mem_cons.1 (hp.mem_iff.1 hx) with rfl | h1
    · omega
    · have := h.2.1 x h1; omega
  · rw [hp.nodup_iff, List.nodup_cons]
    exact ⟨fun h1 => by have := h.2.1 _ h1; omega, h.2.2⟩
set_option maxHeartbeats 1600000 in
set_option maxRecDepth 100000 in
theorem l02Order (w0 w : World) (g : Nat) (bv : Value) (xs : List Int) (N : Nat) (hB : Bytes w0 bv xs) (hC : Cur w0 w g bv xs.length) (hN8 : N ≤ 8) :
    Calls Try.prog 35 #[.pointer (some ⟨g, 0, none⟩), .int .i64 N] w fun e w' => ∃ v l, e = .returned v ∧ PermP N l ∧ OwnI tInt w' w.heap.size w'.heap.size v l ∧ Cur w0 w' g bv xs.length := by
  have hgl := hC.lt
  have hgw : g < w.heap.size := hgl
  have hlo := hC.lo
  have hcs := hC.below.size
  have C1 := Lib.hid (hC.keep ((Below.refl _ w).alloc (Nat.le_refl _) (.cells #[] tInt)) hgl hcs)
  have O1 : Hid (RowQ (w.alloc (.cells #[] tInt)) w.heap.size w.heap.size 0 []) := OwnI.lit0 tInt w w.heap.size (Nat.le_refl _)
  have HB := Lib.hid hB
  clear hC hB
  go_enter Try.func35, Try.ntmps35
  go_wp2
  go_loopw [5, 6] (fun o i wr => ∃ (n q c : Nat) (l : List Int), n ≤ N ∧ i = .int .i64 n ∧ l.length = n ∧ o = .slice (some ⟨q, 0, none⟩) n c ∧ Hid (PermP n l) ∧ Hid (RowQ wr w.heap.size q c l) ∧ Hid (Cur w0 wr g bv xs.length) ∧ w.heap.size ≤ wr.heap.size) (fun _ i _ => N - (intOf i).toNat)
  case atStart => exact ⟨0, w.heap.size, 0, [], Nat.zero_le _, rfl, rfl, rfl, ⟨rfl, fun x hx => (by cases hx), List.nodup_nil⟩, O1, C1, by simp⟩
  case round =>
    clear O1 C1
    obtain ⟨n, q, c, l, hk9, rfl, hln, rfl, HP, RQ0, HC, hws⟩ := hrel
    by_cases hk : n < N
    · go_wp2_with fail
      refine (l01Below w0 _ g bv xs (n + 1) HB.out HC.out (by omega) (by omega)).mono ?_; rintro e w3 ⟨k, hkn, rfl, C3, Ch3⟩
      have HC3 := Lib.hid C3
      have hgl := HC.out.lt
      have RQ1 : RowQ w3 w.heap.size q c l := (OwnI.chg RQ0.out Ch3 (.inr (by omega))).wide (Nat.le_refl _) Ch3.size
      have RQ := Lib.hid RQ1
      have hws3 : w.heap.size ≤ w3.heap.size := Nat.le_trans hws Ch3.size
      clear C3 Ch3 RQ0 RQ1 HC
      obtain ⟨wq, hwq⟩ : ∃ wq, wq = wr := ⟨_, rfl⟩
      clear hwq hgl hws
      clear wq
      subst hln
      rename_i wr0
      obtain ⟨wr, rfl⟩ : ∃ wr, wr = w3 := ⟨_, rfl⟩
      obtain ⟨hlc, hcm, hlq, hqw, hcell⟩ := RQ.out.cells
      unfold maxLen at hcm
      have HCE := Lib.hid hcell
      have HIN := Lib.hid RQ.out.2
      have htk : (l.take k).length = k := by rw [List.length_take]; omega
      have hdk : (l.drop k).length = l.length - k := by rw [List.length_drop]
      clear hcell
      go_wp2_with (at_builtin; refine wpList_appendS _ rfl _ _ 27 rfl 3 Try.underlying27 infoInt wr.heap.size _ _ [] (l.take k) rfl (OwnI.lit0 tInt wr wr.heap.size (Nat.le_refl _)) q 0 c (by rw [htk]; rfl) ?_ (fun y hy => HIN.out y (List.mem_of_mem_take hy)) (by rw [htk]; simp; omega) (by simp) ?_)
      · intro j hj
        have hj2 : j < l.length := by omega
        first
          | (rw [Nat.zero_add, List.getElem_take]; exact Below.keeps ((Below.refl _ wr).alloc (Nat.le_refl _) _) _ _ (HCE.out j hj2))
          | exact HCE.out j hj2
          | (rw [Nat.zero_add, List.getElem_take]; exact HCE.out j hj2)
      · intro v7 w7 R7 hg7 _
        have B7 : Below wr.heap.size wr w7 := below_app ((Below.refl _ _).alloc (Nat.le_refl _) _) (OwnI.lit0 tInt wr wr.heap.size (Nat.le_refl _)).1 hg7 (Nat.le_refl _) (by simp)
        have s7 := B7.size
        have R7 : OwnI tInt w7 wr.heap.size w7.heap.size v7 (l.take k) := R7
        clear hg7
        go_wp2_with (at_builtin; refine wpList_append1_at _ rfl _ _ 27 rfl 3 (.int .i64 0) 8 Try.underlying27 infoInt (by decide) rfl wr.heap.size w7.heap.size _ _ rfl (R7.1.alloc _) ⟨w7.heap.size, 0, none⟩ 1 (.int .i64 (l.length : Int)) rfl (cell_alloc0 _ _ _) rfl ?_ ?_ ?_)
        · simp; omega
        · simp; omega
        · intro v8 w8 hown8 hg8 _
          have R8 := OwnI.snoc (xs := l.take k) (by rw [List.map_take]; exact hown8) R7.2 (show In64 (l.length : Int) from WalkArith.wf_i64 (by omega))
          have B8 : Below wr.heap.size wr w8 := below_app (B7.alloc s7 _) (R7.1.alloc _) hg8 (Nat.le_refl _) (by simp; omega)
          have s8 := B8.size
          have hl8 : (l.take k ++ [(l.length : Int)]).length = k + 1 := by rw [List.length_append, htk]; rfl
          clear hown8 hg8 R7 B7
          have HC8 : Hid (∀ j (hj : j < l.length), w8.cell? ⟨q, j, none⟩ = some (.int .i64 l[j])) := fun j hj => (B8.cell (p := ⟨q, j, none⟩) hqw).trans (HCE.out j hj)
          go_wp2_with (at_builtin; refine wpHold ?_)
          all_goals
            refine Lib.hid ?_
            have HCD : Hid (∀ j (hj : j < (l.drop k).length), w8.cell? ⟨q, k + j, none⟩ = some (.int .i64 (l.drop k)[j])) := fun j hj => by
              have hj2 : k + j < l.length := by omega
              rw [List.getElem_drop]; exact HC8.out (k + j) hj2
            have fin : ∀ v9 w9, OwnI tInt w9 wr.heap.size w9.heap.size v9 (l.take k ++ [(l.length : Int)] ++ l.drop k) → w8.grownBy w9 v8.ownBlock → _ := fun v9 w9 R9 hg9 => (⟨R9, below_app B8 R8.1 hg9 (Nat.le_refl _) (by omega)⟩ : OwnI tInt w9 wr.heap.size w9.heap.size v9 (l.take k ++ [(l.length : Int)] ++ l.drop k) ∧ Below wr.heap.size wr w9)
            first
              | refine wpList_appendS _ rfl _ _ 27 rfl 3 Try.underlying27 infoInt wr.heap.size _ _ (l.take k ++ [(l.length : Int)]) (l.drop k) rfl R8 q k (c - k) (by rw [hdk]; rfl) HCD.out (fun y hy => HIN.out y (List.mem_of_mem_drop hy)) (by rw [hl8, hdk]; omega) (by omega) ?_
              | refine wpList_appendS _ rfl _ _ 27 rfl 3 Try.underlying27 infoInt wr.heap.size _ _ (l.take k ++ [(l.length : Int)]) (l.drop k) rfl R8 q 0 0 (by rw [hdk]; rfl) (fun j hj => by exfalso; omega) (fun y hy => HIN.out y (List.mem_of_mem_drop hy)) (by rw [hl8, hdk]; omega) (by omega) ?_
            intro v9 w9 R9 hg9 _
            obtain ⟨R9, B9⟩ := fin v9 w9 R9 hg9
            clear fin hg9 R8 HC8 HCE HIN HCD
            have hl9 : (l.take k ++ [(l.length : Int)] ++ l.drop k).length = l.length + 1 := by rw [List.length_append, hl8, hdk]; omega
            obtain ⟨q9, c9, hv9, RQ9⟩ := R9.rowQ (by omega)
            rw [hl9] at hv9
            subst hv9
            have P9 := Lib.hid (HP.out.insert (k := k))
            have HC9 := Lib.hid (HC3.out.keep (B9.mono hws3) hgw (by omega))
            have RQ9' : RowQ w9 w.heap.size q9 c9 (l.take k ++ [(l.length : Int)] ++ l.drop k) := OwnI.wide RQ9 hws3 (Nat.le_refl _)
            have RQX := Lib.hid RQ9'
            have s9 := B9.size
            clear RQ9 RQ9' B9 R9
            go_wp2
            go_roundw
            case rel => exact ⟨l.length + 1, q9, c9, l.take k ++ [(l.length : Int)] ++ l.drop k, by omega, by go_num, hl9, rfl, P9, RQX, HC9, by omega⟩
            case measure => simp [intOf]; omega
    · go_wp2
      go_ret
      exact ⟨_, l, rfl, by rw [show N = n by omega]; exact HP.out, by rw [← hln]; exact RQ0.out, HC.out⟩
set_option maxHeartbeats 800000 in
set_option maxRecDepth 100000 in
theorem makeOrder (w : World) (bv : Value) (xs : List Int) (m N : Nat) (hB : Bytes w bv xs) (hl : xs.length ≤ 1048576) (hm : m ≤ 1000) (hN : N ≤ 8) :
    Calls Try.prog 15 #[bv, .int .i64 m, .int .i64 N] w fun e w' => ∃ v l, e = .returned v ∧ PermP N l ∧ OwnI tInt w' w.heap.size w'.heap.size v l ∧ Below w.heap.size w w' := by
  have HBW := Lib.hid hB
  have HN := Lib.hid (l31New w bv xs m hB hl hm)
  obtain ⟨ao, cap, hv, _⟩ := hB
  subst hv
  go_enter Try.func15, Try.ntmps15
  go_wp2_with fail
  refine HN.out.mono ?_; rintro e w1 ⟨g, rfl, C1⟩
  have b1 := C1.below
  have HD := Lib.hid (l02Order w w1 g _ xs N HBW.out C1 hN)
  clear C1
  go_wp2_with fail
  refine HD.out.mono ?_; rintro e w2 ⟨v, l, rfl, h2, HO, HC⟩
  have H2 := Lib.hid h2
  have HOO := Lib.hid (HO.wide (lo' := w.heap.size) b1.size (Nat.le_refl _))
  have b2 := HC.below
  clear h2 HO HC HD HN HBW
  go_wp2
  go_ret
  exact ⟨v, l, rfl, H2.out, HOO.out, b2⟩
end Go.Proofs.Ytldhbbbkfnfhoaa
