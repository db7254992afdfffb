/- Contracts: the reference's cursor, which draws numbers out of a code: l01New, l01Byte, l31New, l01Below. Of the numbers only their bounds are told. -/
import Derived.Test.YtldhbbbkfnfhoaaSlice
import Derived.Test.YtldhbbbkfnfhoaaGrid
import Derived.Laws.BitsLemmas
import Derived.BigRegion
import Derived.Outline
namespace Go.Proofs.Ytldhbbbkfnfhoaa
open Go.RowKit Go.ChangeShapes Go.WideShapes
set_option linter.unusedVariables false

def ByteAt (_ : World) (u : Value) (x : Int) : Prop := u = .int .u8 x ∧ 0 ≤ x ∧ x ≤ 255
def Bytes (w : World) (v : Value) (xs : List Int) : Prop := Sl ByteAt w v xs
theorem Bytes.keep {w w' : World} {v : Value} {xs : List Int} (h : Bytes w v xs) (hk : Keeps w w') : Bytes w' v xs := Sl.keep h hk fun _ _ h => h
theorem cellsByte : Try.prog.cellsOf 5 = 1 := by kernel_rfl
theorem Bytes.of_trod {H : Type} {enc : TypeId × Value → H} {P : Program} {W : World} {r : Reach} {base : Nat} {t e : TypeId} {v : Value} {d : DataW H} {p : List MemPlace} (ht : P.underlying t = some (.slice e)) (he : P.underlying e = some (.int .u8)) (hc : P.cellsOf e = 1)
    (hv : Value.okWide P W r base t v) (h : DataW.Trod enc P W 0 (fun _ => true) true t v d p) : ∃ xs, Bytes W v xs := by
  obtain ⟨a, len, cap, rfl⟩ := okWide_slice ht hv
  obtain ⟨fuel, hf⟩ := h
  have hf2 : DataW.trod enc P W 0 (fun _ => true) true fuel t [.slice a len cap] = some (d, p) := by simpa [Value.cells] using hf
  rcases open_ints ht he hc hf2 with ⟨hcs, _⟩ | ⟨x, l, c, zs, hcs, _, hl, hm, hz, _, hcell, hwz⟩
  · simp at hcs; obtain ⟨rfl, rfl, rfl⟩ := hcs
    exact ⟨[], none, 0, rfl, Nat.le_refl _, Nat.zero_le _, fun _ => rfl, fun k hk => absurd hk (Nat.not_lt_zero _)⟩
  · simp at hcs; obtain ⟨rfl, rfl, rfl⟩ := hcs
    simp only [if_true] at hz
    refine ⟨zs.take len, some x, cap, by simp [hz, hl], by simp [hz, hl], hm, (fun h => by cases h), fun k hk => ?_⟩
    have hk1 : k < len := by simp at hk; omega
    have hk2 : k < zs.length := by omega
    have hs := spot_none hcell (by omega)
    refine ⟨x.block, x.off, .int .u8 (zs.getD k 0), by rw [← hs], ?_, ?_⟩
    · rw [← hcell k hk2]; conv => rhs; rw [hs]
      rw [Addr.add_lit]
    · have e1 : (zs.take len)[k] = zs.getD k 0 := by simp [hk2]
      rw [e1]
      have hw := hwz (zs.getD k 0) (by simp [hk2])
      refine ⟨rfl, ?_⟩
      generalize zs.getD k 0 = z at hw ⊢
      simp [Lit.wf, IntKind.min, IntKind.max, IntKind.signed, IntKind.bits] at hw
      omega
theorem mask_and (n : Int) (k : Nat) (m : Int) (hk : k < 64) (hm : (BitVec.ofInt 64 m).toNat = 2 ^ k - 1) : bits BinOp.and IntKind.i64 n m = IntKind.i64.wrap (((n % ((2 ^ 64 : Nat) : Int)).toNat % 2 ^ k : Nat) : Int) := by
  have key : (BitVec.ofInt 64 n &&& BitVec.ofInt 64 m).toNat = (n % ((2 ^ 64 : Nat) : Int)).toNat % 2 ^ k := by
    rw [BitVec.toNat_and, BitVec.toNat_ofInt, hm, Nat.and_two_pow_sub_one_eq_mod]
  show IntKind.i64.wrap ((BitVec.ofInt 64 n &&& BitVec.ofInt 64 m).toNat : Nat) = _
  rw [key]
theorem and255 (n : Int) : bits BinOp.and IntKind.i64 n 255 = n % 256 := by
  rw [mask_and n 8 255 (by decide) (by decide), IntKind.wrap_i64]
  omega
theorem and30 (n : Int) : bits BinOp.and IntKind.i64 n 1073741823 = n % 1073741824 := by
  rw [mask_and n 30 1073741823 (by decide) (by decide), IntKind.wrap_i64]
  omega

/-- The cursor in block g, made behind the world w0: its code bv of n bytes. -/
structure Cur (w0 w : World) (g : Nat) (bv : Value) (n : Nat) : Prop where
  lo : w0.heap.size ≤ g
  cells : ∃ i h : Int, 0 ≤ i ∧ i ≤ n ∧ w.cell? ⟨g, 0, none⟩ = some bv ∧ w.cell? ⟨g, 1, none⟩ = some (.int .i64 i) ∧ w.cell? ⟨g, 2, none⟩ = some (.int .i64 h)
  f1 : w.frozen? ⟨g, 1, none⟩ = false
  f2 : w.frozen? ⟨g, 2, none⟩ = false
  below : Below w0.heap.size w0 w
theorem Cur.keep {w0 w w' : World} {g : Nat} {bv : Value} {n B : Nat} (h : Cur w0 w g bv n) (hb : Below B w w') (hg : g < B) (hB : w0.heap.size ≤ B) : Cur w0 w' g bv n := by
  obtain ⟨i, hh, a, b, c0, c1, c2⟩ := h.cells
  exact ⟨h.lo, ⟨i, hh, a, b, (hb.cell (p := ⟨g, 0, none⟩) hg).trans c0, (hb.cell (p := ⟨g, 1, none⟩) hg).trans c1, (hb.cell (p := ⟨g, 2, none⟩) hg).trans c2⟩, (hb.frozen (p := ⟨g, 1, none⟩) hg).trans h.f1, (hb.frozen (p := ⟨g, 2, none⟩) hg).trans h.f2, h.below.trans (hb.mono hB)⟩
theorem Cur.lt {w0 w : World} {g : Nat} {bv : Value} {n : Nat} (h : Cur w0 w g bv n) : g < w.heap.size := by
  obtain ⟨_, _, _, _, c, _⟩ := h.cells; exact World.block_lt_of_cell? w _ c
theorem Chg.comp {lo hi : Nat} {a b c : World} (h1 : Chg lo hi a b) (h2 : Chg lo hi b c) : Chg lo hi a c :=
  ⟨h2.os.trans h1.os, h2.tape.trans h1.tape, h2.output.trans h1.output, Nat.le_trans h1.size h2.size, fun k hk ho => (h2.block k (Nat.lt_of_lt_of_le hk h1.size) ho).trans (h1.block k hk ho)⟩
theorem Chg.drewN {lo hi : Nat} {w wr : World} (h : Chg lo hi w wr) (n : Nat) : Chg lo hi w (wr.drewN n) :=
  ⟨by rw [← h.os]; exact (below_drewN (Below.refl 0 wr) n).os, by rw [← h.tape]; exact (below_drewN (Below.refl 0 wr) n).tape, by rw [← h.output]; exact (below_drewN (Below.refl 0 wr) n).output, by rw [World.heap_drewN]; exact h.size, fun k hk ho => by rw [World.heap_drewN]; exact h.block k hk ho⟩

/-- A byte comes back; the cursor alone has turned. -/
def GivesByte (w0 w : World) (g : Nat) (bv : Value) (n : Nat) (en : Ending) (w' : World) : Prop := ∃ x : Nat, x ≤ 255 ∧ en = .returned (.int .i64 (x : Int)) ∧ Cur w0 w' g bv n ∧ Chg g (g + 1) w w'
set_option maxHeartbeats 1600000 in
set_option maxRecDepth 100000 in
theorem l01Byte (w0 w : World) (g : Nat) (bv : Value) (xs : List Int) (hB : Bytes w0 bv xs) (hC : Cur w0 w g bv xs.length) :
    Calls Try.prog 48 #[.pointer (some ⟨g, 0, none⟩)] w (GivesByte w0 w g bv xs.length) := by
  obtain ⟨i, h, hi0, hin, c0, c1, c2⟩ := hC.cells
  obtain ⟨ao, cap, rfl, hcap, hmax, hnil, hcell⟩ := hB
  have f1 := hC.f1
  have f2 := hC.f2
  have hlo := hC.lo
  unfold maxLen at hmax
  obtain ⟨j, rfl⟩ : ∃ j : Nat, i = (j : Int) := ⟨i.toNat, by omega⟩
  obtain ⟨w1, HW1⟩ : ∃ W, Hid (W = w.setCell ⟨g, 2, none⟩ (.int .i64 (wrap64 (wrap64 (h * 6364136223846793005) + 1442695040888963407)))) := ⟨_, rfl⟩
  have d0 : w1.cell? ⟨g, 0, none⟩ = some (.slice ao xs.length cap) := by rw [HW1.out, World.cell?_setCell_other _ _ _ _ (by simp)]; exact c0
  have d1 : w1.cell? ⟨g, 1, none⟩ = some (.int .i64 (j : Int)) := by rw [HW1.out, World.cell?_setCell_other _ _ _ _ (by simp)]; exact c1
  obtain ⟨h2, d2⟩ : ∃ h2 : Int, w1.cell? ⟨g, 2, none⟩ = some (.int .i64 h2) := ⟨_, by rw [HW1.out]; exact World.cell?_setCell_same _ _ _ c2⟩
  have g1 : w1.frozen? ⟨g, 1, none⟩ = false := by rw [HW1.out, World.frozen?_setCell]; exact f1
  have g2 : w1.frozen? ⟨g, 2, none⟩ = false := by rw [HW1.out, World.frozen?_setCell]; exact f2
  have hb1 : Below w0.heap.size w0 w1 := by rw [HW1.out]; exact hC.below.setCell hlo _
  have HCh : Hid (Chg g (g + 1) w w1) := by rw [HW1.out]; exact chg_setCell _ _ _ _
  have HBy : Hid (∀ k (hk : k < xs.length), ∃ b o x, ao = some ⟨b, o, none⟩ ∧ w1.cell? ⟨b, o + k, none⟩ = some (.int .u8 x) ∧ 0 ≤ x ∧ x ≤ 255) := by
    intro k hk
    obtain ⟨b, o, u, e1, e2, e3, e4, e5⟩ := hcell k hk
    exact ⟨b, o, xs[k], e1, by rw [← e3]; exact Below.keeps hb1 _ _ e2, e4, e5⟩
  have a255 := and255
  have HMK : Hid (∀ (w' : World) (n : Nat) (j' : Nat), j' ≤ xs.length → w' = w1.drewN n → w'.cell? ⟨g, 1, none⟩ = some (.int .i64 (j' : Int)) → Cur w0 w' g (.slice ao xs.length cap) xs.length ∧ Chg g (g + 1) w w') := by
    intro w' n j' hj e hc
    subst e
    exact ⟨⟨hlo, ⟨j', h2, by omega, by omega, d0, hc, d2⟩, g1, g2, below_drewN hb1 n⟩, HCh.out.drewN n⟩
  clear hcell hnil hC
  by_cases hlt : j < xs.length
  · obtain ⟨b, o, bx, rfl, hbx, hbx0, hbx1⟩ := HBy.out j hlt
    go_enter Try.func48, Try.ntmps48
    go_wp2
    rw [← HW1.out]
    clear HW1 c0 c1 c2 f1 f2
    go_quiet (fail)
    go_wp2
    obtain ⟨x1, hx1, hx2⟩ : ∃ x : Nat, bits BinOp.xor IntKind.i64 (h2 / 8589934592) (h2 / 35184372088832) % 256 = (x : Int) ∧ x ≤ 255 := ⟨(bits BinOp.xor IntKind.i64 (h2 / 8589934592) (h2 / 35184372088832) % 256).toNat, by omega, by omega⟩
    rw [hx1]
    clear hx1
    go_quiet (fail)
    go_wp2
    have hws : IntKind.i64.wrap ((x1 : Int) + bx) = (x1 : Int) + bx := IntWalk.i64_in _ ⟨by omega, by omega⟩
    go_quiet (fail)
    obtain ⟨x2, hx3, hx4⟩ : ∃ x : Nat, ((x1 : Int) + bx) % 256 = (x : Int) ∧ x ≤ 255 := ⟨(((x1 : Int) + bx) % 256).toNat, by omega, by omega⟩
    clear hws
    go_wp2
    rw [hx3]
    go_ret
    refine ⟨x2, hx4, rfl, ⟨hlo, ⟨(j : Int) + 1, h2, by omega, by omega, ?_, ?_, ?_⟩, ?_, ?_, ?_⟩, ?_⟩
    all_goals skip
    · first | (rw [World.cell?_setCell_other _ _ _ _ (by simp)]; exact d0) | exact d0
    · first | exact World.cell?_setCell_same _ _ _ d1 | (simp; exact World.cell?_setCell_same _ _ _ d1)
    · first | (rw [World.cell?_setCell_other _ _ _ _ (by simp)]; exact d2) | exact d2
    · first | (rw [World.frozen?_setCell]; exact g1) | exact g1
    · first | (rw [World.frozen?_setCell]; exact g2) | exact g2
    · exact (below_drewN hb1 _).setCell hlo _
    · exact (HCh.out.drewN _).comp (chg_setCell _ _ _ _)
  · go_enter Try.func48, Try.ntmps48
    go_wp2
    rw [← HW1.out]
    clear HW1 c0 c1 c2 f1 f2
    go_quiet (fail)
    go_wp2
    obtain ⟨x1, hx1, hx2⟩ : ∃ x : Nat, bits BinOp.xor IntKind.i64 (h2 / 8589934592) (h2 / 35184372088832) % 256 = (x : Int) ∧ x ≤ 255 := ⟨(bits BinOp.xor IntKind.i64 (h2 / 8589934592) (h2 / 35184372088832) % 256).toNat, by omega, by omega⟩
    rw [hx1]
    clear hx1
    go_quiet (fail)
    go_wp2
    go_ret
    obtain ⟨z1, z2⟩ := HMK.out _ _ j (by omega) (World.drewN_drewN _ _ _) d1
    exact ⟨x1, hx2, rfl, z1, z2⟩
/-- A new cursor comes back. -/
def GivesCur (w : World) (bv : Value) (n : Nat) (en : Ending) (w' : World) : Prop := ∃ g, en = .returned (.pointer (some ⟨g, 0, none⟩)) ∧ Cur w w' g bv n
set_option maxHeartbeats 800000 in
set_option maxRecDepth 100000 in
theorem l01New (w : World) (bv : Value) (xs : List Int) (hB : Bytes w bv xs) (hl : xs.length ≤ 1048576) : Calls Try.prog 47 #[bv] w (GivesCur w bv xs.length) := by
  obtain ⟨ao, cap, rfl, hcap, hmax, hnil, hcell⟩ := hB
  unfold maxLen at hmax
  have HCc := Lib.hid hcell
  have a30 := and30
  clear hcell hnil
  go_enter Try.func47, Try.ntmps47
  go_wp2
  go_loop [3, 4] (fun q c => ∃ k : Nat, k ≤ xs.length ∧ c = .int .i64 k ∧ ∃ hh : Int, q = .int .i64 hh) (fun _ c => xs.length - (intOf c).toNat)
  case atStart => exact ⟨0, Nat.zero_le _, rfl, _, rfl⟩
  case round =>
    obtain ⟨k, hk9, rfl, hh, rfl⟩ := hrel
    by_cases hlt : k < xs.length
    · by_cases h4 : k < 4000
      · obtain ⟨b, o, u, rfl, hu, rfl, hx0, hx1⟩ := HCc.out k hlt
        go_wp2
        go_round
        case rel => exact ⟨k + 1, by omega, by go_num, _, rfl⟩
        case measure => simp [intOf]; omega
      · go_wp2
        go_ret
        refine ⟨_, rfl, ⟨Nat.le_refl _, ⟨0, hh, by omega, by omega, ?_, ?_, ?_⟩, ?_, ?_, (Below.refl _ _).alloc (Nat.le_refl _) _⟩⟩
        all_goals (first | (unfold World.cell?; rw [heap_alloc_new]; rfl) | (unfold World.frozen?; rw [heap_alloc_new]; rfl))
    · go_wp2
      go_ret
      refine ⟨_, rfl, ⟨Nat.le_refl _, ⟨0, hh, by omega, by omega, ?_, ?_, ?_⟩, ?_, ?_, (Below.refl _ _).alloc (Nat.le_refl _) _⟩⟩
      all_goals (first | (unfold World.cell?; rw [heap_alloc_new]; rfl) | (unfold World.frozen?; rw [heap_alloc_new]; rfl))
set_option maxHeartbeats 800000 in
set_option maxRecDepth 100000 in
theorem l31New (w : World) (bv : Value) (xs : List Int) (m : Nat) (hB : Bytes w bv xs) (hl : xs.length ≤ 1048576) (hm : m ≤ 1000) : Calls Try.prog 23 #[bv, .int .i64 m] w (GivesCur w bv xs.length) := by
  have HB := Lib.hid hB
  have HN := Lib.hid (l01New w bv xs hB hl)
  have hB9 := hB
  obtain ⟨ao, cap, hv, _⟩ := hB9
  subst hv
  clear hB
  go_enter Try.func23, Try.ntmps23
  go_wp2_with fail
  refine HN.out.mono ?_; rintro e w1 ⟨g, rfl, C1⟩
  have HC1 := Lib.hid C1
  clear C1
  go_wp2
  go_loopw [6] (fun c wr => ∃ k : Nat, k ≤ m ∧ c = .int .i64 k ∧ Hid (Cur w wr g (.slice ao xs.length cap) xs.length)) (fun c _ => m - (intOf c).toNat)
  case atStart => exact ⟨0, Nat.zero_le _, rfl, HC1⟩
  case round =>
    obtain ⟨k, hk9, rfl, HC⟩ := hrel
    by_cases hlt : k < m
    · go_wp2_with fail
      refine (l01Byte w _ g _ xs HB.out HC.out).mono ?_; rintro e w2 ⟨x, _, rfl, C2, _⟩
      have HC2 := Lib.hid C2
      clear C2
      go_wp2
      go_roundw
      case rel => exact ⟨k + 1, by omega, by go_num, HC2⟩
      case measure => simp [intOf]; omega
    · go_wp2
      go_ret
      exact ⟨g, rfl, HC.out⟩
/-- A number below m comes back; the cursor alone has turned. -/
def GivesLt (w0 w : World) (g : Nat) (bv : Value) (n m : Nat) (en : Ending) (w' : World) : Prop := ∃ x : Nat, x < m ∧ en = .returned (.int .i64 (x : Int)) ∧ Cur w0 w' g bv n ∧ Chg g (g + 1) w w'
set_option maxHeartbeats 800000 in
set_option maxRecDepth 100000 in
theorem l01Below (w0 w : World) (g : Nat) (bv : Value) (xs : List Int) (m : Nat) (hB : Bytes w0 bv xs) (hC : Cur w0 w g bv xs.length) (h1 : 1 ≤ m) (h2 : m ≤ 256) :
    Calls Try.prog 46 #[.pointer (some ⟨g, 0, none⟩), .int .i64 m] w (GivesLt w0 w g bv xs.length m) := by
  have HC := Lib.hid (l01Byte w0 w g bv xs hB hC)
  have hd1 : decide ((m : Int) ≤ 0) = false := decide_eq_false (by omega)
  have hd2 : decide ((m : Int) ≤ 256) = true := decide_eq_true (by omega)
  clear hB hC
  go_enter Try.func46, Try.ntmps46
  go_wp2_with fail
  refine HC.out.mono ?_; rintro e w2 ⟨x, hx, rfl, C2, Ch2⟩
  have HC2 := Lib.hid C2
  have HCh := Lib.hid Ch2
  clear C2 Ch2
  go_wp2
  go_ret
  exact ⟨x % m, Nat.mod_lt _ (by omega), by simp, HC2.out, HCh.out⟩
end Go.Proofs.Ytldhbbbkfnfhoaa
