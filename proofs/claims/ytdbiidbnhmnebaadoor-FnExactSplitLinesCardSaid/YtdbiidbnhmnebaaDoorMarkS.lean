/- Contracts of the laws' helpers that mark a slice of strings and ask whether the marks are still held. -/
import Derived.Test.YtdbiidbnhmnebaaDoorStrs
import Derived.Test.YtdbiidbnhmnebaaDoorSlice
import Derived.Laws.BytesArg
import Derived.Deep.RegionHeld3
namespace Go.Proofs.YtdbiidbnhmnebaaDoor
open Go.RowKit
set_option linter.unusedVariables false

theorem bytes_eq' {s t : ByteArray} (h : s.data.toList = t.data.toList) : s = t := by
  cases s; cases t; congr 1; exact Array.toList_inj.1 h
theorem ret_str' {s t : ByteArray} (h : s = t) : Ending.returned (.string s) = .returned (.string t) := by rw [h]
/-- The decimal digits of a number; of 0 none. -/
def digs (n : Nat) : List UInt8 := if h : n = 0 then [] else digs (n / 10) ++ [48 + UInt8.ofNat (n % 10)]
termination_by n
decreasing_by omega
theorem digs_zero : digs 0 = [] := by rw [digs, dif_pos rfl]
theorem digs_pos {n : Nat} (h : 0 < n) : digs n = digs (n / 10) ++ [48 + UInt8.ofNat (n % 10)] := by rw [digs, dif_neg (by omega)]
/-- The mark of number k. -/
def mkT (k : Nat) : ByteArray := ⟨#[109]⟩ ++ ⟨(digs k).toArray⟩
/-- One byte, as a text. -/
theorem one_byte {P : Program} (src e dst : TypeId) (hs : P.underlying src = some (.slice e)) (he : P.underlying e = some (.int .u8)) (hd : P.underlying dst = some .string) (W : World) (x : Int) :
    (convert src dst (.slice (some ⟨W.heap.size, 0, none⟩) 1 1)).run P (W.alloc (.cells #[.int .u8 x] e)) = .ok (.string ⟨#[UInt8.ofNat x.toNat]⟩) (W.alloc (.cells #[.int .u8 x] e)) :=
  run_convert_bytes_arg (W.alloc (.cells #[.int .u8 x] e)) src e hs he W.heap.size 0 1 1 [x] rfl (fun i hi => by
    have : i = 0 := by omega
    subst this
    unfold World.cell?; rw [heap_alloc_new]; rfl) dst hd

set_option maxHeartbeats 800000 in
theorem markText (k : Nat) (w : World) (h0 : 0 < k) (h1 : k ≤ 4611686018427387904) :
    Calls Tryd.prog 21 #[.int .i64 k] w fun e w' => e = .returned (.string (mkT k)) ∧ Below w.heap.size w w' := by
  have kb := one_byte (P := Tryd.prog) 38 5 9 Tryd.underlying38 Tryd.underlying5 Tryd.underlying9
  have e0 : decide ((k : Int) ≤ 0) = false := decide_eq_false (by omega)
  have e9 : decide (k = 0) = false := decide_eq_false (by omega)
  go_enter Tryd.func21, Tryd.ntmps21
  go_wp2
  go_loopw [0, 3] (fun q o wr => ∃ (n : Nat) (t : ByteArray), t.size + n ≤ k ∧ q = .int .i64 n ∧ o = .string t ∧ Hid (digs n ++ t.data.toList = digs k) ∧ Below w.heap.size w wr) (fun q _ _ => (intOf q).toNat)
  case atStart => exact ⟨k, ⟨#[]⟩, by show 0 + k ≤ k; omega, rfl, rfl, by show _ = _; simp, Below.refl _ _⟩
  case round =>
    obtain ⟨n, t, hn, rfl, rfl, HT, hb⟩ := hrel
    by_cases hlt : 0 < n
    · have e1 : decide ((n : Int) > 0) = true := decide_eq_true (by omega)
      have HD := Lib.hid (digs_pos hlt)
      have R2 := hb.alloc hb.size (.cells #[.int .u8 (48 + (n : Int) % 10)] 5)
      have hs1 : ((⟨#[48 + UInt8.ofNat (n % 10)]⟩ : ByteArray) ++ t).size = 1 + t.size := by rw [ByteArray.size_append]; rfl
      have HS := Lib.hid hs1
      clear hs1
      have HT2 : Hid (digs (n / 10) ++ ((⟨#[48 + UInt8.ofNat (n % 10)]⟩ : ByteArray) ++ t).data.toList = digs k) := by
        show _ = _
        rw [← HT.out, HD.out]; simp
      go_wp2
      go_roundw
      case rel => exact ⟨n / 10, _, by rw [HS.out]; omega, by go_num, rfl, HT2, R2⟩
      case measure => simp [intOf]; omega
    · obtain rfl : n = 0 := by omega
      have HE : Hid ((⟨#[109]⟩ ++ t : ByteArray) = mkT k) := by
        show _ = _
        have := HT.out
        rw [digs_zero, List.nil_append] at this
        unfold mkT; congr 1
        exact bytes_eq' (by simpa using this)
      go_wp2
      go_ret
      exact ⟨ret_str' HE.out, hb⟩

/-- The marks k, k + 1, .. -/
def marksT (k : Nat) (n : Nat) : List ByteArray := (List.range n).map fun i => mkT (k + i)
theorem marksT_length (k n : Nat) : (marksT k n).length = n := by simp [marksT]
theorem marksT_get (k n i : Nat) (h : i < (marksT k n).length) : (marksT k n)[i] = mkT (k + i) := by simp [marksT]
theorem digs_len (f : Nat) : ∀ n, n ≤ f → (digs n).length ≤ n := by
  induction f with
  | zero => intro n hn; obtain rfl : n = 0 := by omega
            rw [digs_zero]; simp
  | succ f ih =>
    intro n hn
    rcases Nat.eq_zero_or_pos n with h | h
    · subst h; rw [digs_zero]; simp
    · rw [digs_pos h, List.length_append]
      have := ih (n / 10) (by omega)
      simp; omega
theorem mkT_size (k : Nat) : (mkT k).size ≤ k + 1 := by
  have := digs_len k k (Nat.le_refl _)
  have e : (mkT k).size = 1 + (digs k).length := by
    unfold mkT; rw [ByteArray.size_append]; rfl
  omega

/-- New memory behind a write. -/
theorem Chg.trans' {lo hi : Nat} {w wr w2 : World} (h : Chg lo hi w wr) (b : Below wr.heap.size wr w2) (hh : hi ≤ w.heap.size) : Chg lo hi w w2 :=
  ⟨b.os.trans h.os, b.tape.trans h.tape, b.output.trans h.output, Nat.le_trans h.size b.size, fun k hk ho => (b.block k (by have := h.size; omega)).trans (h.block k hk ho)⟩

set_option maxHeartbeats 800000 in
theorem markStringS (lo hi : Nat) (v : Value) (xs : List ByteArray) (k : Nat) (w : World) (h : OwnS tStr w lo hi v xs) (hhi : hi ≤ w.heap.size) (h0 : 0 < k) (h1 : k + xs.length ≤ 1152921504606846976) :
    Calls Tryd.prog 11 #[v, .int .i64 k] w fun e w' => e = .returned (.int .i64 ((k + xs.length : Nat) : Int)) ∧ OwnS tStr w' lo hi v (marksT k xs.length) ∧ Chg lo hi w w' := by
  rcases h.1.cases with ⟨rfl, hx⟩ | ⟨g, cap, rfl, hc1, hc2, hlo, hhi2, hsz, hown, hcell, hfz⟩
  · have hx' : xs = [] := List.map_eq_nil_iff.1 hx
    subst hx'
    go_enter Tryd.func11, Tryd.ntmps11
    go_wp2
    go_loop [1, 5] (fun q i => i = .int .i64 0 ∧ q = .int .i64 k) (fun _ i => 0)
    case atStart => exact ⟨rfl, rfl⟩
    case round =>
      obtain ⟨rfl, rfl⟩ := hrel
      go_wp2
      go_ret
      exact ⟨by simp, ⟨h.1, fun x hx => by simp [marksT] at hx⟩, Chg.refl _ _ _⟩
  · have hn : (xs.map Value.string).length = xs.length := by simp
    obtain ⟨n, Hn⟩ : ∃ n, Hid (xs.length = n) := ⟨_, rfl⟩
    have F0 : FillsV tStr lo g cap w n (xs.map Value.string) := ⟨by rw [hn]; exact Hn.out, by rw [hn, Hn.out] at hown; exact hown⟩
    rw [hn, Hn.out] at hc1 ⊢
    rw [Hn.out] at h1
    clear hn hown hcell hfz h
    unfold maxLen at hc2
    go_enter Tryd.func11, Tryd.ntmps11
    go_wp2
    go_loopw [1, 5] (fun q i wr => ∃ j : Nat, j ≤ n ∧ i = .int .i64 j ∧ q = .int .i64 ((k + j : Nat) : Int) ∧ ∃ us : List Value, FillsV tStr lo g cap wr n us ∧ Hid (us.take j = ((marksT k n).map Value.string).take j) ∧ Chg lo hi w wr) (fun _ i _ => n - (intOf i).toNat)
    case atStart => exact ⟨0, Nat.zero_le _, rfl, rfl, _, F0, rfl, Chg.refl _ _ _⟩
    case round =>
      obtain ⟨j, hj, rfl, rfl, us, F, HT, hch⟩ := hrel
      have hsw := hch.size
      by_cases hlt : j < n
      · go_wp2_with fail
        refine (markText (k + j) _ (by omega) (by omega)).mono ?_; rintro e w2 ⟨rfl, b2⟩
        have hgl := F.lt
        have F2 := F.block (b2.block g hgl)
        obtain ⟨z, c2, _⟩ := F2.cell j hlt
        have c3 := F2.frozen j
        have hus : us.length = n := F.1
        have R1 := F2.set j (.string (mkT (k + j)))
        have R2 : Hid ((us.set j (.string (mkT (k + j)))).take (j + 1) = ((marksT k n).map Value.string).take (j + 1)) := by
          show _ = _
          rw [take_set' us j _ (by omega), HT.out, List.take_succ_eq_append_getElem (by rw [List.length_map, marksT_length]; exact hlt)]
          simp [marksT_get]
        have R3 := (hch.trans' b2 hhi).setCell hlo hhi2 (k := j) (.string (mkT (k + j)))
        clear F F2 HT hch
        go_wp2
        go_roundw
        case rel => exact ⟨j + 1, by omega, by go_num, by go_num, _, R1, R2, R3⟩
        case measure => simp [intOf]; omega
      · obtain rfl : j = n := by omega
        have e : us = (marksT k j).map Value.string := by
          have := HT.out
          rwa [List.take_of_length_le (by rw [F.1]; exact Nat.le_refl _), List.take_of_length_le (by rw [List.length_map, marksT_length]; exact Nat.le_refl _)] at this
        have R : OwnS tStr wr lo hi (.slice (some ⟨g, 0, none⟩) j cap) (marksT k j) := by
          subst e
          refine ⟨⟨by simpa [marksT_length] using F.2, fun g' hg => by simp [Value.ownBlock] at hg; omega⟩, fun x hx => ?_⟩
          obtain ⟨i, hi, rfl⟩ := List.getElem_of_mem hx
          rw [marksT_get]; rw [marksT_length] at hi
          have := mkT_size (k + i)
          unfold maxLen; omega
        clear HT F e
        go_wp2
        go_ret
        exact ⟨rfl, R, hch⟩

set_option maxHeartbeats 800000 in
theorem heldStringS (v : Value) (n : Nat) (k : Nat) (w : World) (h : Strs w v (marksT k n)) (h0 : 0 < k) (h1 : k + n ≤ 1152921504606846976) :
    Calls Tryd.prog 12 #[v, .int .i64 k] w (GivesN w ((k + n : Nat) : Int)) := by
  obtain ⟨ao, cap, rfl, hcap, hmax, hnil, hcell⟩ := h
  have HC := Lib.hid hcell; clear hcell
  unfold maxLen at hmax
  rw [marksT_length] at hcap ⊢
  go_enter Tryd.func12, Tryd.ntmps12
  go_wp2
  go_loopw [1, 5] (fun q i wr => ∃ j : Nat, j ≤ n ∧ i = .int .i64 j ∧ q = .int .i64 ((k + j : Nat) : Int) ∧ Below w.heap.size w wr) (fun _ i _ => n - (intOf i).toNat)
  case atStart => exact ⟨0, Nat.zero_le _, rfl, rfl, Below.refl _ _⟩
  case round =>
    obtain ⟨j, hj, rfl, rfl, hb⟩ := hrel
    have hsw := hb.size
    by_cases hlt : j < n
    · obtain ⟨b, o, u, rfl, hu, rfl, hwf⟩ := HC.out j (by rw [marksT_length]; exact hlt)
      rw [marksT_get] at hu
      have c1 := Below.keeps hb _ _ hu
      clear hu hwf
      go_wp2
      go_region_held3 (fun w' => w'.cell? ⟨b, o + j, none⟩ = some (.string (mkT (k + j))) ∧ Below w.heap.size w w')
        (first | exact ⟨c1, hb.drew⟩ | exact And.intro (Below.keeps (by assumption) _ _ (And.left (by assumption))) (Below.trans (And.right (by assumption)) (Below.mono (by assumption) (And.right (by assumption : _ ∧ Below w.heap.size w _)).size)))
        ((go_at_call 21; refine (markText (k + j) _ (by omega) (by omega)).mono ?_; rintro e w2 ⟨rfl, b2⟩))
      have hb9 := And.right (by assumption : _ ∧ Below w.heap.size w _)
      go_wp2
      go_roundw
      case rel => exact ⟨j + 1, by omega, by go_num, by go_num, hb9⟩
      case measure => simp [intOf]; omega
    · obtain rfl : j = n := by omega
      go_wp2
      go_ret
      exact ⟨rfl, hb⟩
theorem markStringS1 (lo hi : Nat) (v : Value) (xs : List ByteArray) (w : World) (h : OwnS tStr w lo hi v xs) (hhi : hi ≤ w.heap.size) (h1 : xs.length ≤ 1152921504606846) :
    Calls Tryd.prog 11 #[v, .int .i64 (1 : Int)] w fun e w' => e = .returned (.int .i64 ((1 : Int) + (xs.length : Int))) ∧ OwnS tStr w' lo hi v (marksT 1 xs.length) ∧ Chg lo hi w w' := by
  have := markStringS lo hi v xs 1 w h hhi (by omega) (by omega)
  simpa using this
theorem heldStringS1 (v : Value) (n : Nat) (w : World) (h : Strs w v (marksT 1 n)) (h1 : n ≤ 1152921504606846) :
    Calls Tryd.prog 12 #[v, .int .i64 (1 : Int)] w (GivesN w ((1 : Int) + (n : Int))) := by
  have := heldStringS v n 1 w h (by omega) (by omega)
  simpa using this
end Go.Proofs.YtdbiidbnhmnebaaDoor
