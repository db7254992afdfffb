/- Contracts: ParseInt, the program's. -/
import Derived.Test.YtpgccaibcpiakaaDoorPInt
import Derived.Test.YtpgccaibcpiakaaDoorItoa
import Derived.Test.YtpgccaibcpiakaaDoorShelfAtoi
namespace Go.Proofs.YtpgccaibcpiakaaDoor
open Go.RowKit
set_option linter.unusedVariables false

/-- The two errors of package strconv lie in their variables. -/
def ErrV (w : World) : Prop := (∃ t p, w.var? Tryd.prog "strconv.ErrSyntax" = some #[.iface t p]) ∧ ∃ t p, w.var? Tryd.prog "strconv.ErrRange" = some #[.iface t p]
theorem var_below {P : Program} {w w' : World} {name : String} {cs : Array Value} (h : w.var? P name = some cs) (hb : Below w.heap.size w w') : w'.var? P name = some cs := by
  unfold World.var? at *
  cases hg : P.globalNamed name with
  | none => simp [hg] at h
  | some g =>
    simp only [hg, Option.bind_some] at h ⊢
    have hlt : g < w.heap.size := by
      rcases Nat.lt_or_ge g w.heap.size with h' | h'
      · exact h'
      · rw [Array.getElem?_eq_none h'] at h; simp at h
    rw [hb.block g hlt]
    exact h
theorem ErrV.below {w w' : World} (h : ErrV w) (hb : Below w.heap.size w w') : ErrV w' := by
  obtain ⟨⟨t, p, h1⟩, ⟨u, q, h2⟩⟩ := h
  exact ⟨⟨t, p, var_below h1 hb⟩, ⟨u, q, var_below h2 hb⟩⟩
theorem atoiAll_in {l : List UInt8} {v : Int} (h : Lib.atoiAll l = .ok v) : In64 v := by
  rw [in64_iff]
  unfold Lib.atoiAll at h
  cases l with
  | nil => cases h
  | cons c r =>
    simp only at h
    split at h
    · cases h
    · cases h
    · split at h
      · cases h
      · split at h
        · cases h
        · rename_i u _ h1 h2
          simp only [Lib.NumEnd.ok.injEq] at h
          by_cases hn : c.toNat = 45
          · rw [if_pos hn] at h; omega
          · rw [if_neg hn] at h; omega
theorem atoi_not {s : ByteArray} (h : ∀ v, Lib.atoiAll s.data.toList ≠ .ok v) : ¬ PiP s := fun ⟨n, hn, he⟩ => h n (by rw [he]; exact atoiAll_itoa n hn)
set_option maxHeartbeats 800000 in
set_option maxRecDepth 100000 in
theorem implParseInt (s : ByteArray) (w : World) (hs : s.size ≤ maxLen) (hs2 : s.size ≤ 1048576) (hT : Tab10 w) (hE : ErrV w) :
    Calls Tryd.prog 6 #[.string s] w (GivesIB w (piN s) (tf (PiP s))) := by
  cases ha : Lib.atoiAll s.data.toList with
  | ok v =>
    have hv := atoiAll_in ha
    have C : Hid (Calls Tryd.prog 14 #[.string s] w fun e w' => e = .returned (.tuple #[.int .i64 v, .nilIface]) ∧ Below w.heap.size w w') := by
      refine (Tryd.strconv_Atoi_ok s (by omega) v ha w).mono ?_
      rintro e w' ⟨rfl, h | ⟨t, h⟩⟩
      · subst h; exact ⟨rfl, Below.refl _ _⟩
      · subst h; exact ⟨rfl, Lib.bytesWorld_below _ _ _⟩
    have HF : Hid (∀ W, Below w.heap.size w W → Calls Tryd.prog 15 #[.int .i64 v] W (GivesT W (itoaB v))) := fun W hb => implFormatInt v W hv (hT.below hb)
    by_cases hq : itoaB v = s
    · have hst : ((itoaB v).toList == s.toList) = true := by rw [strq]; exact decide_eq_true hq
      have HZ := pi_true (s := s) (n := v) hv (by rw [← hq]; rfl)
      clear hq hs hs2 ha hv hT hE
      go_enter Tryd.func6, Tryd.ntmps6
      go_wp2_with fail
      refine C.out.mono ?_; rintro e w1 ⟨rfl, b1⟩
      go_wp2_with fail
      refine (HF.out _ b1).mono ?_; rintro e w2 ⟨rfl, b2⟩
      have BE := b1.trans (b2.mono b1.size)
      go_wp2
      go_ret2
      exact ⟨ret_ib HZ.out.1.symm HZ.out.2.symm, BE⟩
    · have hst : ((itoaB v).toList == s.toList) = false := by rw [strq]; exact decide_eq_false hq
      have HZ := pi_false (s := s) (fun ⟨n, hn, he⟩ => by
        have := atoiAll_itoa n hn
        rw [← he, ha] at this
        injection this with this
        subst this
        exact hq (bytes_eq (by rw [itoaB_list]; exact he.symm)))
      clear hq hs hs2 ha hv hT hE
      go_enter Tryd.func6, Tryd.ntmps6
      go_wp2_with fail
      refine C.out.mono ?_; rintro e w1 ⟨rfl, b1⟩
      go_wp2_with fail
      refine (HF.out _ b1).mono ?_; rintro e w2 ⟨rfl, b2⟩
      have BE := b1.trans (b2.mono b1.size)
      go_wp2
      go_ret2
      exact ⟨ret_ib HZ.out.1.symm HZ.out.2.symm, BE⟩
  | «syntax» =>
    obtain ⟨t, p, hv⟩ := hE.1
    have C := Lib.hid (Tryd.strconv_Atoi_syntax_var s (by omega) ha t p w hv)
    have HZ := pi_false (atoi_not (s := s) (fun v h => by rw [ha] at h; cases h))
    clear hs hs2 ha hT hE hv
    go_enter Tryd.func6, Tryd.ntmps6
    go_wp2_with fail
    refine C.out.mono ?_; rintro e w1 ⟨N, rfl, _, _, b1⟩
    go_wp2
    go_ret2
    exact ⟨ret_ib HZ.out.1.symm HZ.out.2.symm, b1⟩
  | range =>
    obtain ⟨t, p, hv⟩ := hE.2
    have C := Lib.hid (Tryd.strconv_Atoi_range_var s (by omega) ha t p w hv)
    have HZ := pi_false (atoi_not (s := s) (fun v h => by rw [ha] at h; cases h))
    clear hs hs2 ha hT hE hv
    go_enter Tryd.func6, Tryd.ntmps6
    go_wp2_with fail
    refine C.out.mono ?_; rintro e w1 ⟨N, rfl, _, _, b1⟩
    go_wp2
    go_ret2
    exact ⟨ret_ib HZ.out.1.symm HZ.out.2.symm, b1⟩
end Go.Proofs.YtpgccaibcpiakaaDoor
