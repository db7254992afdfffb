/- Contracts: FormatInt, the program's. -/
import Derived.Test.YtpgccaibcpiakaaDoorFmtI
import Derived.Test.YtpgccaibcpiakaaDoorShelfItoa
namespace Go.Proofs.YtpgccaibcpiakaaDoor
open Go.RowKit Go.Sort
set_option linter.unusedVariables false

/-- The table of powers of ten lies in its variable. -/
def Tab10 (w : World) : Prop := Lib.TabIs Tryd.prog w "internal/strconv.uint64pow10" .u64 Lib.pow10Tab
theorem tabIs_below {P : Program} {w w' : World} {name : String} {k : IntKind} {zs : List Int} (h : Lib.TabIs P w name k zs) (hb : Below w.heap.size w w') : Lib.TabIs P w' name k zs := by
  unfold Lib.TabIs World.var? at *
  cases hg : P.globalNamed name with
  | none => simp [hg] at h
  | some g =>
    simp only [hg, Option.bind_some] at h ⊢
    have hlt : g < w.heap.size := by
      rcases Nat.lt_or_ge g w.heap.size with h' | h'
      · exact h'
      · rw [Array.getElem?_eq_none h'] at h; simp at h
    rw [hb.block g hlt]
    exact h
theorem Tab10.below {w w' : World} (h : Tab10 w) (hb : Below w.heap.size w w') : Tab10 w' := tabIs_below h hb
theorem grow_below (w : World) (os : Array Obj) : Below w.heap.size w (grow w os) :=
  ⟨rfl, rfl, rfl, by simp [grow], fun k hk => by simp [grow, Array.getElem?_append, hk]⟩
theorem grow_below2 (w : World) (k : Nat) (os : Array Obj) : Below w.heap.size w (grow (w.drewN k) os) := by
  have h := grow_below (w.drewN k) os
  rw [World.heap_drewN] at h
  exact (below_drewN (Below.refl _ _) k).trans h

set_option maxRecDepth 100000 in
theorem implFormatInt (n : Int) (w : World) (hn : (Lit.int .i64 n).wf = true) (hT : Tab10 w) : Calls Tryd.prog 15 #[.int .i64 n] w (GivesT w (itoaB n)) := by
  have hb := (in64_iff n).1 hn
  have C := Lib.hid (Tryd.strconv_Itoa n hb.1 hb.2 w hT)
  clear hb hn hT
  go_enter Tryd.func15, Tryd.ntmps15
  go_wp2_with (go_at_call 28; refine C.out.mono ?_; rintro e w2 ⟨rfl, k, os, rfl⟩)
  go_ret
  exact ⟨rfl, grow_below2 _ _ _⟩
set_option maxRecDepth 100000 in
theorem implFormatInt_small (n : Nat) (w : World) (hn : n < 100) : Calls Tryd.prog 15 #[.int .i64 (n : Int)] w (GivesT w (itoaB n)) := by
  have C := Lib.hid (Tryd.strconv_Itoa_small n hn w)
  go_enter Tryd.func15, Tryd.ntmps15
  go_wp2_with (go_at_call 28; refine C.out.mono ?_; rintro e w2 ⟨rfl, rfl⟩)
  go_ret
  exact ⟨ret_str (by apply bytes_eq; rw [itoaB_list, Lib.itoa_nonneg]), Below.refl _ _⟩
end Go.Proofs.YtpgccaibcpiakaaDoor
