/- slices.SortStableFunc on rows of at most 60 elements of one cell each. -/
import Derived.Test.YthcnmaapcniehaaSymY
import Derived.Test.YthcnmaapcniehaaSymQ
import Derived.Test.YthcnmaapcniehaaShelfIns
namespace Go.Proofs.Ythcnmaapcniehaa
open Go.Shelf Go.RowKit Go.Lib Go.Sort Go.Proofs
set_option linter.unusedVariables false
variable {α : Type} [Inhabited α]

/-- How a merge of neighbouring stretches ends. -/
def MOnEnd (enc : α → Value) (lt : α → α → Prop) (key : α → Nat) (w0 : World) (blk off N : Nat) (d : Array α) (a b : Nat) (e : Ending) (w' : World) : Prop :=
  e = .returned (.tuple #[]) ∧ ∃ d' : Array α, d'.size = N ∧ (∀ t, t < a ∨ b ≤ t → d'[t]! = d[t]!) ∧ Seg lt key d' a b ∧ SW enc w0 blk off d' w'
theorem symMergeOn (enc : α → Value) (lt : α → α → Prop) (cf : α → α → Int) (key : α → Nat) (ht : ∀ x y z, lt x y → lt y z → lt x z) (hc : CmpOk lt cf key) (g : Nat) (gb : Array Value) (blk off cap N : Nat) (d0 : Array α) (w0 : World)
    (eg : ∀ args w, (callFunc g args).run Try.prog w = .ok (.enter g args) w) (hcmp : CmpLays1 Try.prog g gb enc cf blk off N w0)
    (R : Row1 enc w0 blk off d0) (hs : d0.size = N) (hsz : N < 4611686018427387904) (d : Array α) (w : World) (a m b : Nat) (ham : a < m) (hmb : m < b) (hb : b ≤ N) (hdN : d.size = N) (S : SW enc w0 blk off d w) (s1 : Seg lt key d a m) (s2 : Seg lt key d m b) :
    Calls Try.prog 38 #[.slice (some ⟨blk, off, none⟩) N cap, .int .i64 a, .int .i64 m, .int .i64 b, .func (.func g) #[] gb] w (MOnEnd enc lt key w0 blk off N d a b) := by
  obtain ⟨L, A, B, Z, hd, hL, hA, hB⟩ := seg_split (d := d) (a := a) (m := m) (b := b) (by omega) (by omega) (by omega)
  have hM := mrg_of hc hd hL hA hB (by omega) (by omega) s1.1 s2.1 s1.2 s2.2
  refine (symMerge enc lt cf ht g gb blk off cap N d0 w0 eg hcmp R hs hsz (A.length + B.length + 1) L A B Z d w a m b (by omega) (by omega) (by omega) S hdN hd hM hL.symm (by omega) (by omega)).mono ?_
  rintro e w' ⟨rfl, d', C, hs', hd', hO, S'⟩
  obtain ⟨h1, h2, h3⟩ := merged hd hd' hL hA hB (by omega) (by omega) s1.2 s2.2 hO
  exact ⟨rfl, d', hs', h1, ⟨h2, h3⟩, S'⟩
/-- How the sorting of a stretch by insertion ends. -/
def InsEnd (enc : α → Value) (lt : α → α → Prop) (key : α → Nat) (w0 : World) (blk off N : Nat) (d : Array α) (a b : Nat) (e : Ending) (w' : World) : Prop :=
  e = .returned (.tuple #[]) ∧ ∃ d' : Array α, d'.size = N ∧ InsD lt key d d' a b ∧ SW enc w0 blk off d' w'
theorem insertOn (enc : α → Value) (lt : α → α → Prop) (cf : α → α → Int) (key : α → Nat) (ht : ∀ x y z, lt x y → lt y z → lt x z) (hc : CmpOk lt cf key) (g : Nat) (gb : Array Value) (blk off cap N : Nat) (d0 : Array α) (w0 : World)
    (eg : ∀ args w, (callFunc g args).run Try.prog w = .ok (.enter g args) w) (hcmp : CmpLays1 Try.prog g gb enc cf blk off N w0)
    (R : Row1 enc w0 blk off d0) (hs : d0.size = N) (hsz : N < 4611686018427387904) (d : Array α) (w : World) (a b : Nat) (hab : a ≤ b) (hb : b ≤ N) (hdN : d.size = N) (S : SW enc w0 blk off d w) (h0 : ∀ t, a ≤ t → t < b → key d[t]! = t) :
    Calls Try.prog 37 #[.slice (some ⟨blk, off, none⟩) N cap, .int .i64 a, .int .i64 b, .func (.func g) #[] gb] w (InsEnd enc lt key w0 blk off N d a b) := by
  subst hdN
  have hI := ins_all ht hc hab hb h0
  refine (Any.insertionSortCmpFunc_s Try.insF enc cf g gb blk off cap a b d0 d w0 w eg (hs ▸ hcmp) R hs S hab hb hsz).mono ?_
  rintro e w' ⟨rfl, S'⟩
  exact ⟨rfl, _, hI.size, hI, S'⟩
/-- How the stable sort of a row ends. -/
def StabEnd (enc : α → Value) (lt : α → α → Prop) (w0 : World) (blk off N : Nat) (e : Ending) (w' : World) : Prop :=
  e = .returned (.tuple #[]) ∧ ∃ d' : Array α, d'.size = N ∧ SortedOn lt d' 0 N ∧ SW enc w0 blk off d' w'

set_option maxHeartbeats 16000000 in
set_option maxRecDepth 1000000 in
theorem stable (enc : α → Value) (lt : α → α → Prop) (cf : α → α → Int) (key : α → Nat) (ht : ∀ x y z, lt x y → lt y z → lt x z) (hc : CmpOk lt cf key) (g : Nat) (gb : Array Value) (blk off cap N : Nat) (d0 : Array α) (w0 w : World)
    (eg : ∀ args w, (callFunc g args).run Try.prog w = .ok (.enter g args) w) (hcmp : CmpLays1 Try.prog g gb enc cf blk off N w0)
    (R : Row1 enc w0 blk off d0) (hs : d0.size = N) (h60 : N ≤ 60) (S : SW enc w0 blk off d0 w) (h0 : ∀ t, t < N → key d0[t]! = t) :
    Calls Try.prog 32 #[.slice (some ⟨blk, off, none⟩) N cap, .int .i64 N, .func (.func g) #[] gb] w (StabEnd enc lt w0 blk off N) := by
  have S0 : Aside (SW enc w0 blk off d0 w) := S
  have HIN : Hid (∀ (d : Array α) (w : World) (a b : Nat), a ≤ b → b ≤ N → d.size = N → SW enc w0 blk off d w → (∀ t, a ≤ t → t < b → key d[t]! = t) →
    Calls Try.prog 37 #[.slice (some ⟨blk, off, none⟩) N cap, .int .i64 a, .int .i64 b, .func (.func g) #[] gb] w (InsEnd enc lt key w0 blk off N d a b)) := Lib.hid (insertOn enc lt cf key ht hc g gb blk off cap N d0 w0 eg hcmp R hs (by omega))
  have HME : Hid (∀ (d : Array α) (w : World) (a m b : Nat), a < m → m < b → b ≤ N → d.size = N → SW enc w0 blk off d w → Seg lt key d a m → Seg lt key d m b →
    Calls Try.prog 38 #[.slice (some ⟨blk, off, none⟩) N cap, .int .i64 a, .int .i64 m, .int .i64 b, .func (.func g) #[] gb] w (MOnEnd enc lt key w0 blk off N d a b)) := Lib.hid (symMergeOn enc lt cf key ht hc g gb blk off cap N d0 w0 eg hcmp R hs (by omega))
  have HB : Hid (Blk1 lt key d0 0 N) := Lib.hid ⟨fun s h1 h2 => by omega, fun t _ h => h0 t h⟩
  clear S hcmp h0 ht hc R eg
  go_enter Try.func32, Try.ntmps32
  go_wp2
  go_loopw [7, 8] (fun va vb wr => ∃ (a b : Nat) (d : Array α), va = .int .i64 a ∧ vb = .int .i64 b ∧ Hid (b = a + 20) ∧ a % 20 = 0 ∧ a ≤ N ∧ d.size = N ∧ Hid (Blk1 lt key d a N) ∧ Aside (SW enc w0 blk off d wr)) (fun a _ _ => 60 - (intOf a).toNat)
  case atStart => exact ⟨0, 20, d0, rfl, rfl, rfl, rfl, Nat.zero_le _, hs, HB, S0⟩
  case round =>
    clear S0 HB
    obtain ⟨a, b, d, rfl, rfl, Hb, ha20, haN, hds, HB, S1⟩ := hrel
    by_cases hlt : b ≤ N
    · have hlz : (b : Int) ≤ (N : Int) := by omega
      have hC := Lib.hid (HIN.out d wr a b (by have := Hb.out; omega) hlt hds S1.out fun t h1 h2 => HB.out.2 t h1 (by omega))
      have HA20 : Hid (a % 20 = 0) := Lib.hid ha20
      clear ha20
      go_wp2_with fail
      refine hC.out.mono ?_; rintro e w2 ⟨rfl, d1, hs1, hI, S2⟩
      have HB2 : Hid (Blk1 lt key d1 b N) := Lib.hid (by rw [Hb.out] at hI ⊢; exact HB.out.next HA20.out hI)
      have HS2 : Aside (SW enc w0 blk off d1 w2) := S2
      clear hC hI S2 S1 HB
      go_wp2
      go_roundw
      case rel => exact ⟨b, b + 20, d1, rfl, by first | rfl | go_num, rfl, by have := Hb.out; have := HA20.out; omega, hlt, hs1, HB2, HS2⟩
      case measure => have := Hb.out; simp [intOf]; omega
    · have hlz : ¬ (b : Int) ≤ (N : Int) := by omega
      have hC := Lib.hid (HIN.out d wr a N haN (Nat.le_refl _) hds S1.out fun t h1 h2 => HB.out.2 t h1 h2)
      have HA20 : Hid (a % 20 = 0) := Lib.hid ha20
      clear ha20
      go_wp2_with fail
      refine hC.out.mono ?_; rintro e w2 ⟨rfl, d1, hs1, hI, S2⟩
      have HB2 : Hid (Blk2 lt key d1 20 N) := Lib.hid (HB.out.last HA20.out haN (by have := Hb.out; omega) hI)
      have HS2 : Aside (SW enc w0 blk off d1 w2) := S2
      clear hC hI S2 S1 HB hlz hlt
      go_wp2
      go_loopw [6] (fun vc wr => ∃ (c : Nat) (z : Int) (d : Array α), vc = .int .i64 z ∧ ((c = 20 ∧ z = 20) ∨ (c = 40 ∧ z = 40) ∨ (c = 80 ∧ z = 80)) ∧ d.size = N ∧ Hid (Blk2 lt key d c N) ∧ Aside (SW enc w0 blk off d wr)) (fun c _ => 80 - (intOf c).toNat)
      case atStart => exact ⟨20, 20, d1, rfl, .inl ⟨rfl, rfl⟩, hs1, HB2, HS2⟩
      case round =>
        clear HB2 HS2 hds hs1
        obtain ⟨c, z, d, rfl, hc, hds, HB, S1⟩ := hrel
        by_cases hlt : c < N
        · have hc' : (c = 20 ∧ z = 20) ∨ (c = 40 ∧ z = 40) := by omega
          have HB3 : Hid (Blk3 lt key d c 0 N) := Lib.hid (Blk3.start HB.out (by omega))
          clear HB hc
          rcases hc' with ⟨rfl, rfl⟩ | ⟨rfl, rfl⟩
          · have hltz : ((20 : Nat) : Int) < (N : Int) := by omega
            have hltz2 : (20 : Int) < (N : Int) := by omega
            go_wp2
            go_loopw [7, 8] (fun va vb wr => ∃ (a b : Nat) (d : Array α), va = .int .i64 a ∧ vb = .int .i64 b ∧ Hid (b = a + 40) ∧ Hid (a % 40 = 0) ∧ a ≤ N ∧ d.size = N ∧ Hid (Blk3 lt key d 20 a N) ∧ Aside (SW enc w0 blk off d wr)) (fun a _ _ => 60 - (intOf a).toNat)
            case atStart => exact ⟨0, 40, d, rfl, rfl, rfl, rfl, Nat.zero_le _, hds, HB3, S1⟩
            case round =>
              clear S1 HB3 hds
              obtain ⟨a, b, d, rfl, rfl, Hb, HA20, haN, hds, HB, S1⟩ := hrel
              by_cases hle : b ≤ N
              · have hC := Lib.hid (by
                  have hb := Hb.out
                  have ha20 := HA20.out
                  exact HME.out d wr a (a + 20) b (by omega) (by omega) hle hds S1.out ((HB.out.2 a (by omega) (Nat.le_refl _) (by omega)).cut (by omega)) ((HB.out.2 (a + 20) (by omega) (by omega) (by omega)).cut (by omega)))
                have hlz : (b : Int) ≤ (N : Int) := by omega
                obtain ⟨m, hm⟩ : ∃ m, m = a + 20 := ⟨_, rfl⟩
                have hmz : (a : Int) + 20 = (m : Int) := by omega
                rw [← hm] at hC
                clear hm
                go_wp2_with fail
                refine hC.out.mono ?_; rintro e w2 ⟨rfl, d1, hs1, hsame, hI, S2⟩
                have HB2 : Hid (Blk3 lt key d1 20 b N) := Lib.hid (by
                  have hb := Hb.out
                  have ha20 := HA20.out
                  rw [hb] at hI hsame ⊢; exact HB.out.next (by omega) ha20 (by omega) hsame hI)
                have HS2 : Aside (SW enc w0 blk off d1 w2) := S2
                clear hC hsame hI S2 S1 HB hmz
                go_wp2
                go_roundw
                case rel => exact ⟨b, b + 40, d1, rfl, by first | rfl | go_num, rfl, Lib.hid (by have := Hb.out; have := HA20.out; omega), hle, hs1, HB2, HS2⟩
                case measure => have := Hb.out; simp [intOf]; omega
              · have hlz : ¬ (b : Int) ≤ (N : Int) := by omega
                by_cases hmN : a + 20 < N
                · have hC := Lib.hid (by
                    have hb := Hb.out
                    have ha20 := HA20.out
                    exact HME.out d wr a (a + 20) N (by omega) (by omega) (Nat.le_refl _) hds S1.out ((HB.out.2 a (by omega) (Nat.le_refl _) (by omega)).cut (by omega)) ((HB.out.2 (a + 20) (by omega) (by omega) (by omega)).cut (by omega)))
                  obtain ⟨m, hm⟩ : ∃ m, m = a + 20 := ⟨_, rfl⟩
                  have hmz : (a : Int) + 20 = (m : Int) := by omega
                  have hmz2 : (m : Int) < (N : Int) := by omega
                  rw [← hm] at hC
                  clear hm
                  go_wp2_with fail
                  refine hC.out.mono ?_; rintro e w2 ⟨rfl, d1, hs1, hsame, hI, S2⟩
                  have HB2 : Hid (Blk2 lt key d1 (2 * 20) N) := Lib.hid (HB.out.last (by omega) HA20.out haN (by have := Hb.out; omega) hsame fun _ => hI)
                  have HS2 : Aside (SW enc w0 blk off d1 w2) := S2
                  clear hC hsame hI S2 S1 HB hmz hmz2
                  go_wp2
                  go_roundw
                  case rel => exact ⟨40, 40, d1, by first | rfl | go_num, by omega, hs1, HB2, HS2⟩
                  case measure => simp [intOf]
                · obtain ⟨m, hm⟩ : ∃ m, m = a + 20 := ⟨_, rfl⟩
                  have hmz : (a : Int) + 20 = (m : Int) := by omega
                  have hmz2 : ¬ (m : Int) < (N : Int) := by omega
                  have HB2 : Hid (Blk2 lt key d (2 * 20) N) := Lib.hid (HB.out.last (by omega) HA20.out haN (by have := Hb.out; omega) (fun _ _ => rfl) fun h => (HB.out.2 a (by have := HA20.out; omega) (Nat.le_refl _) h).cut (by omega))
                  clear HB hm
                  go_wp2
                  go_roundw
                  case rel => exact ⟨40, 40, d, by first | rfl | go_num, by omega, hds, HB2, S1⟩
                  case measure => simp [intOf]
          · have hltz : ((40 : Nat) : Int) < (N : Int) := by omega
            have hltz2 : (40 : Int) < (N : Int) := by omega
            go_wp2
            go_loopw [7, 8] (fun va vb wr => ∃ (a b : Nat) (d : Array α), va = .int .i64 a ∧ vb = .int .i64 b ∧ Hid (b = a + 80) ∧ Hid (a % 80 = 0) ∧ a ≤ N ∧ d.size = N ∧ Hid (Blk3 lt key d 40 a N) ∧ Aside (SW enc w0 blk off d wr)) (fun a _ _ => 60 - (intOf a).toNat)
            case atStart => exact ⟨0, 80, d, rfl, rfl, rfl, rfl, Nat.zero_le _, hds, HB3, S1⟩
            case round =>
              clear S1 HB3 hds
              obtain ⟨a, b, d, rfl, rfl, Hb, HA20, haN, hds, HB, S1⟩ := hrel
              by_cases hle : b ≤ N
              · have hC := Lib.hid (by
                  have hb := Hb.out
                  have ha20 := HA20.out
                  exact HME.out d wr a (a + 40) b (by omega) (by omega) hle hds S1.out ((HB.out.2 a (by omega) (Nat.le_refl _) (by omega)).cut (by omega)) ((HB.out.2 (a + 40) (by omega) (by omega) (by omega)).cut (by omega)))
                have hlz : (b : Int) ≤ (N : Int) := by omega
                obtain ⟨m, hm⟩ : ∃ m, m = a + 40 := ⟨_, rfl⟩
                have hmz : (a : Int) + 40 = (m : Int) := by omega
                rw [← hm] at hC
                clear hm
                go_wp2_with fail
                refine hC.out.mono ?_; rintro e w2 ⟨rfl, d1, hs1, hsame, hI, S2⟩
                have HB2 : Hid (Blk3 lt key d1 40 b N) := Lib.hid (by
                  have hb := Hb.out
                  have ha20 := HA20.out
                  rw [hb] at hI hsame ⊢; exact HB.out.next (by omega) ha20 (by omega) hsame hI)
                have HS2 : Aside (SW enc w0 blk off d1 w2) := S2
                clear hC hsame hI S2 S1 HB hmz
                go_wp2
                go_roundw
                case rel => exact ⟨b, b + 80, d1, rfl, by first | rfl | go_num, rfl, Lib.hid (by have := Hb.out; have := HA20.out; omega), hle, hs1, HB2, HS2⟩
                case measure => have := Hb.out; simp [intOf]; omega
              · have hlz : ¬ (b : Int) ≤ (N : Int) := by omega
                by_cases hmN : a + 40 < N
                · have hC := Lib.hid (by
                    have hb := Hb.out
                    have ha20 := HA20.out
                    exact HME.out d wr a (a + 40) N (by omega) (by omega) (Nat.le_refl _) hds S1.out ((HB.out.2 a (by omega) (Nat.le_refl _) (by omega)).cut (by omega)) ((HB.out.2 (a + 40) (by omega) (by omega) (by omega)).cut (by omega)))
                  obtain ⟨m, hm⟩ : ∃ m, m = a + 40 := ⟨_, rfl⟩
                  have hmz : (a : Int) + 40 = (m : Int) := by omega
                  have hmz2 : (m : Int) < (N : Int) := by omega
                  rw [← hm] at hC
                  clear hm
                  go_wp2_with fail
                  refine hC.out.mono ?_; rintro e w2 ⟨rfl, d1, hs1, hsame, hI, S2⟩
                  have HB2 : Hid (Blk2 lt key d1 (2 * 40) N) := Lib.hid (HB.out.last (by omega) HA20.out haN (by have := Hb.out; omega) hsame fun _ => hI)
                  have HS2 : Aside (SW enc w0 blk off d1 w2) := S2
                  clear hC hsame hI S2 S1 HB hmz hmz2
                  go_wp2
                  go_roundw
                  case rel => exact ⟨80, 80, d1, by first | rfl | go_num, by omega, hs1, HB2, HS2⟩
                  case measure => simp [intOf]
                · obtain ⟨m, hm⟩ : ∃ m, m = a + 40 := ⟨_, rfl⟩
                  have hmz : (a : Int) + 40 = (m : Int) := by omega
                  have hmz2 : ¬ (m : Int) < (N : Int) := by omega
                  have HB2 : Hid (Blk2 lt key d (2 * 40) N) := Lib.hid (HB.out.last (by omega) HA20.out haN (by have := Hb.out; omega) (fun _ _ => rfl) fun h => (HB.out.2 a (by have := HA20.out; omega) (Nat.le_refl _) h).cut (by omega))
                  clear HB hm
                  go_wp2
                  go_roundw
                  case rel => exact ⟨80, 80, d, by first | rfl | go_num, by omega, hds, HB2, S1⟩
                  case measure => simp [intOf]
        · have hltz : ¬ z < (N : Int) := by omega
          have HE : Hid (SortedOn lt d 0 N) := Lib.hid (HB.out.all (by omega))
          clear HB
          go_wp2
          go_end0
          exact ⟨rfl, d, hds, HE.out, S1.out⟩

theorem sortStable (enc : α → Value) (lt : α → α → Prop) (cf : α → α → Int) (key : α → Nat) (ht : ∀ x y z, lt x y → lt y z → lt x z) (hc : CmpOk lt cf key) (g : Nat) (gb : Array Value) (blk off cap N : Nat) (d0 : Array α) (w0 w : World)
    (eg : ∀ args w, (callFunc g args).run Try.prog w = .ok (.enter g args) w) (hcmp : CmpLays1 Try.prog g gb enc cf blk off N w0)
    (R : Row1 enc w0 blk off d0) (hs : d0.size = N) (h60 : N ≤ 60) (S : SW enc w0 blk off d0 w) (h0 : ∀ t, t < N → key d0[t]! = t) :
    Calls Try.prog 18 #[.slice (some ⟨blk, off, none⟩) N cap, .func (.func g) #[] gb] w (StabEnd enc lt w0 blk off N) := by
  have HC := Lib.hid (stable enc lt cf key ht hc g gb blk off cap N d0 w0 w eg hcmp R hs h60 S h0)
  clear S hcmp h0 ht hc R eg
  go_enter Try.func18, Try.ntmps18
  go_wp2_with fail
  refine HC.out.mono ?_; rintro e w2 ⟨rfl, d', h1, h2, h3⟩
  have HE : Hid (StabEnd enc lt w0 blk off N (.returned (.tuple #[])) w2) := Lib.hid ⟨rfl, d', h1, h2, h3⟩
  clear HC h1 h2 h3
  go_wp2
  go_end0
  exact HE.out
end Go.Proofs.Ythcnmaapcniehaa
