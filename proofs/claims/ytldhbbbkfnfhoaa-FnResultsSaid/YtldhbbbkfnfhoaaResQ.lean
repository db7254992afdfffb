/- The plain laws of FnResults, second part: renaming keeps sets of results apart, and what is known holds for all lists. No program is named. -/
import Derived.Test.YtldhbbbkfnfhoaaResP
namespace Go.Proofs.Ytldhbbbkfnfhoaa
open Go.RowKit
set_option linter.unusedVariables false

theorem mem_ordIn {l : List Int} {K k : Nat} (hk : k < K) (h : ¬ (k : Int) ∈ l) : l ++ [(k : Int)] ∈ ordIn l K := by
  induction K with
  | zero => omega
  | succ K ih =>
    rcases Nat.lt_or_ge k K with h1 | h1
    · show _ ∈ ordIn l K ++ _
      exact List.mem_append_left _ (ih h1)
    · obtain rfl : k = K := by omega
      have hc : l.contains (k : Int) = false := by
        cases hc : l.contains (k : Int) with
        | false => rfl
        | true => exact absurd (List.contains_iff_mem.1 hc) h
      rw [ordIn_no hc]
      exact List.mem_append_right _ (List.mem_singleton.2 rfl)
theorem mem_ordSt {N : Nat} {L : List (List Int)} {J j : Nat} (hj : j < J) {x : List Int} (h : x ∈ ordIn (L.getD j []) N) : x ∈ ordSt N L J := by
  induction J with
  | zero => omega
  | succ J ih =>
    show _ ∈ ordSt N L J ++ _
    rcases Nat.lt_or_ge j J with h1 | h1
    · exact List.mem_append_left _ (ih h1)
    · obtain rfl : j = J := by omega
      exact List.mem_append_right _ h
theorem mem_ords {N : Nat} : ∀ (t : Nat) (l : List Int), l.length = t → (∀ x ∈ l, 0 ≤ x ∧ x < (N : Int)) → l.Nodup → l ∈ ords N t
  | 0, l, hl, _, _ => by
    have : l = [] := List.eq_nil_of_length_eq_zero hl
    subst this; exact List.mem_singleton.2 rfl
  | t + 1, l, hl, hb, hn => by
    have hne : l ≠ [] := by intro e; subst e; simp at hl
    have e := List.dropLast_concat_getLast hne
    have hn2 : (l.dropLast ++ [l.getLast hne]).Nodup := by rw [e]; exact hn
    have hb2 := hb _ (List.getLast_mem hne)
    obtain ⟨k, hk⟩ : ∃ k : Nat, l.getLast hne = (k : Int) := ⟨(l.getLast hne).toNat, by omega⟩
    rw [hk] at e hn2 hb2
    have hd := mem_ords t l.dropLast (by rw [List.length_dropLast, hl]; rfl) (fun x hx => hb x (List.dropLast_subset _ hx)) (List.nodup_append.1 hn2).1
    obtain ⟨j, hj, ej⟩ := List.getElem_of_mem hd
    rw [← e]
    show _ ∈ ordSt N (ords N t) (ords N t).length
    refine mem_ordSt hj ?_
    rw [List.getD_eq_getElem?_getD, List.getElem?_eq_getElem hj]
    simp only [Option.getD_some]
    rw [ej]
    exact mem_ordIn (by omega) fun hm => (List.nodup_append.1 hn2).2.2 _ hm _ (List.mem_singleton.2 rfl) rfl
theorem perm_ords {N : Nat} {l : List Int} (h : PermP N l) : l ∈ ords N N := mem_ords N l h.1 h.2.1 h.2.2
/-- The inverse order. -/
def invL (N : Nat) (p : List Int) : List Int := (List.range N).map fun (i : Nat) => ((p.idxOf (i : Int) : Nat) : Int)
def okInv (N : Nat) : Bool := (ords N N).all fun p => (ords N N).contains (invL N p) && (List.range (2 ^ N)).all fun m => renM (invL N p) (renM p m) == m
theorem okInv_all : ∀ N : Fin 6, okInv N.val = true := by decide +kernel
theorem inv_ok {N : Nat} {p : List Int} (hN : N ≤ 5) (hp : p ∈ ords N N) : invL N p ∈ ords N N ∧ ∀ m, m < 2 ^ N → renM (invL N p) (renM p m) = m := by
  have h := okInv_all ⟨N, by omega⟩
  unfold okInv at h
  rw [List.all_eq_true] at h
  have h1 := h p hp
  rw [Bool.and_eq_true] at h1
  refine ⟨List.contains_iff_mem.1 h1.1, fun m hm => ?_⟩
  have h2 := List.all_eq_true.1 h1.2 m (List.mem_range.2 hm)
  simpa using h2
theorem add_bit_all : ∀ x : Fin 64, ∀ a : Fin 6, ∀ b : Fin 6, x.val.testBit a.val = false → (x.val + 2 ^ a.val).testBit b.val = (decide (a = b) || x.val.testBit b.val) := by decide +kernel
/-- The bits of a renamed mask. -/
theorem renTo_bit {N : Nat} {ns : List Int} (h6 : N ≤ 6) (h : PermP N ns) (m : Nat) (k : Nat) (hk : k ≤ ns.length) : ∀ j, j < k → (renTo ns m k).testBit (ns.getD j 0).toNat = m.testBit j := by
  induction k with
  | zero => intro j hj; omega
  | succ k ih =>
    intro j hj
    have ih := ih (by omega)
    obtain ⟨hlt, hz⟩ := renTo_ok (by omega) h m k (by omega)
    have h64 := pow64 h6
    obtain ⟨a, ha, ha2, haN⟩ := h.at k (by omega)
    obtain ⟨b, hb, hb2, hbN⟩ := h.at j (by omega)
    have hnot : ¬ (a : Int) ∈ ns.take k := fun hm => by
      obtain ⟨i, hi, e⟩ := List.getElem_of_mem hm
      rw [List.getElem_take] at e
      have hi2 : i < k := by rw [List.length_take] at hi; omega
      have H := List.pairwise_iff_getElem.1 h.2.2 i k (by omega) (by omega) hi2
      exact H (e.trans ha2.symm)
    have hz2 := hz a (by omega) hnot
    have hza : (renTo ns m k).testBit a = false := by rw [Nat.testBit_eq_decide_div_mod_eq]; exact decide_eq_false (by omega)
    have hm2 : m / 2 ^ k % 2 = 0 ∨ m / 2 ^ k % 2 = 1 := by omega
    have hab : a = b ↔ j = k := by
      constructor
      · intro e
        rcases Nat.lt_or_ge j k with q | q
        · have H := List.pairwise_iff_getElem.1 h.2.2 j k (by omega) (by omega) q
          exact absurd (hb2.trans ((by rw [e] : (b : Int) = (a : Int)).trans ha2.symm)) H
        · omega
      · intro e; subst e; rw [ha] at hb; omega
    rw [hb, Int.toNat_natCast]
    rcases hm2 with hm2 | hm2
    · rw [renTo_no hm2]
      rcases Nat.lt_or_ge j k with q | q
      · have := ih j q; rwa [hb, Int.toNat_natCast] at this
      · obtain rfl : j = k := by omega
        obtain rfl : a = b := hab.2 rfl
        rw [hza, Nat.testBit_eq_decide_div_mod_eq]; exact (decide_eq_false (by omega)).symm
    · rw [renTo_yes hm2 ha]
      have := add_bit_all ⟨renTo ns m k, by omega⟩ ⟨a, by omega⟩ ⟨b, by omega⟩ hza
      simp only [Fin.mk.injEq] at this
      rw [this]
      rcases Nat.lt_or_ge j k with q | q
      · have hne : ¬ a = b := fun e => by have := hab.1 e; omega
        have i2 := ih j q
        rw [hb, Int.toNat_natCast] at i2
        rw [decide_eq_false hne, i2]; rfl
      · obtain rfl : j = k := by omega
        rw [Nat.testBit_eq_decide_div_mod_eq (x := m), decide_eq_true (show m / 2 ^ j % 2 = 1 from hm2), decide_eq_true (hab.2 rfl)]; rfl
theorem ren_inj {N : Nat} {ns : List Int} (h6 : N ≤ 6) (h : PermP N ns) {m m' : Nat} (hm : m < 2 ^ N) (hm' : m' < 2 ^ N) (e : renM ns m = renM ns m') : m = m' := by
  refine bit_ext hm hm' fun i hi => ?_
  have h1 := renTo_bit h6 h m ns.length (Nat.le_refl _) i (by rw [h.1]; exact hi)
  have h2 := renTo_bit h6 h m' ns.length (Nat.le_refl _) i (by rw [h.1]; exact hi)
  unfold renM at e
  rw [← h1, ← h2, e]
structure RenF (N : Nat) (r names : List Int) : Prop where
  len : (rmN N r names).length = r.length
  to : N ≤ 5 → FitsP N (rmN N r names) r
  back : N ≤ 5 → FitsP N r (rmN N r names)
theorem ren_facts {N : Nat} {r names : List Int} (h6 : N ≤ 6) (hM : MasksP N r) (hn : r.Nodup) (hP : PermP N names) : RenF N r names := by
  have hN1 : 1 ≤ N := by have := hM.1; unfold InP at this; omega
  have hI := hM.inM
  have hin : ∀ x ∈ r, 0 ≤ x ∧ x.toNat < 2 ^ N := fun x hx => by
    have h := hI x hx
    omega
  have hE : rmN N r names = imgL (2 ^ N) (mapF (renM names) r) := by
    unfold rmN
    rw [onlyI_yes ⟨hM, by rw [Int.toNat_natCast]; exact hP⟩, Int.toNat_natCast]
  have hbd : ∀ y ∈ mapF (renM names) r, 0 ≤ y ∧ y < ((2 ^ N : Nat) : Int) := mapF_bd fun x _ => renM_lt (by omega) hP x.toNat
  have hmem : ∀ y, y ∈ imgL (2 ^ N) (mapF (renM names) r) ↔ ∃ x ∈ r, ((renM names x.toNat : Nat) : Int) = y := fun y => by
    rw [mem_imgL hbd]; unfold mapF; exact List.mem_map
  have hMM : MasksP N (rmN N r names) := by rw [hE]; exact masks_img hN1 (by omega)
  refine ⟨?_, fun h5 => ⟨hMM, hM, by omega, ?_⟩, fun h5 => ⟨hM, hMM, by omega, ?_⟩⟩
  · rw [hE]
    apply Nat.le_antisymm
    · have := sub_len (l1 := imgL (2 ^ N) (mapF (renM names) r)) (l2 := mapF (renM names) r) (nodup_lt (imgL_sorted _ _)) fun x hx => (mem_imgL hbd x).1 hx
      rwa [mapF_length] at this
    · refine inj_len (fun x => ((renM names x.toNat : Nat) : Int)) r _ hn (fun x hx y hy e => ?_) (fun x hx => (hmem _).2 ⟨x, hx, rfl⟩)
      have h1 := hin x hx
      have h2 := hin y hy
      have := ren_inj h6 hP h1.2 h2.2 (by have e : ((renM names x.toNat : Nat) : Int) = ((renM names y.toNat : Nat) : Int) := e; omega)
      omega
  · rw [Int.toNat_natCast]
    have hp := perm_ords hP
    obtain ⟨q1, q2⟩ := inv_ok h5 hp
    refine ⟨invL N names, q1, fun i hi => ?_⟩
    have hx := List.getElem_mem hi
    generalize (imgL (2 ^ N) (mapF (renM (invL N names)) (rmN N r names)))[i] = z at hx
    have hPi := ords_perm h5 q1
    rw [mem_imgL (mapF_bd fun x _ => renM_lt (by omega) hPi x.toNat)] at hx
    unfold mapF at hx
    obtain ⟨y, hy, rfl⟩ := List.mem_map.1 hx
    rw [hE] at hy
    obtain ⟨x, hx2, rfl⟩ := (hmem y).1 hy
    have h1 := hin x hx2
    rw [Int.toNat_natCast, q2 x.toNat h1.2, Int.toNat_of_nonneg h1.1]
    exact hx2
  · rw [Int.toNat_natCast]
    refine ⟨names, perm_ords hP, fun i hi => ?_⟩
    rw [hE]
    exact List.getElem_mem hi

/-! What is known of a pair of wires. -/
theorem mem_koIn {xs : List Int} {i K : Nat} {p : List Int} : p ∈ koIn xs i K → ∃ k, k < K ∧ KoP xs i k ∧ p = [(i : Int), (k : Int)] := by
  induction K with
  | zero => intro h; cases h
  | succ K ih =>
    intro h
    rcases Classical.em (KoP xs i K) with hk | hk
    · rw [koIn_yes hk] at h
      rcases List.mem_append.1 h with h | h
      · obtain ⟨k, a, b, c⟩ := ih h; exact ⟨k, by omega, b, c⟩
      · exact ⟨K, by omega, hk, List.mem_singleton.1 h⟩
    · rw [koIn_no hk] at h
      obtain ⟨k, a, b, c⟩ := ih h; exact ⟨k, by omega, b, c⟩
theorem mem_koOut {xs : List Int} {N I : Nat} {p : List Int} : p ∈ koOut xs N I → ∃ i k, i < I ∧ k < N ∧ KoP xs i k ∧ p = [(i : Int), (k : Int)] := by
  induction I with
  | zero => intro h; cases h
  | succ I ih =>
    intro h
    have h : p ∈ koOut xs N I ++ koIn xs I N := h
    rcases List.mem_append.1 h with h | h
    · obtain ⟨i, k, a, b, c⟩ := ih h; exact ⟨i, k, by omega, b, c⟩
    · obtain ⟨k, a, b, c⟩ := mem_koIn h; exact ⟨I, k, by omega, a, b, c⟩
noncomputable def koB (xs : List Int) (p : Nat × Nat) : Bool := tf (KoP xs p.1 p.2)
def pairsI (i K : Nat) : List (Nat × Nat) := (List.range K).map fun k => (i, k)
def pairsN (N : Nat) : Nat → List (Nat × Nat)
  | 0 => []
  | i + 1 => pairsN N i ++ pairsI i N
theorem koIn_len (xs : List Int) (i K : Nat) : (koIn xs i K).length = ((pairsI i K).filter (koB xs)).length := by
  induction K with
  | zero => rfl
  | succ K ih =>
    have e : pairsI i (K + 1) = pairsI i K ++ [(i, K)] := by unfold pairsI; rw [List.range_succ, List.map_append]; rfl
    rw [e, List.filter_append, List.length_append, ← ih]
    rcases Classical.em (KoP xs i K) with hk | hk
    · rw [koIn_yes hk, List.length_append, List.filter_cons_of_pos (show koB xs (i, K) = true from tf_yes hk)]; rfl
    · rw [koIn_no hk, List.filter_cons_of_neg (by rw [show koB xs (i, K) = false from tf_no hk]; simp)]; rfl
theorem koOut_len (xs : List Int) (N I : Nat) : (koOut xs N I).length = ((pairsN N I).filter (koB xs)).length := by
  induction I with
  | zero => rfl
  | succ I ih =>
    show (koOut xs N I ++ koIn xs I N).length = ((pairsN N I ++ pairsI I N).filter (koB xs)).length
    rw [List.length_append, List.filter_append, List.length_append, ih, koIn_len]
theorem mem_pairsN {N I : Nat} {p : Nat × Nat} : p ∈ pairsN N I ↔ p.1 < I ∧ p.2 < N := by
  induction I with
  | zero => simp [pairsN]
  | succ I ih =>
    show p ∈ pairsN N I ++ pairsI I N ↔ _
    rw [List.mem_append, ih]
    unfold pairsI
    rw [List.mem_map]
    constructor
    · rintro (⟨a, b⟩ | ⟨k, hk, rfl⟩)
      · omega
      · exact ⟨by show I < I + 1; omega, List.mem_range.1 hk⟩
    · rintro ⟨a, b⟩
      rcases Nat.lt_or_ge p.1 I with q | q
      · exact .inl ⟨q, b⟩
      · exact .inr ⟨p.2, List.mem_range.2 b, by have : p.1 = I := by omega
                                                rw [← this]⟩
theorem cntLt_all : ∀ N : Fin 7, ((pairsN N.val N.val).filter fun p => decide (p.1 < p.2)).length = N.val * (N.val - 1) / 2 := by decide +kernel
theorem thr_mask_all : ∀ N : Fin 7, ∀ i : Fin 6, i.val < N.val → upB N.val (2 ^ N.val - 2 ^ i.val) = true ∧ ∀ b : Fin 6, b.val < N.val → (2 ^ N.val - 2 ^ i.val).testBit b.val = decide (i.val ≤ b.val) := by decide +kernel
theorem bad_bits {i k m : Nat} : BadM i k (m : Int) ↔ m.testBit i = true ∧ m.testBit k = false := by
  unfold BadM
  rw [Int.toNat_natCast, Nat.testBit_eq_decide_div_mod_eq, Nat.testBit_eq_decide_div_mod_eq]
  rw [decide_eq_true_iff, decide_eq_false_iff_not]
  omega
structure KnF (N : Nat) (r : List Int) (known : List (List Int)) (out : List Int) (srt : Prop) : Prop where
  len : known.length ≤ 36
  srt : srt ↔ known.length = N * (N - 1) / 2
  at' : ∀ p ∈ known, ∃ i k : Nat, p = [(i : Int), (k : Int)] ∧ i < N ∧ k < N ∧ out.getD i 0 ≤ out.getD k 0
theorem known_facts {N : Nat} {ps : List (Nat × Nat)} {l : List Int} (h6 : N ≤ 6) (hp : PsOk N ps) (hs : StdL ps) (hl : l.length = N) :
    KnF N (setK N ps ps.length) (koN N (rowsOf ps)) (anN N (rowsOf ps) l) (SortP N (rowsOf ps)) := by
  have hK : koN N (rowsOf ps) = koOut (setK N ps ps.length) N N := by
    unfold koN
    rw [nbR_yes hp.netP, setK_end hp, Int.toNat_natCast]
  have hS : SortP N (rowsOf ps) ↔ badI N ps (2 ^ N) = [] := by
    unfold SortP
    rw [Int.toNat_natCast, pairsOf_rowsOf]
    exact ⟨fun h => h.2, fun h => ⟨hp.netP, h⟩⟩
  have hA : anN N (rowsOf ps) l = apL ps l := by rw [anN_yes ⟨hp.netP, by omega⟩, pairsOf_rowsOf]
  have hlt : ∀ p ∈ pairsN N N, koB (setK N ps ps.length) p = true → decide (p.1 < p.2) = true := fun p hpm hb => by
    obtain ⟨p1, p2⟩ := mem_pairsN.1 hpm
    have hko : KoP (setK N ps ps.length) p.1 p.2 := Classical.byContradiction fun hn => by rw [show koB _ p = false from tf_no hn] at hb; cases hb
    apply decide_eq_true
    apply Classical.byContradiction
    intro hge
    have hne := hko.1
    obtain ⟨t1, t2⟩ := thr_mask_all ⟨N, by omega⟩ ⟨p.1, by omega⟩ p1
    have h0 : 0 < 2 ^ p.1 := Nat.two_pow_pos p.1
    have h0N : 0 < 2 ^ N := Nat.two_pow_pos N
    have hm := setK_up hp hs ps.length (m := 2 ^ N - 2 ^ p.1) (by omega) t1
    refine hko.2 _ hm (bad_bits.2 ⟨?_, ?_⟩)
    · rw [t2 ⟨p.1, by omega⟩ p1]; exact decide_eq_true (Nat.le_refl _)
    · rw [t2 ⟨p.2, by omega⟩ p2]; exact decide_eq_false (by show ¬ p.1 ≤ p.2; omega)
  refine ⟨?_, ?_, ?_⟩
  · rw [hK]
    have h1 := koOut_le (setK N ps ps.length) N N
    have h2 : N * N ≤ 6 * 6 := Nat.mul_le_mul h6 h6
    omega
  · rw [hK, hS, koOut_len, ← cntLt_all ⟨N, by omega⟩]
    constructor
    · intro hb
      congr 1
      refine List.filter_congr fun p hpm => ?_
      apply Bool.eq_iff_iff.2
      refine ⟨hlt p hpm, fun hd => ?_⟩
      obtain ⟨p1, p2⟩ := mem_pairsN.1 hpm
      have hd := of_decide_eq_true hd
      refine tf_yes ⟨by omega, fun m hm => ?_⟩
      obtain ⟨m0, hm0, rfl⟩ := (mem_setK hp _ m).1 hm
      rw [List.take_length]
      intro hbad
      obtain ⟨b1, b2⟩ := bad_bits.1 hbad
      have hu := (bad_iff h6 hp hm0).1 (sorts_iff.1 hb m0 hm0)
      have key : ∀ d, p.1 + d < N → (bitsN ps m0).testBit (p.1 + d) = true := by
        intro d
        induction d with
        | zero => intro _; exact b1
        | succ d ih => intro h; exact (upB_iff N _).1 hu (p.1 + d) (by omega) (ih (by omega))
      have := key (p.2 - p.1) (by omega)
      rw [show p.1 + (p.2 - p.1) = p.2 by omega, b2] at this
      cases this
    · intro hc
      have hf := filter_eq hlt hc
      refine sorts_iff.2 fun m hm => (bad_iff h6 hp hm).2 ((upB_iff N _).2 fun i hi hb => ?_)
      have hko := hf (i, i + 1) (mem_pairsN.2 ⟨by show i < N; omega, hi⟩) (decide_eq_true (by show i < i + 1; omega))
      have hko : KoP (setK N ps ps.length) i (i + 1) := Classical.byContradiction fun hn => by rw [show koB _ (i, i + 1) = false from tf_no hn] at hko; cases hko
      have hmem : ((bitsN ps m : Nat) : Int) ∈ setK N ps ps.length := (mem_setK hp _ _).2 ⟨m, hm, by rw [List.take_length]⟩
      cases hb2 : (bitsN ps m).testBit (i + 1) with
      | true => rfl
      | false => exact absurd (bad_bits.2 ⟨hb, hb2⟩) (hko.2 _ hmem)
  · intro p hpm
    rw [hK] at hpm
    obtain ⟨i, k, hi, hk, hko, rfl⟩ := mem_koOut hpm
    refine ⟨i, k, rfl, hi, hk, ?_⟩
    rw [hA]
    apply Classical.byContradiction
    intro hgt
    have hol : (apL ps l).length = N := by rw [apL_length, hl]
    have ht := thr_net ((apL ps l).getD i 0) h6 hp hl
    have hm := thrTo_lt l ((apL ps l).getD i 0) N
    have hmem : ((bitsN ps (thrTo l ((apL ps l).getD i 0) N) : Nat) : Int) ∈ setK N ps ps.length := (mem_setK hp _ _).2 ⟨_, hm, by rw [List.take_length]⟩
    rw [← ht] at hmem
    refine hko.2 _ hmem (bad_bits.2 ⟨?_, ?_⟩)
    · rw [thr_bit _ _ N (by omega) i hi]; exact decide_eq_true (Int.le_refl _)
    · rw [thr_bit _ _ N (by omega) k hk]; exact decide_eq_false (by omega)

/-! What the walk asks for. -/
theorem setK_len_le (N : Nat) (ps : List (Nat × Nat)) (k : Nat) : (setK N ps k).length ≤ 2 ^ N := imgL_le _ _
theorem setK_within {N : Nat} {ps : List (Nat × Nat)} (hp : PsOk N ps) (hs : StdL ps) (k : Nat) : Within [0] (setK N ps (k + 1)) := fun i hi => by
  have : i = 0 := by simpa using hi
  subst this; exact setK_zero_mem hp hs (k + 1)
/-- The first number of a row. -/
theorem ints_one {w : World} {ao : Option Addr} {L c : Nat} {xs : List Int} (h : Ints w (.slice ao L c) xs) (hl : 0 < xs.length) : Ints w (.slice ao 1 c) [xs[0]] := by
  obtain ⟨a2, c2, hv, hc, hm, hn, hcell⟩ := h
  simp only [Value.slice.injEq] at hv
  obtain ⟨rfl, rfl, rfl⟩ := hv
  refine ⟨_, _, rfl, by simp; omega, hm, hn, fun k hk => ?_⟩
  have : k = 0 := by simpa using hk
  subst this
  exact hcell 0 hl
theorem setK_first {N : Nat} {ps : List (Nat × Nat)} {w : World} {ao : Option Addr} {L c : Nat} (hp : PsOk N ps) (hs : StdL ps) (k : Nat) (hl : 0 < (setK N ps k).length) (h : Ints w (.slice ao L c) (setK N ps k)) : Ints w (.slice ao 1 c) [0] := by
  have := ints_one h hl
  rwa [setK_head hp hs k hl] at this
theorem smN_at {N k : Nat} (h1 : 1 ≤ N) (h6 : N ≤ 6) (hk : k ≤ N) : smN N k = sortedN N k := by
  unfold smN
  first
    | (rw [if_pos (by omega), Int.toNat_natCast, Int.toNat_natCast])
    | (rw [if_pos (by omega)])
theorem half_all : ∀ N : Fin 7, 1 ≤ N.val → ((N.val : Int) * ((N.val : Int) - 1)).tdiv 2 = ((N.val * (N.val - 1) / 2 : Nat) : Int) ∧ 0 ≤ (N.val : Int) * ((N.val : Int) - 1) ∧ (N.val : Int) * ((N.val : Int) - 1) ≤ 30 := by decide +kernel
theorem half_pairs (N : Nat) (h1 : 1 ≤ N) (h6 : N ≤ 6) : IntKind.i64.wrap ((N : Int) * ((N : Int) - 1)) = (N : Int) * ((N : Int) - 1) ∧ ((N : Int) * ((N : Int) - 1)).tdiv 2 = ((N * (N - 1) / 2 : Nat) : Int) ∧ N * (N - 1) / 2 ≤ 30 := by
  obtain ⟨a, b, c⟩ := half_all ⟨N, by omega⟩ h1
  simp only at a b c
  refine ⟨by rw [IntKind.wrap_i64]; omega, a, ?_⟩
  have : N * (N - 1) ≤ 6 * 5 := Nat.mul_le_mul h6 (by omega)
  omega
theorem sort_test (kl hf : Nat) : (decide (kl = hf) != ((kl : Int) == (hf : Int))) = false := by
  by_cases h : kl = hf
  · subst h; simp
  · have h2 : ¬ (kl : Int) = (hf : Int) := by omega
    simp [h, h2]
end Go.Proofs.Ytldhbbbkfnfhoaa
