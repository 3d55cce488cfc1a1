/- Plain laws: cuts by triangles and circles, by lists, by bits and by nodes; truths by lists and by nodes. -/
import Derived.Test.YtnhbplnhhloklaaD0
namespace Go.Proofs.Ytnhbplnhhloklaa

section
variable {l : List Ang} {T C : Nat} {lo hi : Nat → Int} {p q : Int → Bool}

/-- A cut, by tests of triangles and circles. -/
def cpLo (p q : Int → Bool) (lo hi : Nat → Int) (i : Nat) (a : Ang) : Int := if p a.t = true ∧ q a.c = false then lo i else if q a.c = true ∧ p a.t = false then - hi i else 0
def cpHi (p q : Int → Bool) (lo hi : Nat → Int) (i : Nat) (a : Ang) : Int := if p a.t = true ∧ q a.c = false then hi i else if q a.c = true ∧ p a.t = false then - lo i else 0
def csLo (l : List Ang) (p q : Int → Bool) (lo hi : Nat → Int) (k : Nat) : Int := sumN k (fun i => match l[i]? with | some a => cpLo p q lo hi i a | none => 0)
def csHi (l : List Ang) (p q : Int → Bool) (lo hi : Nat → Int) (k : Nat) : Int := sumN k (fun i => match l[i]? with | some a => cpHi p q lo hi i a | none => 0)
def cDiff (p q : Int → Bool) (k : Nat) : Int := sumN k (fun k => (if p k = true then 36 else 0) - (if q k = true then 72 else 0))
def DenyC (l : List Ang) (p q : Int → Bool) (lo hi : Nat → Int) : Prop := cDiff p q 5 < csLo l p q lo hi l.length ∨ csHi l p q lo hi l.length < cDiff p q 5
def cP (p q : Int → Bool) (u : Nat) : Bool := if u < 5 then p u else if u < 10 then q ((u : Int) - 5) else false
structure CutOk (T C : Nat) (p q : Int → Bool) : Prop where
  pt : ∀ t, p t = true → 0 ≤ t ∧ t < T
  qc : ∀ c, q c = true → 0 ≤ c ∧ c < C

theorem cP_fr (hN : NetOk l T C) (hc : CutOk T C p q) {i : Nat} {a : Ang} (ha : l[i]? = some a) : cP p q (fI l i) = p a.t := by
  have hao := hN.ok a (List.mem_of_getElem? ha)
  have hT := hN.hT
  have e : fI l i = frN a := by simp only [fI, ha]
  rw [e]
  by_cases h : a.t = -1
  · have h10 : frN a = 10 := by unfold frN nodeZ; rw [if_pos h]; rfl
    rw [h10, h]
    have : p (-1) = false := by
      cases h1 : p (-1) with
      | false => rfl
      | true => have := hc.pt _ h1; omega
    rw [this]; rfl
  · have hf : (frN a : Int) = a.t := by rw [frN_eq hao.1]; unfold nodeZ; rw [if_neg h]; omega
    have h5 : frN a < 5 := by omega
    unfold cP
    rw [if_pos h5, hf]
theorem cP_to (hN : NetOk l T C) (hc : CutOk T C p q) {i : Nat} {a : Ang} (ha : l[i]? = some a) : cP p q (tI l i) = q a.c := by
  have hao := hN.ok a (List.mem_of_getElem? ha)
  have hC := hN.hC
  have e : tI l i = toN a := by simp only [tI, ha]
  rw [e]
  by_cases h : a.c = -1
  · have h10 : toN a = 10 := by unfold toN nodeZ; rw [if_pos h]; rfl
    rw [h10, h]
    have : q (-1) = false := by
      cases h1 : q (-1) with
      | false => rfl
      | true => have := hc.qc _ h1; omega
    rw [this]; rfl
  · have hf : (toN a : Int) = 5 + a.c := by rw [toN_eq hao.2.2.1]; unfold nodeZ; rw [if_neg h]
    have h5 : ¬ toN a < 5 := by omega
    have h6 : toN a < 10 := by omega
    unfold cP
    rw [if_neg h5, if_pos h6, hf]
    congr 1; omega
theorem sumN_ten (f : Nat → Int) : sumN 10 f = sumN 5 (fun k => f k + f (5 + k)) := by
  simp only [sumN, Nat.reduceAdd]; omega
theorem g2_tri {u : Nat} (_hT : T ≤ 5) (h : u < 5) : g2 T C u = if u < T then 36 else 0 := by
  unfold g2; rw [if_neg (by omega)]; rfl
theorem g2_cir {k : Nat} (hT : T ≤ 5) : g2 T C (5 + k) = if k < C then -72 else 0 := by
  unfold g2 g1
  by_cases h : k < C
  · rw [if_pos (by omega), if_pos h, if_neg (by omega)]; rfl
  · rw [if_neg (by omega), if_neg h, if_neg (by omega)]
theorem cutDiff_eq (hN : NetOk l T C) (hc : CutOk T C p q) : cutDiff T C (cP p q) = cDiff p q 5 := by
  unfold cutDiff cDiff
  rw [sumN_ten]
  refine sumN_congr fun k hk => ?_
  rw [g2_tri hN.hT hk, g2_cir hN.hT]
  have e1 : cP p q k = p k := by unfold cP; rw [if_pos hk]
  have e2 : cP p q (5 + k) = q k := by
    unfold cP; rw [if_neg (by omega), if_pos (by omega)]; congr 1; omega
  rw [e1, e2]
  cases h1 : p k with
  | false =>
    cases h2 : q k with
    | false => simp
    | true => have := hc.qc _ h2; rw [if_pos (show k < C by omega)]; simp
  | true =>
    have := hc.pt _ h1
    rw [if_pos (show k < T by omega)]
    cases h2 : q k with
    | false => simp
    | true => have := hc.qc _ h2; rw [if_pos (show k < C by omega)]; simp
theorem cutLo_eq (hN : NetOk l T C) (hc : CutOk T C p q) : cutLo l lo hi (cP p q) = csLo l p q lo hi l.length := by
  unfold cutLo csLo
  refine sumN_congr fun i hi' => ?_
  have ha : l[i]? = some l[i] := by simp [hi']
  rw [cP_fr hN hc ha, cP_to hN hc ha, ha]; rfl
theorem cutHi_eq (hN : NetOk l T C) (hc : CutOk T C p q) : cutHi l lo hi (cP p q) = csHi l p q lo hi l.length := by
  unfold cutHi csHi
  refine sumN_congr fun i hi' => ?_
  have ha : l[i]? = some l[i] := by simp [hi']
  rw [cP_fr hN hc ha, cP_to hN hc ha, ha]; rfl
theorem deny_iff (hN : NetOk l T C) (hc : CutOk T C p q) : DenyC l p q lo hi ↔ DenyN l T C lo hi (cP p q) := by
  unfold DenyC DenyN
  rw [cutDiff_eq hN hc, cutLo_eq hN hc, cutHi_eq hN hc]
  exact ⟨fun h => ⟨rfl, h⟩, fun h => h.2⟩

/-! ### lists -/
theorem Rising.pairwise {ts : List Int} {m : Int} (h : Rising ts m) : ts.Pairwise (· < ·) := by
  rw [List.pairwise_iff_getElem]
  intro i j hi hj hij
  have key : ∀ d i, (h' : i + (d + 1) < ts.length) → ts[i] < ts[i + (d + 1)] := by
    intro d
    induction d with
    | zero =>
      intro i h'
      have := (h (i + 1) h').2 (by omega)
      rw [Nat.add_sub_cancel, List.getD_eq_getElem?_getD, List.getD_eq_getElem?_getD, List.getElem?_eq_getElem (by omega), List.getElem?_eq_getElem (by omega)] at this
      exact this
    | succ d ih =>
      intro i h'
      have h1 := ih i (by omega)
      have h2 := (h (i + (d + 1) + 1) (by omega)).2 (by omega)
      rw [Nat.add_sub_cancel, List.getD_eq_getElem?_getD, List.getD_eq_getElem?_getD, List.getElem?_eq_getElem (by omega), List.getElem?_eq_getElem (by omega)] at h2
      exact Int.lt_trans h1 h2
  have e : j = i + ((j - i - 1) + 1) := by omega
  have := key (j - i - 1) i (by omega)
  simp only [← e] at this
  exact this
theorem Rising.mem {ts : List Int} {m : Int} (h : Rising ts m) {x : Int} (hx : x ∈ ts) : 0 ≤ x ∧ x ≤ m - 1 := by
  obtain ⟨i, hi, rfl⟩ := List.mem_iff_getElem.1 hx
  have := (h i hi).1
  rw [List.getD_eq_getElem?_getD, List.getElem?_eq_getElem hi] at this
  exact this
theorem rising_of {ts : List Int} {m : Int} (h : ts.Pairwise (· < ·)) (hm : ∀ x ∈ ts, 0 ≤ x ∧ x ≤ m - 1) : Rising ts m := by
  intro i hi
  rw [List.getD_eq_getElem?_getD, List.getD_eq_getElem?_getD, List.getElem?_eq_getElem hi]
  refine ⟨hm _ (List.getElem_mem hi), fun h0 => ?_⟩
  rw [List.getElem?_eq_getElem (show i - 1 < ts.length by omega)]
  exact List.pairwise_iff_getElem.1 h (i - 1) i (by omega) hi (by omega)
theorem count_list {ts : List Int} (h : ts.Pairwise (· < ·)) (hm : ∀ x ∈ ts, 0 ≤ x ∧ x < 5) (c : Int) : sumN 5 (fun k => if decide ((k : Int) ∈ ts) = true then c else 0) = ts.length * c := by
  induction ts with
  | nil => simp [sumN]
  | cons x r ih =>
    have hx := hm x (List.mem_cons_self ..)
    obtain ⟨n, rfl⟩ := Int.eq_ofNat_of_zero_le hx.1
    have hnr : (n : Int) ∉ r := fun hmem => by have := (List.pairwise_cons.1 h).1 _ hmem; omega
    have hr := ih (List.pairwise_cons.1 h).2 (fun y hy => hm y (List.mem_cons_of_mem _ hy))
    rw [sumN_one (g := fun k : Nat => if decide ((k : Int) ∈ r) = true then c else 0) (j := n) (by omega) (fun k _ hk => ?_), hr]
    · simp [hnr, Int.add_mul]
    · have : ¬ (k : Int) = n := by omega
      simp [this]
def memB (ts : List Int) : Int → Bool := fun t => decide (t ∈ ts)
theorem cutOk_list {ts cs : List Int} (h1 : Rising ts T) (h2 : Rising cs C) : CutOk T C (memB ts) (memB cs) :=
  ⟨fun t ht => by have := h1.mem (of_decide_eq_true ht); omega, fun t ht => by have := h2.mem (of_decide_eq_true ht); omega⟩
theorem cDiff_list {ts cs : List Int} (h1 : Rising ts T) (h2 : Rising cs C) (hT : T ≤ 5) (hC : C ≤ 5) : cDiff (memB ts) (memB cs) 5 = ts.length * 36 - cs.length * 72 := by
  unfold cDiff memB
  rw [sumN_sub, count_list h1.pairwise (fun x hx => by have := h1.mem hx; omega), count_list h2.pairwise (fun x hx => by have := h2.mem hx; omega)]
theorem sumLo_list {ts cs : List Int} (k : Nat) : sumLo l ts cs lo hi k = csLo l (memB ts) (memB cs) lo hi k := by
  unfold sumLo csLo
  refine sumN_congr fun i _ => ?_
  cases l[i]? with
  | none => rfl
  | some a => simp [partLo, cpLo, memB]
theorem sumHi_list {ts cs : List Int} (k : Nat) : sumHi l ts cs lo hi k = csHi l (memB ts) (memB cs) lo hi k := by
  unfold sumHi csHi
  refine sumN_congr fun i _ => ?_
  cases l[i]? with
  | none => rfl
  | some a => simp [partHi, cpHi, memB]
theorem provesL_iff (hN : NetOk l T C) {ts cs : List Int} (h1 : Rising ts T) (h2 : Rising cs C) : ProvesL l ts cs lo hi ↔ DenyC l (memB ts) (memB cs) lo hi := by
  unfold ProvesL DenyC
  rw [sumLo_list, sumHi_list, cDiff_list h1 h2 hN.hT hN.hC]
  omega
theorem provesL_not (hN : NetOk l T C) {ts cs : List Int} (h1 : Rising ts T) (h2 : Rising cs C) (h : ProvesL l ts cs lo hi) : ¬ Can l T C lo hi :=
  not_can hN ((deny_iff hN (cutOk_list h1 h2)).1 ((provesL_iff hN h1 h2).1 h))

/-! ### bits -/
def bitB (b : Nat) : Int → Bool := fun t => decide (0 ≤ t) && b.testBit t.toNat
theorem bitB_nat (b k : Nat) : bitB b k = b.testBit k := by simp [bitB]
theorem bitB_lt {b m : Nat} (h : b < 2 ^ m) (t : Int) (ht : bitB b t = true) : 0 ≤ t ∧ t < m := by
  unfold bitB at ht
  simp only [Bool.and_eq_true, decide_eq_true_eq] at ht
  refine ⟨ht.1, ?_⟩
  refine Classical.byContradiction fun hn => ?_
  have : b.testBit t.toNat = false := Nat.testBit_lt_two_pow (Nat.lt_of_lt_of_le h (Nat.pow_le_pow_right (by omega) (by omega)))
  rw [this] at ht
  cases ht.2
theorem cutOk_bits {b c : Nat} (h1 : b < 2 ^ T) (h2 : c < 2 ^ C) : CutOk T C (bitB b) (bitB c) := ⟨bitB_lt h1, bitB_lt h2⟩
theorem bits_of (f : Nat → Bool) : ∀ m, ∃ b < 2 ^ m, ∀ k, k < m → b.testBit k = f k
  | 0 => ⟨0, by simp, fun k hk => by omega⟩
  | m + 1 => by
    obtain ⟨b, hb, hk⟩ := bits_of f m
    cases hf : f m with
    | false =>
      refine ⟨b, by rw [Nat.pow_succ]; omega, fun k hk' => ?_⟩
      by_cases e : k = m
      · subst e; rw [Nat.testBit_lt_two_pow hb, hf]
      · exact hk k (by omega)
    | true =>
      refine ⟨2 ^ m + b, by rw [Nat.pow_succ]; omega, fun k hk' => ?_⟩
      by_cases e : k = m
      · subst e; rw [Nat.testBit_two_pow_add_eq, Nat.testBit_lt_two_pow hb, hf]; rfl
      · rw [Nat.testBit_two_pow_add_gt (by omega)]; exact hk k (by omega)
theorem deny_bits (hN : NetOk l T C) {P : Nat → Bool} (h : DenyN l T C lo hi P) : ∃ b < 2 ^ T, ∃ c < 2 ^ C, DenyC l (bitB b) (bitB c) lo hi := by
  obtain ⟨b, hb, hbk⟩ := bits_of P T
  obtain ⟨c, hc, hck⟩ := bits_of (fun k => P (5 + k)) C
  refine ⟨b, hb, c, hc, (deny_iff hN (cutOk_bits hb hc)).2 ?_⟩
  obtain ⟨h10, h⟩ := h
  have hT := hN.hT
  have hC := hN.hC
  have ef : ∀ i, i < l.length → cP (bitB b) (bitB c) (fI l i) = P (fI l i) := fun i hi' => by
    have ha : l[i]? = some l[i] := by simp [hi']
    have hao := hN.ok _ (List.mem_of_getElem? ha)
    rw [cP_fr hN (cutOk_bits hb hc) ha]
    have e : fI l i = frN l[i] := by simp only [fI, ha]
    rw [e]
    by_cases h1 : l[i].t = -1
    · have e10 : frN l[i] = 10 := by unfold frN nodeZ; rw [if_pos h1]; rfl
      rw [e10, h10, h1]; rfl
    · have hf : (frN l[i] : Int) = l[i].t := by rw [frN_eq hao.1]; unfold nodeZ; rw [if_neg h1]; omega
      rw [← hf, bitB_nat, hbk _ (by omega)]
  have et : ∀ i, i < l.length → cP (bitB b) (bitB c) (tI l i) = P (tI l i) := fun i hi' => by
    have ha : l[i]? = some l[i] := by simp [hi']
    have hao := hN.ok _ (List.mem_of_getElem? ha)
    rw [cP_to hN (cutOk_bits hb hc) ha]
    have e : tI l i = toN l[i] := by simp only [tI, ha]
    rw [e]
    by_cases h1 : l[i].c = -1
    · have e10 : toN l[i] = 10 := by unfold toN nodeZ; rw [if_pos h1]; rfl
      rw [e10, h10, h1]; rfl
    · have hf : (toN l[i] : Int) = 5 + l[i].c := by rw [toN_eq hao.2.2.1]; unfold nodeZ; rw [if_neg h1]
      have e5 : toN l[i] = 5 + (toN l[i] - 5) := by omega
      have e6 : l[i].c = ((toN l[i] - 5 : Nat) : Int) := by omega
      rw [e6, bitB_nat, hck _ (by omega), ← e5]
  have e1 : cutLo l lo hi (cP (bitB b) (bitB c)) = cutLo l lo hi P := sumN_congr fun i hi' => by rw [ef i hi', et i hi']
  have e2 : cutHi l lo hi (cP (bitB b) (bitB c)) = cutHi l lo hi P := sumN_congr fun i hi' => by rw [ef i hi', et i hi']
  have e3 : cutDiff T C (cP (bitB b) (bitB c)) = cutDiff T C P := by
    unfold cutDiff
    rw [sumN_ten, sumN_ten]
    refine sumN_congr fun k hk => ?_
    rw [g2_tri hT hk, g2_cir hT]
    have e1 : cP (bitB b) (bitB c) k = b.testBit k := by unfold cP; rw [if_pos hk, bitB_nat]
    have e2 : cP (bitB b) (bitB c) (5 + k) = c.testBit k := by
      unfold cP; rw [if_neg (by omega), if_pos (by omega), show ((5 + k : Nat) : Int) - 5 = k by omega, bitB_nat]
    rw [e1, e2]
    by_cases h1 : k < T
    · by_cases h2 : k < C
      · rw [hbk k h1, hck k h2]
      · rw [hbk k h1, if_neg h2, if_pos h1]; simp
    · by_cases h2 : k < C
      · rw [hck k h2, if_neg h1]; simp
      · rw [if_neg h1, if_neg h2]; simp
  refine ⟨rfl, ?_⟩
  rw [e1, e2, e3]
  exact h
theorem can_bits (hl : l.length ≤ 12) (hN : NetOk l T C) (hR : RoomOk lo hi) : (∀ b < 2 ^ T, ∀ c < 2 ^ C, ¬ DenyC l (bitB b) (bitB c) lo hi) ↔ Can l T C lo hi := by
  constructor
  · intro h
    rcases hoffman hl hN hR with h1 | ⟨P, hP⟩
    · exact h1
    · obtain ⟨b, hb, c, hc, hd⟩ := deny_bits hN hP
      exact absurd hd (h b hb c hc)
  · intro h b hb c hc hd
    exact not_can hN ((deny_iff hN (cutOk_bits hb hc)).1 hd) h

/-! ### truths -/
theorem truthL_iff (hN : NetOk l T C) {xs : List Int} : TruthL l T C xs lo hi ↔ TruthN l T C lo hi (fun i => xs.getD i 0) := by
  have hT := hN.hT
  have hC := hN.hC
  have hfr : ∀ i, fI l i < T ∨ fI l i = 10 := fun i => by
    unfold fI
    cases ha : l[i]? with
    | none => exact .inr rfl
    | some a =>
      have := hN.ok a (List.mem_of_getElem? ha)
      by_cases h : a.t = -1
      · exact .inr (by show frN a = 10; unfold frN nodeZ; rw [if_pos h]; rfl)
      · exact .inl (by have hf : (frN a : Int) = a.t := (by rw [frN_eq this.1]; unfold nodeZ; rw [if_neg h]; omega); show frN a < T; omega)
  have hto : ∀ i, (5 ≤ tI l i ∧ tI l i < 5 + C) ∨ tI l i = 10 := fun i => by
    unfold tI
    cases ha : l[i]? with
    | none => exact .inr rfl
    | some a =>
      have := hN.ok a (List.mem_of_getElem? ha)
      by_cases h : a.c = -1
      · exact .inr (by show toN a = 10; unfold toN nodeZ; rw [if_pos h]; rfl)
      · exact .inl (by have hf : (toN a : Int) = 5 + a.c := (by rw [toN_eq this.2.2.1]; unfold nodeZ; rw [if_neg h]); show 5 ≤ toN a ∧ toN a < 5 + C; omega)
  have e1 : ∀ t, t < 5 → sumN l.length (fun i => (if fI l i = t then xs.getD i 0 else 0) - (if tI l i = t then xs.getD i 0 else 0)) = hS l xs l.length t := fun t ht => by
    unfold hS
    refine sumN_congr fun i _ => ?_
    have := hto i
    rw [if_neg (show ¬ tI l i = t by omega)]; omega
  have e2 : ∀ k, k < 5 → sumN l.length (fun i => (if fI l i = 5 + k then xs.getD i 0 else 0) - (if tI l i = 5 + k then xs.getD i 0 else 0)) = - hS l xs l.length (5 + k) := fun k hk => by
    unfold hS
    rw [← sumN_neg]
    refine sumN_congr fun i _ => ?_
    have := hfr i
    rw [if_neg (show ¬ fI l i = 5 + k by omega)]; omega
  have z1 : ∀ t, T ≤ t → t < 5 → hS l xs l.length t = 0 := fun t h1 h2 => by
    unfold hS
    rw [sumN_congr (g := fun _ => 0) (fun i _ => by have := hfr i; have := hto i; rw [if_neg (by omega), if_neg (by omega)]; rfl), sumN_zero]
  have z2 : ∀ k, C ≤ k → k < 5 → hS l xs l.length (5 + k) = 0 := fun t h1 h2 => by
    unfold hS
    rw [sumN_congr (g := fun _ => 0) (fun i _ => by have := hfr i; have := hto i; rw [if_neg (by omega), if_neg (by omega)]; rfl), sumN_zero]
  constructor
  · rintro ⟨h1, h2, h3⟩
    refine ⟨h1, fun u hu => ?_⟩
    by_cases h5 : u < 5
    · rw [e1 u h5, g2_tri hT h5]
      by_cases h : u < T
      · rw [h2 u h, if_pos h]
      · rw [z1 u (by omega) h5, if_neg h]
    · obtain ⟨k, rfl⟩ : ∃ k, u = 5 + k := ⟨u - 5, by omega⟩
      rw [e2 k (by omega), g2_cir hT]
      by_cases h : k < C
      · rw [h3 k h, if_pos h]
      · rw [z2 k (by omega) (by omega), if_neg h]; rfl
  · rintro ⟨h1, h2⟩
    refine ⟨h1, fun t ht => ?_, fun k hk => ?_⟩
    · have := h2 t (by omega)
      rw [e1 t (by omega), g2_tri hT (by omega), if_pos ht] at this
      exact this
    · have := h2 (5 + k) (by omega)
      rw [e2 k (by omega), g2_cir hT, if_pos hk] at this
      omega
theorem TruthN.congr {x y : Nat → Int} (h : TruthN l T C lo hi x) (e : ∀ i, i < l.length → x i = y i) : TruthN l T C lo hi y :=
  ⟨fun i hi' => by rw [← e i hi']; exact h.1 i hi', fun u hu => by rw [← h.2 u hu]; exact sumN_congr fun i hi' => by rw [e i hi']⟩
end
end Go.Proofs.Ytnhbplnhhloklaa
