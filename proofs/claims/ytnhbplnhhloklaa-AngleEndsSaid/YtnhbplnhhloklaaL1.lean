/- Plain laws: the cut that a search tells proves. -/
import Derived.Test.YtnhbplnhhloklaaL0
import Derived.Test.YtnhbplnhhloklaaD1
import Derived.Test.YtnhbplnhhloklaaD3
namespace Go.Proofs.Ytnhbplnhhloklaa
section
variable {l : List Ang} {T C : Nat} {lo hi : Nat → Int}

theorem fI_in (hN : NetOk l T C) (i : Nat) : fI l i < T ∨ fI l i = 10 := by
  have hT := hN.hT
  unfold fI
  cases ha : l[i]? with
  | none => exact .inr rfl
  | some a =>
    have := hN.ok a (List.mem_of_getElem? ha)
    by_cases h : a.t = -1
    · exact .inr (by show frN a = 10; unfold frN nodeZ; rw [if_pos h]; rfl)
    · exact .inl (by have hf : (frN a : Int) = a.t := (by rw [frN_eq this.1]; unfold nodeZ; rw [if_neg h]; omega); show frN a < T; omega)
theorem tI_in (hN : NetOk l T C) (i : Nat) : (5 ≤ tI l i ∧ tI l i < 5 + C) ∨ tI l i = 10 := by
  have hC := hN.hC
  unfold tI
  cases ha : l[i]? with
  | none => exact .inr rfl
  | some a =>
    have := hN.ok a (List.mem_of_getElem? ha)
    by_cases h : a.c = -1
    · exact .inr (by show toN a = 10; unfold toN nodeZ; rw [if_pos h]; rfl)
    · exact .inl (by have hf : (toN a : Int) = 5 + a.c := (by rw [toN_eq this.2.2.1]; unfold nodeZ; rw [if_neg h]); show 5 ≤ toN a ∧ toN a < 5 + C; omega)
/-- What counts of a cut are the nodes of the net. -/
theorem deny_congr (hN : NetOk l T C) {P Q : Nat → Bool} (hQ : Q 10 = false) (h1 : ∀ t, t < T → P t = Q t) (h2 : ∀ k, k < C → P (5 + k) = Q (5 + k)) (h : DenyN l T C lo hi P) : DenyN l T C lo hi Q := by
  obtain ⟨h10, h⟩ := h
  have ef : ∀ i, Q (fI l i) = P (fI l i) := fun i => by
    rcases fI_in hN i with h | h
    · exact (h1 _ h).symm
    · rw [h, hQ, h10]
  have et : ∀ i, Q (tI l i) = P (tI l i) := fun i => by
    rcases tI_in hN i with h | h
    · have e : tI l i = 5 + (tI l i - 5) := by omega
      rw [e]; exact (h2 _ (by omega)).symm
    · rw [h, hQ, h10]
  have e1 : cutLo l lo hi Q = cutLo l lo hi P := sumN_congr fun i _ => by rw [ef i, et i]
  have e2 : cutHi l lo hi Q = cutHi l lo hi P := sumN_congr fun i _ => by rw [ef i, et i]
  have e3 : cutDiff T C Q = cutDiff T C P := by
    unfold cutDiff
    rw [sumN_ten, sumN_ten]
    refine sumN_congr fun k hk => ?_
    rw [g2_tri hN.hT hk, g2_cir hN.hT]
    by_cases ht : k < T
    · by_cases hc : k < C
      · rw [h1 k ht, h2 k hc]
      · rw [h1 k ht, if_neg hc, if_pos ht]; simp
    · by_cases hc : k < C
      · rw [h2 k hc, if_neg ht]; simp
      · rw [if_neg ht, if_neg hc]; simp
  refine ⟨hQ, ?_⟩
  rw [e1, e2, e3]
  exact h

/-- The chosen ones of the first numbers. -/
def pick (P : Nat → Bool) (k : Nat) : List Nat := (List.range k).filter P
theorem pick_yes {P : Nat → Bool} {k : Nat} (h : P k = true) : pick P (k + 1) = pick P k ++ [k] := by
  unfold pick; rw [List.range_succ, List.filter_append]; simp [h]
theorem pick_no {P : Nat → Bool} {k : Nat} (h : P k = false) : pick P (k + 1) = pick P k := by
  unfold pick; rw [List.range_succ, List.filter_append]; simp [h]
theorem mem_pick {P : Nat → Bool} {k i : Nat} : i ∈ pick P k ↔ i < k ∧ P i = true := by
  unfold pick; simp [List.mem_filter]
theorem pick_len (P : Nat → Bool) (k : Nat) : (pick P k).length ≤ k := by
  unfold pick; exact Nat.le_trans (List.length_filter_le _ _) (by simp)
theorem pick_up (P : Nat → Bool) (k : Nat) : (pick P k).Pairwise (· < ·) := List.Pairwise.filter _ List.pairwise_lt_range
theorem outI_rising {xs : List Nat} (h : xs.Pairwise (· < ·)) {m : Nat} (hm : ∀ x ∈ xs, x < m) : Rising (outI xs) m := by
  refine rising_of ?_ ?_
  · unfold outI
    rw [List.pairwise_map]
    exact h.imp (fun h => by omega)
  · intro x hx
    unfold outI at hx
    obtain ⟨i, hi, rfl⟩ := List.mem_map.1 hx
    have := hm i hi
    omega
theorem memB_pick (P : Nat → Bool) {k i : Nat} (h : i < k) : memB (outI (pick P k)) i = P i := by
  unfold memB outI
  rw [Bool.eq_iff_iff, decide_eq_true_iff, List.mem_map]
  constructor
  · rintro ⟨j, hj, e⟩
    have : j = i := by omega
    subst this
    exact (mem_pick.1 hj).2
  · intro hp
    exact ⟨i, mem_pick.2 ⟨h, hp⟩, rfl⟩
theorem deny_lists (hN : NetOk l T C) {P : Nat → Bool} (h : DenyN l T C lo hi P) :
    Rising (outI (pick P T)) T ∧ Rising (outI (pick (fun k => P (5 + k)) C)) C ∧ ProvesL l (outI (pick P T)) (outI (pick (fun k => P (5 + k)) C)) lo hi := by
  have h1 : Rising (outI (pick P T)) T := outI_rising (pick_up _ _) (fun x hx => (mem_pick.1 hx).1)
  have h2 : Rising (outI (pick (fun k => P (5 + k)) C)) C := outI_rising (pick_up _ _) (fun x hx => (mem_pick.1 hx).1)
  refine ⟨h1, h2, (provesL_iff hN h1 h2).2 ((deny_iff hN (cutOk_list h1 h2)).2 ?_)⟩
  have hT := hN.hT
  have hC := hN.hC
  refine deny_congr hN rfl (fun t ht => ?_) (fun k hk => ?_) h
  · unfold cP; rw [if_pos (by omega), memB_pick _ ht]
  · unfold cP; rw [if_neg (by omega), if_pos (by omega), show ((5 + k : Nat) : Int) - 5 = k by omega, memB_pick _ hk]

/-- The side of the cut without the free node. -/
def sideP (S : Nat → Bool) (u : Nat) : Bool := S u == !S 10
theorem prove_cut (hN : NetOk l T C) {sum : Int} {L' : LL} (hB : Bnd (LF l T C lo hi)) (hr : FlowRel l.length (LF l T C lo hi) sum L') {s0 S : Seen} (hd0 : Dead l.length 11 (fun _ => false) s0 L') (hg : GRel l.length 11 (mark (fun _ => false) 11) S L') (hs : sum ≠ dueN (gF l T C lo) 11) : DenyN l T C lo hi (sideP S) := by
  have hd : Dead l.length 11 (fun _ => false) S L' := by
    refine ⟨fun _ h => (by cases h), hg.mono 11 (mark_me _ _), fun h => ?_, fun u hu h1 _ => ?_⟩
    · have hZ : Shut l.length L' s0 := fun u hu h1 v hv i hi him hp => hd0.closed u hu h1 rfl v hv i hi him hp
      have := hg.least s0 hZ (fun j hj => by
        unfold mark at hj
        split at hj
        · rename_i e; subst e; exact hd0.me
        · cases hj) 12 h
      exact hd0.last this
    · refine hg.closed u hu h1 ?_
      by_cases e : u = 11
      · exact .inr e
      · exact .inl (by unfold mark; rw [if_neg e])
  obtain ⟨h1, h2⟩ := flow_cut hN hB hr hd hs
  cases h10 : S 10 with
  | false =>
    have e : sideP S = S := by funext u; unfold sideP; rw [h10]; simp
    rw [e]; exact ⟨h10, .inr (h1 h10)⟩
  | true =>
    have e : sideP S = fun u => !S u := by funext u; unfold sideP; rw [h10]; cases S u <;> rfl
    rw [e]; exact ⟨by simp [h10], .inl (h2 h10)⟩
end
end Go.Proofs.Ytnhbplnhhloklaa
