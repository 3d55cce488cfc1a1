/- The greatest flow gives a truth, or a cut. -/
import Derived.Test.YtnhbplnhhloklaaM3
namespace Go.Proofs.Ytnhbplnhhloklaa

theorem sumN_eq_all {n : Nat} {f g : Nat → Int} (h : ∀ k, k < n → f k ≤ g k) (he : sumN n f = sumN n g) : ∀ k, k < n → f k = g k := by
  induction n with
  | zero => intro k hk; omega
  | succ n ih =>
    have h1 := sumN_le (n := n) (f := f) (g := g) (fun k hk => h k (by omega))
    have h2 := h n (by omega)
    simp only [sumN] at he
    intro k hk
    by_cases e : k = n
    · subst e; omega
    · exact ih (fun k hk => h k (by omega)) (by omega) k (by omega)

section
variable {l : List Ang} {T C : Nat} {lo hi : Nat → Int} {sum : Int} {L' : LL}

theorem a_at (v : Nat) (hv : v < 11) : fl (LF l T C lo hi) L' 11 v (-1) = max 0 (gF l T C lo v) - L' 11 v (-1) := by
  have := LF_need (l := l) (T := T) (C := C) (lo := lo) (hi := hi) 11 v
  rw [if_pos ⟨rfl, hv⟩] at this
  unfold fl
  rw [show LF l T C lo hi 11 v (-1) = max 0 (gF l T C lo v) from this]
theorem b_at (u : Nat) (hu : u < 11) : fl (LF l T C lo hi) L' u 12 (-1) = max 0 (- gF l T C lo u) - L' u 12 (-1) := by
  have := LF_need (l := l) (T := T) (C := C) (lo := lo) (hi := hi) u 12
  rw [if_neg (by omega), if_pos ⟨rfl, hu⟩] at this
  unfold fl
  rw [show LF l T C lo hi u 12 (-1) = max 0 (- gF l T C lo u) from this]
theorem y_at (hr : FlowRel l.length (LF l T C lo hi) sum L') {i : Nat} (hi' : i < l.length) (h : fI l i ≠ tI l i) : yF l L' i = hi i - lo i - L' (fI l i) (tI l i) i := by
  have h1 := hr.pair (fI l i) (tI l i) i
  have h2 := LF_angle (l := l) (T := T) (C := C) (lo := lo) (hi := hi) (fI l i) (tI l i) i
  have h3 := LF_angle (l := l) (T := T) (C := C) (lo := lo) (hi := hi) (tI l i) (fI l i) i
  rw [if_pos ⟨hi', rfl, rfl, h⟩] at h2
  rw [if_neg (by rintro ⟨_, a, _⟩; exact h a)] at h3
  unfold yF
  omega
theorem y_self (hB : Bnd (LF l T C lo hi)) (hr : FlowRel l.length (LF l T C lo hi) sum L') {i : Nat} (h : fI l i = tI l i) : yF l L' i = 0 := by
  have h1 := hr.pair (fI l i) (tI l i) i
  have h2 := LF_angle (l := l) (T := T) (C := C) (lo := lo) (hi := hi) (fI l i) (tI l i) i
  have h3 := (hr.bnd hB).nn (tI l i) (fI l i) i
  rw [if_neg (by rintro ⟨_, _, _, a⟩; exact a h)] at h2
  rw [h] at h1 h2 h3
  unfold yF
  rw [h]
  omega
theorem y_nn (hB : Bnd (LF l T C lo hi)) (hr : FlowRel l.length (LF l T C lo hi) sum L') (i : Nat) : 0 ≤ yF l L' i := (hr.bnd hB).nn _ _ _
theorem due_back : sumN 11 (fun u => max 0 (- gF l T C lo u)) = dueN (gF l T C lo) 11 := by
  have h := gF_zero (l := l) (T := T) (C := C) (lo := lo)
  rw [dueN_sum]
  have e : sumN 11 (fun u => max 0 (gF l T C lo u)) - sumN 11 (fun u => max 0 (- gF l T C lo u)) = sumN 11 (gF l T C lo) := by
    rw [← sumN_sub]
    exact sumN_congr fun k _ => by omega
  omega

theorem flow_truth (hN : NetOk l T C) (hle : ∀ i, lo i ≤ hi i) (hB : Bnd (LF l T C lo hi)) (hr : FlowRel l.length (LF l T C lo hi) sum L') (hs : sum = dueN (gF l T C lo) 11) : TruthN l T C lo hi (fun i => lo i + yF l L' i) := by
  have hnn := (hr.bnd hB).nn
  refine ⟨fun i hi' => ?_, fun u hu => ?_⟩
  · have h1 := y_nn hB hr i
    by_cases h : fI l i = tI l i
    · have := y_self hB hr h
      have := hle i
      show lo i ≤ lo i + yF l L' i ∧ lo i + yF l L' i ≤ hi i
      omega
    · have := y_at hr hi' h
      have := hnn (fI l i) (tI l i) i
      show lo i ≤ lo i + yF l L' i ∧ lo i + yF l L' i ≤ hi i
      omega
  · have ha := sumN_eq_all (n := 11) (f := fun v => fl (LF l T C lo hi) L' 11 v (-1)) (g := fun v => max 0 (gF l T C lo v))
      (fun v hv => by have := a_at (l := l) (T := T) (C := C) (lo := lo) (hi := hi) (L' := L') v hv; have := hnn 11 v (-1); show fl _ _ _ _ _ ≤ _; omega)
      (by rw [from_first hN hB hr, hs, dueN_sum]) u (by omega)
    have hb := sumN_eq_all (n := 11) (f := fun v => fl (LF l T C lo hi) L' v 12 (-1)) (g := fun v => max 0 (- gF l T C lo v))
      (fun v hv => by have := b_at (l := l) (T := T) (C := C) (lo := lo) (hi := hi) (L' := L') v hv; have := hnn v 12 (-1); show fl _ _ _ _ _ ≤ _; omega)
      (by rw [to_last hN hB hr, hs, due_back]) u (by omega)
    have hc := conserve hN hB hr (u := u) (by omega)
    have hg := gF_at (l := l) (T := T) (C := C) (lo := lo) (u := u) (by omega)
    have e : sumN l.length (fun i => (if fI l i = u then lo i + yF l L' i else 0) - (if tI l i = u then lo i + yF l L' i else 0)) = sumN l.length (fun i => if fI l i = u then lo i else 0) - sumN l.length (fun i => if tI l i = u then lo i else 0) + sumN l.length (fun i => (if fI l i = u then yF l L' i else 0) - (if tI l i = u then yF l L' i else 0)) := by
      rw [← sumN_sub, ← sumN_add]
      exact sumN_congr fun i _ => by split <;> split <;> omega
    rw [e]
    replace ha : fl (LF l T C lo hi) L' 11 u (-1) = max 0 (gF l T C lo u) := ha
    replace hb : fl (LF l T C lo hi) L' u 12 (-1) = max 0 (- gF l T C lo u) := hb
    omega

/-- What the nodes of a set give, without the free one. -/
theorem gF_set (hN : NetOk l T C) {P : Nat → Bool} (h10 : P 10 = false) : sumN 11 (fun u => if P u = true then gF l T C lo u else 0) = cutDiff T C P - sumN l.length (fun i => (if P (fI l i) = true then lo i else 0) - (if P (tI l i) = true then lo i else 0)) := by
  rw [← ends_sum hN P lo]
  show sumN 10 _ + _ = sumN 10 _ - (sumN 10 _ + _)
  simp only [h10]
  rw [if_neg (by decide), if_neg (by decide), Int.add_zero, Int.add_zero, ← sumN_sub]
  refine sumN_congr fun u hu => ?_
  split
  · rw [gF_at (by omega), sumN_sub]; omega
  · rfl

theorem flow_cut (hN : NetOk l T C) (hB : Bnd (LF l T C lo hi)) (hr : FlowRel l.length (LF l T C lo hi) sum L') {S : Nat → Bool} (hd : Dead l.length 11 (fun _ => false) S L') (hs : sum ≠ dueN (gF l T C lo) 11) :
    (S 10 = false → cutHi l lo hi S < cutDiff T C S) ∧ (S 10 = true → cutDiff T C (fun u => !S u) < cutLo l lo hi (fun u => !S u)) := by
  have hnn := (hr.bnd hB).nn
  have h12 : S 12 = false := by
    cases h : S 12 with
    | false => rfl
    | true => exact absurd (hd.last h) (by decide)
  have hz : ∀ u v : Nat, u < 13 → v < 13 → S u = true → S v = false → ∀ i : Int, -1 ≤ i → i < l.length → L' u v i = 0 := by
    intro u v hu hv h1 h2 i h3 h4
    have h5 := hnn u v i
    by_cases h6 : 0 < L' u v i
    · have := hd.closed u hu h1 rfl v hv i h3 h4 h6
      rw [h2] at this; cases this
    · omega
  have hl0 : (-1 : Int) < l.length := by omega
  have c0 : sumN 11 (fun u => if S u = true then fl (LF l T C lo hi) L' u 12 (-1) - fl (LF l T C lo hi) L' 11 u (-1) else 0) + sumN l.length (fun i => (if S (fI l i) = true then yF l L' i else 0) - (if S (tI l i) = true then yF l L' i else 0)) = 0 := by
    rw [← ends_sum hN S (yF l L'), ← sumN_add]
    rw [sumN_congr (g := fun _ => 0) (fun u hu => ?_), sumN_zero]
    have := conserve hN hB hr hu
    split <;> omega
  have c1 : sumN 11 (fun u => if S u = true then fl (LF l T C lo hi) L' u 12 (-1) - fl (LF l T C lo hi) L' 11 u (-1) else 0) = sumN 11 (fun u => if S u = true then max 0 (- gF l T C lo u) - fl (LF l T C lo hi) L' 11 u (-1) else 0) := by
    refine sumN_congr fun u hu => ?_
    split
    · rename_i h
      have := hz u 12 (by omega) (by omega) h h12 (-1) (by omega) hl0
      have := b_at (l := l) (T := T) (C := C) (lo := lo) (hi := hi) (L' := L') u hu
      have e : L' u (12 : Nat) (-1) = L' u 12 (-1) := rfl
      omega
    · rfl
  have c3 : sumN l.length (fun i => (if S (fI l i) = true then yF l L' i else 0) - (if S (tI l i) = true then yF l L' i else 0)) = sumN l.length (fun i => if S (fI l i) = true ∧ S (tI l i) = false then hi i - lo i else 0) := by
    refine sumN_congr fun i hi' => ?_
    have hf := hN.f10 i
    have ht := hN.t10 i
    cases h1 : S (fI l i) with
    | false =>
      cases h2 : S (tI l i) with
      | false => simp
      | true =>
        have := hz (tI l i) (fI l i) (by omega) (by omega) h2 h1 i (by omega) (by omega)
        simp [yF, this]
    | true =>
      cases h2 : S (tI l i) with
      | true => simp
      | false =>
        have h3 := hz (fI l i) (tI l i) (by omega) (by omega) h1 h2 i (by omega) (by omega)
        have h4 := y_at hr hi' (by intro e; rw [e, h2] at h1; cases h1)
        rw [h3] at h4
        simp [h4]
  have c4 : 0 < sumN 11 (fun u => if S u = true then max 0 (gF l T C lo u) - fl (LF l T C lo hi) L' 11 u (-1) else 0) := by
    have e : sumN 11 (fun u => if S u = true then max 0 (gF l T C lo u) - fl (LF l T C lo hi) L' 11 u (-1) else 0) = sumN 11 (fun u => max 0 (gF l T C lo u) - fl (LF l T C lo hi) L' 11 u (-1)) := by
      refine sumN_congr fun u hu => ?_
      split
      · rfl
      · rename_i h
        have h' : S u = false := by simpa using h
        have := hz 11 u (by omega) (by omega) hd.me h' (-1) (by omega) hl0
        have := a_at (l := l) (T := T) (C := C) (lo := lo) (hi := hi) (L' := L') u hu
        have e : L' (11 : Nat) u (-1) = L' 11 u (-1) := rfl
        omega
    have h1 : 0 ≤ sumN 11 (fun u => max 0 (gF l T C lo u) - fl (LF l T C lo hi) L' 11 u (-1)) := sumN_nonneg fun u hu => by
      have := a_at (l := l) (T := T) (C := C) (lo := lo) (hi := hi) (L' := L') u hu
      have := hnn 11 u (-1)
      omega
    rw [e]
    rw [sumN_sub, from_first hN hB hr, ← dueN_sum] at h1 ⊢
    omega
  have c5 : sumN 11 (fun u => if S u = true then max 0 (gF l T C lo u) - fl (LF l T C lo hi) L' 11 u (-1) else 0) - sumN 11 (fun u => if S u = true then max 0 (- gF l T C lo u) - fl (LF l T C lo hi) L' 11 u (-1) else 0) = sumN 11 (fun u => if S u = true then gF l T C lo u else 0) := by
    rw [← sumN_sub]
    exact sumN_congr fun u _ => by split <;> omega
  have key : sumN l.length (fun i => if S (fI l i) = true ∧ S (tI l i) = false then hi i - lo i else 0) < sumN 11 (fun u => if S u = true then gF l T C lo u else 0) := by omega
  refine ⟨fun h10 => ?_, fun h10 => ?_⟩
  · rw [gF_set hN h10] at key
    have e : cutHi l lo hi S = sumN l.length (fun i => if S (fI l i) = true ∧ S (tI l i) = false then hi i - lo i else 0) + sumN l.length (fun i => (if S (fI l i) = true then lo i else 0) - (if S (tI l i) = true then lo i else 0)) := by
      unfold cutHi
      rw [← sumN_add]
      exact sumN_congr fun i _ => by cases S (fI l i) <;> cases S (tI l i) <;> simp
    omega
  · have e1 : sumN 11 (fun u => if S u = true then gF l T C lo u else 0) = - sumN 11 (fun u => if (!S u) = true then gF l T C lo u else 0) := by
      have h := gF_zero (l := l) (T := T) (C := C) (lo := lo)
      have e : sumN 11 (fun u => if S u = true then gF l T C lo u else 0) + sumN 11 (fun u => if (!S u) = true then gF l T C lo u else 0) = sumN 11 (gF l T C lo) := by
        rw [← sumN_add]
        exact sumN_congr fun u _ => by cases S u <;> simp
      omega
    rw [e1, gF_set (P := fun u => !S u) hN (by simp [h10])] at key
    have e : cutLo l lo hi (fun u => !S u) = sumN l.length (fun i => (if (!S (fI l i)) = true then lo i else 0) - (if (!S (tI l i)) = true then lo i else 0)) - sumN l.length (fun i => if S (fI l i) = true ∧ S (tI l i) = false then hi i - lo i else 0) := by
      unfold cutLo
      rw [← sumN_sub]
      exact sumN_congr fun i _ => by
        have h1 : S (fI l i) = true ∨ S (fI l i) = false := by cases S (fI l i) <;> simp
        have h2 : S (tI l i) = true ∨ S (tI l i) = false := by cases S (tI l i) <;> simp
        rcases h1 with h1 | h1 <;> rcases h2 with h2 | h2 <;> simp [h1, h2] <;> omega
    omega
end
end Go.Proofs.Ytnhbplnhhloklaa
