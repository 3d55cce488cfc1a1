/- What has flowed; cuts and truths by nodes. -/
import Derived.Test.YtnhbplnhhloklaaM2
namespace Go.Proofs.Ytnhbplnhhloklaa

theorem sumN_shift (m : Nat) (f : Int → Int) : sumN (m + 1) (fun k => f ((k : Int) - 1)) = f (-1) + sumN m (fun i => f i) := by
  induction m with
  | zero => simp [sumN]
  | succ m ih =>
    rw [show sumN (m + 1 + 1) (fun k => f ((k : Int) - 1)) = sumN (m + 1) (fun k => f ((k : Int) - 1)) + f (((m + 1 : Nat) : Int) - 1) from rfl, ih]
    rw [show sumN (m + 1) (fun i => f i) = sumN m (fun i => f i) + f m from rfl]
    have : (((m + 1 : Nat) : Int) - 1) = m := by omega
    rw [this]; omega
/-- Two nodes count at most. -/
theorem sumN_two {n : Nat} {f : Nat → Int} {a b : Nat} (ha : a < n) (hb : b < n) (hab : a ≠ b) (h : ∀ k, k < n → k ≠ a → k ≠ b → f k = 0) : sumN n f = f a + f b := by
  have h1 : sumN n f = sumN n (fun k => if k = a then f a else 0) + (f b - (if b = a then f a else 0)) :=
    sumN_one hb fun k hk hkb => by
      split
      · rename_i e; rw [e]
      · rename_i e; exact h k hk e hkb
  have h2 : sumN n (fun k => if k = a then f a else 0) = f a := by
    rw [sumN_single ha fun k _ hka => if_neg hka]
    exact if_pos rfl
  rw [h1, h2, if_neg (Ne.symm hab)]; omega

section
variable {l : List Ang} {T C : Nat} {lo hi : Nat → Int} {sum : Int} {L' : LL}

/-- What has flowed from a node to another one. -/
def fl (L L' : LL) (u v i : Int) : Int := L u v i - L' u v i
/-- What has flowed along an angle. -/
def yF (l : List Ang) (L' : LL) (i : Nat) : Int := L' (tI l i) (fI l i) i

theorem fl_angle (hN : NetOk l T C) (hB : Bnd (LF l T C lo hi)) (hr : FlowRel l.length (LF l T C lo hi) sum L') {i : Nat} (_hi' : i < l.length) {u : Nat} (_hu : u < 13) : sumN 13 (fun v => fl (LF l T C lo hi) L' u v i) = (if fI l i = u then yF l L' i else 0) - (if tI l i = u then yF l L' i else 0) := by
  have hf := hN.f10 i
  have ht := hN.t10 i
  have hnn := (hr.bnd hB).nn
  have hp := hr.pair
  have h0 : ∀ v : Nat, ¬ (fI l i = u ∧ tI l i = v ∧ u ≠ v) → ¬ (fI l i = v ∧ tI l i = u ∧ u ≠ v) → fl (LF l T C lo hi) L' u v i = 0 := by
    intro v h1 h2
    have e1 : LF l T C lo hi u v i = 0 := by rw [LF_angle, if_neg (by rintro ⟨_, h⟩; exact h1 h)]
    have e2 : LF l T C lo hi v u i = 0 := by rw [LF_angle, if_neg (by rintro ⟨_, a, b, c⟩; exact h2 ⟨a, b, fun e => c e.symm⟩)]
    have := hp u v i
    have := hnn u v i
    have := hnn v u i
    unfold fl
    omega
  by_cases hft : fI l i = tI l i
  · rw [hft, Int.sub_self]
    rw [sumN_congr (g := fun _ => 0) (fun v _ => h0 v (by rintro ⟨a, b, c⟩; omega) (by rintro ⟨a, b, c⟩; omega)), sumN_zero]
  · by_cases h1 : fI l i = u
    · rw [if_pos h1, if_neg (by omega)]
      rw [sumN_single (j := tI l i) (by omega) (fun v _ hv => h0 v (by rintro ⟨a, b, c⟩; omega) (by rintro ⟨a, b, c⟩; omega))]
      have e2 : LF l T C lo hi (tI l i) u i = 0 := by rw [LF_angle, if_neg (by rintro ⟨_, a, b, c⟩; omega)]
      have := hp u (tI l i) i
      unfold fl yF
      rw [h1]
      omega
    · rw [if_neg h1]
      by_cases h2 : tI l i = u
      · rw [if_pos h2]
        rw [sumN_single (j := fI l i) (by omega) (fun v _ hv => h0 v (by rintro ⟨a, b, c⟩; omega) (by rintro ⟨a, b, c⟩; omega))]
        have e2 : LF l T C lo hi u (fI l i) i = 0 := by rw [LF_angle, if_neg (by rintro ⟨_, a, b, c⟩; omega)]
        unfold fl yF
        rw [h2]
        omega
      · rw [if_neg h2]
        rw [sumN_congr (g := fun _ => 0) (fun v _ => h0 v (by rintro ⟨a, b, c⟩; omega) (by rintro ⟨a, b, c⟩; omega)), sumN_zero]
        rfl

/-- What has flowed from first to a node. -/
theorem need_zero (hB : Bnd (LF l T C lo hi)) (hr : FlowRel l.length (LF l T C lo hi) sum L') {u v : Nat} (h1 : ¬ (u = 11 ∧ v < 11)) (h2 : ¬ (v = 12 ∧ u < 11)) (h3 : ¬ (v = 11 ∧ u < 11)) (h4 : ¬ (u = 12 ∧ v < 11)) : fl (LF l T C lo hi) L' u v (-1) = 0 := by
  have hnn := (hr.bnd hB).nn
  have hp := hr.pair u v (-1)
  have e1 : LF l T C lo hi u v (-1) = 0 := by rw [LF_need, if_neg h1, if_neg h2]
  have e2 : LF l T C lo hi v u (-1) = 0 := by rw [LF_need, if_neg h3, if_neg h4]
  have := hnn u v (-1)
  have := hnn v u (-1)
  unfold fl
  omega
theorem fl_anti (hr : FlowRel l.length (LF l T C lo hi) sum L') (u v i : Int) : fl (LF l T C lo hi) L' u v i = - fl (LF l T C lo hi) L' v u i := by
  have := hr.pair u v i
  unfold fl; omega

theorem out_parts (u : Nat) : out l.length (LF l T C lo hi) u - out l.length L' u = sumN 13 (fun v => fl (LF l T C lo hi) L' u v (-1)) + sumN l.length (fun i => sumN 13 (fun v => fl (LF l T C lo hi) L' u v i)) := by
  unfold out
  rw [← sumN_sub]
  have e : ∀ v : Nat, v < 13 → sumN (l.length + 1) (fun k => LF l T C lo hi u v ((k : Int) - 1)) - sumN (l.length + 1) (fun k => L' u v ((k : Int) - 1)) = fl (LF l T C lo hi) L' u v (-1) + sumN l.length (fun i => fl (LF l T C lo hi) L' u v i) := by
    intro v _
    rw [← sumN_sub]
    exact sumN_shift l.length (fun i => fl (LF l T C lo hi) L' u v i)
  rw [sumN_congr e, sumN_add, sumN_swap]

/-- Conservation at a node. -/
theorem conserve (hN : NetOk l T C) (hB : Bnd (LF l T C lo hi)) (hr : FlowRel l.length (LF l T C lo hi) sum L') {u : Nat} (hu : u < 11) : fl (LF l T C lo hi) L' u 12 (-1) - fl (LF l T C lo hi) L' 11 u (-1) + sumN l.length (fun i => (if fI l i = u then yF l L' i else 0) - (if tI l i = u then yF l L' i else 0)) = 0 := by
  have h1 := hr.out u
  have h2 := out_parts (l := l) (T := T) (C := C) (lo := lo) (hi := hi) (L' := L') u
  rw [if_neg (by omega), if_neg (by omega)] at h1
  rw [sumN_congr (fun i hi' => fl_angle hN hB hr hi' (by omega)), sumN_two (a := 11) (b := 12) (by omega) (by omega) (by omega)
    (fun v _ h11 h12 => need_zero hB hr (by omega) (by omega) (by omega) (by omega))] at h2
  have h3 := fl_anti hr u (11 : Nat) (-1)
  have e11 : ((11 : Nat) : Int) = 11 := rfl
  have e12 : ((12 : Nat) : Int) = 12 := rfl
  rw [e11] at h3 h2
  rw [e12] at h2
  omega
theorem from_first (hN : NetOk l T C) (hB : Bnd (LF l T C lo hi)) (hr : FlowRel l.length (LF l T C lo hi) sum L') : sumN 11 (fun v => fl (LF l T C lo hi) L' 11 v (-1)) = sum := by
  have h1 := hr.out 11
  have h2 := out_parts (l := l) (T := T) (C := C) (lo := lo) (hi := hi) (L' := L') 11
  rw [if_pos rfl, if_neg (by omega)] at h1
  have e0 : sumN l.length (fun i => sumN 13 (fun v => fl (LF l T C lo hi) L' (11 : Nat) v i)) = 0 := by
    rw [sumN_congr (g := fun _ => 0) (fun i hi' => ?_), sumN_zero]
    rw [fl_angle hN hB hr hi' (by omega), if_neg (by have := hN.f10 i; omega), if_neg (by have := hN.t10 i; omega)]; rfl
  rw [e0] at h2
  have e1 : sumN 13 (fun v => fl (LF l T C lo hi) L' (11 : Nat) v (-1)) = sumN 11 (fun v => fl (LF l T C lo hi) L' 11 v (-1)) + fl (LF l T C lo hi) L' (11 : Nat) (11 : Nat) (-1) + fl (LF l T C lo hi) L' (11 : Nat) (12 : Nat) (-1) := rfl
  rw [e1, need_zero hB hr (by omega) (by omega) (by omega) (by omega), need_zero hB hr (by omega) (by omega) (by omega) (by omega)] at h2
  omega
theorem to_last (hN : NetOk l T C) (hB : Bnd (LF l T C lo hi)) (hr : FlowRel l.length (LF l T C lo hi) sum L') : sumN 11 (fun u => fl (LF l T C lo hi) L' u 12 (-1)) = sum := by
  have h1 := hr.out 12
  have h2 := out_parts (l := l) (T := T) (C := C) (lo := lo) (hi := hi) (L' := L') 12
  rw [if_neg (by omega), if_pos rfl] at h1
  have e0 : sumN l.length (fun i => sumN 13 (fun v => fl (LF l T C lo hi) L' (12 : Nat) v i)) = 0 := by
    rw [sumN_congr (g := fun _ => 0) (fun i hi' => ?_), sumN_zero]
    rw [fl_angle hN hB hr hi' (by omega), if_neg (by have := hN.f10 i; omega), if_neg (by have := hN.t10 i; omega)]; rfl
  rw [e0] at h2
  have e1 : sumN 13 (fun v => fl (LF l T C lo hi) L' (12 : Nat) v (-1)) = sumN 11 (fun v => fl (LF l T C lo hi) L' 12 v (-1)) + fl (LF l T C lo hi) L' (12 : Nat) (11 : Nat) (-1) + fl (LF l T C lo hi) L' (12 : Nat) (12 : Nat) (-1) := rfl
  rw [e1, need_zero hB hr (by omega) (by omega) (by omega) (by omega), need_zero hB hr (by omega) (by omega) (by omega) (by omega)] at h2
  have e2 : sumN 11 (fun v => fl (LF l T C lo hi) L' 12 v (-1)) = - sumN 11 (fun u => fl (LF l T C lo hi) L' u 12 (-1)) := by
    rw [← sumN_neg]
    exact sumN_congr fun v _ => fl_anti hr 12 v (-1)
  omega
end

/-- A truth, told by nodes. -/
def TruthN (l : List Ang) (T C : Nat) (lo hi x : Nat → Int) : Prop :=
  (∀ i, i < l.length → lo i ≤ x i ∧ x i ≤ hi i) ∧ ∀ u, u < 10 → sumN l.length (fun i => (if fI l i = u then x i else 0) - (if tI l i = u then x i else 0)) = g2 T C u
def cutHi (l : List Ang) (lo hi : Nat → Int) (P : Nat → Bool) : Int := sumN l.length (fun i => if P (fI l i) = true ∧ P (tI l i) = false then hi i else if P (tI l i) = true ∧ P (fI l i) = false then - lo i else 0)
def cutLo (l : List Ang) (lo hi : Nat → Int) (P : Nat → Bool) : Int := sumN l.length (fun i => if P (fI l i) = true ∧ P (tI l i) = false then lo i else if P (tI l i) = true ∧ P (fI l i) = false then - hi i else 0)
def cutDiff (T C : Nat) (P : Nat → Bool) : Int := sumN 10 (fun u => if P u = true then g2 T C u else 0)
/-- A cut denies, told by nodes. -/
def DenyN (l : List Ang) (T C : Nat) (lo hi : Nat → Int) (P : Nat → Bool) : Prop := P 10 = false ∧ (cutDiff T C P < cutLo l lo hi P ∨ cutHi l lo hi P < cutDiff T C P)

/-- Over the nodes of a set, each angle counts at its ends. -/
theorem ends_sum {l : List Ang} {T C : Nat} (hN : NetOk l T C) (P : Nat → Bool) (x : Nat → Int) : sumN 11 (fun u => if P u = true then sumN l.length (fun i => (if fI l i = u then x i else 0) - (if tI l i = u then x i else 0)) else 0) = sumN l.length (fun i => (if P (fI l i) = true then x i else 0) - (if P (tI l i) = true then x i else 0)) := by
  have e : ∀ u, u < 11 → (if P u = true then sumN l.length (fun i => (if fI l i = u then x i else 0) - (if tI l i = u then x i else 0)) else 0) = sumN l.length (fun i => if P u = true then (if fI l i = u then x i else 0) - (if tI l i = u then x i else 0) else 0) := by
    intro u _
    split
    · rfl
    · rw [sumN_zero]
  rw [sumN_congr e, sumN_swap]
  refine sumN_congr fun i _ => ?_
  have hf := hN.f10 i
  have ht := hN.t10 i
  have e2 : ∀ u, u < 11 → (if P u = true then (if fI l i = u then x i else 0) - (if tI l i = u then x i else 0) else 0) = (if u = fI l i then (if P (fI l i) = true then x i else 0) else 0) - (if u = tI l i then (if P (tI l i) = true then x i else 0) else 0) := by
    intro u _
    generalize fI l i = f
    generalize tI l i = t
    by_cases h1 : u = f
    · subst h1
      by_cases h2 : u = t
      · subst h2; cases P u <;> simp
      · have h3 : ¬ t = u := fun e => h2 e.symm
        cases P u <;> simp [h2, h3]
    · have h4 : ¬ f = u := fun e => h1 e.symm
      by_cases h2 : u = t
      · subst h2; cases P u <;> simp [h1, h4]
      · have h3 : ¬ t = u := fun e => h2 e.symm
        cases P u <;> simp [h1, h2, h3, h4]
  rw [sumN_congr e2, sumN_sub, sumN_single (j := fI l i) (by omega) (fun k _ hk => if_neg hk), sumN_single (j := tI l i) (by omega) (fun k _ hk => if_neg hk), if_pos rfl, if_pos rfl]

theorem deny_no_truth {l : List Ang} {T C : Nat} {lo hi x : Nat → Int} {P : Nat → Bool} (hN : NetOk l T C) (hd : DenyN l T C lo hi P) (ht : TruthN l T C lo hi x) : False := by
  obtain ⟨h10, hd⟩ := hd
  obtain ⟨hx, hu⟩ := ht
  have e1 : cutDiff T C P = sumN l.length (fun i => (if P (fI l i) = true then x i else 0) - (if P (tI l i) = true then x i else 0)) := by
    rw [← ends_sum hN P x]
    show sumN 10 (fun u => if P u = true then g2 T C u else 0) = sumN 10 _ + _
    simp only [h10]
    rw [if_neg (by decide), Int.add_zero]
    exact sumN_congr fun u hu' => by rw [hu u hu']
  have h1 : cutLo l lo hi P ≤ cutDiff T C P := by
    rw [e1]
    refine sumN_le fun i hi' => ?_
    have := hx i hi'
    cases P (fI l i) <;> cases P (tI l i) <;> simp <;> omega
  have h2 : cutDiff T C P ≤ cutHi l lo hi P := by
    rw [e1]
    refine sumN_le fun i hi' => ?_
    have := hx i hi'
    cases P (fI l i) <;> cases P (tI l i) <;> simp <;> omega
  omega
end Go.Proofs.Ytnhbplnhhloklaa
