/- The first map of a flow, in closed form. -/
import Derived.Test.YtnhbplnhhloklaaM1
namespace Go.Proofs.Ytnhbplnhhloklaa

def fI (l : List Ang) (i : Nat) : Nat := match l[i]? with | some a => frN a | none => 10
def tI (l : List Ang) (i : Nat) : Nat := match l[i]? with | some a => toN a | none => 10

/-- What is asked of a net. -/
structure NetOk (l : List Ang) (T C : Nat) : Prop where
  hT : T ≤ 5
  hC : C ≤ 5
  ok : ∀ a ∈ l, -1 ≤ a.t ∧ a.t < T ∧ -1 ≤ a.c ∧ a.c < C
theorem NetOk.f {l : List Ang} {T C : Nat} (h : NetOk l T C) (i : Nat) : fI l i < T ∨ fI l i = 10 := by
  unfold fI
  split
  · rename_i a ha
    have := h.ok a (List.mem_of_getElem? ha)
    unfold frN nodeZ; split <;> omega
  · right; rfl
theorem NetOk.t {l : List Ang} {T C : Nat} (h : NetOk l T C) (i : Nat) : (5 ≤ tI l i ∧ tI l i < 5 + C) ∨ tI l i = 10 := by
  unfold tI
  split
  · rename_i a ha
    have := h.ok a (List.mem_of_getElem? ha)
    unfold toN nodeZ; split <;> omega
  · right; rfl
theorem NetOk.f10 {l : List Ang} {T C : Nat} (h : NetOk l T C) (i : Nat) : fI l i ≤ 10 := by have := h.f i; have := h.hT; omega
theorem NetOk.t10 {l : List Ang} {T C : Nat} (h : NetOk l T C) (i : Nat) : tI l i ≤ 10 := by have := h.t i; have := h.hC; omega

theorem gA_sum {l : List Ang} {lo base : Nat → Int} : ∀ {k : Nat}, k ≤ l.length → ∀ j, gA l lo base k j = base j - sumN k (fun i => if fI l i = j then lo i else 0) + sumN k (fun i => if tI l i = j then lo i else 0)
  | 0, _, j => by simp [gA, sumN]
  | k + 1, hk, j => by
    have ha : l[k]? = some l[k] := by simp
    have ih := gA_sum (l := l) (lo := lo) (base := base) (k := k) (by omega)
    have ef : fI l k = frN l[k] := by simp only [fI, ha]
    have et : tI l k = toN l[k] := by simp only [tI, ha]
    rw [gA_step ha]
    simp only [sumN, setAt, ef, et]
    rw [ih j, ih (toN l[k]), ih (frN l[k])]
    generalize frN l[k] = f
    generalize toN l[k] = t
    by_cases h1 : j = t
    · subst h1
      by_cases h2 : j = f
      · subst h2; simp only [if_true]; omega
      · simp only [if_true, h2, if_false]; omega
    · by_cases h2 : j = f
      · subst h2; simp only [if_true, h1, if_false]; omega
      · simp only [h1, h2, if_false]; omega

theorem lA_none {l : List Ang} {lo hi : Nat → Int} : ∀ {k : Nat} {u v i : Int}, i < 0 → lA l lo hi k u v i = 0
  | 0, _, _, _, _ => rfl
  | k + 1, u, v, i, h => by
    cases ha : l[k]? with
    | none => simp only [lA, ha]; exact lA_none h
    | some a =>
      rw [lA_step ha]
      split
      · exact lA_none h
      · unfold upd
        rw [if_neg (by rintro ⟨_, _, h2⟩; omega)]
        exact lA_none h
theorem lA_at {l : List Ang} {lo hi : Nat → Int} : ∀ {k : Nat}, k ≤ l.length → ∀ (u v i : Nat), lA l lo hi k u v i = if i < k ∧ fI l i = u ∧ tI l i = v ∧ u ≠ v then hi i - lo i else 0
  | 0, _, u, v, i => by rw [if_neg (by omega)]; rfl
  | k + 1, hk, u, v, i => by
    have ha : l[k]? = some l[k] := by simp
    have ih := lA_at (l := l) (lo := lo) (hi := hi) (k := k) (by omega) u v i
    have ef : fI l k = frN l[k] := by simp only [fI, ha]
    have et : tI l k = toN l[k] := by simp only [tI, ha]
    rw [lA_step ha, ← ef, ← et]
    by_cases hi : i = k
    · subst hi
      rw [if_neg (by omega)] at ih
      split
      · rename_i h
        rw [ih, if_neg (by omega)]
      · rename_i h
        unfold upd
        split
        · rename_i h2
          rw [if_pos (by omega)]
        · rename_i h2
          rw [ih, if_neg (by omega)]
    · have e : (i < k + 1 ∧ fI l i = u ∧ tI l i = v ∧ u ≠ v) = (i < k ∧ fI l i = u ∧ tI l i = v ∧ u ≠ v) := by apply propext; omega
      simp only [e]
      split
      · exact ih
      · unfold upd
        rw [if_neg (by rintro ⟨_, _, h⟩; omega)]
        exact ih

theorem lN_other {L : LL} {g : Nat → Int} : ∀ {k : Nat} {u v i : Int}, i ≠ -1 → lN L g k u v i = L u v i
  | 0, _, _, _, _ => rfl
  | k + 1, u, v, i, h => by
    have ih := lN_other (L := L) (g := g) (k := k) (u := u) (v := v) h
    simp only [lN, needsL]
    split
    · unfold upd; rw [if_neg (by rintro ⟨_, _, h2⟩; exact h h2)]; exact ih
    · unfold upd; rw [if_neg (by rintro ⟨_, _, h2⟩; exact h h2)]; exact ih
theorem lN_at {L : LL} {g : Nat → Int} (hL : ∀ u v, L u v (-1) = 0) : ∀ {k : Nat}, k ≤ 11 → ∀ u v : Nat, lN L g k u v (-1) = if u = 11 ∧ v < k then max 0 (g v) else if v = 12 ∧ u < k then max 0 (- g u) else 0
  | 0, _, u, v => by rw [if_neg (by omega), if_neg (by omega)]; exact hL _ _
  | k + 1, hk, u, v => by
    have ih := lN_at (L := L) (g := g) hL (k := k) (by omega)
    have i1 := ih 11 k
    have i2 := ih k 12
    have i3 := ih u v
    rw [if_neg (by omega), if_neg (by omega)] at i1
    rw [if_neg (by omega), if_neg (by omega)] at i2
    replace i1 : lN L g k 11 k (-1) = 0 := i1
    replace i2 : lN L g k k 12 (-1) = 0 := i2
    simp only [lN, needsL]
    by_cases e1 : u = k
    · subst e1
      by_cases e2 : v = u
      · subst e2
        split <;> unfold upd <;> split <;> (try rw [i3]) <;> (repeat' split) <;> omega
      · split <;> unfold upd <;> split <;> (try rw [i3]) <;> (repeat' split) <;> omega
    · by_cases e2 : v = k
      · subst e2
        split <;> unfold upd <;> split <;> (try rw [i3]) <;> (repeat' split) <;> omega
      · split <;> unfold upd <;> split <;> (try rw [i3]) <;> (repeat' split) <;> omega

section
variable {l : List Ang} {T C : Nat} {lo hi : Nat → Int}
theorem LF_angle (u v i : Nat) : LF l T C lo hi u v i = if i < l.length ∧ fI l i = u ∧ tI l i = v ∧ u ≠ v then hi i - lo i else 0 := by
  unfold LF
  rw [lN_other (by omega), lA_at (Nat.le_refl _)]
theorem LF_need (u v : Nat) : LF l T C lo hi u v (-1) = if u = 11 ∧ v < 11 then max 0 (gF l T C lo v) else if v = 12 ∧ u < 11 then max 0 (- gF l T C lo u) else 0 := by
  unfold LF
  rw [lN_at (fun u v => lA_none (by omega)) (Nat.le_refl _)]
theorem n10_sum (g : Nat → Int) : ∀ k, n10 g k = - sumN k g
  | 0 => rfl
  | k + 1 => by simp only [n10, sumN, n10_sum g k]; omega
theorem dueN_sum (g : Nat → Int) : ∀ k, dueN g k = sumN k (fun j => max 0 (g j))
  | 0 => rfl
  | k + 1 => by simp only [dueN, sumN, dueN_sum g k]
theorem gF_zero : sumN 11 (gF l T C lo) = 0 := by
  have e : sumN 10 (gF l T C lo) = sumN 10 (gA l lo (g2 T C) l.length) := sumN_congr fun j hj => by
    unfold gF setAt; rw [if_neg (by omega)]
  show sumN 10 (gF l T C lo) + gF l T C lo 10 = 0
  rw [e]
  unfold gF setAt
  rw [if_pos rfl, n10_sum]; omega
theorem gF_at {u : Nat} (hu : u ≠ 10) : gF l T C lo u = g2 T C u - sumN l.length (fun i => if fI l i = u then lo i else 0) + sumN l.length (fun i => if tI l i = u then lo i else 0) := by
  unfold gF setAt
  rw [if_neg hu, gA_sum (Nat.le_refl _)]
end
end Go.Proofs.Ytnhbplnhhloklaa
