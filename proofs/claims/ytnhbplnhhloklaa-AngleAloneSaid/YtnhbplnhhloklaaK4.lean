/- A net with one loose angle more. -/
import Derived.Test.YtnhbplnhhloklaaK3
namespace Go.Proofs.Ytnhbplnhhloklaa
open Go.RowKit

/-- A loose angle. -/
def looseA (r w : Int) : Ang := ⟨-1, -1, r, w⟩
section
variable {l : List Ang} {T C : Nat} {r wt : Int} {lo hi : Nat → Int}
theorem loose_f (i : Nat) : fI (l ++ [looseA r wt]) i = fI l i := by
  unfold fI
  by_cases h : i < l.length
  · rw [List.getElem?_append_left h]
  · rw [List.getElem?_append_right (by omega), List.getElem?_eq_none (l := l) (by omega)]
    by_cases e : i - l.length = 0
    · rw [e]; rfl
    · rw [List.getElem?_eq_none (by simp; omega)]
theorem loose_t (i : Nat) : tI (l ++ [looseA r wt]) i = tI l i := by
  unfold tI
  by_cases h : i < l.length
  · rw [List.getElem?_append_left h]
  · rw [List.getElem?_append_right (by omega), List.getElem?_eq_none (l := l) (by omega)]
    by_cases e : i - l.length = 0
    · rw [e]; rfl
    · rw [List.getElem?_eq_none (by simp; omega)]
theorem loose_10 : fI l l.length = 10 ∧ tI l l.length = 10 := by
  unfold fI tI
  rw [List.getElem?_eq_none (Nat.le_refl _)]
  exact ⟨rfl, rfl⟩
theorem loose_can : Can (l ++ [looseA r wt]) T C lo hi ↔ Can l T C lo hi ∧ lo l.length ≤ hi l.length := by
  have hlen : (l ++ [looseA r wt]).length = l.length + 1 := by simp
  have h10 := loose_10 (l := l)
  constructor
  · rintro ⟨x, h1, h2⟩
    rw [hlen] at h1 h2
    have h3 := h1 l.length (by omega)
    refine ⟨⟨x, fun i hi' => h1 i (by omega), fun u hu => ?_⟩, by omega⟩
    have h4 := h2 u hu
    simp only [loose_f, loose_t, sumN, h10.1, h10.2] at h4
    rw [← h4, if_neg (by omega)]
    omega
  · rintro ⟨⟨x, h1, h2⟩, h3⟩
    refine ⟨fun i => if i = l.length then lo l.length else x i, fun i hi' => ?_, fun u hu => ?_⟩
    · rw [hlen] at hi'
      by_cases e : i = l.length
      · subst e; simp only [if_true]; omega
      · simp only [if_neg e]; exact h1 i (by omega)
    · rw [hlen]
      simp only [loose_f, loose_t, sumN, h10.1, h10.2]
      rw [if_neg (show ¬ 10 = u by omega), ← h2 u hu]
      have : ∀ i, i < l.length → (fun i => (if fI l i = u then (if i = l.length then lo l.length else x i) else 0) - (if tI l i = u then (if i = l.length then lo l.length else x i) else 0)) i = (fun i => (if fI l i = u then x i else 0) - (if tI l i = u then x i else 0)) i := fun i hi' => by
        simp only [if_neg (show ¬ i = l.length by omega)]
      rw [sumN_congr this]
      omega
theorem loose_rm (e : Int) (out : List Int) (i : Nat) (hi' : i < l.length) : rmLo (l ++ [looseA r wt]) e out (l ++ [looseA r wt]).length i = rmLo l e out l.length i ∧ rmHi (l ++ [looseA r wt]) e out (l ++ [looseA r wt]).length i = rmHi l e out l.length i := by
  have h1 : i < (l ++ [looseA r wt]).length := by simp; omega
  simp only [rmLo, rmHi, hi', h1, if_true, List.getElem?_append_left hi']
  exact ⟨trivial, trivial⟩
theorem loose_rm_n (e : Int) (out : List Int) : rmLo (l ++ [looseA r wt]) e out (l ++ [looseA r wt]).length l.length = (if (l.length : Int) ∈ out then 0 else max 0 (r - e * wt)) ∧ rmHi (l ++ [looseA r wt]) e out (l ++ [looseA r wt]).length l.length = (if (l.length : Int) ∈ out then 40 else min 40 (r + e * wt)) := by
  have h1 : l.length < (l ++ [looseA r wt]).length := by simp
  have h2 : (l ++ [looseA r wt])[l.length]? = some (looseA r wt) := by simp
  simp only [rmLo, rmHi, h1, if_true, h2]
  exact ⟨rfl, rfl⟩
theorem loose_le {e : Int} (he : 0 ≤ e) (hr : 0 ≤ r ∧ r ≤ 40) (hw : 1 ≤ wt) (out : List Int) : rmLo (l ++ [looseA r wt]) e out (l ++ [looseA r wt]).length l.length ≤ rmHi (l ++ [looseA r wt]) e out (l ++ [looseA r wt]).length l.length := by
  have h := loose_rm_n (l := l) (r := r) (wt := wt) e out
  rw [h.1, h.2]
  have hm : 0 ≤ e * wt := Int.mul_nonneg he (by omega)
  generalize e * wt = z at *
  split <;> omega
theorem loose_canE {e : Int} (he : 0 ≤ e) (hr : 0 ≤ r ∧ r ≤ 40) (hw : 1 ≤ wt) (out : List Int) : CanE (l ++ [looseA r wt]) T C e out ↔ CanE l T C e out := by
  unfold CanE
  rw [loose_can]
  constructor
  · rintro ⟨h, _⟩
    exact can_mono h fun i hi' => by have := loose_rm (r := r) (wt := wt) e out i hi'; omega
  · intro h
    exact ⟨can_mono h fun i hi' => by have := loose_rm (r := r) (wt := wt) e out i hi'; omega, loose_le he hr hw out⟩
theorem loose_ends {a b : Int} (h : EndsAre (l ++ [looseA r wt]) T C lo hi l.length a b) : a = lo l.length ∧ b = hi l.length := by
  have key : ∀ c, Can (l ++ [looseA r wt]) T C (setAt lo l.length c) (setAt hi l.length c) := fun c => by
    rw [loose_can]
    refine ⟨can_mono (loose_can.1 h.ca).1 fun i hi' => ?_, by simp [setAt]⟩
    unfold setAt
    rw [if_neg (by omega), if_neg (by omega), if_neg (by omega), if_neg (by omega)]
    omega
  constructor
  · by_cases e : lo l.length < a
    · exact absurd (key _) (h.na _ (Int.le_refl _) e)
    · have := h.a0; omega
  · by_cases e : b < hi l.length
    · exact absurd (key _) (h.nb _ e (Int.le_refl _))
    · have := h.b0; omega
theorem loose_ctl {e : Int} : ¬ Ctl (l ++ [looseA r wt]) T C e l.length := by
  rintro ⟨x, y, h1, h2⟩
  have h3 := loose_ends h1
  have h4 := loose_rm_n (l := l) (r := r) (wt := wt) e [(l.length : Int)]
  rw [if_pos (List.mem_singleton.2 rfl), if_pos (List.mem_singleton.2 rfl)] at h4
  exact h2 ⟨h3.1.trans h4.1, h3.2.trans h4.2⟩
theorem loose_valid (hV : Valid l T C) (hn : l.length ≤ 11) (hr : 0 ≤ r ∧ r ≤ 40) (hw : 1 ≤ wt ∧ wt ≤ 3) : Valid (l ++ [looseA r wt]) T C := by
  refine ⟨by simp; omega, ⟨hV.net.hT, hV.net.hC, fun a ha => ?_⟩, fun a ha => ?_⟩
  · rcases List.mem_append.1 ha with h | h
    · exact hV.net.ok a h
    · rw [List.mem_singleton.1 h]; show (-1 : Int) ≤ -1 ∧ (-1 : Int) < T ∧ (-1 : Int) ≤ -1 ∧ (-1 : Int) < C; omega
  · rcases List.mem_append.1 ha with h | h
    · exact hV.reads a h
    · rw [List.mem_singleton.1 h]; exact ⟨hr.1, hr.2, hw.1, hw.2⟩
theorem least_same {l' : List Ang} (h : ∀ k : Nat, CanE l' T C k [] ↔ CanE l T C k []) {n s n' s' : Int} (h1 : LeastIs l T C n s) (h2 : LeastIs l' T C n' s') : n = n' ∧ s = s' := by
  rcases h1 with ⟨k, hk, hc, hno, rfl, rfl⟩ | ⟨hno, rfl, rfl⟩
  · rcases h2 with ⟨j, hj, hc2, hno2, rfl, rfl⟩ | ⟨hno2, _⟩
    · refine ⟨?_, rfl⟩
      by_cases e : k < j
      · exact absurd ((h k).2 hc) (hno2 k e)
      · by_cases e2 : j < k
        · exact absurd ((h j).1 hc2) (hno j e2)
        · omega
    · exact absurd ((h k).2 hc) (hno2 k hk)
  · rcases h2 with ⟨j, hj, hc2, _⟩ | ⟨_, rfl, rfl⟩
    · exact absurd ((h j).1 hc2) (hno j hj)
    · exact ⟨rfl, rfl⟩
end
/-- A row is pushed onto an own row, in a drawn region. -/
theorem step_pushN {t e : TypeId} {size bytes : Nat} {z : Value} (E : Elem t e size bytes z) (W : World) {ops : Array Oper} {o : Oper} {a : Act} {K : Act → World → Prop} {Q : Exit → Act → World → Prop} {E' : Prop} (hgd : o.guard = none) (s x : Operand)
    (ho : o.op = .call { callee := .builtin .append, args := #[s, x], argTypes := #[t, t] }) (base : Nat) (v : Value) (n : Nat) (xs : List Value) (hs : a.eval s = v) (hown : W.ownsRow base e size v n xs)
    (ad : Addr) (m c N : Nat) (news : List Value) (hx : a.eval x = .slice (some ad) m c) (hnews : ∀ j u, news[j]? = some u → W.cell? (ad.add j) = some u) (hl : news.length = m * size) (h1 : ∀ u ∈ news, u.oneCell' = true) (hm : 0 < m) (hN : n + m = N) (hn : N < 100000) (hbase : base ≤ W.heap.size)
    (h : ∀ g cap w', w'.ownsRow base e size (.slice (some ⟨g, 0, none⟩) N cap) N (xs ++ news) → Below base W w' → K (a.put o.dst (.slice (some ⟨g, 0, none⟩) N cap)) w') :
    if Region.wanted o (yielded ops a.tmps) = true then Oper.wp Try.prog o a W K Q else E' := by
  subst hN
  obtain ⟨i, hi, hz0, hz1, hz2⟩ := E.info
  have := E.small
  refine step_append_lies W hgd s x t ho base e i z size bytes E.und hi hz0 hz1 hz2 E.zs E.pos v n xs hs hown ad m c news hx hl hnews h1 hm (by simp only [maxLen]; omega) ?_ hbase _ rfl ?_
  · have h2 : (n + m) * bytes ≤ (n + m) * 100 := Nat.mul_le_mul_left _ this
    omega
  · intro g cap w1 how hgrow _ _
    exact h g cap _ how ((Below.refl base W).grown hgrow hbase (fun k hk => (hown.lt k hk).1))
end Go.Proofs.Ytnhbplnhhloklaa
