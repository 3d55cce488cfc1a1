/- Plain laws of the chapter's net. -/
import Derived.Test.YtnhbplnhhloklaaL1
import Derived.Test.YtnhbplnhhloklaaD2
namespace Go.Proofs.Ytnhbplnhhloklaa

def sixL : List Ang := [⟨0, -1, 10, 1⟩, ⟨0, -1, 12, 1⟩, ⟨0, 0, 17, 1⟩, ⟨1, 0, 18, 1⟩, ⟨-1, 0, 36, 1⟩, ⟨1, -1, 20, 1⟩]
theorem six_fault : faultN sixL 2 1 = 0 := by decide
theorem six_asked {err : Int} (h : 0 ≤ err ∧ err ≤ 40) : askedN sixL 2 1 err = 0 := by
  unfold askedN; rw [if_neg (by rw [six_fault]; decide), if_pos h]
theorem six_valid : Valid sixL 2 1 := by
  obtain ⟨T, C, h1, h2, h⟩ := valid_of six_fault
  have e1 : T = 2 := by omega
  have e2 : C = 1 := by omega
  rw [e1, e2] at h; exact h
theorem six_truth {lo hi x : Nat → Int} : TruthN sixL 2 1 lo hi x ↔ (∀ i, i < 6 → lo i ≤ x i ∧ x i ≤ hi i) ∧ x 0 + x 1 + x 2 = 36 ∧ x 3 + x 5 = 36 ∧ x 2 + x 3 + x 4 = 72 := by
  have hl : sixL.length = 6 := rfl
  unfold TruthN
  rw [hl]
  have f0 : fI sixL 0 = 0 := rfl
  have f1 : fI sixL 1 = 0 := rfl
  have f2 : fI sixL 2 = 0 := rfl
  have f3 : fI sixL 3 = 1 := rfl
  have f4 : fI sixL 4 = 10 := rfl
  have f5 : fI sixL 5 = 1 := rfl
  have t0 : tI sixL 0 = 10 := rfl
  have t1 : tI sixL 1 = 10 := rfl
  have t2 : tI sixL 2 = 5 := rfl
  have t3 : tI sixL 3 = 5 := rfl
  have t4 : tI sixL 4 = 5 := rfl
  have t5 : tI sixL 5 = 10 := rfl
  refine and_congr_right fun _ => ?_
  simp only [sumN, f0, f1, f2, f3, f4, f5, t0, t1, t2, t3, t4, t5]
  constructor
  · intro h
    have h0 := h 0 (by omega)
    have h1 := h 1 (by omega)
    have h5 := h 5 (by omega)
    simp [g2, g1] at h0 h1 h5
    omega
  · rintro ⟨h1, h2, h3⟩ u hu
    have : u = 0 ∨ u = 1 ∨ u = 2 ∨ u = 3 ∨ u = 4 ∨ u = 5 ∨ u = 6 ∨ u = 7 ∨ u = 8 ∨ u = 9 := by omega
    rcases this with rfl | rfl | rfl | rfl | rfl | rfl | rfl | rfl | rfl | rfl <;> simp [g2, g1] <;> omega

/-- The rooms of the net. -/
def six2Lo : Nat → Int := rmLo sixL 2 [] 6
def six2Hi : Nat → Int := rmHi sixL 2 [] 6
theorem six2_0 : six2Lo 0 = 8 ∧ six2Hi 0 = 12 := by decide
theorem six2_1 : six2Lo 1 = 10 ∧ six2Hi 1 = 14 := by decide
theorem six2_2 : six2Lo 2 = 15 ∧ six2Hi 2 = 19 := by decide
theorem six2_3 : six2Lo 3 = 16 ∧ six2Hi 3 = 20 := by decide
theorem six2_4 : six2Lo 4 = 34 ∧ six2Hi 4 = 38 := by decide
theorem six2_5 : six2Lo 5 = 18 ∧ six2Hi 5 = 22 := by decide

def vec (a b c d e f : Int) : Nat → Int
  | 0 => a
  | 1 => b
  | 2 => c
  | 3 => d
  | 4 => e
  | _ => f
theorem six_can {lo hi : Nat → Int} (a b c d e f : Int) (h0 : lo 0 ≤ a ∧ a ≤ hi 0) (h1 : lo 1 ≤ b ∧ b ≤ hi 1) (h2 : lo 2 ≤ c ∧ c ≤ hi 2) (h3 : lo 3 ≤ d ∧ d ≤ hi 3) (h4 : lo 4 ≤ e ∧ e ≤ hi 4) (h5 : lo 5 ≤ f ∧ f ≤ hi 5)
    (s1 : a + b + c = 36) (s2 : d + f = 36) (s3 : c + d + e = 72) : Can sixL 2 1 lo hi := by
  refine ⟨vec a b c d e f, six_truth.2 ⟨fun i hi' => ?_, s1, s2, s3⟩⟩
  have : i = 0 ∨ i = 1 ∨ i = 2 ∨ i = 3 ∨ i = 4 ∨ i = 5 := by omega
  rcases this with rfl | rfl | rfl | rfl | rfl | rfl
  · exact h0
  · exact h1
  · exact h2
  · exact h3
  · exact h4
  · exact h5
theorem six_cannot {lo hi : Nat → Int} (h : ∀ a b c d e f : Int, (lo 0 ≤ a ∧ a ≤ hi 0) → (lo 1 ≤ b ∧ b ≤ hi 1) → (lo 2 ≤ c ∧ c ≤ hi 2) → (lo 3 ≤ d ∧ d ≤ hi 3) → (lo 4 ≤ e ∧ e ≤ hi 4) → (lo 5 ≤ f ∧ f ≤ hi 5) → a + b + c = 36 → d + f = 36 → c + d + e = 72 → False) : ¬ Can sixL 2 1 lo hi := by
  rintro ⟨x, hx⟩
  obtain ⟨hr, s1, s2, s3⟩ := six_truth.1 hx
  exact h _ _ _ _ _ _ (hr 0 (by omega)) (hr 1 (by omega)) (hr 2 (by omega)) (hr 3 (by omega)) (hr 4 (by omega)) (hr 5 (by omega)) s1 s2 s3

theorem six_can2 : CanE sixL 2 1 2 [] := by
  show Can sixL 2 1 six2Lo six2Hi
  have h0 := six2_0; have h1 := six2_1; have h2 := six2_2; have h3 := six2_3; have h4 := six2_4; have h5 := six2_5
  exact six_can 8 12 16 18 38 18 (by omega) (by omega) (by omega) (by omega) (by omega) (by omega) (by omega) (by omega) (by omega)
theorem six_not1 : ¬ CanE sixL 2 1 1 [] := by
  refine six_cannot fun a b c d e f h0 h1 h2 h3 h4 h5 s1 s2 s3 => ?_
  have r0 : rmLo sixL 1 [] sixL.length 0 = 9 ∧ rmHi sixL 1 [] sixL.length 0 = 11 := by decide
  have r1 : rmLo sixL 1 [] sixL.length 1 = 11 ∧ rmHi sixL 1 [] sixL.length 1 = 13 := by decide
  have r2 : rmLo sixL 1 [] sixL.length 2 = 16 ∧ rmHi sixL 1 [] sixL.length 2 = 18 := by decide
  have r3 : rmLo sixL 1 [] sixL.length 3 = 17 ∧ rmHi sixL 1 [] sixL.length 3 = 19 := by decide
  have r4 : rmLo sixL 1 [] sixL.length 4 = 35 ∧ rmHi sixL 1 [] sixL.length 4 = 37 := by decide
  have r5 : rmLo sixL 1 [] sixL.length 5 = 19 ∧ rmHi sixL 1 [] sixL.length 5 = 21 := by decide
  omega
theorem six_not0 : ¬ CanE sixL 2 1 0 [] := by
  refine six_cannot fun a b c d e f h0 h1 h2 h3 h4 h5 s1 s2 s3 => ?_
  have r0 : rmLo sixL 0 [] sixL.length 0 = 10 ∧ rmHi sixL 0 [] sixL.length 0 = 10 := by decide
  have r1 : rmLo sixL 0 [] sixL.length 1 = 12 ∧ rmHi sixL 0 [] sixL.length 1 = 12 := by decide
  have r2 : rmLo sixL 0 [] sixL.length 2 = 17 ∧ rmHi sixL 0 [] sixL.length 2 = 17 := by decide
  omega
theorem six_least {n s : Int} (h : LeastIs sixL 2 1 n s) : n = 2 ∧ s = 0 := by
  rcases h with ⟨k, hk, hc, hno, rfl, rfl⟩ | ⟨hno, _⟩
  · refine ⟨?_, rfl⟩
    have h2 : k = 0 ∨ k = 1 ∨ k = 2 ∨ 2 < k := by omega
    rcases h2 with rfl | rfl | rfl | h2
    · exact absurd hc six_not0
    · exact absurd hc six_not1
    · rfl
    · exact absurd six_can2 (hno 2 h2)
  · exact absurd six_can2 (hno 2 (by omega))

/-! ### the bounds -/
theorem six_ends0 : EndsAre sixL 2 1 six2Lo six2Hi 0 8 10 := by
  have h0 := six2_0; have h1 := six2_1; have h2 := six2_2; have h3 := six2_3; have h4 := six2_4; have h5 := six2_5
  refine ⟨by omega, by omega, ?_, ?_, fun c hc1 hc2 => by omega, fun c hc1 hc2 => six_cannot fun a b c' d e f q0 q1 q2 q3 q4 q5 s1 s2 s3 => ?_⟩
  · exact six_can 8 12 16 18 38 18 (by simp [setAt]) (by simp [setAt]; omega) (by simp [setAt]; omega) (by simp [setAt]; omega) (by simp [setAt]; omega) (by simp [setAt]; omega) (by omega) (by omega) (by omega)
  · exact six_can 10 10 16 18 38 18 (by simp [setAt]) (by simp [setAt]; omega) (by simp [setAt]; omega) (by simp [setAt]; omega) (by simp [setAt]; omega) (by simp [setAt]; omega) (by omega) (by omega) (by omega)
  · simp [setAt] at q0 q1 q2 q3 q4 q5
    omega
theorem six_ends4 : EndsAre sixL 2 1 six2Lo six2Hi 4 36 38 := by
  have h0 := six2_0; have h1 := six2_1; have h2 := six2_2; have h3 := six2_3; have h4 := six2_4; have h5 := six2_5
  refine ⟨by omega, by omega, ?_, ?_, fun c hc1 hc2 => six_cannot fun a b c' d e f q0 q1 q2 q3 q4 q5 s1 s2 s3 => ?_, fun c hc1 hc2 => by omega⟩
  · exact six_can 8 10 18 18 36 18 (by simp [setAt]; omega) (by simp [setAt]; omega) (by simp [setAt]; omega) (by simp [setAt]; omega) (by simp [setAt]) (by simp [setAt]; omega) (by omega) (by omega) (by omega)
  · exact six_can 10 10 16 18 38 18 (by simp [setAt]; omega) (by simp [setAt]; omega) (by simp [setAt]; omega) (by simp [setAt]; omega) (by simp [setAt]) (by simp [setAt]; omega) (by omega) (by omega) (by omega)
  · simp [setAt] at q0 q1 q2 q3 q4 q5
    omega
theorem six_ends5 : EndsAre sixL 2 1 six2Lo six2Hi 5 18 20 := by
  have h0 := six2_0; have h1 := six2_1; have h2 := six2_2; have h3 := six2_3; have h4 := six2_4; have h5 := six2_5
  refine ⟨by omega, by omega, ?_, ?_, fun c hc1 hc2 => by omega, fun c hc1 hc2 => six_cannot fun a b c' d e f q0 q1 q2 q3 q4 q5 s1 s2 s3 => ?_⟩
  · exact six_can 10 10 16 18 38 18 (by simp [setAt]; omega) (by simp [setAt]; omega) (by simp [setAt]; omega) (by simp [setAt]; omega) (by simp [setAt]; omega) (by simp [setAt]) (by omega) (by omega) (by omega)
  · exact six_can 8 10 18 16 38 20 (by simp [setAt]; omega) (by simp [setAt]; omega) (by simp [setAt]; omega) (by simp [setAt]; omega) (by simp [setAt]; omega) (by simp [setAt]) (by omega) (by omega) (by omega)
  · simp [setAt] at q0 q1 q2 q3 q4 q5
    omega

/-! ### bounds are there where there is a truth -/
theorem least_int {P : Int → Prop} : ∀ (d : Nat) (a x : Int), (x - a).toNat = d → a ≤ x → P x → ∃ y, a ≤ y ∧ y ≤ x ∧ P y ∧ ∀ c, a ≤ c → c < y → ¬ P c := by
  intro d
  induction d with
  | zero => intro a x hd hax hx; exact ⟨x, by omega, by omega, hx, fun c h1 h2 => by omega⟩
  | succ d ih =>
    intro a x hd hax hx
    by_cases ha : P a
    · exact ⟨a, by omega, by omega, ha, fun c h1 h2 => by omega⟩
    · obtain ⟨y, h1, h2, h3, h4⟩ := ih (a + 1) x (by omega) (by omega) hx
      refine ⟨y, by omega, h2, h3, fun c hc1 hc2 => ?_⟩
      by_cases e : c = a
      · rw [e]; exact ha
      · exact h4 c (by omega) hc2
theorem ends_exist {l : List Ang} {T C : Nat} {lo hi : Nat → Int} {i : Nat} (hi' : i < l.length) (h : Can l T C lo hi) : ∃ a b, EndsAre l T C lo hi i a b := by
  obtain ⟨x0, hx0⟩ := h
  have h0 := hx0.1 i hi'
  have hc : Can l T C (setAt lo i (x0 i)) (setAt hi i (x0 i)) := ⟨x0, hx0.narrow i⟩
  obtain ⟨a, a1, a2, a3, a4⟩ := least_int (P := fun y => Can l T C (setAt lo i y) (setAt hi i y)) _ (lo i) (x0 i) rfl h0.1 hc
  obtain ⟨b, b1, b2, b3, b4⟩ := least_int (P := fun y => Can l T C (setAt lo i (-y)) (setAt hi i (-y))) _ (- hi i) (- x0 i) rfl (by omega) (by simpa using hc)
  refine ⟨a, -b, by omega, by omega, a3, b3, a4, fun c hc1 hc2 => ?_⟩
  have := b4 (-c) (by omega) (by omega)
  simpa using this
theorem sorted_ext : ∀ {xs ys : List Nat}, xs.Pairwise (· < ·) → ys.Pairwise (· < ·) → (∀ i, i ∈ xs ↔ i ∈ ys) → xs = ys
  | [], [], _, _, _ => rfl
  | [], y :: _, _, _, h => by have := (h y).2 (List.mem_cons_self ..); cases this
  | x :: _, [], _, _, h => by have := (h x).1 (List.mem_cons_self ..); cases this
  | x :: r, y :: s, hx, hy, h => by
    have hx1 := List.pairwise_cons.1 hx
    have hy1 := List.pairwise_cons.1 hy
    have e : x = y := by
      have h1 := (h x).1 (List.mem_cons_self ..)
      have h2 := (h y).2 (List.mem_cons_self ..)
      rcases List.mem_cons.1 h1 with h1 | h1
      · exact h1
      · rcases List.mem_cons.1 h2 with h2 | h2
        · exact h2.symm
        · have := hy1.1 x h1; have := hx1.1 y h2; omega
    subst e
    have : r = s := sorted_ext hx1.2 hy1.2 fun i => by
      constructor
      · intro hi
        rcases List.mem_cons.1 ((h i).1 (List.mem_cons_of_mem _ hi)) with h1 | h1
        · have := hx1.1 i hi; omega
        · exact h1
      · intro hi
        rcases List.mem_cons.1 ((h i).2 (List.mem_cons_of_mem _ hi)) with h1 | h1
        · have := hy1.1 i hi; omega
        · exact h1
    rw [this]

/-! ### what is controlled; what is left out -/
theorem six_bnd {err : Int} {out : List Int} {i : Nat} (hi : i < 6) : ((i : Int) ∈ out ∧ rmLo sixL err out 6 i = 0 ∧ rmHi sixL err out 6 i = 40) ∨ ((i : Int) ∉ out ∧ rmLo sixL err out 6 i = rmLo sixL err [] 6 i ∧ rmHi sixL err out 6 i = rmHi sixL err [] 6 i) := by
  have ha : sixL[i]? = some (sixL[i]'(by exact hi)) := List.getElem?_eq_getElem _
  by_cases h : (i : Int) ∈ out
  · refine .inl ⟨h, ?_, ?_⟩
    · simp only [rmLo, hi, if_true, ha, h]
    · simp only [rmHi, hi, if_true, ha, h]
  · refine .inr ⟨h, ?_, ?_⟩
    · simp only [rmLo, hi, if_true, ha, h, if_false, List.not_mem_nil]
    · simp only [rmHi, hi, if_true, ha, h, if_false, List.not_mem_nil]
theorem six_ctl (i : Nat) (hi : i < 6) : Ctl sixL 2 1 2 i := by
  obtain ⟨x, y, he⟩ := ends_exist (i := i) (by exact hi) (canE_out (out := [(i : Int)]) six_can2)
  refine ⟨x, y, he, ?_⟩
  rintro ⟨rfl, _⟩
  refine absurd he.ca (six_cannot fun a b c d e f q0 q1 q2 q3 q4 q5 s1 s2 s3 => ?_)
  have hl : sixL.length = 6 := rfl
  rw [hl] at q0 q1 q2 q3 q4 q5
  have h0 := six2_0; have h1 := six2_1; have h2 := six2_2; have h3 := six2_3; have h4 := six2_4; have h5 := six2_5
  unfold six2Lo six2Hi at h0 h1 h2 h3 h4 h5
  have r0 := six_bnd (err := 2) (out := [(i : Int)]) (i := 0) (by omega)
  have r1 := six_bnd (err := 2) (out := [(i : Int)]) (i := 1) (by omega)
  have r2 := six_bnd (err := 2) (out := [(i : Int)]) (i := 2) (by omega)
  have r3 := six_bnd (err := 2) (out := [(i : Int)]) (i := 3) (by omega)
  have r4 := six_bnd (err := 2) (out := [(i : Int)]) (i := 4) (by omega)
  have r5 := six_bnd (err := 2) (out := [(i : Int)]) (i := 5) (by omega)
  simp only [List.mem_singleton] at r0 r1 r2 r3 r4 r5
  have : i = 0 ∨ i = 1 ∨ i = 2 ∨ i = 3 ∨ i = 4 ∨ i = 5 := by omega
  rcases this with rfl | rfl | rfl | rfl | rfl | rfl <;> simp [setAt] at q0 q1 q2 q3 q4 q5 <;> simp at r0 r1 r2 r3 r4 r5 <;> omega
theorem six_out {zs : List Nat} (h : CanE sixL 2 1 0 (outI zs)) : ∃ a b c d e f : Int, (0 ∈ zs ∨ a = 10) ∧ (1 ∈ zs ∨ b = 12) ∧ (2 ∈ zs ∨ c = 17) ∧ (3 ∈ zs ∨ d = 18) ∧ (4 ∈ zs ∨ e = 36) ∧ (5 ∈ zs ∨ f = 20) ∧ (0 ≤ a ∧ 0 ≤ b ∧ 0 ≤ c ∧ 0 ≤ d ∧ 0 ≤ e ∧ 0 ≤ f) ∧ a + b + c = 36 ∧ d + f = 36 ∧ c + d + e = 72 := by
  obtain ⟨x, hx⟩ := h
  obtain ⟨hr, s1, s2, s3⟩ := six_truth.1 hx
  have hl : sixL.length = 6 := rfl
  rw [hl] at hr
  have key : ∀ i v, i < 6 → rmLo sixL 0 [] 6 i = v → rmHi sixL 0 [] 6 i = v → 0 ≤ v → (i ∈ zs ∨ x i = v) ∧ 0 ≤ x i := by
    intro i v hi h1 h2 h3
    have h4 := hr i hi
    rcases six_bnd (err := 0) (out := outI zs) hi with ⟨h5, h6, h7⟩ | ⟨h5, h6, h7⟩
    · rw [h6, h7] at h4
      refine ⟨.inl ?_, h4.1⟩
      unfold outI at h5
      obtain ⟨j, hj, e⟩ := List.mem_map.1 h5
      have : j = i := by omega
      rw [← this]; exact hj
    · rw [h6, h7, h1, h2] at h4
      exact ⟨.inr (by omega), by omega⟩
  have k0 := key 0 10 (by omega) (by decide) (by decide) (by omega)
  have k1 := key 1 12 (by omega) (by decide) (by decide) (by omega)
  have k2 := key 2 17 (by omega) (by decide) (by decide) (by omega)
  have k3 := key 3 18 (by omega) (by decide) (by decide) (by omega)
  have k4 := key 4 36 (by omega) (by decide) (by decide) (by omega)
  have k5 := key 5 20 (by omega) (by decide) (by decide) (by omega)
  exact ⟨x 0, x 1, x 2, x 3, x 4, x 5, k0.1, k1.1, k2.1, k3.1, k4.1, k5.1, ⟨k0.2, k1.2, k2.2, k3.2, k4.2, k5.2⟩, s1, s2, s3⟩
theorem six_can023 : CanE sixL 2 1 0 (outI [0, 2, 3]) := by
  have e : outI [0, 2, 3] = [0, 2, 3] := rfl
  rw [e]
  have r0 : rmLo sixL 0 [0, 2, 3] sixL.length 0 = 0 ∧ rmHi sixL 0 [0, 2, 3] sixL.length 0 = 40 := by decide
  have r1 : rmLo sixL 0 [0, 2, 3] sixL.length 1 = 12 ∧ rmHi sixL 0 [0, 2, 3] sixL.length 1 = 12 := by decide
  have r2 : rmLo sixL 0 [0, 2, 3] sixL.length 2 = 0 ∧ rmHi sixL 0 [0, 2, 3] sixL.length 2 = 40 := by decide
  have r3 : rmLo sixL 0 [0, 2, 3] sixL.length 3 = 0 ∧ rmHi sixL 0 [0, 2, 3] sixL.length 3 = 40 := by decide
  have r4 : rmLo sixL 0 [0, 2, 3] sixL.length 4 = 36 ∧ rmHi sixL 0 [0, 2, 3] sixL.length 4 = 36 := by decide
  have r5 : rmLo sixL 0 [0, 2, 3] sixL.length 5 = 20 ∧ rmHi sixL 0 [0, 2, 3] sixL.length 5 = 20 := by decide
  exact six_can 4 12 20 16 36 20 (by omega) (by omega) (by omega) (by omega) (by omega) (by omega) (by omega) (by omega) (by omega)
theorem six_leave {ys : List Nat} (h : OutIs sixL 2 1 0 ys) : ys = [0, 2, 3] := by
  have hx : Ext 6 0 ys.length ys := h.ext
  have hE : Ext sixL.length 0 [0, 2, 3].length [0, 2, 3] := ⟨rfl, by decide, by decide⟩
  have hs := h.short _ hE six_can023
  have hc := six_out h.can
  obtain ⟨a, b, c, d, e, f, k0, k1, k2, k3, k4, k5, k6, s1, s2, s3⟩ := hc
  have hf := h.first _ hE six_can023
  match ys, hx, hs, hf, k0, k1, k2, k3, k4, k5 with
  | [], _, _, _, k0, k1, k2, k3, k4, k5 => simp at k0 k1 k2 k3 k4 k5; omega
  | [p], hx, _, _, k0, k1, k2, k3, k4, k5 => simp at k0 k1 k2 k3 k4 k5; omega
  | [p, q], hx, _, _, k0, k1, k2, k3, k4, k5 =>
    have hpq := (List.pairwise_cons.1 hx.up).1 q (by simp)
    simp at k0 k1 k2 k3 k4 k5
    omega
  | [p, q, r], hx, _, hf, k0, k1, k2, k3, k4, k5 =>
    have hpq := (List.pairwise_cons.1 hx.up).1 q (by simp)
    have hqr := (List.pairwise_cons.1 (List.pairwise_cons.1 hx.up).2).1 r (by simp)
    have hf2 := hf rfl
    simp only [lexLt, or_false, and_false] at hf2
    simp at k0 k1 k2 k3 k4 k5
    have hp : p = 0 := by omega
    subst hp
    have hq : q = 1 ∨ q = 2 := by omega
    rcases hq with rfl | rfl
    · exfalso; omega
    · have : r = 3 := by omega
      rw [this]
  | p :: q :: r :: s :: t, _, hs, _, _, _, _, _, _, _ => simp at hs
end Go.Proofs.Ytnhbplnhhloklaa
