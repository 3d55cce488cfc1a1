/- Contracts of the reference's Bounds and Controlled. -/
import Derived.Test.YtnhbplnhhloklaaE3
import Derived.Test.YtnhbplnhhloklaaC7
namespace Go.Proofs.Ytnhbplnhhloklaa
open Go.RowKit
attribute [local go_sem] min2_int min_two max2_int max_two

theorem rmV_len (lo hi : Nat → Int) (k : Nat) : (rmV lo hi k).length = k * 2 := by
  induction k with
  | zero => rfl
  | succ k ih => rw [rmV_succ, List.length_append, ih]; simp; omega
theorem rmV_set (lo hi : Nat → Int) (n i : Nat) (x y : Int) (h : i < n) : ((rmV lo hi n).set (i * 2) (.int .i64 x)).set (i * 2 + 1) (.int .i64 y) = rmV (setAt lo i x) (setAt hi i y) n := by
  induction n with
  | zero => omega
  | succ n ih =>
    have hl := rmV_len lo hi n
    rw [rmV_succ, rmV_succ]
    by_cases e : i = n
    · subst e
      rw [List.set_append_right _ _ (by omega), List.set_append_right _ _ (by omega), hl, Nat.sub_self, show i * 2 + 1 - i * 2 = 1 by omega]
      have e1 : rmV (setAt lo i x) (setAt hi i y) i = rmV lo hi i := rmV_congr (fun j hj => by simp only [setAt]; rw [if_neg (by omega), if_neg (by omega)]; exact ⟨rfl, rfl⟩)
      rw [e1]
      simp [setAt]
    · rw [List.set_append_left _ _ (by omega), List.set_append_left _ _ (by simp; omega), ih (by omega)]
      simp only [setAt]
      rw [if_neg (by omega), if_neg (by omega)]
theorem own_set2 {w : World} {base n cap g i : Nat} {lo hi : Nat → Int} (h : w.ownsRow base 60 2 (.slice (some ⟨g, 0, none⟩) n cap) n (rmV lo hi n)) (hi' : i < n) (x y : Int) :
    ((w.setCell ⟨g, i * 2, none⟩ (.int .i64 x)).setCell ⟨g, i * 2 + 1, none⟩ (.int .i64 y)).ownsRow base 60 2 (.slice (some ⟨g, 0, none⟩) n cap) n (rmV (setAt lo i x) (setAt hi i y) n) := by
  rcases h.2 with ⟨h0, _⟩ | ⟨g', cap', cur, hv, hb, hh, hc, hm, hs, ht⟩
  · cases h0
  · cases hv
    refine ⟨rmV_len _ _ _, .inr ⟨g, cap, (cur.setIfInBounds (i * 2) (.int .i64 x)).setIfInBounds (i * 2 + 1) (.int .i64 y), rfl, hb, heap_setCell_self (heap_setCell_self hh _) _, hc, hm, by simpa using hs, ?_⟩⟩
    rw [Array.toList_setIfInBounds, Array.toList_setIfInBounds, List.take_set, List.take_set, ht, rmV_set _ _ _ _ _ _ hi']
theorem own_block {w : World} {base n cap g e size : Nat} {xs : List Value} (h : w.ownsRow base e size (.slice (some ⟨g, 0, none⟩) n cap) n xs) : ∃ cur, w.heap[g]? = some (.cells cur e (0, 0)) ∧ base ≤ g := by
  rcases h.2 with ⟨h0, _⟩ | ⟨g', cap', cur, hv, hb, hh, _⟩
  · cases h0
  · cases hv; exact ⟨cur, hh, hb⟩

theorem rmAt_cells {W : World} {rb ro : Nat} {lo hi : Nat → Int} {n : Nat} (h : RmAt W (some ⟨rb, ro, none⟩) lo hi n) : ∀ j u, (rmV lo hi n)[j]? = some u → W.cell? ((⟨rb, ro, none⟩ : Addr).add j) = some u := by
  intro j u hj
  have hlt := (List.getElem?_eq_some_iff.1 hj).1
  rw [rmV_len] at hlt
  have key : ∀ j, (⟨rb, ro, none⟩ : Addr).add j = ⟨rb, ro + j, none⟩ := fun j => by
    by_cases e : j = 0
    · subst e; simp [Addr.add]
    · simp [Addr.add, e]
  rw [key]
  obtain ⟨b, o, hR, _, h1, h2⟩ := h (j / 2) (by omega)
  cases hR
  have h3 := rmV_at lo hi n (j / 2) (by omega)
  rcases Nat.mod_two_eq_zero_or_one j with e | e
  · have e2 : j = j / 2 * 2 := by omega
    rw [e2] at hj ⊢
    rw [h3.1] at hj
    cases hj
    exact h1
  · have e2 : j = j / 2 * 2 + 1 := by omega
    rw [e2] at hj ⊢
    rw [h3.2] at hj
    cases hj
    exact h2
/-- append of some elements onto an own row. -/
theorem wpList_pushN {t e : TypeId} {size bytes : Nat} {z : Value} (E : Elem t e size bytes z) (W : World) {ops : Array Oper} {rest : List Oper} {o : Oper} {a : Act} {Q : Exit → Act → World → Prop} (hgd : o.guard = none) (s x : Operand)
    (ho : o.op = .call { callee := .builtin .append, args := #[s, x], argTypes := #[t, t] }) (base : Nat) (v : Value) (n : Nat) (xs : List Value) (hs : a.eval s = v) (hown : W.ownsRow base e size v n xs)
    (ad : Addr) (m c N : Nat) (news : List Value) (hx : a.eval x = .slice (some ad) m c) (hnews : ∀ j u, news[j]? = some u → W.cell? (ad.add j) = some u) (hl : news.length = m * size) (h1 : ∀ u ∈ news, u.oneCell' = true) (hm : 0 < m) (hN : n + m = N) (hn : N < 100000) (hbase : base ≤ W.heap.size)
    (h : ∀ g cap w', w'.ownsRow base e size (.slice (some ⟨g, 0, none⟩) N cap) N (xs ++ news) → Below base W w' → wpList Try.prog ops Q rest (a.put o.dst (.slice (some ⟨g, 0, none⟩) N cap)) w') :
    wpList Try.prog ops Q (o :: rest) a W := by
  subst hN
  obtain ⟨i, hi, hz0, hz1, hz2⟩ := E.info
  have := E.small
  refine wpList_append_lies W hgd s x t ho base e i z size bytes E.und hi hz0 hz1 hz2 E.zs E.pos v n xs hs hown ad m c news hx hl hnews h1 hm (by simp only [maxLen]; omega) ?_ hbase _ rfl ?_
  · have h2 : (n + m) * bytes ≤ (n + m) * 100 := Nat.mul_le_mul_left _ this
    omega
  · intro g cap w1 how hgrow _ _
    exact h g cap _ how ((Below.refl base W).grown hgrow hbase (fun k hk => (hown.lt k hk).1))
theorem rmV_one (lo hi : Nat → Int) (n : Nat) : ∀ u ∈ rmV lo hi n, u.oneCell' = true := by
  intro u hu
  unfold rmV at hu
  obtain ⟨i, _, h⟩ := List.mem_flatMap.1 hu
  simp at h
  rcases h with rfl | rfl <;> rfl

/-- What has been found of the bounds. -/
def Found (l : List Ang) (T C : Nat) (lo hi : Nat → Int) (i : Nat) (x u v : Int) : Prop :=
  (u = 99 ∧ v = -1 ∧ ∀ y, lo i ≤ y → y < x → ¬ Can l T C (setAt lo i y) (setAt hi i y)) ∨
  (lo i ≤ u ∧ u ≤ v ∧ v < x ∧ Can l T C (setAt lo i u) (setAt hi i u) ∧ Can l T C (setAt lo i v) (setAt hi i v) ∧ (∀ y, lo i ≤ y → y < u → ¬ Can l T C (setAt lo i y) (setAt hi i y)) ∧ ∀ y, v < y → y < x → ¬ Can l T C (setAt lo i y) (setAt hi i y))
theorem Found.no {l : List Ang} {T C : Nat} {lo hi : Nat → Int} {i : Nat} {x u v : Int} (h : Found l T C lo hi i x u v) (hn : ¬ Can l T C (setAt lo i x) (setAt hi i x)) : Found l T C lo hi i (x + 1) u v := by
  rcases h with ⟨h1, h2, h3⟩ | ⟨h1, h2, h3, h4, h5, h6, h7⟩
  · refine .inl ⟨h1, h2, fun y hy hy2 => ?_⟩
    by_cases e : y = x
    · subst e; exact hn
    · exact h3 y hy (by omega)
  · refine .inr ⟨h1, h2, by omega, h4, h5, h6, fun y hy hy2 => ?_⟩
    by_cases e : y = x
    · subst e; exact hn
    · exact h7 y hy (by omega)
theorem Found.yes {l : List Ang} {T C : Nat} {lo hi : Nat → Int} {i : Nat} {x u v : Int} (h : Found l T C lo hi i x u v) (hx : lo i ≤ x) (hx2 : x ≤ 40) (hc : Can l T C (setAt lo i x) (setAt hi i x)) : Found l T C lo hi i (x + 1) (min u x) x := by
  rcases h with ⟨rfl, h2, h3⟩ | ⟨h1, h2, h3, h4, h5, h6, h7⟩
  · have e : min (99 : Int) x = x := by omega
    rw [e]
    exact .inr ⟨hx, Int.le_refl _, by omega, hc, hc, h3, fun y h1 h2 => by omega⟩
  · have e : min u x = u := by omega
    rw [e]
    exact .inr ⟨h1, by omega, by omega, h4, hc, h6, fun y h1 h2 => by omega⟩
theorem Found.ends {l : List Ang} {T C : Nat} {lo hi : Nat → Int} {i : Nat} {u v : Int} (hi' : i < l.length) (h : Found l T C lo hi i (hi i + 1) u v) (hc : Can l T C lo hi) : EndsAre l T C lo hi i u v := by
  obtain ⟨x0, hx0⟩ := hc
  have h0 := hx0.1 i hi'
  have hn : Can l T C (setAt lo i (x0 i)) (setAt hi i (x0 i)) := ⟨x0, hx0.narrow i⟩
  rcases h with ⟨h1, h2, h3⟩ | ⟨h1, h2, h3, h4, h5, h6, h7⟩
  · exact absurd hn (h3 _ h0.1 (by omega))
  · exact ⟨by omega, by omega, h4, h5, h6, fun y hy hy2 => h7 y hy (by omega)⟩

/-- The memory of Bounds. -/
structure OMem (w wr : World) (A : Option Addr) (n c : Nat) (T C : Int) (g cap : Nat) (lo hi : Nat → Int) (u v : Int) : Prop where
  net : NMem w wr A n c T C
  res : wr.heap[w.heap.size + 1]? = some (.cells #[.int .i64 0, .int .i64 0] 60 (0, 0))
  out : wr.heap[w.heap.size + 1 + 1]? = some (.cells #[.int .i64 u, .int .i64 v] 60 (0, 0))
  own : wr.ownsRow (w.heap.size + 1 + 1 + 1) 60 2 (.slice (some ⟨g, 0, none⟩) n cap) n (rmV lo hi n)
section
variable {w wr w' : World} {A : Option Addr} {n c : Nat} {T C : Int} {g cap : Nat} {lo hi : Nat → Int} {u v : Int}
theorem OMem.step (h : OMem w wr A n c T C g cap lo hi u v) (hb : Below wr.heap.size wr w') : OMem w w' A n c T C g cap lo hi u v :=
  have h1 := (Array.getElem?_eq_some_iff.1 h.res).1
  have h2 := (Array.getElem?_eq_some_iff.1 h.out).1
  ⟨h.net.step hb, (hb.block _ h1).trans h.res, (hb.block _ h2).trans h.out, ownsRow_below h.own hb (Nat.le_refl _)⟩
theorem OMem.room (h : OMem w wr A n c T C g cap lo hi u v) {i : Nat} (hi' : i < n) : wr.cell? ⟨g, i * 2, none⟩ = some (.int .i64 (lo i)) ∧ wr.cell? ⟨g, i * 2 + 1, none⟩ = some (.int .i64 (hi i)) ∧ wr.frozen? ⟨g, i * 2, none⟩ = false ∧ wr.frozen? ⟨g, i * 2 + 1, none⟩ = false := by
  obtain ⟨cur, hh, hb⟩ := own_block h.own
  obtain ⟨R, d, hv, hr⟩ := own_rooms h.own
  cases hv
  obtain ⟨b, o, hR, _, h1, h2⟩ := hr i hi'
  cases hR
  rw [Nat.zero_add] at h1 h2
  exact ⟨h1, h2, free_of_block hh, free_of_block hh⟩
theorem OMem.rooms (h : OMem w wr A n c T C g cap lo hi u v) : RmAt wr (some ⟨g, 0, none⟩) lo hi n := by
  obtain ⟨R, d, hv, hr⟩ := own_rooms h.own
  cases hv
  exact hr
theorem OMem.setRoom (h : OMem w wr A n c T C g cap lo hi u v) {i : Nat} (hi' : i < n) (x y : Int) : OMem w ((wr.setCell ⟨g, i * 2, none⟩ (.int .i64 x)).setCell ⟨g, i * 2 + 1, none⟩ (.int .i64 y)) A n c T C g cap (setAt lo i x) (setAt hi i y) u v := by
  obtain ⟨cur, hh, hb⟩ := own_block h.own
  have e : ∀ b, b < w.heap.size + 1 + 1 + 1 → ((wr.setCell ⟨g, i * 2, none⟩ (.int .i64 x)).setCell ⟨g, i * 2 + 1, none⟩ (.int .i64 y)).heap[b]? = wr.heap[b]? := fun b hb' => by
    rw [Below.heap_setCell _ _ _ _ (by show b ≠ g; omega), Below.heap_setCell _ _ _ _ (by show b ≠ g; omega)]
  exact ⟨⟨(h.net.below.setCell (by show w.heap.size ≤ g; omega) _).setCell (by show w.heap.size ≤ g; omega) _, (e _ (by omega)).trans h.net.net⟩, (e _ (by omega)).trans h.res, (e _ (by omega)).trans h.out, own_set2 h.own hi' x y⟩
theorem OMem.setOut (h : OMem w wr A n c T C g cap lo hi u v) (x y : Int) : OMem w ((wr.setCell ⟨w.heap.size + 1 + 1, 0, none⟩ (.int .i64 x)).setCell ⟨w.heap.size + 1 + 1, 1, none⟩ (.int .i64 y)) A n c T C g cap lo hi x y := by
  have e : ∀ b, b ≠ w.heap.size + 1 + 1 → ((wr.setCell ⟨w.heap.size + 1 + 1, 0, none⟩ (.int .i64 x)).setCell ⟨w.heap.size + 1 + 1, 1, none⟩ (.int .i64 y)).heap[b]? = wr.heap[b]? := fun b hb' => by
    rw [Below.heap_setCell _ _ _ _ hb', Below.heap_setCell _ _ _ _ hb']
  exact ⟨⟨(h.net.below.setCell (by show w.heap.size ≤ w.heap.size + 1 + 1; omega) _).setCell (by show w.heap.size ≤ w.heap.size + 1 + 1; omega) _, (e _ (by omega)).trans h.net.net⟩, (e _ (by omega)).trans h.res, heap_setCell_self (heap_setCell_self h.out _) _, own_setCell (own_setCell h.own (Nat.lt_succ_self _) _) (Nat.lt_succ_self _) _⟩
end

set_option maxHeartbeats 4000000 in
set_option maxRecDepth 100000 in
theorem rbounds_any (w : World) (A R : Option Addr) (l : List Ang) (c d : Nat) (T C : Nat) (lo hi : Nat → Int) (i : Nat) (hA : AngAt w A l) (hRm : RmAt w R lo hi l.length) (hl : l.length ≤ 12) (hN : NetOk l T C) (hR : RoomOk lo hi) (hi' : i < l.length) (hcan : Can l T C lo hi) :
    Calls Try.prog 39 #[.agg #[.slice A l.length c, .int .i64 T, .int .i64 C], .slice R l.length d, .int .i64 i] w fun e w' => Below w.heap.size w w' ∧ ∃ a b, e = .returned (.agg #[.int .i64 a, .int .i64 b]) ∧ EndsAre l T C lo hi i a b := by
  obtain ⟨rb, ro, rfl, hrb, hr0, hr1⟩ := hRm i hi'
  have hal : Below w.heap.size w ((((w.alloc (.cells #[.slice A l.length c, .int .i64 T, .int .i64 C] 24)).alloc (.cells #[.int .i64 0, .int .i64 0] 60)).alloc (.cells #[.int .i64 99, .int .i64 (-1)] 60)).alloc (.cells #[] 60)) :=
    ((((Below.refl _ w).alloc (Nat.le_refl _) _).alloc (by simp) _).alloc (by simp; omega) _).alloc (by simp; omega) _
  have hnw := rmAt_cells (hRm.below hal)
  have how0 := World.ownsRow_made (base := w.heap.size + 1 + 1 + 1) (e := 60) (size := 2) (((w.alloc (.cells #[.slice A l.length c, .int .i64 T, .int .i64 C] 24)).alloc (.cells #[.int .i64 0, .int .i64 0] 60)).alloc (.cells #[.int .i64 99, .int .i64 (-1)] 60)) #[] 0 (by simp) (by decide) (by simp)
  have how : ((((w.alloc (.cells #[.slice A l.length c, .int .i64 T, .int .i64 C] 24)).alloc (.cells #[.int .i64 0, .int .i64 0] 60)).alloc (.cells #[.int .i64 99, .int .i64 (-1)] 60)).alloc (.cells #[] 60)).ownsRow (w.heap.size + 1 + 1 + 1) 60 2 (.slice (some ⟨w.heap.size + 1 + 1 + 1, 0, none⟩) 0 0) 0 [] := by
    simpa using how0
  have h1 := past_alloc (o := .cells #[] 60) (past_alloc (o := .cells #[.int .i64 99, .int .i64 (-1)] 60) (past_alloc (o := .cells #[.int .i64 0, .int .i64 0] 60) (at_alloc (w := w) (o := .cells #[.slice A l.length c, .int .i64 T, .int .i64 C] 24) rfl)))
  have h2 : ((((w.alloc (.cells #[.slice A l.length c, .int .i64 T, .int .i64 C] 24)).alloc (.cells #[.int .i64 0, .int .i64 0] 60)).alloc (.cells #[.int .i64 99, .int .i64 (-1)] 60)).alloc (.cells #[] 60)).heap[w.heap.size + 1]? = some (.cells #[.int .i64 0, .int .i64 0] 60 (0, 0)) := past_alloc (past_alloc (at_alloc (by simp)))
  have h3 : ((((w.alloc (.cells #[.slice A l.length c, .int .i64 T, .int .i64 C] 24)).alloc (.cells #[.int .i64 0, .int .i64 0] 60)).alloc (.cells #[.int .i64 99, .int .i64 (-1)] 60)).alloc (.cells #[] 60)).heap[w.heap.size + 1 + 1]? = some (.cells #[.int .i64 99, .int .i64 (-1)] 60 (0, 0)) := past_alloc (at_alloc (by simp))
  have hszA : w.heap.size + 1 + 1 + 1 ≤ ((((w.alloc (.cells #[.slice A l.length c, .int .i64 T, .int .i64 C] 24)).alloc (.cells #[.int .i64 0, .int .i64 0] 60)).alloc (.cells #[.int .i64 99, .int .i64 (-1)] 60)).alloc (.cells #[] 60)).heap.size := by simp
  have hl0 : 0 < l.length := by omega
  have HO := Lib.hid how
  have HW := Lib.hid hnw
  have HH := Lib.hid (And.intro h1 (And.intro h2 h3))
  have HAL := Lib.hid hal
  have Hr := Lib.hid (And.intro hr0 hr1)
  clear how how0 hnw h1 h2 h3 hal hr0 hr1
  have hlo := hR.lo0 i
  have hhi := hR.hi0 i
  have hle := hR.le i
  go_enter Try.func39, Try.ntmps39
  go_wp2_with (at_builtin; refine wpList_pushN elem44 ((((w.alloc (.cells #[.slice A l.length c, .int .i64 T, .int .i64 C] 24)).alloc (.cells #[.int .i64 0, .int .i64 0] 60)).alloc (.cells #[.int .i64 99, .int .i64 (-1)] 60)).alloc (.cells #[] 60)) (by rfl) (.tmp 11) (.tmp 12) (by rfl) (w.heap.size + 1 + 1 + 1) _ 0 [] (by rfl) HO.out ⟨rb, ro, none⟩ l.length d l.length (rmV lo hi l.length) (by rfl) HW.out (rmV_len _ _ _) (rmV_one _ _ _) hl0 (Nat.zero_add _) (by omega) hszA ?_; intro g cap w1 how1 hbe1; have hb2 := HAL.out.trans (hbe1.mono (by omega)); have cr0 := (hb2.cell (p := ⟨rb, ro + i * 2, none⟩) hrb).trans Hr.out.1)
  have hOM : OMem w w1 A l.length c T C g cap lo hi 99 (-1) := ⟨⟨hb2, (hbe1.block _ (by omega)).trans HH.out.1⟩, (hbe1.block _ (by omega)).trans HH.out.2.1, (hbe1.block _ (by omega)).trans HH.out.2.2, by simpa using how1⟩
  clear how1 hbe1 hb2 cr0 HH HO HW HAL hszA hRm
  have HCan := Lib.hid hcan
  clear hcan
  go_loopw [9] (fun t wr => ∃ x p q u v : Int, lo i ≤ x ∧ x ≤ hi i + 1 ∧ t = .int .i64 x ∧ OMem w wr A l.length c T C g cap (setAt lo i p) (setAt hi i q) u v ∧ Hid (Found l T C lo hi i x u v)) (fun t _ => (hi i + 1 - intOf t).toNat)
  case atStart => exact ⟨lo i, lo i, hi i, 99, -1, Int.le_refl _, by omega, rfl, by rw [setAt_self, setAt_self]; exact hOM, Lib.hid (.inl ⟨rfl, rfl, fun y h1 h2 => by omega⟩)⟩
  case round =>
    clear hOM
    obtain ⟨x, p, q, u, v, hx0, hx1, rfl, hM, hF⟩ := hrel
    have cr1 := (hM.net.below.cell (p := ⟨rb, ro + i * 2 + 1, none⟩) hrb).trans Hr.out.2
    have hii0 : (0 : Int) ≤ i := by omega
    have hii1 : (i : Int) < l.length := by omega
    by_cases hlt : x ≤ hi i
    · have hd : decide (x ≤ hi i) = true := decide_eq_true hlt
      obtain ⟨g0, g1, f0, f1⟩ := hM.room hi'
      have hM2 := hM.setRoom hi' x x
      rw [setAt_same, setAt_same] at hM2
      have hRs := hR.set i (a := x) (by omega)
      have n0 := cell_of_block (j := 0) (v := .slice A l.length c) hM.net.net rfl
      have n1 := cell_of_block (j := 1) (v := .int .i64 T) hM.net.net rfl
      have n2 := cell_of_block (j := 2) (v := .int .i64 C) hM.net.net rfl
      obtain ⟨cur, hgb, hgg⟩ := own_block hM.own
      have hne : ¬ g = w.heap.size := by omega
      have HM2 := Lib.hid hM2
      clear hM hM2 hgb cur
      go_wp2_with (go_at_call 77; refine (rcan_any _ A (some ⟨g, 0, none⟩) l c cap T C _ _ (hA.below HM2.out.net.below) HM2.out.rooms hl hN hRs).mono ?_; rintro e W3 ⟨hbe, b, rfl, hb⟩; have HB := Lib.hid hb; clear hb; have hM3 := HM2.out.step hbe; have co0 := cell_of_block (j := 0) (v := .int .i64 u) hM3.out rfl; have co1 := cell_of_block (j := 1) (v := .int .i64 v) hM3.out rfl; have fo0 := free_of_block (j := 0) hM3.out; have fo1 := free_of_block (j := 1) hM3.out)
      · have hb : b = true := by assumption
        have hM4 := hM3.setOut (min u x) x
        have HF := Lib.hid (hF.out.yes hx0 (by omega) (HB.out.1 hb))
        go_roundw
        case rel => exact ⟨x + 1, x, x, min u x, x, by omega, by omega, rfl, hM4, HF⟩
        case measure => simp [intOf]; omega
      · have hnc : ¬ Can l T C (setAt lo i x) (setAt hi i x) := fun h => by
          have := HB.out.2 h
          subst this
          contradiction
        have HF := Lib.hid (hF.out.no hnc)
        clear hnc
        go_roundw
        case rel => exact ⟨x + 1, x, x, u, v, by omega, by omega, rfl, hM3, HF⟩
        case measure => simp [intOf]; omega
    · have hd : decide (x ≤ hi i) = false := decide_eq_false hlt
      obtain rfl : x = hi i + 1 := by omega
      have hE := Lib.hid (hF.out.ends hi' HCan.out)
      have co0 := cell_of_block (j := 0) (v := .int .i64 u) hM.out rfl
      have co1 := cell_of_block (j := 1) (v := .int .i64 v) hM.out rfl
      have cs0 := cell_of_block (j := 0) (v := .int .i64 0) hM.res rfl
      have cs1 := cell_of_block (j := 1) (v := .int .i64 0) hM.res rfl
      have fs0 := free_of_block (j := 0) hM.res
      have fs1 := free_of_block (j := 1) hM.res
      go_wp2_with fail
      refine bodyPost_ret (v := .agg #[.int .i64 u, .int .i64 v]) (by simp [results, Try.results39, go_sem, cs0, cs1]) rfl ?_
      exact ⟨(hM.net.below.setCell (by show w.heap.size ≤ w.heap.size + 1; omega) _).setCell (by show w.heap.size ≤ w.heap.size + 1; omega) _, u, v, rfl, hE.out⟩
end Go.Proofs.Ytnhbplnhhloklaa
