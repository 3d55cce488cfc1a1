/- The contract of the greatest flow; finite sums. -/
import Derived.Test.YtnhbplnhhloklaaA4
import Derived.Laws.EntriesVeiled
namespace Go.Proofs.Ytnhbplnhhloklaa
open Go.RowKit
/-! ### sums -/
def sumN : Nat → (Nat → Int) → Int
  | 0, _ => 0
  | n + 1, f => sumN n f + f n

theorem sumN_congr {n : Nat} {f g : Nat → Int} (h : ∀ k, k < n → f k = g k) : sumN n f = sumN n g := by
  induction n with
  | zero => rfl
  | succ n ih => simp only [sumN]; rw [ih (fun k hk => h k (by omega)), h n (by omega)]
theorem sumN_zero (n : Nat) : sumN n (fun _ => 0) = 0 := by
  induction n with
  | zero => rfl
  | succ n ih => simp only [sumN, ih]; rfl
theorem sumN_add (n : Nat) (f g : Nat → Int) : sumN n (fun k => f k + g k) = sumN n f + sumN n g := by
  induction n with
  | zero => rfl
  | succ n ih => simp only [sumN, ih]; omega
theorem sumN_sub (n : Nat) (f g : Nat → Int) : sumN n (fun k => f k - g k) = sumN n f - sumN n g := by
  induction n with
  | zero => rfl
  | succ n ih => simp only [sumN, ih]; omega
theorem sumN_neg (n : Nat) (f : Nat → Int) : sumN n (fun k => - f k) = - sumN n f := by
  induction n with
  | zero => rfl
  | succ n ih => simp only [sumN, ih]; omega
theorem sumN_le {n : Nat} {f g : Nat → Int} (h : ∀ k, k < n → f k ≤ g k) : sumN n f ≤ sumN n g := by
  induction n with
  | zero => exact Int.le_refl _
  | succ n ih => simp only [sumN]; have := ih (fun k hk => h k (by omega)); have := h n (by omega); omega
theorem sumN_nonneg {n : Nat} {f : Nat → Int} (h : ∀ k, k < n → 0 ≤ f k) : 0 ≤ sumN n f := by
  have := sumN_le (f := fun _ => 0) h
  rwa [sumN_zero] at this
theorem sumN_const (n : Nat) (c : Int) : sumN n (fun _ => c) = n * c := by
  induction n with
  | zero => simp [sumN]
  | succ n ih => simp only [sumN, ih]; rw [Int.natCast_succ, Int.add_mul]; omega
/-- All but one are alike. -/
theorem sumN_one {n : Nat} {f g : Nat → Int} {j : Nat} (hj : j < n) (h : ∀ k, k < n → k ≠ j → f k = g k) : sumN n f = sumN n g + (f j - g j) := by
  induction n with
  | zero => omega
  | succ n ih =>
    simp only [sumN]
    by_cases e : j = n
    · subst e
      rw [sumN_congr (fun k hk => h k (by omega) (by omega))]
      omega
    · rw [ih (by omega) (fun k hk hne => h k (by omega) hne), h n (by omega) (by omega)]
      omega
/-- Only one counts. -/
theorem sumN_single {n : Nat} {f : Nat → Int} {j : Nat} (hj : j < n) (h : ∀ k, k < n → k ≠ j → f k = 0) : sumN n f = f j := by
  rw [sumN_one (g := fun _ => 0) hj h, sumN_zero]; omega
theorem sumN_swap (n m : Nat) (f : Nat → Nat → Int) : sumN n (fun i => sumN m (fun j => f i j)) = sumN m (fun j => sumN n (fun i => f i j)) := by
  induction n with
  | zero => simp only [sumN]; rw [sumN_zero]
  | succ n ih => simp only [sumN, ih]; rw [← sumN_add]
theorem sumN_mul (n : Nat) (c : Int) (f : Nat → Int) : sumN n (fun k => c * f k) = c * sumN n f := by
  induction n with
  | zero => simp [sumN]
  | succ n ih => simp only [sumN, ih]; rw [Int.mul_add]
/-- What can still leave the first node. -/
def meas (m : Nat) (L : LL) : Int := sumN 13 (fun v => sumN (m + 1) (fun k => L 11 v ((k : Int) - 1)))

theorem meas_aug {m : Nat} {g : Int} {s : Seen} {L L' : LL} (h : Aug m 11 g s L L') : meas m L' = meas m L - g := by
  cases h with
  | @step _ to i _ _ s1 _ L1 hf ht hi hm hs hss hs1 hs2 hg h =>
    have hne : ((11 : Nat) : Int) ≠ to := by
      intro e
      have : to = 11 := by omega
      rw [this, hs1] at hs2; cases hs2
    have e1 : ∀ (v : Nat) (j : Int), L1 11 v j = L 11 v j := fun v j => h.same 11 v j (.inl hs1)
    unfold meas
    have hin : ∀ v, v < 13 → v ≠ to → sumN (m + 1) (fun k => pushL L1 (11 : Nat) to i g 11 v ((k : Int) - 1)) = sumN (m + 1) (fun k => L 11 v ((k : Int) - 1)) := by
      intro v hv hvt
      refine sumN_congr fun k hk => ?_
      rw [pushL_at hne, if_neg (by rintro ⟨_, h, _⟩; exact hvt (by omega)), if_neg (by rintro ⟨h, _⟩; exact hne h), e1]
    rw [sumN_one ht hin]
    have hto : sumN (m + 1) (fun k => pushL L1 (11 : Nat) to i g 11 to ((k : Int) - 1)) = sumN (m + 1) (fun k => L 11 to ((k : Int) - 1)) + (pushL L1 (11 : Nat) to i g 11 to (((i + 1).toNat : Nat) - 1) - L 11 to (((i + 1).toNat : Nat) - 1)) := by
      refine sumN_one (by omega) fun k hk hki => ?_
      rw [pushL_at hne, if_neg (by rintro ⟨_, _, h⟩; omega), if_neg (by rintro ⟨h, _⟩; exact hne h), e1]
    rw [hto]
    have e2 : (((i + 1).toNat : Nat) : Int) - 1 = i := by omega
    rw [e2, pushL_at hne, if_pos ⟨rfl, rfl, rfl⟩, show L1 ((11 : Nat) : Int) to i = L 11 to i from e1 to i]
    omega

/-- The flow so far. -/
inductive FlowRel (m : Nat) (L : LL) : Int → LL → Prop
  | nil : FlowRel m L 0 L
  | step {sum g : Int} {L1 L2 : LL} (h : FlowRel m L sum L1) (hg : 0 < g) (ha : Aug m 11 g (fun _ => false) L1 L2) : FlowRel m L (sum + g) L2

theorem FlowRel.bnd {m : Nat} {L L' : LL} {sum : Int} (h : FlowRel m L sum L') (hb : Bnd L) : Bnd L' := by
  induction h with
  | nil => exact hb
  | step _ hg ha ih => exact ha.bnd (by omega) ih
theorem FlowRel.meas {m : Nat} {L L' : LL} {sum : Int} (h : FlowRel m L sum L') : meas m L' + sum = meas m L := by
  induction h with
  | nil => omega
  | step _ hg ha ih => rw [meas_aug ha]; omega
theorem FlowRel.nn {m : Nat} {L L' : LL} {sum : Int} (h : FlowRel m L sum L') : 0 ≤ sum := by
  induction h with
  | nil => omega
  | step _ hg ha ih => omega
theorem meas_nn {m : Nat} {L : LL} (hb : Bnd L) : 0 ≤ meas m L := sumN_nonneg fun _ _ => sumN_nonneg fun _ _ => hb.nn _ _ _
theorem meas_le {m : Nat} {L : LL} (hb : Bnd L) (hm : m ≤ 1000) : meas m L ≤ 13013000000 := by
  have h1 : meas m L ≤ sumN 13 (fun _ => sumN (m + 1) (fun _ => 1000000)) := sumN_le fun v _ => sumN_le fun k _ => by
    have := hb.le 11 v ((k : Int) - 1); have := hb.nn v 11 ((k : Int) - 1); omega
  rw [sumN_const, sumN_const] at h1
  have : ((m + 1 : Nat) : Int) * 1000000 ≤ 1001 * 1000000 := Int.mul_le_mul_of_nonneg_right (by omega) (by omega)
  omega
theorem bools_false : bools (fun _ => false) = #[.bool false, .bool false, .bool false, .bool false, .bool false, .bool false, .bool false, .bool false, .bool false, .bool false, .bool false, .bool false, .bool false] := rfl

set_option maxRecDepth 100000 in
set_option maxHeartbeats 4000000 in
/-- The greatest flow. -/
theorem flow_any (Wb Mb : Nat) (A : Option Addr) (m c : Nat) (T C : Int) (hm : m ≤ 1000) (L : LL) (w : World) (hW : w.heap[Wb]? = some (.cells #[.slice A m c, .int .i64 T, .int .i64 C, .map (some Mb)] 153 (0, 0))) (hM : MapIs w Mb L) (hB : Bnd L) :
    Calls Try.prog 93 #[.pointer (some ⟨Wb, 0, none⟩)] w fun e w' => ∃ (sum : Int) (L' : LL), e = .returned (.int .i64 sum) ∧ MapIs w' Mb L' ∧ Keep (fun k => k = Mb) w w' ∧ FlowRel m L sum L' ∧ ∃ s', Dead m 11 (fun _ => false) s' L' := by
  have lW := (Array.getElem?_eq_some_iff.1 hW).1
  have lM := hM.lt
  have hWM : Wb ≠ Mb := by
    rintro rfl
    obtain ⟨es, cl, hb, _⟩ := hM
    rw [hW] at hb; cases hb
  go_enter Try.func93, Try.ntmps93
  go_wp2
  go_loopw [2] (fun t wr => ∃ (sum : Int) (Lr : LL), t = .int .i64 sum ∧ MapIs wr Mb Lr ∧ Keep (fun k => k = Mb) w wr ∧ FlowRel m L sum Lr ∧ wr.heap[w.heap.size]? = some (.cells #[.pointer (some ⟨Wb, 0, none⟩)] 136 (0, 0)))
    (fun t _ => (meas m L - intOf t).toNat)
  case atStart => exact ⟨0, L, rfl, hM.same (Below.heap_alloc w _ _ lM), (Keep.refl _ w).alloc _, .nil, (MapKept.heap_alloc w _).1⟩
  case round =>
    obtain ⟨sum, Lr, rfl, hMr, hKr, hrel, hbox⟩ := hrel
    have hBr := hrel.bnd hB
    have hme := hrel.meas
    have hnn := hrel.nn
    have hle := meas_le hB hm
    have hnn2 := meas_nn (m := m) hBr
    have lwr := (Array.getElem?_eq_some_iff.1 hbox).1
    have lMr := hMr.lt
    have hWr := (hKr.block Wb lW hWM).trans hW
    have lWr := (Array.getElem?_eq_some_iff.1 hWr).1
    go_wp2_with fail
    have hs0 : ((wr.alloc (.cells (bools (fun _ => false)) 140)).alloc (.cells #[.func (.func 118) #[] #[.pointer (some ⟨wr.heap.size, 0, none⟩), .pointer (some ⟨w.heap.size, 0, none⟩), .pointer (some ⟨wr.heap.size + 1, 0, none⟩)]] 146)).heap[wr.heap.size]? = some (.cells (bools (fun _ => false)) 140 (0, 0)) :=
      (Below.heap_alloc _ _ _ (by simp)).trans (MapKept.heap_alloc wr _).1
    have hk0 : ((wr.alloc (.cells (bools (fun _ => false)) 140)).alloc (.cells #[.func (.func 118) #[] #[.pointer (some ⟨wr.heap.size, 0, none⟩), .pointer (some ⟨w.heap.size, 0, none⟩), .pointer (some ⟨wr.heap.size + 1, 0, none⟩)]] 146)).heap[wr.heap.size + 1]? = some (.cells #[.func (.func 118) #[] #[.pointer (some ⟨wr.heap.size, 0, none⟩), .pointer (some ⟨w.heap.size, 0, none⟩), .pointer (some ⟨wr.heap.size + 1, 0, none⟩)]] 146 (0, 0)) := by
      have := (MapKept.heap_alloc (wr.alloc (.cells (bools (fun _ => false)) 140)) (.cells #[.func (.func 118) #[] #[.pointer (some ⟨wr.heap.size, 0, none⟩), .pointer (some ⟨w.heap.size, 0, none⟩), .pointer (some ⟨wr.heap.size + 1, 0, none⟩)]] 146)).1
      rw [World.size_alloc] at this; exact this
    have hold : ∀ q, q < wr.heap.size → ((wr.alloc (.cells (bools (fun _ => false)) 140)).alloc (.cells #[.func (.func 118) #[] #[.pointer (some ⟨wr.heap.size, 0, none⟩), .pointer (some ⟨w.heap.size, 0, none⟩), .pointer (some ⟨wr.heap.size + 1, 0, none⟩)]] 146)).heap[q]? = wr.heap[q]? := fun q hq =>
      (Below.heap_alloc _ _ _ (by simp; omega)).trans (Below.heap_alloc _ _ _ hq)
    have hK2 : Keep (fun k => k = Mb) w ((wr.alloc (.cells (bools (fun _ => false)) 140)).alloc (.cells #[.func (.func 118) #[] #[.pointer (some ⟨wr.heap.size, 0, none⟩), .pointer (some ⟨w.heap.size, 0, none⟩), .pointer (some ⟨wr.heap.size + 1, 0, none⟩)]] 146)) := (hKr.alloc _).alloc _
    have hF : FMem 140 ((wr.alloc (.cells (bools (fun _ => false)) 140)).alloc (.cells #[.func (.func 118) #[] #[.pointer (some ⟨wr.heap.size, 0, none⟩), .pointer (some ⟨w.heap.size, 0, none⟩), .pointer (some ⟨wr.heap.size + 1, 0, none⟩)]] 146)) wr.heap.size w.heap.size (wr.heap.size + 1) Wb Mb A m c T C (fun _ => false) Lr :=
      ⟨hs0, (hold _ lwr).trans hbox, hk0, (hold _ lWr).trans hWr, hMr.same (hold _ lMr), by omega, by omega, by omega⟩
    rw [bools_false] at hF hK2 hold
    refine (flow1_any 140 wr.heap.size w.heap.size (wr.heap.size + 1) Wb Mb A m c T C hm 13 11 1073741824 (fun _ => false) Lr _ (by decide) (by omega) (by omega) (by omega) rfl hBr hF).mono ?_
    rintro e w2 ⟨got, s', L', rfl, hF2, hK3, hres⟩
    have hK4 : Keep (fun k => k = Mb) w w2 := by
      refine ⟨hK3.os.trans hK2.os, hK3.tape.trans hK2.tape, hK3.output.trans hK2.output, Nat.le_trans hK2.size hK3.size, fun q hq hn => ?_⟩
      have hq2 := Nat.lt_of_lt_of_le hq hK2.size
      refine (hK3.block q hq2 ?_).trans (hK2.block q hq hn)
      rintro (h | h)
      · have := hKr.size; omega
      · exact hn h
    rcases hres with ⟨rfl, rfl, hd, _⟩ | ⟨hg0, hg1, ha⟩
    · go_wp2_with fail
      go_ret
      exact ⟨sum, L', rfl, hF2.hM, hK4, hrel, s', hd⟩
    · have hne : (got == 0) = false := by simp; omega
      have hm2 := meas_aug ha
      have hB2 := ha.bnd (by omega) hBr
      have hnn3 := meas_nn (m := m) hB2
      go_wp2_with fail
      go_roundw
      case rel => exact ⟨sum + got, L', rfl, hF2.hM, hK4, hrel.step hg0 ha, hF2.hw⟩
      case measure => simp [intOf]; omega
end Go.Proofs.Ytnhbplnhhloklaa
