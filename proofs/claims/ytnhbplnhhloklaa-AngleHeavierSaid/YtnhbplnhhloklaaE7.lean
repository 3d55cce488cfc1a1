/- Contracts of the reference's rising and Proves. -/
import Derived.Test.YtnhbplnhhloklaaE3
import Derived.Test.YtnhbplnhhloklaaE9
import Derived.Laws.BitsAllLaws
import Derived.Laws.BitsLemmas
import Derived.Deep.QuietTactic
import Derived.BigQuiet
namespace Go.Proofs.Ytnhbplnhhloklaa
open Go.RowKit

theorem in_quiet (n lo hi : Int) (w : World) : Calls Try.prog 58 #[.int .i64 n, .int .i64 lo, .int .i64 hi] w fun e w' => e = .returned (.bool (decide (lo ≤ n ∧ n ≤ hi))) ∧ w' = w :=
  (in_any n lo hi w).mono fun _ _ ⟨h1, h2⟩ => ⟨h2, h1.symm⟩

set_option maxHeartbeats 4000000 in
theorem rrising_any (w : World) (A : Option Addr) (l : List Int) (c : Nat) (m : Int) (hA : IntsAt w A l) (hl : l.length ≤ 100000) (hm : 0 ≤ m ∧ m ≤ 5) :
    Calls Try.prog 74 #[.slice A l.length c, .int .i64 m] w (BoolIff (Rising l m) w) := by
  go_enter Try.func74, Try.ntmps74
  go_wp2_with fail
  go_loopw [5] (fun t wr => ∃ k : Nat, k ≤ l.length ∧ t = .int .i64 k ∧ Below w.heap.size w wr ∧ Hid (RiseTo l m k)) (fun t _ => l.length - (intOf t).toNat)
  case atStart => exact ⟨0, Nat.zero_le _, rfl, Below.refl _ _, Lib.hid (fun i hi => by omega)⟩
  case round =>
    obtain ⟨k, hk, rfl, hbel, hr⟩ := hrel
    by_cases hlt : k < l.length
    · obtain ⟨x, hx⟩ : ∃ x, l[k]? = some x := ⟨l[k], by simp [hlt]⟩
      have hxd : l.getD k 0 = x := by rw [List.getD_eq_getElem?_getD, hx]; rfl
      obtain ⟨b, o, rfl, hb, hc⟩ := hA.below hbel k x hx
      have hk0 : (0 : Int) ≤ k := by omega
      have hk1 : (k : Int) < l.length := by omega
      have hwm : IntKind.i64.wrap (m - 1) = m - 1 := IntWalk.i64_in _ (by omega)
      by_cases h1 : 0 ≤ x ∧ x ≤ m - 1
      · have d1 : decide (0 ≤ x ∧ x ≤ m - 1) = true := decide_eq_true h1
        cases k with
        | zero =>
          have HN : Hid (RiseTo l m 1) := Lib.hid (hr.out.step (by rw [hxd]; exact h1) (fun h => by omega))
          rw [Nat.add_zero] at hc
          have hgt : decide ((0 : Int) < 0) = false := rfl
          clear h1 hxd hx
          go_wp2_with fail
          go_quiet ((go_at_call 58; exact Calls.quiet_of_same (in_quiet _ _ _ _)))
          clear hwm
          go_wp2_with fail
          go_roundw
          case rel => exact ⟨1, by omega, by go_num, below_drewN hbel _, HN⟩
          case measure => simp [intOf]; omega
        | succ j =>
          obtain ⟨y, hy⟩ : ∃ y, l[j]? = some y := ⟨l[j], by simp⟩
          have hyd : l.getD j 0 = y := by rw [List.getD_eq_getElem?_getD, hy]; rfl
          obtain ⟨b2, o2, hAe, hb2, hc2⟩ := hA.below hbel j y hy
          cases hAe
          have hj0 : (0 : Int) ≤ j := by omega
          have hj1 : (j : Int) < l.length := by omega
          have hgt : decide ((0 : Int) < (j : Int) + 1) = true := decide_eq_true (by omega)
          have hwj : IntKind.i64.wrap ((j : Int) + 1 - 1) = j := by rw [Int.add_sub_cancel]; exact IntWalk.i64_in _ (by omega)
          have hwj2 : IntKind.i64.wrap (j : Int) = j := IntWalk.i64_in _ (by omega)
          by_cases h2 : x ≤ y
          · have d2 : decide (x ≤ y) = true := decide_eq_true h2
            have HN : Hid (¬ Rising l m) := Lib.hid (fun h => by
              have := (h (j + 1) hlt).2 (by omega)
              rw [Nat.add_sub_cancel, hxd, hyd] at this
              omega)
            clear h1 h2 hxd hx hyd hy
            go_wp2_with fail
            go_quiet ((go_at_call 58; exact Calls.quiet_of_same (in_quiet _ _ _ _)))
            clear hwm hwj hwj2
            go_wp2_with fail
            go_ret
            exact .no (below_drewN hbel _) HN.out
          · have d2 : decide (x ≤ y) = false := decide_eq_false h2
            have HN : Hid (RiseTo l m (j + 1 + 1)) := Lib.hid (hr.out.step (by rw [hxd]; exact h1) (fun h => by rw [Nat.add_sub_cancel, hxd, hyd]; omega))
            clear h1 h2 hxd hx hyd hy
            go_wp2_with fail
            go_quiet ((go_at_call 58; exact Calls.quiet_of_same (in_quiet _ _ _ _)))
            clear hwm hwj hwj2
            go_wp2_with fail
            go_roundw
            case rel => exact ⟨j + 1 + 1, by omega, by go_num, below_drewN hbel _, HN⟩
            case measure => simp [intOf]; omega
      · have d1 : decide (0 ≤ x ∧ x ≤ m - 1) = false := decide_eq_false h1
        have HN : Hid (¬ Rising l m) := Lib.hid (fun h => by
          have := (h k hlt).1
          rw [hxd] at this
          exact h1 this)
        clear h1 hxd hx
        go_wp2_with fail
        go_quiet ((go_at_call 58; exact Calls.quiet_of_same (in_quiet _ _ _ _)))
        clear hwm
        go_wp2_with fail
        go_ret
        exact .no (below_drewN hbel _) HN.out
    · have hN : Hid (Rising l m) := Lib.hid (by
        have : k = l.length := by omega
        have h := hr.out
        rw [this] at h; exact h)
      go_wp2_with fail
      go_ret
      exact .yes hbel hN.out

/-- The bits of a list. -/
def orL : List Int → Nat
  | [] => 0
  | x :: r => 2 ^ x.toNat ||| orL r
theorem orL_snoc (xs : List Int) (x : Int) : orL (xs ++ [x]) = orL xs ||| 2 ^ x.toNat := by
  induction xs with
  | nil => simp [orL]
  | cons y r ih => simp only [List.cons_append, orL, ih, Nat.or_assoc]
theorem orL_test (xs : List Int) (j : Nat) : (orL xs).testBit j = decide (∃ x ∈ xs, x.toNat = j) := by
  induction xs with
  | nil => simp [orL]
  | cons y r ih =>
    rw [Bool.eq_iff_iff]
    simp only [orL, Nat.testBit_or, ih, Nat.testBit_two_pow, Bool.or_eq_true, decide_eq_true_eq, List.mem_cons]
    constructor
    · rintro (h | ⟨x, hx, h⟩)
      · exact ⟨y, .inl rfl, h⟩
      · exact ⟨x, .inr hx, h⟩
    · rintro ⟨x, rfl | hx, h⟩
      · exact .inl h
      · exact .inr ⟨x, hx, h⟩
theorem orL_mem {xs : List Int} (h : ∀ x ∈ xs, 0 ≤ x) : bitB (orL xs) = memB xs := by
  funext t
  rw [Bool.eq_iff_iff]
  unfold bitB memB
  rw [Bool.and_eq_true, decide_eq_true_eq, decide_eq_true_eq, orL_test, decide_eq_true_eq]
  constructor
  · rintro ⟨h0, x, hx, e⟩
    have := h x hx
    have : x = t := by omega
    rw [← this]; exact hx
  · intro ht
    exact ⟨h t ht, t, ht, rfl⟩
theorem orL_lt {xs : List Int} (h : ∀ x ∈ xs, 0 ≤ x ∧ x ≤ 4) : orL xs < 32 := by
  induction xs with
  | nil => simp [orL]
  | cons y r ih =>
    have hy := h y (List.mem_cons_self ..)
    have h1 : 2 ^ y.toNat < 2 ^ 5 := Nat.pow_lt_pow_right (by omega) (by omega)
    exact Nat.or_lt_two_pow (n := 5) h1 (ih (fun x hx => h x (List.mem_cons_of_mem _ hx)))
theorem ofInt_i64 (a : Nat) (ha : a < 9223372036854775808) : (BitVec.ofInt 64 (a : Int)).toNat = a := by
  rw [BitVec.ofInt_natCast, BitVec.toNat_ofNat]; exact Nat.mod_eq_of_lt (by omega)
theorem i64_or_nat (a b : Nat) (ha : a < 9223372036854775808) (hb : b < 9223372036854775808) : bits .or .i64 (a : Int) (b : Int) = ((a ||| b : Nat) : Int) := by
  have hx : a ||| b < 2 ^ 63 := Nat.or_lt_two_pow (by omega) (by omega)
  show IntKind.i64.wrap ((BitVec.ofInt 64 (a : Int) ||| BitVec.ofInt 64 (b : Int)).toNat : Int) = _
  rw [BitVec.toNat_or, ofInt_i64 a ha, ofInt_i64 b hb, IntKind.wrap_i64]
  omega
end Go.Proofs.Ytnhbplnhhloklaa
