/- Contract of rising. -/
import Derived.Test.YtnhbplnhhloklaaC7
namespace Go.Proofs.Ytnhbplnhhloklaa
open Go.RowKit

/-- The first numbers of a list rise. -/
def RiseTo (l : List Int) (m : Int) (k : Nat) : Prop := ∀ i, i < k → (0 ≤ l.getD i 0 ∧ l.getD i 0 ≤ m - 1) ∧ (0 < i → l.getD (i - 1) 0 < l.getD i 0)
def Rising (l : List Int) (m : Int) : Prop := RiseTo l m l.length
theorem RiseTo.step {l : List Int} {m : Int} {k : Nat} (h : RiseTo l m k) (h1 : 0 ≤ l.getD k 0 ∧ l.getD k 0 ≤ m - 1) (h2 : 0 < k → l.getD (k - 1) 0 < l.getD k 0) : RiseTo l m (k + 1) := by
  intro i hi
  by_cases e : i = k
  · subst e; exact ⟨h1, h2⟩
  · exact h i (by omega)

set_option maxHeartbeats 2000000 in
theorem rising_any (w : World) (A : Option Addr) (l : List Int) (c : Nat) (m : Int) (hA : IntsAt w A l) (hl : l.length ≤ 100000) (hm : 0 ≤ m ∧ m ≤ 5) :
    Calls Try.prog 70 #[.slice A l.length c, .int .i64 m] w fun e w' => w = w' ∧ ∃ b : Bool, e = .returned (.bool b) ∧ (b = true ↔ Rising l m) := by
  go_enter Try.func70, Try.ntmps70
  go_wp2
  go_loop [9] (fun t => ∃ k : Nat, k ≤ l.length ∧ t = .int .i64 k ∧ Hid (RiseTo l m k)) (fun t => l.length - (intOf t).toNat)
  case atStart => exact ⟨0, Nat.zero_le _, rfl, Lib.hid (fun i hi => by omega)⟩
  case round =>
    obtain ⟨k, hk, rfl, hr⟩ := hrel
    by_cases hlt : k < l.length
    · obtain ⟨x, hx⟩ : ∃ x, l[k]? = some x := ⟨l[k], by simp [hlt]⟩
      have hxd : l.getD k 0 = x := by rw [List.getD_eq_getElem?_getD, hx]; rfl
      obtain ⟨b, o, rfl, hb, hc⟩ := hA k x hx
      by_cases h1 : 0 ≤ x ∧ x ≤ m - 1
      · have d1 : decide (0 ≤ x ∧ x ≤ m - 1) = true := decide_eq_true h1
        cases k with
        | zero =>
          have HN : Hid (RiseTo l m 1) := Lib.hid (hr.out.step (by rw [hxd]; exact h1) (fun h => by omega))
          rw [Nat.add_zero] at hc
          clear h1 hxd hx
          go_wp2_with (go_at_call 68; refine (within_any _ _ _ _).mono ?_; rintro e w' ⟨rfl, rfl⟩)
          go_round
          case rel => exact ⟨1, by omega, by go_num, HN⟩
          case measure => simp [intOf]; omega
        | succ j =>
          obtain ⟨y, hy⟩ : ∃ y, l[j]? = some y := ⟨l[j], by simp⟩
          have hyd : l.getD j 0 = y := by rw [List.getD_eq_getElem?_getD, hy]; rfl
          obtain ⟨b2, o2, hAe, hb2, hc2⟩ := hA j y hy
          cases hAe
          have hj0 : (0 : Int) ≤ j := by omega
          have hj1 : (j : Int) < l.length := by omega
          have hgt : decide ((0 : Int) < (j : Int) + 1) = true := decide_eq_true (by omega)
          by_cases h2 : x ≤ y
          · have d2 : decide (x ≤ y) = true := decide_eq_true h2
            have HN : Hid (¬ Rising l m) := Lib.hid (fun h => by
              have := (h (j + 1) hlt).2 (by omega)
              rw [Nat.add_sub_cancel, hxd, hyd] at this
              omega)
            clear h1 h2 hxd hx hyd hy
            go_wp2_with (go_at_call 68; refine (within_any _ _ _ _).mono ?_; rintro e w' ⟨rfl, rfl⟩)
            go_ret
            exact ⟨rfl, false, rfl, by simp; exact HN.out⟩
          · have d2 : decide (x ≤ y) = false := decide_eq_false h2
            have HN : Hid (RiseTo l m (j + 1 + 1)) := Lib.hid (hr.out.step (by rw [hxd]; exact h1) (fun h => by rw [Nat.add_sub_cancel, hxd, hyd]; omega))
            clear h1 h2 hxd hx hyd hy
            go_wp2_with (go_at_call 68; refine (within_any _ _ _ _).mono ?_; rintro e w' ⟨rfl, rfl⟩)
            go_round
            case rel => exact ⟨j + 1 + 1, by omega, by go_num, HN⟩
            case measure => simp [intOf]; omega
      · have d1 : decide (0 ≤ x ∧ x ≤ m - 1) = false := decide_eq_false h1
        have HN : Hid (¬ Rising l m) := Lib.hid (fun h => by
          have := (h k hlt).1
          rw [hxd] at this
          exact h1 this)
        clear h1 hxd hx
        go_wp2_with (go_at_call 68; refine (within_any _ _ _ _).mono ?_; rintro e w' ⟨rfl, rfl⟩)
        go_ret
        exact ⟨rfl, false, rfl, by simp; exact HN.out⟩
    · have hN : Hid (Rising l m) := Lib.hid (by
        have : k = l.length := by omega
        have h := hr.out
        rw [this] at h; exact h)
      go_wp2
      go_ret
      exact ⟨rfl, .inr ⟨rfl, hN.out⟩⟩
end Go.Proofs.Ytnhbplnhhloklaa
