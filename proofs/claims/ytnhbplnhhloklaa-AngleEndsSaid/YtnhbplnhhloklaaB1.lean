/- Contracts of Index, Contains, within and everything. -/
import Derived.Test.YtnhbplnhhloklaaB0
namespace Go.Proofs.Ytnhbplnhhloklaa
open Go.RowKit

/-- Numbers lie in memory. -/
def IntsAt (W : World) (A : Option Addr) (l : List Int) : Prop := ∀ i x, l[i]? = some x → ∃ b o, A = some ⟨b, o, none⟩ ∧ b < W.heap.size ∧ W.cell? ⟨b, o + i, none⟩ = some (.int .i64 x)
theorem IntsAt.nil (W : World) (A : Option Addr) : IntsAt W A [] := fun i x h => by simp at h
theorem IntsAt.below {W W' : World} {A : Option Addr} {l : List Int} (h : IntsAt W A l) (hb : Below W.heap.size W W') : IntsAt W' A l := by
  intro i a hi
  obtain ⟨b, o, hA, hl, h1⟩ := h i a hi
  exact ⟨b, o, hA, Nat.lt_of_lt_of_le hl hb.size, (hb.cell (p := ⟨b, _, none⟩) hl).trans h1⟩

set_option maxHeartbeats 1000000 in
theorem index_any (w : World) (A : Option Addr) (l : List Int) (c : Nat) (v : Int) (hA : IntsAt w A l) (hl : l.length ≤ 1000000) :
    Calls Try.prog 98 #[.slice A l.length c, .int .i64 v] w fun e w' => w = w' ∧ ∃ r : Int, e = .returned (.int .i64 r) ∧ ((0 ≤ r) ↔ v ∈ l) := by
  go_enter Try.func98, Try.ntmps98
  go_wp2
  go_loop [8] (fun t => ∃ k : Nat, k ≤ l.length ∧ t = .int .i64 k ∧ v ∉ l.take k) (fun t => l.length - (intOf t).toNat)
  case atStart => exact ⟨0, Nat.zero_le _, rfl, by simp⟩
  case round =>
    obtain ⟨k, hk, rfl, hno⟩ := hrel
    by_cases hlt : k < l.length
    · obtain ⟨x, hx⟩ : ∃ x, l[k]? = some x := ⟨l[k], by simp [hlt]⟩
      obtain ⟨b, o, rfl, hb, hc⟩ := hA k x hx
      have hxl : l[k] = x := by rw [List.getElem?_eq_getElem hlt] at hx; exact Option.some.inj hx
      by_cases hv : v = x
      · have hv' : (v == x) = true := by simp [hv]
        have hmem : v ∈ l := by rw [hv, ← hxl]; exact List.getElem_mem hlt
        have HM := Lib.hid hmem
        clear hmem hv hxl hx
        go_wp2
        go_ret
        exact ⟨rfl, k, rfl, by simp; exact HM.out⟩
      · have hv' : (v == x) = false := by simp [hv]
        have hno2 : v ∉ l.take (k + 1) := by
          rw [List.take_succ_eq_append_getElem hlt, List.mem_append]
          rintro (h | h)
          · exact hno h
          · rw [hxl] at h; exact hv (List.mem_singleton.1 h)
        have HM := Lib.hid hno2
        clear hno2 hv hxl hx
        go_wp2
        go_round
        case rel => exact ⟨k + 1, by omega, by go_num, HM.out⟩
        case measure => simp [intOf]; omega
    · have hkl : Hid (v ∉ l) := by
        have : l.take k = l := List.take_of_length_le (by omega)
        rw [this] at hno; exact hno
      clear hno
      go_wp2
      go_ret
      exact ⟨rfl, -1, rfl, by simp; exact hkl.out⟩

theorem contains_any (w : World) (A : Option Addr) (l : List Int) (c : Nat) (v : Int) (hA : IntsAt w A l) (hl : l.length ≤ 1000000) :
    Calls Try.prog 71 #[.slice A l.length c, .int .i64 v] w fun e w' => w = w' ∧ e = .returned (.bool (decide (v ∈ l))) := by
  go_enter Try.func71, Try.ntmps71
  go_wp2_with (go_at_call 98; refine (index_any _ _ _ _ _ hA hl).mono ?_; rintro e w' ⟨rfl, r, rfl, hr⟩)
  go_ret
  exact ⟨rfl, rfl⟩

theorem everything_any (w : World) : Calls Try.prog 81 #[] w fun e w' => e = .returned (.agg #[.int .i64 0, .int .i64 40]) ∧ Below w.heap.size w w' := by
  go_enter Try.func81, Try.ntmps81
  go_wp2
  exact bodyPost_ret (v := .agg #[.int .i64 0, .int .i64 40]) (by simp [results, Try.results81, go_sem]) rfl ⟨rfl, (Below.refl _ w).alloc (Nat.le_refl _) _⟩
theorem within_any (n lo hi : Int) (w : World) : Calls Try.prog 68 #[.int .i64 n, .int .i64 lo, .int .i64 hi] w fun e w' => w = w' ∧ e = .returned (.bool (decide (lo ≤ n ∧ n ≤ hi))) := by
  by_cases h : lo ≤ n
  · have h' : decide (lo ≤ n) = true := by simpa using h
    go_enter Try.func68, Try.ntmps68
    go_wp2
    go_ret
    exact ⟨rfl, by simp [h]⟩
  · have h' : decide (lo ≤ n) = false := by simpa using h
    go_enter Try.func68, Try.ntmps68
    go_wp2
    go_ret
    exact ⟨rfl, by simp⟩
end Go.Proofs.Ytnhbplnhhloklaa
