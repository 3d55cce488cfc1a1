/- Contract of the law's inside; what more error does. -/
import Derived.Test.YtnhbplnhhloklaaH3
namespace Go.Proofs.Ytnhbplnhhloklaa
open Go.RowKit

set_option maxHeartbeats 4000000 in
theorem inside_any (w : World) (A B : Option Addr) (xs ys : List Int) (c d : Nat) (hA : IntsAt w A xs) (hB : IntsAt w B ys) (hl : xs.length ≤ 1000000) (hl2 : ys.length ≤ 1000000) :
    Calls Try.prog 60 #[.slice A xs.length c, .slice B ys.length d] w (BoolIff (∀ x ∈ xs, x ∈ ys) w) := by
  go_enter Try.func60, Try.ntmps60
  go_wp2_with fail
  go_loopw [5] (fun t wr => ∃ k m : Nat, k ≤ xs.length ∧ t = .int .i64 k ∧ wr = w.drewN m ∧ Hid (∀ x ∈ xs.take k, x ∈ ys)) (fun t _ => xs.length - (intOf t).toNat)
  case atStart => exact ⟨0, 0, Nat.zero_le _, rfl, rfl, Lib.hid (by simp)⟩
  case round =>
    obtain ⟨k, m, hk, rfl, rfl, hin⟩ := hrel
    by_cases hlt : k < xs.length
    · obtain ⟨x, hx⟩ : ∃ x, xs[k]? = some x := ⟨xs[k], by simp [hlt]⟩
      obtain ⟨b1, o1, rfl, hb1, hc1⟩ := hA k x hx
      have hTx := Lib.hid (take_step hx)
      have hk0 : (0 : Int) ≤ k := by omega
      have hk1 : (k : Int) < xs.length := by omega
      have HX := Lib.hid (List.mem_of_getElem? hx)
      clear hx
      go_wp2_with fail
      go_loopw [6, 7] (fun f t wr => ∃ j q : Nat, j ≤ ys.length ∧ t = .int .i64 j ∧ f = .bool (decide (x ∈ ys.take j)) ∧ wr = w.drewN q) (fun _ t _ => ys.length - (intOf t).toNat)
      case atStart => exact ⟨0, m, Nat.zero_le _, rfl, by simp, rfl⟩
      case round =>
        obtain ⟨j, q, hj, rfl, rfl, rfl⟩ := hrel
        by_cases hlj : j < ys.length
        · obtain ⟨y, hy⟩ : ∃ y, ys[j]? = some y := ⟨ys[j], by simp [hlj]⟩
          obtain ⟨b2, o2, rfl, hb2, hc2⟩ := hB j y hy
          have hTy := Lib.hid (take_step hy)
          have hj0 : (0 : Int) ≤ j := by omega
          have hj1 : (j : Int) < ys.length := by omega
          clear hy
          by_cases hf : x ∈ ys.take j
          · have hd : decide (x ∈ ys.take j) = true := decide_eq_true hf
            have HN : Hid (decide (x ∈ ys.take (j + 1)) = true) := Lib.hid (decide_eq_true (by rw [hTy.out, List.mem_append]; exact .inl hf))
            rw [hd]
            clear hf hd
            go_wp2_with fail
            go_quiet (fail)
            go_wp2_with fail
            go_roundw
            case rel => exact ⟨j + 1, q + nq, by omega, by go_num, by rw [HN.out], rfl⟩
            case measure => simp [intOf]; omega
          · have hd : decide (x ∈ ys.take j) = false := decide_eq_false hf
            have HN : Hid (decide (x ∈ ys.take (j + 1)) = (y == x)) := Lib.hid (by
              rw [Bool.eq_iff_iff, hTy.out]
              simp only [decide_eq_true_eq, List.mem_append, List.mem_singleton, beq_iff_eq]
              constructor
              · rintro (h | h)
                · exact absurd h hf
                · exact h.symm
              · exact fun h => .inr h.symm)
            rw [hd]
            clear hf hd
            go_wp2_with fail
            go_quiet (fail)
            go_wp2_with fail
            go_roundw
            case rel => exact ⟨j + 1, q + nq, by omega, by go_num, by rw [HN.out], rfl⟩
            case measure => simp [intOf]; omega
        · obtain rfl : j = ys.length := by omega
          rw [List.take_of_length_le (Nat.le_refl ys.length)]
          by_cases hf : x ∈ ys
          · have hd : decide (x ∈ ys) = true := decide_eq_true hf
            have HN : Hid (∀ z ∈ xs.take (k + 1), z ∈ ys) := Lib.hid (fun z hz => by
              rw [hTx.out, List.mem_append, List.mem_singleton] at hz
              rcases hz with hz | rfl
              · exact hin.out z hz
              · exact hf)
            rw [hd]
            clear hf hd
            go_wp2_with fail
            go_roundw
            case rel => exact ⟨k + 1, q, by omega, by go_num, rfl, HN⟩
            case measure => simp [intOf]; omega
          · have hd : decide (x ∈ ys) = false := decide_eq_false hf
            have HN : Hid (¬ ∀ z ∈ xs, z ∈ ys) := Lib.hid (fun h => hf (h x HX.out))
            rw [hd]
            clear hf hd
            go_wp2_with fail
            go_ret
            exact .no (below_drewN (Below.refl _ _) _) HN.out
    · have HN : Hid (∀ z ∈ xs, z ∈ ys) := Lib.hid (by
        have h := hin.out
        rwa [List.take_of_length_le (by omega)] at h)
      go_wp2_with fail
      go_ret
      exact .yes (below_drewN (Below.refl _ _) _) HN.out

section
variable {l : List Ang} {T C : Nat} {e e' : Int} {out : List Int}
theorem rm_mono (hr : ∀ a ∈ l, ReadOk a) (h : e ≤ e') (i : Nat) (hi : i < l.length) : rmLo l e' out l.length i ≤ rmLo l e out l.length i ∧ rmHi l e out l.length i ≤ rmHi l e' out l.length i := by
  have ha : l[i]? = some l[i] := by simp
  have hw : 0 ≤ l[i].w := by have := hr l[i] (by simp); unfold ReadOk at this; omega
  have hm := Int.mul_le_mul_of_nonneg_right h hw
  simp only [rmLo, rmHi, hi, if_true, ha]
  split
  · omega
  · unfold rLo rHi
    generalize e * l[i].w = x at *
    generalize e' * l[i].w = y at *
    omega
theorem canE_err (hr : ∀ a ∈ l, ReadOk a) (h : e ≤ e') (hc : CanE l T C e out) : CanE l T C e' out := can_mono hc fun i hi => rm_mono hr h i hi
theorem canE_all (hn : l.length ≤ 12) : CanE l T C e (outI (bitL (2 ^ l.length - 1))) → CanE l T C e' (outI (bitL (2 ^ l.length - 1))) := fun h => can_mono h fun i hi => by
  have ha : l[i]? = some l[i] := by simp
  have hm : (i : Int) ∈ outI (bitL (2 ^ l.length - 1)) := by rw [mem_outI, mem_all hn]; exact hi
  simp only [rmLo, rmHi, hi, if_true, ha, hm]
  omega
theorem ends_wide {lo hi lo' hi' : Nat → Int} {i : Nat} {a b a' b' : Int} (h : EndsAre l T C lo hi i a b) (h' : EndsAre l T C lo' hi' i a' b') (hle : ∀ j, j < l.length → lo' j ≤ lo j ∧ hi j ≤ hi' j) (hi0 : i < l.length) : a' ≤ a ∧ b ≤ b' := by
  have key : ∀ x, Can l T C (setAt lo i x) (setAt hi i x) → Can l T C (setAt lo' i x) (setAt hi' i x) := fun x hx => can_mono hx fun j hj => by
    unfold setAt
    by_cases e : j = i
    · rw [if_pos e, if_pos e, if_pos e, if_pos e]; omega
    · rw [if_neg e, if_neg e, if_neg e, if_neg e]; exact hle j hj
  have hi1 := hle i hi0
  constructor
  · by_cases e : a < a'
    · exact absurd (key a h.ca) (h'.na a (by have := h.a0; omega) e)
    · omega
  · by_cases e : b' < b
    · exact absurd (key b h.cb) (h'.nb b e (by have := h.b0; omega))
    · omega
theorem ctl_mono (hr : ∀ a ∈ l, ReadOk a) (h : e ≤ e') (he' : 0 ≤ e' ∧ e' ≤ 40) (hc : CanE l T C e []) {i : Nat} (hi : i < l.length) (hC : Ctl l T C e' i) : Ctl l T C e i := by
  obtain ⟨x', y', h1, h2⟩ := hC
  obtain ⟨x, y, h3⟩ := ends_exist (lo := rmLo l e [(i : Int)] l.length) (hi := rmHi l e [(i : Int)] l.length) hi (canE_out hc)
  refine ⟨x, y, h3, fun h4 => h2 ?_⟩
  have hw := ends_wide h3 h1 (fun j hj => rm_mono hr h j hj) hi
  have hR := rm_ok (out := [(i : Int)]) (k := l.length) hr he'
  have a1 := hR.lo0 i
  have a2 := hR.hi0 i
  have a3 := h1.a0
  have a4 := h1.b0
  omega
theorem leave_iff (hn : l.length ≤ 12) {ys : List Nat} (h : OutIs l T C e ys) : ¬ ∀ zs, Ext l.length 0 zs.length zs → ¬ CanE l T C e' (outI zs) := fun hz =>
  hz _ (bitL_ext (b := 2 ^ l.length - 1) (by have : 0 < 2 ^ l.length := Nat.pow_pos (by omega); omega)) (canE_all hn (can_all hn h.ext h.can))
theorem leave_short (hr : ∀ a ∈ l, ReadOk a) (h : e ≤ e') {ys zs : List Nat} (hy : OutIs l T C e ys) (hz : OutIs l T C e' zs) : zs.length ≤ ys.length := hz.short ys hy.ext (canE_err hr h hy.can)
theorem leave_none {ys : List Nat} (hy : OutIs l T C e ys) : CanE l T C e [] ↔ ys = [] := by
  constructor
  · intro h
    have := hy.short [] ⟨rfl, .nil, by simp⟩ h
    exact List.length_eq_zero_iff.1 (by simpa using this)
  · rintro rfl
    exact hy.can
end
end Go.Proofs.Ytnhbplnhhloklaa
