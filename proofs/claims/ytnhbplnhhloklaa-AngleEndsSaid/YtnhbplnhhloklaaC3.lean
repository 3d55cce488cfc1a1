/- Contracts of angle (a method) and all. -/
import Derived.Test.YtnhbplnhhloklaaC2
namespace Go.Proofs.Ytnhbplnhhloklaa
open Go.RowKit

/-- An angle is one of a net. -/
def AOk (T C : Int) (a : Ang) : Prop := (-1 ≤ a.t ∧ a.t ≤ T - 1) ∧ (-1 ≤ a.c ∧ a.c ≤ C - 1) ∧ (0 ≤ a.r ∧ a.r ≤ 40) ∧ (1 ≤ a.w ∧ a.w ≤ 3)
instance (T C : Int) (a : Ang) : Decidable (AOk T C a) := by unfold AOk; exact inferInstance

set_option maxHeartbeats 1000000 in
theorem angle_any (w : World) (A : Option Addr) (n c : Nat) (T C : Int) (a : Ang) (hT : 0 ≤ T ∧ T ≤ 5) (hC : 0 ≤ C ∧ C ≤ 5) :
    Calls Try.prog 72 #[.agg #[.slice A n c, .int .i64 T, .int .i64 C], .agg #[.int .i64 a.t, .int .i64 a.c, .int .i64 a.r, .int .i64 a.w]] w fun e w' => Below w.heap.size w w' ∧ e = .returned (.bool (decide (AOk T C a))) := by
  obtain ⟨t, cc, r, wt⟩ := a
  by_cases h1 : -1 ≤ t ∧ t ≤ T - 1
  · have d1 : decide (-1 ≤ t ∧ t ≤ T - 1) = true := decide_eq_true h1
    by_cases h2 : -1 ≤ cc ∧ cc ≤ C - 1
    · have d2 : decide (-1 ≤ cc ∧ cc ≤ C - 1) = true := decide_eq_true h2
      by_cases h3 : 0 ≤ r ∧ r ≤ 40
      · have d3 : decide (0 ≤ r ∧ r ≤ 40) = true := decide_eq_true h3
        have HH := Lib.hid (⟨h1, h2, h3⟩ : _ ∧ _ ∧ _)
        clear h1 h2 h3
        go_enter Try.func72, Try.ntmps72
        go_wp2_with (go_at_call 68; refine (within_any _ _ _ _).mono ?_; rintro e w' ⟨rfl, rfl⟩)
        go_ret
        refine ⟨((Below.refl _ w).alloc (Nat.le_refl _) _).alloc (by simp) _, ?_⟩
        obtain ⟨h1, h2, h3⟩ := HH.out
        simp [AOk, h1, h2, h3]
      · have d3 : decide (0 ≤ r ∧ r ≤ 40) = false := decide_eq_false h3
        have HH := Lib.hid h3
        clear h1 h2 h3
        go_enter Try.func72, Try.ntmps72
        go_wp2_with (go_at_call 68; refine (within_any _ _ _ _).mono ?_; rintro e w' ⟨rfl, rfl⟩)
        go_ret
        refine ⟨((Below.refl _ w).alloc (Nat.le_refl _) _).alloc (by simp) _, ?_⟩
        have e : ¬ AOk T C ⟨t, cc, r, wt⟩ := fun h => HH.out h.2.2.1
        simp [e]
    · have d2 : decide (-1 ≤ cc ∧ cc ≤ C - 1) = false := decide_eq_false h2
      have HH := Lib.hid h2
      clear h1 h2
      go_enter Try.func72, Try.ntmps72
      go_wp2_with (go_at_call 68; refine (within_any _ _ _ _).mono ?_; rintro e w' ⟨rfl, rfl⟩)
      go_ret
      refine ⟨((Below.refl _ w).alloc (Nat.le_refl _) _).alloc (by simp) _, ?_⟩
      have e : ¬ AOk T C ⟨t, cc, r, wt⟩ := fun h => HH.out h.2.1
      simp [e]
  · have d1 : decide (-1 ≤ t ∧ t ≤ T - 1) = false := decide_eq_false h1
    have HH := Lib.hid h1
    clear h1
    go_enter Try.func72, Try.ntmps72
    go_wp2_with (go_at_call 68; refine (within_any _ _ _ _).mono ?_; rintro e w' ⟨rfl, rfl⟩)
    go_ret
    refine ⟨((Below.refl _ w).alloc (Nat.le_refl _) _).alloc (by simp) _, ?_⟩
    have e : ¬ AOk T C ⟨t, cc, r, wt⟩ := fun h => HH.out h.1
    simp [e]

theorem all1_any (w : World) (Bf : Nat) (A : Option Addr) (n c : Nat) (T C : Int) (a : Ang) (hT : 0 ≤ T ∧ T ≤ 5) (hC : 0 ≤ C ∧ C ≤ 5) (hf : w.heap[Bf]? = some (.cells #[.func (.func 72) #[.agg #[.slice A n c, .int .i64 T, .int .i64 C]] #[]] 115 (0, 0))) :
    Calls Try.prog 100 #[.agg #[.int .i64 a.t, .int .i64 a.c, .int .i64 a.r, .int .i64 a.w], .pointer (some ⟨Bf, 0, none⟩)] w fun e w' => Below w.heap.size w w' ∧ e = .returned (.bool (!decide (AOk T C a))) := by
  have hl := (Array.getElem?_eq_some_iff.1 hf).1
  have hc := cell_of_block (j := 0) (v := .func (.func 72) #[.agg #[.slice A n c, .int .i64 T, .int .i64 C]] #[]) hf rfl
  go_enter Try.func100, Try.ntmps100
  go_wp2_with (go_at_call 72; refine (angle_any _ A n c T C a hT hC).mono ?_; rintro e w' ⟨hbe, rfl⟩)
  go_ret
  exact ⟨((Below.refl _ w).alloc (Nat.le_refl _) _).trans (hbe.mono (by simp)), rfl⟩

set_option maxHeartbeats 1000000 in
theorem indexFunc_any (w : World) (Bf : Nat) (A : Option Addr) (l : List Ang) (c : Nat) (T C : Int) (hA : AngAt w A l) (hl : l.length ≤ 1000) (hT : 0 ≤ T ∧ T ≤ 5) (hC : 0 ≤ C ∧ C ≤ 5) (hf : w.heap[Bf]? = some (.cells #[.func (.func 72) #[.agg #[.slice A l.length c, .int .i64 T, .int .i64 C]] #[]] 115 (0, 0))) :
    Calls Try.prog 122 #[.slice A l.length c, .func (.func 100) #[] #[.pointer (some ⟨Bf, 0, none⟩)]] w fun e w' => Below w.heap.size w w' ∧ ∃ r : Int, e = .returned (.int .i64 r) ∧ (0 ≤ r ↔ ∃ a ∈ l, ¬ AOk T C a) := by
  have hlf := (Array.getElem?_eq_some_iff.1 hf).1
  go_enter Try.func122, Try.ntmps122
  go_wp2
  go_loopw [8] (fun t wr => ∃ k : Nat, k ≤ l.length ∧ t = .int .i64 k ∧ Below w.heap.size w wr ∧ Hid (∀ a ∈ l.take k, AOk T C a)) (fun t _ => l.length - (intOf t).toNat)
  case atStart => exact ⟨0, Nat.zero_le _, rfl, Below.refl _ _, Lib.hid (by simp)⟩
  case round =>
    obtain ⟨k, hk, rfl, hbel, hall⟩ := hrel
    by_cases hlt : k < l.length
    · obtain ⟨a, ha⟩ : ∃ a, l[k]? = some a := ⟨l[k], by simp [hlt]⟩
      obtain ⟨b, o, rfl, hb, ha0, ha1, ha2, ha3⟩ := hA.below hbel k a ha
      have hfr := (hbel.block _ hlf).trans hf
      have hmem : a ∈ l := List.mem_of_getElem? ha
      have htake : l.take (k + 1) = l.take k ++ [a] := by
        have : l[k] = a := by rw [List.getElem?_eq_getElem hlt] at ha; exact Option.some.inj ha
        rw [List.take_succ_eq_append_getElem hlt, this]
      by_cases hok : AOk T C a
      · have hd : decide (AOk T C a) = true := decide_eq_true hok
        have HN : Hid (∀ x ∈ l.take (k + 1), AOk T C x) := Lib.hid (by
          rw [htake]; intro x hx
          rcases List.mem_append.1 hx with h | h
          · exact hall.out x h
          · rw [List.mem_singleton.1 h]; exact hok)
        clear hok htake hmem ha
        go_wp2_with (go_at_call 100; refine (all1_any _ Bf _ _ _ T C a hT hC hfr).mono ?_; rintro e w' ⟨hbe, rfl⟩)
        go_roundw
        case rel => exact ⟨k + 1, by omega, by go_num, hbel.trans (hbe.mono hbel.size), HN⟩
        case measure => simp [intOf]; omega
      · have hd : decide (AOk T C a) = false := decide_eq_false hok
        have HN : Hid (∃ x ∈ l, ¬ AOk T C x) := Lib.hid ⟨a, hmem, hok⟩
        clear hok htake hmem ha
        go_wp2_with (go_at_call 100; refine (all1_any _ Bf _ _ _ T C a hT hC hfr).mono ?_; rintro e w' ⟨hbe, rfl⟩)
        go_ret
        exact ⟨hbel.trans (hbe.mono hbel.size), k, rfl, fun _ => HN.out, fun _ => by omega⟩
    · have hkl : Hid (∀ a ∈ l, AOk T C a) := Lib.hid (by
        have : l.take k = l := List.take_of_length_le (by omega)
        rw [this] at hall; exact hall.out)
      clear hall
      go_wp2
      go_ret
      refine ⟨hbel, -1, rfl, fun h => by omega, ?_⟩
      rintro ⟨a, ha, hn⟩
      exact absurd (hkl.out a ha) hn
theorem containsFunc_any (w : World) (Bf : Nat) (A : Option Addr) (l : List Ang) (c : Nat) (T C : Int) (hA : AngAt w A l) (hl : l.length ≤ 1000) (hT : 0 ≤ T ∧ T ≤ 5) (hC : 0 ≤ C ∧ C ≤ 5) (hf : w.heap[Bf]? = some (.cells #[.func (.func 72) #[.agg #[.slice A l.length c, .int .i64 T, .int .i64 C]] #[]] 115 (0, 0))) :
    Calls Try.prog 99 #[.slice A l.length c, .func (.func 100) #[] #[.pointer (some ⟨Bf, 0, none⟩)]] w fun e w' => Below w.heap.size w w' ∧ ∃ b : Bool, e = .returned (.bool b) ∧ (b = true ↔ ∃ a ∈ l, ¬ AOk T C a) := by
  go_enter Try.func99, Try.ntmps99
  go_wp2_with (go_at_call 122; refine (indexFunc_any _ Bf A l c T C hA hl hT hC hf).mono ?_; rintro e w' ⟨hbe, r, rfl, hr⟩; have HR := Lib.hid hr; clear hr)
  go_ret
  exact ⟨hbe, _, rfl, by rw [← HR.out]; simp⟩
theorem all_any (w : World) (A : Option Addr) (l : List Ang) (c : Nat) (T C : Int) (hA : AngAt w A l) (hl : l.length ≤ 1000) (hT : 0 ≤ T ∧ T ≤ 5) (hC : 0 ≤ C ∧ C ≤ 5) :
    Calls Try.prog 73 #[.slice A l.length c, .func (.func 72) #[.agg #[.slice A l.length c, .int .i64 T, .int .i64 C]] #[]] w fun e w' => Below w.heap.size w w' ∧ e = .returned (.bool (decide (∀ a ∈ l, AOk T C a))) := by
  have hbl : Below w.heap.size w (w.alloc (.cells #[.func (.func 72) #[.agg #[.slice A l.length c, .int .i64 T, .int .i64 C]] #[]] 115)) := (Below.refl _ w).alloc (Nat.le_refl _) _
  go_enter Try.func73, Try.ntmps73
  go_wp2_with (go_at_call 99; refine (containsFunc_any _ w.heap.size A l c T C (hA.below hbl) hl hT hC (MapKept.heap_alloc w _).1).mono ?_; rintro e w' ⟨hbe, b, rfl, hb⟩; have HB := Lib.hid hb; clear hb)
  go_ret
  refine ⟨hbl.trans (hbe.mono hbl.size), ?_⟩
  have e : (!b) = decide (∀ a ∈ l, AOk T C a) := by
    have h0 := HB.out
    cases b with
    | true =>
      obtain ⟨a, ha, hn⟩ := h0.1 rfl
      exact (decide_eq_false (fun h => hn (h a ha))).symm
    | false =>
      exact (decide_eq_true (fun a ha => Classical.byContradiction fun hn => by
        have := h0.2 ⟨a, ha, hn⟩
        cases this)).symm
  exact congrArg (fun x => Ending.returned (.bool x)) e
end Go.Proofs.Ytnhbplnhhloklaa
