/- The law on the smallest error: its walk. -/
import Derived.Test.YtnhbplnhhloklaaF2
import Derived.Test.YtnhbplnhhloklaaE5
namespace Go.Proofs.Ytnhbplnhhloklaa
open Go.RowKit

/-- A law answers true and writes nothing that was there. -/
def Holds (w : World) (e : Ending) (w' : World) : Prop := e = .returned (.bool true) ∧ Below w.heap.size w w'

set_option maxHeartbeats 4000000 in
set_option maxRecDepth 100000 in
theorem leasts_walk (w : World) (A : Option Addr) (l : List Ang) (c : Nat) (T C : Int) (hA : AngAt w A l) (hl : l.length ≤ 9223372036854775807) :
    Calls Try.prog 4 #[.agg #[.slice A l.length c, .int .i64 T, .int .i64 C]] w (Holds w) := by
  have hM := NMem.made w A l.length c T C
  by_cases h1 : l.length ≤ 15
  · have h1' : decide (l.length ≤ 15) = true := decide_eq_true h1
    have hl2 : l.length ≤ 1000 := by omega
    go_enter Try.func4, Try.ntmps4
    go_wp2_with fail
    refine (thin_any _ _ _ _ _ _ hl).mono ?_
    rintro e W1 ⟨hb1, rfl⟩
    have hM1 := hM.step hb1
    clear hM hb1
    have c0 := cell_of_block (j := 0) (v := .slice A l.length c) hM1.net rfl
    have c1 := cell_of_block (j := 1) (v := .int .i64 T) hM1.net rfl
    have c2 := cell_of_block (j := 2) (v := .int .i64 C) hM1.net rfl
    go_wp2_with fail
    refine (net_any _ A l c T C (hA.below hM1.below) hl2).mono ?_
    rintro e W2 ⟨hb2, B, d, rfl, hB, _⟩
    have hM2 := hM1.step hb2
    clear hM1 hb2 c0 c1 c2
    go_wp2_with fail
    refine (least_any _ B l d T C hB hl2).mono ?_
    rintro e W3 ⟨hb3, n, s, rfl, hns⟩
    have HN := Lib.hid hns
    have hM3 := hM2.step hb3
    clear hM2 hb3 hB hns
    have c0 := cell_of_block (j := 0) (v := .slice A l.length c) hM3.net rfl
    have c1 := cell_of_block (j := 1) (v := .int .i64 T) hM3.net rfl
    have c2 := cell_of_block (j := 2) (v := .int .i64 C) hM3.net rfl
    go_wp2_with fail
    refine (lfault_any _ A l c T C (hA.below hM3.below) hl2).mono ?_
    rintro e W4 ⟨hb4, rfl⟩
    have hM4 := hM3.step hb4
    clear hM3 hb4 c0 c1 c2
    have c0 := cell_of_block (j := 0) (v := .slice A l.length c) hM4.net rfl
    have c1 := cell_of_block (j := 1) (v := .int .i64 T) hM4.net rfl
    have c2 := cell_of_block (j := 2) (v := .int .i64 C) hM4.net rfl
    by_cases h2 : faultN l T C = 0
    · have h2' : (faultN l T C != 0) = false := by simp [h2]
      obtain ⟨T, C, rfl, rfl, hV⟩ := valid_of h2
      have hL : LeastIs l T C n s := by
        rcases HN.out with ⟨h, _⟩ | ⟨_, h⟩
        · exact absurd h2 h
        · exact h
      have HL := Lib.hid hL
      clear h2 hL HN
      go_wp2_with fail
      refine (rleast_any _ A l c T C (hA.below hM4.below) hV).mono ?_
      rintro e W5 ⟨hb5, r, rfl, hr⟩
      have hM5 := hM4.step hb5
      clear hM4 hb5 c0 c1 c2
      have hcase : (n = r ∧ s = 0 ∧ 0 ≤ r) ∨ (n = 0 ∧ s = 9 ∧ r = -1) := by
        rcases HL.out with ⟨k, hk, hc, hno, rfl, rfl⟩ | ⟨hno, rfl, rfl⟩
        · rcases hr with ⟨j, hj, hc2, hno2, rfl⟩ | ⟨hno2, _⟩
          · have e : k = j := by
              by_cases e1 : k < j
              · exact absurd hc (hno2 k e1)
              · by_cases e2 : j < k
                · exact absurd hc2 (hno j e2)
                · omega
            exact .inl ⟨by rw [e], rfl, by omega⟩
          · exact absurd hc (hno2 k hk)
        · rcases hr with ⟨j, hj, hc2, _⟩ | ⟨_, rfl⟩
          · exact absurd hc2 (hno j hj)
          · exact .inr ⟨rfl, rfl, rfl⟩
      clear hr
      rcases hcase with ⟨rfl, rfl, h0⟩ | ⟨rfl, rfl, rfl⟩
      · have hd : decide (n < 0) = false := decide_eq_false (by omega)
        go_wp2_with fail
        refine (awake_any _).mono ?_
        rintro e W6 ⟨hb6, rfl⟩
        go_wp2_with fail
        go_ret
        exact ⟨rfl, (hM5.step hb6).below⟩
      · go_wp2_with fail
        refine (awake_any _).mono ?_
        rintro e W6 ⟨hb6, rfl⟩
        go_wp2_with fail
        go_ret
        exact ⟨rfl, (hM5.step hb6).below⟩
    · have h2' : (faultN l T C != 0) = true := by simp [h2]
      have hcase : n = 0 ∧ s = faultN l T C := by
        rcases HN.out with ⟨_, h⟩ | ⟨h, _⟩
        · exact h
        · exact absurd h h2
      obtain ⟨rfl, rfl⟩ := hcase
      clear h2 HN
      go_wp2_with fail
      refine (awake_any _).mono ?_
      rintro e W6 ⟨hb6, rfl⟩
      go_wp2_with fail
      go_ret
      exact ⟨rfl, (hM4.step hb6).below⟩
  · have h1' : decide (l.length ≤ 15) = false := decide_eq_false h1
    clear h1
    go_enter Try.func4, Try.ntmps4
    go_wp2_with fail
    refine (thin_any _ _ _ _ _ _ hl).mono ?_
    rintro e W1 ⟨hb1, rfl⟩
    have hM1 := hM.step hb1
    go_wp2_with fail
    refine (awake_any _).mono ?_
    rintro e W6 ⟨hb6, rfl⟩
    go_wp2_with fail
    go_ret
    exact ⟨rfl, (hM1.step hb6).below⟩
end Go.Proofs.Ytnhbplnhhloklaa
