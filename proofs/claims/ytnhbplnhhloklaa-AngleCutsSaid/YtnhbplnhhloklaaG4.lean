/- The law on cuts that Prove tells: its walk. -/
import Derived.Test.YtnhbplnhhloklaaG0
import Derived.Test.YtnhbplnhhloklaaD4
import Derived.Test.YtnhbplnhhloklaaH0
namespace Go.Proofs.Ytnhbplnhhloklaa
open Go.RowKit

theorem rise_ge {l : List Int} {m : Int} {k : Nat} (h : RiseTo l m k) : ∀ i, i < k → (i : Int) ≤ l.getD i 0
  | 0, h0 => (h 0 h0).1.1
  | i + 1, h1 => by
    have h2 := rise_ge h i (by omega)
    have h3 := (h (i + 1) h1).2 (by omega)
    rw [show i + 1 - 1 = i by omega] at h3
    omega
theorem rising_len {ks : List Int} {T : Nat} (h : Rising ks T) : ks.length ≤ T := by
  by_cases e : ks.length = 0
  · omega
  · have h1 := rise_ge h (ks.length - 1) (by omega)
    have h2 := (h (ks.length - 1) (by omega)).1.2
    omega
theorem askedN_small {l : List Ang} {T C err : Int} : askedN l T C err ≠ 9 := by
  unfold askedN
  by_cases h : faultN l T C ≠ 0
  · rw [if_pos h]
    unfold faultN
    split
    · decide
    · split <;> decide
  · rw [if_neg h]
    split <;> decide

set_option maxHeartbeats 8000000 in
set_option maxRecDepth 100000 in
theorem cuts_walk (w : World) (A : Option Addr) (l : List Ang) (c : Nat) (T C err : Int) (hA : AngAt w A l) (hl : l.length ≤ 9223372036854775807) :
    Calls Try.prog 16 #[.agg #[.slice A l.length c, .int .i64 T, .int .i64 C], .int .i64 err] w (Holds w) := by
  have hM := NMem.made w A l.length c T C
  by_cases h1 : l.length ≤ 15
  · have h1' : decide (l.length ≤ 15) = true := decide_eq_true h1
    have HL := Lib.hid h1'
    have hl2 : l.length ≤ 1000 := by omega
    clear h1 h1'
    go_enter Try.func16, Try.ntmps16
    go_wp2_with fail
    refine (thin_any _ _ _ _ _ _ hl).mono ?_
    rintro e W1 ⟨hb1, he⟩
    rw [HL.out] at he
    subst he
    have hM1 := hM.step hb1
    clear hM hb1 HL
    have c0 := cell_of_block (j := 0) (v := .slice A l.length c) hM1.net rfl
    have c1 := cell_of_block (j := 1) (v := .int .i64 T) hM1.net rfl
    have c2 := cell_of_block (j := 2) (v := .int .i64 C) hM1.net rfl
    go_wp2_with fail
    refine (net_any _ A l c T C (hA.below hM1.below) hl2).mono ?_
    rintro e W2 ⟨hb2, B, d, rfl, hB, _⟩
    have hM2 := hM1.step hb2
    clear hM1 hb2 c0 c1 c2
    go_wp2_with fail
    refine (prove_any _ B l d T C err hB hl2).mono ?_
    rintro e W3 ⟨hb3, P, Q, s, rfl, hpq⟩
    have hM3 := hM2.step hb3
    have hcase : ∃ B1 ts d1 B2 cs d2, P = .slice B1 (ts : List Int).length d1 ∧ Q = .slice B2 (cs : List Int).length d2 ∧ IntsAt W3 B1 ts ∧ IntsAt W3 B2 cs ∧ ((askedN l T C err ≠ 0 ∧ ts = [] ∧ cs = [] ∧ s = askedN l T C err) ∨ (askedN l T C err = 0 ∧ ((s = 7 ∧ ts = [] ∧ cs = [] ∧ CanE l T.toNat C.toNat err []) ∨ (s = 0 ∧ ¬ CanE l T.toNat C.toNat err [] ∧ Rising ts T.toNat ∧ Rising cs C.toNat ∧ ProvesL l ts cs (rmLo l err [] l.length) (rmHi l err [] l.length))))) := by
      rcases hpq with ⟨h1, rfl, rfl, h2⟩ | ⟨h1, ⟨rfl, rfl, rfl, h2⟩ | ⟨rfl, h2, ts, cs, h3, h4, h5⟩⟩
      · exact ⟨none, [], 0, none, [], 0, rfl, rfl, .nil _ _, .nil _ _, .inl ⟨h1, rfl, rfl, h2⟩⟩
      · exact ⟨none, [], 0, none, [], 0, rfl, rfl, .nil _ _, .nil _ _, .inr ⟨h1, .inl ⟨rfl, rfl, rfl, h2⟩⟩⟩
      · obtain ⟨B1, d1, e1, i1⟩ := own_ints h4
        obtain ⟨B2, d2, e2, i2⟩ := own_ints h5
        exact ⟨B1, _, d1, B2, _, d2, e1, e2, i1, i2, .inr ⟨h1, .inr ⟨rfl, h2, h3⟩⟩⟩
    clear hpq
    obtain ⟨B1, ts, d1, B2, cs, d2, rfl, rfl, hI1, hI2, hcase⟩ := hcase
    have HC := Lib.hid hcase
    clear hM2 hB hb3 hcase
    have c0 := cell_of_block (j := 0) (v := .slice A l.length c) hM3.net rfl
    have c1 := cell_of_block (j := 1) (v := .int .i64 T) hM3.net rfl
    have c2 := cell_of_block (j := 2) (v := .int .i64 C) hM3.net rfl
    have hbA : Below W3.heap.size W3 (W3.alloc (.cells #[.slice B1 ts.length d1, .slice B2 cs.length d2] 37)) := (Below.refl _ W3).alloc (Nat.le_refl _) _
    have hcA : (W3.alloc (.cells #[.slice B1 ts.length d1, .slice B2 cs.length d2] 37)).heap[W3.heap.size]? = some (.cells #[.slice B1 ts.length d1, .slice B2 cs.length d2] 37 (0, 0)) := at_alloc rfl
    have hM4 := hM3.step hbA
    have hs3 := hM3.lt
    go_wp2_with fail
    generalize W3.alloc (.cells #[.slice B1 ts.length d1, .slice B2 cs.length d2] 37) = W4 at *
    refine (lsure_any _ A l c T C err (hA.below hM4.below) hl2).mono ?_
    rintro e W5 ⟨hb5, r, rfl, hr⟩
    have hM5 := hM4.step hb5
    have hb35 := hbA.trans (hb5.mono hbA.size)
    have hc5 := (hb5.block _ (Array.getElem?_eq_some_iff.1 hcA).1).trans hcA
    have hJ1 := hI1.below hb35
    have hJ2 := hI2.below hb35
    have hcase2 : (askedN l T C err ≠ 0 ∧ ts = [] ∧ cs = [] ∧ s = r ∧ r ≠ 0 ∧ r ≠ 9) ∨ (s = 7 ∧ r = 0 ∧ ts = [] ∧ cs = []) ∨ (s = 0 ∧ r = 9 ∧ askedN l T C err = 0 ∧ Rising ts T.toNat ∧ Rising cs C.toNat ∧ ProvesL l ts cs (rmLo l err [] l.length) (rmHi l err [] l.length)) := by
      rcases HC.out with ⟨h1, h2, h3, h4⟩ | ⟨h1, ⟨h2, h3, h4, h5⟩ | ⟨h2, h3, h4⟩⟩
      · rcases hr with ⟨_, rfl⟩ | ⟨h5, _⟩
        · exact .inl ⟨h1, h2, h3, h4, h1, askedN_small⟩
        · exact absurd h5 h1
      · rcases hr with ⟨h6, _⟩ | ⟨_, ⟨h6, _⟩ | ⟨_, h6⟩⟩
        · exact absurd h1 h6
        · exact .inr (.inl ⟨h2, h6, h3, h4⟩)
        · exact absurd h5 h6
      · rcases hr with ⟨h6, _⟩ | ⟨_, ⟨_, h6⟩ | ⟨h6, _⟩⟩
        · exact absurd h1 h6
        · exact absurd h6 h3
        · exact .inr (.inr ⟨h2, h6, h1, h4⟩)
    have k0 := cell_of_block (j := 0) (v := .slice B1 ts.length d1) hc5 rfl
    have k1 := cell_of_block (j := 1) (v := .slice B2 cs.length d2) hc5 rfl
    clear HC hr hM3 hM4 hbA hcA hb5 hb35 hc5 hI1 hI2 c0 c1 c2
    rcases hcase2 with ⟨_, rfl, rfl, rfl, h3, h4⟩ | ⟨rfl, rfl, rfl, rfl⟩ | ⟨rfl, rfl, h3, h4, h5, h6⟩
    · have d1' : (s == 0) = false := by simp [h3]
      have d2' : (s == 9) = false := by simp [h4]
      go_wp2_with fail
      refine (awake_any _).mono ?_
      rintro e W6 ⟨hb6, rfl⟩
      go_wp2_with fail
      go_ret
      exact ⟨rfl, (hM5.step hb6).below⟩
    · go_wp2_with fail
      refine (awake_any _).mono ?_
      rintro e W6 ⟨hb6, rfl⟩
      go_wp2_with fail
      go_ret
      exact ⟨rfl, (hM5.step hb6).below⟩
    · have hz := askedN_zero h3
      obtain ⟨T, C, rfl, rfl, hV⟩ := valid_of hz.1
      have hE := hz.2
      have hT5 := hV.net.hT
      have hC5 := hV.net.hC
      have hl4 := rising_len h4
      have hl5 := rising_len h5
      rw [Int.toNat_natCast] at hl4 hl5
      have HP := Lib.hid (And.intro h4 (And.intro h5 h6))
      clear h3 h4 h5 h6 hz
      have c0 := cell_of_block (j := 0) (v := .slice A l.length c) hM5.net rfl
      have c1 := cell_of_block (j := 1) (v := .int .i64 T) hM5.net rfl
      have c2 := cell_of_block (j := 2) (v := .int .i64 C) hM5.net rfl
      go_wp2_with fail
      refine (rproves_any _ A B1 B2 l ts cs c d1 d2 T C err (hA.below hM5.below) hV hE hJ1 hJ2 (by omega) (by omega)).mono ?_
      rintro e W6 ⟨hb6, b, rfl, hb⟩
      obtain rfl : b = true := hb.2 HP.out
      have hM6 := hM5.step hb6
      clear hb hM5
      go_wp2_with fail
      refine (awake_any _).mono ?_
      rintro e W7 ⟨hb7, rfl⟩
      go_wp2_with fail
      go_ret
      exact ⟨rfl, (hM6.step hb7).below⟩
  · have h1' : decide (l.length ≤ 15) = false := decide_eq_false h1
    have HL := Lib.hid h1'
    clear h1 h1'
    go_enter Try.func16, Try.ntmps16
    go_wp2_with fail
    refine (thin_any _ _ _ _ _ _ hl).mono ?_
    rintro e W1 ⟨hb1, he⟩
    rw [HL.out] at he
    subst he
    have hM1 := hM.step hb1
    go_wp2_with fail
    refine (awake_any _).mono ?_
    rintro e W6 ⟨hb6, rfl⟩
    go_wp2_with fail
    go_ret
    exact ⟨rfl, (hM1.step hb6).below⟩
end Go.Proofs.Ytnhbplnhhloklaa
