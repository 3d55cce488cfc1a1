/- The law on what is left out: its walk. -/
import Derived.Test.YtnhbplnhhloklaaG0
import Derived.Test.YtnhbplnhhloklaaH3
namespace Go.Proofs.Ytnhbplnhhloklaa
open Go.RowKit

set_option maxHeartbeats 8000000 in
set_option maxRecDepth 100000 in
theorem leaves_walk (w : World) (A : Option Addr) (l : List Ang) (c : Nat) (T C err : Int) (hA : AngAt w A l) (hl : l.length ≤ 9223372036854775807) :
    Calls Try.prog 8 #[.agg #[.slice A l.length c, .int .i64 T, .int .i64 C], .int .i64 err] w (Holds w) := by
  have hM := NMem.made w A l.length c T C
  by_cases hf : l.length ≤ 15 ∧ (faultN l T C ≠ 0 ∨ (l.length : Int) ≤ 8)
  · have hf' : decide (l.length ≤ 15 ∧ (faultN l T C ≠ 0 ∨ (l.length : Int) ≤ 8)) = true := decide_eq_true hf
    have HF := Lib.hid hf'
    have hl2 : l.length ≤ 1000 := by omega
    clear hf hf'
    go_enter Try.func8, Try.ntmps8
    go_wp2_with fail
    refine (few_any _ A l c T C 8 (hA.below hM.below) hl).mono ?_
    rintro e W1 ⟨hb1, he⟩
    rw [HF.out] at he
    subst he
    have hM1 := hM.step hb1
    clear hM hb1 HF
    have c0 := cell_of_block (j := 0) (v := .slice A l.length c) hM1.net rfl
    have c1 := cell_of_block (j := 1) (v := .int .i64 T) hM1.net rfl
    have c2 := cell_of_block (j := 2) (v := .int .i64 C) hM1.net rfl
    go_wp2_with fail
    refine (net_any _ A l c T C (hA.below hM1.below) hl2).mono ?_
    rintro e W2 ⟨hb2, B, d, rfl, hB, hBf⟩
    have hM2 := hM1.step hb2
    clear hM1 hb2 c0 c1 c2
    go_wp2_with fail
    refine (leave_any _ B l d T C err hB hl2 (fun b o e => (hBf b o e).2)).mono ?_
    rintro e W3 ⟨hb3, v, s, rfl, hvs⟩
    have HV := Lib.hid hvs
    have hM3 := hM2.step hb3
    clear hM2 hb3 hB hvs hBf
    have c0 := cell_of_block (j := 0) (v := .slice A l.length c) hM3.net rfl
    have c1 := cell_of_block (j := 1) (v := .int .i64 T) hM3.net rfl
    have c2 := cell_of_block (j := 2) (v := .int .i64 C) hM3.net rfl
    go_wp2_with fail
    refine (lasked_any _ A l c T C err (hA.below hM3.below) hl2).mono ?_
    rintro e W4 ⟨hb4, rfl⟩
    have hM4 := hM3.step hb4
    clear hM3 c0 c1 c2
    by_cases ha : askedN l T C err = 0
    · have ha' : (askedN l T C err != 0) = false := by simp [ha]
      have hz := askedN_zero ha
      obtain ⟨T, C, rfl, rfl, hV⟩ := valid_of hz.1
      have hE := hz.2
      have hcase : (s = 0 ∧ ∃ ys, OutIs l T C err ys ∧ W4.ownsRow W2.heap.size 3 1 v ys.length (outV ys)) ∨ (s = 9 ∧ v = .slice none 0 0 ∧ ∀ zs, Ext l.length 0 zs.length zs → ¬ CanE l T C err (outI zs)) := by
        rcases HV.out with ⟨h1, _⟩ | ⟨_, ⟨h1, ys, h2, h3⟩ | h1⟩
        · exact absurd ha h1
        · exact .inl ⟨h1, ys, h2, ownsRow_below h3 hb4 (Nat.le_refl _)⟩
        · exact .inr h1
      have HK := Lib.hid hcase
      have c0 := cell_of_block (j := 0) (v := .slice A l.length c) hM4.net rfl
      have c1 := cell_of_block (j := 1) (v := .int .i64 T) hM4.net rfl
      have c2 := cell_of_block (j := 2) (v := .int .i64 C) hM4.net rfl
      clear ha hz hcase HV hb4
      go_wp2_with fail
      refine (rleave_any _ A l c T C err (hA.below hM4.below) hV hE).mono ?_
      rintro e W5 ⟨hb5, v2, b, ys, rfl, how2, hy1, hy2⟩
      have hM5 := hM4.step hb5
      cases b with
      | false =>
        obtain ⟨rfl, rfl⟩ : s = 9 ∧ v = .slice none 0 0 := by
          rcases HK.out with ⟨_, zs, h2, _⟩ | ⟨h1, h2, _⟩
          · exact absurd h2.can (hy2 rfl zs h2.ext)
          · exact ⟨h1, h2⟩
        clear HK hM4 hb5 how2 hy1 hy2 c0 c1 c2
        go_wp2_with fail
        refine (awake_any _).mono ?_
        rintro e W6 ⟨hb6, rfl⟩
        go_wp2_with fail
        go_ret
        exact ⟨rfl, (hM5.step hb6).below⟩
      | true =>
        have hy := hy1 rfl
        obtain ⟨rfl, how1⟩ : s = 0 ∧ W4.ownsRow W2.heap.size 3 1 v ys.length (outV ys) := by
          rcases HK.out with ⟨h1, zs, h2, h3⟩ | ⟨_, _, h2⟩
          · rw [out_unique hy h2]
            exact ⟨h1, h3⟩
          · exact absurd hy.can (h2 ys hy.ext)
        obtain ⟨B1, d1, e1, hI1⟩ := own_ints (ownsRow_below how1 hb5 (Nat.le_refl _))
        obtain ⟨B2, d2, e2, hI2⟩ := own_ints how2
        have hl12 := hV.len.2
        have hyl := ext_len hy.ext
        have hjl : (outI ys).length ≤ 1000000 := by rw [outI_len]; omega
        subst e1
        subst e2
        clear HK hM4 hb5 how1 how2 hy1 hy2 hy c0 c1 c2
        go_wp2_with fail
        refine (ints_any _ B1 B2 (outI ys) (outI ys) d1 d2 hI1 hI2 hjl hjl).mono ?_
        rintro e W6 ⟨hb6, b, rfl, hb⟩
        obtain rfl : b = true := hb.2 rfl
        have hM6 := hM5.step hb6
        clear hb hb6 hM5
        go_wp2_with fail
        refine (awake_any _).mono ?_
        rintro e W7 ⟨hb7, rfl⟩
        go_wp2_with fail
        go_ret
        exact ⟨rfl, (hM6.step hb7).below⟩
    · have ha' : (askedN l T C err != 0) = true := by simp [ha]
      obtain ⟨rfl, rfl⟩ : v = .slice none 0 0 ∧ s = askedN l T C err := by
        rcases HV.out with ⟨_, h1, h2⟩ | ⟨h1, _⟩
        · exact ⟨h1, h2⟩
        · exact absurd h1 ha
      clear HV ha hb4
      go_wp2_with fail
      refine (awake_any _).mono ?_
      rintro e W6 ⟨hb6, rfl⟩
      go_wp2_with fail
      go_ret
      exact ⟨rfl, (hM4.step hb6).below⟩
  · have hf' : decide (l.length ≤ 15 ∧ (faultN l T C ≠ 0 ∨ (l.length : Int) ≤ 8)) = false := decide_eq_false hf
    have HF := Lib.hid hf'
    clear hf hf'
    go_enter Try.func8, Try.ntmps8
    go_wp2_with fail
    refine (few_any _ A l c T C 8 (hA.below hM.below) hl).mono ?_
    rintro e W1 ⟨hb1, he⟩
    rw [HF.out] at he
    subst he
    have hM1 := hM.step hb1
    go_wp2_with fail
    refine (awake_any _).mono ?_
    rintro e W6 ⟨hb6, rfl⟩
    go_wp2_with fail
    go_ret
    exact ⟨rfl, (hM1.step hb6).below⟩
end Go.Proofs.Ytnhbplnhhloklaa
