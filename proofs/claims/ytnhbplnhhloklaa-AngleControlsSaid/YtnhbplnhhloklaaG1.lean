/- The law on what is controlled: its walk. -/
import Derived.Test.YtnhbplnhhloklaaG0
namespace Go.Proofs.Ytnhbplnhhloklaa
open Go.RowKit

set_option maxHeartbeats 8000000 in
set_option maxRecDepth 100000 in
theorem controls_walk (w : World) (A : Option Addr) (l : List Ang) (c : Nat) (T C err : Int) (hA : AngAt w A l) (hl : l.length ≤ 9223372036854775807) :
    Calls Try.prog 6 #[.agg #[.slice A l.length c, .int .i64 T, .int .i64 C], .int .i64 err] w (Holds w) := by
  have hM := NMem.made w A l.length c T C
  by_cases hf : l.length ≤ 15 ∧ (faultN l T C ≠ 0 ∨ (l.length : Int) ≤ 8)
  · have hf' : decide (l.length ≤ 15 ∧ (faultN l T C ≠ 0 ∨ (l.length : Int) ≤ 8)) = true := decide_eq_true hf
    have HF := Lib.hid hf'
    have hl2 : l.length ≤ 1000 := by omega
    clear hf hf'
    go_enter Try.func6, Try.ntmps6
    go_wp2_with fail
    refine (few_any _ A l c T C 8 (hA.below hM.below) hl).mono ?_
    rintro e W1 ⟨hb1, he⟩
    rw [HF.out] at he
    subst he
    have hM1 := hM.step hb1
    clear hM hb1 HF
    have c0 := cell_of_block (j := 0) (v := .slice A l.length c) hM1.net rfl
    have c1 := cell_of_block (j := 1) (v := .int .i64 T) hM1.net rfl
    have c2 := cell_of_block (j := 2) (v := .int .i64 C) hM1.net rfl
    go_wp2_with fail
    refine (net_any _ A l c T C (hA.below hM1.below) hl2).mono ?_
    rintro e W2 ⟨hb2, B, d, rfl, hB, _⟩
    have hM2 := hM1.step hb2
    clear hM1 hb2 c0 c1 c2
    go_wp2_with fail
    refine (controlled_any _ B l d T C err hB hl2).mono ?_
    rintro e W3 ⟨hb3, v, s, rfl, hvs⟩
    have HV := Lib.hid hvs
    have hM3 := hM2.step hb3
    have hs2 : w.heap.size ≤ W2.heap.size := hM2.below.size
    clear hM2 hb3 hB hvs
    have c0 := cell_of_block (j := 0) (v := .slice A l.length c) hM3.net rfl
    have c1 := cell_of_block (j := 1) (v := .int .i64 T) hM3.net rfl
    have c2 := cell_of_block (j := 2) (v := .int .i64 C) hM3.net rfl
    go_wp2_with fail
    refine (lsure_any _ A l c T C err (hA.below hM3.below) hl2).mono ?_
    rintro e W4 ⟨hb4, r, rfl, hr⟩
    have hM4 := hM3.step hb4
    have hcase : (v = .slice none 0 0 ∧ s = r ∧ r ≠ 0) ∨ (s = 0 ∧ r = 0 ∧ askedN l T C err = 0 ∧ CanE l T.toNat C.toNat err [] ∧ ∃ ks : List Nat, ks.Pairwise (· < ·) ∧ (∀ i, i ∈ ks ↔ i < l.length ∧ Ctl l T.toNat C.toNat err i) ∧ W3.ownsRow W2.heap.size 3 1 v ks.length (ks.map fun (i : Nat) => Value.int .i64 i)) := by
      rcases HV.out with ⟨h1, rfl, rfl⟩ | ⟨h1, ⟨rfl, h2, h3⟩ | ⟨rfl, rfl, h2⟩⟩
      · rcases hr with ⟨_, rfl⟩ | ⟨h3, _⟩
        · exact .inl ⟨rfl, rfl, h1⟩
        · exact absurd h3 h1
      · rcases hr with ⟨h4, _⟩ | ⟨_, ⟨rfl, _⟩ | ⟨_, h5⟩⟩
        · exact absurd h1 h4
        · exact .inr ⟨rfl, rfl, h1, h2, h3⟩
        · exact absurd h2 h5
      · rcases hr with ⟨h4, _⟩ | ⟨_, ⟨_, h5⟩ | ⟨rfl, h5⟩⟩
        · exact absurd h1 h4
        · exact absurd h5 h2
        · exact .inl ⟨rfl, rfl, by decide⟩
    clear HV hr hM3 c0 c1 c2
    rcases hcase with ⟨rfl, rfl, hr0⟩ | ⟨rfl, rfl, h1, h2, ks, hk1, hk2, hk3⟩
    · have hr' : (s != 0) = true := by simp [hr0]
      go_wp2_with fail
      refine (awake_any _).mono ?_
      rintro e W6 ⟨hb6, rfl⟩
      go_wp2_with fail
      go_ret
      exact ⟨rfl, (hM4.step hb6).below⟩
    · have h3 := askedN_zero h1
      obtain ⟨T, C, rfl, rfl, hV⟩ := valid_of h3.1
      have hE := h3.2
      have hl12 := hV.len.2
      have HK := Lib.hid (And.intro hk1 (And.intro hk2 (ownsRow_below hk3 hb4 (Nat.le_refl _))))
      have HA := Lib.hid h2
      have hbW := hM4.below
      clear h1 h2 h3 hk1 hk2 hk3 hb4
      go_wp2_with fail
      go_loopw [8, 9] (fun v t wr => ∃ (k : Nat) (js : List Nat), k ≤ l.length ∧ t = .int .i64 k ∧ Below W4.heap.size W4 wr ∧ Hid (js.Pairwise (· < ·) ∧ (∀ i, i ∈ js ↔ i < k ∧ Ctl l T C err i) ∧ js.length ≤ k) ∧ wr.ownsRow W4.heap.size 3 1 v js.length (js.map fun (i : Nat) => Value.int .i64 i)) (fun _ t _ => l.length - (intOf t).toNat)
      case atStart => exact ⟨0, [], Nat.zero_le _, rfl, Below.refl _ _, Lib.hid ⟨List.Pairwise.nil, by simp, by simp⟩, World.ownsRow_nil _ _ _ _⟩
      case round =>
        obtain ⟨k, js, hk, rfl, hbel, hks, hown⟩ := hrel
        have hMr := hM4.step hbel
        have c0 := cell_of_block (j := 0) (v := .slice A l.length c) hMr.net rfl
        have c1 := cell_of_block (j := 1) (v := .int .i64 T) hMr.net rfl
        have c2 := cell_of_block (j := 2) (v := .int .i64 C) hMr.net rfl
        have HO := Lib.hid hown
        have HBl := Lib.hid hbel
        clear hown hbel
        by_cases hlt : k < l.length
        · go_wp2_with fail
          refine (rcontrolled_any _ A l c T C err k (hA.below hMr.below) hV hE hlt HA.out).mono ?_
          rintro e W5 ⟨hb5, b, rfl, hb⟩
          have HB := Lib.hid hb
          have hM5 := hMr.step hb5
          have hW5 := HBl.out.trans (hb5.mono HBl.out.size)
          have HO5 := Lib.hid (ownsRow_below HO.out hb5 (Nat.le_refl _))
          have HW := Lib.hid hW5
          clear hb hb5 hW5 c0 c1 c2 hMr
          cases b with
          | false =>
            go_wp2_with fail
            go_roundw
            case rel =>
              refine ⟨k + 1, js, by omega, by go_num, HW.out, Lib.hid ⟨hks.out.1, fun i => ?_, Nat.le_succ_of_le hks.out.2.2⟩, HO5.out⟩
              rw [hks.out.2.1 i]
              constructor
              · rintro ⟨h1, h2⟩; exact ⟨by omega, h2⟩
              · rintro ⟨h1, h2⟩
                refine ⟨?_, h2⟩
                by_cases e : i = k
                · subst e; exact absurd (HB.out.2 h2) (by simp)
                · omega
            case measure => simp [intOf]; omega
          | true =>
            have hbg : Below W5.heap.size W5 (W5.alloc (.cells #[.int .i64 k] 3)) := (Below.refl _ W5).alloc (Nat.le_refl _) _
            have HO4 := Lib.hid (ownsRow_below HO5.out hbg (Nat.le_refl _))
            have hkn : js.length < 100000 := by have := hks.out.2.2; omega
            have hszA : W4.heap.size ≤ (W5.alloc (.cells #[.int .i64 k] 3)).heap.size := Nat.le_trans HW.out.size hbg.size
            have HW4 := Lib.hid (HW.out.trans (hbg.mono HW.out.size))
            clear hbg
            go_wp2_with (at_builtin; refine wpList_push elem25 (W5.alloc (.cells #[.int .i64 k] 3)) (by rfl) (.tmp 48) (.tmp 50) (by rfl) W4.heap.size _ js.length _ (by rfl) HO4.out W5.heap.size 1 [.int .i64 k] (by rfl) (at_alloc rfl) rfl (by simp [Value.oneCell']) hkn hszA ?_; intro v' w' how5 hbe5 _)
            go_roundw
            case rel =>
              refine ⟨k + 1, js ++ [k], by omega, by go_num, HW4.out.trans hbe5, Lib.hid ⟨?_, fun i => ?_, ?_⟩, ?_⟩
              · rw [List.pairwise_append]
                refine ⟨hks.out.1, List.pairwise_singleton _ _, fun a ha b hb => ?_⟩
                rw [List.mem_singleton.1 hb]
                exact ((hks.out.2.1 a).1 ha).1
              · rw [List.mem_append, hks.out.2.1 i, List.mem_singleton]
                constructor
                · rintro (⟨h1, h2⟩ | rfl)
                  · exact ⟨by omega, h2⟩
                  · exact ⟨by omega, HB.out.1 (by simp)⟩
                · rintro ⟨h1, h2⟩
                  by_cases e : i = k
                  · exact .inr e
                  · exact .inl ⟨by omega, h2⟩
              · have := hks.out.2.2
                rw [List.length_append]; simp; omega
              · rw [List.length_append, List.map_append]; exact how5
            case measure => simp [intOf]; omega
        · obtain rfl : k = l.length := by omega
          have hjk : js = ks := sorted_ext hks.out.1 HK.out.1 (fun i => by rw [hks.out.2.1 i, HK.out.2.1 i]; rfl)
          subst hjk
          obtain ⟨B1, d1, e1, hI1⟩ := own_ints (ownsRow_below HK.out.2.2 HBl.out (Nat.le_refl _))
          obtain ⟨B2, d2, e2, hI2⟩ := own_ints HO.out
          have hjl : (outI js).length ≤ 1000000 := by have := hks.out.2.2; simp [outI]; omega
          subst e1
          subst e2
          clear HO HK HBl hks
          go_wp2_with fail
          refine (ints_any _ B1 B2 (outI js) (outI js) d1 d2 hI1 hI2 hjl hjl).mono ?_
          rintro e W5 ⟨hb5, b, rfl, hb⟩
          have hbt := hb.2 rfl
          subst hbt
          have hM5 := hMr.step hb5
          clear hb hb5 hMr c0 c1 c2
          go_wp2_with fail
          refine (awake_any _).mono ?_
          rintro e W6 ⟨hb6, rfl⟩
          go_wp2_with fail
          go_ret
          exact ⟨rfl, (hM5.step hb6).below⟩
  · have hf' : decide (l.length ≤ 15 ∧ (faultN l T C ≠ 0 ∨ (l.length : Int) ≤ 8)) = false := decide_eq_false hf
    have HF := Lib.hid hf'
    clear hf hf'
    go_enter Try.func6, Try.ntmps6
    go_wp2_with fail
    refine (few_any _ A l c T C 8 (hA.below hM.below) hl).mono ?_
    rintro e W1 ⟨hb1, he⟩
    rw [HF.out] at he
    subst he
    have hM1 := hM.step hb1
    go_wp2_with fail
    refine (awake_any _).mono ?_
    rintro e W6 ⟨hb6, rfl⟩
    go_wp2_with fail
    go_ret
    exact ⟨rfl, (hM1.step hb6).below⟩
end Go.Proofs.Ytnhbplnhhloklaa
