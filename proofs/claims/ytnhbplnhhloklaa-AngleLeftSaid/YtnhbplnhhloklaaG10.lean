/- The law on what is left: its walk. -/
import Derived.Test.YtnhbplnhhloklaaK5
namespace Go.Proofs.Ytnhbplnhhloklaa
open Go.RowKit

theorem u16_in {a : Int} (h : (Lit.int .u16 a).wf = true) : 0 ≤ a ∧ a ≤ 65535 := by
  simp only [Lit.wf, Bool.and_eq_true, decide_eq_true_eq] at h
  exact h
theorem orL_lt16 {xs : List Int} (h : ∀ x ∈ xs, 0 ≤ x ∧ x ≤ 15) : orL xs < 65536 := by
  induction xs with
  | nil => simp [orL]
  | cons y r ih =>
    have hy := h y (List.mem_cons_self ..)
    have h1 : 2 ^ y.toNat < 2 ^ 16 := Nat.pow_lt_pow_right (by omega) (by omega)
    exact Nat.or_lt_two_pow (n := 16) h1 (ih (fun x hx => h x (List.mem_cons_of_mem _ hx)))
theorem bitL_orL {ys : List Nat} (hu : ys.Pairwise (· < ·)) (hm : ∀ y ∈ ys, y < 16) : bitL (orL (outI ys)) = ys := by
  refine sorted_ext (bitL_up _) hu fun i => ?_
  rw [mem_bitL, orL_test, decide_eq_true_eq]
  constructor
  · rintro ⟨_, x, hx, rfl⟩
    unfold outI at hx
    obtain ⟨j, hj, rfl⟩ := List.mem_map.1 hx
    rw [Int.toNat_natCast]
    exact hj
  · exact fun h => ⟨hm i h, (i : Int), mem_outI.2 h, by simp⟩
theorem up_at {ys : List Nat} (hu : ys.Pairwise (· < ·)) {j x y : Nat} (hy : ys[j]? = some y) (hx : ys[j + 1]? = some x) : y < x := by
  obtain ⟨h1, e1⟩ := List.getElem?_eq_some_iff.1 hy
  obtain ⟨h2, e2⟩ := List.getElem?_eq_some_iff.1 hx
  have := List.pairwise_iff_getElem.1 hu j (j + 1) h1 h2 (by omega)
  omega
/-- What Show tells of a net without fault. -/
theorem show_out {w : World} {A : Option Addr} {l : List Ang} {c T C : Nat} {e : Int} (hA : AngAt w A l) (hV : Valid l T C) (he : 0 ≤ e ∧ e ≤ 40) : Calls Try.prog 36 #[.agg #[.slice A l.length c, .int .i64 T, .int .i64 C], .int .i64 e] w fun r w' => Below w.heap.size w w' ∧ ∃ v s, r = .returned (.tuple #[v, .int .i64 s]) ∧ ((s = 0 ∧ CanE l T C e []) ∨ (s = 9 ∧ ¬ CanE l T C e [])) := by
  have hz := asked_in (err := e) (faultN_valid hV) he
  have hl := hV.len
  refine (show_any w A l c T C e hA (by omega)).mono ?_
  rintro r w' ⟨hb, v, s, rfl, ⟨h, _⟩ | ⟨_, ⟨h1, x, hx, _⟩ | ⟨h1, _, h2⟩⟩⟩
  · exact absurd hz h
  · exact ⟨hb, v, s, rfl, .inl ⟨h1, x, hx⟩⟩
  · exact ⟨hb, v, s, rfl, .inr ⟨h1, h2⟩⟩

set_option maxHeartbeats 16000000 in
set_option maxRecDepth 100000 in
theorem left_walk (w : World) (A : Option Addr) (l : List Ang) (c : Nat) (T C : Int) (a b : Int) (hA : AngAt w A l) (hl : l.length ≤ 9223372036854775807) (ha : (Lit.int .u8 a).wf = true) (hb : (Lit.int .u16 b).wf = true) :
    Calls Try.prog 12 #[.agg #[.slice A l.length c, .int .i64 T, .int .i64 C], .int .u8 a, .int .u16 b] w (Holds w) := by
  have hM := NMem.made w A l.length c T C
  have ha8 := u8_in ha
  have hb8 := u16_in hb
  by_cases h1 : l.length ≤ 15
  · have h1' : decide (l.length ≤ 15) = true := decide_eq_true h1
    have HL := Lib.hid h1'
    have hl2 : l.length ≤ 1000 := by omega
    clear h1 h1' ha hb
    go_enter Try.func12, Try.ntmps12
    go_wp2_with fail
    refine (thin_any _ _ _ _ _ _ hl).mono ?_
    rintro e W1 ⟨hb1, he⟩
    rw [HL.out] at he
    subst he
    have hM1 := hM.step hb1
    clear hM hb1 HL
    have c0 := cell_of_block (j := 0) (v := .slice A l.length c) hM1.net rfl
    have c1 := cell_of_block (j := 1) (v := .int .i64 T) hM1.net rfl
    have c2 := cell_of_block (j := 2) (v := .int .i64 C) hM1.net rfl
    go_wp2_with fail
    refine (lfault_any _ A l c T C (hA.below hM1.below) hl2).mono ?_
    rintro e W2 ⟨hb2, rfl⟩
    have hM2 := hM1.step hb2
    clear hM1 hb2 c0 c1 c2
    by_cases hz : faultN l T C = 0
    · have hz' : (faultN l T C != 0) = false := by simp [hz]
      obtain ⟨T, C, rfl, rfl, hV⟩ := valid_of hz
      have hl12 := hV.len.2
      have c0 := cell_of_block (j := 0) (v := .slice A l.length c) hM2.net rfl
      have c1 := cell_of_block (j := 1) (v := .int .i64 T) hM2.net rfl
      have c2 := cell_of_block (j := 2) (v := .int .i64 C) hM2.net rfl
      clear hz
      obtain ⟨bn, rfl⟩ := Int.eq_ofNat_of_zero_le hb8.1
      have hbn : bn ≤ 65535 := by omega
      clear hb8
      go_wp2_with fail
      refine (net_any _ A l c T C (hA.below hM2.below) hl2).mono ?_
      rintro e W3 ⟨hb3, B, d, rfl, hB, hBf⟩
      have hM3 := hM2.step hb3
      clear hM2 hb3 c0 c1 c2
      go_wp2_with fail
      refine (leaves_own hB (fun b o e => (hBf b o e).2) hV (by omega)).mono ?_
      rintro e W4 ⟨hb4, v, s, rfl, hv⟩
      have hM4 := hM3.step hb4
      clear hM3 hb4 hB hBf
      rcases hv with ⟨rfl, Bl, dl, ys, hve, hI, hyl, hO⟩ | ⟨rfl, rfl, hno⟩
      · rw [outI_len] at hve
        subst hve
        have HOut := Lib.hid hO
        have HUp := Lib.hid hO.ext
        clear hO
        go_wp2_with fail
        go_loopw [10, 11] (fun x t wr => ∃ k m : Nat, k ≤ ys.length ∧ t = .int .i64 k ∧ x = .int .i64 (orL ((outI ys).take k)) ∧ wr = W4.drewN m) (fun _ t _ => ys.length - (intOf t).toNat)
        case atStart => exact ⟨0, 0, Nat.zero_le _, rfl, rfl, rfl⟩
        case round =>
          obtain ⟨k, m, hk, rfl, rfl, rfl⟩ := hrel
          have hMm := hM4.step (below_drewN (Below.refl _ W4) m)
          have n0 := cell_of_block (j := 0) (v := .slice A l.length c) hM4.net rfl
          by_cases hlt : k < ys.length
          · obtain ⟨y, hy⟩ : ∃ y, ys[k]? = some y := ⟨ys[k], by simp [hlt]⟩
            have hyn := (HUp.out.mem y (List.mem_of_getElem? hy)).2
            have hyI : (outI ys)[k]? = some (y : Int) := by simp [outI, hy]
            obtain ⟨yi, hyi⟩ : ∃ yi : Int, (y : Int) = yi := ⟨_, rfl⟩
            rw [hyi] at hyI
            obtain ⟨b1, o1, rfl, hb1, hc1⟩ := hI k yi hyI
            have HT := Lib.hid (by rw [take_step hyI, orL_snoc] : orL ((outI ys).take (k + 1)) = orL ((outI ys).take k) ||| 2 ^ yi.toNat)
            have ho := orL_lt16 (xs := (outI ys).take k) (fun z hz => by
              have hz2 := List.mem_of_mem_take hz
              unfold outI at hz2
              obtain ⟨j, hj, rfl⟩ := List.mem_map.1 hz2
              have := (HUp.out.mem j hj).2
              omega)
            obtain ⟨hwx, hbx⟩ := pow_spell (m := yi.toNat) (by omega)
            have hor := i64_or_nat (orL ((outI ys).take k)) (2 ^ yi.toNat) (by omega) (by omega)
            have hk0 : (0 : Int) ≤ k := by omega
            have hk1 : (k : Int) < ys.length := by omega
            have hy0 : 0 ≤ yi ∧ yi < l.length := by omega
            have d1 : decide (yi < 0) = false := decide_eq_false (by omega)
            have d2 : decide ((l.length : Int) ≤ yi) = false := decide_eq_false (by omega)
            cases k with
            | zero =>
              rw [Nat.add_zero] at hc1
              have hgt : decide ((0 : Int) < 0) = false := rfl
              clear hy hyI hyi
              go_wp2_with fail
              go_quiet (fail)
              go_wp2_with fail
              go_roundw
              case rel => exact ⟨1, m + nq, by omega, by go_num, by rw [HT.out, ← hor]; simp, rfl⟩
              case measure => simp [intOf]; omega
            | succ j =>
              obtain ⟨z, hz⟩ : ∃ z, ys[j]? = some z := ⟨ys[j], by simp⟩
              obtain ⟨zi, hzi⟩ : ∃ zi : Int, (z : Int) = zi := ⟨_, rfl⟩
              obtain ⟨b2, o2, hAe, hb2, hc2⟩ := hI j zi (by rw [← hzi]; simp [outI, hz])
              cases hAe
              have hzy := up_at HUp.out.up hz hy
              have hj0 : (0 : Int) ≤ j := by omega
              have hj1 : (j : Int) < ys.length := by omega
              have hgt : decide ((0 : Int) < (j : Int) + 1) = true := decide_eq_true (by omega)
              have hzy2 : zi < yi := by omega
              have d3 : decide (yi ≤ zi) = false := decide_eq_false (by omega)
              have hwj : IntKind.i64.wrap ((j : Int) + 1 - 1) = j := by rw [Int.add_sub_cancel]; exact IntWalk.i64_in _ (by omega)
              have hwj2 : IntKind.i64.wrap (j : Int) = j := IntWalk.i64_in _ (by omega)
              clear hy hyI hz hyi hzi
              go_wp2_with fail
              go_quiet (fail)
              clear hwj hwj2
              go_wp2_with fail
              go_roundw
              case rel => exact ⟨j + 1 + 1, m + nq, by omega, by go_num, by rw [HT.out, ← hor]; simp, rfl⟩
              case measure => simp [intOf]; omega
          · obtain rfl : k = ys.length := by omega
            have HX := Lib.hid (show orL ((outI ys).take ys.length) = orL (outI ys) by rw [List.take_of_length_le (by rw [outI_len]; omega)])
            rw [HX.out]
            have ho : orL (outI ys) < 65536 := orL_lt16 (fun z hz => by
              unfold outI at hz
              obtain ⟨j, hj, rfl⟩ := List.mem_map.1 hz
              have := (HUp.out.mem j hj).2
              omega)
            have HBL := Lib.hid (bitL_orL HUp.out.up (fun y hy => by have := (HUp.out.mem y hy).2; omega))
            generalize orL (outI ys) = bo at *
            obtain ⟨hwN, hbN⟩ := pow_spell (m := l.length) (by omega)
            have hpos : 0 < 2 ^ l.length := Nat.pow_pos (by omega)
            obtain ⟨NB, hNe⟩ : ∃ NB, 2 ^ l.length = NB := ⟨_, rfl⟩
            rw [hNe] at hwN hbN hpos
            obtain ⟨f, hf1⟩ : ∃ f : Nat, bn % NB = f := ⟨_, rfl⟩
            have hf2 : f < NB := by rw [← hf1]; exact Nat.mod_lt _ hpos
            have hf3 : (bn : Int) % (NB : Int) = f := by rw [← hf1]; simp
            have hf4 : (bn : Int).tmod (NB : Int) = f := by rw [Int.tmod_eq_emod_of_nonneg (by omega)]; exact hf3
            have HF := Lib.hid (show f < 2 ^ l.length by rw [hNe]; exact hf2)
            have hN0 : NB ≠ 0 := by omega
            have hf16 : f < 65536 := by omega
            clear hNe hf1 hf2
            have c0 := cell_of_block (j := 0) (v := .slice A l.length c) hM4.net rfl
            have c1 := cell_of_block (j := 1) (v := .int .i64 T) hM4.net rfl
            have c2 := cell_of_block (j := 2) (v := .int .i64 C) hM4.net rfl
            go_wp2_with fail
            refine (freed_any _ A l c T C bo (hA.below hMm.below) hV.len ho).mono ?_
            rintro e W5 ⟨l1, ht1, hb5, B1, d1, rfl, hB1, _⟩
            have hM5 := hMm.step hb5
            have HT1 := Lib.hid ht1
            have hV1 := freed_valid ht1 hV
            have hI5 := (hI.below (below_drewN (Below.refl _ W4) m)).below hb5
            have hl1 : l1.length ≤ 1000 := by have := hV1.len; omega
            clear hM4 hMm n0 c0 c1 c2 hb5 ht1 hwN hf3 hf4 hI
            go_wp2_with fail
            refine (net_any _ B1 l1 d1 T C hB1 hl1).mono ?_
            rintro e W6 ⟨hb6, B2, d2, rfl, hB2, _⟩
            have hM6 := hM5.step hb6
            have hI6 := hI5.below hb6
            clear hM5 hb6 hB1 hI5
            go_wp2_with fail
            refine (show_out hB2 hV1 (by omega)).mono ?_
            rintro e W7 ⟨hb7, v7, s7, rfl, hs7⟩
            have hM7 := hM6.step hb7
            have hI7 := hI6.below hb7
            obtain rfl : s7 = 0 := by
              rcases hs7 with ⟨h, _⟩ | ⟨_, h⟩
              · exact h
              · refine absurd ((freed_can HT1.out hl12 (by omega)).2 ?_) h
                rw [HBL.out]; exact HOut.out.can
            clear hM6 hb7 hB2 hI6 hs7 HT1 hV1 hl1
            have c0 := cell_of_block (j := 0) (v := .slice A l.length c) hM7.net rfl
            have c1 := cell_of_block (j := 1) (v := .int .i64 T) hM7.net rfl
            have c2 := cell_of_block (j := 2) (v := .int .i64 C) hM7.net rfl
            go_wp2_with fail
            refine (freed_any _ A l c T C f (hA.below hM7.below) hV.len hf16).mono ?_
            rintro e W8 ⟨l2, ht2, hb8, B3, d3, rfl, hB3, _⟩
            have hM8 := hM7.step hb8
            have HT2 := Lib.hid ht2
            have hV2 := freed_valid ht2 hV
            have hI8 := hI7.below hb8
            have hl2' : l2.length ≤ 1000 := by have := hV2.len; omega
            clear hM7 c0 c1 c2 hb8 ht2 hI7
            go_wp2_with fail
            refine (net_any _ B3 l2 d3 T C hB3 hl2').mono ?_
            rintro e W9 ⟨hb9, B4, d4, rfl, hB4, _⟩
            have hM9 := hM8.step hb9
            have hI9 := hI8.below hb9
            clear hM8 hb9 hB3 hI8
            go_wp2_with fail
            refine (show_out hB4 hV2 (by omega)).mono ?_
            rintro e W10 ⟨hb10, v10, s10, rfl, hs10⟩
            have hM10 := hM9.step hb10
            have hI10 := hI9.below hb10
            clear hM9 hb10 hB4 hI9
            rcases hs10 with ⟨rfl, hc⟩ | ⟨rfl, _⟩
            · have hno : ¬ lessL (bitL f) ys := by
                have hc2 := (freed_can HT2.out hl12 (by omega)).1 hc
                have hx := bitL_ext (b := f) HF.out
                rintro (h | ⟨h1, h2⟩)
                · have := HOut.out.short _ hx hc2; omega
                · exact HOut.out.first _ hx hc2 h1 h2
              have HNo := Lib.hid hno
              clear hc hno HT2 hV2 hl2'
              go_wp2_with fail
              refine (bits_any _ f hf16).mono ?_
              rintro e W11 ⟨hb11, v11, rfl, how⟩
              obtain ⟨B5, d5, e5, hI5⟩ := own_ints how
              rw [outI_len] at e5
              subst e5
              have hM11 := hM10.step hb11
              have hI11 := hI10.below hb11
              have hfl : (bitL f).length ≤ 1000000 := by have := ext_len (bitL_ext (b := f) HF.out); omega
              clear hM10 hb11 hI10 how
              go_wp2_with fail
              refine (less_quiet _ B5 Bl (bitL f) ys d5 dl false ⟨fun h => (by cases h), fun h => absurd h HNo.out⟩ hI5 hI11 hfl (by omega)).mono ?_
              rintro e W12 ⟨rfl, q, rfl⟩
              have hM12 := hM11.step (below_drewN (Below.refl _ W11) q)
              go_wp2_with fail
              refine (awake_any _).mono ?_
              rintro e W ⟨hbW, rfl⟩
              go_wp2_with fail
              go_ret
              exact ⟨rfl, (hM12.step hbW).below⟩
            · clear HT2 hV2 hl2'
              go_wp2_with fail
              refine (awake_any _).mono ?_
              rintro e W ⟨hbW, rfl⟩
              go_wp2_with fail
              go_ret
              exact ⟨rfl, (hM10.step hbW).below⟩
      · clear hno
        go_wp2_with fail
        refine (awake_any _).mono ?_
        rintro e W6 ⟨hb6, rfl⟩
        go_wp2_with fail
        go_ret
        exact ⟨rfl, (hM4.step hb6).below⟩
    · have hz' : (faultN l T C != 0) = true := by simp [hz]
      clear hz
      go_wp2_with fail
      refine (awake_any _).mono ?_
      rintro e W6 ⟨hb6, rfl⟩
      go_wp2_with fail
      go_ret
      exact ⟨rfl, (hM2.step hb6).below⟩
  · have h1' : decide (l.length ≤ 15) = false := decide_eq_false h1
    have HL := Lib.hid h1'
    clear h1 h1' ha hb
    go_enter Try.func12, Try.ntmps12
    go_wp2_with fail
    refine (thin_any _ _ _ _ _ _ hl).mono ?_
    rintro e W1 ⟨hb1, he⟩
    rw [HL.out] at he
    subst he
    have hM1 := hM.step hb1
    go_wp2_with fail
    refine (awake_any _).mono ?_
    rintro e W6 ⟨hb6, rfl⟩
    go_wp2_with fail
    go_ret
    exact ⟨rfl, (hM1.step hb6).below⟩
end Go.Proofs.Ytnhbplnhhloklaa
