/- The law on more error: its walk. -/
import Derived.Test.YtnhbplnhhloklaaG0
import Derived.Test.YtnhbplnhhloklaaG2
import Derived.Test.YtnhbplnhhloklaaH4
namespace Go.Proofs.Ytnhbplnhhloklaa
open Go.RowKit

theorem u8_in {a : Int} (h : (Lit.int .u8 a).wf = true) : 0 ≤ a ∧ a ≤ 255 := by
  simp only [Lit.wf, Bool.and_eq_true, decide_eq_true_eq] at h
  exact h
theorem asked_in {l : List Ang} {T C err : Int} (h : faultN l T C = 0) (he : 0 ≤ err ∧ err ≤ 40) : askedN l T C err = 0 := by
  unfold askedN
  rw [if_neg (by simp [h]), if_pos he]

/-- What Bounds tells of a net without fault. -/
def BoundsOut (l : List Ang) (T C : Nat) (e : Int) (w : World) (base : Nat) (v : Value) (s : Int) : Prop :=
  (s = 0 ∧ CanE l T C e [] ∧ ∃ g cap ps, v = .slice (some ⟨g, 0, none⟩) l.length cap ∧ base ≤ g ∧ g < w.heap.size ∧ (ps : List (Int × Int)).length = l.length ∧ BoundsAre l T C e ps ∧ w.ownsRow base 58 2 v l.length (pairsV ps)) ∨ (s = 9 ∧ v = .slice none 0 0 ∧ ¬ CanE l T C e [])
/-- What Leave tells of a net without fault. -/
def LeavesOut (l : List Ang) (T C : Nat) (e : Int) (v : Value) (s : Int) : Prop :=
  (s = 0 ∧ ∃ B d ys, v = .slice B (ys : List Nat).length d ∧ OutIs l T C e ys) ∨ (s = 9 ∧ v = .slice none 0 0 ∧ ∀ zs, Ext l.length 0 zs.length zs → ¬ CanE l T C e (outI zs))
/-- What Controlled tells of a net without fault. -/
def CtlOut (l : List Ang) (T C : Nat) (e : Int) (w : World) (v : Value) (s : Int) : Prop :=
  (s = 0 ∧ CanE l T C e [] ∧ ∃ B d ks, v = .slice B (outI ks).length d ∧ IntsAt w B (outI ks) ∧ (ks.length ≤ 12) ∧ ∀ i, i ∈ ks ↔ i < l.length ∧ Ctl l T C e i) ∨ (s = 9 ∧ v = .slice none 0 0 ∧ ¬ CanE l T C e [])
theorem BoundsOut.below {l : List Ang} {T C : Nat} {e : Int} {w w' : World} {base : Nat} {v : Value} {s : Int} (h : BoundsOut l T C e w base v s) (hb : Below w.heap.size w w') : BoundsOut l T C e w' base v s := by
  rcases h with ⟨h1, h2, g, cap, ps, h3, h4, h5, h6, h7, h8⟩ | h
  · exact .inl ⟨h1, h2, g, cap, ps, h3, h4, Nat.lt_of_lt_of_le h5 hb.size, h6, h7, ownsRow_below h8 hb (Nat.le_refl _)⟩
  · exact .inr h
theorem CtlOut.below {l : List Ang} {T C : Nat} {e : Int} {w w' : World} {v : Value} {s : Int} (h : CtlOut l T C e w v s) (hb : Below w.heap.size w w') : CtlOut l T C e w' v s := by
  rcases h with ⟨h1, h2, B, d, ks, h3, h4, h5⟩ | h
  · exact .inl ⟨h1, h2, B, d, ks, h3, h4.below hb, h5⟩
  · exact .inr h

section
variable {w : World} {A : Option Addr} {l : List Ang} {c : Nat} {T C : Nat} {e : Int}
theorem bounds_out (hA : AngAt w A l) (hV : Valid l T C) (he : 0 ≤ e ∧ e ≤ 40) : Calls Try.prog 35 #[.agg #[.slice A l.length c, .int .i64 T, .int .i64 C], .int .i64 e] w fun r w' => Below w.heap.size w w' ∧ ∃ v s, r = .returned (.tuple #[v, .int .i64 s]) ∧ BoundsOut l T C e w' w.heap.size v s := by
  have hz := asked_in (err := e) (faultN_valid hV) he
  have hl := hV.len
  refine (boundsAll_any w A l c T C e hA (by omega)).mono ?_
  rintro r w' ⟨hb, v, s, rfl, ⟨h, _⟩ | ⟨_, ⟨h1, h2, ps, h3, h4, h5⟩ | h1⟩⟩
  · exact absurd hz h
  · obtain ⟨g, cap, rfl, k1, k2⟩ := own_pos h5 hl.1
    exact ⟨hb, _, s, rfl, .inl ⟨h1, h2, g, cap, ps, rfl, k1, k2, h3, h4, h5⟩⟩
  · exact ⟨hb, v, s, rfl, .inr h1⟩
theorem leaves_out (hA : AngAt w A l) (hAb : ∀ b o, A = some ⟨b, o, none⟩ → b < w.heap.size) (hV : Valid l T C) (he : 0 ≤ e ∧ e ≤ 40) : Calls Try.prog 56 #[.agg #[.slice A l.length c, .int .i64 T, .int .i64 C], .int .i64 e] w fun r w' => Below w.heap.size w w' ∧ ∃ v s, r = .returned (.tuple #[v, .int .i64 s]) ∧ LeavesOut l T C e v s := by
  have hz := asked_in (err := e) (faultN_valid hV) he
  have hl := hV.len
  refine (leave_any w A l c T C e hA (by omega) hAb).mono ?_
  rintro r w' ⟨hb, v, s, rfl, ⟨h, _⟩ | ⟨_, ⟨h1, ys, h2, h3⟩ | h1⟩⟩
  · exact absurd hz h
  · obtain ⟨B, d, rfl⟩ := own_slice h3
    exact ⟨hb, _, s, rfl, .inl ⟨h1, B, d, ys, rfl, h2⟩⟩
  · exact ⟨hb, v, s, rfl, .inr h1⟩
theorem ctl_out (hA : AngAt w A l) (hV : Valid l T C) (he : 0 ≤ e ∧ e ≤ 40) : Calls Try.prog 40 #[.agg #[.slice A l.length c, .int .i64 T, .int .i64 C], .int .i64 e] w fun r w' => Below w.heap.size w w' ∧ ∃ v s, r = .returned (.tuple #[v, .int .i64 s]) ∧ CtlOut l T C e w' v s := by
  have hz := asked_in (err := e) (faultN_valid hV) he
  have hl := hV.len
  refine (controlled_any w A l c T C e hA (by omega)).mono ?_
  rintro r w' ⟨hb, v, s, rfl, ⟨h, _⟩ | ⟨_, ⟨h1, h2, ks, h3, h4, h5⟩ | h1⟩⟩
  · exact absurd hz h
  · obtain ⟨B, d, rfl, hI⟩ := own_ints h5
    have hk : ks.length ≤ l.length := by simpa using up_len (f := 0) h3 (fun y hy => ⟨Nat.zero_le _, ((h4 y).1 hy).1⟩)
    exact ⟨hb, _, s, rfl, .inl ⟨h1, h2, B, d, ks, rfl, hI, by omega, h4⟩⟩
  · exact ⟨hb, v, s, rfl, .inr h1⟩
end

set_option maxHeartbeats 16000000 in
set_option maxRecDepth 100000 in
theorem more_walk (w : World) (A : Option Addr) (l : List Ang) (c : Nat) (T C : Int) (a b : Int) (hA : AngAt w A l) (hl : l.length ≤ 9223372036854775807) (ha : (Lit.int .u8 a).wf = true) (hb : (Lit.int .u8 b).wf = true) :
    Calls Try.prog 11 #[.agg #[.slice A l.length c, .int .i64 T, .int .i64 C], .int .u8 a, .int .u8 b] w (Holds w) := by
  have hM := NMem.made w A l.length c T C
  have ha8 := u8_in ha
  have hb8 := u8_in hb
  by_cases h1 : l.length ≤ 15
  · have h1' : decide (l.length ≤ 15) = true := decide_eq_true h1
    have HL := Lib.hid h1'
    have hl2 : l.length ≤ 1000 := by omega
    clear h1 h1' ha hb
    go_enter Try.func11, Try.ntmps11
    go_wp2_with fail
    refine (thin_any _ _ _ _ _ _ hl).mono ?_
    rintro e W1 ⟨hb1, he⟩
    rw [HL.out] at he
    subst he
    have hM1 := hM.step hb1
    clear hM hb1 HL
    have c0 := cell_of_block (j := 0) (v := .slice A l.length c) hM1.net rfl
    have c1 := cell_of_block (j := 1) (v := .int .i64 T) hM1.net rfl
    have c2 := cell_of_block (j := 2) (v := .int .i64 C) hM1.net rfl
    go_wp2_with fail
    refine (lfault_any _ A l c T C (hA.below hM1.below) hl2).mono ?_
    rintro e W2 ⟨hb2, rfl⟩
    have hM2 := hM1.step hb2
    clear hM1 hb2 c0 c1 c2
    by_cases hz : faultN l T C = 0
    · have hz' : (faultN l T C != 0) = false := by simp [hz]
      obtain ⟨T, C, rfl, rfl, hV⟩ := valid_of hz
      have hl12 := hV.len.2
      have c0 := cell_of_block (j := 0) (v := .slice A l.length c) hM2.net rfl
      have c1 := cell_of_block (j := 1) (v := .int .i64 T) hM2.net rfl
      have c2 := cell_of_block (j := 2) (v := .int .i64 C) hM2.net rfl
      clear hz
      by_cases hm : 40 ≤ a % 41 + b % 8
      all_goals
        go_wp2_with fail
        refine (net_any _ A l c T C (hA.below hM2.below) hl2).mono ?_
        rintro e W3 ⟨hb3, Bb1, db1, rfl, hBb1, hBfb1⟩
        have hM3 := hM2.step hb3
        clear hM2 hb3 c0 c1 c2
        go_wp2_with fail
        refine (bounds_out hBb1 hV (by omega)).mono ?_
        rintro e W4 ⟨hb4, vb1, sb1, rfl, hv⟩
        have hM4 := hM3.step hb4
        have Hb1 := Lib.hid hv
        clear hM3 hb4 hv hBb1 hBfb1
        have c0 := cell_of_block (j := 0) (v := .slice A l.length c) hM4.net rfl
        have c1 := cell_of_block (j := 1) (v := .int .i64 T) hM4.net rfl
        have c2 := cell_of_block (j := 2) (v := .int .i64 C) hM4.net rfl
        go_wp2_with fail
        refine (net_any _ A l c T C (hA.below hM4.below) hl2).mono ?_
        rintro e W5 ⟨hb5, Bb2, db2, rfl, hBb2, hBfb2⟩
        have hM5 := hM4.step hb5
        replace Hb1 := Lib.hid (Hb1.out.below hb5)
        clear hM4 hb5 c0 c1 c2
        go_wp2_with fail
        refine (bounds_out hBb2 hV (by omega)).mono ?_
        rintro e W6 ⟨hb6, vb2, sb2, rfl, hv⟩
        have hM6 := hM5.step hb6
        replace Hb1 := Lib.hid (Hb1.out.below hb6)
        have Hb2 := Lib.hid hv
        clear hM5 hb6 hv hBb2 hBfb2
        have c0 := cell_of_block (j := 0) (v := .slice A l.length c) hM6.net rfl
        have c1 := cell_of_block (j := 1) (v := .int .i64 T) hM6.net rfl
        have c2 := cell_of_block (j := 2) (v := .int .i64 C) hM6.net rfl
        go_wp2_with fail
        refine (net_any _ A l c T C (hA.below hM6.below) hl2).mono ?_
        rintro e W7 ⟨hb7, Bl1, dl1, rfl, hBl1, hBfl1⟩
        have hM7 := hM6.step hb7
        replace Hb1 := Lib.hid (Hb1.out.below hb7)
        replace Hb2 := Lib.hid (Hb2.out.below hb7)
        clear hM6 hb7 c0 c1 c2
        go_wp2_with fail
        refine (leaves_out hBl1 (fun b o e => (hBfl1 b o e).2) hV (by omega)).mono ?_
        rintro e W8 ⟨hb8, vl1, sl1, rfl, hv⟩
        have hM8 := hM7.step hb8
        replace Hb1 := Lib.hid (Hb1.out.below hb8)
        replace Hb2 := Lib.hid (Hb2.out.below hb8)
        have Hl1 := Lib.hid hv
        clear hM7 hb8 hv hBl1 hBfl1
        have c0 := cell_of_block (j := 0) (v := .slice A l.length c) hM8.net rfl
        have c1 := cell_of_block (j := 1) (v := .int .i64 T) hM8.net rfl
        have c2 := cell_of_block (j := 2) (v := .int .i64 C) hM8.net rfl
        go_wp2_with fail
        refine (net_any _ A l c T C (hA.below hM8.below) hl2).mono ?_
        rintro e W9 ⟨hb9, Bl2, dl2, rfl, hBl2, hBfl2⟩
        have hM9 := hM8.step hb9
        replace Hb1 := Lib.hid (Hb1.out.below hb9)
        replace Hb2 := Lib.hid (Hb2.out.below hb9)
        clear hM8 hb9 c0 c1 c2
        go_wp2_with fail
        refine (leaves_out hBl2 (fun b o e => (hBfl2 b o e).2) hV (by omega)).mono ?_
        rintro e W10 ⟨hb10, vl2, sl2, rfl, hv⟩
        have hM10 := hM9.step hb10
        replace Hb1 := Lib.hid (Hb1.out.below hb10)
        replace Hb2 := Lib.hid (Hb2.out.below hb10)
        have Hl2 := Lib.hid hv
        clear hM9 hb10 hv hBl2 hBfl2
        have c0 := cell_of_block (j := 0) (v := .slice A l.length c) hM10.net rfl
        have c1 := cell_of_block (j := 1) (v := .int .i64 T) hM10.net rfl
        have c2 := cell_of_block (j := 2) (v := .int .i64 C) hM10.net rfl
        go_wp2_with fail
        refine (net_any _ A l c T C (hA.below hM10.below) hl2).mono ?_
        rintro e W11 ⟨hb11, Bk1, dk1, rfl, hBk1, hBfk1⟩
        have hM11 := hM10.step hb11
        replace Hb1 := Lib.hid (Hb1.out.below hb11)
        replace Hb2 := Lib.hid (Hb2.out.below hb11)
        clear hM10 hb11 c0 c1 c2
        go_wp2_with fail
        refine (ctl_out hBk1 hV (by omega)).mono ?_
        rintro e W12 ⟨hb12, vk1, sk1, rfl, hv⟩
        have hM12 := hM11.step hb12
        replace Hb1 := Lib.hid (Hb1.out.below hb12)
        replace Hb2 := Lib.hid (Hb2.out.below hb12)
        have Hk1 := Lib.hid hv
        clear hM11 hb12 hv hBk1 hBfk1
        have c0 := cell_of_block (j := 0) (v := .slice A l.length c) hM12.net rfl
        have c1 := cell_of_block (j := 1) (v := .int .i64 T) hM12.net rfl
        have c2 := cell_of_block (j := 2) (v := .int .i64 C) hM12.net rfl
        go_wp2_with fail
        refine (net_any _ A l c T C (hA.below hM12.below) hl2).mono ?_
        rintro e W13 ⟨hb13, Bk2, dk2, rfl, hBk2, hBfk2⟩
        have hM13 := hM12.step hb13
        replace Hb1 := Lib.hid (Hb1.out.below hb13)
        replace Hb2 := Lib.hid (Hb2.out.below hb13)
        replace Hk1 := Lib.hid (Hk1.out.below hb13)
        clear hM12 hb13 c0 c1 c2
        go_wp2_with fail
        refine (ctl_out hBk2 hV (by omega)).mono ?_
        rintro e W14 ⟨hb14, vk2, sk2, rfl, hv⟩
        have hM14 := hM13.step hb14
        replace Hb1 := Lib.hid (Hb1.out.below hb14)
        replace Hb2 := Lib.hid (Hb2.out.below hb14)
        replace Hk1 := Lib.hid (Hk1.out.below hb14)
        have Hk2 := Lib.hid hv
        clear hM13 hb14 hv hBk2 hBfk2
        rcases Hb1.out with ⟨rfl, hcan, g1, cap1, ps1, rfl, _, hg1, hpl1, hps1, how1⟩ | ⟨rfl, rfl, hcan⟩
        · obtain ⟨rfl, hcan2, g2, cap2, ps2, rfl, _, hg2, hpl2, hps2, how2⟩ := Hb2.out.resolve_right (fun h => h.2.2 (canE_err hV.reads (by omega) hcan))
          obtain ⟨rfl, Bl1, dl1, rfl⟩ : sl1 = 0 ∧ ∃ B d, vl1 = .slice B 0 d := by
            rcases Hl1.out with ⟨h1, B, d, ys, h2, h3⟩ | ⟨_, _, h⟩
            · rw [(leave_none h3).1 hcan] at h2; exact ⟨h1, B, d, h2⟩
            · exact absurd hcan (h [] ⟨rfl, .nil, by simp⟩)
          obtain ⟨rfl, Bl2, dl2, rfl⟩ : sl2 = 0 ∧ ∃ B d, vl2 = .slice B 0 d := by
            rcases Hl2.out with ⟨h1, B, d, ys, h2, h3⟩ | ⟨_, _, h⟩
            · rw [(leave_none h3).1 hcan2] at h2; exact ⟨h1, B, d, h2⟩
            · exact absurd hcan2 (h [] ⟨rfl, .nil, by simp⟩)
          obtain ⟨rfl, _, Bk1, dk1, ks1, rfl, hI1, hkl1, hk1⟩ := Hk1.out.resolve_right (fun h => h.2.2 hcan)
          obtain ⟨rfl, _, Bk2, dk2, ks2, rfl, hI2, hkl2, hk2⟩ := Hk2.out.resolve_right (fun h => h.2.2 hcan2)
          have HIN : Hid (∀ x ∈ outI ks2, x ∈ outI ks1) := Lib.hid (fun x hx => by
            unfold outI at hx
            obtain ⟨i, hi, rfl⟩ := List.mem_map.1 hx
            have h := (hk2 i).1 hi
            exact mem_outI.2 ((hk1 i).2 ⟨h.1, ctl_mono hV.reads (by omega) (by omega) hcan h.1 h.2⟩))
          have HEN : Hid (∀ k p q, ps1[k]? = some p → ps2[k]? = some q → k < l.length → q.1 ≤ p.1 ∧ p.2 ≤ q.2) := Lib.hid (fun k p q hp hq hk => ends_wide (hps1 k p hp) (hps2 k q hq) (fun j hj => rm_mono hV.reads (by omega) j hj) hk)
          have H1 := Lib.hid (And.intro how1 hpl1)
          have H2 := Lib.hid (And.intro how2 hpl2)
          have hol1 : (outI ks1).length ≤ 1000000 := by rw [outI_len]; omega
          have hol2 : (outI ks2).length ≤ 1000000 := by rw [outI_len]; omega
          clear Hb1 Hb2 Hl1 Hl2 Hk1 Hk2 hcan hcan2 hps1 hps2 how1 how2 hk1 hk2 hpl1 hpl2
          go_wp2_with fail
          refine (inside_any _ Bk2 Bk1 (outI ks2) (outI ks1) dk2 dk1 hI2 hI1 hol2 hol1).mono ?_
          rintro e W15 ⟨hb15, b', rfl, hb'⟩
          obtain rfl : b' = true := hb'.2 HIN.out
          have hM15 := hM14.step hb15
          replace H1 := Lib.hid (And.intro (ownsRow_below H1.out.1 hb15 (Nat.le_refl _)) H1.out.2)
          replace H2 := Lib.hid (And.intro (ownsRow_below H2.out.1 hb15 (Nat.le_refl _)) H2.out.2)
          clear hM14 hb' HIN hI1 hI2 hb15
          go_wp2_with fail
          go_loopw [21] (fun t wr => ∃ k m : Nat, k ≤ l.length ∧ t = .int .i64 k ∧ wr = W15.drewN m) (fun t _ => l.length - (intOf t).toNat)
          case atStart => exact ⟨0, 0, Nat.zero_le _, rfl, rfl⟩
          case round =>
            obtain ⟨k, m, hk, rfl, rfl⟩ := hrel
            by_cases hlt : k < l.length
            · obtain ⟨p, hp⟩ : ∃ p, ps1[k]? = some p := ⟨ps1[k]'(by rw [H1.out.2]; exact hlt), by rw [List.getElem?_eq_getElem]⟩
              obtain ⟨q, hq⟩ : ∃ q, ps2[k]? = some q := ⟨ps2[k]'(by rw [H2.out.2]; exact hlt), by rw [List.getElem?_eq_getElem]⟩
              have hpc := pairs_cell H1.out.1 hp
              have hqc := pairs_cell H2.out.1 hq
              have hen := HEN.out k p q hp hq hlt
              obtain ⟨p0, p1⟩ := p
              obtain ⟨q0, q1⟩ := q
              obtain ⟨u0, u1⟩ := hpc
              obtain ⟨u2, u3⟩ := hqc
              have d1' : decide (p0 < q0) = false := decide_eq_false (by omega)
              have d2' : decide (q1 < p1) = false := decide_eq_false (by omega)
              have hk0 : (0 : Int) ≤ k := by omega
              have hk1 : (k : Int) < l.length := by omega
              clear hp hq
              go_wp2_with fail
              go_quiet (fail)
              go_wp2_with fail
              go_roundw
              case rel => exact ⟨k + 1, m + nq, by omega, by go_num, rfl⟩
              case measure => simp [intOf]; omega
            · go_wp2_with fail
              refine (awake_any _).mono ?_
              rintro e W ⟨hbW, rfl⟩
              go_wp2_with fail
              go_ret
              exact ⟨rfl, (hM15.step ((below_drewN (Below.refl _ _) m).trans (hbW.mono (Nat.le_refl _)))).below⟩
        · obtain ⟨rfl, rfl⟩ : sk1 = 9 ∧ vk1 = .slice none 0 0 := by
            rcases Hk1.out with ⟨_, h, _⟩ | ⟨h1, h2, _⟩
            · exact absurd h hcan
            · exact ⟨h1, h2⟩
          obtain rfl : sb2 = sk2 := by
            rcases Hb2.out with ⟨h1, h2, _⟩ | ⟨h1, _, h2⟩
            · rcases Hk2.out with ⟨h3, _⟩ | ⟨_, _, h4⟩
              · omega
              · exact absurd h2 h4
            · rcases Hk2.out with ⟨_, h3, _⟩ | ⟨h3, _⟩
              · exact absurd h3 h2
              · omega
          rcases Hl1.out with ⟨rfl, Bl1, dl1, ys1, rfl, hy1⟩ | ⟨rfl, rfl, hn1⟩
          · obtain ⟨rfl, Bl2, dl2, ys2, rfl, hy2⟩ := Hl2.out.resolve_right (fun h => leave_iff hV.len.2 hy1 h.2.2)
            have hle := leave_short hV.reads (by omega) hy1 hy2
            have hpos : 0 < ys1.length := by
              by_cases e : ys1.length = 0
              · exact absurd ((leave_none hy1).2 (List.length_eq_zero_iff.1 e)) hcan
              · omega
            have d1' : decide ((ys1.length : Int) < ys2.length) = false := decide_eq_false (by omega)
            have d2' : decide ((0 : Int) < ys1.length) = true := decide_eq_true (by omega)
            clear Hb1 Hb2 Hl1 Hl2 Hk1 Hk2 hcan hy1 hy2
            go_wp2_with fail
            refine (awake_any _).mono ?_
            rintro e W ⟨hbW, rfl⟩
            go_wp2_with fail
            go_ret
            exact ⟨rfl, (hM14.step hbW).below⟩
          · obtain ⟨rfl, rfl⟩ : sl2 = 9 ∧ vl2 = .slice none 0 0 := by
              rcases Hl2.out with ⟨_, _, _, ys, _, h⟩ | ⟨h1, h2, _⟩
              · exact absurd hn1 (leave_iff hV.len.2 h)
              · exact ⟨h1, h2⟩
            clear Hb1 Hb2 Hl1 Hl2 Hk1 Hk2 hcan hn1
            go_wp2_with fail
            refine (awake_any _).mono ?_
            rintro e W ⟨hbW, rfl⟩
            go_wp2_with fail
            go_ret
            exact ⟨rfl, (hM14.step hbW).below⟩
    · have hz' : (faultN l T C != 0) = true := by simp [hz]
      clear hz
      go_wp2_with fail
      refine (awake_any _).mono ?_
      rintro e W6 ⟨hb6, rfl⟩
      go_wp2_with fail
      go_ret
      exact ⟨rfl, (hM2.step hb6).below⟩
  · have h1' : decide (l.length ≤ 15) = false := decide_eq_false h1
    have HL := Lib.hid h1'
    clear h1 h1' ha hb
    go_enter Try.func11, Try.ntmps11
    go_wp2_with fail
    refine (thin_any _ _ _ _ _ _ hl).mono ?_
    rintro e W1 ⟨hb1, he⟩
    rw [HL.out] at he
    subst he
    have hM1 := hM.step hb1
    go_wp2_with fail
    refine (awake_any _).mono ?_
    rintro e W6 ⟨hb6, rfl⟩
    go_wp2_with fail
    go_ret
    exact ⟨rfl, (hM1.step hb6).below⟩
end Go.Proofs.Ytnhbplnhhloklaa
