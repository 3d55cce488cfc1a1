/- The law on proofs: its walk. -/
import Derived.Test.YtnhbplnhhloklaaG0
import Derived.Test.YtnhbplnhhloklaaH0
import Derived.Test.YtnhbplnhhloklaaH1
namespace Go.Proofs.Ytnhbplnhhloklaa
open Go.RowKit

/-- The memory of a law with a net and a cut. -/
structure NCMem (w wr : World) (A : Option Addr) (n c : Nat) (T C : Int) (P : Option Addr) (m c1 : Nat) (Q : Option Addr) (k c2 : Nat) : Prop where
  net : NMem w wr A n c T C
  cut : wr.heap[w.heap.size + 1]? = some (.cells #[.slice P m c1, .slice Q k c2] 27 (0, 0))
section
variable {w wr w' : World} {A P Q : Option Addr} {n c m c1 k c2 : Nat} {T C : Int}
theorem NCMem.made (w : World) (A : Option Addr) (n c : Nat) (T C : Int) (P : Option Addr) (m c1 : Nat) (Q : Option Addr) (k c2 : Nat) : NCMem w ((w.alloc (.cells #[.slice A n c, .int .i64 T, .int .i64 C] 24)).alloc (.cells #[.slice P m c1, .slice Q k c2] 27)) A n c T C P m c1 Q k c2 :=
  ⟨⟨((Below.refl _ w).alloc (Nat.le_refl _) _).alloc (by simp) _, past_alloc (at_alloc rfl)⟩, at_alloc (by simp)⟩
theorem NCMem.step (h : NCMem w wr A n c T C P m c1 Q k c2) (hb : Below wr.heap.size wr w') : NCMem w w' A n c T C P m c1 Q k c2 :=
  ⟨h.net.step hb, (hb.block _ (Array.getElem?_eq_some_iff.1 h.cut).1).trans h.cut⟩
theorem NCMem.cells (h : NCMem w wr A n c T C P m c1 Q k c2) : wr.cell? ⟨w.heap.size, 0, none⟩ = some (.slice A n c) ∧ wr.cell? ⟨w.heap.size, 1, none⟩ = some (.int .i64 T) ∧ wr.cell? ⟨w.heap.size, 2, none⟩ = some (.int .i64 C) ∧ wr.cell? ⟨w.heap.size + 1, 0, none⟩ = some (.slice P m c1) ∧ wr.cell? ⟨w.heap.size + 1, 1, none⟩ = some (.slice Q k c2) :=
  ⟨cell_of_block (j := 0) h.net.net rfl, cell_of_block (j := 1) h.net.net rfl, cell_of_block (j := 2) h.net.net rfl, cell_of_block (j := 0) h.cut rfl, cell_of_block (j := 1) h.cut rfl⟩
end

/-- The five cells. -/
def Five (w : World) (A : Option Addr) (n c : Nat) (T C : Int) (P : Option Addr) (m c1 : Nat) (Q : Option Addr) (k c2 : Nat) (w' : World) : Prop := w'.cell? ⟨w.heap.size, 0, none⟩ = some (.slice A n c) ∧ w'.cell? ⟨w.heap.size, 1, none⟩ = some (.int .i64 T) ∧ w'.cell? ⟨w.heap.size, 2, none⟩ = some (.int .i64 C) ∧ w'.cell? ⟨w.heap.size + 1, 0, none⟩ = some (.slice P m c1) ∧ w'.cell? ⟨w.heap.size + 1, 1, none⟩ = some (.slice Q k c2)

set_option maxHeartbeats 16000000 in
set_option maxRecDepth 100000 in
theorem proves_walk (w : World) (A : Option Addr) (l : List Ang) (c : Nat) (T C err : Int) (X : Option Addr) (xs : List Int) (cx : Nat) (P : Option Addr) (ts : List Int) (c1 : Nat) (Q : Option Addr) (cs : List Int) (c2 : Nat)
    (hA : AngAt w A l) (hl : l.length ≤ 9223372036854775807) (hX : IntsAt w X xs) (_hxl : xs.length ≤ maxLen) (hX0 : X = none → xs = [] ∧ cx = 0) (hP : IntsAt w P ts) (hQ : IntsAt w Q cs) (_hlp : ts.length ≤ maxLen) (_hlq : cs.length ≤ maxLen) (hP0 : P = none → ts = [] ∧ c1 = 0) (hQ0 : Q = none → cs = [] ∧ c2 = 0) :
    Calls Try.prog 3 #[.agg #[.slice A l.length c, .int .i64 T, .int .i64 C], .int .i64 err, .slice X xs.length cx, .agg #[.slice P ts.length c1, .slice Q cs.length c2]] w (Holds w) := by
  have hM := NCMem.made w A l.length c T C P ts.length c1 Q cs.length c2
  by_cases h1 : l.length ≤ 15
  · have h1' : decide (l.length ≤ 15) = true := decide_eq_true h1
    have HL := Lib.hid h1'
    have hl2 : l.length ≤ 1000 := by omega
    clear h1'
    by_cases h2 : xs.length ≤ 15
    · by_cases h3 : ts.length ≤ 9
      · by_cases h4 : cs.length ≤ 9
        · have hxl2 : xs.length ≤ 1000 := by omega
          have hlt2 : ts.length ≤ 1000 := by omega
          have hlc2 : cs.length ≤ 1000 := by omega
          have d2 : decide ((15 : Int) < xs.length) = false := decide_eq_false (by omega)
          have d3 : decide ((9 : Int) < ts.length) = false := decide_eq_false (by omega)
          have d4 : decide ((9 : Int) < cs.length) = false := decide_eq_false (by omega)
          go_enter Try.func3, Try.ntmps3
          go_wp2_with fail
          refine (thin_any _ _ _ _ _ _ hl).mono ?_
          rintro e W1 ⟨hb1, he⟩
          rw [HL.out] at he
          subst he
          have hM1 := hM.step hb1
          clear hM hb1 HL
          obtain ⟨k0, k1, k2, k3, k4⟩ := hM1.cells
          go_wp2_with fail
          refine (net_any _ A l c T C (hA.below hM1.net.below) hl2).mono ?_
          rintro e W2 ⟨hb2, B, d, rfl, hB, _⟩
          have hM2 := hM1.step hb2
          clear hM1 k0 k1 k2 k3 k4 d2 d3 d4
          go_wp2_with fail
          refine (list_any _ X xs cx (hX.below hM2.net.below) hX0 hxl2).mono ?_
          rintro e W3 ⟨hb3, X2, dX, rfl, hX2, _⟩
          have hM3 := hM2.step hb3
          have hB3 := hB.below hb3
          clear hM2 hB hb2 hb3
          go_wp2_with fail
          refine (proveTruth_any _ B X2 l xs d dX T C err hB3 hX2 hl2 hxl2).mono ?_
          rintro e W4 ⟨hb4, is, rfl, his⟩
          have HIS := Lib.hid his
          have hM4 := hM3.step hb4
          clear hM3 hb4 hB3 hX2 his
          have hP0' : NCMem w W4.drew A l.length c T C P ts.length c1 Q cs.length c2 := hM4.step (Below.refl _ W4).drew
          obtain ⟨k0, k1, k2, k3, k4⟩ := hM4.cells
          have H4 := Lib.hid hM4
          clear hM4
          go_wp2_with fail
          go_region_held3 (fun w' => w'.cell? ⟨w.heap.size, 0, none⟩ = some (.slice A l.length c) ∧ w'.cell? ⟨w.heap.size, 1, none⟩ = some (.int .i64 T) ∧ w'.cell? ⟨w.heap.size, 2, none⟩ = some (.int .i64 C) ∧ w'.cell? ⟨w.heap.size + 1, 0, none⟩ = some (.slice P ts.length c1) ∧ w'.cell? ⟨w.heap.size + 1, 1, none⟩ = some (.slice Q cs.length c2))
            ((first | exact hM7.cells | exact hM6.cells | exact hM5.cells | exact hP0'.cells | exact ⟨by assumption, by assumption, by assumption, by assumption, by assumption⟩))
            (first | (go_at_call 22; refine (net_any _ A l c T C (hA.below hP0'.net.below) hl2).mono ?_; rintro e W5 ⟨hb5, B, d, rfl, hB, _⟩; have hM5 := hP0'.step hb5) | (go_at_call 25; refine (cut_any _ P Q ts cs c1 c2 (hP.below hM5.net.below) (hQ.below hM5.net.below) hP0 hQ0 hlt2 hlc2).mono ?_; rintro e W6 ⟨hb6, P2, Q2, d1, d2, rfl, hP2, hQ2⟩; have hM6 := hM5.step hb6; have hB6 := hB.below hb6) | (go_at_call 24; refine (proveCut_any _ B P2 Q2 l ts cs d d1 d2 T C err hB6 hP2 hQ2 hl2 hlt2 hlc2).mono ?_; rintro e W7 ⟨hb7, pr, rfl, hpr⟩; have HPR := Lib.hid hpr; have hM7 := hM6.step hb7; clear hpr))
          obtain ⟨k0, k1, k2, k3, k4⟩ := hM7.cells
          clear hM6 hM5 hP0' hb5 hb6 hb7 hB hB6 hP2 hQ2 H4
          have hP1' : NCMem w W7.drew A l.length c T C P ts.length c1 Q cs.length c2 := hM7.step (Below.refl _ W7).drew
          clear hM7
          go_wp2_with fail
          go_region_held3 (fun w' => w'.cell? ⟨w.heap.size, 0, none⟩ = some (.slice A l.length c) ∧ w'.cell? ⟨w.heap.size, 1, none⟩ = some (.int .i64 T) ∧ w'.cell? ⟨w.heap.size, 2, none⟩ = some (.int .i64 C) ∧ w'.cell? ⟨w.heap.size + 1, 0, none⟩ = some (.slice P ts.length c1) ∧ w'.cell? ⟨w.heap.size + 1, 1, none⟩ = some (.slice Q cs.length c2))
            ((first | exact hM10.cells | exact hM9.cells | exact hM8.cells | exact hP1'.cells | exact ⟨by assumption, by assumption, by assumption, by assumption, by assumption⟩))
            (first | (go_at_call 22; refine (net_any _ A l c T C (hA.below hP1'.net.below) hl2).mono ?_; rintro e W8 ⟨hb8, B, d, rfl, hB, _⟩; have hM8 := hP1'.step hb8) | (go_at_call 26; refine (checkNet_any _ B l d T C hB hl2).mono ?_; rintro e W9 ⟨hb9, rfl⟩; have hM9 := hM8.step hb9) | (go_at_call 27; refine (lfault_any _ A l c T C (hA.below hM9.net.below) hl2).mono ?_; rintro e W10 ⟨hb10, rfl⟩; have hM10 := hM9.step hb10))
          clear hM9 hM8 hP1' hb8 hb9 hb10 hB k0 k1 k2 k3 k4
          obtain ⟨k0, k1, k2, k3, k4⟩ := hM10.cells
          go_wp2_with fail
          refine (lasked_any _ A l c T C err (hA.below hM10.net.below) hl2).mono ?_
          rintro e W11 ⟨hb11, rfl⟩
          have hM11 := hM10.step hb11
          clear hM10 hb11 k0 k1 k2 k3 k4
          by_cases ha : askedN l T C err = 0
          · have ha' : (askedN l T C err != 0) = false := by simp [ha]
            have hz := askedN_zero ha
            obtain ⟨T, C, rfl, rfl, hV⟩ := valid_of hz.1
            have hE := hz.2
            have hl12 := hV.len.2
            have hR := rm_ok (out := []) (k := l.length) hV.reads hE
            have H1 : Hid (is = true ↔ xs.length = l.length ∧ TruthL l T C xs (rmLo l err [] l.length) (rmHi l err [] l.length)) := Lib.hid ⟨fun h => (HIS.out.1 h).2, fun h => HIS.out.2 ⟨ha, h⟩⟩
            have H2 : Hid (pr = true ↔ Rising ts T ∧ Rising cs C ∧ ProvesL l ts cs (rmLo l err [] l.length) (rmHi l err [] l.length)) := Lib.hid ⟨fun h => (HPR.out.1 h).2, fun h => HPR.out.2 ⟨ha, h⟩⟩
            have hP2' : NCMem w W11.drew A l.length c T C P ts.length c1 Q cs.length c2 := hM11.step (Below.refl _ W11).drew
            obtain ⟨k0, k1, k2, k3, k4⟩ := hM11.cells
            clear hM11 ha hz HIS HPR
            go_wp2_with fail
            go_region_held3 (fun w' => w'.cell? ⟨w.heap.size, 0, none⟩ = some (.slice A l.length c) ∧ w'.cell? ⟨w.heap.size, 1, none⟩ = some (.int .i64 T) ∧ w'.cell? ⟨w.heap.size, 2, none⟩ = some (.int .i64 C) ∧ w'.cell? ⟨w.heap.size + 1, 0, none⟩ = some (.slice P ts.length c1) ∧ w'.cell? ⟨w.heap.size + 1, 1, none⟩ = some (.slice Q cs.length c2))
              ((first | exact hM15.cells | exact hM14.cells | exact hM13.cells | exact hM12.cells | exact hP2'.cells | exact ⟨by assumption, by assumption, by assumption, by assumption, by assumption⟩))
              (first | (go_at_call 30; refine (rrooms0 _ A l c T C err (hA.below hP2'.net.below) hl12 hE hV.reads).mono ?_; rintro e W12 ⟨hb12, R, dR, rfl, hRm⟩; have hM12 := hP2'.step hb12) | (go_at_call 29; refine (isTruth_any _ A R X l xs c dR cx T C _ _ (hA.below hM12.net.below) hRm (hX.below hM12.net.below) hl12 (by omega) hV.net hR).mono ?_; rintro e W13 ⟨hb13, b1, rfl, hb1⟩; obtain rfl : b1 = is := Bool.eq_iff_iff.2 (hb1.trans H1.out.symm); have hM13 := hM12.step hb13; clear hb1) | (go_at_call 31; refine (rproves_any _ A P Q l ts cs c c1 c2 T C err (hA.below hM13.net.below) hV hE (hP.below hM13.net.below) (hQ.below hM13.net.below) hlt2 hlc2).mono ?_; rintro e W14 ⟨hb14, b2, rfl, hb2⟩; obtain rfl : b2 = pr := Bool.eq_iff_iff.2 (hb2.trans H2.out.symm); have hM14 := hM13.step hb14; clear hb2) | (go_at_call 20; refine (awake_any _).mono ?_; rintro e W15 ⟨hb15, rfl⟩; have hM15 := hM14.step hb15))
            go_wp2_with fail
            go_ret
            exact ⟨by simp, hM15.net.below⟩
          · have ha' : (askedN l T C err != 0) = true := by simp [ha]
            obtain rfl : is = false := by
              cases is with
              | false => rfl
              | true => exact absurd (HIS.out.1 rfl).1 ha
            obtain rfl : pr = false := by
              cases pr with
              | false => rfl
              | true => exact absurd (HPR.out.1 rfl).1 ha
            clear ha HIS HPR
            go_wp2_with fail
            refine (awake_any _).mono ?_
            rintro e W6 ⟨hb6, rfl⟩
            go_wp2_with fail
            go_ret
            exact ⟨rfl, (hM11.step hb6).net.below⟩
        · have d2 : decide ((15 : Int) < xs.length) = false := decide_eq_false (by omega)
          have d3 : decide ((9 : Int) < ts.length) = false := decide_eq_false (by omega)
          have d4 : decide ((9 : Int) < cs.length) = true := decide_eq_true (by omega)
          go_enter Try.func3, Try.ntmps3
          go_wp2_with fail
          refine (thin_any _ _ _ _ _ _ hl).mono ?_
          rintro e W1 ⟨hb1, he⟩
          rw [HL.out] at he
          subst he
          have hM1 := hM.step hb1
          obtain ⟨k0, k1, k2, k3, k4⟩ := hM1.cells
          go_wp2_with fail
          refine (awake_any _).mono ?_
          rintro e W6 ⟨hb6, rfl⟩
          go_wp2_with fail
          go_ret
          exact ⟨rfl, (hM1.step hb6).net.below⟩
      · have d2 : decide ((15 : Int) < xs.length) = false := decide_eq_false (by omega)
        have d3 : decide ((9 : Int) < ts.length) = true := decide_eq_true (by omega)
        go_enter Try.func3, Try.ntmps3
        go_wp2_with fail
        refine (thin_any _ _ _ _ _ _ hl).mono ?_
        rintro e W1 ⟨hb1, he⟩
        rw [HL.out] at he
        subst he
        have hM1 := hM.step hb1
        obtain ⟨k0, k1, k2, k3, k4⟩ := hM1.cells
        go_wp2_with fail
        refine (awake_any _).mono ?_
        rintro e W6 ⟨hb6, rfl⟩
        go_wp2_with fail
        go_ret
        exact ⟨rfl, (hM1.step hb6).net.below⟩
    · have d2 : decide ((15 : Int) < xs.length) = true := decide_eq_true (by omega)
      go_enter Try.func3, Try.ntmps3
      go_wp2_with fail
      refine (thin_any _ _ _ _ _ _ hl).mono ?_
      rintro e W1 ⟨hb1, he⟩
      rw [HL.out] at he
      subst he
      have hM1 := hM.step hb1
      go_wp2_with fail
      refine (awake_any _).mono ?_
      rintro e W6 ⟨hb6, rfl⟩
      go_wp2_with fail
      go_ret
      exact ⟨rfl, (hM1.step hb6).net.below⟩
  · have h1' : decide (l.length ≤ 15) = false := decide_eq_false h1
    have HL := Lib.hid h1'
    clear h1'
    go_enter Try.func3, Try.ntmps3
    go_wp2_with fail
    refine (thin_any _ _ _ _ _ _ hl).mono ?_
    rintro e W1 ⟨hb1, he⟩
    rw [HL.out] at he
    subst he
    have hM1 := hM.step hb1
    go_wp2_with fail
    refine (awake_any _).mono ?_
    rintro e W6 ⟨hb6, rfl⟩
    go_wp2_with fail
    go_ret
    exact ⟨rfl, (hM1.step hb6).net.below⟩
end Go.Proofs.Ytnhbplnhhloklaa
