/- The law on truths: its walk. -/
import Derived.Test.YtnhbplnhhloklaaZ1
namespace Go.Proofs.Ytnhbplnhhloklaa
open Go.RowKit

section
variable {l : List Ang} {T C : Nat} {xs : List Int} {lo hi : Nat → Int}
theorem truth_can (hN : NetOk l T C) (h : TruthL l T C xs lo hi) : Can l T C lo hi := ⟨_, (truthL_iff hN).1 h⟩
/-- A truth lies in the bounds. -/
theorem truth_ends (hN : NetOk l T C) (h : TruthL l T C xs lo hi) {i : Nat} (hil : i < l.length) {p q : Int} (hE : EndsAre l T C lo hi i p q) : p ≤ xs.getD i 0 ∧ xs.getD i 0 ≤ q := by
  have hx := (truthL_iff hN).1 h
  have hin := h.1 i hil
  have hc : Can l T C (setAt lo i (xs.getD i 0)) (setAt hi i (xs.getD i 0)) := ⟨_, fun j hj => by
    unfold setAt
    by_cases e : j = i
    · subst e; simp only [if_true]; omega
    · simp only [if_neg e]; exact hx.1 j hj, hx.2⟩
  constructor
  · by_cases e : xs.getD i 0 < p
    · exact absurd hc (hE.na _ hin.1 e)
    · omega
  · by_cases e : q < xs.getD i 0
    · exact absurd hc (hE.nb _ e hin.2)
    · omega
/-- The least error of a net that closes within an error. -/
theorem least_le {e n s : Int} (he : 0 ≤ e ∧ e ≤ 40) (hc : CanE l T C e []) (h : LeastIs l T C n s) : s = 0 ∧ 0 ≤ n ∧ n ≤ e := by
  obtain ⟨k, rfl⟩ := Int.eq_ofNat_of_zero_le he.1
  rcases h with ⟨j, hj, hc2, hno, rfl, rfl⟩ | ⟨hno, _⟩
  · refine ⟨rfl, by omega, ?_⟩
    by_cases e1 : k < j
    · exact absurd hc (hno k e1)
    · omega
  · exact absurd hc (hno k (by omega))
end
/-- What Closed's numbers and nets are in memory. -/
structure ZMem (w W1 wr : World) (B : Option Addr) (n d : Nat) (T C : Int) (D : Option Addr) (xs : List Int) : Prop where
  old : Below w.heap.size w W1
  net : NMem W1 wr B n d T C
  ints : IntsAt wr D xs
theorem ZMem.step {w W1 wr w' : World} {B : Option Addr} {n d : Nat} {T C : Int} {D : Option Addr} {xs : List Int} (h : ZMem w W1 wr B n d T C D xs) (hb : Below wr.heap.size wr w') : ZMem w W1 w' B n d T C D xs := ⟨h.old, h.net.step hb, h.ints.below hb⟩
theorem ZMem.below {w W1 wr : World} {B : Option Addr} {n d : Nat} {T C : Int} {D : Option Addr} {xs : List Int} (h : ZMem w W1 wr B n d T C D xs) : Below w.heap.size w wr := h.old.trans (h.net.below.mono h.old.size)
theorem ints_none {W : World} {D : Option Addr} {xs : List Int} (h : IntsAt W D xs) (hx : 0 < xs.length) (d : Nat) : D = none → xs = [] ∧ d = 0 := by
  rintro rfl
  obtain ⟨b, o, e, _⟩ := h 0 xs[0] (by simp [hx])
  cases e

set_option maxHeartbeats 16000000 in
set_option maxRecDepth 100000 in
theorem truth_walk (w : World) (A : Option Addr) (ws : List Int) (c : Nat) (b : Int) (hA : HexAt w A ws) (hl : ws.length ≤ maxLen) (_hn : A = none → ws = [] ∧ c = 0) (hb : (Lit.int .u8 b).wf = true) :
    Calls Try.prog 9 #[.slice A ws.length c, .int .u8 b] w (Holds w) := by
  have hb8 := u8_in hb
  clear hb
  go_enter Try.func9, Try.ntmps9
  have hE : 0 ≤ b % 6 ∧ b % 6 ≤ 5 := by omega
  go_wp2_with fail
  generalize b % 6 = e at *
  refine (closed_any w A ws c e hA hl hE).mono ?_
  rintro r1 W1 ⟨hb1, B, l, d, T, C, D, xs, d2, rfl, hB, hD, hxl, hl0, hl14, hBf, hdone⟩
  have hBf2 := Lib.hid hBf
  have hdn := Lib.hid hdone
  have hZ : ZMem w W1 (W1.alloc (.cells #[.slice B l.length d, .int .i64 T, .int .i64 C] 24)) B l.length d T C D xs := ⟨hb1, NMem.made W1 B l.length d T C, hD.below ((Below.refl _ W1).alloc (Nat.le_refl _) _)⟩
  clear hBf hdone hb1 hA hD
  have hl2 : l.length ≤ 1000 := by omega
  have hx2 : xs.length ≤ 1000 := by omega
  have hx0 : 0 < xs.length := by omega
  have hXL := Lib.hid hxl
  clear hxl
  go_wp2_with fail
  refine (lfault_any _ B l d T C (hB.below hZ.net.below) hl2).mono ?_
  rintro r2 W2 ⟨hb2, rfl⟩
  have hZ2 := hZ.step hb2
  clear hZ hb2
  by_cases hz : faultN l T C = 0
  · have hz' : (faultN l T C != 0) = false := by simp [hz]
    have hV : Valid l T C := by
      obtain ⟨T', C', h1, h2, hV⟩ := valid_of hz
      obtain rfl : T = T' := by omega
      obtain rfl : C = C' := by omega
      exact hV
    have hTL := (hdn.out hV.len.2).2
    have hcan : CanE l T C e [] := truth_can hV.net hTL
    have HT := Lib.hid hTL
    have HCA := Lib.hid hcan
    have HV := Lib.hid hV
    have hE40 : 0 ≤ e ∧ e ≤ 40 := by omega
    have hA0 : askedN l T C e = 0 := asked_in (faultN_valid hV) hE40
    have HAS := Lib.hid hA0
    clear hTL hcan hA0 hz hdn hV
    obtain ⟨c0, c1, c2⟩ := hZ2.net.cells
    go_wp2_with fail
    refine (net_any _ B l d T C (hB.below hZ2.net.below) hl2).mono ?_
    rintro r3 W3 ⟨hb3, B2, d3, rfl, hB2, _⟩
    have hZ3 := hZ2.step hb3
    clear hZ2 hb3 c0 c1 c2
    go_wp2_with fail
    refine (least_out hB2 HV.out).mono ?_
    rintro r4 W4 ⟨hb4, n1, s1, rfl, hs1⟩
    obtain ⟨rfl, hn0, hn1⟩ := least_le hE40 HCA.out hs1
    have hZ4 := hZ3.step hb4
    clear hZ3 hb4 hB2 hs1
    obtain ⟨c0, c1, c2⟩ := hZ4.net.cells
    go_wp2_with fail
    refine (net_any _ B l d T C (hB.below hZ4.net.below) hl2).mono ?_
    rintro r5 W5 ⟨hb5, B2, d3, rfl, hB2, _⟩
    have hZ5 := hZ4.step hb5
    clear hZ4 hb5 c0 c1 c2
    go_wp2_with fail
    refine (bounds_out hB2 HV.out hE40).mono ?_
    rintro r6 W6 ⟨hb6, vb, sb, rfl, hvb⟩
    obtain ⟨rfl, _, g, cap, ps, rfl, _, hg, hpl, hps, how⟩ := hvb.resolve_right (fun h => h.2.2 HCA.out)
    have HO := Lib.hid how
    have HPL := Lib.hid hpl
    have HPS := Lib.hid hps
    have hZ6 := hZ5.step hb6
    clear hZ5 hb6 hB2 hvb how hpl hps
    obtain ⟨c0, c1, c2⟩ := hZ6.net.cells
    go_wp2_with fail
    refine (net_any _ B l d T C (hB.below hZ6.net.below) hl2).mono ?_
    rintro r7 W7 ⟨hb7, B2, d3, rfl, hB2, hB2f⟩
    have hZ7 := hZ6.step hb7
    replace HO := Lib.hid (ownsRow_below HO.out hb7 (Nat.le_refl _))
    clear hZ6 hb7 c0 c1 c2
    go_wp2_with fail
    refine (leaves_out hB2 (fun b o e => (hB2f b o e).2) HV.out hE40).mono ?_
    rintro r8 W8 ⟨hb8, vl, sl, rfl, hvl⟩
    obtain ⟨rfl, Bl, dl, rfl⟩ : sl = 0 ∧ ∃ B d, vl = .slice B 0 d := by
      rcases hvl with ⟨h1, B, d, ys, h2, h3⟩ | ⟨_, _, h⟩
      · rw [(leave_none h3).1 HCA.out] at h2; exact ⟨h1, B, d, h2⟩
      · exact absurd HCA.out (h [] ⟨rfl, .nil, by simp⟩)
    have hZ8 := hZ7.step hb8
    replace HO := Lib.hid (ownsRow_below HO.out hb8 (Nat.le_refl _))
    clear hZ7 hb8 hB2 hB2f hvl
    obtain ⟨c0, c1, c2⟩ := hZ8.net.cells
    have d1 : decide (e < n1) = false := decide_eq_false (by omega)
    have d2' : decide (n1 < 0) = false := decide_eq_false (by omega)
    have d3' : ((l.length : Int) != xs.length) = false := by rw [hXL.out]; simp
    go_wp2_with fail
    refine (net_any _ B l d T C (hB.below hZ8.net.below) hl2).mono ?_
    rintro r9 W9 ⟨hb9, B2, d3, rfl, hB2, _⟩
    have hZ9 := hZ8.step hb9
    replace HO := Lib.hid (ownsRow_below HO.out hb9 (Nat.le_refl _))
    clear hZ8 hb9 c0 c1 c2
    go_wp2_with fail
    refine (list_any _ D xs d2 hZ9.ints (ints_none hZ9.ints hx0 d2) hx2).mono ?_
    rintro r10 W10 ⟨hb10, X2, dX, rfl, hX2, _⟩
    have hZ10 := hZ9.step hb10
    have hB10 := hB2.below hb10
    replace HO := Lib.hid (ownsRow_below HO.out hb10 (Nat.le_refl _))
    clear hZ9 hb10 hB2
    go_wp2_with fail
    refine (proveTruth_any _ B2 X2 l xs d3 dX T C e hB10 hX2 hl2 hx2).mono ?_
    rintro r11 W11 ⟨hb11, is, rfl, his⟩
    obtain rfl : is = true := his.2 ⟨HAS.out, hXL.out, HT.out⟩
    have hZ11 := hZ10.step hb11
    replace HO := Lib.hid (ownsRow_below HO.out hb11 (Nat.le_refl _))
    clear hZ10 hb11 hB10 hX2 his
    go_wp2_with fail
    go_loopw [14] (fun t wr => ∃ k m : Nat, k ≤ l.length ∧ t = .int .i64 k ∧ wr = W11.drewN m) (fun t _ => l.length - (intOf t).toNat)
    case atStart => exact ⟨0, 0, Nat.zero_le _, rfl, rfl⟩
    case round =>
      obtain ⟨k, m, hk, rfl, rfl⟩ := hrel
      by_cases hlt : k < l.length
      · obtain ⟨p, hp⟩ : ∃ p, ps[k]? = some p := ⟨ps[k]'(by rw [HPL.out]; exact hlt), by rw [List.getElem?_eq_getElem]⟩
        obtain ⟨x, hx⟩ : ∃ x, xs[k]? = some x := ⟨xs[k]'(by rw [hXL.out]; exact hlt), by rw [List.getElem?_eq_getElem]⟩
        have hxd : xs.getD k 0 = x := by rw [List.getD_eq_getElem?_getD, hx]; rfl
        have hpc := pairs_cell HO.out hp
        have hen := truth_ends HV.out.net HT.out hlt (HPS.out k p hp)
        rw [hxd] at hen
        obtain ⟨bD, oD, rfl, hbD, hcD⟩ := hZ11.ints k x hx
        obtain ⟨p0, p1⟩ := p
        obtain ⟨u0, u1⟩ := hpc
        have d4 : decide (x < p0) = false := decide_eq_false (by omega)
        have d5 : decide (p1 < x) = false := decide_eq_false (by omega)
        have hk0 : (0 : Int) ≤ k := by omega
        have hk1 : (k : Int) < l.length := by omega
        have hk2 : (k : Int) < xs.length := by have := hXL.out; omega
        clear hp hx hxd hen
        go_wp2_with fail
        go_quiet (fail)
        go_wp2_with fail
        go_roundw
        case rel => exact ⟨k + 1, m + nq, by omega, by go_num, rfl⟩
        case measure => simp [intOf]; omega
      · go_wp2_with fail
        refine (awake_any _).mono ?_
        rintro r12 W ⟨hbW, rfl⟩
        go_wp2_with fail
        go_ret
        exact ⟨rfl, (hZ11.step ((below_drewN (Below.refl _ _) m).trans (hbW.mono (Nat.le_refl _)))).below⟩
  · have hz' : (faultN l T C != 0) = true := by simp [hz]
    clear hz
    go_wp2_with fail
    refine (awake_any _).mono ?_
    rintro r3 W3 ⟨hb3, rfl⟩
    go_wp2_with fail
    go_ret
    exact ⟨rfl, (hZ2.step hb3).below⟩
end Go.Proofs.Ytnhbplnhhloklaa
