/- The law on bounds: its walk. -/
import Derived.Test.YtnhbplnhhloklaaG0
import Derived.Test.YtnhbplnhhloklaaH1
import Derived.Test.YtnhbplnhhloklaaF1
namespace Go.Proofs.Ytnhbplnhhloklaa
open Go.RowKit
attribute [local go_sem ↓] eq58 guard58

theorem own_pos {w : World} {base e size n : Nat} {v : Value} {xs : List Value} (h : w.ownsRow base e size v n xs) (hn : 0 < n) : ∃ g cap, v = .slice (some ⟨g, 0, none⟩) n cap ∧ base ≤ g ∧ g < w.heap.size := by
  rcases h.2 with ⟨_, h0⟩ | ⟨g, cap, cur, rfl, hb, hh, hc, _⟩
  · omega
  · exact ⟨g, cap, rfl, hb, (Array.getElem?_eq_some_iff.1 hh).1⟩
theorem truth_list {l : List Ang} {T C : Nat} {lo hi x : Nat → Int} (hN : NetOk l T C) (h : TruthN l T C lo hi x) : TruthL l T C ((List.range l.length).map x) lo hi := by
  rw [truthL_iff hN]
  refine h.congr fun i hi' => ?_
  rw [List.getD_eq_getElem?_getD, List.getElem?_map, List.getElem?_range hi']
  rfl

set_option maxHeartbeats 8000000 in
set_option maxRecDepth 100000 in
theorem bounds_walk (w : World) (A : Option Addr) (l : List Ang) (c : Nat) (T C err : Int) (hA : AngAt w A l) (hl : l.length ≤ 9223372036854775807) :
    Calls Try.prog 5 #[.agg #[.slice A l.length c, .int .i64 T, .int .i64 C], .int .i64 err] w (Holds w) := by
  have hM := NMem.made w A l.length c T C
  by_cases hf : l.length ≤ 15 ∧ (faultN l T C ≠ 0 ∨ (l.length : Int) ≤ 8)
  · have hf' : decide (l.length ≤ 15 ∧ (faultN l T C ≠ 0 ∨ (l.length : Int) ≤ 8)) = true := decide_eq_true hf
    have HF := Lib.hid hf'
    have hl2 : l.length ≤ 1000 := by omega
    clear hf hf'
    go_enter Try.func5, Try.ntmps5
    go_wp2_with fail
    refine (few_any _ A l c T C 8 (hA.below hM.below) hl).mono ?_
    rintro e W1 ⟨hb1, he⟩
    rw [HF.out] at he
    subst he
    have hM1 := hM.step hb1
    clear hM hb1 HF
    have c0 := cell_of_block (j := 0) (v := .slice A l.length c) hM1.net rfl
    have c1 := cell_of_block (j := 1) (v := .int .i64 T) hM1.net rfl
    have c2 := cell_of_block (j := 2) (v := .int .i64 C) hM1.net rfl
    go_wp2_with fail
    refine (net_any _ A l c T C (hA.below hM1.below) hl2).mono ?_
    rintro e W2 ⟨hb2, B, d, rfl, hB, _⟩
    have hM2 := hM1.step hb2
    clear hM1 hb2 c0 c1 c2
    go_wp2_with fail
    refine (boundsAll_any _ B l d T C err hB hl2).mono ?_
    rintro e W3 ⟨hb3, v, s, rfl, hvs⟩
    have HV := Lib.hid hvs
    have hM3 := hM2.step hb3
    clear hM2 hB hvs
    have c0 := cell_of_block (j := 0) (v := .slice A l.length c) hM3.net rfl
    have c1 := cell_of_block (j := 1) (v := .int .i64 T) hM3.net rfl
    have c2 := cell_of_block (j := 2) (v := .int .i64 C) hM3.net rfl
    go_wp2_with fail
    refine (net_any _ A l c T C (hA.below hM3.below) hl2).mono ?_
    rintro e W4 ⟨hb4, B, d, rfl, hB, _⟩
    have hM4 := hM3.step hb4
    clear hM3 c0 c1 c2
    go_wp2_with fail
    refine (show_any _ B l d T C err hB hl2).mono ?_
    rintro e W5 ⟨hb5, v2, s2, rfl, hvs2⟩
    have HV2 := Lib.hid hvs2
    have hM5 := hM4.step hb5
    have H35 := Lib.hid (hb4.trans (hb5.mono hb4.size))
    clear hM4 hB hvs2 hb3 hb4 hb5
    have c0 := cell_of_block (j := 0) (v := .slice A l.length c) hM5.net rfl
    have c1 := cell_of_block (j := 1) (v := .int .i64 T) hM5.net rfl
    have c2 := cell_of_block (j := 2) (v := .int .i64 C) hM5.net rfl
    go_wp2_with fail
    refine (lsure_any _ A l c T C err (hA.below hM5.below) hl2).mono ?_
    rintro e W6 ⟨hb6, r, rfl, hr⟩
    have hM6 := hM5.step hb6
    have hcase : (v = .slice none 0 0 ∧ v2 = .slice none 0 0 ∧ s = r ∧ s2 = r ∧ r ≠ 0) ∨ (s = 0 ∧ s2 = 0 ∧ r = 0 ∧ askedN l T C err = 0 ∧ CanE l T.toNat C.toNat err [] ∧ (∃ ps, ps.length = l.length ∧ BoundsAre l T.toNat C.toNat err ps ∧ W6.ownsRow W2.heap.size 58 2 v l.length (pairsV ps)) ∧ ∃ x : Nat → Int, TruthN l T.toNat C.toNat (rmLo l err [] l.length) (rmHi l err [] l.length) x ∧ W6.ownsRow W4.heap.size 3 1 v2 l.length ((List.range l.length).map (fun i => .int .i64 (x i)))) := by
      rcases HV.out with ⟨h1, rfl, rfl⟩ | ⟨h1, ⟨rfl, h2, ps, h3, h4, h5⟩ | ⟨rfl, rfl, h2⟩⟩
      · rcases hr with ⟨_, rfl⟩ | ⟨h3, _⟩
        · rcases HV2.out with ⟨_, rfl, rfl⟩ | ⟨h3, _⟩
          · exact .inl ⟨rfl, rfl, rfl, rfl, h1⟩
          · exact absurd h3 h1
        · exact absurd h3 h1
      · rcases hr with ⟨h6, _⟩ | ⟨_, ⟨rfl, _⟩ | ⟨_, h6⟩⟩
        · exact absurd h1 h6
        · rcases HV2.out with ⟨h6, _⟩ | ⟨_, ⟨rfl, x, h6, h7⟩ | ⟨_, _, h6⟩⟩
          · exact absurd h1 h6
          · exact .inr ⟨rfl, rfl, rfl, h1, h2, ⟨ps, h3, h4, ownsRow_below (ownsRow_below h5 H35.out (Nat.le_refl _)) hb6 (Nat.le_refl _)⟩, x, h6, ownsRow_below h7 hb6 (Nat.le_refl _)⟩
          · exact absurd h2 h6
        · exact absurd h2 h6
      · rcases hr with ⟨h4, _⟩ | ⟨_, ⟨_, h5⟩ | ⟨rfl, h5⟩⟩
        · exact absurd h1 h4
        · exact absurd h5 h2
        · rcases HV2.out with ⟨h6, _⟩ | ⟨_, ⟨_, x, h6, _⟩ | ⟨rfl, rfl, h6⟩⟩
          · exact absurd h1 h6
          · exact absurd ⟨x, h6⟩ h2
          · exact .inl ⟨rfl, rfl, rfl, rfl, by decide⟩
    clear HV HV2 H35 hr hM5 hb6 c0 c1 c2
    rcases hcase with ⟨rfl, rfl, rfl, rfl, hr0⟩ | ⟨rfl, rfl, rfl, h1, h2, ⟨ps, h3, h4, h5⟩, x, h6, h7⟩
    · have hr' : (s2 != 0) = true := by simp [hr0]
      go_wp2_with fail
      refine (awake_any _).mono ?_
      rintro e W7 ⟨hb7, rfl⟩
      go_wp2_with fail
      go_ret
      exact ⟨rfl, (hM6.step hb7).below⟩
    · have hz := askedN_zero h1
      obtain ⟨T, C, rfl, rfl, hV⟩ := valid_of hz.1
      have hE := hz.2
      have hl12 := hV.len.2
      have hR := rm_ok (out := []) (k := l.length) hV.reads hE
      obtain ⟨g, cap, rfl, _, hgl⟩ := own_pos h5 hV.len.1
      rw [show (List.range l.length).map (fun i => Value.int .i64 (x i)) = ((List.range l.length).map x).map (Value.int .i64) by rw [List.map_map]; rfl] at h7
      obtain ⟨hxl, X, dX, rfl, hX, _⟩ := own_intsI h7
      have HT := Lib.hid (And.intro hxl.symm (truth_list hV.net h6))
      have HP := Lib.hid (And.intro h4 (And.intro h5 h3))
      have HC := Lib.hid h2
      have c0 := cell_of_block (j := 0) (v := .slice A l.length c) hM6.net rfl
      have c1 := cell_of_block (j := 1) (v := .int .i64 T) hM6.net rfl
      have c2 := cell_of_block (j := 2) (v := .int .i64 C) hM6.net rfl
      have hxe : ((List.range l.length).map x).length ≤ 1000000 := by simp; omega
      clear h1 h2 h3 h4 h5 h6 h7 hz hxl
      generalize (List.range l.length).map x = xs at *
      go_wp2_with fail
      refine (rrooms0 _ A l c T C err (hA.below hM6.below) hl12 hE hV.reads).mono ?_
      rintro e W7 ⟨hb7, R, dR, rfl, hRm⟩
      have hM7 := hM6.step hb7
      have HP7 := Lib.hid (And.intro HP.out.1 (And.intro (ownsRow_below HP.out.2.1 hb7 (Nat.le_refl _)) HP.out.2.2))
      have hX7 := hX.below hb7
      have hgl7 := Nat.lt_of_lt_of_le hgl hb7.size
      clear hM6 hb7 hX hgl HP c0 c1 c2
      have c0 := cell_of_block (j := 0) (v := .slice A l.length c) hM7.net rfl
      have c1 := cell_of_block (j := 1) (v := .int .i64 T) hM7.net rfl
      have c2 := cell_of_block (j := 2) (v := .int .i64 C) hM7.net rfl
      have hdl : ((l.length : Int) != l.length) = false := by simp
      go_wp2_with fail
      refine (isTruth_any _ A R X l xs c dR dX T C _ _ (hA.below hM7.below) hRm hX7 hl12 hxe hV.net hR).mono ?_
      rintro e W8 ⟨hb8, b, rfl, hb⟩
      have hbt := hb.2 HT.out
      subst hbt
      have hM8 := hM7.step hb8
      have HP8 := Lib.hid (And.intro HP7.out.1 (And.intro (ownsRow_below HP7.out.2.1 hb8 (Nat.le_refl _)) HP7.out.2.2))
      have hRm8 := hRm.below hb8
      have hgl8 := Nat.lt_of_lt_of_le hgl7 hb8.size
      clear hb hb8 hM7 hX7 hRm hgl7 HP7 HT c0 c1 c2 hdl hxe
      go_wp2_with fail
      go_loopw [11] (fun t wr => ∃ k : Nat, k ≤ l.length ∧ t = .int .i64 k ∧ Below W8.heap.size W8 wr) (fun t _ => l.length - (intOf t).toNat)
      case atStart => exact ⟨0, Nat.zero_le _, rfl, Below.refl _ _⟩
      case round =>
        obtain ⟨k, hk, rfl, hbel⟩ := hrel
        have hMr := hM8.step hbel
        have hRr := hRm8.below hbel
        have hgr := Nat.lt_of_lt_of_le hgl8 hbel.size
        have HPr := Lib.hid (And.intro HP8.out.1 (ownsRow_below HP8.out.2.1 hbel (Nat.le_refl _)))
        by_cases hlt : k < l.length
        · obtain ⟨p, hp⟩ : ∃ p, ps[k]? = some p := ⟨ps[k]'(by rw [HP8.out.2.2]; exact hlt), by rw [List.getElem?_eq_getElem]⟩
          obtain ⟨p0, p1⟩ := p
          have hpc := pairs_cell HPr.out.2 hp
          obtain ⟨q0, q1⟩ := hpc
          have HEnds := Lib.hid (HPr.out.1 k _ hp)
          have hbr0 := hMr.below
          have hsr := hMr.lt
          have c0 := cell_of_block (j := 0) (v := .slice A l.length c) hMr.net rfl
          have c1 := cell_of_block (j := 1) (v := .int .i64 T) hMr.net rfl
          have c2 := cell_of_block (j := 2) (v := .int .i64 C) hMr.net rfl
          have hk0 : (0 : Int) ≤ k := by omega
          have hk1 : (k : Int) < l.length := by omega
          have HBl := Lib.hid hbel
          have hdr : Below wr.heap.size wr wr.drew := (Below.refl _ wr).drew
          clear hp hbel HPr
          go_wp2_with fail
          go_region_held3 (fun w' => w'.cell? ⟨w.heap.size, 0, none⟩ = some (.slice A l.length c) ∧ w'.cell? ⟨w.heap.size, 1, none⟩ = some (.int .i64 T) ∧ w'.cell? ⟨w.heap.size, 2, none⟩ = some (.int .i64 C) ∧ w'.cell? ⟨g, k * 2, none⟩ = some (.int .i64 p0) ∧ w'.cell? ⟨g, k * 2 + 1, none⟩ = some (.int .i64 p1))
            ((first | exact ⟨by assumption, by assumption, by assumption, by assumption, by assumption⟩ | exact ⟨(hbs.cell (by exact hsr)).trans c0, (hbs.cell (by exact hsr)).trans c1, (hbs.cell (by exact hsr)).trans c2, (hbs.cell (by exact hgr)).trans q0, (hbs.cell (by exact hgr)).trans q1⟩ | exact ⟨(hbt.cell (by exact hsr)).trans c0, (hbt.cell (by exact hsr)).trans c1, (hbt.cell (by exact hsr)).trans c2, (hbt.cell (by exact hgr)).trans q0, (hbt.cell (by exact hgr)).trans q1⟩))
            (first | (go_at_call 39; refine (rbounds_any _ A R l c dR T C _ _ k (hA.below hbr0.drew) (hRr.below hdr) hl12 hV.net hR hlt HC.out).mono ?_; rintro e W9 ⟨hbs, a0, a1, rfl, hxy⟩; obtain ⟨rfl, rfl⟩ := ends_unique HEnds.out hxy; clear hxy) | (go_at_call 38; refine (to_any _ _ _).mono ?_; rintro e W10 ⟨hbt0, rfl⟩; have hbt := Below.trans hbs (hbt0.mono hbs.size)))
          have hbw := HBl.out.trans ((hdr.trans (hbt.mono hdr.size)).mono HBl.out.size)
          have HBw := Lib.hid hbw
          clear hbw c0 c1 c2 q0 q1 hbs hbt hbr0
          go_wp2_with fail
          go_roundw
          case rel => exact ⟨k + 1, by omega, by go_num, HBw.out⟩
          case measure => simp [intOf]; omega
        · go_wp2_with fail
          refine (awake_any _).mono ?_
          rintro e W9 ⟨hb9, rfl⟩
          go_wp2_with fail
          go_ret
          exact ⟨rfl, (hMr.step hb9).below⟩
  · have hf' : decide (l.length ≤ 15 ∧ (faultN l T C ≠ 0 ∨ (l.length : Int) ≤ 8)) = false := decide_eq_false hf
    have HF := Lib.hid hf'
    clear hf hf'
    go_enter Try.func5, Try.ntmps5
    go_wp2_with fail
    refine (few_any _ A l c T C 8 (hA.below hM.below) hl).mono ?_
    rintro e W1 ⟨hb1, he⟩
    rw [HF.out] at he
    subst he
    have hM1 := hM.step hb1
    go_wp2_with fail
    refine (awake_any _).mono ?_
    rintro e W6 ⟨hb6, rfl⟩
    go_wp2_with fail
    go_ret
    exact ⟨rfl, (hM1.step hb6).below⟩
end Go.Proofs.Ytnhbplnhhloklaa
