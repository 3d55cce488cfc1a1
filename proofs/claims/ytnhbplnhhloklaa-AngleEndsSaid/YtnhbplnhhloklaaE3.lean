/- Contracts of the reference's Least and of the law's sure. -/
import Derived.Test.YtnhbplnhhloklaaE2
import Derived.Test.YtnhbplnhhloklaaC5
namespace Go.Proofs.Ytnhbplnhhloklaa
open Go.RowKit

theorem bitL_zero : bitL 0 = [] := by unfold bitL; simp
theorem rrooms0 (w : World) (A : Option Addr) (l : List Ang) (c : Nat) (T C err : Int) (hA : AngAt w A l) (hl : l.length ≤ 12) (he : 0 ≤ err ∧ err ≤ 40) (hr : ∀ a ∈ l, ReadOk a) :
    Calls Try.prog 30 #[.agg #[.slice A l.length c, .int .i64 T, .int .i64 C], .int .i64 err, .int .i64 0] w fun e w' => Below w.heap.size w w' ∧
      ∃ R d, e = .returned (.slice R l.length d) ∧ RmAt w' R (rmLo l err [] l.length) (rmHi l err [] l.length) l.length := by
  refine (rrooms_any w A l c T C err 0 hA hl he hr).mono ?_
  rintro e w' ⟨h1, R, d, h2, h3, _⟩
  rw [bitL_zero] at h3
  exact ⟨h1, R, d, h2, h3⟩

def RLeastIs (l : List Ang) (T C : Nat) (n : Int) : Prop := (∃ k : Nat, k ≤ 40 ∧ CanE l T C k [] ∧ (∀ j : Nat, j < k → ¬ CanE l T C j []) ∧ n = k) ∨ ((∀ j : Nat, j ≤ 40 → ¬ CanE l T C j []) ∧ n = -1)

set_option maxHeartbeats 4000000 in
theorem rleast_any (w : World) (A : Option Addr) (l : List Ang) (c : Nat) (T C : Nat) (hA : AngAt w A l) (hV : Valid l T C) :
    Calls Try.prog 33 #[.agg #[.slice A l.length c, .int .i64 T, .int .i64 C]] w fun e w' => Below w.heap.size w w' ∧ ∃ n, e = .returned (.int .i64 n) ∧ RLeastIs l T C n := by
  have hM0 := NMem.made w A l.length c T C
  have hl12 := hV.len.2
  go_enter Try.func33, Try.ntmps33
  go_wp2_with fail
  generalize w.alloc (.cells #[.slice A l.length c, .int .i64 T, .int .i64 C] 24) = W0 at *
  go_loopw [3] (fun t wr => ∃ k : Nat, k ≤ 41 ∧ t = .int .i64 k ∧ NMem w wr A l.length c T C ∧ Hid (∀ j : Nat, j < k → ¬ CanE l T C j [])) (fun t _ => 41 - (intOf t).toNat)
  case atStart => exact ⟨0, Nat.zero_le _, rfl, hM0, Lib.hid (fun j hj => by omega)⟩
  case round =>
    clear hM0
    obtain ⟨k, hk, rfl, hM, hno⟩ := hrel
    by_cases hlt : k < 41
    · have hd : decide ((k : Int) ≤ 40) = true := decide_eq_true (by omega)
      have hE : 0 ≤ (k : Int) ∧ (k : Int) ≤ 40 := by omega
      have hR := rm_ok (out := []) (k := l.length) hV.reads hE
      have hs1 := hM.lt
      have hb1 := hM.below
      have c0 := cell_of_block (j := 0) (v := .slice A l.length c) hM.net rfl
      have c1 := cell_of_block (j := 1) (v := .int .i64 T) hM.net rfl
      have c2 := cell_of_block (j := 2) (v := .int .i64 C) hM.net rfl
      go_wp2_with fail
      go_region_held3 (fun w' => w'.cell? ⟨w.heap.size, 0, none⟩ = some (.slice A l.length c) ∧ w'.cell? ⟨w.heap.size, 1, none⟩ = some (.int .i64 T) ∧ w'.cell? ⟨w.heap.size, 2, none⟩ = some (.int .i64 C))
        ((first | exact ⟨by assumption, by assumption, by assumption⟩ | exact ⟨(hbr.cell (by exact hs1)).trans c0, (hbr.cell (by exact hs1)).trans c1, (hbr.cell (by exact hs1)).trans c2⟩ | exact ⟨(hbc.cell (by exact hs1)).trans c0, (hbc.cell (by exact hs1)).trans c1, (hbc.cell (by exact hs1)).trans c2⟩))
        (first | (go_at_call 30; refine (rrooms0 _ A l c T C k (hA.below hb1.drew) hl12 hE hV.reads).mono ?_; rintro e W2 ⟨hbr, R, d, rfl, hRm⟩) | (go_at_call 77; refine (rcan_any _ A R l c d T C _ _ (hA.below (hb1.drew.trans (hbr.mono hb1.size))) hRm hl12 hV.net hR).mono ?_; rintro e W3 ⟨hbc0, b, rfl, hb⟩; have HB := Lib.hid hb; clear hb; have hbc := Below.trans hbr (hbc0.mono hbr.size)))
      have hM3 := hM.step ((Below.refl _ wr).drew.trans hbc)
      clear c0 c1 c2
      go_wp2_with fail
      · have hb : b = true := by assumption
        go_ret
        exact ⟨hM3.below, k, rfl, .inl ⟨k, by omega, HB.out.1 hb, hno.out, rfl⟩⟩
      · have hnc : ¬ CanE l T C k [] := fun h => by
          have := HB.out.2 h
          subst this
          contradiction
        go_roundw
        case rel =>
          refine ⟨k + 1, by omega, by go_num, hM3, Lib.hid (fun j hj => ?_)⟩
          by_cases e : j = k
          · rw [e]; exact hnc
          · exact hno.out j (by omega)
        case measure => simp [intOf]; omega
    · obtain rfl : k = 41 := by omega
      go_wp2_with fail
      go_ret
      exact ⟨hM.below, -1, rfl, .inr ⟨fun j hj => hno.out j (by omega), rfl⟩⟩

set_option maxHeartbeats 1000000 in
theorem lsure_any (w : World) (A : Option Addr) (l : List Ang) (c : Nat) (T C err : Int) (hA : AngAt w A l) (hl : l.length ≤ 1000) :
    Calls Try.prog 37 #[.agg #[.slice A l.length c, .int .i64 T, .int .i64 C], .int .i64 err] w fun e w' => Below w.heap.size w w' ∧
      ∃ s, e = .returned (.int .i64 s) ∧ ((askedN l T C err ≠ 0 ∧ s = askedN l T C err) ∨ (askedN l T C err = 0 ∧ ((s = 0 ∧ CanE l T.toNat C.toNat err []) ∨ (s = 9 ∧ ¬ CanE l T.toNat C.toNat err [])))) := by
  have hM0 := NMem.made w A l.length c T C
  by_cases h1 : askedN l T C err = 0
  · have h1' : (askedN l T C err != 0) = false := by simp [h1]
    have h2 := askedN_zero h1
    obtain ⟨T, C, rfl, rfl, hV⟩ := valid_of h2.1
    have hR := rm_ok (out := []) (k := l.length) hV.reads h2.2
    have HA := Lib.hid h1
    have hE := h2.2
    have hl12 := hV.len.2
    clear h1 h2
    go_enter Try.func37, Try.ntmps37
    go_wp2_with (first | (go_at_call 28; refine (lasked_any _ A l c T C err (hA.below hM0.below) hl).mono ?_; rintro e W1 ⟨hbe, rfl⟩))
    have hM1 := hM0.step hbe
    clear hM0 hbe
    have hb1 := hM1.below
    have hs1 := hM1.lt
    have c0 := cell_of_block (j := 0) (v := .slice A l.length c) hM1.net rfl
    have c1 := cell_of_block (j := 1) (v := .int .i64 T) hM1.net rfl
    have c2 := cell_of_block (j := 2) (v := .int .i64 C) hM1.net rfl
    go_region_held3 (fun w' => w'.cell? ⟨w.heap.size, 0, none⟩ = some (.slice A l.length c) ∧ w'.cell? ⟨w.heap.size, 1, none⟩ = some (.int .i64 T) ∧ w'.cell? ⟨w.heap.size, 2, none⟩ = some (.int .i64 C))
        ((first | exact ⟨by assumption, by assumption, by assumption⟩ | exact ⟨(hbr.cell (by exact hs1)).trans c0, (hbr.cell (by exact hs1)).trans c1, (hbr.cell (by exact hs1)).trans c2⟩ | exact ⟨(hbc.cell (by exact hs1)).trans c0, (hbc.cell (by exact hs1)).trans c1, (hbc.cell (by exact hs1)).trans c2⟩))
        (first | (go_at_call 30; refine (rrooms0 _ A l c T C err (hA.below hb1.drew) hl12 hE hV.reads).mono ?_; rintro e W2 ⟨hbr, R, d, rfl, hRm⟩) | (go_at_call 77; refine (rcan_any _ A R l c d T C _ _ (hA.below (hb1.drew.trans (hbr.mono hb1.size))) hRm hl12 hV.net hR).mono ?_; rintro e W3 ⟨hbc0, b, rfl, hb⟩; have HB := Lib.hid hb; clear hb; have hbc := Below.trans hbr (hbc0.mono hbr.size)))
    have hM3 := hM1.step ((Below.refl _ W1).drew.trans hbc)
    have hfin := hM3.below
    go_wp2
    · go_ret
      refine ⟨hfin, 9, rfl, .inr ⟨HA.out, .inr ⟨rfl, fun h => ?_⟩⟩⟩
      have := HB.out.2 h
      have h9 : (!b) = true := by assumption
      rw [this] at h9
      cases h9
    · go_ret
      exact ⟨hfin, 0, rfl, .inr ⟨HA.out, .inl ⟨rfl, HB.out.1 (by have h9 : (!b) = false := (by assumption); simpa using h9)⟩⟩⟩
  · have h1' : (askedN l T C err != 0) = true := by simp [h1]
    have HH := Lib.hid h1
    clear h1
    go_enter Try.func37, Try.ntmps37
    go_wp2_with (first | (go_at_call 28; refine (lasked_any _ A l c T C err (hA.below hM0.below) hl).mono ?_; rintro e w' ⟨hbe, rfl⟩))
    go_ret
    exact ⟨(hM0.step hbe).below, _, rfl, .inl ⟨HH.out, rfl⟩⟩
end Go.Proofs.Ytnhbplnhhloklaa
