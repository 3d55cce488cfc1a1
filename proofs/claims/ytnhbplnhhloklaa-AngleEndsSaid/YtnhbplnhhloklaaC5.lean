/- Contracts of Least and Show. -/
import Derived.Test.YtnhbplnhhloklaaC4
namespace Go.Proofs.Ytnhbplnhhloklaa
open Go.RowKit

/-- The smallest error, or that there is none. -/
def LeastIs (l : List Ang) (T C : Nat) (n s : Int) : Prop := (∃ k : Nat, k ≤ 40 ∧ CanE l T C k [] ∧ (∀ j : Nat, j < k → ¬ CanE l T C j []) ∧ n = k ∧ s = 0) ∨ ((∀ j : Nat, j ≤ 40 → ¬ CanE l T C j []) ∧ n = 0 ∧ s = 9)

set_option maxHeartbeats 2000000 in
theorem least_any (w : World) (A : Option Addr) (l : List Ang) (c : Nat) (T C : Int) (hA : AngAt w A l) (hl : l.length ≤ 1000) :
    Calls Try.prog 32 #[.agg #[.slice A l.length c, .int .i64 T, .int .i64 C]] w fun e w' => Below w.heap.size w w' ∧
      ∃ n s, e = .returned (.tuple #[.int .i64 n, .int .i64 s]) ∧ ((faultN l T C ≠ 0 ∧ n = 0 ∧ s = faultN l T C) ∨ (faultN l T C = 0 ∧ LeastIs l T.toNat C.toNat n s)) := by
  have hbl : Below w.heap.size w (w.alloc (.cells #[.slice A l.length c, .int .i64 T, .int .i64 C] 33)) := (Below.refl _ w).alloc (Nat.le_refl _) _
  by_cases h1 : faultN l T C = 0
  · have h1' : (faultN l T C != 0) = false := by simp [h1]
    obtain ⟨T, C, rfl, rfl, hV⟩ := valid_of h1
    have HA := Lib.hid h1
    have hl12 := hV.len.2
    clear h1
    have hn : (w.alloc (.cells #[.slice A l.length c, .int .i64 T, .int .i64 C] 33)).heap[w.heap.size]? = some (.cells #[.slice A l.length c, .int .i64 T, .int .i64 C] 33 (0, 0)) := at_alloc rfl
    have hsz : w.heap.size < (w.alloc (.cells #[.slice A l.length c, .int .i64 T, .int .i64 C] 33)).heap.size := by simp
    go_enter Try.func32, Try.ntmps32
    go_wp2_with (first | (go_at_call 26; refine (checkNet_any _ A l c T C (hA.below hbl) hl).mono ?_; rintro e W1 ⟨hbe, rfl⟩))
    have hb1 := hbl.trans (hbe.mono hbl.size)
    have hn1 := (hbe.block _ hsz).trans hn
    clear hbl hn hsz hbe
    go_loopw [11] (fun t wr => ∃ k : Nat, k ≤ 41 ∧ t = .int .i64 k ∧ Below w.heap.size w wr ∧ wr.heap[w.heap.size]? = some (.cells #[.slice A l.length c, .int .i64 T, .int .i64 C] 33 (0, 0)) ∧ Hid (∀ j : Nat, j < k → ¬ CanE l T C j [])) (fun t _ => 41 - (intOf t).toNat)
    case atStart => exact ⟨0, Nat.zero_le _, rfl, hb1, hn1, Lib.hid (fun j hj => by omega)⟩
    case round =>
      clear hb1 hn1
      obtain ⟨k, hk, rfl, hb1, hn1, hno⟩ := hrel
      by_cases hlt : k < 41
      · have hE : 0 ≤ (k : Int) ∧ (k : Int) ≤ 40 := by omega
        have hR := rm_ok (out := []) (k := l.length) hV.reads hE
        have hs1 := (Array.getElem?_eq_some_iff.1 hn1).1
        have c0 := cell_of_block (j := 0) (v := .slice A l.length c) hn1 rfl
        have c1 := cell_of_block (j := 1) (v := .int .i64 T) hn1 rfl
        have c2 := cell_of_block (j := 2) (v := .int .i64 C) hn1 rfl
        go_wp2_with fail
        go_region_held3 (fun w' => w'.cell? ⟨w.heap.size, 0, none⟩ = some (.slice A l.length c) ∧ w'.cell? ⟨w.heap.size, 1, none⟩ = some (.int .i64 T) ∧ w'.cell? ⟨w.heap.size, 2, none⟩ = some (.int .i64 C))
          ((first | exact ⟨by assumption, by assumption, by assumption⟩ | exact ⟨(hbr.cell (by exact hs1)).trans c0, (hbr.cell (by exact hs1)).trans c1, (hbr.cell (by exact hs1)).trans c2⟩ | exact ⟨(hbc.cell (by exact hs1)).trans c0, (hbc.cell (by exact hs1)).trans c1, (hbc.cell (by exact hs1)).trans c2⟩))
          (first | (go_at_call 67; refine (rooms_any _ A none l [] c 0 T C k (hA.below hb1.drew) (IntsAt.nil _ _) hl12 (by simp) hE hV.reads).mono ?_; rintro e W2 ⟨rfl, hbr⟩) | (go_at_call 76; refine (can_law _ A l c T C _ _ (hA.below (hb1.drew.trans (hbr.mono hb1.size))) hl12 hV.net hR).mono ?_; rintro e W3 ⟨hbc0, b, rfl, hb⟩; have HB := Lib.hid hb; clear hb; have hbc := Below.trans hbr (hbc0.mono hbr.size)))
        have hfin := hb1.drew.trans (hbc.mono hb1.size)
        have hn3 := (hbc.block _ (by exact hs1)).trans (by exact hn1)
        clear c0 c1 c2 hn1
        go_wp2_with fail
        · refine bodyPost_ret (v := .tuple #[.int .i64 k, .int .i64 0]) (by simp [results, Try.results32, go_sem]) rfl ?_
          exact ⟨hfin, k, 0, rfl, .inr ⟨HA.out, .inl ⟨k, by omega, HB.out.1 (by assumption), hno.out, rfl, rfl⟩⟩⟩
        · have hnc : ¬ CanE l T C k [] := fun h => by
            have := HB.out.2 h
            subst this
            contradiction
          go_roundw
          case rel =>
            refine ⟨k + 1, by omega, by go_num, hfin, hn3, Lib.hid (fun j hj => ?_)⟩
            by_cases e : j = k
            · rw [e]; exact hnc
            · exact hno.out j (by omega)
          case measure => simp [intOf]; omega
      · obtain rfl : k = 41 := by omega
        go_wp2_with fail
        refine bodyPost_ret (v := .tuple #[.int .i64 0, .int .i64 9]) (by simp [results, Try.results32, go_sem]) rfl ?_
        exact ⟨hb1, 0, 9, rfl, .inr ⟨HA.out, .inr ⟨fun j hj => hno.out j (by omega), rfl, rfl⟩⟩⟩
  · have h1' : (faultN l T C != 0) = true := by simp [h1]
    have HH := Lib.hid h1
    clear h1
    go_enter Try.func32, Try.ntmps32
    go_wp2_with (first | (go_at_call 26; refine (checkNet_any _ A l c T C (hA.below hbl) hl).mono ?_; rintro e w' ⟨hbe, rfl⟩))
    refine bodyPost_ret (v := .tuple #[.int .i64 0, .int .i64 (faultN l T C)]) (by simp [results, Try.results32, go_sem]) rfl ?_
    exact ⟨hbl.trans (hbe.mono hbl.size), 0, _, rfl, .inl ⟨HH.out, rfl, rfl⟩⟩

/-- What truth answers. -/
def TruthIs (w w' : World) (l : List Ang) (T C : Nat) (lo hi : Nat → Int) (v : Value) (b : Bool) : Prop :=
  (b = true ∧ ∃ x : Nat → Int, TruthN l T C lo hi x ∧ w'.ownsRow w.heap.size 3 1 v l.length ((List.range l.length).map (fun i => .int .i64 (x i)))) ∨ (b = false ∧ v = .slice none 0 0 ∧ ¬ Can l T C lo hi)
theorem truth_law2 (w : World) (A : Option Addr) (l : List Ang) (c : Nat) (T C : Nat) (lo hi : Nat → Int) (hA : AngAt w A l) (hl : l.length ≤ 12) (hN : NetOk l T C) (hR : RoomOk lo hi) :
    Calls Try.prog 80 #[.agg #[.slice A l.length c, .int .i64 T, .int .i64 C], .agg (roomsV lo hi)] w fun e w' => Below w.heap.size w w' ∧ ∃ v b, e = .returned (.tuple #[v, .bool b]) ∧ TruthIs w w' l T C lo hi v b := by
  refine (truth_law w A l c T C lo hi hA hl hN hR).mono ?_
  rintro e w' ⟨hb, ⟨x, v, hx, rfl, how⟩ | ⟨⟨P, hP⟩, rfl⟩⟩
  · exact ⟨hb, v, true, rfl, .inl ⟨rfl, x, hx, how⟩⟩
  · exact ⟨hb, _, false, rfl, .inr ⟨rfl, rfl, not_can hN hP⟩⟩
theorem askedN_zero {l : List Ang} {T C err : Int} (h1 : askedN l T C err = 0) : faultN l T C = 0 ∧ 0 ≤ err ∧ err ≤ 40 := by
  unfold askedN at h1
  split at h1
  · rename_i h; exact absurd h1 h
  · rename_i h
    split at h1
    · rename_i h'; exact ⟨Classical.byContradiction h, h'⟩
    · cases h1

set_option maxHeartbeats 2000000 in
theorem show_any (w : World) (A : Option Addr) (l : List Ang) (c : Nat) (T C err : Int) (hA : AngAt w A l) (hl : l.length ≤ 1000) :
    Calls Try.prog 36 #[.agg #[.slice A l.length c, .int .i64 T, .int .i64 C], .int .i64 err] w fun e w' => Below w.heap.size w w' ∧
      ∃ v s, e = .returned (.tuple #[v, .int .i64 s]) ∧ ((askedN l T C err ≠ 0 ∧ v = .slice none 0 0 ∧ s = askedN l T C err) ∨
        (askedN l T C err = 0 ∧ ((s = 0 ∧ ∃ x : Nat → Int, TruthN l T.toNat C.toNat (rmLo l err [] l.length) (rmHi l err [] l.length) x ∧ w'.ownsRow w.heap.size 3 1 v l.length ((List.range l.length).map (fun i => .int .i64 (x i)))) ∨
          (s = 9 ∧ v = .slice none 0 0 ∧ ¬ CanE l T.toNat C.toNat err [])))) := by
  have hbl : Below w.heap.size w (w.alloc (.cells #[.slice A l.length c, .int .i64 T, .int .i64 C] 33)) := (Below.refl _ w).alloc (Nat.le_refl _) _
  by_cases h1 : askedN l T C err = 0
  · have h1' : (askedN l T C err != 0) = false := by simp [h1]
    have h2 := askedN_zero h1
    obtain ⟨T, C, rfl, rfl, hV⟩ := valid_of h2.1
    have hR := rm_ok (out := []) (k := l.length) hV.reads h2.2
    have HA := Lib.hid h1
    have hE := h2.2
    have hl12 := hV.len.2
    clear h1 h2
    have hn : (w.alloc (.cells #[.slice A l.length c, .int .i64 T, .int .i64 C] 33)).heap[w.heap.size]? = some (.cells #[.slice A l.length c, .int .i64 T, .int .i64 C] 33 (0, 0)) := at_alloc rfl
    have hsz : w.heap.size < (w.alloc (.cells #[.slice A l.length c, .int .i64 T, .int .i64 C] 33)).heap.size := by simp
    go_enter Try.func36, Try.ntmps36
    go_wp2_with (first | (go_at_call 66; refine (asked_any _ A l c T C err (hA.below hbl) hl).mono ?_; rintro e W1 ⟨hbe, rfl⟩))
    have hb1 := hbl.trans (hbe.mono hbl.size)
    have hn1 := (hbe.block _ hsz).trans hn
    have hs1 := Nat.lt_of_lt_of_le hsz hbe.size
    have c0 := cell_of_block (j := 0) (v := .slice A l.length c) hn1 rfl
    have c1 := cell_of_block (j := 1) (v := .int .i64 T) hn1 rfl
    have c2 := cell_of_block (j := 2) (v := .int .i64 C) hn1 rfl
    go_region_held3 (fun w' => w'.cell? ⟨w.heap.size, 0, none⟩ = some (.slice A l.length c) ∧ w'.cell? ⟨w.heap.size, 1, none⟩ = some (.int .i64 T) ∧ w'.cell? ⟨w.heap.size, 2, none⟩ = some (.int .i64 C))
      ((first | exact ⟨by assumption, by assumption, by assumption⟩ | exact ⟨(hbr.cell (by exact hs1)).trans c0, (hbr.cell (by exact hs1)).trans c1, (hbr.cell (by exact hs1)).trans c2⟩ | exact ⟨(hbc.cell (by exact hs1)).trans c0, (hbc.cell (by exact hs1)).trans c1, (hbc.cell (by exact hs1)).trans c2⟩))
      (first | (go_at_call 67; refine (rooms_any _ A none l [] c 0 T C err (hA.below hb1.drew) (IntsAt.nil _ _) hl12 (by simp) hE hV.reads).mono ?_; rintro e W2 ⟨rfl, hbr⟩) | (go_at_call 80; refine (truth_law2 _ A l c T C _ _ (hA.below (hb1.drew.trans (hbr.mono hb1.size))) hl12 hV.net hR).mono ?_; rintro e W3 ⟨hbc0, v, b, rfl, hb⟩; have HB := Lib.hid hb; clear hb; have hbc := Below.trans hbr (hbc0.mono hbr.size)))
    have hfin := hb1.drew.trans (hbc.mono hb1.size)
    have hs2 : w.heap.size ≤ W2.heap.size := Nat.le_trans hb1.size hbr.size
    clear c0 c1 c2 hn1
    go_wp2
    · refine bodyPost_ret (v := .tuple #[.slice none 0 0, .int .i64 9]) (by simp [results, Try.results36, go_sem]) rfl ?_
      refine ⟨hfin, _, 9, rfl, .inr ⟨HA.out, .inr ⟨rfl, rfl, ?_⟩⟩⟩
      rcases HB.out with ⟨rfl, _⟩ | ⟨rfl, _, h⟩
      · contradiction
      · exact h
    · refine bodyPost_ret (v := .tuple #[v, .int .i64 0]) (by simp [results, Try.results36, go_sem]) rfl ?_
      refine ⟨hfin, v, 0, rfl, .inr ⟨HA.out, .inl ⟨rfl, ?_⟩⟩⟩
      rcases HB.out with ⟨_, x, hx, how⟩ | ⟨rfl, _⟩
      · exact ⟨x, hx, ownsRow_mono how hs2⟩
      · contradiction
  · have h1' : (askedN l T C err != 0) = true := by simp [h1]
    have HH := Lib.hid h1
    clear h1
    go_enter Try.func36, Try.ntmps36
    go_wp2_with (first | (go_at_call 66; refine (asked_any _ A l c T C err (hA.below hbl) hl).mono ?_; rintro e w' ⟨hbe, rfl⟩))
    refine bodyPost_ret (v := .tuple #[.slice none 0 0, .int .i64 (askedN l T C err)]) (by simp [results, Try.results36, go_sem]) rfl ?_
    exact ⟨hbl.trans (hbe.mono hbl.size), _, _, rfl, .inl ⟨HH.out, rfl, rfl⟩⟩
end Go.Proofs.Ytnhbplnhhloklaa
