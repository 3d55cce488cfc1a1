/- Contracts of CheckNet, asked and sure. -/
import Derived.Test.YtnhbplnhhloklaaC3
namespace Go.Proofs.Ytnhbplnhhloklaa
open Go.RowKit

/-- The error of a net. -/
def faultN (l : List Ang) (T C : Int) : Int := if 12 < l.length ∨ 5 < T ∨ 5 < C then 3 else if l.length = 0 ∨ T < 0 ∨ C < 0 ∨ ¬ (∀ a ∈ l, AOk T C a) then 1 else 0

set_option maxHeartbeats 2000000 in
theorem checkNet_any (w : World) (A : Option Addr) (l : List Ang) (c : Nat) (T C : Int) (hA : AngAt w A l) (hl : l.length ≤ 1000) :
    Calls Try.prog 26 #[.agg #[.slice A l.length c, .int .i64 T, .int .i64 C]] w fun e w' => Below w.heap.size w w' ∧ e = .returned (.int .i64 (faultN l T C)) := by
  have hbl : Below w.heap.size w (w.alloc (.cells #[.slice A l.length c, .int .i64 T, .int .i64 C] 33)) := (Below.refl _ w).alloc (Nat.le_refl _) _
  by_cases h1 : 12 < l.length
  · have h1' : decide (12 < (l.length : Int)) = true := decide_eq_true (by omega)
    have HF : Hid (faultN l T C = 3) := Lib.hid (by unfold faultN; rw [if_pos (.inl h1)])
    clear h1
    go_enter Try.func26, Try.ntmps26
    go_wp2
    go_ret
    exact ⟨hbl, by rw [HF.out]; rfl⟩
  · have h1' : decide (12 < (l.length : Int)) = false := decide_eq_false (by omega)
    by_cases h2 : 5 < T
    · have h2' : decide (5 < T) = true := decide_eq_true h2
      have HF : Hid (faultN l T C = 3) := Lib.hid (by unfold faultN; rw [if_pos (.inr (.inl h2))])
      clear h1 h2
      go_enter Try.func26, Try.ntmps26
      go_wp2
      go_ret
      exact ⟨hbl, by rw [HF.out]; rfl⟩
    · have h2' : decide (5 < T) = false := decide_eq_false h2
      by_cases h3 : 5 < C
      · have h3' : decide (5 < C) = true := decide_eq_true h3
        have HF : Hid (faultN l T C = 3) := Lib.hid (by unfold faultN; rw [if_pos (.inr (.inr h3))])
        clear h1 h2 h3
        go_enter Try.func26, Try.ntmps26
        go_wp2
        go_ret
        exact ⟨hbl, by rw [HF.out]; rfl⟩
      · have h3' : decide (5 < C) = false := decide_eq_false h3
        have hn : ¬ (12 < l.length ∨ 5 < T ∨ 5 < C) := by omega
        by_cases h4 : l.length = 0
        · have h4' : ((l.length : Int) == 0) = true := by simp [h4]
          have HF : Hid (faultN l T C = 1) := Lib.hid (by unfold faultN; rw [if_neg hn, if_pos (.inl h4)])
          clear h1 h2 h3 hn h4
          go_enter Try.func26, Try.ntmps26
          go_wp2
          go_ret
          exact ⟨hbl, by rw [HF.out]; rfl⟩
        · have h4' : ((l.length : Int) == 0) = false := beq_eq_false_iff_ne.2 (by omega)
          by_cases h5 : T < 0
          · have h5' : decide (T < 0) = true := decide_eq_true h5
            have HF : Hid (faultN l T C = 1) := Lib.hid (by unfold faultN; rw [if_neg hn, if_pos (.inr (.inl h5))])
            clear h1 h2 h3 hn h4 h5
            go_enter Try.func26, Try.ntmps26
            go_wp2
            go_ret
            exact ⟨hbl, by rw [HF.out]; rfl⟩
          · have h5' : decide (T < 0) = false := decide_eq_false h5
            by_cases h6 : C < 0
            · have h6' : decide (C < 0) = true := decide_eq_true h6
              have HF : Hid (faultN l T C = 1) := Lib.hid (by unfold faultN; rw [if_neg hn, if_pos (.inr (.inr (.inl h6)))])
              clear h1 h2 h3 hn h4 h5 h6
              go_enter Try.func26, Try.ntmps26
              go_wp2
              go_ret
              exact ⟨hbl, by rw [HF.out]; rfl⟩
            · have h6' : decide (C < 0) = false := decide_eq_false h6
              have hT : 0 ≤ T ∧ T ≤ 5 := by omega
              have hC : 0 ≤ C ∧ C ≤ 5 := by omega
              by_cases h7 : ∀ a ∈ l, AOk T C a
              · have h7' : decide (∀ a ∈ l, AOk T C a) = true := decide_eq_true h7
                have HF : Hid (faultN l T C = 0) := Lib.hid (by unfold faultN; rw [if_neg hn, if_neg (by rintro (h | h | h | h); exact h4 h; exact h5 h; exact h6 h; exact h h7)])
                clear h1 h2 h3 hn h4 h5 h6 h7
                go_enter Try.func26, Try.ntmps26
                go_wp2_with (go_at_call 73; refine (all_any _ A l c T C (hA.below hbl) hl hT hC).mono ?_; rintro e w' ⟨hbe, rfl⟩)
                go_ret
                exact ⟨hbl.trans (hbe.mono hbl.size), by rw [HF.out]; rfl⟩
              · have h7' : decide (∀ a ∈ l, AOk T C a) = false := decide_eq_false h7
                have HF : Hid (faultN l T C = 1) := Lib.hid (by unfold faultN; rw [if_neg hn, if_pos (.inr (.inr (.inr h7)))])
                clear h1 h2 h3 hn h4 h5 h6 h7
                go_enter Try.func26, Try.ntmps26
                go_wp2_with (go_at_call 73; refine (all_any _ A l c T C (hA.below hbl) hl hT hC).mono ?_; rintro e w' ⟨hbe, rfl⟩)
                go_ret
                exact ⟨hbl.trans (hbe.mono hbl.size), by rw [HF.out]; rfl⟩

/-- The error of a net with an error. -/
def askedN (l : List Ang) (T C err : Int) : Int := if faultN l T C ≠ 0 then faultN l T C else if 0 ≤ err ∧ err ≤ 40 then 0 else 2
theorem asked_any (w : World) (A : Option Addr) (l : List Ang) (c : Nat) (T C err : Int) (hA : AngAt w A l) (hl : l.length ≤ 1000) :
    Calls Try.prog 66 #[.agg #[.slice A l.length c, .int .i64 T, .int .i64 C], .int .i64 err] w fun e w' => Below w.heap.size w w' ∧ e = .returned (.int .i64 (askedN l T C err)) := by
  have hbl : Below w.heap.size w (w.alloc (.cells #[.slice A l.length c, .int .i64 T, .int .i64 C] 33)) := (Below.refl _ w).alloc (Nat.le_refl _) _
  by_cases h1 : faultN l T C = 0
  · have h1' : (faultN l T C != 0) = false := by simp [h1]
    by_cases h2 : 0 ≤ err ∧ err ≤ 40
    · have h2' : decide (0 ≤ err ∧ err ≤ 40) = true := decide_eq_true h2
      have HF : Hid (askedN l T C err = 0) := Lib.hid (by unfold askedN; rw [if_neg (by simp [h1]), if_pos h2])
      clear h1 h2
      go_enter Try.func66, Try.ntmps66
      go_wp2_with (first | (go_at_call 26; refine (checkNet_any _ A l c T C (hA.below hbl) hl).mono ?_; rintro e w' ⟨hbe, rfl⟩) | (go_at_call 68; refine (within_any _ _ _ _).mono ?_; rintro e w' ⟨rfl, rfl⟩))
      go_ret
      exact ⟨hbl.trans (hbe.mono hbl.size), by rw [HF.out]; rfl⟩
    · have h2' : decide (0 ≤ err ∧ err ≤ 40) = false := decide_eq_false h2
      have HF : Hid (askedN l T C err = 2) := Lib.hid (by unfold askedN; rw [if_neg (by simp [h1]), if_neg h2])
      clear h1 h2
      go_enter Try.func66, Try.ntmps66
      go_wp2_with (first | (go_at_call 26; refine (checkNet_any _ A l c T C (hA.below hbl) hl).mono ?_; rintro e w' ⟨hbe, rfl⟩) | (go_at_call 68; refine (within_any _ _ _ _).mono ?_; rintro e w' ⟨rfl, rfl⟩))
      go_ret
      exact ⟨hbl.trans (hbe.mono hbl.size), by rw [HF.out]; rfl⟩
  · have h1' : (faultN l T C != 0) = true := by simp [h1]
    have HF : Hid (askedN l T C err = faultN l T C) := Lib.hid (by unfold askedN; rw [if_pos h1])
    clear h1
    go_enter Try.func66, Try.ntmps66
    go_wp2_with (first | (go_at_call 26; refine (checkNet_any _ A l c T C (hA.below hbl) hl).mono ?_; rintro e w' ⟨hbe, rfl⟩))
    go_ret
    exact ⟨hbl.trans (hbe.mono hbl.size), by rw [HF.out]; rfl⟩

/-- A valid net. -/
structure Valid (l : List Ang) (T C : Nat) : Prop where
  len : 0 < l.length ∧ l.length ≤ 12
  net : NetOk l T C
  reads : ∀ a ∈ l, ReadOk a
theorem valid_of {l : List Ang} {T C : Int} (h : faultN l T C = 0) : ∃ T' C' : Nat, T = T' ∧ C = C' ∧ Valid l T' C' := by
  unfold faultN at h
  split at h
  · cases h
  · rename_i h1
    split at h
    · cases h
    · rename_i h2
      have h3 : l.length ≠ 0 ∧ 0 ≤ T ∧ 0 ≤ C := by omega
      have h4 : ∀ a ∈ l, AOk T C a := Classical.byContradiction fun hn => h2 (.inr (.inr (.inr hn)))
      obtain ⟨T', rfl⟩ := Int.eq_ofNat_of_zero_le h3.2.1
      obtain ⟨C', rfl⟩ := Int.eq_ofNat_of_zero_le h3.2.2
      refine ⟨T', C', rfl, rfl, by omega, ⟨by omega, by omega, fun a ha => ?_⟩, fun a ha => ?_⟩
      · have := h4 a ha; unfold AOk at this; omega
      · have := h4 a ha; unfold AOk at this; unfold ReadOk; omega
theorem faultN_valid {l : List Ang} {T C : Nat} (h : Valid l T C) : faultN l T C = 0 := by
  have h1 := h.len
  have h2 := h.net.hT
  have h3 := h.net.hC
  unfold faultN
  rw [if_neg (by omega), if_neg ?_]
  rintro (e | e | e | e)
  · omega
  · omega
  · omega
  · refine e fun a ha => ?_
    have h4 := h.net.ok a ha
    have h5 := h.reads a ha
    unfold ReadOk at h5
    unfold AOk
    omega
theorem rm_ok {l : List Ang} {err : Int} {out : List Int} {k : Nat} (hr : ∀ a ∈ l, ReadOk a) (he : 0 ≤ err ∧ err ≤ 40) : RoomOk (rmLo l err out k) (rmHi l err out k) := by
  have key : ∀ i, (0 ≤ rmLo l err out k i ∧ rmLo l err out k i ≤ 40) ∧ (0 ≤ rmHi l err out k i ∧ rmHi l err out k i ≤ 40) ∧ rmLo l err out k i ≤ rmHi l err out k i := by
    intro i
    unfold rmLo rmHi
    split
    · cases ha : l[i]? with
      | none => simp
      | some a =>
        have h1 := hr a (List.mem_of_getElem? ha)
        unfold ReadOk at h1
        have h2 : 0 ≤ err * a.w := Int.mul_nonneg he.1 (by omega)
        simp only [rLo, rHi]
        split <;> omega
    · omega
  exact ⟨fun i => (key i).1, fun i => (key i).2.1, fun i => (key i).2.2⟩

/-- Within an error there is a truth; some readings are left out. -/
def CanE (l : List Ang) (T C : Nat) (err : Int) (out : List Int) : Prop := Can l T C (rmLo l err out l.length) (rmHi l err out l.length)

set_option maxHeartbeats 1000000 in
theorem sure_any (w : World) (A : Option Addr) (l : List Ang) (c : Nat) (T C err : Int) (hA : AngAt w A l) (hl : l.length ≤ 1000) :
    Calls Try.prog 78 #[.agg #[.slice A l.length c, .int .i64 T, .int .i64 C], .int .i64 err] w fun e w' => Below w.heap.size w w' ∧
      ∃ s, e = .returned (.int .i64 s) ∧ ((askedN l T C err ≠ 0 ∧ s = askedN l T C err) ∨ (askedN l T C err = 0 ∧ ((s = 0 ∧ CanE l T.toNat C.toNat err []) ∨ (s = 9 ∧ ¬ CanE l T.toNat C.toNat err [])))) := by
  have hbl : Below w.heap.size w (w.alloc (.cells #[.slice A l.length c, .int .i64 T, .int .i64 C] 33)) := (Below.refl _ w).alloc (Nat.le_refl _) _
  by_cases h1 : askedN l T C err = 0
  · have h1' : (askedN l T C err != 0) = false := by simp [h1]
    have h2 : faultN l T C = 0 ∧ 0 ≤ err ∧ err ≤ 40 := by
      unfold askedN at h1
      split at h1
      · rename_i h; exact absurd h1 h
      · rename_i h
        split at h1
        · rename_i h'; exact ⟨Classical.byContradiction h, h'⟩
        · cases h1
    obtain ⟨T, C, rfl, rfl, hV⟩ := valid_of h2.1
    have hR := rm_ok (out := []) (k := l.length) hV.reads h2.2
    have HA := Lib.hid h1
    have hE := h2.2
    have hl12 := hV.len.2
    clear h1 h2
    have hn : (w.alloc (.cells #[.slice A l.length c, .int .i64 T, .int .i64 C] 33)).heap[w.heap.size]? = some (.cells #[.slice A l.length c, .int .i64 T, .int .i64 C] 33 (0, 0)) := at_alloc rfl
    have hsz : w.heap.size < (w.alloc (.cells #[.slice A l.length c, .int .i64 T, .int .i64 C] 33)).heap.size := by simp
    go_enter Try.func78, Try.ntmps78
    go_wp2_with (first | (go_at_call 66; refine (asked_any _ A l c T C err (hA.below hbl) hl).mono ?_; rintro e W1 ⟨hbe, rfl⟩))
    have hb1 := hbl.trans (hbe.mono hbl.size)
    have hn1 := (hbe.block _ hsz).trans hn
    have hs1 := Nat.lt_of_lt_of_le hsz hbe.size
    have c0 := cell_of_block (j := 0) (v := .slice A l.length c) hn1 rfl
    have c1 := cell_of_block (j := 1) (v := .int .i64 T) hn1 rfl
    have c2 := cell_of_block (j := 2) (v := .int .i64 C) hn1 rfl
    go_region_held3 (fun w' => w'.cell? ⟨w.heap.size, 0, none⟩ = some (.slice A l.length c) ∧ w'.cell? ⟨w.heap.size, 1, none⟩ = some (.int .i64 T) ∧ w'.cell? ⟨w.heap.size, 2, none⟩ = some (.int .i64 C))
      ((first | exact ⟨by assumption, by assumption, by assumption⟩ | exact ⟨(hbr.cell (by exact hs1)).trans c0, (hbr.cell (by exact hs1)).trans c1, (hbr.cell (by exact hs1)).trans c2⟩ | exact ⟨(hbc.cell (by exact hs1)).trans c0, (hbc.cell (by exact hs1)).trans c1, (hbc.cell (by exact hs1)).trans c2⟩))
      (first | (go_at_call 67; refine (rooms_any _ A none l [] c 0 T C err (hA.below hb1.drew) (IntsAt.nil _ _) hl12 (by simp) hE hV.reads).mono ?_; rintro e W2 ⟨rfl, hbr⟩) | (go_at_call 76; refine (can_law _ A l c T C _ _ (hA.below (hb1.drew.trans (hbr.mono hb1.size))) hl12 hV.net hR).mono ?_; rintro e W3 ⟨hbc0, b, rfl, hb⟩; have HB := Lib.hid hb; clear hb; have hbc := Below.trans hbr (hbc0.mono hbr.size)))
    have hfin := hb1.drew.trans (hbc.mono hb1.size)
    go_wp2
    · go_ret
      refine ⟨hfin, 9, rfl, .inr ⟨HA.out, .inr ⟨rfl, fun h => ?_⟩⟩⟩
      have := HB.out.2 h
      have h9 : (!b) = true := by assumption
      rw [this] at h9
      cases h9
    · go_ret
      exact ⟨hfin, 0, rfl, .inr ⟨HA.out, .inl ⟨rfl, HB.out.1 (by have h9 : (!b) = false := (by assumption); simpa using h9)⟩⟩⟩
  · have h1' : (askedN l T C err != 0) = true := by simp [h1]
    have HH := Lib.hid h1
    clear h1
    go_enter Try.func78, Try.ntmps78
    go_wp2_with (first | (go_at_call 66; refine (asked_any _ A l c T C err (hA.below hbl) hl).mono ?_; rintro e w' ⟨hbe, rfl⟩))
    go_ret
    exact ⟨hbl.trans (hbe.mono hbl.size), _, rfl, .inl ⟨HH.out, rfl⟩⟩
end Go.Proofs.Ytnhbplnhhloklaa
