/- Contracts of low, high and reach. -/
import Derived.Test.YtnhbplnhhloklaaC0
namespace Go.Proofs.Ytnhbplnhhloklaa
open Go.RowKit

theorem low_any (w : World) (a b : Int) : Calls Try.prog 102 #[.agg #[.int .i64 a, .int .i64 b]] w fun e w' => Below w.heap.size w w' ∧ e = .returned (.int .i64 a) := by
  go_enter Try.func102, Try.ntmps102
  go_wp2
  go_ret
  exact ⟨(Below.refl _ w).alloc (Nat.le_refl _) _, rfl⟩
theorem high_any (w : World) (a b : Int) : Calls Try.prog 103 #[.agg #[.int .i64 a, .int .i64 b]] w fun e w' => Below w.heap.size w w' ∧ e = .returned (.int .i64 b) := by
  go_enter Try.func103, Try.ntmps103
  go_wp2
  go_ret
  exact ⟨(Below.refl _ w).alloc (Nat.le_refl _) _, rfl⟩

/-- The memory of reach. -/
structure RMem (w wr : World) (B1 B2 : Nat) (F : Value) (st : Int) (A : Option Addr) (n c : Nat) (T C : Int) (lo hi : Nat → Int) : Prop where
  below : Below w.heap.size w wr
  ord : w.heap.size < B1 ∧ B1 < B2
  en : wr.heap[w.heap.size]? = some (.cells #[F, .int .i64 st] 149 (0, 0))
  net : wr.heap[B1]? = some (.cells #[.slice A n c, .int .i64 T, .int .i64 C] 33 (0, 0))
  rms : wr.heap[B2]? = some (.cells (roomsV lo hi) 109 (0, 0))
section
variable {w wr : World} {B1 B2 : Nat} {F : Value} {st : Int} {A : Option Addr} {n c : Nat} {T C : Int} {lo hi : Nat → Int}
theorem RMem.lt (h : RMem w wr B1 B2 F st A n c T C lo hi) : B2 < wr.heap.size := (Array.getElem?_eq_some_iff.1 h.rms).1
theorem RMem.step (h : RMem w wr B1 B2 F st A n c T C lo hi) {w2 : World} (hb : Below wr.heap.size wr w2) : RMem w w2 B1 B2 F st A n c T C lo hi :=
  have hl := h.lt
  have ho := h.ord
  ⟨h.below.trans (hb.mono (by omega)), ho, (hb.block _ (by omega)).trans h.en, (hb.block _ (by omega)).trans h.net, (hb.block _ (by omega)).trans h.rms⟩
theorem RMem.made (w : World) (F : Value) (st : Int) (A : Option Addr) (n c : Nat) (T C : Int) (lo hi : Nat → Int) : RMem w (((w.alloc (.cells #[F, .int .i64 st] 149)).alloc (.cells #[.slice A n c, .int .i64 T, .int .i64 C] 33)).alloc (.cells (roomsV lo hi) 109)) (w.heap.size + 1) (w.heap.size + 1 + 1) F st A n c T C lo hi := by
  refine ⟨(((Below.refl _ w).alloc (Nat.le_refl _) _).alloc (by simp) _).alloc (by simp; omega) _, by omega, ?_, ?_, ?_⟩
  · rw [Below.heap_alloc _ _ _ (by simp; omega), Below.heap_alloc _ _ _ (by simp)]
    exact (MapKept.heap_alloc w _).1
  · rw [Below.heap_alloc _ _ _ (by simp)]
    have := (MapKept.heap_alloc (w.alloc (.cells #[F, .int .i64 st] 149)) (.cells #[.slice A n c, .int .i64 T, .int .i64 C] 33)).1
    rw [World.size_alloc] at this; exact this
  · have := (MapKept.heap_alloc ((w.alloc (.cells #[F, .int .i64 st] 149)).alloc (.cells #[.slice A n c, .int .i64 T, .int .i64 C] 33)) (.cells (roomsV lo hi) 109)).1
    rw [World.size_alloc, World.size_alloc] at this; exact this
theorem RMem.setRoom (h : RMem w wr B1 B2 F st A n c T C lo hi) (i : Nat) (x y : Int) : RMem w ((wr.setCell ⟨B2, i * 2, none⟩ (.int .i64 x)).setCell ⟨B2, i * 2 + 1, none⟩ (.int .i64 y)) B1 B2 F st A n c T C (setAt lo i x) (setAt hi i y) := by
  have ho := h.ord
  refine ⟨(h.below.setCell (by simp; omega) _).setCell (by simp; omega) _, ho, ?_, ?_, ?_⟩
  · rw [Below.heap_setCell _ _ _ _ (by simp; omega), Below.heap_setCell _ _ _ _ (by simp; omega)]; exact h.en
  · rw [Below.heap_setCell _ _ _ _ (by simp; omega), Below.heap_setCell _ _ _ _ (by simp; omega)]; exact h.net
  · rw [← roomsV_set]
    exact heap_setCell_self (heap_setCell_self h.rms _) _
end
theorem setAt_self (f : Nat → Int) (i : Nat) : setAt f i (f i) = f := by funext j; simp only [setAt]; split <;> simp_all

theorem RoomOk.set {lo hi : Nat → Int} (h : RoomOk lo hi) (i : Nat) {a : Int} (h0 : 0 ≤ a ∧ a ≤ 40) : RoomOk (setAt lo i a) (setAt hi i a) := by
  refine ⟨fun j => ?_, fun j => ?_, fun j => ?_⟩
  · have := h.lo0 j; simp only [setAt]; split <;> omega
  · have := h.hi0 j; simp only [setAt]; split <;> omega
  · have := h.le j; simp only [setAt]; split <;> omega
/-- A truth, in a room of one number. -/
theorem TruthN.narrow {l : List Ang} {T C : Nat} {lo hi x : Nat → Int} (h : TruthN l T C lo hi x) (i : Nat) : TruthN l T C (setAt lo i (x i)) (setAt hi i (x i)) x := by
  refine ⟨fun j hj => ?_, h.2⟩
  have := h.1 j hj
  simp only [setAt]
  split
  · rename_i e; subst e; omega
  · exact this

set_option maxHeartbeats 4000000 in
set_option maxRecDepth 100000 in
theorem reach_low (w : World) (A : Option Addr) (l : List Ang) (c : Nat) (T C : Nat) (lo hi : Nat → Int) (i : Nat) (hA : AngAt w A l) (hl : l.length ≤ 12) (hN : NetOk l T C) (hR : RoomOk lo hi) (hi' : i < l.length) (hcan : Can l T C lo hi) :
    Calls Try.prog 104 #[.agg #[.func (.func 102) #[] #[], .int .i64 1], .agg #[.slice A l.length c, .int .i64 T, .int .i64 C], .agg (roomsV lo hi), .int .i64 i] w fun e w' => Below w.heap.size w w' ∧
      ∃ a, e = .returned (.int .i64 a) ∧ lo i ≤ a ∧ a ≤ hi i ∧ Can l T C (setAt lo i a) (setAt hi i a) ∧ ∀ b, lo i ≤ b → b < a → ¬ Can l T C (setAt lo i b) (setAt hi i b) := by
  obtain ⟨x0, hx0⟩ := hcan
  have hxi := hx0.1 i hi'
  have hlo0 := (hR.lo0 i).1
  have hhi0 := (hR.hi0 i).2
  have hcx : Can l T C (setAt lo i (x0 i)) (setAt hi i (x0 i)) := ⟨x0, hx0.narrow i⟩
  have hi12 : i < 12 := by omega
  have hii0 : (0 : Int) ≤ i := by omega
  have hii1 : (i : Int) < 12 := by omega
  have hbl1 := RMem.made w (.func (.func 102) #[] #[]) 1 A l.length c T C lo hi
  go_enter Try.func104, Try.ntmps104
  go_wp2
  generalize ((w.alloc (.cells #[.func (.func 102) #[] #[], .int .i64 1] 149)).alloc (.cells #[.slice A l.length c, .int .i64 T, .int .i64 C] 33)).alloc (.cells (roomsV lo hi) 109) = W1 at *
  generalize w.heap.size + 1 + 1 = B2 at *
  generalize w.heap.size + 1 = B1 at *
  have hord := hbl1.ord
  have hf0 := cell_of_block (j := 0) (v := .func (.func 102) #[] #[]) hbl1.en rfl
  have hr0 := cell_of_block (j := i * 2) hbl1.rms (roomsV_lo hi12)
  have hr1 := cell_of_block (j := i * 2 + 1) hbl1.rms (roomsV_hi hi12)
  have hl1 := hbl1.lt
  have HB := Lib.hid hbl1
  have HC := Lib.hid hcx
  have HX := Lib.hid hx0
  clear hbl1 hcx hx0
  go_region_held3 (fun w' => w'.cell? ⟨w.heap.size, 0, none⟩ = some (.func (.func 102) #[] #[]) ∧ w'.cell? ⟨B2, i * 2, none⟩ = some (.int .i64 (lo i)) ∧ w'.cell? ⟨B2, i * 2 + 1, none⟩ = some (.int .i64 (hi i)))
    ((first | exact ⟨by assumption, by assumption, by assumption⟩ | exact ⟨(hbe.cell (by simp; omega)).trans hf0, (hbe.cell (by simp; omega)).trans hr0, (hbe.cell (by simp; omega)).trans hr1⟩))
    (first | (go_at_call 102; refine (low_any _ _ _).mono ?_; rintro e W2 ⟨hbe, rfl⟩))
  have HM := HB.out.step ((Below.refl _ W1).drew.trans hbe)
  clear hbe hf0 hr0 hr1 hl1 HB
  go_wp2_with fail
  go_loopw [9] (fun t wr => ∃ (a p q : Int), t = .int .i64 a ∧ lo i ≤ a ∧ a ≤ x0 i ∧ Hid (∀ b, lo i ≤ b → b < a → ¬ Can l T C (setAt lo i b) (setAt hi i b)) ∧ RMem w wr B1 B2 (.func (.func 102) #[] #[]) 1 A l.length c T C (setAt lo i p) (setAt hi i q)) (fun t _ => (x0 i + 1 - intOf t).toNat)
  case atStart => exact ⟨lo i, lo i, hi i, rfl, Int.le_refl _, hxi.1, Lib.hid (fun b h1 h2 => by omega), by rw [setAt_self, setAt_self]; exact HM⟩
  case round =>
    clear HM
    obtain ⟨a, p, q, rfl, ha0, ha1, hno, hM⟩ := hrel
    have hr0 := cell_of_block (j := i * 2) hM.rms (roomsV_lo hi12)
    have hr1 := cell_of_block (j := i * 2 + 1) hM.rms (roomsV_hi hi12)
    have hf0 := free_of_block (j := i * 2) hM.rms
    have hf1 := free_of_block (j := i * 2 + 1) hM.rms
    have hM2 := hM.setRoom i a a
    rw [setAt_same, setAt_same] at hM2
    have hn0 := cell_of_block (j := 0) (v := .slice A l.length c) hM.net rfl
    have hn1 := cell_of_block (j := 1) (v := .int .i64 T) hM.net rfl
    have hn2 := cell_of_block (j := 2) (v := .int .i64 C) hM.net rfl
    have hrm := hM2.rms
    have hRa : RoomOk (setAt lo i a) (setAt hi i a) := hR.set i (by omega)
    have hAa := hA.below hM2.below
    go_wp2_with (first | ((with_reducible refine wpList_load_row ?_ 109 (.tmp 6) ?_ B2 ?_ 109 (roomsV (setAt lo i a) (setAt hi i a)) (0, 0) (.array 12 58) hrm und109 ?_ (sizeR _ _) ?_); (· rfl); (· rfl); (· rfl); (· rfl)) | (go_at_call 76; refine (can_law _ A l c T C _ _ hAa hl hN hRa).mono ?_; rintro e W3 ⟨hbe3, b, rfl, hb⟩; have hM3 := hM2.step hbe3; have he1 := cell_of_block (j := 1) (v := .int .i64 1) hM3.en rfl; have Hb := Lib.hid hb; clear hb))
    · go_ret
      exact ⟨hM3.below, a, rfl, ha0, by omega, Hb.out.1 (by first | rfl | assumption), hno.out⟩
    · have hnc : ¬ Can l T C (setAt lo i a) (setAt hi i a) := fun h => by
        have h2 := Hb.out.2 h
        subst h2
        contradiction
      have hne : a ≠ x0 i := by
        rintro rfl
        exact hnc HC.out
      go_roundw
      case rel =>
        refine ⟨a + 1, a, a, rfl, by omega, by omega, Lib.hid (fun b h1 h2 => ?_), hM3⟩
        by_cases e : b = a
        · rw [e]; exact hnc
        · exact hno.out b h1 (by omega)
      case measure => simp [intOf]; omega
set_option maxHeartbeats 4000000 in
set_option maxRecDepth 100000 in
theorem reach_high (w : World) (A : Option Addr) (l : List Ang) (c : Nat) (T C : Nat) (lo hi : Nat → Int) (i : Nat) (hA : AngAt w A l) (hl : l.length ≤ 12) (hN : NetOk l T C) (hR : RoomOk lo hi) (hi' : i < l.length) (hcan : Can l T C lo hi) :
    Calls Try.prog 104 #[.agg #[.func (.func 103) #[] #[], .int .i64 (-1)], .agg #[.slice A l.length c, .int .i64 T, .int .i64 C], .agg (roomsV lo hi), .int .i64 i] w fun e w' => Below w.heap.size w w' ∧
      ∃ a, e = .returned (.int .i64 a) ∧ lo i ≤ a ∧ a ≤ hi i ∧ Can l T C (setAt lo i a) (setAt hi i a) ∧ ∀ b, a < b → b ≤ hi i → ¬ Can l T C (setAt lo i b) (setAt hi i b) := by
  obtain ⟨x0, hx0⟩ := hcan
  have hxi := hx0.1 i hi'
  have hlo0 := (hR.lo0 i).1
  have hhi0 := (hR.hi0 i).2
  have hcx : Can l T C (setAt lo i (x0 i)) (setAt hi i (x0 i)) := ⟨x0, hx0.narrow i⟩
  have hi12 : i < 12 := by omega
  have hii0 : (0 : Int) ≤ i := by omega
  have hii1 : (i : Int) < 12 := by omega
  have hbl1 := RMem.made w (.func (.func 103) #[] #[]) (-1) A l.length c T C lo hi
  go_enter Try.func104, Try.ntmps104
  go_wp2
  generalize ((w.alloc (.cells #[.func (.func 103) #[] #[], .int .i64 (-1)] 149)).alloc (.cells #[.slice A l.length c, .int .i64 T, .int .i64 C] 33)).alloc (.cells (roomsV lo hi) 109) = W1 at *
  generalize w.heap.size + 1 + 1 = B2 at *
  generalize w.heap.size + 1 = B1 at *
  have hord := hbl1.ord
  have hf0 := cell_of_block (j := 0) (v := .func (.func 103) #[] #[]) hbl1.en rfl
  have hr0 := cell_of_block (j := i * 2) hbl1.rms (roomsV_lo hi12)
  have hr1 := cell_of_block (j := i * 2 + 1) hbl1.rms (roomsV_hi hi12)
  have hl1 := hbl1.lt
  have HB := Lib.hid hbl1
  have HC := Lib.hid hcx
  have HX := Lib.hid hx0
  clear hbl1 hcx hx0
  go_region_held3 (fun w' => w'.cell? ⟨w.heap.size, 0, none⟩ = some (.func (.func 103) #[] #[]) ∧ w'.cell? ⟨B2, i * 2, none⟩ = some (.int .i64 (lo i)) ∧ w'.cell? ⟨B2, i * 2 + 1, none⟩ = some (.int .i64 (hi i)))
    ((first | exact ⟨by assumption, by assumption, by assumption⟩ | exact ⟨(hbe.cell (by simp; omega)).trans hf0, (hbe.cell (by simp; omega)).trans hr0, (hbe.cell (by simp; omega)).trans hr1⟩))
    (first | (go_at_call 103; refine (high_any _ _ _).mono ?_; rintro e W2 ⟨hbe, rfl⟩))
  have HM := HB.out.step ((Below.refl _ W1).drew.trans hbe)
  clear hbe hf0 hr0 hr1 hl1 HB
  go_wp2_with fail
  go_loopw [9] (fun t wr => ∃ (a p q : Int), t = .int .i64 a ∧ x0 i ≤ a ∧ a ≤ hi i ∧ Hid (∀ b, a < b → b ≤ hi i → ¬ Can l T C (setAt lo i b) (setAt hi i b)) ∧ RMem w wr B1 B2 (.func (.func 103) #[] #[]) (-1) A l.length c T C (setAt lo i p) (setAt hi i q)) (fun t _ => (intOf t + 1 - x0 i).toNat)
  case atStart => exact ⟨hi i, lo i, hi i, rfl, hxi.2, Int.le_refl _, Lib.hid (fun b h1 h2 => by omega), by rw [setAt_self, setAt_self]; exact HM⟩
  case round =>
    clear HM
    obtain ⟨a, p, q, rfl, ha0, ha1, hno, hM⟩ := hrel
    have hr0 := cell_of_block (j := i * 2) hM.rms (roomsV_lo hi12)
    have hr1 := cell_of_block (j := i * 2 + 1) hM.rms (roomsV_hi hi12)
    have hf0 := free_of_block (j := i * 2) hM.rms
    have hf1 := free_of_block (j := i * 2 + 1) hM.rms
    have hM2 := hM.setRoom i a a
    rw [setAt_same, setAt_same] at hM2
    have hn0 := cell_of_block (j := 0) (v := .slice A l.length c) hM.net rfl
    have hn1 := cell_of_block (j := 1) (v := .int .i64 T) hM.net rfl
    have hn2 := cell_of_block (j := 2) (v := .int .i64 C) hM.net rfl
    have hrm := hM2.rms
    have hRa : RoomOk (setAt lo i a) (setAt hi i a) := hR.set i (by omega)
    have hAa := hA.below hM2.below
    go_wp2_with (first | ((with_reducible refine wpList_load_row ?_ 109 (.tmp 6) ?_ B2 ?_ 109 (roomsV (setAt lo i a) (setAt hi i a)) (0, 0) (.array 12 58) hrm und109 ?_ (sizeR _ _) ?_); (· rfl); (· rfl); (· rfl); (· rfl)) | (go_at_call 76; refine (can_law _ A l c T C _ _ hAa hl hN hRa).mono ?_; rintro e W3 ⟨hbe3, b, rfl, hb⟩; have hM3 := hM2.step hbe3; have he1 := cell_of_block (j := 1) (v := .int .i64 (-1)) hM3.en rfl; have Hb := Lib.hid hb; clear hb))
    · go_ret
      exact ⟨hM3.below, a, rfl, by omega, ha1, Hb.out.1 (by first | rfl | assumption), hno.out⟩
    · have hnc : ¬ Can l T C (setAt lo i a) (setAt hi i a) := fun h => by
        have h2 := Hb.out.2 h
        subst h2
        contradiction
      have hne : a ≠ x0 i := by
        rintro rfl
        exact hnc HC.out
      go_roundw
      case rel =>
        refine ⟨a + -1, a, a, rfl, by omega, by omega, Lib.hid (fun b h1 h2 => ?_), hM3⟩
        by_cases e : b = a
        · rw [e]; exact hnc
        · exact hno.out b (by omega) h2
      case measure => simp [intOf]; omega
end Go.Proofs.Ytnhbplnhhloklaa
