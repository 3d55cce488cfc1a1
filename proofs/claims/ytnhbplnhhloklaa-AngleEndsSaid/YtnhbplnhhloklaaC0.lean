/- Contract of can; there is a truth, or a cut denies. -/
import Derived.Test.YtnhbplnhhloklaaM4
namespace Go.Proofs.Ytnhbplnhhloklaa
open Go.RowKit

/-- What is asked of rooms. -/
structure RoomOk (lo hi : Nat → Int) : Prop where
  lo0 : ∀ i, 0 ≤ lo i ∧ lo i ≤ 40
  hi0 : ∀ i, 0 ≤ hi i ∧ hi i ≤ 40
  le : ∀ i, lo i ≤ hi i

theorem truth_law (w : World) (A : Option Addr) (l : List Ang) (c : Nat) (T C : Nat) (lo hi : Nat → Int) (hA : AngAt w A l) (hl : l.length ≤ 12) (hN : NetOk l T C) (hR : RoomOk lo hi) :
    Calls Try.prog 80 #[.agg #[.slice A l.length c, .int .i64 T, .int .i64 C], .agg (roomsV lo hi)] w fun e w' => Below w.heap.size w w' ∧
      ((∃ (x : Nat → Int) (v : Value), TruthN l T C lo hi x ∧ e = .returned (.tuple #[v, .bool true]) ∧ w'.ownsRow w.heap.size 3 1 v l.length ((List.range l.length).map (fun i => .int .i64 (x i)))) ∨
       ((∃ P, DenyN l T C lo hi P) ∧ e = .returned (.tuple #[.slice none 0 0, .bool false]))) := by
  refine (truth_any w A l c T C lo hi hA hl hN.hT hN.hC hN.ok hR.lo0 hR.hi0 hR.le).mono ?_
  rintro e w' ⟨hb, sum, L', S, hr, hd, h⟩
  have hB := LF_bnd (T := T) (C := C) hl hR.lo0 hR.hi0 hR.le
  refine ⟨hb, ?_⟩
  rcases h with ⟨hs, v, rfl, how⟩ | ⟨hs, rfl⟩
  · refine .inl ⟨_, v, flow_truth hN hR.le hB hr hs, rfl, ?_⟩
    have e : (xsF l lo L' l.length).map (Value.int .i64) = (List.range l.length).map (fun i => .int .i64 (lo i + yF l L' i)) := by
      unfold xsF
      rw [List.map_map]
      refine List.map_congr_left fun i hi' => ?_
      have hlt : i < l.length := List.mem_range.1 hi'
      simp [yF, fI, tI, hlt]
    rw [e] at how
    exact how
  · refine .inr ⟨?_, rfl⟩
    obtain ⟨h1, h2⟩ := flow_cut hN hB hr hd hs
    cases h10 : S 10 with
    | false => exact ⟨S, h10, .inr (h1 h10)⟩
    | true => exact ⟨fun u => !S u, by simp [h10], .inl (h2 h10)⟩

/-- There is a truth, or a cut denies. -/
def angCells (l : List Ang) : Array Value := (l.flatMap fun a => [Value.int .i64 a.t, .int .i64 a.c, .int .i64 a.r, .int .i64 a.w]).toArray
theorem flat_at : ∀ (l : List Ang) (i : Nat) (a : Ang), l[i]? = some a → ∀ j, j < 4 → (l.flatMap fun a => [Value.int .i64 a.t, .int .i64 a.c, .int .i64 a.r, .int .i64 a.w])[i * 4 + j]? = [Value.int .i64 a.t, .int .i64 a.c, .int .i64 a.r, .int .i64 a.w][j]?
  | [], i, a, h, _, _ => by simp at h
  | b :: r, 0, a, h, j, hj => by
    simp at h; subst h
    rw [List.flatMap_cons, List.getElem?_append_left (by simp; omega)]
    simp
  | b :: r, i + 1, a, h, j, hj => by
    rw [List.flatMap_cons, List.getElem?_append_right (by simp; omega)]
    have := flat_at r i a (by simpa using h) j hj
    rw [← this]
    congr 1
    simp; omega
theorem angAt_new (w : World) (l : List Ang) : AngAt (w.alloc (.cells (angCells l) 104)) (some ⟨w.heap.size, 0, none⟩) l := by
  intro i a h
  have hb := (MapKept.heap_alloc w (.cells (angCells l) 104)).1
  have hat : ∀ j, j < 4 → (angCells l)[i * 4 + j]? = [Value.int .i64 a.t, .int .i64 a.c, .int .i64 a.r, .int .i64 a.w][j]? := fun j hj => by
    unfold angCells
    rw [List.getElem?_toArray]
    exact flat_at l i a h j hj
  refine ⟨w.heap.size, 0, rfl, by simp, ?_, ?_, ?_, ?_⟩
  · have := cell_of_block (j := i * 4 + 0) hb (hat 0 (by omega)); simpa using this
  · have := cell_of_block (j := i * 4 + 1) hb (hat 1 (by omega)); simpa using this
  · have := cell_of_block (j := i * 4 + 2) hb (hat 2 (by omega)); simpa using this
  · have := cell_of_block (j := i * 4 + 3) hb (hat 3 (by omega)); simpa using this

theorem hoffman {l : List Ang} {T C : Nat} {lo hi : Nat → Int} (hl : l.length ≤ 12) (hN : NetOk l T C) (hR : RoomOk lo hi) : (∃ x, TruthN l T C lo hi x) ∨ ∃ P, DenyN l T C lo hi P := by
  obtain ⟨e, w', fr, ⟨_, h⟩, _⟩ := truth_law _ _ l 0 T C lo hi (angAt_new default l) hl hN hR []
  rcases h with ⟨x, v, hx, _⟩ | ⟨hP, _⟩
  · exact .inl ⟨x, hx⟩
  · exact .inr hP

/-- There is a truth in rooms. -/
def Can (l : List Ang) (T C : Nat) (lo hi : Nat → Int) : Prop := ∃ x, TruthN l T C lo hi x
theorem not_can {l : List Ang} {T C : Nat} {lo hi : Nat → Int} {P : Nat → Bool} (hN : NetOk l T C) (h : DenyN l T C lo hi P) : ¬ Can l T C lo hi := fun ⟨_, hx⟩ => deny_no_truth hN h hx

theorem can_law (w : World) (A : Option Addr) (l : List Ang) (c : Nat) (T C : Nat) (lo hi : Nat → Int) (hA : AngAt w A l) (hl : l.length ≤ 12) (hN : NetOk l T C) (hR : RoomOk lo hi) :
    Calls Try.prog 76 #[.agg #[.slice A l.length c, .int .i64 T, .int .i64 C], .agg (roomsV lo hi)] w fun e w' => Below w.heap.size w w' ∧ ∃ b : Bool, e = .returned (.bool b) ∧ (b = true ↔ Can l T C lo hi) := by
  have hrm : ((w.alloc (.cells #[.slice A l.length c, .int .i64 T, .int .i64 C] 33)).alloc (.cells (roomsV lo hi) 109)).heap[w.heap.size + 1]? = some (.cells (roomsV lo hi) 109 (0, 0)) := by
    have := (MapKept.heap_alloc (w.alloc (.cells #[.slice A l.length c, .int .i64 T, .int .i64 C] 33)) (.cells (roomsV lo hi) 109)).1
    rw [World.size_alloc] at this; exact this
  have hbl : Below w.heap.size w ((w.alloc (.cells #[.slice A l.length c, .int .i64 T, .int .i64 C] 33)).alloc (.cells (roomsV lo hi) 109)) := ((Below.refl _ w).alloc (Nat.le_refl _) _).alloc (by simp) _
  go_enter Try.func76, Try.ntmps76
  go_wp2_with (first | ((with_reducible refine wpList_load_row ?_ 109 (.tmp 3) ?_ (w.heap.size + 1) ?_ 109 (roomsV lo hi) (0, 0) (.array 12 58) hrm und109 ?_ (sizeR _ _) ?_); (· rfl); (· rfl); (· rfl); (· rfl)) | (go_at_call 80; refine (truth_law _ A l c T C lo hi (hA.below hbl) hl hN hR).mono ?_; rintro e W1 ⟨hbe, ⟨x, v, hx, rfl, how⟩ | ⟨hP, rfl⟩⟩))
  · go_ret
    exact ⟨hbl.trans (hbe.mono hbl.size), true, rfl, by simp; exact ⟨x, hx⟩⟩
  · go_ret
    obtain ⟨P, hP⟩ := hP
    exact ⟨hbl.trans (hbe.mono hbl.size), false, rfl, by simp; exact not_can hN hP⟩
end Go.Proofs.Ytnhbplnhhloklaa
