/- Contracts at the chapter's net, and of awake. -/
import Derived.Test.YtnhbplnhhloklaaF0
import Derived.Test.YtnhbplnhhloklaaE9
import Derived.Test.YtnhbplnhhloklaaC9
import Derived.Laws.StructEq
import Derived.Laws.Small
import Derived.Laws.Cover2
namespace Go.Proofs.Ytnhbplnhhloklaa
open Go.RowKit
attribute [local go_sem ↓] eq58 guard58

theorem angAt_of {W : World} {b : Nat} {t : TypeId} {l : List Ang} (hb : W.heap[b]? = some (.cells (angCells l) t (0, 0))) : AngAt W (some ⟨b, 0, none⟩) l := by
  intro i a h
  have hlt := (Array.getElem?_eq_some_iff.1 hb).1
  have hat : ∀ j, j < 4 → (angCells l)[i * 4 + j]? = [Value.int .i64 a.t, .int .i64 a.c, .int .i64 a.r, .int .i64 a.w][j]? := fun j hj => by
    unfold angCells
    rw [List.getElem?_toArray]
    exact flat_at l i a h j hj
  refine ⟨b, 0, rfl, hlt, ?_, ?_, ?_, ?_⟩
  · have := cell_of_block (j := i * 4 + 0) hb (hat 0 (by omega)); simpa using this
  · have := cell_of_block (j := i * 4 + 1) hb (hat 1 (by omega)); simpa using this
  · have := cell_of_block (j := i * 4 + 2) hb (hat 2 (by omega)); simpa using this
  · have := cell_of_block (j := i * 4 + 3) hb (hat 3 (by omega)); simpa using this
theorem intsAt_of {W : World} {b : Nat} {t : TypeId} {l : List Int} (hb : W.heap[b]? = some (.cells (l.map (Value.int .i64)).toArray t (0, 0))) : IntsAt W (some ⟨b, 0, none⟩) l := by
  intro i x h
  refine ⟨b, 0, rfl, (Array.getElem?_eq_some_iff.1 hb).1, ?_⟩
  rw [Nat.zero_add]
  exact cell_of_block hb (by rw [List.getElem?_toArray, List.getElem?_map, h]; rfl)

theorem six_any (w : World) : Calls Try.prog 65 #[] w fun e w' => Below w.heap.size w w' ∧ ∃ B, e = .returned (.agg #[.slice B 6 6, .int .i64 2, .int .i64 1]) ∧ AngAt w' B sixL ∧ ∀ b o, B = some ⟨b, o, none⟩ → w.heap.size ≤ b ∧ b < w'.heap.size := by
  go_enter Try.func65, Try.ntmps65
  go_wp2
  refine bodyPost_ret (v := .agg #[.slice (some ⟨w.heap.size + 1, 0, none⟩) 6 6, .int .i64 2, .int .i64 1]) (by simp [results, Try.results65, go_sem]) rfl ?_
  exact ⟨((Below.refl _ w).alloc (Nat.le_refl _) _).alloc (by simp) _, some ⟨w.heap.size + 1, 0, none⟩, rfl, angAt_of (t := 104) (at_alloc (by simp)), fun b o e => by cases e; simp⟩

/-- The cells of the bounds that are looked at. -/
def BCells (W : World) (g : Nat) : Prop := g < W.heap.size ∧ W.cell? ⟨g, 0, none⟩ = some (.int .i64 8) ∧ W.cell? ⟨g, 1, none⟩ = some (.int .i64 10) ∧ W.cell? ⟨g, 8, none⟩ = some (.int .i64 36) ∧ W.cell? ⟨g, 9, none⟩ = some (.int .i64 38) ∧ W.cell? ⟨g, 10, none⟩ = some (.int .i64 18) ∧ W.cell? ⟨g, 11, none⟩ = some (.int .i64 20)
theorem BCells.below {W W' : World} {g : Nat} (h : BCells W g) (hb : Below W.heap.size W W') : BCells W' g := by
  obtain ⟨h0, h1, h2, h3, h4, h5, h6⟩ := h
  exact ⟨Nat.lt_of_lt_of_le h0 hb.size, (hb.cell (p := ⟨g, _, none⟩) h0).trans h1, (hb.cell (p := ⟨g, _, none⟩) h0).trans h2, (hb.cell (p := ⟨g, _, none⟩) h0).trans h3, (hb.cell (p := ⟨g, _, none⟩) h0).trans h4, (hb.cell (p := ⟨g, _, none⟩) h0).trans h5, (hb.cell (p := ⟨g, _, none⟩) h0).trans h6⟩

theorem pairs_cell {W : World} {base g cap n : Nat} {ps : List (Int × Int)} (h : W.ownsRow base 58 2 (.slice (some ⟨g, 0, none⟩) n cap) n (pairsV ps)) {i : Nat} {p : Int × Int} (hi : ps[i]? = some p) : W.cell? ⟨g, i * 2, none⟩ = some (.int .i64 p.1) ∧ W.cell? ⟨g, i * 2 + 1, none⟩ = some (.int .i64 p.2) := by
  have key : ∀ (ps : List (Int × Int)) (i : Nat), ps[i]? = some p → (pairsV ps)[i * 2]? = some (.int .i64 p.1) ∧ (pairsV ps)[i * 2 + 1]? = some (.int .i64 p.2) := by
    intro ps
    induction ps with
    | nil => intro i h; simp at h
    | cons q r ih =>
      intro i h
      have e : pairsV (q :: r) = .int .i64 q.1 :: .int .i64 q.2 :: pairsV r := rfl
      rw [e]
      cases i with
      | zero => simp at h; subst h; simp
      | succ i =>
        have := ih i (by simpa using h)
        rw [show (i + 1) * 2 = i * 2 + 1 + 1 by omega]
        simpa using this
  obtain ⟨k1, k2⟩ := key ps i hi
  have h1 := h.cells (g := g) rfl _ _ k1
  have h2 := h.cells (g := g) rfl _ _ k2
  rw [addr_add, Nat.zero_add] at h1 h2
  exact ⟨h1, h2⟩

section
variable (w : World) (A : Option Addr) (c : Nat) (hA : AngAt w A sixL)
include hA
theorem sixc_least : Calls Try.prog 32 #[.agg #[.slice A 6 c, .int .i64 2, .int .i64 1]] w fun e w' => Below w.heap.size w w' ∧ e = .returned (.tuple #[.int .i64 2, .int .i64 0]) := by
  refine (least_any w A sixL c 2 1 hA (by decide)).mono ?_
  rintro e w' ⟨hb, n, s, rfl, ⟨h, _⟩ | ⟨_, h⟩⟩
  · exact absurd six_fault h
  · obtain ⟨rfl, rfl⟩ := six_least h
    exact ⟨hb, rfl⟩
theorem sixc_bounds : Calls Try.prog 35 #[.agg #[.slice A 6 c, .int .i64 2, .int .i64 1], .int .i64 2] w fun e w' => Below w.heap.size w w' ∧ ∃ g d, e = .returned (.tuple #[.slice (some ⟨g, 0, none⟩) 6 d, .int .i64 0]) ∧ 6 ≤ d ∧ BCells w' g := by
  refine (boundsAll_any w A sixL c 2 1 2 hA (by decide)).mono ?_
  rintro e w' ⟨hb, v, s, rfl, ⟨h, _⟩ | ⟨_, ⟨rfl, _, ps, hlen, hps, how⟩ | ⟨_, _, h⟩⟩⟩
  · exact absurd (six_asked (by omega)) h
  · have hl6 : ps.length = 6 := hlen
    obtain ⟨g, cap, rfl, hcap, hbg, hg⟩ := own_form (k := 5) how
    have q : ∀ i a b, i < 6 → EndsAre sixL 2 1 six2Lo six2Hi i a b → ps[i]? = some (a, b) := by
      intro i a b hi he
      obtain ⟨p, hp⟩ : ∃ p, ps[i]? = some p := ⟨ps[i]'(by omega), by simp [hl6, hi]⟩
      have h1 := hps i p hp
      obtain ⟨e1, e2⟩ := ends_unique he h1
      rw [hp, e1, e2]
    have k0 := pairs_cell how (q 0 8 10 (by omega) six_ends0)
    have k4 := pairs_cell how (q 4 36 38 (by omega) six_ends4)
    have k5 := pairs_cell how (q 5 18 20 (by omega) six_ends5)
    exact ⟨hb, g, cap, rfl, hcap, hg, k0.1, k0.2, k4.1, k4.2, k5.1, k5.2⟩
  · exact absurd six_can2 h
theorem sixc_leave (hb : ∀ b o, A = some ⟨b, o, none⟩ → b < w.heap.size) : Calls Try.prog 56 #[.agg #[.slice A 6 c, .int .i64 2, .int .i64 1], .int .i64 0] w fun e w' => Below w.heap.size w w' ∧ ∃ B d, e = .returned (.tuple #[.slice B 3 d, .int .i64 0]) ∧ IntsAt w' B [0, 2, 3] := by
  refine (leave_any w A sixL c 2 1 0 hA (by decide) hb).mono ?_
  rintro e w' ⟨hb, v, s, rfl, ⟨h, _⟩ | ⟨_, ⟨rfl, ys, hys, how⟩ | ⟨_, _, h⟩⟩⟩
  · exact absurd (six_asked (by omega)) h
  · obtain rfl := six_leave hys
    obtain ⟨B, d, rfl, hI⟩ := own_ints how
    exact ⟨hb, B, d, rfl, hI⟩
  · exact absurd six_can023 (h [0, 2, 3] ⟨rfl, by decide, by decide⟩)
theorem sixc_show : Calls Try.prog 36 #[.agg #[.slice A 6 c, .int .i64 2, .int .i64 1], .int .i64 2] w fun e w' => Below w.heap.size w w' ∧ ∃ B d xs, e = .returned (.tuple #[.slice B 6 d, .int .i64 0]) ∧ xs.length = 6 ∧ IntsAt w' B xs ∧ TruthL sixL 2 1 xs six2Lo six2Hi := by
  refine (show_any w A sixL c 2 1 2 hA (by decide)).mono ?_
  rintro e w' ⟨hb, v, s, rfl, ⟨h, _⟩ | ⟨_, ⟨rfl, x, hx, how⟩ | ⟨_, _, h⟩⟩⟩
  · exact absurd (six_asked (by omega)) h
  · have e1 : (List.range sixL.length).map (fun i => Value.int IntKind.i64 (x i)) = ((List.range 6).map x).map (Value.int .i64) := by rw [List.map_map]; rfl
    rw [e1] at how
    obtain ⟨_, B, d, rfl, hI, _⟩ := own_intsI how
    have hxl : ((List.range 6).map x).length = 6 := by simp
    refine ⟨hb, B, d, (List.range 6).map x, by rw [hxl], hxl, hI, (truthL_iff six_valid.net).2 (TruthN.congr hx fun i hi => ?_)⟩
    have hi6 : i < 6 := hi
    rw [List.getD_eq_getElem?_getD, List.getElem?_map, List.getElem?_range hi6]
    rfl
  · exact absurd six_can2 h
theorem sixc_ctl : Calls Try.prog 40 #[.agg #[.slice A 6 c, .int .i64 2, .int .i64 1], .int .i64 2] w fun e w' => Below w.heap.size w w' ∧ ∃ B d, e = .returned (.tuple #[.slice B 6 d, .int .i64 0]) := by
  refine (controlled_any w A sixL c 2 1 2 hA (by decide)).mono ?_
  rintro e w' ⟨hb, v, s, rfl, ⟨h, _⟩ | ⟨_, ⟨rfl, _, ks, hup, hks, how⟩ | ⟨_, _, h⟩⟩⟩
  · exact absurd (six_asked (by omega)) h
  · have hk : ks = List.range 6 := sorted_ext hup List.pairwise_lt_range fun i => by
      rw [hks i, List.mem_range]
      exact ⟨fun h => h.1, fun h => ⟨h, six_ctl i h⟩⟩
    obtain ⟨p, cp, rfl⟩ := own_slice how
    rw [hk]
    exact ⟨hb, p, cp, by simp⟩
  · exact absurd six_can2 h
theorem sixc_pt {xs : List Int} (X : Option Addr) (cx : Nat) (hX : IntsAt w X xs) (hl : xs.length = 6) (ht : TruthL sixL 2 1 xs six2Lo six2Hi) : Calls Try.prog 21 #[.agg #[.slice A 6 c, .int .i64 2, .int .i64 1], .int .i64 2, .slice X 6 cx] w fun e w' => Below w.heap.size w w' ∧ e = .returned (.bool true) := by
  have h := proveTruth_any w A X sixL xs c cx 2 1 2 hA hX (by decide) (by omega)
  rw [hl] at h
  refine h.mono ?_
  rintro e w' ⟨hb, b, rfl, hbb⟩
  have : b = true := hbb.2 ⟨six_asked (by omega), rfl, ht⟩
  subst this
  exact ⟨hb, rfl⟩
theorem sixc_pt1 {xs : List Int} (X : Option Addr) (cx : Nat) (hX : IntsAt w X xs) (hl : xs.length = 6) : Calls Try.prog 21 #[.agg #[.slice A 6 c, .int .i64 2, .int .i64 1], .int .i64 1, .slice X 6 cx] w fun e w' => Below w.heap.size w w' ∧ e = .returned (.bool false) := by
  have h := proveTruth_any w A X sixL xs c cx 2 1 1 hA hX (by decide) (by omega)
  rw [hl] at h
  refine h.mono ?_
  rintro e w' ⟨hb, b, rfl, hbb⟩
  cases b with
  | false => exact ⟨hb, rfl⟩
  | true => exact absurd ⟨_, (truthL_iff six_valid.net).1 (hbb.1 rfl).2.2⟩ six_not1
theorem sixc_pc (P Q : Option Addr) (c1 c2 : Nat) (hP : IntsAt w P [0, 1]) (hQ : IntsAt w Q [0]) : Calls Try.prog 24 #[.agg #[.slice A 6 c, .int .i64 2, .int .i64 1], .int .i64 1, .agg #[.slice P 2 c1, .slice Q 1 c2]] w fun e w' => Below w.heap.size w w' ∧ e = .returned (.bool true) := by
  refine (proveCut_any w A P Q sixL [0, 1] [0] c c1 c2 2 1 1 hA hP hQ (by decide) (by decide) (by decide)).mono ?_
  rintro e w' ⟨hb, b, rfl, hbb⟩
  have h1 : Rising [0, 1] 2 := rising_of (by decide) (by decide)
  have h2 : Rising [0] 1 := rising_of (by decide) (by decide)
  have h3 : ProvesL sixL [0, 1] [0] (rmLo sixL 1 [] sixL.length) (rmHi sixL 1 [] sixL.length) := by unfold ProvesL; decide
  have : b = true := hbb.2 ⟨six_asked (by omega), h1, h2, h3⟩
  subst this
  exact ⟨hb, rfl⟩
end
end Go.Proofs.Ytnhbplnhhloklaa
