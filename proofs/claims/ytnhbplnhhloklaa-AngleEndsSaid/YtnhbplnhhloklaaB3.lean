/- Contract of begin. -/
import Derived.Test.YtnhbplnhhloklaaB2
import Derived.Test.YtnhbplnhhloklaaA5
import Derived.WideMake
namespace Go.Proofs.Ytnhbplnhhloklaa
open Go.RowKit
open Go.ChangeMaps (setBlock)
attribute [local go_sem] min2_int min_two max2_int max_two run_makeMap_plain

/-- What nodes give, as the program holds it. -/
def gv (g : Nat → Int) : Array Value := ((List.range 13).map (fun k => Value.int .i64 (g k))).toArray
theorem gv_get {g : Nat → Int} {i : Nat} (h : i < 13) : (gv g)[i]? = some (.int .i64 (g i)) := by
  simp only [gv, List.getElem?_toArray, List.getElem?_map]
  rw [List.getElem?_range (by omega)]
  rfl
theorem gv_set {g : Nat → Int} {i : Nat} {x : Int} : (gv g).setIfInBounds i (.int .i64 x) = gv (setAt g i x) := by
  apply Array.ext'
  rw [Array.toList_setIfInBounds]
  simp only [gv]
  apply List.ext_getElem?
  intro j
  by_cases hj : j < 13
  · by_cases e1 : i = j
    · subst e1
      rw [List.getElem?_set_self (by simpa using hj)]
      simp [hj, setAt]
    · rw [List.getElem?_set_ne e1]
      simp only [List.getElem?_map, List.getElem?_range hj, Option.map_some, setAt]
      rw [if_neg (by omega)]
  · rw [List.getElem?_eq_none (by simp; omega), List.getElem?_eq_none (by simp; omega)]
theorem gv_zero : gv (fun _ => 0) = #[.int .i64 0, .int .i64 0, .int .i64 0, .int .i64 0, .int .i64 0, .int .i64 0, .int .i64 0, .int .i64 0, .int .i64 0, .int .i64 0, .int .i64 0, .int .i64 0, .int .i64 0] := rfl

/-- The memory of begin. -/
structure BMem (w wr : World) (B1 B2 B3 B4 : Nat) (A : Option Addr) (n c : Nat) (T C : Int) (lo hi : Nat → Int) (L : LL) (g : Nat → Int) : Prop where
  below : Below w.heap.size w wr
  ord : w.heap.size < B1 ∧ B1 < B2 ∧ B2 < B3 ∧ B3 < B4
  net : wr.heap[w.heap.size]? = some (.cells #[.slice A n c, .int .i64 T, .int .i64 C] 33 (0, 0))
  rms : wr.heap[B1]? = some (.cells (roomsV lo hi) 109 (0, 0))
  map : MapIs wr B2 L
  work : wr.heap[B3]? = some (.cells #[.slice A n c, .int .i64 T, .int .i64 C, .map (some B2)] 153 (0, 0))
  give : wr.heap[B4]? = some (.cells (gv g) 107 (0, 0))
section
variable {w wr : World} {B1 B2 B3 B4 : Nat} {A : Option Addr} {n c : Nat} {T C : Int} {lo hi : Nat → Int} {L : LL} {g : Nat → Int}
theorem BMem.lt (h : BMem w wr B1 B2 B3 B4 A n c T C lo hi L g) : B4 < wr.heap.size := (Array.getElem?_eq_some_iff.1 h.give).1
theorem BMem.step (h : BMem w wr B1 B2 B3 B4 A n c T C lo hi L g) {w2 : World} (hb : Below wr.heap.size wr w2) : BMem w w2 B1 B2 B3 B4 A n c T C lo hi L g :=
  have hl := h.lt
  have ho := h.ord
  ⟨h.below.trans (hb.mono (by omega)), h.ord, (hb.block _ (by omega)).trans h.net, (hb.block _ (by omega)).trans h.rms, h.map.same (hb.block _ (by omega)), (hb.block _ (by omega)).trans h.work, (hb.block _ (by omega)).trans h.give⟩
theorem BMem.setGive (h : BMem w wr B1 B2 B3 B4 A n c T C lo hi L g) (k : Nat) (x : Int) : BMem w (wr.setCell ⟨B4, k, none⟩ (.int .i64 x)) B1 B2 B3 B4 A n c T C lo hi L (setAt g k x) := by
  have ho := h.ord
  refine ⟨h.below.setCell (by simp; omega) _, h.ord, ?_, ?_, h.map.same ?_, ?_, ?_⟩
  · rw [Below.heap_setCell _ _ _ _ (by simp; omega)]; exact h.net
  · rw [Below.heap_setCell _ _ _ _ (by simp; omega)]; exact h.rms
  · rw [Below.heap_setCell _ _ _ _ (by simp; omega)]
  · rw [Below.heap_setCell _ _ _ _ (by simp; omega)]; exact h.work
  · rw [heap_setCell_self h.give, gv_set]
theorem BMem.setMap (h : BMem w wr B1 B2 B3 B4 A n c T C lo hi L g) {w2 : World} {L2 : LL} (hk : Keep (fun k => k = B2) wr w2) (hm : MapIs w2 B2 L2) : BMem w w2 B1 B2 B3 B4 A n c T C lo hi L2 g :=
  have hl := h.lt
  have ho := h.ord
  ⟨h.below.trans (hk.below (by omega) (by rintro k rfl; omega)), h.ord, (hk.block _ (by omega) (by omega)).trans h.net, (hk.block _ (by omega) (by omega)).trans h.rms, hm, (hk.block _ (by omega) (by omega)).trans h.work, (hk.block _ (by omega) (by omega)).trans h.give⟩
theorem BMem.cell (h : BMem w wr B1 B2 B3 B4 A n c T C lo hi L g) {k : Nat} (hk : k < 13) : wr.cell? ⟨B4, k, none⟩ = some (.int .i64 (g k)) := cell_of_block h.give (gv_get hk)
theorem BMem.free (h : BMem w wr B1 B2 B3 B4 A n c T C lo hi L g) (k : Nat) : wr.frozen? ⟨B4, k, none⟩ = false := free_of_block h.give
end

def g1 (k : Nat) : Nat → Int := fun j => if j < k then 36 else 0
theorem g1_step (k : Nat) : setAt (g1 k) k (g1 k k + 36) = g1 (k + 1) := by
  funext j
  simp only [setAt, g1]
  by_cases e : j = k
  · subst e; simp
  · have e1 : (j < k + 1) = (j < k) := by apply propext; omega
    simp only [e, if_false, e1]
def g2 (T k : Nat) : Nat → Int := fun j => if 5 ≤ j ∧ j < 5 + k then g1 T j - 72 else g1 T j
theorem g2_step (T k : Nat) : setAt (g2 T k) (5 + k) (g2 T k (5 + k) - 72) = g2 T (k + 1) := by
  funext j
  simp only [setAt, g2]
  by_cases e : j = 5 + k
  · subst e
    rw [if_pos rfl, if_neg (by omega), if_pos (by omega)]
  · have e1 : (5 ≤ j ∧ j < 5 + (k + 1)) = (5 ≤ j ∧ j < 5 + k) := by apply propext; omega
    simp only [e, if_false, e1]
theorem g1_bnd (k j : Nat) : 0 ≤ g1 k j ∧ g1 k j ≤ 36 := by unfold g1; split <;> omega
theorem g2_bnd (T k j : Nat) : -72 ≤ g2 T k j ∧ g2 T k j ≤ 36 := by
  have := g1_bnd T j
  unfold g2; split <;> omega

/-- What nodes give when the Lo of some rooms flow. -/
def gA (l : List Ang) (lo : Nat → Int) (base : Nat → Int) : Nat → (Nat → Int)
  | 0 => base
  | k + 1 => match l[k]? with
    | some a => setAt (setAt (gA l lo base k) (frN a) (gA l lo base k (frN a) - lo k)) (toN a) (setAt (gA l lo base k) (frN a) (gA l lo base k (frN a) - lo k) (toN a) + lo k)
    | none => gA l lo base k
/-- The arcs of some angles. -/
def lA (l : List Ang) (lo hi : Nat → Int) : Nat → LL
  | 0 => fun _ _ _ => 0
  | k + 1 => match l[k]? with
    | some a => if frN a = toN a then lA l lo hi k else upd (lA l lo hi k) (frN a) (toN a) k (hi k - lo k)
    | none => lA l lo hi k
theorem gA_step {l : List Ang} {lo base : Nat → Int} {k : Nat} {a : Ang} (h : l[k]? = some a) : gA l lo base (k + 1) = setAt (setAt (gA l lo base k) (frN a) (gA l lo base k (frN a) - lo k)) (toN a) (setAt (gA l lo base k) (frN a) (gA l lo base k (frN a) - lo k) (toN a) + lo k) := by
  simp only [gA, h]
theorem lA_step {l : List Ang} {lo hi : Nat → Int} {k : Nat} {a : Ang} (h : l[k]? = some a) : lA l lo hi (k + 1) = if frN a = toN a then lA l lo hi k else upd (lA l lo hi k) (frN a) (toN a) k (hi k - lo k) := by
  simp only [lA, h]
theorem gA_bnd {l : List Ang} {lo base : Nat → Int} (hlo : ∀ i, 0 ≤ lo i ∧ lo i ≤ 40) (hb : ∀ j, -72 ≤ base j ∧ base j ≤ 36) : ∀ (k j : Nat), -72 - 40 * (k : Int) ≤ gA l lo base k j ∧ gA l lo base k j ≤ 36 + 40 * (k : Int)
  | 0, j => by have := hb j; simp only [gA]; omega
  | k + 1, j => by
    have h1 := hlo k
    have ih := gA_bnd (l := l) hlo hb k
    cases h : l[k]? with
    | none => simp only [gA, h]; have := ih j; omega
    | some a =>
      simp only [gA, h, setAt]
      have i1 := ih j
      have i2 := ih (frN a)
      have i3 := ih (toN a)
      split
      · split <;> omega
      · split <;> omega

/-- What is left for the free node. -/
def n10 (g : Nat → Int) : Nat → Int
  | 0 => 0
  | k + 1 => n10 g k - g k
def lN (L : LL) (g : Nat → Int) : Nat → LL
  | 0 => L
  | k + 1 => needsL (lN L g k) k (g k)
def dueN (g : Nat → Int) : Nat → Int
  | 0 => 0
  | k + 1 => dueN g k + max 0 (g k)
theorem n10_bnd {g : Nat → Int} (h : ∀ j, -600 ≤ g j ∧ g j ≤ 600) : ∀ k : Nat, -600 * (k : Int) ≤ n10 g k ∧ n10 g k ≤ 600 * (k : Int)
  | 0 => by simp [n10]
  | k + 1 => by have := n10_bnd h k; have := h k; simp only [n10]; omega
theorem dueN_bnd {g : Nat → Int} (h : ∀ j, -6000 ≤ g j ∧ g j ≤ 6000) : ∀ k : Nat, 0 ≤ dueN g k ∧ dueN g k ≤ 6000 * (k : Int)
  | 0 => by simp [dueN]
  | k + 1 => by have := dueN_bnd h k; have := h k; simp only [dueN]; omega
theorem upd_bnd {L : LL} {B x : Int} (h : ∀ u v i, -B ≤ L u v i ∧ L u v i ≤ B) (hx : -B ≤ x ∧ x ≤ B) (a b d : Int) : ∀ u v i, -B ≤ upd L a b d x u v i ∧ upd L a b d x u v i ≤ B := by
  intro u v i
  unfold upd
  split
  · exact hx
  · exact h u v i
theorem lA_bnd {l : List Ang} {lo hi : Nat → Int} (hlo : ∀ i, 0 ≤ lo i ∧ lo i ≤ 40) (hhi : ∀ i, 0 ≤ hi i ∧ hi i ≤ 40) : ∀ k : Nat, ∀ u v i, -40 ≤ lA l lo hi k u v i ∧ lA l lo hi k u v i ≤ 40
  | 0 => by intro u v i; simp [lA]
  | k + 1 => by
    intro u v i
    have ih := lA_bnd (l := l) hlo hhi k
    cases h : l[k]? with
    | none => simp only [lA, h]; exact ih u v i
    | some a =>
      rw [lA_step h]
      split
      · exact ih u v i
      · have := hlo k
        have := hhi k
        exact upd_bnd ih (by omega) _ _ _ u v i
theorem lN_bnd {L : LL} {g : Nat → Int} (hL : ∀ u v i, -40 ≤ L u v i ∧ L u v i ≤ 40) (hg : ∀ j, -6000 ≤ g j ∧ g j ≤ 6000) : ∀ k : Nat, ∀ u v i, -(40 + 6000 * (k : Int)) ≤ lN L g k u v i ∧ lN L g k u v i ≤ 40 + 6000 * (k : Int)
  | 0 => by intro u v i; have := hL u v i; simp only [lN]; omega
  | k + 1 => by
    intro u v i
    have ih := lN_bnd hL hg k
    have h1 := ih 11 k (-1)
    have h2 := ih k 12 (-1)
    have h3 := hg k
    have ih' : ∀ u v i, -(40 + 6000 * ((k + 1 : Nat) : Int)) ≤ lN L g k u v i ∧ lN L g k u v i ≤ 40 + 6000 * ((k + 1 : Nat) : Int) := fun u v i => by have := ih u v i; omega
    simp only [lN, needsL]
    split
    · exact upd_bnd ih' (by omega) _ _ _ u v i
    · exact upd_bnd ih' (by omega) _ _ _ u v i
theorem lN_congr {L : LL} {g g' : Nat → Int} : ∀ {k : Nat}, (∀ j, j < k → g j = g' j) → lN L g k = lN L g' k
  | 0, _ => rfl
  | k + 1, h => by simp only [lN]; rw [lN_congr (fun j hj => h j (by omega)), h k (by omega)]
theorem setAt_same (g : Nat → Int) (i : Nat) (x y : Int) : setAt (setAt g i x) i y = setAt g i y := by
  funext j; simp only [setAt]; split <;> rfl

/-- What nodes give at last; the map; what is due. -/
def gF (l : List Ang) (T C : Nat) (lo : Nat → Int) : Nat → Int := setAt (gA l lo (g2 T C) l.length) 10 (n10 (gA l lo (g2 T C) l.length) 10)
def LF (l : List Ang) (T C : Nat) (lo hi : Nat → Int) : LL := lN (lA l lo hi l.length) (gF l T C lo) 11

set_option maxHeartbeats 4000000 in
set_option maxRecDepth 100000 in
theorem begin_any (w : World) (A : Option Addr) (l : List Ang) (c : Nat) (T C : Nat) (lo hi : Nat → Int) (hA : AngAt w A l) (hl : l.length ≤ 12) (hT : T ≤ 5) (hC : C ≤ 5)
    (hok : ∀ a ∈ l, -1 ≤ a.t ∧ a.t < T ∧ -1 ≤ a.c ∧ a.c < C) (hlo : ∀ i, 0 ≤ lo i ∧ lo i ≤ 40) (hhi : ∀ i, 0 ≤ hi i ∧ hi i ≤ 40) :
    Calls Try.prog 92 #[.agg #[.slice A l.length c, .int .i64 T, .int .i64 C], .agg (roomsV lo hi)] w fun e w' => ∃ Wb Mb : Nat, e = .returned (.tuple #[.pointer (some ⟨Wb, 0, none⟩), .int .i64 (dueN (gF l T C lo) 11)]) ∧ w.heap.size ≤ Wb ∧ w.heap.size ≤ Mb ∧ Below w.heap.size w w' ∧ w'.heap[Wb]? = some (.cells #[.slice A l.length c, .int .i64 T, .int .i64 C, .map (some Mb)] 153 (0, 0)) ∧ MapIs w' Mb (LF l T C lo hi) := by
  go_enter Try.func92, Try.ntmps92
  go_wp2_with fail
  have hM0 : BMem w (((((w.alloc (.cells #[.slice A l.length c, .int .i64 T, .int .i64 C] 33)).alloc (.cells (roomsV lo hi) 109)).alloc (.map #[] 0)).alloc (.cells #[.slice A l.length c, .int .i64 T, .int .i64 C, .map (some (w.heap.size + 1 + 1))] 153)).alloc (.cells #[.int .i64 0, .int .i64 0, .int .i64 0, .int .i64 0, .int .i64 0, .int .i64 0, .int .i64 0, .int .i64 0, .int .i64 0, .int .i64 0, .int .i64 0, .int .i64 0, .int .i64 0] 107))
      (w.heap.size + 1) (w.heap.size + 1 + 1) (w.heap.size + 1 + 1 + 1) (w.heap.size + 1 + 1 + 1 + 1) A l.length c T C lo hi (fun _ _ _ => 0) (g1 0) := by
    have e : g1 0 = fun _ => 0 := by funext j; simp [g1]
    refine ⟨?_, by omega, ?_, ?_, ?_, ?_, ?_⟩
    · exact (((((Below.refl _ w).alloc (Nat.le_refl _) _).alloc (by simp <;> omega) _).alloc (by simp <;> omega) _).alloc (by simp <;> omega) _).alloc (by simp <;> omega) _
    · rw [Below.heap_alloc _ _ _ (by simp <;> omega), Below.heap_alloc _ _ _ (by simp <;> omega), Below.heap_alloc _ _ _ (by simp <;> omega), Below.heap_alloc _ _ _ (by simp <;> omega)]
      exact (MapKept.heap_alloc _ _).1
    · rw [Below.heap_alloc _ _ _ (by simp <;> omega), Below.heap_alloc _ _ _ (by simp <;> omega), Below.heap_alloc _ _ _ (by simp <;> omega)]
      have := (MapKept.heap_alloc (w.alloc (.cells #[.slice A l.length c, .int .i64 T, .int .i64 C] 33)) (.cells (roomsV lo hi) 109)).1
      rw [World.size_alloc] at this; exact this
    · have := MapIs.made ((w.alloc (.cells #[.slice A l.length c, .int .i64 T, .int .i64 C] 33)).alloc (.cells (roomsV lo hi) 109))
      rw [World.size_alloc, World.size_alloc] at this
      refine this.same ?_
      rw [Below.heap_alloc _ _ _ (by simp <;> omega), Below.heap_alloc _ _ _ (by simp <;> omega)]
    · rw [Below.heap_alloc _ _ _ (by simp <;> omega)]
      have := (MapKept.heap_alloc (((w.alloc (.cells #[.slice A l.length c, .int .i64 T, .int .i64 C] 33)).alloc (.cells (roomsV lo hi) 109)).alloc (.map #[] 0)) (.cells #[.slice A l.length c, .int .i64 T, .int .i64 C, .map (some (w.heap.size + 1 + 1))] 153)).1
      rw [World.size_alloc, World.size_alloc, World.size_alloc] at this; exact this
    · rw [e, gv_zero]
      have := (MapKept.heap_alloc ((((w.alloc (.cells #[.slice A l.length c, .int .i64 T, .int .i64 C] 33)).alloc (.cells (roomsV lo hi) 109)).alloc (.map #[] 0)).alloc (.cells #[.slice A l.length c, .int .i64 T, .int .i64 C, .map (some (w.heap.size + 1 + 1))] 153)) (.cells #[.int .i64 0, .int .i64 0, .int .i64 0, .int .i64 0, .int .i64 0, .int .i64 0, .int .i64 0, .int .i64 0, .int .i64 0, .int .i64 0, .int .i64 0, .int .i64 0, .int .i64 0] 107)).1
      rw [World.size_alloc, World.size_alloc, World.size_alloc, World.size_alloc] at this; exact this
  generalize (((((w.alloc (.cells #[.slice A l.length c, .int .i64 T, .int .i64 C] 33)).alloc (.cells (roomsV lo hi) 109)).alloc (.map #[] 0)).alloc (.cells #[.slice A l.length c, .int .i64 T, .int .i64 C, .map (some (w.heap.size + 1 + 1))] 153)).alloc (.cells #[.int .i64 0, .int .i64 0, .int .i64 0, .int .i64 0, .int .i64 0, .int .i64 0, .int .i64 0, .int .i64 0, .int .i64 0, .int .i64 0, .int .i64 0, .int .i64 0, .int .i64 0] 107)) = wr0 at *
  generalize w.heap.size + 1 + 1 + 1 + 1 = B4 at *
  generalize w.heap.size + 1 + 1 + 1 = B3 at *
  generalize w.heap.size + 1 + 1 = B2 at *
  generalize w.heap.size + 1 = B1 at *
  go_loopw [21] (fun t wr => ∃ k : Nat, k ≤ T ∧ t = .int .i64 k ∧ BMem w wr B1 B2 B3 B4 A l.length c T C lo hi (fun _ _ _ => 0) (g1 k)) (fun t _ => T - (intOf t).toNat)
  case atStart => exact ⟨0, Nat.zero_le _, rfl, hM0⟩
  case round =>
    clear hM0
    obtain ⟨k, hk, rfl, hM⟩ := hrel
    by_cases hlt : k < T
    · have hc := hM.cell (k := k) (by omega)
      have hf := hM.free k
      have hgb := g1_bnd k k
      have h13 : k < 13 := by omega
      have hM2 := hM.setGive k (g1 k k + 36)
      rw [g1_step] at hM2
      clear hM
      go_wp2_with fail
      go_roundw
      case rel => exact ⟨k + 1, by omega, by go_num, hM2⟩
      case measure => simp [intOf]; omega
    · obtain rfl : T = k := by omega
      have hnet2 := cell_of_block (j := 2) hM.net rfl
      go_wp2_with fail
      go_loopw [32] (fun t wr => ∃ k : Nat, k ≤ C ∧ t = .int .i64 k ∧ BMem w wr B1 B2 B3 B4 A l.length c T C lo hi (fun _ _ _ => 0) (g2 T k)) (fun t _ => C - (intOf t).toNat)
      case atStart => exact ⟨0, Nat.zero_le _, rfl, by have e : g2 T 0 = g1 T := (by funext j; simp only [g2]; rw [if_neg (by omega)]); rw [e]; exact hM⟩
      case round =>
        clear hM
        obtain ⟨k, hk, rfl, hM⟩ := hrel
        by_cases hlt : k < C
        · have hc := hM.cell (k := 5 + k) (by omega)
          have hf := hM.free (5 + k)
          have hgb := g2_bnd T k (5 + k)
          have h13 : k < 13 := by omega
          have hM2 := hM.setGive (5 + k) (g2 T k (5 + k) - 72)
          rw [g2_step] at hM2
          clear hM
          go_wp2_with fail
          go_roundw
          case rel => exact ⟨k + 1, by omega, by go_num, hM2⟩
          case measure => simp [intOf]; omega
        · obtain rfl : C = k := by omega
          have hnet0 := cell_of_block (j := 0) hM.net rfl
          go_wp2_with fail
          go_loopw [45] (fun t wr => ∃ k : Nat, k ≤ l.length ∧ t = .int .i64 k ∧ BMem w wr B1 B2 B3 B4 A l.length c T C lo hi (lA l lo hi k) (gA l lo (g2 T C) k)) (fun t _ => l.length - (intOf t).toNat)
          case atStart => exact ⟨0, Nat.zero_le _, rfl, hM⟩
          case round =>
            clear hM hnet0
            obtain ⟨k, hk, rfl, hM⟩ := hrel
            by_cases hlt : k < l.length
            · obtain ⟨a, ha⟩ : ∃ a, l[k]? = some a := ⟨l[k], by simp [hlt]⟩
              have hA2 := hA.below hM.below
              have hao := hok a (List.mem_of_getElem? ha)
              have hfr : frN a ≤ 10 := by unfold frN nodeZ; split <;> omega
              have hto : toN a ≤ 10 := by unfold toN nodeZ; split <;> omega
              have hlA := lA_step (lo := lo) (hi := hi) ha
              have hgA := gA_step (lo := lo) (base := g2 T C) ha
              have hgb := gA_bnd (l := l) hlo (g2_bnd T C) k
              have hnet0 := cell_of_block (j := 0) hM.net rfl
              have hnet1 := cell_of_block (j := 1) hM.net rfl
              have hnet2 := cell_of_block (j := 2) hM.net rfl
              go_wp2_with (go_at_call 69; refine (arc_any _ _ _ _ _ _ k a hA2 ha (by omega) (by omega) (by omega)).mono ?_; rintro e W2 ⟨rfl, hbW⟩)
              have hM2 := (hM.step hbW).step ((Below.refl _ W2).alloc (Nat.le_refl _) (.cells #[.int .i64 (frN a), .int .i64 (toN a), .int .i64 k] 112))
              have harc := (MapKept.heap_alloc W2 (.cells #[.int .i64 (frN a), .int .i64 (toN a), .int .i64 k] 112)).1
              have hBa : B4 < W2.heap.size := (hM.step hbW).lt
              clear hM hbW hnet0 hnet1 hnet2 hA2 ha hao
              generalize W2.alloc (.cells #[.int .i64 (frN a), .int .i64 (toN a), .int .i64 k] 112) = W3 at *
              generalize W2.heap.size = Ba at *
              have HgA := Lib.hid hgA
              have HlA := Lib.hid hlA
              clear hgA hlA
              have hord := hM2.ord
              generalize gA l lo (g2 T C) k = g at *
              have hgf := hgb (frN a)
              have hgt := hgb (toN a)
              clear hgb
              have hlok := hlo k
              have hhik := hhi k
              generalize frN a = fr at *
              generalize toN a = tt at *
              have ha0 := cell_of_block (j := 0) harc rfl
              have ha1 := cell_of_block (j := 1) harc rfl
              have hr0 := cell_of_block (j := k * 2) hM2.rms (roomsV_lo (by omega))
              have hg0 := hM2.cell (k := fr) (by omega)
              have hf0 := hM2.free fr
              have hk0 : (0 : Int) ≤ k := by omega
              have hk1 : (k : Int) < 12 := by omega
              have hfr0 : (0 : Int) ≤ fr := by omega
              have hfr1 : (fr : Int) < 13 := by omega
              have hto0 : (0 : Int) ≤ tt := by omega
              have hto1 : (tt : Int) < 13 := by omega
              go_region
              have hM3 := (hM2.setGive fr (g fr - lo k)).step ((Below.refl _ _).drew)
              have harc3 := (Below.heap_setCell W3 ⟨B4, fr, none⟩ (.int .i64 (g fr - lo k)) Ba (by simp; omega)).trans harc
              clear hM2 harc ha0 ha1 hr0 hg0 hf0
              have hgt3 : -600 ≤ setAt g fr (g fr - lo k) tt ∧ setAt g fr (g fr - lo k) tt ≤ 600 := by
                simp only [setAt]; split <;> omega
              generalize setAt g fr (g fr - lo k) = g3 at *
              replace harc3 : (W3.setCell ⟨B4, fr, none⟩ (.int .i64 (g fr - lo k))).drew.heap[Ba]? = some (.cells #[.int .i64 fr, .int .i64 tt, .int .i64 k] 112 (0, 0)) := harc3
              generalize (W3.setCell ⟨B4, fr, none⟩ (.int .i64 (g fr - lo k))).drew = W4 at *
              have ha0 := cell_of_block (j := 0) (v := .int .i64 fr) harc3 rfl
              have ha1 := cell_of_block (j := 1) (v := .int .i64 tt) harc3 rfl
              have hr0 := cell_of_block (j := k * 2) hM3.rms (roomsV_lo (by omega))
              have hg0 := hM3.cell (k := tt) (by omega)
              have hf0 := hM3.free tt
              go_wp2_with fail
              go_region
              have hM4 := (hM3.setGive tt (g3 tt + lo k)).step ((Below.refl _ _).drew)
              have harc4 := (Below.heap_setCell W4 ⟨B4, tt, none⟩ (.int .i64 (g3 tt + lo k)) Ba (by simp; omega)).trans harc3
              clear hM3 harc3 ha0 ha1 hr0 hg0 hf0
              replace harc4 : (W4.setCell ⟨B4, tt, none⟩ (.int .i64 (g3 tt + lo k))).drew.heap[Ba]? = some (.cells #[.int .i64 fr, .int .i64 tt, .int .i64 k] 112 (0, 0)) := harc4
              generalize (W4.setCell ⟨B4, tt, none⟩ (.int .i64 (g3 tt + lo k))).drew = W5 at *
              have ha0 := cell_of_block (j := 0) (v := .int .i64 fr) harc4 rfl
              have ha1 := cell_of_block (j := 1) (v := .int .i64 tt) harc4 rfl
              by_cases hft : fr = tt
              · have hne : ((fr : Int) != tt) = false := by simp [hft]
                have HL2 : Hid (lA l lo hi (k + 1) = lA l lo hi k) := Lib.hid (by rw [HlA.out, if_pos hft])
                clear hft
                go_wp2_with fail
                go_roundw
                case rel => exact ⟨k + 1, by omega, by go_num, by rw [HL2.out, HgA.out]; exact hM4⟩
                case measure => simp [intOf]; omega
              · have hne : ((fr : Int) != tt) = true := by simp; omega
                have HL2 := Lib.hid (HlA.out.trans (if_neg hft))
                have ha2 := cell_of_block (j := 2) (v := .int .i64 k) harc4 rfl
                have hr0 := cell_of_block (j := k * 2) hM4.rms (roomsV_lo (by omega))
                have hr1 := cell_of_block (j := k * 2 + 1) hM4.rms (roomsV_hi (by omega))
                have hw3 := cell_of_block (j := 3) (v := .map (some B2)) hM4.work rfl
                have hM5 : BMem w W5.drew B1 B2 B3 B4 A l.length c T C lo hi (lA l lo hi k) (setAt g3 tt (g3 tt + lo k)) := hM4.step ((Below.refl _ _).drew)
                obtain ⟨_, hput, hM6, o6, rfl⟩ := hM5.map.put (u := fr) (v := tt) (i := k) ⟨fits_small (by omega), fits_small (by omega), fits_small (by omega)⟩ (hi k - lo k)
                unfold kv at hput
                clear hft
                go_wp2_with fail
                go_region
                go_wp2_with fail
                go_roundw
                case rel =>
                  refine ⟨k + 1, by omega, by go_num, ?_⟩
                  rw [HL2.out, HgA.out]
                  exact hM5.setMap ((Keep.refl (fun k => k = B2) _).setBlock (.inl rfl) _) hM6
                case measure => simp [intOf]; omega
            · obtain rfl : k = l.length := by omega
              have hg0 := hM.cell (k := 10) (by omega)
              have hf0 := hM.free 10
              go_wp2_with fail
              have hM2 := hM.setGive 10 0
              clear hM hg0 hf0
              have hgb : ∀ j, -600 ≤ gA l lo (g2 T C) l.length j ∧ gA l lo (g2 T C) l.length j ≤ 600 := fun j => by
                have := gA_bnd (l := l) hlo (g2_bnd T C) l.length j
                omega
              have hLb := lA_bnd (l := l) hlo hhi l.length
              generalize hgG : gA l lo (g2 T C) l.length = g at *
              generalize hlL : lA l lo hi l.length = L0 at *
              have hgG := Lib.hid hgG
              have hlL := Lib.hid hlL
              have hnb := n10_bnd hgb
              have hgb2 : ∀ j, -6000 ≤ g j ∧ g j ≤ 6000 := fun j => by have := hgb j; omega
              have hNb := lN_bnd hLb hgb2
              go_loopw [94] (fun t wr => ∃ k : Nat, k ≤ 10 ∧ t = .int .i64 k ∧ BMem w wr B1 B2 B3 B4 A l.length c T C lo hi (lN L0 g k) (setAt g 10 (n10 g k))) (fun t _ => 10 - (intOf t).toNat)
              case atStart => exact ⟨0, Nat.zero_le _, rfl, hM2⟩
              case round =>
                clear hM2
                obtain ⟨k, hk, rfl, hM⟩ := hrel
                by_cases hlt : k < 10
                · have hg0 : wr.cell? ⟨B4, k, none⟩ = some (.int .i64 (g k)) := by
                    have := hM.cell (k := k) (by omega)
                    rw [show setAt g 10 (n10 g k) k = g k by simp only [setAt]; rw [if_neg (by omega)]] at this
                    exact this
                  have hg1 : wr.cell? ⟨B4, 10, none⟩ = some (.int .i64 (n10 g k)) := by
                    have := hM.cell (k := 10) (by omega)
                    rw [show setAt g 10 (n10 g k) 10 = n10 g k by simp [setAt]] at this
                    exact this
                  have hf0 := hM.free 10
                  have hk0 : (0 : Int) ≤ k := by omega
                  have hk1 : (k : Int) < 10 := by omega
                  have hgk := hgb k
                  have hnk := hnb k
                  have hM3 := hM.setGive 10 (n10 g k - g k)
                  rw [setAt_same] at hM3
                  have e1 := hNb k 11 k (-1)
                  have e2 := hNb k k 12 (-1)
                  have HN : Hid (n10 g (k + 1) = n10 g k - g k) := Lib.hid rfl
                  have HL : Hid (lN L0 g (k + 1) = needsL (lN L0 g k) k (g k)) := Lib.hid rfl
                  clear hM hgb hgb2 hnb hNb hLb
                  generalize n10 g k = nk at *
                  generalize g k = gk at *
                  generalize lN L0 g k = Lk at *
                  go_wp2_with (go_at_call 117; refine (needs_any _ _ _ _ _ _ _ _ _ _ _ hM3.work hM3.map (by omega) (by omega) (by omega) (by omega) (by omega)).mono ?_; rintro e W2 ⟨⟨r, rfl⟩, hm2, hk2⟩)
                  go_roundw
                  case rel => exact ⟨k + 1, by omega, by go_num, by rw [HL.out, HN.out]; exact hM3.setMap hk2 hm2⟩
                  case measure => simp [intOf]; omega
                · obtain rfl : k = 10 := by omega
                  have hfin : ∀ j, -6000 ≤ setAt g 10 (n10 g 10) j ∧ setAt g 10 (n10 g 10) j ≤ 6000 := fun j => by
                    have := hgb2 j
                    have := hnb 10
                    simp only [setAt]; split <;> omega
                  have hNb2 := lN_bnd hLb hfin 10
                  have hg1 : wr.cell? ⟨B4, 10, none⟩ = some (.int .i64 (setAt g 10 (n10 g 10) 10)) := hM.cell (k := 10) (by omega)
                  rw [lN_congr (g' := setAt g 10 (n10 g 10)) (fun j hj => by simp only [setAt]; rw [if_neg (by omega)])] at hM
                  have HG := Lib.hid (show gF l T C lo = setAt g 10 (n10 g 10) by unfold gF; rw [hgG.out])
                  have HE := Lib.hid (show LF l T C lo hi = lN L0 (gF l T C lo) 11 by unfold LF; rw [hlL.out])
                  generalize setAt g 10 (n10 g 10) = gX at *
                  have e1 := hNb2 11 10 (-1)
                  have e2 := hNb2 10 12 (-1)
                  have hgk := hfin 10
                  have HL : Hid (lN L0 gX 11 = needsL (lN L0 gX 10) 10 (gX 10)) := Lib.hid rfl
                  clear hNb2 hgb hgb2 hnb hNb hLb
                  generalize lN L0 gX 10 = Lk at *
                  go_wp2_with (go_at_call 117; refine (needs_any _ _ _ _ _ _ _ _ _ _ _ hM.work hM.map (by omega) (by omega) (by omega) (by omega) (by omega)).mono ?_; rintro e W2 ⟨⟨r, rfl⟩, hm2, hk2⟩)
                  have hM2 := hM.setMap hk2 hm2
                  clear hM hm2 hk2
                  rw [← HL.out] at hM2
                  have hdb := dueN_bnd hfin
                  go_loopw [5, 115] (fun sm t wr => ∃ k : Nat, k ≤ 11 ∧ t = .int .i64 k ∧ sm = .int .i64 (dueN gX k) ∧ wr = W2) (fun _ t _ => 11 - (intOf t).toNat)
                  case atStart => exact ⟨0, Nat.zero_le _, rfl, rfl, rfl⟩
                  case round =>
                    obtain ⟨k, hk, rfl, rfl, rfl⟩ := hrel
                    by_cases hlt : k < 11
                    · have hg0 := hM2.cell (k := k) (by omega)
                      have hk0 : (0 : Int) ≤ k := by omega
                      have hk1 : (k : Int) < 11 := by omega
                      have hd := hdb k
                      have hgk := hfin k
                      have HD : Hid (dueN gX (k + 1) = dueN gX k + max 0 (gX k)) := Lib.hid rfl
                      clear hdb hfin
                      generalize dueN gX k = dk at *
                      generalize gX k = gk at *
                      go_wp2_with fail
                      go_roundw
                      case rel => exact ⟨k + 1, by omega, by go_num, by rw [HD.out], trivial⟩
                      case measure => simp [intOf]; omega
                    · obtain rfl : k = 11 := by omega
                      go_wp2_with fail
                      have hord := hM2.ord
                      refine bodyPost_ret (v := .tuple #[.pointer (some ⟨B3, 0, none⟩), .int .i64 (dueN gX 11)]) (by simp [results, Try.results92, go_sem]) rfl ?_
                      refine ⟨B3, B2, ?_, by omega, by omega, hM2.below, hM2.work, ?_⟩
                      · rw [HG.out]
                      · rw [HE.out, HG.out]; exact hM2.map
end Go.Proofs.Ytnhbplnhhloklaa
