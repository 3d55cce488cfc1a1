/- Contract of rooms. -/
import Derived.Test.YtnhbplnhhloklaaB1
import Derived.Deep.RegionHeld3
import Derived.Laws.CopyRow
namespace Go.Proofs.Ytnhbplnhhloklaa
open Go.RowKit
attribute [local go_sem] min2_int min_two max2_int max_two

theorem frozen_alloc_some (w : World) (a : Addr) (o : Obj) (h : (w.cell? a).isSome = true) : (w.alloc o).frozen? a = w.frozen? a := by
  have hlt : a.block < w.heap.size := by
    by_cases h1 : a.block < w.heap.size
    · exact h1
    · have hn : w.heap[a.block]? = none := by simp; omega
      simp [World.cell?, hn] at h
  exact World.frozen?_of_block (w := w) (Below.heap_alloc w o _ hlt)

theorem isSome_alloc (w : World) (a : Addr) (o : Obj) (h : (w.cell? a).isSome = true) : ((w.alloc o).cell? a).isSome = true := by
  rw [World.cell?_alloc_some w a o h]; exact h
theorem isSome_setCell (w : World) (a b : Addr) (v : Value) (h : (w.cell? b).isSome = true) : ((w.setCell a v).cell? b).isSome = true := by
  obtain ⟨u, hu⟩ := Option.isSome_iff_exists.1 h
  by_cases e : a = b
  · subst e; rw [World.cell?_setCell_same _ _ _ hu]; rfl
  · rw [World.cell?_setCell_other _ _ _ _ e, hu]; rfl
/-- What lies in a cell. -/
def held (w : World) (a : Addr) : Value := (w.cell? a).getD (.int .i64 0)
theorem held_iff (w : World) (a : Addr) : w.cell? a = some (held w a) ↔ (w.cell? a).isSome = true := by
  unfold held
  cases w.cell? a <;> simp

/-- What the region of a room needs of the world. -/
def Room (w : World) (x y z : Addr) (v : Value) : Prop := w.cell? x = some v ∧ w.cell? y = some (held w y) ∧ w.cell? z = some (held w z) ∧ w.frozen? y = false ∧ w.frozen? z = false
theorem Room.alloc {w : World} {x y z : Addr} {v : Value} (h : Room w x y z v) (o : Obj) : Room (w.alloc o) x y z v := by
  obtain ⟨h1, h2, h3, h4, h5⟩ := h
  have i2 : (w.cell? y).isSome = true := by rw [h2]; rfl
  have i3 : (w.cell? z).isSome = true := by rw [h3]; rfl
  refine ⟨?_, (held_iff _ _).2 (isSome_alloc _ _ _ i2), (held_iff _ _).2 (isSome_alloc _ _ _ i3), ?_, ?_⟩
  · rw [World.cell?_alloc_some _ _ _ (by rw [h1]; rfl)]; exact h1
  · rw [frozen_alloc_some _ _ _ i2]; exact h4
  · rw [frozen_alloc_some _ _ _ i3]; exact h5
theorem Room.drew {w : World} {x y z : Addr} {v : Value} (h : Room w x y z v) : Room w.drew x y z v := h
theorem Room.setCell {w : World} {x y z : Addr} {v : Value} (h : Room w x y z v) (a : Addr) (u : Value) (hne : a.block ≠ x.block) : Room (w.setCell a u) x y z v := by
  obtain ⟨h1, h2, h3, h4, h5⟩ := h
  have i2 : (w.cell? y).isSome = true := by rw [h2]; rfl
  have i3 : (w.cell? z).isSome = true := by rw [h3]; rfl
  refine ⟨?_, (held_iff _ _).2 (isSome_setCell _ _ _ _ i2), (held_iff _ _).2 (isSome_setCell _ _ _ _ i3), ?_, ?_⟩
  · rw [World.cell?_setCell_far _ _ _ _ hne]; exact h1
  · rw [World.frozen?_setCell]; exact h4
  · rw [World.frozen?_setCell]; exact h5

theorem min2_cells (w : World) (b : Nat) (x y : Int) (c0 : w.cell? ⟨b, 0, none⟩ = some (.int .i64 x)) (c1 : w.cell? ⟨b, 1, none⟩ = some (.int .i64 y)) :
    Calls Try.prog 121 #[.slice (some ⟨b, 0, none⟩) 2 2] w fun e w' => e = .returned (.int .i64 (min x y)) ∧ w = w' := by
  go_enter Try.func121, Try.ntmps121
  go_wp2
  go_loop [3, 4] (fun a i => (i = .int .i64 1 ∧ a = .int .i64 x) ∨ (i = .int .i64 2 ∧ a = .int .i64 (min x y))) (fun _ i => 2 - (intOf i).toNat)
  case atStart => exact .inl ⟨rfl, rfl⟩
  case round =>
    rcases hrel with ⟨rfl, rfl⟩ | ⟨rfl, rfl⟩
    · go_wp2
      go_round
      case rel => exact .inr ⟨rfl, rfl⟩
      case measure => simp [intOf]
    · go_wp2
      go_ret
      exact ⟨rfl, rfl⟩
theorem small2_cells (w : World) (b : Nat) (x y : Int) (c0 : w.cell? ⟨b, 0, none⟩ = some (.int .i64 x)) (c1 : w.cell? ⟨b, 1, none⟩ = some (.int .i64 y)) :
    Calls Try.prog 96 #[.slice (some ⟨b, 0, none⟩) 2 2] w fun e w' => e = .returned (.int .i64 (min x y)) ∧ w = w' := by
  go_enter Try.func96, Try.ntmps96
  go_wp2_with (go_at_call 121; refine (min2_cells _ _ _ _ c0 c1).mono ?_; rintro e w' ⟨rfl, rfl⟩)
  go_ret
  exact ⟨rfl, rfl⟩

theorem small2_drew (W : World) (ty : TypeId) (x y : Int) : Calls Try.prog 96 #[.slice (some ⟨W.heap.size, 0, none⟩) 2 2] ((W.alloc (.cells #[.int .i64 x, .int .i64 y] ty)).drew) fun e w' => e = .returned (.int .i64 (min x y)) ∧ (W.alloc (.cells #[.int .i64 x, .int .i64 y] ty)).drew = w' := by
  refine small2_cells _ _ x y ?_ ?_ <;> simp

theorem und109 : Try.prog.underlying 109 = some (.array 12 58) := by kernel_rfl
theorem size109 : (Try.prog.info? 109).map (·.size) = some 24 := by kernel_rfl
/-- Rooms as the program holds them. -/
def roomsV (lo hi : Nat → Int) : Array Value := ((List.range 24).map (fun k => Value.int .i64 (if k % 2 = 0 then lo (k / 2) else hi (k / 2)))).toArray
theorem roomsV_size (lo hi : Nat → Int) : (roomsV lo hi).size = 24 := by rfl
theorem roomsV_one (lo hi : Nat → Int) : (roomsV lo hi).all (·.oneCell') = true := by
  simp [roomsV, Value.oneCell']

theorem sizeR (lo hi : Nat → Int) : (Try.prog.info? 109).map (·.size) = some (roomsV lo hi).size := by rw [roomsV_size]; exact size109
theorem roomsV_lo {lo hi : Nat → Int} {i : Nat} (h : i < 12) : (roomsV lo hi)[i * 2]? = some (.int .i64 (lo i)) := by
  simp only [roomsV, List.getElem?_toArray, List.getElem?_map]
  rw [List.getElem?_range (by omega)]
  simp
theorem roomsV_hi {lo hi : Nat → Int} {i : Nat} (h : i < 12) : (roomsV lo hi)[i * 2 + 1]? = some (.int .i64 (hi i)) := by
  simp only [roomsV, List.getElem?_toArray, List.getElem?_map]
  rw [List.getElem?_range (by omega)]
  have e1 : (i * 2 + 1) % 2 = 1 := by omega
  have e2 : (i * 2 + 1) / 2 = i := by omega
  simp [e1, e2]
def setAt (f : Nat → Int) (i : Nat) (x : Int) : Nat → Int := fun j => if j = i then x else f j
theorem roomsV_set {lo hi : Nat → Int} {i : Nat} {x y : Int} : ((roomsV lo hi).setIfInBounds (i * 2) (.int .i64 x)).setIfInBounds (i * 2 + 1) (.int .i64 y) = roomsV (setAt lo i x) (setAt hi i y) := by
  apply Array.ext'
  rw [Array.toList_setIfInBounds, Array.toList_setIfInBounds]
  simp only [roomsV]
  apply List.ext_getElem?
  intro j
  by_cases hj : j < 24
  · by_cases e1 : i * 2 + 1 = j
    · subst e1
      rw [List.getElem?_set_self (by simpa using hj)]
      have e1 : (i * 2 + 1) % 2 = 1 := by omega
      have e2 : (i * 2 + 1) / 2 = i := by omega
      simp [hj, e1, e2, setAt]
    · rw [List.getElem?_set_ne e1]
      by_cases e2 : i * 2 = j
      · subst e2
        rw [List.getElem?_set_self (by simpa using hj)]
        simp [hj, setAt]
      · rw [List.getElem?_set_ne e2]
        have e3 : j % 2 = 0 → j / 2 ≠ i := by omega
        have e4 : j % 2 ≠ 0 → j / 2 ≠ i := by omega
        simp only [List.getElem?_map, List.getElem?_range hj, Option.map_some, setAt]
        congr 2
        split
        · rw [if_neg (e3 ‹_›)]
        · rw [if_neg (e4 ‹_›)]
  · rw [List.getElem?_eq_none (by simp; omega), List.getElem?_eq_none (by simp; omega)]

/-- The room of a reading. -/
def rLo (a : Ang) (err : Int) : Int := max 0 (a.r - err * a.w)
def rHi (a : Ang) (err : Int) : Int := min 40 (a.r + err * a.w)
def rmLo (l : List Ang) (err : Int) (out : List Int) (k i : Nat) : Int := if i < k then (match l[i]? with | some a => if (i : Int) ∈ out then 0 else rLo a err | none => 0) else 0
def rmHi (l : List Ang) (err : Int) (out : List Int) (k i : Nat) : Int := if i < k then (match l[i]? with | some a => if (i : Int) ∈ out then 40 else rHi a err | none => 0) else 0

theorem rmLo_step {l : List Ang} {err : Int} {out : List Int} {k : Nat} {a : Ang} (ha : l[k]? = some a) (ho : (k : Int) ∉ out) : setAt (rmLo l err out k) k (max 0 (a.r - err * a.w)) = rmLo l err out (k + 1) := by
  funext j
  simp only [setAt, rmLo]
  by_cases e : j = k
  · subst e; simp [ha, ho, rLo]
  · have e1 : (j < k + 1) = (j < k) := by apply propext; omega
    simp only [e, if_false, e1]
theorem rmHi_step {l : List Ang} {err : Int} {out : List Int} {k : Nat} {a : Ang} (ha : l[k]? = some a) (ho : (k : Int) ∉ out) : setAt (rmHi l err out k) k (min 40 (a.r + err * a.w)) = rmHi l err out (k + 1) := by
  funext j
  simp only [setAt, rmHi]
  by_cases e : j = k
  · subst e; simp [ha, ho, rHi]
  · have e1 : (j < k + 1) = (j < k) := by apply propext; omega
    simp only [e, if_false, e1]
theorem rmLo_out {l : List Ang} {err : Int} {out : List Int} {k : Nat} {a : Ang} {x : Int} (ha : l[k]? = some a) (ho : (k : Int) ∈ out) : setAt (setAt (rmLo l err out k) k x) k 0 = rmLo l err out (k + 1) := by
  funext j
  simp only [setAt, rmLo]
  by_cases e : j = k
  · subst e; simp [ha, ho]
  · have e1 : (j < k + 1) = (j < k) := by apply propext; omega
    simp only [e, if_false, e1]
theorem rmHi_out {l : List Ang} {err : Int} {out : List Int} {k : Nat} {a : Ang} {x : Int} (ha : l[k]? = some a) (ho : (k : Int) ∈ out) : setAt (setAt (rmHi l err out k) k x) k 40 = rmHi l err out (k + 1) := by
  funext j
  simp only [setAt, rmHi]
  by_cases e : j = k
  · subst e; simp [ha, ho]
  · have e1 : (j < k + 1) = (j < k) := by apply propext; omega
    simp only [e, if_false, e1]

def ReadOk (a : Ang) : Prop := 0 ≤ a.r ∧ a.r ≤ 40 ∧ 1 ≤ a.w ∧ a.w ≤ 3

set_option maxHeartbeats 4000000 in
set_option maxRecDepth 100000 in
theorem rooms_any (w : World) (A B : Option Addr) (l : List Ang) (out : List Int) (c d : Nat) (T C err : Int) (hA : AngAt w A l) (hB : IntsAt w B out) (hl : l.length ≤ 12) (ho : out.length ≤ 100) (he : 0 ≤ err ∧ err ≤ 40) (hr : ∀ a ∈ l, ReadOk a) :
    Calls Try.prog 67 #[.agg #[.slice A l.length c, .int .i64 T, .int .i64 C], .int .i64 err, .slice B out.length d] w fun e w' =>
      e = .returned (.agg (roomsV (rmLo l err out l.length) (rmHi l err out l.length))) ∧ Below w.heap.size w w' := by
  go_enter Try.func67, Try.ntmps67
  go_wp2
  go_loopw [13] (fun t wr => ∃ k : Nat, k ≤ l.length ∧ t = .int .i64 k ∧ Below w.heap.size w wr ∧ wr.heap[w.heap.size + 1]? = some (.cells (roomsV (rmLo l err out k) (rmHi l err out k)) 109 (0, 0)))
    (fun t _ => l.length - (intOf t).toNat)
  case atStart =>
    refine ⟨0, Nat.zero_le _, rfl, (((Below.refl _ w).alloc (Nat.le_refl _) _).alloc (by simp) _), ?_⟩
    have := (MapKept.heap_alloc (w.alloc (.cells #[.slice A l.length c, .int .i64 T, .int .i64 C] 33)) (.cells (roomsV (rmLo l err out 0) (rmHi l err out 0)) 109)).1
    rw [World.size_alloc] at this
    exact this
  case round =>
    obtain ⟨k, hk, rfl, hbel, hrb⟩ := hrel
    by_cases hlt : k < l.length
    · obtain ⟨a, ha⟩ : ∃ a, l[k]? = some a := ⟨l[k], by simp [hlt]⟩
      obtain ⟨b, o, rfl, hb, ha0, ha1, ha2, ha3⟩ := hA k a ha
      replace ha0 := (hbel.cell (p := ⟨b, _, none⟩) hb).trans ha0
      replace ha1 := (hbel.cell (p := ⟨b, _, none⟩) hb).trans ha1
      replace ha2 := (hbel.cell (p := ⟨b, _, none⟩) hb).trans ha2
      replace ha3 := (hbel.cell (p := ⟨b, _, none⟩) hb).trans ha3
      have hbw : b < wr.heap.size := Nat.lt_of_lt_of_le hb hbel.size
      have hra := hr a (List.mem_of_getElem? ha)
      have hw0 : 0 ≤ err * a.w := Int.mul_nonneg he.1 (by have := hra.2.2.1; omega)
      have hw1 : err * a.w ≤ 120 := by
        have h1 : err * a.w ≤ 40 * a.w := Int.mul_le_mul_of_nonneg_right he.2 (by have := hra.2.2.1; omega)
        have := hra.2.2.2; omega
      have hr0 := hra.1
      have hr1 := hra.2.1
      clear hra
      have lrb := (Array.getElem?_eq_some_iff.1 hrb).1
      have lbx : w.heap.size < wr.heap.size := by omega
      go_wp2
      have hrb1 : (wr.alloc (.cells #[.int .i64 a.t, .int .i64 a.c, .int .i64 a.r, .int .i64 a.w] 104)).heap[w.heap.size + 1]? = some (.cells (roomsV (rmLo l err out k) (rmHi l err out k)) 109 (0, 0)) := (Below.heap_alloc _ _ _ lrb).trans hrb
      have hab : (wr.alloc (.cells #[.int .i64 a.t, .int .i64 a.c, .int .i64 a.r, .int .i64 a.w] 104)).heap[wr.heap.size]? = some (.cells #[.int .i64 a.t, .int .i64 a.c, .int .i64 a.r, .int .i64 a.w] 104 (0, 0)) := (MapKept.heap_alloc _ _).1
      have hbel1 : Below w.heap.size w (wr.alloc (.cells #[.int .i64 a.t, .int .i64 a.c, .int .i64 a.r, .int .i64 a.w] 104)) := hbel.alloc hbel.size _
      have hsz1 : wr.heap.size < (wr.alloc (.cells #[.int .i64 a.t, .int .i64 a.c, .int .i64 a.r, .int .i64 a.w] 104)).heap.size := by simp
      have hsz2 : w.heap.size + 1 < (wr.alloc (.cells #[.int .i64 a.t, .int .i64 a.c, .int .i64 a.r, .int .i64 a.w] 104)).heap.size := by simp; omega
      clear ha0 ha1 ha2 ha3
      generalize (wr.alloc (.cells #[.int .i64 a.t, .int .i64 a.c, .int .i64 a.r, .int .i64 a.w] 104)) = W1 at *
      have har := cell_of_block (j := 2) hab rfl
      have hcl := cell_of_block (j := k * 2) hrb1 (roomsV_lo (by omega))
      have hch := cell_of_block (j := k * 2 + 1) hrb1 (roomsV_hi (by omega))
      have hfl := free_of_block (j := k * 2) hrb1
      have hfh := free_of_block (j := k * 2 + 1) hrb1
      have hwr1 : IntKind.i64.wrap (a.r + err * a.w) = a.r + err * a.w := IntWalk.i64_in _ (by omega)
      have hwr2 : IntKind.i64.wrap (a.r - err * a.w) = a.r - err * a.w := IntWalk.i64_in _ (by omega)
      have hne : ¬ (w.heap.size + 1 = wr.heap.size) := by omega
      have his : W1.cell? ⟨w.heap.size + 1, k * 2, none⟩ = some (held W1 ⟨w.heap.size + 1, k * 2, none⟩) := (held_iff _ _).2 (by rw [hcl]; rfl)
      have his' : W1.cell? ⟨w.heap.size + 1, k * 2 + 1, none⟩ = some (held W1 ⟨w.heap.size + 1, k * 2 + 1, none⟩) := (held_iff _ _).2 (by rw [hch]; rfl)
      have hk2 : (k : Int) < 12 := by omega
      have hk0 : (0 : Int) ≤ k := by omega
      clear hcl hch
      go_region_held3 (fun w' => w'.cell? ⟨wr.heap.size, 2, none⟩ = some (.int .i64 a.r) ∧ w'.cell? ⟨w.heap.size + 1, k * 2, none⟩ = some (held w' ⟨w.heap.size + 1, k * 2, none⟩) ∧ w'.cell? ⟨w.heap.size + 1, k * 2 + 1, none⟩ = some (held w' ⟨w.heap.size + 1, k * 2 + 1, none⟩) ∧ w'.frozen? ⟨w.heap.size + 1, k * 2, none⟩ = false ∧ w'.frozen? ⟨w.heap.size + 1, k * 2 + 1, none⟩ = false) ((change Room _ _ _ _ _; repeat (first | exact ⟨by assumption, by assumption, by assumption, by assumption, by assumption⟩ | refine Room.drew ?_ | refine Room.alloc ?_ _ | refine Room.setCell ?_ _ _ hne)))
        (first | (go_at_call 96; refine (small2_drew _ _ _ _).mono ?_; rintro e w' ⟨rfl, rfl⟩))
      all_goals
        have hrb2 : ((((W1.setCell ⟨w.heap.size + 1, k * 2, none⟩ (.int .i64 (max 0 (a.r - err * a.w)))).setCell ⟨w.heap.size + 1, k * 2 + 1, none⟩ (.int .i64 (min 40 (a.r + err * a.w)))).alloc (.cells #[.int .i64 40, .int .i64 (a.r + err * a.w)] 3)).drew).heap[w.heap.size + 1]? = some (.cells (roomsV (setAt (rmLo l err out k) k (max 0 (a.r - err * a.w))) (setAt (rmHi l err out k) k (min 40 (a.r + err * a.w)))) 109 (0, 0)) := by
          rw [← roomsV_set]
          exact (Below.heap_alloc _ _ _ (by simpa using hsz2)).trans (heap_setCell_self (heap_setCell_self hrb1 _) _)
        have hbel2 : Below w.heap.size w (((W1.setCell ⟨w.heap.size + 1, k * 2, none⟩ (.int .i64 (max 0 (a.r - err * a.w)))).setCell ⟨w.heap.size + 1, k * 2 + 1, none⟩ (.int .i64 (min 40 (a.r + err * a.w)))).alloc (.cells #[.int .i64 40, .int .i64 (a.r + err * a.w)] 3)).drew :=
          (((hbel1.setCell (Nat.le_succ _) _).setCell (Nat.le_succ _) _).alloc (by simp; omega) _).drew
        generalize (((W1.setCell ⟨w.heap.size + 1, k * 2, none⟩ (.int .i64 (max 0 (a.r - err * a.w)))).setCell ⟨w.heap.size + 1, k * 2 + 1, none⟩ (.int .i64 (min 40 (a.r + err * a.w)))).alloc (.cells #[.int .i64 40, .int .i64 (a.r + err * a.w)] 3)).drew = W2 at *
        clear hrb1 hbel1 har hfl hfh his his'
        have hB2 := hB.below hbel2
        by_cases hin : (k : Int) ∈ out
        · have hd : decide ((k : Int) ∈ out) = true := by simpa using hin
          have hsz3 : w.heap.size + 1 < W2.heap.size := (Array.getElem?_eq_some_iff.1 hrb2).1
          have HL := Lib.hid (rmLo_out (err := err) (x := max 0 (a.r - err * a.w)) ha hin)
          have HH := Lib.hid (rmHi_out (err := err) (x := min 40 (a.r + err * a.w)) ha hin)
          clear hin ha
          go_wp2_with (first | (go_at_call 71; refine (contains_any _ _ _ _ _ hB2 (by omega)).mono ?_; rintro e w' ⟨rfl, rfl⟩) | (go_at_call 81; refine (everything_any _).mono ?_; rintro e W3 ⟨rfl, hbe⟩; have hrb3 := (hbe.block _ hsz3).trans hrb2; have hcl3 := cell_of_block (j := k * 2) hrb3 (roomsV_lo (by omega)); have hch3 := cell_of_block (j := k * 2 + 1) hrb3 (roomsV_hi (by omega)); have hfl3 := free_of_block (j := k * 2) hrb3; have hfh3 := free_of_block (j := k * 2 + 1) hrb3))
          go_round
          case rel =>
            refine ⟨k + 1, by omega, by go_num, ((hbel2.trans (hbe.mono (by omega))).setCell (Nat.le_succ _) _).setCell (Nat.le_succ _) _, ?_⟩
            rw [← HL.out, ← HH.out, ← roomsV_set]
            exact heap_setCell_self (heap_setCell_self hrb3 _) _
          case measure => simp [intOf]; omega
        · have hd : decide ((k : Int) ∈ out) = false := by simpa using hin
          rw [rmLo_step ha hin, rmHi_step ha hin] at hrb2
          clear hin ha
          have HR := Lib.hid hrb2
          have HB := Lib.hid hbel2
          clear hrb2 hbel2
          go_wp2_with (go_at_call 71; refine (contains_any _ _ _ _ _ hB2 (by omega)).mono ?_; rintro e w' ⟨rfl, rfl⟩)
          go_round
          case rel => exact ⟨k + 1, by omega, by go_num, HB.out, HR.out⟩
          case measure => simp [intOf]; omega
    · obtain rfl : k = l.length := by omega
      go_wp2_with (first | ((with_reducible refine wpList_load_row ?_ 109 (.tmp 6) ?_ (w.heap.size + 1) ?_ 109 (roomsV (rmLo l err out l.length) (rmHi l err out l.length)) (0, 0) (.array 12 58) hrb und109 ?_ (sizeR _ _) ?_); (· rfl); (· rfl); (· rfl); (· rfl)) | ((with_reducible refine wpList_store_row ?_ 109 (.tmp 6) (.tmp 43) ?_ (w.heap.size + 1) (roomsV (rmLo l err out l.length) (rmHi l err out l.length)) ?_ ?_ 109 (roomsV (rmLo l err out l.length) (rmHi l err out l.length)) hrb (sizeR _ _) ?_ (roomsV_one _ _) ?_); (· rfl); (· rfl); (· rfl); (· rfl); (· rfl); rw [setRow_self _ _ _ _ _ hrb]))
      refine bodyPost_ret (v := .agg (roomsV (rmLo l err out l.length) (rmHi l err out l.length))) ?_ ?_ ?_
      · exact results_cell_row rfl _ _ _ _ _ _ _ rfl hrb und109 rfl (sizeR _ _)
      · rfl
      · exact ⟨rfl, hbel⟩
end Go.Proofs.Ytnhbplnhhloklaa
