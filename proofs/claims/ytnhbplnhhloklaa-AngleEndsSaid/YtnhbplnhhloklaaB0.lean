/- Contracts of node and arc; angles in memory. -/
import Derived.Test.YtnhbplnhhloklaaA5
import Derived.Deep.RegionHeld3
import Derived.Deep.DeepCutAuto
namespace Go.Proofs.Ytnhbplnhhloklaa
open Go.RowKit

structure Ang where
  t : Int
  c : Int
  r : Int
  w : Int

/-- The angles lie in memory. -/
def AngAt (W : World) (A : Option Addr) (l : List Ang) : Prop := ∀ i a, l[i]? = some a → ∃ b o, A = some ⟨b, o, none⟩ ∧ b < W.heap.size ∧ W.cell? ⟨b, o + i * 4, none⟩ = some (.int .i64 a.t) ∧ W.cell? ⟨b, o + i * 4 + 1, none⟩ = some (.int .i64 a.c) ∧
  W.cell? ⟨b, o + i * 4 + 2, none⟩ = some (.int .i64 a.r) ∧ W.cell? ⟨b, o + i * 4 + 3, none⟩ = some (.int .i64 a.w)

theorem AngAt.below {W W' : World} {A : Option Addr} {l : List Ang} (h : AngAt W A l) (hb : Below W.heap.size W W') : AngAt W' A l := by
  intro i a hi
  obtain ⟨b, o, hA, hl, h1, h2, h3, h4⟩ := h i a hi
  exact ⟨b, o, hA, Nat.lt_of_lt_of_le hl hb.size, (hb.cell (p := ⟨b, _, none⟩) hl).trans h1, (hb.cell (p := ⟨b, _, none⟩) hl).trans h2, (hb.cell (p := ⟨b, _, none⟩) hl).trans h3, (hb.cell (p := ⟨b, _, none⟩) hl).trans h4⟩
theorem AngAt.keep {W W' : World} {A : Option Addr} {l : List Ang} {S : Nat → Prop} (h : AngAt W A l) (hb : Keep S W W') (hS : ∀ b o, A = some ⟨b, o, none⟩ → ¬ S b) : AngAt W' A l := by
  intro i a hi
  obtain ⟨b, o, hA, hl, h1, h2, h3, h4⟩ := h i a hi
  have hc : ∀ j, W'.cell? ⟨b, j, none⟩ = W.cell? ⟨b, j, none⟩ := fun j => World.cell?_of_block (w := W) (hb.block b hl (hS b o hA))
  exact ⟨b, o, hA, Nat.lt_of_lt_of_le hl hb.size, (hc _).trans h1, (hc _).trans h2, (hc _).trans h3, (hc _).trans h4⟩

/-- The node of a triangle or a circle. -/
def nodeZ (i base : Int) : Int := if i = -1 then 10 else base + i
def frN (a : Ang) : Nat := (nodeZ a.t 0).toNat
def toN (a : Ang) : Nat := (nodeZ a.c 5).toNat
theorem frN_eq {a : Ang} (h : -1 ≤ a.t) : (frN a : Int) = nodeZ a.t 0 := by unfold frN nodeZ; split <;> omega
theorem toN_eq {a : Ang} (h : -1 ≤ a.c) : (toN a : Int) = nodeZ a.c 5 := by unfold toN nodeZ; split <;> omega

theorem node_any (i b : Int) (w : World) (h0 : -1 ≤ i) (h1 : i ≤ 100) (hb : 0 ≤ b ∧ b ≤ 100) : Calls Try.prog 97 #[.int .i64 i, .int .i64 b] w fun e w' => e = .returned (.int .i64 (nodeZ i b)) ∧ w = w' := by
  by_cases h : i = -1
  · subst h
    go_enter Try.func97, Try.ntmps97
    go_wp2
    go_ret
    exact ⟨rfl, rfl⟩
  · have HP : Hid (nodeZ i b = b + i) := by unfold nodeZ; exact if_neg h
    have h' : (i == -1) = false := by simp [h]
    go_enter Try.func97, Try.ntmps97
    go_wp2
    go_ret
    exact ⟨by rw [HP.out]; rfl, rfl⟩

set_option maxHeartbeats 1000000 in
theorem arc_any (w : World) (A : Option Addr) (l : List Ang) (c : Nat) (T C : Int) (i : Nat) (a : Ang) (hA : AngAt w A l) (hi : l[i]? = some a) (_hl : l.length ≤ 1000) (h1 : -1 ≤ a.t ∧ a.t ≤ 100) (h2 : -1 ≤ a.c ∧ a.c ≤ 100) :
    Calls Try.prog 69 #[.agg #[.slice A l.length c, .int .i64 T, .int .i64 C], .int .i64 i] w fun e w' => e = .returned (.agg #[.int .i64 (frN a), .int .i64 (toN a), .int .i64 i]) ∧ Below w.heap.size w w' := by
  obtain ⟨b, o, rfl, hlb, ha0, ha1, ha2, ha3⟩ := hA i a hi
  have hil : i < l.length := (List.getElem?_eq_some_iff.1 hi).1
  go_enter Try.func69, Try.ntmps69
  go_wp2
  have hw1 : w.heap.size ≠ b := by omega
  go_region_held3 (fun w' => w'.cell? ⟨w.heap.size, 0, none⟩ = some (.slice (some ⟨b, o, none⟩) l.length c) ∧ w'.cell? ⟨b, o + i * 4, none⟩ = some (.int .i64 a.t) ∧ w'.cell? ⟨b, o + i * 4 + 1, none⟩ = some (.int .i64 a.c)) (go_keep)
    (first | (go_at_call 97; refine (node_any _ _ _ (by omega) (by omega) (by omega)).mono ?_; rintro e w' ⟨rfl, rfl⟩))
  go_wp2
  refine bodyPost_ret (v := .agg #[.int .i64 (frN a), .int .i64 (toN a), .int .i64 i]) (by simp [results, Try.results69, go_sem, frN_eq h1.1, toN_eq h2.1]) rfl ⟨rfl, ?_⟩
  exact ((((Below.refl _ w).alloc (Nat.le_refl _) _).alloc (by simp) _).drew)
end Go.Proofs.Ytnhbplnhhloklaa
