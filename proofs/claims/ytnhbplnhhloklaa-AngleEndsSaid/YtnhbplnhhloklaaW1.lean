/- Contracts of the law's readAs and freed. -/
import Derived.Test.YtnhbplnhhloklaaK3
namespace Go.Proofs.Ytnhbplnhhloklaa
open Go.RowKit

/-- A net in its own box, with a row of its own, and the result's cell. -/
structure BoxMem (w wr : World) (T C : Int) (g cap : Nat) (l : List Ang) : Prop where
  below : Below w.heap.size w wr
  box : wr.heap[w.heap.size]? = some (.cells #[.slice (some ⟨g, 0, none⟩) l.length cap, .int .i64 T, .int .i64 C] 24 (0, 0))
  res : wr.heap[w.heap.size + 1]? = some (.cells #[.slice none 0 0, .int .i64 0, .int .i64 0] 24 (0, 0))
  gt : w.heap.size + 1 < g
  row : AngAt wr (some ⟨g, 0, none⟩) l
  blk : ∃ cur, wr.heap[g]? = some (.cells cur 74 (0, 0))
section
variable {w wr w' : World} {T C : Int} {g cap : Nat} {l : List Ang}
theorem BoxMem.step (h : BoxMem w wr T C g cap l) (hb : Below wr.heap.size wr w') : BoxMem w w' T C g cap l := by
  obtain ⟨cur, hc⟩ := h.blk
  exact ⟨h.below.trans (hb.mono h.below.size), (hb.block _ (Array.getElem?_eq_some_iff.1 h.box).1).trans h.box, (hb.block _ (Array.getElem?_eq_some_iff.1 h.res).1).trans h.res, h.gt, h.row.below hb, cur, (hb.block _ (Array.getElem?_eq_some_iff.1 hc).1).trans hc⟩
theorem BoxMem.put (h : BoxMem w wr T C g cap l) {i j : Nat} {a : Ang} (x : Int) (hi : l[i]? = some a) (hj : j < 4) : BoxMem w (wr.setCell ⟨g, i * 4 + j, none⟩ (.int .i64 x)) T C g cap (l.set i (a.put j x)) := by
  obtain ⟨cur, hc⟩ := h.blk
  have hg := h.gt
  have e : ∀ b, b ≠ g → (wr.setCell ⟨g, i * 4 + j, none⟩ (.int .i64 x)).heap[b]? = wr.heap[b]? := fun b hb => Below.heap_setCell _ _ _ _ hb
  have hr := h.row.put (x := x) hi hj
  rw [Nat.zero_add] at hr
  refine ⟨h.below.setCell (by show w.heap.size ≤ g; omega) _, ?_, (e _ (by omega)).trans h.res, hg, hr, _, heap_setCell_self hc _⟩
  rw [List.length_set]
  exact (e _ (by omega)).trans h.box
theorem BoxMem.ang (h : BoxMem w wr T C g cap l) {i : Nat} {a : Ang} (hi : l[i]? = some a) : wr.cell? ⟨g, i * 4, none⟩ = some (.int .i64 a.t) ∧ wr.cell? ⟨g, i * 4 + 1, none⟩ = some (.int .i64 a.c) ∧ wr.cell? ⟨g, i * 4 + 2, none⟩ = some (.int .i64 a.r) ∧ wr.cell? ⟨g, i * 4 + 3, none⟩ = some (.int .i64 a.w) := by
  obtain ⟨b, o, e, _, h0, h1, h2, h3⟩ := h.row i a hi
  cases e
  rw [Nat.zero_add] at h0 h1 h2 h3
  exact ⟨h0, h1, h2, h3⟩
theorem BoxMem.free (h : BoxMem w wr T C g cap l) (k : Nat) : wr.frozen? ⟨g, k, none⟩ = false := by
  obtain ⟨cur, hc⟩ := h.blk
  exact free_of_block hc
theorem BoxMem.cells (h : BoxMem w wr T C g cap l) : wr.cell? ⟨w.heap.size, 0, none⟩ = some (.slice (some ⟨g, 0, none⟩) l.length cap) ∧ wr.cell? ⟨w.heap.size, 1, none⟩ = some (.int .i64 T) ∧ wr.cell? ⟨w.heap.size, 2, none⟩ = some (.int .i64 C) :=
  ⟨cell_of_block (j := 0) h.box rfl, cell_of_block (j := 1) h.box rfl, cell_of_block (j := 2) h.box rfl⟩
theorem BoxMem.made {A : Option Addr} {n c : Nat} {w1 : World} (how : w1.ownsRow (w.heap.size + 1 + 1) 74 4 (.slice (some ⟨g, 0, none⟩) l.length cap) l.length (angL l)) (hb : Below (w.heap.size + 1 + 1) (((w.alloc (.cells #[.slice A n c, .int .i64 T, .int .i64 C] 24)).alloc (.cells #[.slice none 0 0, .int .i64 0, .int .i64 0] 24)).alloc (.cells #[] 74)) w1) :
    BoxMem w (w1.setCell ⟨w.heap.size, 0, none⟩ (.slice (some ⟨g, 0, none⟩) l.length cap)) T C g cap l := by
  obtain ⟨cur, hg, hgb⟩ := own_block how
  obtain ⟨_, B, d, he, hrow, hrb⟩ := own_ang how
  cases he
  have h0 : w1.heap[w.heap.size]? = some (.cells #[.slice A n c, .int .i64 T, .int .i64 C] 24 (0, 0)) := (hb.block _ (by omega)).trans (past_alloc (past_alloc (at_alloc rfl)))
  have h1 : w1.heap[w.heap.size + 1]? = some (.cells #[.slice none 0 0, .int .i64 0, .int .i64 0] 24 (0, 0)) := (hb.block _ (by omega)).trans (past_alloc (at_alloc (by simp)))
  have hal : Below w.heap.size w (((w.alloc (.cells #[.slice A n c, .int .i64 T, .int .i64 C] 24)).alloc (.cells #[.slice none 0 0, .int .i64 0, .int .i64 0] 24)).alloc (.cells #[] 74)) := (((Below.refl _ w).alloc (Nat.le_refl _) _).alloc (by simp) _).alloc (by simp; omega) _
  have h2 : Below w.heap.size w w1 := hal.trans (hb.mono (by omega))
  have hk : Keep (fun q => q = w.heap.size) w1 (w1.setCell ⟨w.heap.size, 0, none⟩ (.slice (some ⟨g, 0, none⟩) l.length cap)) := (Keep.refl (fun q => q = w.heap.size) w1).setCell (p := ⟨w.heap.size, 0, none⟩) (.inl rfl) _
  refine ⟨h2.setCell (p := ⟨w.heap.size, 0, none⟩) (Nat.le_refl _) _, ?_, ?_, by omega, hrow.keep hk (fun b o e => by cases e; omega), cur, ?_⟩
  · rw [heap_setCell_self h0]
    rfl
  · rw [Below.heap_setCell _ _ _ _ (by show w.heap.size + 1 ≠ w.heap.size; omega)]; exact h1
  · rw [Below.heap_setCell _ _ _ _ (by show g ≠ w.heap.size; omega)]; exact hg
end

/-- What a copied net in its box and a change of it give to the walk. -/
theorem BoxMem.facts {w W : World} {T C : Int} {g cap : Nat} {l : List Ang} {i j : Nat} {a : Ang} {x : Int} (h : BoxMem w W T C g cap l) (hi : l[i]? = some a) (hj : j < 4) :
    let W' := W.setCell ⟨g, i * 4 + j, none⟩ (.int .i64 x)
    W'.cell? ⟨w.heap.size, 0, none⟩ = some (.slice (some ⟨g, 0, none⟩) l.length cap) ∧ W'.cell? ⟨w.heap.size, 1, none⟩ = some (.int .i64 T) ∧ W'.cell? ⟨w.heap.size, 2, none⟩ = some (.int .i64 C) ∧ W'.cell? ⟨w.heap.size + 1, 0, none⟩ = some (.slice none 0 0) ∧ W'.cell? ⟨w.heap.size + 1, 1, none⟩ = some (.int .i64 0) ∧ W'.cell? ⟨w.heap.size + 1, 2, none⟩ = some (.int .i64 0) ∧ W'.frozen? ⟨w.heap.size + 1, 0, none⟩ = false ∧ W'.frozen? ⟨w.heap.size + 1, 1, none⟩ = false ∧ W'.frozen? ⟨w.heap.size + 1, 2, none⟩ = false := by
  have h1 := h.put x hi hj
  have hc := h1.cells
  rw [List.length_set] at hc
  exact ⟨hc.1, hc.2.1, hc.2.2, cell_of_block (j := 0) h1.res rfl, cell_of_block (j := 1) h1.res rfl, cell_of_block (j := 2) h1.res rfl, free_of_block h1.res, free_of_block h1.res, free_of_block h1.res⟩

set_option maxHeartbeats 4000000 in
set_option maxRecDepth 100000 in
theorem readAs_any (w : World) (A : Option Addr) (l : List Ang) (c : Nat) (T C : Int) (i : Nat) (x : Int) (a : Ang) (hA : AngAt w A l) (hl : l.length ≤ 1000) (hi : l[i]? = some a) :
    Calls Try.prog 59 #[.agg #[.slice A l.length c, .int .i64 T, .int .i64 C], .int .i64 i, .int .i64 x] w (NetOut w (l.set i (a.put 2 x)) T C) := by
  have hil := (List.getElem?_eq_some_iff.1 hi).1
  have hl0 : 0 < l.length := by omega
  obtain ⟨b0, o0, rfl, _⟩ := hA i a hi
  have hal : Below w.heap.size w (((w.alloc (.cells #[.slice (some ⟨b0, o0, none⟩) l.length c, .int .i64 T, .int .i64 C] 24)).alloc (.cells #[.slice none 0 0, .int .i64 0, .int .i64 0] 24)).alloc (.cells #[] 74)) := (((Below.refl _ w).alloc (Nat.le_refl _) _).alloc (by simp) _).alloc (by simp; omega) _
  have hnw := ang_cells (hA.below hal)
  have how0 := World.ownsRow_made (base := w.heap.size + 1 + 1) (e := 74) (size := 4) ((w.alloc (.cells #[.slice (some ⟨b0, o0, none⟩) l.length c, .int .i64 T, .int .i64 C] 24)).alloc (.cells #[.slice none 0 0, .int .i64 0, .int .i64 0] 24)) #[] 0 (by simp) (by decide) (by simp)
  have how : (((w.alloc (.cells #[.slice (some ⟨b0, o0, none⟩) l.length c, .int .i64 T, .int .i64 C] 24)).alloc (.cells #[.slice none 0 0, .int .i64 0, .int .i64 0] 24)).alloc (.cells #[] 74)).ownsRow (w.heap.size + 1 + 1) 74 4 (.slice (some ⟨w.heap.size + 1 + 1, 0, none⟩) 0 0) 0 [] := by simpa using how0
  have hcp : (((w.alloc (.cells #[.slice (some ⟨b0, o0, none⟩) l.length c, .int .i64 T, .int .i64 C] 24)).alloc (.cells #[.slice none 0 0, .int .i64 0, .int .i64 0] 24)).alloc (.cells #[] 74)).heap[w.heap.size]? = some (.cells #[.slice (some ⟨b0, o0, none⟩) l.length c, .int .i64 T, .int .i64 C] 24 (0, 0)) := past_alloc (past_alloc (at_alloc rfl))
  have hszA : w.heap.size + 1 + 1 ≤ (((w.alloc (.cells #[.slice (some ⟨b0, o0, none⟩) l.length c, .int .i64 T, .int .i64 C] 24)).alloc (.cells #[.slice none 0 0, .int .i64 0, .int .i64 0] 24)).alloc (.cells #[] 74)).heap.size := by simp
  have HO := Lib.hid how
  have HW := Lib.hid hnw
  have HC := Lib.hid hcp
  have hi0 : (0 : Int) ≤ i := by omega
  have hi1 : (i : Int) < l.length := by omega
  clear how how0 hnw hcp hal
  go_enter Try.func59, Try.ntmps59
  go_wp2_with (at_builtin; refine wpList_pushN elem22 (((w.alloc (.cells #[.slice (some ⟨b0, o0, none⟩) l.length c, .int .i64 T, .int .i64 C] 24)).alloc (.cells #[.slice none 0 0, .int .i64 0, .int .i64 0] 24)).alloc (.cells #[] 74)) (by rfl) (.tmp 7) (.tmp 9) (by rfl) (w.heap.size + 1 + 1) _ 0 [] (by rfl) HO.out ⟨b0, o0, none⟩ l.length c l.length (angL l) (by rfl) HW.out (angL_len _) (angL_one _) hl0 (Nat.zero_add _) (by omega) hszA ?_; intro g cap w1 how1 hbe1; have cq := cell_of_block (j := 0) ((hbe1.block w.heap.size (by omega)).trans HC.out) rfl; have fq := free_of_block (j := 0) ((hbe1.block w.heap.size (by omega)).trans HC.out); have hB0 := BoxMem.made (T := T) (C := C) (by simpa using how1) hbe1; have HB0 := Lib.hid hB0; obtain ⟨m0, m1, m2, r0, r1, r2, f0, f1, f2⟩ := hB0.facts (x := x) hi (show 2 < 4 by omega); obtain ⟨k0, k1, k2⟩ := hB0.cells; obtain ⟨q0, q1, q2, q3⟩ := hB0.ang hi; have fz := hB0.free (i * 4 + 2); clear hB0 how1 hbe1)
  have hB1 := HB0.out.put (j := 2) x hi (by omega)
  generalize (w1.setCell ⟨w.heap.size, 0, none⟩ (.slice (some ⟨g, 0, none⟩) l.length cap)).setCell ⟨g, i * 4 + 2, none⟩ (.int .i64 x) = W1 at *
  refine bodyPost_ret (v := .agg #[.slice (some ⟨g, 0, none⟩) l.length cap, .int .i64 T, .int .i64 C]) (by simp [results, Try.results59, go_sem, r0, r1, r2]) rfl ?_
  have hk3 : Keep (fun q => q = w.heap.size + 1) W1 ((((W1.setCell ⟨w.heap.size + 1, 0, none⟩ (.slice (some ⟨g, 0, none⟩) l.length cap)).setCell ⟨w.heap.size + 1, 1, none⟩ (.int .i64 T)).setCell ⟨w.heap.size + 1, 2, none⟩ (.int .i64 C))) :=
    (((Keep.refl (fun q => q = w.heap.size + 1) W1).setCell (p := ⟨w.heap.size + 1, 0, none⟩) (.inl rfl) _).setCell (p := ⟨w.heap.size + 1, 1, none⟩) (.inl rfl) _).setCell (p := ⟨w.heap.size + 1, 2, none⟩) (.inl rfl) _
  have hg := hB1.gt
  obtain ⟨cur, hcur⟩ := hB1.blk
  have hgl := (Array.getElem?_eq_some_iff.1 hcur).1
  refine ⟨((hB1.below.setCell (by show w.heap.size ≤ w.heap.size + 1; omega) _).setCell (by show w.heap.size ≤ w.heap.size + 1; omega) _).setCell (by show w.heap.size ≤ w.heap.size + 1; omega) _, some ⟨g, 0, none⟩, cap, by rw [List.length_set], hB1.row.keep hk3 (fun b o e => by cases e; omega), fun b o e => ?_⟩
  cases e
  have := hk3.size
  omega
/-- An angle freed. -/
def freeA (a : Ang) : Ang := (a.put 2 20).put 3 3
/-- The angles freed so far. -/
def FreedTo (b k i : Nat) (a a' : Ang) : Prop := if i < k ∧ b.testBit i = true then a' = freeA a else a' = a

set_option maxHeartbeats 8000000 in
set_option maxRecDepth 100000 in
theorem freed_any (w : World) (A : Option Addr) (l : List Ang) (c : Nat) (T C : Int) (b : Nat) (hA : AngAt w A l) (hl : 0 < l.length ∧ l.length ≤ 12) (_hb : b < 65536) :
    Calls Try.prog 61 #[.agg #[.slice A l.length c, .int .i64 T, .int .i64 C], .int .i64 b] w fun e w' => ∃ l', Turn l l' (FreedTo b l.length) ∧ NetOut w l' T C e w' := by
  have hl0 := hl.1
  obtain ⟨a0, ha0⟩ : ∃ x, l[0]? = some x := ⟨l[0], by simp [hl0]⟩
  obtain ⟨b0, o0, rfl, _⟩ := hA 0 a0 ha0
  clear ha0
  have hal : Below w.heap.size w (((w.alloc (.cells #[.slice (some ⟨b0, o0, none⟩) l.length c, .int .i64 T, .int .i64 C] 24)).alloc (.cells #[.slice none 0 0, .int .i64 0, .int .i64 0] 24)).alloc (.cells #[] 74)) := (((Below.refl _ w).alloc (Nat.le_refl _) _).alloc (by simp) _).alloc (by simp; omega) _
  have hnw := ang_cells (hA.below hal)
  have how0 := World.ownsRow_made (base := w.heap.size + 1 + 1) (e := 74) (size := 4) ((w.alloc (.cells #[.slice (some ⟨b0, o0, none⟩) l.length c, .int .i64 T, .int .i64 C] 24)).alloc (.cells #[.slice none 0 0, .int .i64 0, .int .i64 0] 24)) #[] 0 (by simp) (by decide) (by simp)
  have how : (((w.alloc (.cells #[.slice (some ⟨b0, o0, none⟩) l.length c, .int .i64 T, .int .i64 C] 24)).alloc (.cells #[.slice none 0 0, .int .i64 0, .int .i64 0] 24)).alloc (.cells #[] 74)).ownsRow (w.heap.size + 1 + 1) 74 4 (.slice (some ⟨w.heap.size + 1 + 1, 0, none⟩) 0 0) 0 [] := by simpa using how0
  have hcp : (((w.alloc (.cells #[.slice (some ⟨b0, o0, none⟩) l.length c, .int .i64 T, .int .i64 C] 24)).alloc (.cells #[.slice none 0 0, .int .i64 0, .int .i64 0] 24)).alloc (.cells #[] 74)).heap[w.heap.size]? = some (.cells #[.slice (some ⟨b0, o0, none⟩) l.length c, .int .i64 T, .int .i64 C] 24 (0, 0)) := past_alloc (past_alloc (at_alloc rfl))
  have hszA : w.heap.size + 1 + 1 ≤ (((w.alloc (.cells #[.slice (some ⟨b0, o0, none⟩) l.length c, .int .i64 T, .int .i64 C] 24)).alloc (.cells #[.slice none 0 0, .int .i64 0, .int .i64 0] 24)).alloc (.cells #[] 74)).heap.size := by simp
  have HO := Lib.hid how
  have HW := Lib.hid hnw
  have HC := Lib.hid hcp
  clear how how0 hnw hcp hal
  go_enter Try.func61, Try.ntmps61
  go_wp2_with (at_builtin; refine wpList_pushN elem22 (((w.alloc (.cells #[.slice (some ⟨b0, o0, none⟩) l.length c, .int .i64 T, .int .i64 C] 24)).alloc (.cells #[.slice none 0 0, .int .i64 0, .int .i64 0] 24)).alloc (.cells #[] 74)) (by rfl) (.tmp 6) (.tmp 8) (by rfl) (w.heap.size + 1 + 1) _ 0 [] (by rfl) HO.out ⟨b0, o0, none⟩ l.length c l.length (angL l) (by rfl) HW.out (angL_len _) (angL_one _) hl0 (Nat.zero_add _) (by omega) hszA ?_; intro g cap w1 how1 hbe1; have cq := cell_of_block (j := 0) ((hbe1.block w.heap.size (by omega)).trans HC.out) rfl; have fq := free_of_block (j := 0) ((hbe1.block w.heap.size (by omega)).trans HC.out); have hB0 := BoxMem.made (T := T) (C := C) (by simpa using how1) hbe1; have HB0 := Lib.hid hB0; clear hB0 how1 hbe1)
  clear cq fq HO HW HC hszA
  generalize w1.setCell ⟨w.heap.size, 0, none⟩ (.slice (some ⟨g, 0, none⟩) l.length cap) = W0 at *
  go_loopw [5] (fun t wr => ∃ (k : Nat) (l' : List Ang), k ≤ l.length ∧ t = .int .i64 k ∧ Hid (BoxMem w wr T C g cap l') ∧ Hid (Turn l l' (FreedTo b k))) (fun t _ => l.length - (intOf t).toNat)
  case atStart => exact ⟨0, l, Nat.zero_le _, rfl, HB0, Lib.hid ⟨rfl, fun i a ha => ⟨a, ha, by unfold FreedTo; rw [if_neg (by omega)]⟩⟩⟩
  case round =>
    clear HB0
    obtain ⟨k, l', hk, rfl, hB, hR⟩ := hrel
    have hlen := hR.out.len
    obtain ⟨k0, k1, k2⟩ := hB.out.cells
    by_cases hlt : k < l.length
    · obtain ⟨x, hx⟩ : ∃ x, l[k]? = some x := ⟨l[k], by simp [hlt]⟩
      obtain ⟨x', hx', hxe⟩ := hR.out.at' k x hx
      have hxe2 : x' = x := by unfold FreedTo at hxe; rwa [if_neg (by omega)] at hxe
      subst hxe2
      obtain ⟨q0, q1, q2, q3⟩ := hB.out.ang hx'
      have f2 := hB.out.free (k * 4 + 2)
      have f3 := hB.out.free (k * 4 + 3)
      have HS := Lib.hid (bit_spell b (k : Int))
      have hk0 : (0 : Int) ≤ k := by omega
      have hk1 : (k : Int) < l.length := by omega
      have hk2 : (k : Int) < l'.length := by omega
      have hlt2 : k < l'.length := by omega
      clear hxe
      by_cases hbit : b.testBit k = true
      · have hd : (((b : Int) / 2 ^ k).tmod 2 == 1) = true := by have := HS.out; rw [Int.toNat_natCast] at this; rw [this]; exact hbit
        have HB2 := Lib.hid (((hB.out.put (j := 2) 20 hx' (by omega)).put (j := 3) 3 (List.getElem?_set_self hlt2) (by omega)).step (Below.refl _ _).drew)
        rw [List.set_set] at HB2
        have HR2 : Hid (Turn l (l'.set k (freeA x')) (FreedTo b (k + 1))) := Lib.hid (hR.out.set hx (by unfold FreedTo; rw [if_pos ⟨by omega, hbit⟩]) (fun i a a' hi h => by
          unfold FreedTo at h ⊢
          by_cases e : i < k ∧ b.testBit i = true
          · rw [if_pos e] at h; rw [if_pos ⟨by omega, e.2⟩]; exact h
          · rw [if_neg e] at h
            rw [if_neg (fun e2 => e ⟨by omega, e2.2⟩)]; exact h))
        clear hbit
        go_wp2_with fail
        go_region
        clear q0 q1 q2 q3 f2 f3 k0 k1 k2
        go_wp2_with fail
        go_roundw
        case rel => exact ⟨k + 1, _, by omega, by go_num, HB2, HR2⟩
        case measure => simp [intOf]; omega
      · have hd : (((b : Int) / 2 ^ k).tmod 2 == 1) = false := by have := HS.out; rw [Int.toNat_natCast] at this; rw [this]; exact Bool.eq_false_iff.2 hbit
        have HR2 : Hid (Turn l l' (FreedTo b (k + 1))) := Lib.hid (hR.out.mono (fun i a a' ha h => by
          unfold FreedTo at h ⊢
          by_cases e : i < k ∧ b.testBit i = true
          · rw [if_pos e] at h; rw [if_pos ⟨by omega, e.2⟩]; exact h
          · rw [if_neg e] at h
            rw [if_neg (fun e2 => e ⟨by
              by_cases e3 : i = k
              · subst e3; exact absurd e2.2 hbit
              · omega, e2.2⟩)]; exact h))
        clear hbit
        go_wp2_with fail
        go_roundw
        case rel => exact ⟨k + 1, _, by omega, by go_num, hB, HR2⟩
        case measure => simp [intOf]; omega
    · obtain rfl : k = l.length := by omega
      have r0 := cell_of_block (j := 0) (v := .slice none 0 0) hB.out.res rfl
      have r1 := cell_of_block (j := 1) (v := .int .i64 0) hB.out.res rfl
      have r2 := cell_of_block (j := 2) (v := .int .i64 0) hB.out.res rfl
      have f0 := free_of_block (j := 0) hB.out.res
      have f1 := free_of_block (j := 1) hB.out.res
      have f2 := free_of_block (j := 2) hB.out.res
      go_wp2_with fail
      refine bodyPost_ret (v := .agg #[.slice (some ⟨g, 0, none⟩) l.length cap, .int .i64 T, .int .i64 C]) (by simp [results, Try.results61, go_sem, r0, r1, r2]) rfl ?_
      have hk3 : Keep (fun q => q = w.heap.size + 1) wr ((((wr.setCell ⟨w.heap.size + 1, 0, none⟩ (.slice (some ⟨g, 0, none⟩) l.length cap)).setCell ⟨w.heap.size + 1, 1, none⟩ (.int .i64 T)).setCell ⟨w.heap.size + 1, 2, none⟩ (.int .i64 C))) :=
        (((Keep.refl (fun q => q = w.heap.size + 1) wr).setCell (p := ⟨w.heap.size + 1, 0, none⟩) (.inl rfl) _).setCell (p := ⟨w.heap.size + 1, 1, none⟩) (.inl rfl) _).setCell (p := ⟨w.heap.size + 1, 2, none⟩) (.inl rfl) _
      have hg := hB.out.gt
      obtain ⟨cur, hcur⟩ := hB.out.blk
      have hgl := (Array.getElem?_eq_some_iff.1 hcur).1
      refine ⟨l', hR.out, ((hB.out.below.setCell (by show w.heap.size ≤ w.heap.size + 1; omega) _).setCell (by show w.heap.size ≤ w.heap.size + 1; omega) _).setCell (by show w.heap.size ≤ w.heap.size + 1; omega) _, some ⟨g, 0, none⟩, cap, by rw [hlen], hB.out.row.keep hk3 (fun b o e => by cases e; omega), fun b o e => ?_⟩
      cases e
      have := hk3.size
      omega
end Go.Proofs.Ytnhbplnhhloklaa
