/- Nets copied and changed in memory; nets of one shape. -/
import Derived.Test.YtnhbplnhhloklaaH4
import Derived.Test.YtnhbplnhhloklaaE9
import Derived.Test.YtnhbplnhhloklaaE4
namespace Go.Proofs.Ytnhbplnhhloklaa
open Go.RowKit

theorem elem22 : Elem 22 74 4 32 (.agg #[.int .i64 0, .int .i64 0, .int .i64 0, .int .i64 0]) := ⟨by kernel_rfl, elem_info (by kernel_rfl), rfl, by decide, by decide⟩
/-- An angle with another field. -/
def Ang.put (a : Ang) (j : Nat) (x : Int) : Ang := if j = 0 then { a with t := x } else if j = 1 then { a with c := x } else if j = 2 then { a with r := x } else { a with w := x }
theorem ang_cells {W : World} {b o : Nat} {l : List Ang} (h : AngAt W (some ⟨b, o, none⟩) l) : ∀ j u, (angL l)[j]? = some u → W.cell? ((⟨b, o, none⟩ : Addr).add j) = some u := by
  intro j u hj
  have hlt : j < l.length * 4 := by have := (List.getElem?_eq_some_iff.1 hj).1; rwa [angL_len] at this
  have hl4 : j / 4 < l.length := by omega
  have hi : l[j / 4]? = some l[j / 4] := List.getElem?_eq_getElem hl4
  obtain ⟨b', o', e, _, h0, h1, h2, h3⟩ := h (j / 4) _ hi
  cases e
  have hf : (angL l)[j / 4 * 4 + j % 4]? = _ := flat_at l (j / 4) _ hi (j % 4) (by omega)
  rw [show j / 4 * 4 + j % 4 = j by omega, hj] at hf
  rw [addr_add]
  have hr : j % 4 = 0 ∨ j % 4 = 1 ∨ j % 4 = 2 ∨ j % 4 = 3 := by omega
  rcases hr with e | e | e | e
  · rw [e] at hf; cases hf; rw [show o + j = o + j / 4 * 4 by omega]; exact h0
  · rw [e] at hf; cases hf; rw [show o + j = o + j / 4 * 4 + 1 by omega]; exact h1
  · rw [e] at hf; cases hf; rw [show o + j = o + j / 4 * 4 + 2 by omega]; exact h2
  · rw [e] at hf; cases hf; rw [show o + j = o + j / 4 * 4 + 3 by omega]; exact h3
theorem angL_one (l : List Ang) : ∀ u ∈ angL l, u.oneCell' = true := by
  intro u hu
  unfold angL at hu
  obtain ⟨a, _, ha⟩ := List.mem_flatMap.1 hu
  simp only [List.mem_cons, List.not_mem_nil, or_false] at ha
  rcases ha with rfl | rfl | rfl | rfl <;> rfl
theorem AngAt.put {W : World} {b o : Nat} {l : List Ang} {i j : Nat} {a : Ang} {x : Int} (h : AngAt W (some ⟨b, o, none⟩) l) (hi : l[i]? = some a) (hj : j < 4) : AngAt (W.setCell ⟨b, o + i * 4 + j, none⟩ (.int .i64 x)) (some ⟨b, o, none⟩) (l.set i (a.put j x)) := by
  have hil := (List.getElem?_eq_some_iff.1 hi).1
  have hoth : ∀ q v, q ≠ o + i * 4 + j → W.cell? ⟨b, q, none⟩ = some v → (W.setCell ⟨b, o + i * 4 + j, none⟩ (.int .i64 x)).cell? ⟨b, q, none⟩ = some v := fun q v hq hc => by
    refine Eq.trans ?_ hc
    apply World.cell?_setCell_other
    intro e
    injection e with _ e2 _
    exact hq e2.symm
  have hsame : ∀ v, W.cell? ⟨b, o + i * 4 + j, none⟩ = some v → (W.setCell ⟨b, o + i * 4 + j, none⟩ (.int .i64 x)).cell? ⟨b, o + i * 4 + j, none⟩ = some (.int .i64 x) := fun v hc => by
    apply World.cell?_setCell_same
    exact hc
  intro k an hk
  by_cases e : k = i
  · subst e
    rw [List.getElem?_set_self hil] at hk
    cases hk
    obtain ⟨b', o', e, hb, h0, h1, h2, h3⟩ := h k a hi
    cases e
    refine ⟨b, o, rfl, by simp [World.setCell]; exact hb, ?_⟩
    have hr : j = 0 ∨ j = 1 ∨ j = 2 ∨ j = 3 := by omega
    rcases hr with rfl | rfl | rfl | rfl
    · exact ⟨hsame _ h0, hoth _ _ (by omega) h1, hoth _ _ (by omega) h2, hoth _ _ (by omega) h3⟩
    · exact ⟨hoth _ _ (by omega) h0, hsame _ h1, hoth _ _ (by omega) h2, hoth _ _ (by omega) h3⟩
    · exact ⟨hoth _ _ (by omega) h0, hoth _ _ (by omega) h1, hsame _ h2, hoth _ _ (by omega) h3⟩
    · exact ⟨hoth _ _ (by omega) h0, hoth _ _ (by omega) h1, hoth _ _ (by omega) h2, hsame _ h3⟩
  · rw [List.getElem?_set_ne (Ne.symm e)] at hk
    obtain ⟨b', o', e', hb, h0, h1, h2, h3⟩ := h k an hk
    cases e'
    have hd : k * 4 + 3 < i * 4 ∨ i * 4 + 3 < k * 4 := by omega
    exact ⟨b, o, rfl, by simp [World.setCell]; exact hb, hoth _ _ (by omega) h0, hoth _ _ (by omega) h1, hoth _ _ (by omega) h2, hoth _ _ (by omega) h3⟩

/-- A net and its changed copy in memory. -/
structure KMem (w wr : World) (A : Option Addr) (n c : Nat) (T C : Int) (p g cap : Nat) (l : List Ang) : Prop where
  net : NMem w wr A n c T C
  ord : w.heap.size < p ∧ w.heap.size < g ∧ p ≠ g
  cop : wr.heap[p]? = some (.cells #[.slice (some ⟨g, 0, none⟩) l.length cap, .int .i64 T, .int .i64 C] 24 (0, 0))
  row : AngAt wr (some ⟨g, 0, none⟩) l
  blk : ∃ cur, wr.heap[g]? = some (.cells cur 74 (0, 0))
section
variable {w wr w' : World} {A : Option Addr} {n c : Nat} {T C : Int} {p g cap : Nat} {l : List Ang}
theorem KMem.step (h : KMem w wr A n c T C p g cap l) (hb : Below wr.heap.size wr w') : KMem w w' A n c T C p g cap l := by
  obtain ⟨cur, hc⟩ := h.blk
  exact ⟨h.net.step hb, h.ord, (hb.block _ (Array.getElem?_eq_some_iff.1 h.cop).1).trans h.cop, h.row.below hb, cur, (hb.block _ (Array.getElem?_eq_some_iff.1 hc).1).trans hc⟩
theorem KMem.put (h : KMem w wr A n c T C p g cap l) {i j : Nat} {a : Ang} (x : Int) (hi : l[i]? = some a) (hj : j < 4) : KMem w (wr.setCell ⟨g, i * 4 + j, none⟩ (.int .i64 x)) A n c T C p g cap (l.set i (a.put j x)) := by
  obtain ⟨cur, hc⟩ := h.blk
  have ho := h.ord
  have e : ∀ b, b ≠ g → (wr.setCell ⟨g, i * 4 + j, none⟩ (.int .i64 x)).heap[b]? = wr.heap[b]? := fun b hb => Below.heap_setCell _ _ _ _ hb
  have hr := h.row.put (x := x) hi hj
  rw [Nat.zero_add] at hr
  refine ⟨⟨h.net.below.setCell (by show w.heap.size ≤ g; omega) _, (e _ (by omega)).trans h.net.net⟩, ho, ?_, hr, _, heap_setCell_self hc _⟩
  rw [List.length_set]
  exact (e _ ho.2.2).trans h.cop
theorem KMem.cells (h : KMem w wr A n c T C p g cap l) : wr.cell? ⟨p, 0, none⟩ = some (.slice (some ⟨g, 0, none⟩) l.length cap) ∧ wr.cell? ⟨p, 1, none⟩ = some (.int .i64 T) ∧ wr.cell? ⟨p, 2, none⟩ = some (.int .i64 C) :=
  ⟨cell_of_block (j := 0) h.cop rfl, cell_of_block (j := 1) h.cop rfl, cell_of_block (j := 2) h.cop rfl⟩
theorem KMem.ang (h : KMem w wr A n c T C p g cap l) {i : Nat} {a : Ang} (hi : l[i]? = some a) : wr.cell? ⟨g, i * 4, none⟩ = some (.int .i64 a.t) ∧ wr.cell? ⟨g, i * 4 + 1, none⟩ = some (.int .i64 a.c) ∧ wr.cell? ⟨g, i * 4 + 2, none⟩ = some (.int .i64 a.r) ∧ wr.cell? ⟨g, i * 4 + 3, none⟩ = some (.int .i64 a.w) := by
  obtain ⟨b, o, e, _, h0, h1, h2, h3⟩ := h.row i a hi
  cases e
  rw [Nat.zero_add] at h0 h1 h2 h3
  exact ⟨h0, h1, h2, h3⟩
theorem KMem.free (h : KMem w wr A n c T C p g cap l) (k : Nat) : wr.frozen? ⟨g, k, none⟩ = false := by
  obtain ⟨cur, hc⟩ := h.blk
  exact free_of_block hc
theorem KMem.made {W w1 : World} (hM : NMem w W A n c T C) (how : w1.ownsRow (W.heap.size + 1) 74 4 (.slice (some ⟨g, 0, none⟩) l.length cap) l.length (angL l)) (hb : Below (W.heap.size + 1) ((W.alloc (.cells #[.slice A n c, .int .i64 T, .int .i64 C] 24)).alloc (.cells #[] 74)) w1) :
    KMem w (w1.setCell ⟨W.heap.size, 0, none⟩ (.slice (some ⟨g, 0, none⟩) l.length cap)) A n c T C W.heap.size g cap l := by
  obtain ⟨cur, hg, hgb⟩ := own_block how
  obtain ⟨_, B, d, he, hrow, hrb⟩ := own_ang how
  cases he
  have hcop : w1.heap[W.heap.size]? = some (.cells #[.slice A n c, .int .i64 T, .int .i64 C] 24 (0, 0)) := (hb.block _ (Nat.lt_succ_self _)).trans (past_alloc (at_alloc rfl))
  have hal : Below W.heap.size W ((W.alloc (.cells #[.slice A n c, .int .i64 T, .int .i64 C] 24)).alloc (.cells #[] 74)) := ((Below.refl _ W).alloc (Nat.le_refl _) _).alloc (by simp) _
  have h1 : Below W.heap.size W w1 := hal.trans (hb.mono (Nat.le_succ _))
  have hN := hM.step (h1.setCell (p := ⟨W.heap.size, 0, none⟩) (Nat.le_refl _) (.slice (some ⟨g, 0, none⟩) l.length cap))
  have hk : Keep (fun q => q = W.heap.size) w1 (w1.setCell ⟨W.heap.size, 0, none⟩ (.slice (some ⟨g, 0, none⟩) l.length cap)) := (Keep.refl (fun q => q = W.heap.size) w1).setCell (p := ⟨W.heap.size, 0, none⟩) (.inl rfl) _
  have hlt := hM.lt
  refine ⟨hN, ⟨hlt, by omega, by omega⟩, ?_, hrow.keep hk (fun b o e => by cases e; omega), cur, ?_⟩
  · rw [heap_setCell_self hcop]
    rfl
  · rw [Below.heap_setCell _ _ _ _ (by show g ≠ W.heap.size; omega)]; exact hg
end

section
variable {l l' : List Ang} {T C : Nat} {lo hi : Nat → Int}
/-- Nets of one shape: the same angles, maybe read otherwise. -/
structure Shape (l l' : List Ang) : Prop where
  len : l'.length = l.length
  f : ∀ i, fI l' i = fI l i
  t : ∀ i, tI l' i = tI l i
theorem can_shape (h : Shape l l') : Can l T C lo hi → Can l' T C lo hi := by
  rintro ⟨x, h1, h2⟩
  refine ⟨x, fun i hi => h1 i (by rw [← h.len]; exact hi), fun u hu => ?_⟩
  rw [h.len]
  simp only [h.f, h.t]
  exact h2 u hu
theorem Shape.symm (h : Shape l l') : Shape l' l := ⟨h.len.symm, fun i => (h.f i).symm, fun i => (h.t i).symm⟩
theorem shape_set {i : Nat} {a a' : Ang} (hi : l[i]? = some a) (ht : a'.t = a.t) (hc : a'.c = a.c) : Shape l (l.set i a') := by
  have hil := (List.getElem?_eq_some_iff.1 hi).1
  refine ⟨List.length_set, fun k => ?_, fun k => ?_⟩
  · unfold fI
    by_cases e : k = i
    · subst e; rw [List.getElem?_set_self hil, hi]; simp only [frN, ht]
    · rw [List.getElem?_set_ne (Ne.symm e)]
  · unfold tI
    by_cases e : k = i
    · subst e; rw [List.getElem?_set_self hil, hi]; simp only [toN, hc]
    · rw [List.getElem?_set_ne (Ne.symm e)]
theorem can40 (hr : ∀ a ∈ l, ReadOk a) (hr' : ∀ a ∈ l', ReadOk a) (hs : Shape l l') (h : CanE l T C 40 []) : CanE l' T C 40 [] :=
  can_mono (can_shape hs h) fun i hi => by
    have hi2 : i < l.length := by rw [← hs.len]; exact hi
    have ha : l[i]? = some l[i] := by simp [hi2]
    have ha' : l'[i]? = some l'[i] := by simp
    have k1 := hr l[i] (by simp)
    have k2 := hr' l'[i] (by simp)
    unfold ReadOk at k1 k2
    rw [hs.len]
    simp only [rmLo, rmHi, hi2, if_true, ha, ha', List.not_mem_nil, if_false, rLo, rHi]
    omega
end
end Go.Proofs.Ytnhbplnhhloklaa
