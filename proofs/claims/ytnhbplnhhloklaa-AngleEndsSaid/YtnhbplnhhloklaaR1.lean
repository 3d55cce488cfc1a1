/- Arguments opened: lists of numbers, cuts, words. -/
import Derived.Test.YtnhbplnhhloklaaR0
import Derived.ChangeSlices
namespace Go.Proofs.Ytnhbplnhhloklaa
open Go.ChangeShapes Go.WideShapes Go.ChangeAt Go.RowKit Go.Joins Go.Deep
/-- Words of sixteen bits in a row. -/
def HexAt (W : World) (A : Option Addr) (l : List Int) : Prop := (∀ i x, l[i]? = some x → ∃ b o, A = some ⟨b, o, none⟩ ∧ b < W.heap.size ∧ W.cell? ⟨b, o + i, none⟩ = some (.int .u16 x)) ∧ ∀ x ∈ l, 0 ≤ x ∧ x ≤ 65535
section
variable {H : Type} {enc : TypeId × Value → H} {W : World} {base : Nat}
theorem row_of {t e : TypeId} {k : IntKind} {fuel : Nat} {v : Value} {x : DataW H × List MemPlace} (ht : Try.prog.underlying t = some (.slice e)) (he : Try.prog.underlying e = some (.int k)) (hc : Try.prog.cellsOf e = 1)
    (h : DataW.trod enc Try.prog W base (fun _ => true) true fuel t [v] = some x) :
    ∃ A l c, v = .slice A (l : List Int).length c ∧ (∀ i x, l[i]? = some x → ∃ b o, A = some ⟨b, o, none⟩ ∧ b < W.heap.size ∧ W.cell? ⟨b, o + i, none⟩ = some (.int k x)) ∧ l.length ≤ maxLen ∧ (A = none → l = [] ∧ c = 0) ∧ ∀ x ∈ l, (Lit.int k x).wf = true := by
  rcases open_ints ht he hc h with ⟨hcs, hx⟩ | ⟨a, len, cap, zs, hcs, _, hl, hm, hz, hx, hcell, hwz⟩
  · simp only [List.cons.injEq, and_true] at hcs
    subst hcs
    exact ⟨none, [], 0, rfl, fun i x h => by simp at h, Nat.zero_le _, fun _ => ⟨rfl, rfl⟩, fun x h => by simp at h⟩
  · simp only [List.cons.injEq, and_true] at hcs
    subst hcs
    have hzl : len ≤ zs.length := by rw [hz]; split <;> omega
    have hlen : (zs.take len).length = len := by simp; omega
    refine ⟨some a, zs.take len, cap, by rw [hlen], ?_, by rw [hlen]; exact Nat.le_trans hl hm, fun h => (by cases h), fun x h => hwz x (List.mem_of_mem_take h)⟩
    intro i x hi
    have hil : i < len := by have := (List.getElem?_eq_some_iff.1 hi).1; omega
    rw [List.getElem?_take_of_lt hil] at hi
    have hg : zs.getD i 0 = x := by rw [List.getD_eq_getElem?_getD, hi]; rfl
    have hc' := hcell i (by omega)
    rw [hg] at hc'
    obtain ⟨b, o, rfl⟩ := plain_of_cell (a := a) (hcell 0 (by omega))
    rw [add_plain] at hc'
    exact ⟨b, o, rfl, cell_lt hc', hc'⟩
set_option maxRecDepth 100000 in
theorem slice_cells {v : Value} {t e : TypeId} (ht : Try.prog.underlying t = some (.slice e)) (hv : Value.okWide Try.prog W .any base t v) : v.cells.toList = [v] := by
  obtain ⟨a, len, cap, rfl⟩ := okWide_slice ht hv
  rfl

set_option maxRecDepth 100000 in
theorem open_list {v : Value} {d : DataW H} {p : List MemPlace} (hv : Value.okWide Try.prog W .any base 25 v) (h : DataW.Trod enc Try.prog W 0 (fun _ => true) true 25 v d p) :
    ∃ A l c, v = .slice A (l : List Int).length c ∧ IntsAt W A l ∧ l.length ≤ maxLen ∧ (A = none → l = [] ∧ c = 0) := by
  obtain ⟨fuel, hf⟩ := h
  have hk := slice_cells Try.underlying25 hv
  simp only [hk] at hf
  obtain ⟨A, l, c, rfl, h1, h2, h3, _⟩ := row_of Try.underlying25 Try.underlying3 (by kernel_rfl) hf
  exact ⟨A, l, c, rfl, h1, h2, h3⟩
set_option maxRecDepth 100000 in
theorem open_words {v : Value} {d : DataW H} {p : List MemPlace} (hv : Value.okWide Try.prog W .any base 67 v) (h : DataW.Trod enc Try.prog W 0 (fun _ => true) true 67 v d p) :
    ∃ A l c, v = .slice A (l : List Int).length c ∧ HexAt W A l ∧ l.length ≤ maxLen ∧ (A = none → l = [] ∧ c = 0) := by
  obtain ⟨fuel, hf⟩ := h
  have hk := slice_cells Try.underlying67 hv
  simp only [hk] at hf
  obtain ⟨A, l, c, rfl, h1, h2, h3, h4⟩ := row_of Try.underlying67 Try.underlying93 (by kernel_rfl) hf
  exact ⟨A, l, c, rfl, ⟨h1, fun x hx => by have := h4 x hx; simp only [Lit.wf, Bool.and_eq_true, decide_eq_true_eq] at this; exact this⟩, h2, h3⟩
set_option maxRecDepth 100000 in
theorem open_cut {v : Value} {d : DataW H} {p : List MemPlace} (hv : Value.okWide Try.prog W .any base 27 v) (h : DataW.Trod enc Try.prog W 0 (fun _ => true) true 27 v d p) :
    ∃ P ts c Q cs e, v = .agg #[.slice P (ts : List Int).length c, .slice Q (cs : List Int).length e] ∧ IntsAt W P ts ∧ IntsAt W Q cs ∧ ts.length ≤ maxLen ∧ cs.length ≤ maxLen ∧ (P = none → ts = [] ∧ c = 0) ∧ (Q = none → cs = [] ∧ e = 0) := by
  obtain ⟨v0, v1, y0, y1, n, rfl, _, _, h0, h1⟩ := open_agg2 Try.underlying27 (by kernel_rfl) (by kernel_rfl) hv h
  obtain ⟨P, ts, c, rfl, a1, a2, a3, _⟩ := row_of Try.underlying25 Try.underlying3 (by kernel_rfl) h0
  obtain ⟨Q, cs, e, rfl, b1, b2, b3, _⟩ := row_of Try.underlying25 Try.underlying3 (by kernel_rfl) h1
  exact ⟨P, ts, c, Q, cs, e, rfl, a1, b1, a2, b2, a3, b3⟩
end
end Go.Proofs.Ytnhbplnhhloklaa
