/- Arguments opened: nets, lists of numbers, cuts. -/
import Derived.Test.YtnhbplnhhloklaaE9
import Derived.Test.YtnhbplnhhloklaaRows
import Derived.ProofKit
import Derived.OpenShut
import Derived.ShutString
import Derived.ChangeOld
import Derived.Lib.SmallJoins
import Derived.Deep.Slices
import Derived.Deep.Fields
namespace Go.Proofs.Ytnhbplnhhloklaa
open Go.ChangeShapes Go.WideShapes Go.ChangeAt Go.RowKit Go.Joins Go.Deep

theorem cell_lt {w : World} {b o : Nat} {v : Value} (h : w.cell? ⟨b, o, none⟩ = some v) : b < w.heap.size := by
  by_cases h1 : b < w.heap.size
  · exact h1
  · have hn : w.heap[b]? = none := by simp; omega
    simp [World.cell?, hn] at h
theorem plain_of_cell {w : World} {a : Addr} {v : Value} (h : w.cell? (a.add 0) = some v) : ∃ b o, a = ⟨b, o, none⟩ := by
  obtain ⟨b, off, spot⟩ := a
  have hspot : spot = none := by simpa [Addr.add] using World.cell?_spot h
  subst hspot
  exact ⟨b, off, rfl⟩
section
variable {H : Type} {enc : TypeId × Value → H} {W : World} {base : Nat}
theorem fields_slice {P : Program} {t e : TypeId} {fs : Array Field} {fuel : Nat} {cs : List Value} {x : DataW H × List MemPlace} {w : World} {base : Nat} {spare : Nat → Bool} {held : Bool} (ht : P.underlying t = some (.slice e)) (he : P.underlying e = some (.struct fs))
    (hone : oneCellFields P fs = true) (hC : P.cellsOf e = fs.size) (h : DataW.trod enc P w base spare held fuel t cs = some x) :
    (cs = [.slice none 0 0]) ∨
    ∃ (a : Addr) (len cap : Nat), cs = [.slice (some a) len cap] ∧ len ≤ cap ∧ cap ≤ maxLen ∧
      ∀ i, i < len → ∀ (j : Nat) (f : Field), fs[j]? = some f → ∃ (v : Value) (y : DataW H × List MemPlace) (n : Nat), w.cell? (a.add (i * fs.size + j)) = some v ∧ DataW.trod enc P w base spare held n f.type [v] = some y := by
  rcases open_slice ht h with h0 | ⟨a, len, cap, m, n, D, Pl, hcs, hb, hl, hm, hmm, hx, hi⟩
  · exact .inl h0.1
  · refine .inr ⟨a, len, cap, hcs, hl, hm, fun i him j f hj => ?_⟩
    have hlm : len ≤ m := by rw [hmm]; split <;> omega
    obtain ⟨cs', hc, ht'⟩ := hi i (by omega)
    rw [hC] at hc
    obtain ⟨ys, n', hn', hy, hlen, hyl, hf⟩ := DataW.trod_struct he ht'
    obtain ⟨_, hcl, hat⟩ := World.cells?_some hc
    obtain ⟨ho, hk⟩ := hone_of hone j f hj
    have hjl : j < fs.size := (Array.getElem?_eq_some_iff.1 hj).1
    have hcell := hat j hjl
    have h1 := hf j f hj
    rw [ho, hk] at h1
    have hone' : (cs'.drop j).take 1 = [cs'[j]'(by omega)] := by
      rw [List.drop_eq_getElem_cons (by omega)]
      rfl
    rw [hone'] at h1
    refine ⟨_, _, _, ?_, h1.trans (List.getElem?_eq_getElem (by omega))⟩
    rw [← Go.Deep.add_add, hcell, List.getElem?_eq_getElem]

set_option maxRecDepth 100000 in
theorem open_net {v : Value} {d : DataW H} {p : List MemPlace} (hv : Value.okWide Try.prog W .any base 24 v) (h : DataW.Trod enc Try.prog W 0 (fun _ => true) true 24 v d p) :
    ∃ A l c T C, v = .agg #[.slice A (l : List Ang).length c, .int .i64 T, .int .i64 C] ∧ AngAt W A l ∧ l.length ≤ maxLen := by
  obtain ⟨v0, v1, v2, y0, y1, y2, n, rfl, _, _, h0, h1, h2⟩ := open_agg3 Try.underlying24 (by kernel_rfl) (by kernel_rfl) hv h
  obtain ⟨T, e1, _, _⟩ := DataW.trod_int Try.underlying3 h1
  obtain ⟨C, e2, _, _⟩ := DataW.trod_int Try.underlying3 h2
  simp only [List.cons.injEq, and_true] at e1 e2
  subst e1 e2
  rcases fields_slice Try.underlying22 Try.underlying74 (by kernel_rfl) (by kernel_rfl) h0 with hc | ⟨a, len, cap, hc, hl, hm, hi⟩
  · simp only [List.cons.injEq, and_true] at hc
    subst hc
    exact ⟨none, [], 0, T, C, rfl, fun i a h => by simp at h, Nat.zero_le _⟩
  · simp only [List.cons.injEq, and_true] at hc
    subst hc
    have hex : ∀ i, ∃ an : Ang, i < len → W.cell? (a.add (i * 4)) = some (.int .i64 an.t) ∧ W.cell? (a.add (i * 4 + 1)) = some (.int .i64 an.c) ∧ W.cell? (a.add (i * 4 + 2)) = some (.int .i64 an.r) ∧ W.cell? (a.add (i * 4 + 3)) = some (.int .i64 an.w) := by
      intro i
      by_cases hil : i < len
      · have q := hi i hil
        obtain ⟨u0, z0, n0, k0, t0⟩ := q 0 _ rfl
        obtain ⟨u1, z1, n1, k1, t1⟩ := q 1 _ rfl
        obtain ⟨u2, z2, n2, k2, t2⟩ := q 2 _ rfl
        obtain ⟨u3, z3, n3, k3, t3⟩ := q 3 _ rfl
        obtain ⟨x0, g0, _, _⟩ := DataW.trod_int Try.underlying3 t0
        obtain ⟨x1, g1, _, _⟩ := DataW.trod_int Try.underlying3 t1
        obtain ⟨x2, g2, _, _⟩ := DataW.trod_int Try.underlying3 t2
        obtain ⟨x3, g3, _, _⟩ := DataW.trod_int Try.underlying3 t3
        simp only [List.cons.injEq, and_true] at g0 g1 g2 g3
        subst g0 g1 g2 g3
        exact ⟨⟨x0, x1, x2, x3⟩, fun _ => ⟨k0, k1, k2, k3⟩⟩
      · exact ⟨⟨0, 0, 0, 0⟩, fun h => absurd h hil⟩
    obtain ⟨f, hf⟩ := Classical.axiomOfChoice hex
    have hlen : ((List.range len).map f).length = len := by simp
    refine ⟨some a, (List.range len).map f, cap, T, C, by rw [hlen], ?_, by rw [hlen]; exact Nat.le_trans hl hm⟩
    intro i an hian
    rw [List.getElem?_map, Option.map_eq_some_iff] at hian
    obtain ⟨j, hj, rfl⟩ := hian
    have hil : i < len := by have := (List.getElem?_eq_some_iff.1 hj).1; simpa using this
    rw [List.getElem?_range hil] at hj
    cases hj
    obtain ⟨k0, k1, k2, k3⟩ := hf i hil
    obtain ⟨b, o, rfl⟩ := plain_of_cell (a := a) (by have := (hf 0 (by omega)).1; rwa [Nat.zero_mul] at this)
    rw [add_plain] at k0 k1 k2 k3
    exact ⟨b, o, rfl, cell_lt k0, k0, k1, k2, k3⟩
end
end Go.Proofs.Ytnhbplnhhloklaa
