/- What a freed net can do. -/
import Derived.Test.YtnhbplnhhloklaaW1
namespace Go.Proofs.Ytnhbplnhhloklaa
open Go.RowKit

section
variable {l l' : List Ang} {T C : Nat} {b : Nat} {e : Int}
theorem freed_shape (h : Turn l l' (FreedTo b l.length)) : Shape l l' := by
  have key : ∀ i, fI l' i = fI l i ∧ tI l' i = tI l i := fun i => by
    unfold fI tI
    by_cases hi : i < l.length
    · have ha : l[i]? = some l[i] := by simp [hi]
      obtain ⟨a', h1, h2⟩ := h.at' i _ ha
      rw [ha, h1]
      unfold FreedTo at h2
      by_cases e : i < l.length ∧ b.testBit i = true
      · rw [if_pos e] at h2; subst h2; exact ⟨rfl, rfl⟩
      · rw [if_neg e] at h2; subst h2; exact ⟨rfl, rfl⟩
    · rw [List.getElem?_eq_none (l := l) (by omega), List.getElem?_eq_none (l := l') (by rw [h.len]; omega)]
      exact ⟨rfl, rfl⟩
  exact ⟨h.len, fun i => (key i).1, fun i => (key i).2⟩
theorem freed_valid (h : Turn l l' (FreedTo b l.length)) (hV : Valid l T C) : Valid l' T C := by
  have key : ∀ a' ∈ l', ∃ a ∈ l, a' = a ∨ a' = freeA a := fun a' ha' => by
    obtain ⟨i, hi⟩ := List.getElem?_of_mem ha'
    have hil : i < l.length := by have := (List.getElem?_eq_some_iff.1 hi).1; rw [h.len] at this; exact this
    obtain ⟨a2, h1, h2⟩ := h.at' i l[i] (by simp [hil])
    rw [hi] at h1
    cases h1
    refine ⟨l[i], by simp, ?_⟩
    unfold FreedTo at h2
    split at h2
    · exact .inr h2
    · exact .inl h2
  refine ⟨by rw [h.len]; exact hV.len, ⟨hV.net.hT, hV.net.hC, fun a' ha' => ?_⟩, fun a' ha' => ?_⟩
  · obtain ⟨a, ha, rfl | rfl⟩ := key a' ha'
    · exact hV.net.ok _ ha
    · exact hV.net.ok a ha
  · obtain ⟨a, ha, rfl | rfl⟩ := key a' ha'
    · exact hV.reads _ ha
    · exact ⟨by show (0 : Int) ≤ 20; omega, by show (20 : Int) ≤ 40; omega, by show (1 : Int) ≤ 3; omega, by show (3 : Int) ≤ 3; omega⟩
theorem freed_rm (h : Turn l l' (FreedTo b l.length)) (hn : l.length ≤ 12) (he : 7 ≤ e) (i : Nat) (hi : i < l.length) : rmLo l' e [] l.length i = rmLo l e (outI (bitL b)) l.length i ∧ rmHi l' e [] l.length i = rmHi l e (outI (bitL b)) l.length i := by
  have ha : l[i]? = some l[i] := by simp [hi]
  obtain ⟨a', h1, h2⟩ := h.at' i _ ha
  simp only [rmLo, rmHi, hi, if_true, ha, h1, List.not_mem_nil, if_false]
  have hm : (i : Int) ∈ outI (bitL b) ↔ b.testBit i = true := by
    rw [mem_outI, mem_bitL]
    exact ⟨fun h => h.2, fun h => ⟨by omega, h⟩⟩
  unfold FreedTo at h2
  by_cases e1 : b.testBit i = true
  · rw [if_pos ⟨hi, e1⟩] at h2
    subst h2
    rw [if_pos (hm.2 e1), if_pos (hm.2 e1)]
    show max 0 (20 - e * 3) = 0 ∧ min 40 (20 + e * 3) = 40
    omega
  · rw [if_neg (fun h => e1 h.2)] at h2
    subst h2
    rw [if_neg (fun h => e1 (hm.1 h)), if_neg (fun h => e1 (hm.1 h))]
    exact ⟨rfl, rfl⟩
theorem freed_can (h : Turn l l' (FreedTo b l.length)) (hn : l.length ≤ 12) (he : 7 ≤ e) : CanE l' T C e [] ↔ CanE l T C e (outI (bitL b)) := by
  have hs := freed_shape h
  unfold CanE
  rw [h.len]
  constructor
  · intro hc
    exact can_mono (can_shape hs.symm hc) fun i hi => by have := freed_rm h hn he i hi; omega
  · intro hc
    exact can_mono (can_shape hs hc) fun i hi => by have := freed_rm h hn he i (by rw [← h.len]; exact hi); omega
end
end Go.Proofs.Ytnhbplnhhloklaa
