/- Conservation of flow. -/
import Derived.Test.YtnhbplnhhloklaaB4
namespace Go.Proofs.Ytnhbplnhhloklaa

/-- What can still leave a node. -/
def out (m : Nat) (L : LL) (u : Nat) : Int := sumN 13 (fun v => sumN (m + 1) (fun k => L u v ((k : Int) - 1)))

theorem out_upd {m : Nat} {L : LL} {a b u : Nat} {i x : Int} (hb : b < 13) (hi : -1 ≤ i) (hm : i < m) : out m (upd L a b i x) u = out m L u + (if u = a then x - L a b i else 0) := by
  unfold out
  by_cases hu : u = a
  · subst hu
    rw [if_pos rfl]
    have hin : ∀ v, v < 13 → v ≠ b → sumN (m + 1) (fun k => upd L u b i x u v ((k : Int) - 1)) = sumN (m + 1) (fun k => L u v ((k : Int) - 1)) := by
      intro v hv hvb
      refine sumN_congr fun k hk => ?_
      unfold upd
      rw [if_neg (by rintro ⟨_, h, _⟩; exact hvb (by omega))]
    rw [sumN_one hb hin]
    have hto : sumN (m + 1) (fun k => upd L u b i x u b ((k : Int) - 1)) = sumN (m + 1) (fun k => L u b ((k : Int) - 1)) + (upd L u b i x u b (((i + 1).toNat : Nat) - 1) - L u b (((i + 1).toNat : Nat) - 1)) := by
      refine sumN_one (by omega) fun k hk hki => ?_
      unfold upd
      rw [if_neg (by rintro ⟨_, _, h⟩; omega)]
    rw [hto]
    have e2 : (((i + 1).toNat : Nat) : Int) - 1 = i := by omega
    rw [e2, upd_self]
    omega
  · rw [if_neg hu, Int.add_zero]
    refine sumN_congr fun v hv => sumN_congr fun k hk => ?_
    unfold upd
    rw [if_neg (by rintro ⟨h, _⟩; exact hu (by omega))]

theorem out_push {m : Nat} {L : LL} {a b u : Nat} {i g : Int} (hab : a ≠ b) (ha : a < 13) (hb : b < 13) (hi : -1 ≤ i) (hm : i < m) : out m (pushL L a b i g) u = out m L u - (if u = a then g else 0) + (if u = b then g else 0) := by
  unfold pushL
  have e : upd L a b i (L a b i - g) b a i = L b a i := by
    unfold upd
    rw [if_neg (by rintro ⟨h, _⟩; exact hab (by omega))]
  rw [out_upd ha hi hm, out_upd hb hi hm, e]
  split <;> split <;> omega

theorem Aug.out {m fr : Nat} {g : Int} {s : Seen} {L L' : LL} (h : Aug m fr g s L L') : ∀ u, out m L' u = out m L u - (if u = fr then g else 0) + (if u = 12 then g else 0) := by
  induction h with
  | last => intro u; omega
  | @step fr tt i g s s1 L L1 hf ht hi hm hs hss hs1 hs2 hg h ih =>
    intro u
    have hne : fr ≠ tt := by
      rintro rfl
      rw [hs2] at hs1; cases hs1
    rw [out_push hne hf ht hi hm, ih u]
    split <;> split <;> split <;> omega

theorem Aug.pair {m fr : Nat} {g : Int} {s : Seen} {L L' : LL} (h : Aug m fr g s L L') : ∀ u v i, L' u v i + L' v u i = L u v i + L v u i := by
  induction h with
  | last => intro u v i; rfl
  | @step fr tt i g s s1 L L1 hf ht hi hm hs hss hs1 hs2 hg h ih =>
    intro u v j
    have hne : (fr : Int) ≠ tt := by
      intro e
      have : fr = tt := by omega
      rw [this, hs2] at hs1; cases hs1
    rw [← ih u v j, pushL_at hne, pushL_at hne]
    by_cases h1 : u = fr ∧ v = tt ∧ j = i
    · obtain ⟨rfl, rfl, rfl⟩ := h1
      rw [if_pos ⟨rfl, rfl, rfl⟩, if_neg (by rintro ⟨h, _⟩; exact hne h.symm), if_pos ⟨rfl, rfl, rfl⟩]
      omega
    · rw [if_neg h1]
      by_cases h2 : u = tt ∧ v = fr ∧ j = i
      · obtain ⟨rfl, rfl, rfl⟩ := h2
        rw [if_pos ⟨rfl, rfl, rfl⟩, if_pos ⟨rfl, rfl, rfl⟩]
        omega
      · rw [if_neg h2, if_neg (by rintro ⟨rfl, rfl, rfl⟩; exact h2 ⟨rfl, rfl, rfl⟩), if_neg (by rintro ⟨rfl, rfl, rfl⟩; exact h1 ⟨rfl, rfl, rfl⟩)]

theorem FlowRel.out {m : Nat} {L L' : LL} {sum : Int} (h : FlowRel m L sum L') : ∀ u, out m L' u = out m L u - (if u = 11 then sum else 0) + (if u = 12 then sum else 0) := by
  induction h with
  | nil => intro u; split <;> split <;> omega
  | step _ hg ha ih =>
    intro u
    rw [ha.out u, ih u]
    split <;> split <;> omega
theorem FlowRel.pair {m : Nat} {L L' : LL} {sum : Int} (h : FlowRel m L sum L') : ∀ u v i, L' u v i + L' v u i = L u v i + L v u i := by
  induction h with
  | nil => intro u v i; rfl
  | step _ hg ha ih => intro u v i; rw [ha.pair u v i, ih u v i]
end Go.Proofs.Ytnhbplnhhloklaa
