/- Nets renumbered. -/
import Derived.Test.YtnhbplnhhloklaaK2
namespace Go.Proofs.Ytnhbplnhhloklaa
open Go.RowKit

/-- The same net with its triangles and circles renumbered. -/
structure Renum (l l' : List Ang) (T C s q : Nat) : Prop where
  len : l'.length = l.length
  at' : ∀ (i : Nat) (a : Ang), l[i]? = some a → ∃ a' : Ang, l'[i]? = some a' ∧ a'.r = a.r ∧ a'.w = a.w ∧ (a'.t = if 0 ≤ a.t then (a.t + s) % (T : Int) else a.t) ∧ (a'.c = if 0 ≤ a.c then (a.c + q) % (C : Int) else a.c)
theorem rot_iff {T s t : Nat} {x : Int} (hT : T ≤ 5) (hx : 0 ≤ x ∧ x < T) (ht : t < T) : (x + s) % (T : Int) = (((t + s) % T : Nat) : Int) ↔ x = t := by
  have h : T = 0 ∨ T = 1 ∨ T = 2 ∨ T = 3 ∨ T = 4 ∨ T = 5 := by omega
  rcases h with rfl | rfl | rfl | rfl | rfl | rfl <;> omega
theorem rot_ex {T s t' : Nat} (hT : T ≤ 5) (ht : t' < T) : ∃ t, t < T ∧ (t + s) % T = t' := by
  have h : T = 0 ∨ T = 1 ∨ T = 2 ∨ T = 3 ∨ T = 4 ∨ T = 5 := by omega
  refine ⟨(t' + (T - s % T)) % T, ?_, ?_⟩ <;> (rcases h with rfl | rfl | rfl | rfl | rfl | rfl <;> omega)
theorem rot_back {T s : Nat} {x y : Int} (hT : T ≤ 5) (hx : -1 ≤ x ∧ x < T) (hy : y = if 0 ≤ x then (x + s) % (T : Int) else x) : (-1 ≤ y ∧ y < T) ∧ x = if 0 ≤ y then (y + ((T - s % T : Nat) : Int)) % (T : Int) else y := by
  have h : T = 0 ∨ T = 1 ∨ T = 2 ∨ T = 3 ∨ T = 4 ∨ T = 5 := by omega
  by_cases e : 0 ≤ x
  · rw [if_pos e] at hy
    rcases h with rfl | rfl | rfl | rfl | rfl | rfl
    · omega
    all_goals
      have e2 : 0 ≤ y := by omega
      rw [if_pos e2]
      omega
  · rw [if_neg e] at hy
    subst hy
    rw [if_neg e]
    omega

section
variable {l l' : List Ang} {T C s q : Nat} {lo hi : Nat → Int}
theorem Renum.net (h : Renum l l' T C s q) (hN : NetOk l T C) : NetOk l' T C := by
  refine ⟨hN.hT, hN.hC, fun a' ha' => ?_⟩
  obtain ⟨i, hi⟩ := List.getElem?_of_mem ha'
  have hil : i < l.length := by have := (List.getElem?_eq_some_iff.1 hi).1; rw [h.len] at this; exact this
  obtain ⟨a, ha⟩ : ∃ a, l[i]? = some a := ⟨l[i], by simp [hil]⟩
  obtain ⟨a2, h1, _, _, h2, h3⟩ := h.at' i a ha
  rw [hi] at h1
  cases h1
  have hok := hN.ok a (List.mem_of_getElem? ha)
  have k1 := rot_back hN.hT ⟨hok.1, hok.2.1⟩ h2
  have k2 := rot_back hN.hC ⟨hok.2.2.1, hok.2.2.2⟩ h3
  omega
theorem Renum.back (h : Renum l l' T C s q) (hN : NetOk l T C) : Renum l' l T C (T - s % T) (C - q % C) := by
  refine ⟨h.len.symm, fun i a' hi => ?_⟩
  have hil : i < l.length := by have := (List.getElem?_eq_some_iff.1 hi).1; rw [h.len] at this; exact this
  obtain ⟨a, ha⟩ : ∃ a, l[i]? = some a := ⟨l[i], by simp [hil]⟩
  obtain ⟨a2, h1, h4, h5, h2, h3⟩ := h.at' i a ha
  rw [hi] at h1
  cases h1
  have hok := hN.ok a (List.mem_of_getElem? ha)
  exact ⟨a, ha, h4.symm, h5.symm, (rot_back hN.hT ⟨hok.1, hok.2.1⟩ h2).2, (rot_back hN.hC ⟨hok.2.2.1, hok.2.2.2⟩ h3).2⟩
theorem Renum.truth (h : Renum l l' T C s q) (hN : NetOk l T C) {xs : List Int} (ht : TruthL l T C xs lo hi) : TruthL l' T C xs lo hi := by
  have hN' := h.net hN
  have hT := hN.hT
  have hC := hN.hC
  refine ⟨fun i hi' => ht.1 i (by rw [← h.len]; exact hi'), fun t' ht' => ?_, fun k' hk' => ?_⟩
  · rw [tS_hS hN' xs t' (by omega), h.len]
    obtain ⟨t, h1, rfl⟩ := rot_ex (s := s) hT ht'
    have h2 := ht.2.1 t h1
    rw [tS_hS hN xs t (by omega)] at h2
    rw [← h2]
    refine sumN_congr fun i hi' => ?_
    have ha : l[i]? = some l[i] := by simp [hi']
    obtain ⟨a', h3, _, _, h4, _⟩ := h.at' i _ ha
    have hok := hN.ok _ (List.mem_of_getElem? ha)
    rw [ha, h3]
    simp only []
    by_cases e : 0 ≤ l[i].t
    · rw [if_pos e] at h4
      have := rot_iff (s := s) hT ⟨e, hok.2.1⟩ h1
      by_cases e2 : l[i].t = t
      · rw [if_pos e2, if_pos (by rw [h4]; exact this.2 e2)]
      · rw [if_neg e2, if_neg (fun e3 => e2 (this.1 (by rw [← h4]; exact e3)))]
    · rw [if_neg e] at h4
      rw [if_neg (by omega), if_neg (by omega)]
  · rw [cS_hS hN' xs k' (by omega), h.len]
    obtain ⟨k, h1, rfl⟩ := rot_ex (s := q) hC hk'
    have h2 := ht.2.2 k h1
    rw [cS_hS hN xs k (by omega)] at h2
    rw [← h2]
    refine sumN_congr fun i hi' => ?_
    have ha : l[i]? = some l[i] := by simp [hi']
    obtain ⟨a', h3, _, _, _, h4⟩ := h.at' i _ ha
    have hok := hN.ok _ (List.mem_of_getElem? ha)
    rw [ha, h3]
    simp only []
    by_cases e : 0 ≤ l[i].c
    · rw [if_pos e] at h4
      have := rot_iff (s := q) hC ⟨e, hok.2.2.2⟩ h1
      by_cases e2 : l[i].c = k
      · rw [if_pos e2, if_pos (by rw [h4]; exact this.2 e2)]
      · rw [if_neg e2, if_neg (fun e3 => e2 (this.1 (by rw [← h4]; exact e3)))]
    · rw [if_neg e] at h4
      rw [if_neg (by omega), if_neg (by omega)]
theorem Renum.can (h : Renum l l' T C s q) (hN : NetOk l T C) (hc : Can l T C lo hi) : Can l' T C lo hi := by
  obtain ⟨x, hx⟩ := hc
  exact ⟨_, (truthL_iff (h.net hN)).1 (h.truth hN (truth_list hN hx))⟩

/-- Nets that have the same truths in the same rooms. -/
structure Alike (l l' : List Ang) (T C : Nat) : Prop where
  len : l'.length = l.length
  can : ∀ lo hi, Can l T C lo hi ↔ Can l' T C lo hi
  lo : ∀ e out, rmLo l' e out l'.length = rmLo l e out l.length
  hi : ∀ e out, rmHi l' e out l'.length = rmHi l e out l.length
theorem Renum.alike (h : Renum l l' T C s q) (hN : NetOk l T C) : Alike l l' T C := by
  have key : ∀ (i : Nat) (a : Ang), l[i]? = some a → ∃ a' : Ang, l'[i]? = some a' ∧ a'.r = a.r ∧ a'.w = a.w := fun i a ha => by
    obtain ⟨a', h1, h2, h3, _⟩ := h.at' i a ha
    exact ⟨a', h1, h2, h3⟩
  refine ⟨h.len, fun lo hi => ⟨fun hc => h.can hN hc, fun hc => (h.back hN).can (h.net hN) hc⟩, fun e out => ?_, fun e out => ?_⟩
  · funext i
    unfold rmLo
    rw [h.len]
    by_cases hi : i < l.length
    · have ha : l[i]? = some l[i] := by simp [hi]
      obtain ⟨a', h1, h2, h3⟩ := key i _ ha
      rw [ha, h1]
      simp only [rLo, h2, h3]
    · rw [if_neg hi, if_neg hi]
  · funext i
    unfold rmHi
    rw [h.len]
    by_cases hi : i < l.length
    · have ha : l[i]? = some l[i] := by simp [hi]
      obtain ⟨a', h1, h2, h3⟩ := key i _ ha
      rw [ha, h1]
      simp only [rHi, h2, h3]
    · rw [if_neg hi, if_neg hi]
theorem Alike.canE (h : Alike l l' T C) (e : Int) (out : List Int) : CanE l T C e out ↔ CanE l' T C e out := by
  unfold CanE
  rw [h.lo, h.hi]
  exact h.can _ _
theorem Alike.ends (h : Alike l l' T C) {i : Nat} {a b : Int} (he : EndsAre l T C lo hi i a b) : EndsAre l' T C lo hi i a b :=
  ⟨he.a0, he.b0, (h.can _ _).1 he.ca, (h.can _ _).1 he.cb, fun c h1 h2 h3 => he.na c h1 h2 ((h.can _ _).2 h3), fun c h1 h2 h3 => he.nb c h1 h2 ((h.can _ _).2 h3)⟩
theorem Alike.least (h : Alike l l' T C) {n s n' s' : Int} (h1 : LeastIs l T C n s) (h2 : LeastIs l' T C n' s') : n = n' ∧ s = s' := by
  rcases h1 with ⟨k, hk, hc, hno, rfl, rfl⟩ | ⟨hno, rfl, rfl⟩
  · rcases h2 with ⟨j, hj, hc2, hno2, rfl, rfl⟩ | ⟨hno2, _⟩
    · refine ⟨?_, rfl⟩
      by_cases e : k < j
      · exact absurd ((h.canE _ _).1 hc) (hno2 k e)
      · by_cases e2 : j < k
        · exact absurd ((h.canE _ _).2 hc2) (hno j e2)
        · omega
    · exact absurd ((h.canE _ _).1 hc) (hno2 k hk)
  · rcases h2 with ⟨j, hj, hc2, _⟩ | ⟨_, rfl, rfl⟩
    · exact absurd ((h.canE _ _).2 hc2) (hno j hj)
    · exact ⟨rfl, rfl⟩
theorem Alike.out (h : Alike l l' T C) {e : Int} {ys : List Nat} (hy : OutIs l T C e ys) : OutIs l' T C e ys := by
  refine ⟨by rw [h.len]; exact hy.ext, (h.canE _ _).1 hy.can, fun zs hz hc => hy.short zs (by rw [← h.len]; exact hz) ((h.canE _ _).2 hc), fun zs hz hc => hy.first zs (by rw [← h.len]; exact hz) ((h.canE _ _).2 hc)⟩
theorem can40_all (hr : ∀ a ∈ l, ReadOk a) (hn : l.length ≤ 12) {e : Int} : CanE l T C 40 [] ↔ CanE l T C e (outI (bitL (2 ^ l.length - 1))) := by
  have key : ∀ i, i < l.length → rmLo l 40 [] l.length i = 0 ∧ rmHi l 40 [] l.length i = 40 ∧ rmLo l e (outI (bitL (2 ^ l.length - 1))) l.length i = 0 ∧ rmHi l e (outI (bitL (2 ^ l.length - 1))) l.length i = 40 := fun i hi => by
    have ha : l[i]? = some l[i] := by simp [hi]
    have hm : (i : Int) ∈ outI (bitL (2 ^ l.length - 1)) := by rw [mem_outI, mem_all hn]; exact hi
    have k1 := hr l[i] (by simp)
    unfold ReadOk at k1
    simp only [rmLo, rmHi, hi, if_true, ha, hm, List.not_mem_nil, if_false, rLo, rHi]
    refine ⟨by omega, by omega, trivial, trivial⟩
  exact ⟨fun h => can_mono h fun i hi => by have := key i hi; omega, fun h => can_mono h fun i hi => by have := key i hi; omega⟩
/-- Least and Leave agree on whether anything serves. -/
theorem least_leave (hr : ∀ a ∈ l, ReadOk a) (hn : l.length ≤ 12) {n s e : Int} {v : Value} {s' : Int} (h1 : LeastIs l T C n s) (h2 : LeavesOut l T C e v s') : s = s' := by
  have hx : Ext l.length 0 (bitL (2 ^ l.length - 1)).length (bitL (2 ^ l.length - 1)) := bitL_ext (by have : 0 < 2 ^ l.length := Nat.pow_pos (by omega); omega)
  rcases h1 with ⟨k, hk, hc, _, _, rfl⟩ | ⟨hno, _, rfl⟩
  · rcases h2 with ⟨h, _⟩ | ⟨_, _, h⟩
    · exact h.symm
    · exact absurd ((can40_all hr hn).1 (canE_err hr (by omega) hc)) (h _ hx)
  · rcases h2 with ⟨_, _, _, ys, _, h⟩ | ⟨h, _⟩
    · exact absurd ((can40_all hr hn).2 (can_all hn h.ext h.can)) (hno 40 (by omega))
    · exact h.symm
end
/-- What Leave tells of a net without fault, with its list in memory. -/
def LeavesOwn (l : List Ang) (T C : Nat) (e : Int) (w : World) (v : Value) (s : Int) : Prop :=
  (s = 0 ∧ ∃ B d ys, v = .slice B (outI ys).length d ∧ IntsAt w B (outI ys) ∧ ys.length ≤ 12 ∧ OutIs l T C e ys) ∨ (s = 9 ∧ v = .slice none 0 0 ∧ ∀ zs, Ext l.length 0 zs.length zs → ¬ CanE l T C e (outI zs))
theorem LeavesOwn.below {l : List Ang} {T C : Nat} {e : Int} {w w' : World} {v : Value} {s : Int} (h : LeavesOwn l T C e w v s) (hb : Below w.heap.size w w') : LeavesOwn l T C e w' v s := by
  rcases h with ⟨h1, B, d, ys, h2, h3, h4⟩ | h
  · exact .inl ⟨h1, B, d, ys, h2, h3.below hb, h4⟩
  · exact .inr h
theorem LeavesOwn.out {l : List Ang} {T C : Nat} {e : Int} {w : World} {v : Value} {s : Int} (h : LeavesOwn l T C e w v s) : LeavesOut l T C e v s := by
  rcases h with ⟨h1, B, d, ys, h2, h3, _, h4⟩ | h
  · exact .inl ⟨h1, B, d, ys, by rw [h2, outI_len], h4⟩
  · exact .inr h
theorem leaves_own {w : World} {A : Option Addr} {l : List Ang} {c : Nat} {T C : Nat} {e : Int} (hA : AngAt w A l) (hAb : ∀ b o, A = some ⟨b, o, none⟩ → b < w.heap.size) (hV : Valid l T C) (he : 0 ≤ e ∧ e ≤ 40) : Calls Try.prog 56 #[.agg #[.slice A l.length c, .int .i64 T, .int .i64 C], .int .i64 e] w fun r w' => Below w.heap.size w w' ∧ ∃ v s, r = .returned (.tuple #[v, .int .i64 s]) ∧ LeavesOwn l T C e w' v s := by
  have hz := asked_in (err := e) (faultN_valid hV) he
  have hl := hV.len
  refine (leave_any w A l c T C e hA (by omega) hAb).mono ?_
  rintro r w' ⟨hb, v, s, rfl, ⟨h, _⟩ | ⟨_, ⟨h1, ys, h2, h3⟩ | h1⟩⟩
  · exact absurd hz h
  · obtain ⟨B, d, rfl, hI⟩ := own_ints h3
    have := ext_len h2.ext
    exact ⟨hb, _, s, rfl, .inl ⟨h1, B, d, ys, rfl, hI, by omega, h2⟩⟩
  · exact ⟨hb, v, s, rfl, .inr h1⟩

/-- Lists of angles that stand place by place in a relation. -/
structure Turn (l l' : List Ang) (R : Nat → Ang → Ang → Prop) : Prop where
  len : l'.length = l.length
  at' : ∀ (i : Nat) (a : Ang), l[i]? = some a → ∃ a' : Ang, l'[i]? = some a' ∧ R i a a'
theorem Turn.mono {l l' : List Ang} {R R' : Nat → Ang → Ang → Prop} (h : Turn l l' R) (hm : ∀ i a a', l[i]? = some a → R i a a' → R' i a a') : Turn l l' R' :=
  ⟨h.len, fun i a ha => by obtain ⟨a', h1, h2⟩ := h.at' i a ha; exact ⟨a', h1, hm i a a' ha h2⟩⟩
theorem Turn.set {l l' : List Ang} {R R' : Nat → Ang → Ang → Prop} (h : Turn l l' R) {k : Nat} {a b : Ang} (hk : l[k]? = some a) (hb : R' k a b) (ho : ∀ i a a', i ≠ k → R i a a' → R' i a a') : Turn l (l'.set k b) R' := by
  have hkl : k < l'.length := by rw [h.len]; exact (List.getElem?_eq_some_iff.1 hk).1
  refine ⟨by rw [List.length_set]; exact h.len, fun i x hx => ?_⟩
  by_cases e : i = k
  · subst e
    rw [hk] at hx
    cases hx
    exact ⟨b, List.getElem?_set_self hkl, hb⟩
  · obtain ⟨a', h1, h2⟩ := h.at' i x hx
    exact ⟨a', by rw [List.getElem?_set_ne (Ne.symm e)]; exact h1, ho i x a' e h2⟩
theorem KMem.put0 {w wr : World} {A : Option Addr} {n c : Nat} {T C : Int} {p g cap : Nat} {l : List Ang} (h : KMem w wr A n c T C p g cap l) {i : Nat} {a : Ang} (x : Int) (hi : l[i]? = some a) : KMem w (wr.setCell ⟨g, i * 4, none⟩ (.int .i64 x)) A n c T C p g cap (l.set i (a.put 0 x)) := h.put (j := 0) x hi (by omega)
end Go.Proofs.Ytnhbplnhhloklaa
