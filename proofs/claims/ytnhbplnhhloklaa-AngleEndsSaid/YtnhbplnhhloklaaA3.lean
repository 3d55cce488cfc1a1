/- A law of regions that draw their order, inside a round; contracts of the smaller of two numbers and of arcs; augmenting paths as a relation. -/
import Derived.Test.YtnhbplnhhloklaaA2
namespace Go.Proofs.Ytnhbplnhhloklaa
open Go.RowKit
section
variable {F : Fence} {n : Nat} {P : Program} {ops : Array Oper} {Q : Exit → Act → World → Prop}

theorem ready_mem {md : Region.Mode} {ops : Array Oper} {l : Array Bool} {i : Nat} (h : i ∈ Region.ready md ops l) :
    i < ops.size ∧ l.getD i true = false ∧ ∃ o, ops[i]? = some o ∧ ∀ e ∈ o.after, Region.binds md e = true → l.getD e.on false = true := by
  unfold Region.ready at h
  rw [List.mem_filter, List.mem_range] at h
  obtain ⟨h1, h2⟩ := h
  simp only [Bool.and_eq_true, Bool.not_eq_true'] at h2
  refine ⟨h1, h2.1, ops[i], by simp [h1], ?_⟩
  have h3 := h2.2
  rw [Array.getElem?_eq_getElem h1, Option.map_some, Option.getD_some, Array.all_eq_true_iff_forall_mem] at h3
  intro e he hb
  have := h3 e he
  simpa [hb] using this

theorem ready_nil {md : Region.Mode} {ops : Array Oper} {l : Array Bool} (hs : l.size = ops.size) (hac : ∀ (i : Nat) (o : Oper), ops[i]? = some o → ∀ e ∈ o.after, e.on < i) (h : Region.ready md ops l = []) :
    ∀ i, i < ops.size → l.getD i false = true := by
  intro i
  induction i using Nat.strongRecOn with
  | _ i ih =>
    intro hi
    cases hl : l.getD i false with
    | true => rfl
    | false =>
      exfalso
      have hmem : i ∈ Region.ready md ops l := by
        unfold Region.ready
        rw [List.mem_filter, List.mem_range]
        refine ⟨hi, ?_⟩
        have h1 : l.getD i true = false := by
          have hli : i < l.size := by omega
          simp [Array.getD, hli] at hl ⊢
          exact hl
        rw [h1, Array.getElem?_eq_getElem hi, Option.map_some, Option.getD_some]
        simp only [Bool.not_false, Bool.true_and, Array.all_eq_true_iff_forall_mem]
        intro e he
        have hlt := hac i ops[i] (by simp [hi]) e he
        rw [ih e.on hlt (by omega)]
        simp
      rw [h] at hmem
      cases hmem

/-- Each edge goes to an earlier operation. -/
def acyc (ops : Array Oper) : Bool := ops.toList.zipIdx.all fun p => p.1.after.toList.all fun e => decide (e.on < p.2)
theorem acyc_spec {ops : Array Oper} (h : acyc ops = true) (i : Nat) (o : Oper) (ho : ops[i]? = some o) : ∀ e ∈ o.after, e.on < i := by
  intro e he
  unfold acyc at h
  rw [List.all_eq_true] at h
  have h1 := h (o, i) (List.mem_zipIdx_iff_getElem?.2 (by simpa using ho))
  rw [List.all_eq_true] at h1
  simpa using h1 e (Array.mem_toList_iff.2 he)

/-- A region of open order by one relation over what has been listed so far. -/
theorem wpAnyIn_inv {md : Region.Mode} (I : Array Bool → Act → World → Prop) (hac : ∀ (i : Nat) (o : Oper), ops[i]? = some o → ∀ e ∈ o.after, e.on < i)
    (hstep : ∀ (l : Array Bool) (a : Act) (w : World) (i : Nat) (o : Oper), l.size = ops.size → ops[i]? = some o → l.getD i false = false → (∀ e ∈ o.after, Region.binds md e = true → l.getD e.on false = true) → I l a w → ∀ K : Act → World → Prop, (∀ a' w', I (l.setIfInBounds i true) a' w' → K a' w') → wpOpIn F n P ops Q i K a w)
    (hend : ∀ (l : Array Bool) (a : Act) (w : World), (∀ i, i < ops.size → l.getD i false = true) → I l a w → Q .normal a w) :
    ∀ (fuel : Nat) (l : Array Bool) (a : Act) (w : World), l.size = ops.size → (l.toList.filter (fun b => !b)).length ≤ fuel → I l a w → wpAnyIn F n P md ops Q fuel l a w := by
  have cnt : ∀ (l : List Bool) (i : Nat), l[i]? = some false → ((l.set i true).filter (fun b => !b)).length + 1 = (l.filter (fun b => !b)).length := by
    intro l
    induction l with
    | nil => intro i h; simp at h
    | cons x r ih =>
      intro i h
      cases i with
      | zero => simp at h; subst h; simp
      | succ i =>
        simp at h
        have := ih i h
        cases x <;> simp at * <;> omega
  intro fuel
  induction fuel with
  | zero =>
    intro l a w hs hf hI
    have hall : ∀ i, i < ops.size → l.getD i false = true := by
      intro i hi
      cases hl : l.getD i false with
      | true => rfl
      | false =>
        have hli : i < l.size := by omega
        have : l.toList[i]? = some false := by simp [Array.getD, hli] at hl ⊢; exact hl
        have := cnt _ _ this
        omega
    refine ⟨?_, hend l a w hall hI⟩
    refine List.eq_nil_iff_forall_not_mem.2 (fun i hi => ?_)
    obtain ⟨h1, h2, _⟩ := ready_mem hi
    have h3 := hall i h1
    have hli : i < l.size := by omega
    simp [Array.getD, hli] at h2 h3
    rw [h2] at h3; cases h3
  | succ fuel ih =>
    intro l a w hs hf hI
    refine ⟨fun hr => hend l a w (ready_nil hs hac hr) hI, fun i hi => ?_⟩
    obtain ⟨h1, h2, o, ho, h3⟩ := ready_mem hi
    have hli : i < l.size := by omega
    have h4 : l.getD i false = false := by simp [Array.getD, hli] at h2 ⊢; exact h2
    refine wpOpIn_mono (fun a' w' hI' => ih (l.setIfInBounds i true) a' w' (by simp [hs]) ?_ hI') (hstep l a w i o hs ho h4 h3 hI _ (fun _ _ h => h))
    have : l.toList[i]? = some false := by simp [Array.getD, hli] at h2 ⊢; exact h2
    have := cnt _ _ this
    rw [Array.toList_setIfInBounds]
    omega

/-- Number i is listed too. -/
def up (b : Nat → Bool) (i : Nat) : Nat → Bool := fun j => if j = i then true else b j

theorem wpIn_region_inv {id : Nat} {a : Act} {w : World} (hm : P.follows .mixedOrders = true) (I : (Nat → Bool) → Act → World → Prop) (hac : acyc ops = true)
    (h0 : I (fun _ => false) a w.drew)
    (hstep : ∀ (b : Nat → Bool) (a : Act) (w : World) (i : Nat) (o : Oper), ops[i]? = some o → b i = false → (∀ e ∈ o.after, Region.binds .any e = true → b e.on = true) → I b a w → ∀ K : Act → World → Prop, (∀ a' w', I (up b i) a' w' → K a' w') → wpOpIn F n P ops Q i K a w)
    (hend : ∀ (b : Nat → Bool) (a : Act) (w : World), (∀ i, i < ops.size → b i = true) → I b a w → Q .normal a w) :
    (Code.region id ops true).wpIn F n P Q a w := by
  refine wpIn_region_any hm (wpAnyIn_inv (fun l => I (fun j => l.getD j false)) (acyc_spec hac) ?_ ?_ ops.size _ a _ (by simp) (by simp) ?_)
  · intro l a w i o hs ho hl hn hI K hK
    refine hstep _ a w i o ho hl hn hI K fun a' w' h => hK a' w' ?_
    have hi : i < l.size := by have := (Array.getElem?_eq_some_iff.1 ho).1; omega
    have e : (fun j => (l.setIfInBounds i true).getD j false) = up (fun j => l.getD j false) i := by
      funext j
      unfold up
      by_cases hj : j = i
      · subst hj; simp [Array.getD, hi]
      · rw [if_neg hj]
        simp [Array.getD_eq_getD_getElem?, Ne.symm hj]
    rw [e]; exact h
  · intro l a w hall hI
    exact hend _ a w hall hI
  · have e : (fun j => (Array.replicate ops.size false).getD j false) = fun _ => false := by
      funext j
      simp [Array.getD]
    rw [e]; exact h0
end

theorem min2_int (x y : Int) : Builtin.min2 (.int .i64 x) (.int .i64 y) = pure (.int .i64 (min x y)) := by
  simp only [Builtin.min2]
  congr 2
  split <;> omega
theorem max2_int (x y : Int) : Builtin.max2 (.int .i64 x) (.int .i64 y) = pure (.int .i64 (max x y)) := by
  simp only [Builtin.max2]
  congr 2
  split <;> omega
theorem max_two (ats : Array TypeId) (ty : TypeId) (a b : Value) : Builtin.max_ ats ty #[a, b] = (Builtin.max2 a b >>= fun s => pure s) := by simp only [Builtin.max_, List.foldlM_cons, List.foldlM_nil]
theorem min_two (ats : Array TypeId) (ty : TypeId) (a b : Value) : Builtin.min_ ats ty #[a, b] = (Builtin.min2 a b >>= fun s => pure s) := by simp only [Builtin.min_, List.foldlM_cons, List.foldlM_nil]
attribute [local go_sem] min2_int min_two max2_int max_two
theorem min2_any (w : World) (b : Nat) (x y : Int) (h : w.heap[b]? = some (.cells #[.int .i64 x, .int .i64 y] 3 (0, 0))) :
    Calls Try.prog 121 #[.slice (some ⟨b, 0, none⟩) 2 2] w fun e w' => e = .returned (.int .i64 (min x y)) ∧ w = w' := by
  have c0 := cell_of_block (j := 0) h rfl
  have c1 := cell_of_block (j := 1) h rfl
  go_enter Try.func121, Try.ntmps121
  go_wp2
  go_loop [3, 4] (fun a i => (i = .int .i64 1 ∧ a = .int .i64 x) ∨ (i = .int .i64 2 ∧ a = .int .i64 (min x y))) (fun _ i => 2 - (intOf i).toNat)
  case atStart => exact .inl ⟨rfl, rfl⟩
  case round =>
    rcases hrel with ⟨rfl, rfl⟩ | ⟨rfl, rfl⟩
    · go_wp2
      go_round
      case rel => exact .inr ⟨rfl, rfl⟩
      case measure => simp [intOf]
    · go_wp2
      go_ret
      exact ⟨rfl, rfl⟩
theorem small2_any (w : World) (b : Nat) (x y : Int) (h : w.heap[b]? = some (.cells #[.int .i64 x, .int .i64 y] 3 (0, 0))) :
    Calls Try.prog 96 #[.slice (some ⟨b, 0, none⟩) 2 2] w fun e w' => e = .returned (.int .i64 (min x y)) ∧ w = w' := by
  go_enter Try.func96, Try.ntmps96
  go_wp2_with (go_at_call 121; refine (min2_any _ _ _ _ h).mono ?_; rintro e w' ⟨rfl, rfl⟩)
  go_ret
  exact ⟨rfl, rfl⟩

abbrev LL := Int → Int → Int → Int
abbrev Seen := Nat → Bool

/-- Flow g goes from a node to the last one along arcs between nodes that were not seen. -/
inductive Aug (m : Nat) : Nat → Int → Seen → LL → LL → Prop
  | last (g : Int) (s : Seen) (L : LL) : Aug m 12 g s L L
  | step {fr to : Nat} {i g : Int} {s s1 : Seen} {L L1 : LL} (hf : fr < 13) (ht : to < 13) (hi : -1 ≤ i) (hm : i < m) (hs : s fr = false) (hss : ∀ j, s j = true → s1 j = true) (hs1 : s1 fr = true) (hs2 : s1 to = false)
      (hg : g ≤ L fr to i) (h : Aug m to g s1 L L1) : Aug m fr g s L (pushL L1 fr to i g)

/-- From a node nothing can flow any more: what was seen now is closed. -/
structure Dead (m : Nat) (fr : Nat) (s s' : Seen) (L : LL) : Prop where
  mono : ∀ j, s j = true → s' j = true
  me : s' fr = true
  last : s' 12 = true → s 12 = true
  closed : ∀ u, u < 13 → s' u = true → s u = false → ∀ v : Nat, v < 13 → ∀ i : Int, -1 ≤ i → i < m → 0 < L u v i → s' v = true

structure Bnd (L : LL) : Prop where
  nn : ∀ u v i, 0 ≤ L u v i
  le : ∀ u v i, L u v i + L v u i ≤ 1000000

theorem pushL_at {L : LL} {u v i n : Int} (h : u ≠ v) (a b c : Int) : pushL L u v i n a b c = if a = u ∧ b = v ∧ c = i then L u v i - n else if a = v ∧ b = u ∧ c = i then L v u i + n else L a b c := by
  unfold pushL upd
  by_cases h1 : a = u ∧ b = v ∧ c = i
  · obtain ⟨rfl, rfl, rfl⟩ := h1
    rw [if_neg (by rintro ⟨h2, _⟩; exact h h2)]
    simp
  · by_cases h2 : a = v ∧ b = u ∧ c = i
    · obtain ⟨rfl, rfl, rfl⟩ := h2
      simp [Ne.symm h]
    · rw [if_neg h2, if_neg h1, if_neg h1, if_neg h2]

theorem Aug.same {m fr : Nat} {g : Int} {s : Seen} {L L' : LL} (h : Aug m fr g s L L') : ∀ (u v : Nat) (i : Int), s u = true ∨ s v = true → L' u v i = L u v i := by
  induction h with
  | last => intro u v i _; rfl
  | @step fr to i g s s1 L L1 hf ht hi hm hs hss hs1 hs2 hg h ih =>
    intro u v j hsv
    have hne : (fr : Int) ≠ to := by
      intro e
      have : fr = to := by omega
      rw [this, hs2] at hs1; cases hs1
    have hto : s to = false := by
      cases hh : s to with
      | false => rfl
      | true => rw [hss _ hh] at hs2; cases hs2
    rw [pushL_at hne, if_neg, if_neg, ih u v j (hsv.imp (hss _) (hss _))]
    · rintro ⟨h1, h2, _⟩
      have h1' : u = to := by omega
      have h2' : v = fr := by omega
      subst h1' h2'
      rcases hsv with h | h
      · rw [hto] at h; cases h
      · rw [hs] at h; cases h
    · rintro ⟨h1, h2, _⟩
      have h1' : u = fr := by omega
      have h2' : v = to := by omega
      subst h1' h2'
      rcases hsv with h | h
      · rw [hs] at h; cases h
      · rw [hto] at h; cases h

theorem Aug.bnd {m fr : Nat} {g : Int} {s : Seen} {L L' : LL} (h : Aug m fr g s L L') (hg0 : 0 ≤ g) (hb : Bnd L) : Bnd L' := by
  induction h with
  | last => exact hb
  | @step fr to i g s s1 L L1 hf ht hi hm hs hss hs1 hs2 hg h ih =>
    have hne : (fr : Int) ≠ to := by
      intro e
      have : fr = to := by omega
      rw [this, hs2] at hs1; cases hs1
    have hb1 := ih hg0 hb
    have e1 := h.same fr to i (.inl hs1)
    refine ⟨fun u v j => ?_, fun u v j => ?_⟩
    · rw [pushL_at hne]
      split
      · rw [e1]; omega
      · split
        · have := hb1.nn to fr i; omega
        · exact hb1.nn u v j
    · rw [pushL_at hne, pushL_at hne]
      have h1 := hb1.le u v j
      have h2 := hb1.le fr to i
      by_cases c1 : u = fr ∧ v = to ∧ j = i
      · obtain ⟨rfl, rfl, rfl⟩ := c1
        rw [if_pos ⟨rfl, rfl, rfl⟩, if_neg (by rintro ⟨h, _⟩; exact hne h.symm), if_pos ⟨rfl, rfl, rfl⟩]
        omega
      · by_cases c2 : u = to ∧ v = fr ∧ j = i
        · obtain ⟨rfl, rfl, rfl⟩ := c2
          rw [if_neg c1, if_pos ⟨rfl, rfl, rfl⟩, if_pos ⟨rfl, rfl, rfl⟩]
          omega
        · rw [if_neg c1, if_neg c2, if_neg (by rintro ⟨h, h', h''⟩; exact c2 ⟨h', h, h''⟩), if_neg (by rintro ⟨h, h', h''⟩; exact c1 ⟨h', h, h''⟩)]
          exact h1

def cnt (s : Seen) : Nat := ((List.range 13).filter (fun j => !s j)).length

theorem cnt_lt {s s' : Seen} (hm : ∀ j, s j = true → s' j = true) {k : Nat} (hk : k < 13) (h0 : s k = false) (h1 : s' k = true) : cnt s' < cnt s := by
  unfold cnt
  have key : ∀ l : List Nat, (l.filter (fun j => !s' j)).length ≤ (l.filter (fun j => !s j)).length ∧ (k ∈ l → (l.filter (fun j => !s' j)).length < (l.filter (fun j => !s j)).length) := by
    intro l
    induction l with
    | nil => simp
    | cons x r ih =>
      have hx := hm x
      constructor
      · cases h : s x <;> cases h' : s' x <;> simp_all <;> omega
      · intro hkx
        by_cases e : x = k
        · subst e
          simp [h0, h1]; omega
        · have hr : k ∈ r := by
            rcases List.mem_cons.1 hkx with h | h
            · exact absurd h.symm e
            · exact h
          have := ih.2 hr
          cases h : s x <;> cases h' : s' x <;> simp_all <;> omega
  exact (key _).2 (List.mem_range.2 hk)
theorem cnt_pos {s : Seen} {k : Nat} (hk : k < 13) (h0 : s k = false) : 0 < cnt s := by
  have := cnt_lt (s := s) (s' := fun _ => true) (fun _ _ => rfl) hk h0 rfl
  omega

theorem arcs_any (w : World) (p : Option Addr) (fr : Int) : Calls Try.prog 95 #[.pointer p, .int .i64 fr] w fun e w' =>
    e = .returned (.func (.func 120) #[] #[.pointer (some ⟨w.heap.size, 0, none⟩), .pointer (some ⟨w.heap.size + 1, 0, none⟩)]) ∧ w' = (w.alloc (.cells #[.pointer p] 136)).alloc (.cells #[.int .i64 fr] 3) := by
  go_enter Try.func95, Try.ntmps95
  go_wp2
  go_ret
  exact ⟨rfl, rfl⟩

def bools (s : Nat → Bool) : Array Value := ((List.range 13).map (fun k => Value.bool (s k))).toArray
def mark (s : Nat → Bool) (k : Nat) : Nat → Bool := fun j => if j = k then true else s j

theorem bools_get {s : Nat → Bool} {k : Nat} (h : k < 13) : (bools s)[k]? = some (.bool (s k)) := by
  simp [bools, h]
theorem bools_set {s : Nat → Bool} {k : Nat} : (bools s).setIfInBounds k (.bool true) = bools (mark s k) := by
  apply Array.ext'
  rw [Array.toList_setIfInBounds]
  simp only [bools]
  apply List.ext_getElem?
  intro j
  by_cases hj : j < 13
  · by_cases e : k = j
    · subst e
      rw [List.getElem?_set_self (by simpa using hj)]
      simp [hj, mark]
    · rw [List.getElem?_set_ne e]
      simp [hj, mark, Ne.symm e]
  · rw [List.getElem?_eq_none (by simp; omega), List.getElem?_eq_none (by simp; omega)]

end Go.Proofs.Ytnhbplnhhloklaa
