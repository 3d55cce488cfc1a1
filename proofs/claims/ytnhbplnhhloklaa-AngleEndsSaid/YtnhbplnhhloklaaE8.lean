/- Contracts of the law's helpers: Thin, few, to, list, Cut, Net, ints. -/
import Derived.Test.YtnhbplnhhloklaaE4
import Derived.Sort.AtCall
namespace Go.Proofs.Ytnhbplnhhloklaa
open Go.RowKit

theorem thin_any (w : World) (A : Option Addr) (n c : Nat) (T C : Int) (_hn : n ≤ 9223372036854775807) : Calls Try.prog 19 #[.agg #[.slice A n c, .int .i64 T, .int .i64 C]] w fun e w' => Below w.heap.size w w' ∧ e = .returned (.bool (decide (n ≤ 15))) := by
  have hb := (NMem.made w A n c T C).below
  by_cases h : n ≤ 15
  · have hd : decide ((n : Int) ≤ 15) = true := decide_eq_true (by omega)
    go_enter Try.func19, Try.ntmps19
    go_wp2
    go_ret
    exact ⟨hb, by simp [h]⟩
  · have hd : decide ((n : Int) ≤ 15) = false := decide_eq_false (by omega)
    go_enter Try.func19, Try.ntmps19
    go_wp2
    go_ret
    exact ⟨hb, by simp [h]⟩

theorem few_any (w : World) (A : Option Addr) (l : List Ang) (c : Nat) (T C most : Int) (hA : AngAt w A l) (hl : l.length ≤ 9223372036854775807) :
    Calls Try.prog 34 #[.agg #[.slice A l.length c, .int .i64 T, .int .i64 C], .int .i64 most] w fun e w' => Below w.heap.size w w' ∧ e = .returned (.bool (decide (l.length ≤ 15 ∧ (faultN l T C ≠ 0 ∨ (l.length : Int) ≤ most)))) := by
  have hM := NMem.made w A l.length c T C
  by_cases h1 : l.length ≤ 15
  · have h1' : decide (l.length ≤ 15) = true := decide_eq_true h1
    have hl2 : l.length ≤ 1000 := by omega
    by_cases h2 : faultN l T C = 0
    · have h2' : (faultN l T C != 0) = false := by simp [h2]
      by_cases h3 : (l.length : Int) ≤ most
      · have h3' : decide ((l.length : Int) ≤ most) = true := decide_eq_true h3
        have HF : Hid (decide (l.length ≤ 15 ∧ (faultN l T C ≠ 0 ∨ (l.length : Int) ≤ most)) = true) := Lib.hid (decide_eq_true ⟨h1, .inr h3⟩)
        clear h1 h2 h3
        go_enter Try.func34, Try.ntmps34
        go_wp2_with (first | (go_at_call 19; refine (thin_any _ _ _ _ _ _ hl).mono ?_; rintro e W1 ⟨hb1, rfl⟩; have hM1 := hM.step hb1; have c0 := cell_of_block (j := 0) (v := .slice A l.length c) hM1.net rfl; have c1 := cell_of_block (j := 1) (v := .int .i64 T) hM1.net rfl; have c2 := cell_of_block (j := 2) (v := .int .i64 C) hM1.net rfl) | (go_at_call 46; refine (fault_any _ A l c T C (hA.below hM1.below) hl2).mono ?_; rintro e W2 ⟨hb2, rfl⟩; have hM2 := hM1.step hb2; have d0 := cell_of_block (j := 0) (v := .slice A l.length c) hM2.net rfl))
        go_ret
        exact ⟨hM2.below, by rw [HF.out]; rfl⟩
      · have h3' : decide ((l.length : Int) ≤ most) = false := decide_eq_false h3
        have HF : Hid (decide (l.length ≤ 15 ∧ (faultN l T C ≠ 0 ∨ (l.length : Int) ≤ most)) = false) := Lib.hid (decide_eq_false (by rintro ⟨_, h | h⟩; exact h h2; exact h3 h))
        clear h1 h2 h3
        go_enter Try.func34, Try.ntmps34
        go_wp2_with (first | (go_at_call 19; refine (thin_any _ _ _ _ _ _ hl).mono ?_; rintro e W1 ⟨hb1, rfl⟩; have hM1 := hM.step hb1; have c0 := cell_of_block (j := 0) (v := .slice A l.length c) hM1.net rfl; have c1 := cell_of_block (j := 1) (v := .int .i64 T) hM1.net rfl; have c2 := cell_of_block (j := 2) (v := .int .i64 C) hM1.net rfl) | (go_at_call 46; refine (fault_any _ A l c T C (hA.below hM1.below) hl2).mono ?_; rintro e W2 ⟨hb2, rfl⟩; have hM2 := hM1.step hb2; have d0 := cell_of_block (j := 0) (v := .slice A l.length c) hM2.net rfl))
        go_ret
        exact ⟨hM2.below, by rw [HF.out]; rfl⟩
    · have h2' : (faultN l T C != 0) = true := by simp [h2]
      have HF : Hid (decide (l.length ≤ 15 ∧ (faultN l T C ≠ 0 ∨ (l.length : Int) ≤ most)) = true) := Lib.hid (decide_eq_true ⟨h1, .inl h2⟩)
      clear h1 h2
      go_enter Try.func34, Try.ntmps34
      go_wp2_with (first | (go_at_call 19; refine (thin_any _ _ _ _ _ _ hl).mono ?_; rintro e W1 ⟨hb1, rfl⟩; have hM1 := hM.step hb1; have c0 := cell_of_block (j := 0) (v := .slice A l.length c) hM1.net rfl; have c1 := cell_of_block (j := 1) (v := .int .i64 T) hM1.net rfl; have c2 := cell_of_block (j := 2) (v := .int .i64 C) hM1.net rfl) | (go_at_call 46; refine (fault_any _ A l c T C (hA.below hM1.below) hl2).mono ?_; rintro e W2 ⟨hb2, rfl⟩; have hM2 := hM1.step hb2))
      go_ret
      exact ⟨hM2.below, by rw [HF.out]; rfl⟩
  · have h1' : decide (l.length ≤ 15) = false := decide_eq_false h1
    have HF : Hid (decide (l.length ≤ 15 ∧ (faultN l T C ≠ 0 ∨ (l.length : Int) ≤ most)) = false) := Lib.hid (decide_eq_false (fun h => h1 h.1))
    clear h1
    go_enter Try.func34, Try.ntmps34
    go_wp2_with (first | (go_at_call 19; refine (thin_any _ _ _ _ _ _ hl).mono ?_; rintro e W1 ⟨hb1, rfl⟩; have hM1 := hM.step hb1))
    go_ret
    exact ⟨hM1.below, by rw [HF.out]; rfl⟩

theorem to_any (w : World) (a b : Int) : Calls Try.prog 38 #[.agg #[.int .i64 a, .int .i64 b]] w fun e w' => Below w.heap.size w w' ∧ e = .returned (.agg #[.int .i64 a, .int .i64 b]) := by
  go_enter Try.func38, Try.ntmps38
  go_wp2
  refine bodyPost_ret (v := .agg #[.int .i64 a, .int .i64 b]) (by simp [results, Try.results38, go_sem]) rfl ⟨?_, rfl⟩
  exact ((Below.refl _ w).alloc (Nat.le_refl _) _).alloc (by simp) _

theorem map_int_one (l : List Int) : ∀ u ∈ l.map (Value.int IntKind.i64), u.oneCell' = true := by
  intro u hu
  obtain ⟨x, _, rfl⟩ := List.mem_map.1 hu
  rfl
theorem addr_add (b o j : Nat) : (⟨b, o, none⟩ : Addr).add j = ⟨b, o + j, none⟩ := by
  by_cases e : j = 0
  · subst e; simp [Addr.add]
  · simp [Addr.add, e]
theorem own_intsI {w : World} {base k : Nat} {v : Value} {xs : List Int} (h : w.ownsRow base 3 1 v k (xs.map (Value.int .i64))) : k = xs.length ∧ ∃ B d, v = .slice B xs.length d ∧ IntsAt w B xs ∧ ∀ b o, B = some ⟨b, o, none⟩ → base ≤ b := by
  have hl := h.1
  rw [List.length_map, Nat.mul_one] at hl
  refine ⟨hl.symm, ?_⟩
  subst hl
  rcases h.2 with ⟨rfl, h0⟩ | ⟨g, cap, cur, rfl, hb, hh, hc, hm, hs, ht⟩
  · refine ⟨none, 0, by rw [h0], ?_, fun b o e => by cases e⟩
    rw [List.length_eq_zero_iff.1 h0]; exact IntsAt.nil _ _
  · refine ⟨some ⟨g, 0, none⟩, cap, rfl, fun i x hi => ⟨g, 0, rfl, (Array.getElem?_eq_some_iff.1 hh).1, ?_⟩, fun b o e => by cases e; exact hb⟩
    have := h.cells (g := g) rfl i (.int .i64 x) (by rw [List.getElem?_map, hi]; rfl)
    rw [addr_add] at this
    exact this

/-- append of some elements, or of none, onto an own row. -/
theorem wpList_pushM {t e : TypeId} {size bytes : Nat} {z : Value} (E : Elem t e size bytes z) (W : World) {ops : Array Oper} {rest : List Oper} {o : Oper} {a : Act} {Q : Exit → Act → World → Prop} (hgd : o.guard = none) (s x : Operand)
    (ho : o.op = .call { callee := .builtin .append, args := #[s, x], argTypes := #[t, t] }) (base : Nat) (v : Value) (n : Nat) (xs : List Value) (hs : a.eval s = v) (hown : W.ownsRow base e size v n xs)
    (ad : Addr) (m c N : Nat) (news : List Value) (hx : a.eval x = .slice (some ad) m c) (hnews : ∀ j u, news[j]? = some u → W.cell? (ad.add j) = some u) (hl : news.length = m * size) (h1 : ∀ u ∈ news, u.oneCell' = true) (hN : n + m = N) (hn : N < 100000) (hbase : base ≤ W.heap.size)
    (h : ∀ v' w', w'.ownsRow base e size v' N (xs ++ news) → Below base W w' → wpList Try.prog ops Q rest (a.put o.dst v') w') :
    wpList Try.prog ops Q (o :: rest) a W := by
  subst hN
  obtain ⟨i, hi, hz0, hz1, hz2⟩ := E.info
  have := E.small
  refine wpList_append_own W hgd s x t ho base e i z size bytes E.und hi hz0 hz1 hz2 E.zs E.pos v n xs hs hown ad m c news hx hl hnews h1 (by simp only [maxLen]; omega) ?_ hbase ?_
  · have h2 : (n + m) * bytes ≤ (n + m) * 100 := Nat.mul_le_mul_left _ this
    omega
  · intro v' w1 how hgrow _
    exact h v' _ how ((Below.refl base W).grown hgrow hbase (fun k hk => (hown.lt k hk).1))

/-- A list is returned. -/
def IntsOut (w : World) (l : List Int) (e : Ending) (w' : World) : Prop := Below w.heap.size w w' ∧ ∃ B d, e = .returned (.slice B l.length d) ∧ IntsAt w' B l ∧ ∀ b o, B = some ⟨b, o, none⟩ → w.heap.size ≤ b
theorem list_any (w : World) (A : Option Addr) (l : List Int) (c : Nat) (hA : IntsAt w A l) (h0 : A = none → l = [] ∧ c = 0) (hl : l.length ≤ 1000) :
    Calls Try.prog 23 #[.slice A l.length c] w (IntsOut w l) := by
  cases A with
  | none =>
    obtain ⟨rfl, rfl⟩ := h0 rfl
    go_enter Try.func23, Try.ntmps23
    go_wp2
    go_ret
    exact ⟨Below.refl _ _, none, 0, rfl, IntsAt.nil _ _, fun b o e => by cases e⟩
  | some ad =>
    have hnews : ∀ j u, (l.map (Value.int IntKind.i64))[j]? = some u → w.cell? (ad.add j) = some u := by
      intro j u hj
      rw [List.getElem?_map, Option.map_eq_some_iff] at hj
      obtain ⟨x, hx, rfl⟩ := hj
      obtain ⟨b, o, he, _, hc⟩ := hA j x hx
      cases he
      rw [addr_add]
      exact hc
    have HN := Lib.hid hnews
    have hlm : (l.map (Value.int IntKind.i64)).length = l.length * 1 := by simp
    have HLM := Lib.hid hlm
    clear hnews hlm
    have hl5 : l.length < 100000 := by omega
    go_enter Try.func23, Try.ntmps23
    go_wp2_with (at_builtin; refine wpList_pushM elem25 w (by rfl) (.const (.slice none 0 0)) (.tmp 3) (by rfl) w.heap.size (.slice none 0 0) 0 [] (by rfl) (World.ownsRow_nil _ _ _ _) ad l.length c l.length (l.map (Value.int .i64)) (by rfl) HN.out HLM.out (map_int_one l) (Nat.zero_add _) hl5 (Nat.le_refl _) ?_; intro v' w1 how hb)
    go_ret
    rw [List.nil_append] at how
    obtain ⟨_, B, d, rfl, hI, hBb⟩ := own_intsI how
    exact ⟨hb, B, d, rfl, hI, hBb⟩
end Go.Proofs.Ytnhbplnhhloklaa
