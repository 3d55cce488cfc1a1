/- Contracts of the reference's small functions: In, has, Fault, rising; of the law's fault and asked. -/
import Derived.Test.YtnhbplnhhloklaaC8
import Derived.Test.YtnhbplnhhloklaaC4
import Derived.WalkLawsBesides
import Derived.WalkSpells
namespace Go.Proofs.Ytnhbplnhhloklaa
open Go.RowKit

theorem in_any (n lo hi : Int) (w : World) : Calls Try.prog 58 #[.int .i64 n, .int .i64 lo, .int .i64 hi] w fun e w' => w = w' ∧ e = .returned (.bool (decide (lo ≤ n ∧ n ≤ hi))) := by
  by_cases h : lo ≤ n
  · have h' : decide (lo ≤ n) = true := by simpa using h
    go_enter Try.func58, Try.ntmps58
    go_wp2
    go_ret
    exact ⟨rfl, by simp [h]⟩
  · have h' : decide (lo ≤ n) = false := by simpa using h
    go_enter Try.func58, Try.ntmps58
    go_wp2
    go_ret
    exact ⟨rfl, by simp⟩

theorem bit_spell (b : Nat) (t : Int) : (((b : Int) / 2 ^ t.toNat).tmod 2 == 1) = b.testBit t.toNat := by
  rw [Nat.testBit_eq_decide_div_mod_eq]
  generalize t.toNat = k
  have e : ((b : Int) / 2 ^ k).tmod 2 = ((b / 2 ^ k % 2 : Nat) : Int) := by
    rw [Int.tmod_eq_emod_of_nonneg (Int.ediv_nonneg (by omega) (by exact Int.le_of_lt (Int.pow_pos (by omega))))]
    simp
  rw [e]
  generalize b / 2 ^ k % 2 = x
  rw [Bool.eq_iff_iff]
  simp
  omega
theorem has_any (w : World) (b : Nat) (t : Int) (_h0 : -1 ≤ t) (h1 : t ≤ 60) :
    Calls Try.prog 101 #[.int .i64 b, .int .i64 t] w fun e w' => w = w' ∧ e = .returned (.bool (decide (0 ≤ t) && b.testBit t.toNat)) := by
  by_cases h : 0 ≤ t
  · have hd : decide (0 ≤ t) = true := decide_eq_true h
    go_enter Try.func101, Try.ntmps101
    go_wp2
    go_ret
    exact ⟨rfl, by rw [← bit_spell b t, hd]; rfl⟩
  · have hd : decide (0 ≤ t) = false := decide_eq_false h
    go_enter Try.func101, Try.ntmps101
    go_wp2
    go_ret
    exact ⟨rfl, by simp⟩

theorem take_step {α : Type} {l : List α} {k : Nat} {a : α} (h : l[k]? = some a) : l.take (k + 1) = l.take k ++ [a] := by
  have hlt := (List.getElem?_eq_some_iff.1 h).1
  have : l[k] = a := (List.getElem?_eq_some_iff.1 h).2
  rw [List.take_succ_eq_append_getElem hlt, this]

set_option maxHeartbeats 2000000 in
theorem fault_any (w : World) (A : Option Addr) (l : List Ang) (c : Nat) (T C : Int) (hA : AngAt w A l) (hl : l.length ≤ 1000) :
    Calls Try.prog 46 #[.agg #[.slice A l.length c, .int .i64 T, .int .i64 C]] w fun e w' => Below w.heap.size w w' ∧ e = .returned (.int .i64 (faultN l T C)) := by
  have hbl : Below w.heap.size w (w.alloc (.cells #[.slice A l.length c, .int .i64 T, .int .i64 C] 24)) := (Below.refl _ w).alloc (Nat.le_refl _) _
  by_cases h1 : 12 < l.length
  · have h1' : decide (12 < (l.length : Int)) = true := decide_eq_true (by omega)
    have HF : Hid (faultN l T C = 3) := Lib.hid (by unfold faultN; rw [if_pos (.inl h1)])
    clear h1
    go_enter Try.func46, Try.ntmps46
    go_wp2
    go_ret
    exact ⟨hbl, by rw [HF.out]; rfl⟩
  · have h1' : decide (12 < (l.length : Int)) = false := decide_eq_false (by omega)
    by_cases h2 : 5 < T
    · have h2' : decide (5 < T) = true := decide_eq_true h2
      have HF : Hid (faultN l T C = 3) := Lib.hid (by unfold faultN; rw [if_pos (.inr (.inl h2))])
      clear h1 h2
      go_enter Try.func46, Try.ntmps46
      go_wp2
      go_ret
      exact ⟨hbl, by rw [HF.out]; rfl⟩
    · have h2' : decide (5 < T) = false := decide_eq_false h2
      by_cases h3 : 5 < C
      · have h3' : decide (5 < C) = true := decide_eq_true h3
        have HF : Hid (faultN l T C = 3) := Lib.hid (by unfold faultN; rw [if_pos (.inr (.inr h3))])
        clear h1 h2 h3
        go_enter Try.func46, Try.ntmps46
        go_wp2
        go_ret
        exact ⟨hbl, by rw [HF.out]; rfl⟩
      · have h3' : decide (5 < C) = false := decide_eq_false h3
        have hn : ¬ (12 < l.length ∨ 5 < T ∨ 5 < C) := by omega
        by_cases h4 : l.length = 0
        · have h4' : ((l.length : Int) == 0) = true := by simp [h4]
          have HF : Hid (faultN l T C = 1) := Lib.hid (by unfold faultN; rw [if_neg hn, if_pos (.inl h4)])
          clear h1 h2 h3 hn h4
          go_enter Try.func46, Try.ntmps46
          go_wp2
          go_ret
          exact ⟨hbl, by rw [HF.out]; rfl⟩
        · have h4' : ((l.length : Int) == 0) = false := beq_eq_false_iff_ne.2 (by omega)
          by_cases h5 : T < 0
          · have h5' : decide (T < 0) = true := decide_eq_true h5
            have HF : Hid (faultN l T C = 1) := Lib.hid (by unfold faultN; rw [if_neg hn, if_pos (.inr (.inl h5))])
            clear h1 h2 h3 hn h4 h5
            go_enter Try.func46, Try.ntmps46
            go_wp2
            go_ret
            exact ⟨hbl, by rw [HF.out]; rfl⟩
          · have h5' : decide (T < 0) = false := decide_eq_false h5
            by_cases h6 : C < 0
            · have h6' : decide (C < 0) = true := decide_eq_true h6
              have HF : Hid (faultN l T C = 1) := Lib.hid (by unfold faultN; rw [if_neg hn, if_pos (.inr (.inr (.inl h6)))])
              clear h1 h2 h3 hn h4 h5 h6
              go_enter Try.func46, Try.ntmps46
              go_wp2
              go_ret
              exact ⟨hbl, by rw [HF.out]; rfl⟩
            · have h6' : decide (C < 0) = false := decide_eq_false h6
              have hT0 : 0 ≤ T := by omega
              have hT5 : T ≤ 5 := by omega
              have hC0 : 0 ≤ C := by omega
              have hC5 : C ≤ 5 := by omega
              have HF1 : Hid (∀ a ∈ l, ¬ AOk T C a → faultN l T C = 1) := Lib.hid (fun a ha hna => by
                unfold faultN; rw [if_neg hn, if_pos (.inr (.inr (.inr (fun h => hna (h a ha)))))])
              have HF0 : Hid ((∀ a ∈ l, AOk T C a) → faultN l T C = 0) := Lib.hid (fun h7 => by
                unfold faultN; rw [if_neg hn, if_neg (by rintro (h | h | h | h); exact h4 h; exact h5 h; exact h6 h; exact h h7)])
              have hnet := at_alloc (w := w) (o := .cells #[.slice A l.length c, .int .i64 T, .int .i64 C] 24) rfl
              clear h1 h2 h3 h4 h5 h6 hn
              go_enter Try.func46, Try.ntmps46
              go_wp2_with fail
              generalize w.alloc (.cells #[.slice A l.length c, .int .i64 T, .int .i64 C] 24) = W0 at *
              go_loopw [3] (fun t wr => ∃ k : Nat, k ≤ l.length ∧ t = .int .i64 k ∧ Below w.heap.size w wr ∧ wr.heap[w.heap.size]? = some (.cells #[.slice A l.length c, .int .i64 T, .int .i64 C] 24 (0, 0)) ∧ Hid (∀ a ∈ l.take k, AOk T C a)) (fun t _ => l.length - (intOf t).toNat)
              case atStart => exact ⟨0, Nat.zero_le _, rfl, hbl, hnet, Lib.hid (by simp)⟩
              case round =>
                clear hbl hnet
                obtain ⟨k, hk, rfl, hbel, hnet, hall⟩ := hrel
                have hsr := (Array.getElem?_eq_some_iff.1 hnet).1
                have n0 := cell_of_block (j := 0) (v := .slice A l.length c) hnet rfl
                have n1 := cell_of_block (j := 1) (v := .int .i64 T) hnet rfl
                have n2 := cell_of_block (j := 2) (v := .int .i64 C) hnet rfl
                by_cases hlt : k < l.length
                · obtain ⟨⟨at', ac, ar, aw⟩, ha⟩ : ∃ a, l[k]? = some a := ⟨l[k], by simp [hlt]⟩
                  obtain ⟨b, o, rfl, hb, ha0, ha1, ha2, ha3⟩ := hA.below hbel k _ ha
                  dsimp only at ha0 ha1 ha2 ha3
                  have hmem := List.mem_of_getElem? ha
                  have HT := Lib.hid (take_step ha)
                  have hbel2 : Below w.heap.size w (wr.alloc (.cells #[.int .i64 at', .int .i64 ac, .int .i64 ar, .int .i64 aw] 74)) := hbel.alloc hbel.size _
                  have hnet2 := past_alloc (o := .cells #[.int .i64 at', .int .i64 ac, .int .i64 ar, .int .i64 aw] 74) hnet
                  by_cases p1 : -1 ≤ at' ∧ at' ≤ T - 1
                  · have d1 : decide (-1 ≤ at' ∧ at' ≤ T - 1) = true := decide_eq_true p1
                    by_cases p2 : -1 ≤ ac ∧ ac ≤ C - 1
                    · have d2 : decide (-1 ≤ ac ∧ ac ≤ C - 1) = true := decide_eq_true p2
                      by_cases p3 : 0 ≤ ar ∧ ar ≤ 40
                      · have d3 : decide (0 ≤ ar ∧ ar ≤ 40) = true := decide_eq_true p3
                        by_cases p4 : 1 ≤ aw ∧ aw ≤ 3
                        · have d4 : decide (1 ≤ aw ∧ aw ≤ 3) = true := decide_eq_true p4
                          have HN : Hid (∀ x ∈ l.take (k + 1), AOk T C x) := Lib.hid (by
                            rw [HT.out]; intro x hx
                            rcases List.mem_append.1 hx with h | h
                            · exact hall.out x h
                            · rw [List.mem_singleton.1 h]; exact ⟨p1, p2, p3, p4⟩)
                          clear p1 p2 p3 p4 ha hmem
                          go_wp2_with (go_at_call 58; refine (in_any _ _ _ _).mono ?_; rintro e w' ⟨rfl, rfl⟩)
                          go_roundw
                          case rel => exact ⟨k + 1, by omega, by go_num, hbel2, hnet2, HN⟩
                          case measure => simp [intOf]; omega
                        · have d4 : decide (1 ≤ aw ∧ aw ≤ 3) = false := decide_eq_false p4
                          have HN := Lib.hid (HF1.out _ hmem (fun h => p4 h.2.2.2))
                          clear p1 p2 p3 p4 ha hmem
                          go_wp2_with (go_at_call 58; refine (in_any _ _ _ _).mono ?_; rintro e w' ⟨rfl, rfl⟩)
                          go_ret
                          exact ⟨hbel2, by rw [HN.out]; rfl⟩
                      · have d3 : decide (0 ≤ ar ∧ ar ≤ 40) = false := decide_eq_false p3
                        have HN := Lib.hid (HF1.out _ hmem (fun h => p3 h.2.2.1))
                        clear p1 p2 p3 ha hmem
                        go_wp2_with (go_at_call 58; refine (in_any _ _ _ _).mono ?_; rintro e w' ⟨rfl, rfl⟩)
                        go_ret
                        exact ⟨hbel2, by rw [HN.out]; rfl⟩
                    · have d2 : decide (-1 ≤ ac ∧ ac ≤ C - 1) = false := decide_eq_false p2
                      have HN := Lib.hid (HF1.out _ hmem (fun h => p2 h.2.1))
                      clear p1 p2 ha hmem
                      go_wp2_with (go_at_call 58; refine (in_any _ _ _ _).mono ?_; rintro e w' ⟨rfl, rfl⟩)
                      go_ret
                      exact ⟨hbel2, by rw [HN.out]; rfl⟩
                  · have d1 : decide (-1 ≤ at' ∧ at' ≤ T - 1) = false := decide_eq_false p1
                    have HN := Lib.hid (HF1.out _ hmem (fun h => p1 h.1))
                    clear p1 ha hmem
                    go_wp2_with (go_at_call 58; refine (in_any _ _ _ _).mono ?_; rintro e w' ⟨rfl, rfl⟩)
                    go_ret
                    exact ⟨hbel2, by rw [HN.out]; rfl⟩
                · have HN : Hid (faultN l T C = 0) := Lib.hid (HF0.out (by
                    have : l.take k = l := List.take_of_length_le (by omega)
                    rw [this] at hall; exact hall.out))
                  go_wp2_with fail
                  go_ret
                  exact ⟨hbel, by rw [HN.out]; rfl⟩

theorem lfault_any (w : World) (A : Option Addr) (l : List Ang) (c : Nat) (T C : Int) (hA : AngAt w A l) (hl : l.length ≤ 1000) :
    Calls Try.prog 27 #[.agg #[.slice A l.length c, .int .i64 T, .int .i64 C]] w fun e w' => Below w.heap.size w w' ∧ e = .returned (.int .i64 (faultN l T C)) := by
  have hbl : Below w.heap.size w (w.alloc (.cells #[.slice A l.length c, .int .i64 T, .int .i64 C] 24)) := (Below.refl _ w).alloc (Nat.le_refl _) _
  go_enter Try.func27, Try.ntmps27
  go_wp2_with (go_at_call 46; refine (fault_any _ A l c T C (hA.below hbl) hl).mono ?_; rintro e w' ⟨hbe, rfl⟩)
  go_ret
  exact ⟨hbl.trans (hbe.mono hbl.size), rfl⟩

theorem lasked_any (w : World) (A : Option Addr) (l : List Ang) (c : Nat) (T C err : Int) (hA : AngAt w A l) (hl : l.length ≤ 1000) :
    Calls Try.prog 28 #[.agg #[.slice A l.length c, .int .i64 T, .int .i64 C], .int .i64 err] w fun e w' => Below w.heap.size w w' ∧ e = .returned (.int .i64 (askedN l T C err)) := by
  have hbl : Below w.heap.size w (w.alloc (.cells #[.slice A l.length c, .int .i64 T, .int .i64 C] 24)) := (Below.refl _ w).alloc (Nat.le_refl _) _
  by_cases h1 : faultN l T C = 0
  · have h1' : (faultN l T C != 0) = false := by simp [h1]
    by_cases h2 : 0 ≤ err ∧ err ≤ 40
    · have h2' : decide (0 ≤ err ∧ err ≤ 40) = true := decide_eq_true h2
      have HF : Hid (askedN l T C err = 0) := Lib.hid (by unfold askedN; rw [if_neg (by simp [h1]), if_pos h2])
      clear h1 h2
      go_enter Try.func28, Try.ntmps28
      go_wp2_with (first | (go_at_call 27; refine (lfault_any _ A l c T C (hA.below hbl) hl).mono ?_; rintro e w' ⟨hbe, rfl⟩) | (go_at_call 58; refine (in_any _ _ _ _).mono ?_; rintro e w' ⟨rfl, rfl⟩))
      go_ret
      exact ⟨hbl.trans (hbe.mono hbl.size), by rw [HF.out]; rfl⟩
    · have h2' : decide (0 ≤ err ∧ err ≤ 40) = false := decide_eq_false h2
      have HF : Hid (askedN l T C err = 2) := Lib.hid (by unfold askedN; rw [if_neg (by simp [h1]), if_neg h2])
      clear h1 h2
      go_enter Try.func28, Try.ntmps28
      go_wp2_with (first | (go_at_call 27; refine (lfault_any _ A l c T C (hA.below hbl) hl).mono ?_; rintro e w' ⟨hbe, rfl⟩) | (go_at_call 58; refine (in_any _ _ _ _).mono ?_; rintro e w' ⟨rfl, rfl⟩))
      go_ret
      exact ⟨hbl.trans (hbe.mono hbl.size), by rw [HF.out]; rfl⟩
  · have h1' : (faultN l T C != 0) = true := by simp [h1]
    have HF : Hid (askedN l T C err = faultN l T C) := Lib.hid (by unfold askedN; rw [if_pos h1])
    clear h1
    go_enter Try.func28, Try.ntmps28
    go_wp2_with (first | (go_at_call 27; refine (lfault_any _ A l c T C (hA.below hbl) hl).mono ?_; rintro e w' ⟨hbe, rfl⟩))
    go_ret
    exact ⟨hbl.trans (hbe.mono hbl.size), by rw [HF.out]; rfl⟩
end Go.Proofs.Ytnhbplnhhloklaa
