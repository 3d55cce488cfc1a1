/- Contracts of the reference's Bits and Less. -/
import Derived.Test.YtnhbplnhhloklaaE9
import Derived.Test.YtnhbplnhhloklaaF0
import Derived.Deep.QuietTactic
namespace Go.Proofs.Ytnhbplnhhloklaa
open Go.RowKit

/-- The bits below k. -/
def preL (b k : Nat) : List Nat := (List.range k).filter (fun i => b.testBit i)
theorem preL_yes {b k : Nat} (h : b.testBit k = true) : preL b (k + 1) = preL b k ++ [k] := by
  unfold preL; rw [List.range_succ, List.filter_append]; simp [h]
theorem preL_no {b k : Nat} (h : ¬ b.testBit k = true) : preL b (k + 1) = preL b k := by
  unfold preL; rw [List.range_succ, List.filter_append]; simp [h]
theorem preL_len (b k : Nat) : (preL b k).length ≤ k := by
  unfold preL
  have := List.length_filter_le (fun i => b.testBit i) (List.range k)
  simpa using this
/-- A list of indexes is returned, in a row of its own. -/
def RowOut (w : World) (ks : List Nat) (e : Ending) (w' : World) : Prop := Below w.heap.size w w' ∧ ∃ v, e = .returned v ∧ w'.ownsRow w.heap.size 3 1 v ks.length (outV ks)

set_option maxHeartbeats 2000000 in
theorem bits_any (w : World) (b : Nat) (_hb : b < 65536) : Calls Try.prog 63 #[.int .i64 b] w (RowOut w (bitL b)) := by
  go_enter Try.func63, Try.ntmps63
  go_wp2_with fail
  go_loopw [3, 4] (fun v t wr => ∃ k : Nat, k ≤ 16 ∧ t = .int .i64 k ∧ Below w.heap.size w wr ∧ wr.ownsRow w.heap.size 3 1 v (preL b k).length (outV (preL b k))) (fun _ t _ => 16 - (intOf t).toNat)
  case atStart => exact ⟨0, Nat.zero_le _, rfl, Below.refl _ _, World.ownsRow_nil _ _ _ _⟩
  case round =>
    obtain ⟨k, hk, rfl, hbel, hown⟩ := hrel
    have HO := Lib.hid hown
    have HBl := Lib.hid hbel
    clear hown hbel
    by_cases hlt : k < 16
    · have HB := Lib.hid (bit_spell b (k : Int))
      have hk0 : (0 : Int) ≤ k := by omega
      have hk1 : (k : Int) < 16 := by omega
      by_cases hbit : b.testBit k = true
      · have hd : (((b : Int) / 2 ^ k).tmod 2 == 1) = true := by have := HB.out; rw [Int.toNat_natCast] at this; rw [this]; exact hbit
        have HP := Lib.hid (preL_yes hbit)
        have hbg : Below wr.heap.size wr (wr.alloc (.cells #[.int .i64 k] 3)) := (Below.refl _ wr).alloc (Nat.le_refl _) _
        have HO4 := Lib.hid (ownsRow_below HO.out hbg (Nat.le_refl _))
        have hkn : (preL b k).length < 100000 := by have := preL_len b k; omega
        have hszA : w.heap.size ≤ (wr.alloc (.cells #[.int .i64 k] 3)).heap.size := Nat.le_trans HBl.out.size hbg.size
        have HW4 := Lib.hid (HBl.out.trans (hbg.mono HBl.out.size))
        clear hbg hbit
        go_wp2_with (at_builtin; refine wpList_push elem25 (wr.alloc (.cells #[.int .i64 k] 3)) (by rfl) (.tmp 15) (.tmp 17) (by rfl) w.heap.size _ (preL b k).length _ (by rfl) HO4.out wr.heap.size 1 [.int .i64 k] (by rfl) (at_alloc rfl) rfl (by simp [Value.oneCell']) hkn hszA ?_; intro v' w' how5 hbe5 _)
        go_roundw
        case rel =>
          refine ⟨k + 1, by omega, by go_num, HW4.out.trans hbe5, ?_⟩
          rw [HP.out, List.length_append, outV, List.map_append]
          exact how5
        case measure => simp [intOf]; omega
      · have hd : (((b : Int) / 2 ^ k).tmod 2 == 1) = false := by have := HB.out; rw [Int.toNat_natCast] at this; rw [this]; exact Bool.eq_false_iff.2 hbit
        have HP := Lib.hid (preL_no hbit)
        clear hbit
        go_wp2_with fail
        go_roundw
        case rel => exact ⟨k + 1, by omega, by go_num, HBl.out, by rw [HP.out]; exact HO.out⟩
        case measure => simp [intOf]; omega
    · obtain rfl : k = 16 := by omega
      go_wp2_with fail
      go_ret
      exact ⟨HBl.out, _, rfl, HO.out⟩

/-- Shorter, or as long and smaller at the first index at which they differ. -/
def lessL (xs ys : List Nat) : Prop := xs.length < ys.length ∨ (xs.length = ys.length ∧ lexLt xs ys)
theorem lex_at : ∀ {xs ys : List Nat} {k x y : Nat}, xs.take k = ys.take k → xs[k]? = some x → ys[k]? = some y → x ≠ y → (lexLt xs ys ↔ x < y)
  | [], _, k, x, y, _, hx, _, _ => by simp at hx
  | _ :: _, [], k, x, y, _, _, hy, _ => by simp at hy
  | a :: r, b :: s, 0, x, y, _, hx, hy, hne => by
    simp at hx hy
    subst hx hy
    unfold lexLt
    constructor
    · rintro (h | ⟨h, _⟩)
      · exact h
      · exact absurd h hne
    · exact .inl
  | a :: r, b :: s, k + 1, x, y, ht, hx, hy, hne => by
    simp only [List.take_succ_cons, List.cons.injEq] at ht
    obtain ⟨rfl, ht⟩ := ht
    have := lex_at (xs := r) (ys := s) ht (by simpa using hx) (by simpa using hy) hne
    unfold lexLt
    rw [this]
    constructor
    · rintro (h | ⟨_, h⟩)
      · exact absurd h (Nat.lt_irrefl _)
      · exact h
    · exact fun h => .inr ⟨rfl, h⟩
theorem lex_irr : ∀ {xs : List Nat}, ¬ lexLt xs xs
  | [] => fun h => by unfold lexLt at h; exact h
  | a :: r => fun h => by
    unfold lexLt at h
    rcases h with h | ⟨_, h⟩
    · exact Nat.lt_irrefl _ h
    · exact lex_irr h

theorem outI_get {xs : List Nat} {k : Nat} {x : Int} (h : (outI xs)[k]? = some x) : ∃ n : Nat, xs[k]? = some n ∧ x = n := by
  unfold outI at h
  rw [List.getElem?_map, Option.map_eq_some_iff] at h
  obtain ⟨n, h1, h2⟩ := h
  exact ⟨n, h1, h2.symm⟩
theorem outI_len (xs : List Nat) : (outI xs).length = xs.length := by simp [outI]

set_option maxHeartbeats 4000000 in
theorem less_quiet (w : World) (A B : Option Addr) (xs ys : List Nat) (c d : Nat) (b : Bool) (hb : b = true ↔ lessL xs ys) (hA : IntsAt w A (outI xs)) (hB : IntsAt w B (outI ys)) (hl : xs.length ≤ 1000000) (_hl2 : ys.length ≤ 1000000) :
    Calls Try.prog 62 #[.slice A xs.length c, .slice B ys.length d] w fun e w' => e = .returned (.bool b) ∧ ∃ m, w' = w.drewN m := by
  by_cases hlen : xs.length = ys.length
  · have hlen' : ((xs.length : Int) == ys.length) = true := by simp [hlen]
    have hlen2 : ((ys.length : Int) == ys.length) = true := by simp
    have HLEN := Lib.hid hlen
    go_enter Try.func62, Try.ntmps62
    go_wp2_with fail
    go_loopw [5] (fun t wr => ∃ k m : Nat, k ≤ xs.length ∧ t = .int .i64 k ∧ wr = w.drewN m ∧ Hid (xs.take k = ys.take k)) (fun t _ => xs.length - (intOf t).toNat)
    case atStart => exact ⟨0, 0, Nat.zero_le _, rfl, rfl, Lib.hid rfl⟩
    case round =>
      obtain ⟨k, m, hk, rfl, rfl, heq⟩ := hrel
      by_cases hlt : k < xs.length
      · obtain ⟨x, hx⟩ : ∃ x, xs[k]? = some x := ⟨xs[k], by simp [hlt]⟩
        have hlt2 : k < ys.length := by rw [← HLEN.out]; exact hlt
        obtain ⟨y, hy⟩ : ∃ y, ys[k]? = some y := ⟨ys[k], by simp [hlt2]⟩
        obtain ⟨b1, o1, rfl, hb1, hc1⟩ := hA k (x : Int) (by simp [outI, hx])
        obtain ⟨b2, o2, rfl, hb2, hc2⟩ := hB k (y : Int) (by simp [outI, hy])
        have hTx := Lib.hid (take_step hx)
        have hTy := Lib.hid (take_step hy)
        have hk0 : (0 : Int) ≤ k := by omega
        have hk1 : (k : Int) < xs.length := by omega
        have hk2 : (k : Int) < ys.length := by omega
        have HX := Lib.hid (And.intro hx hy)
        clear hx hy hlen
        go_wp2_with fail
        go_quiet (fail)
        by_cases he : x = y
        · have hd : ((x : Int) != y) = false := by simp [he]
          have HN : Hid (xs.take (k + 1) = ys.take (k + 1)) := Lib.hid (by rw [hTx.out, hTy.out, heq.out, he])
          clear he
          go_wp2_with fail
          go_roundw
          case rel => exact ⟨k + 1, m + nq, by omega, by go_num, rfl, HN⟩
          case measure => simp [intOf]; omega
        · have hd : ((x : Int) != y) = true := by simp; omega
          have HN : Hid (decide ((x : Int) < y) = b) := Lib.hid (by
            rw [Bool.eq_iff_iff, hb]
            unfold lessL
            rw [lex_at heq.out HX.out.1 HX.out.2 he]
            have := HLEN.out
            simp only [decide_eq_true_eq]
            constructor
            · intro h; exact .inr ⟨this, by omega⟩
            · rintro (h | ⟨_, h⟩)
              · omega
              · omega)
          have he' : ¬ ((x : Int) = y) := by omega
          clear he
          go_wp2_with fail
          go_quiet (fail)
          go_wp2_with fail
          go_ret
          exact ⟨by rw [← HN.out]; simp, _, by rw [World.drewN_drewN, World.drewN_drewN]⟩
      · have HN : Hid (b = false) := Lib.hid (by
          have h := heq.out
          rw [List.take_of_length_le (by omega), List.take_of_length_le (by omega)] at h
          subst h
          rw [Bool.eq_false_iff, Ne, hb]
          rintro (h | ⟨_, h⟩)
          · omega
          · exact lex_irr h)
        go_wp2_with fail
        go_ret
        exact ⟨by rw [HN.out]; simp, m, rfl⟩
  · have hlen' : ((xs.length : Int) == ys.length) = false := by simp; omega
    have HN : Hid (decide ((xs.length : Int) < ys.length) = b) := Lib.hid (by
      rw [Bool.eq_iff_iff, hb]
      unfold lessL
      simp only [decide_eq_true_eq]
      constructor
      · intro h; exact .inl (by omega)
      · rintro (h | ⟨h, _⟩)
        · omega
        · exact absurd h hlen)
    go_enter Try.func62, Try.ntmps62
    go_wp2_with fail
    go_loopw [5] (fun t wr => t = .int .i64 0 ∧ wr = w) (fun _ _ => 0)
    case atStart => exact ⟨rfl, rfl⟩
    case round =>
      obtain ⟨rfl, rfl⟩ := hrel
      by_cases h0 : 0 < xs.length
      · have hd : decide ((0 : Int) < xs.length) = true := decide_eq_true (by omega)
        go_wp2_with fail
        go_ret
        exact ⟨by rw [← HN.out]; simp, 0, rfl⟩
      · have hd : decide ((0 : Int) < xs.length) = false := decide_eq_false (by omega)
        go_wp2_with fail
        go_ret
        exact ⟨by rw [← HN.out]; simp, 0, rfl⟩
end Go.Proofs.Ytnhbplnhhloklaa
