/- Contract of the reference's Rooms. -/
import Derived.Test.YtnhbplnhhloklaaE0
import Derived.Test.YtnhbplnhhloklaaD1
namespace Go.Proofs.Ytnhbplnhhloklaa
open Go.RowKit
attribute [local go_sem] min2_int min_two max2_int max_two

theorem elem44 : Elem 44 60 2 16 (.agg #[.int .i64 0, .int .i64 0]) := ⟨by kernel_rfl, elem_info (by kernel_rfl), rfl, by decide, by decide⟩

/-- The numbers of bits. -/
def bitL (b : Nat) : List Nat := (List.range 16).filter (fun i => b.testBit i)
theorem mem_bitL {b i : Nat} : i ∈ bitL b ↔ i < 16 ∧ b.testBit i = true := by unfold bitL; simp [List.mem_filter]
theorem mem_outI {xs : List Nat} {i : Nat} : (i : Int) ∈ outI xs ↔ i ∈ xs := by
  unfold outI
  rw [List.mem_map]
  constructor
  · rintro ⟨a, ha, e⟩
    have : a = i := by omega
    rw [← this]; exact ha
  · intro h; exact ⟨i, h, rfl⟩
/-- Rooms as the reference holds them. -/
def rmV (lo hi : Nat → Int) (k : Nat) : List Value := (List.range k).flatMap fun i => [.int .i64 (lo i), .int .i64 (hi i)]
theorem rmV_succ (lo hi : Nat → Int) (k : Nat) : rmV lo hi (k + 1) = rmV lo hi k ++ [.int .i64 (lo k), .int .i64 (hi k)] := by
  unfold rmV; rw [List.range_succ, List.flatMap_append]; simp
theorem rmV_congr {lo hi lo' hi' : Nat → Int} {k : Nat} (h : ∀ i, i < k → lo i = lo' i ∧ hi i = hi' i) : rmV lo hi k = rmV lo' hi' k := by
  induction k with
  | zero => rfl
  | succ k ih => rw [rmV_succ, rmV_succ, ih (fun i hi => h i (by omega)), (h k (by omega)).1, (h k (by omega)).2]
theorem rm_at {l : List Ang} {err : Int} {out : List Int} {k : Nat} {a : Ang} (ha : l[k]? = some a) : rmLo l err out l.length k = (if (k : Int) ∈ out then 0 else rLo a err) ∧ rmHi l err out l.length k = (if (k : Int) ∈ out then 40 else rHi a err) := by
  have hlt := (List.getElem?_eq_some_iff.1 ha).1
  simp only [rmLo, rmHi, hlt, if_true, ha, and_self]

/-- Rooms lie in memory. -/
def RmAt (W : World) (R : Option Addr) (lo hi : Nat → Int) (n : Nat) : Prop := ∀ i, i < n → ∃ b o, R = some ⟨b, o, none⟩ ∧ b < W.heap.size ∧ W.cell? ⟨b, o + i * 2, none⟩ = some (.int .i64 (lo i)) ∧ W.cell? ⟨b, o + i * 2 + 1, none⟩ = some (.int .i64 (hi i))
theorem RmAt.below {W W' : World} {R : Option Addr} {lo hi : Nat → Int} {n : Nat} (h : RmAt W R lo hi n) (hb : Below W.heap.size W W') : RmAt W' R lo hi n := by
  intro i hi'
  obtain ⟨b, o, hA, hl, h1, h2⟩ := h i hi'
  exact ⟨b, o, hA, Nat.lt_of_lt_of_le hl hb.size, (hb.cell (p := ⟨b, _, none⟩) hl).trans h1, (hb.cell (p := ⟨b, _, none⟩) hl).trans h2⟩
theorem rmV_at (lo hi : Nat → Int) : ∀ (k i : Nat), i < k → (rmV lo hi k)[i * 2]? = some (.int .i64 (lo i)) ∧ (rmV lo hi k)[i * 2 + 1]? = some (.int .i64 (hi i)) := by
  intro k
  induction k with
  | zero => intro i h; omega
  | succ k ih =>
    intro i h
    have hl : (rmV lo hi k).length = k * 2 := by
      clear ih h
      induction k with
      | zero => rfl
      | succ k ih => rw [rmV_succ, List.length_append, ih]; simp; omega
    rw [rmV_succ]
    by_cases e : i = k
    · subst e
      rw [List.getElem?_append_right (by omega), List.getElem?_append_right (by omega), hl]
      simp
    · rw [List.getElem?_append_left (by omega), List.getElem?_append_left (by omega)]
      exact ih i (by omega)
theorem own_rooms {w : World} {base k : Nat} {v : Value} {lo hi : Nat → Int} (h : w.ownsRow base 60 2 v k (rmV lo hi k)) : ∃ R d, v = .slice R k d ∧ RmAt w R lo hi k := by
  rcases h.2 with ⟨rfl, rfl⟩ | ⟨g, cap, cur, rfl, hb, hh, hc, hm, hs, ht⟩
  · exact ⟨none, 0, rfl, fun i hi => by omega⟩
  · refine ⟨some ⟨g, 0, none⟩, cap, rfl, fun i hi' => ⟨g, 0, rfl, (Array.getElem?_eq_some_iff.1 hh).1, ?_, ?_⟩⟩
    · have := h.cells (g := g) rfl (i * 2) _ (rmV_at lo hi k i hi').1
      by_cases e : i = 0
      · subst e; simpa [Addr.add] using this
      · have e2 : ¬ i * 2 = 0 := by omega
        simpa [Addr.add, e2] using this
    · have := h.cells (g := g) rfl (i * 2 + 1) _ (rmV_at lo hi k i hi').2
      simpa [Addr.add] using this

set_option maxHeartbeats 4000000 in
set_option maxRecDepth 100000 in
theorem rrooms_any (w : World) (A : Option Addr) (l : List Ang) (c : Nat) (T C err : Int) (b : Nat) (hA : AngAt w A l) (hl : l.length ≤ 12) (he : 0 ≤ err ∧ err ≤ 40) (hr : ∀ a ∈ l, ReadOk a) :
    Calls Try.prog 30 #[.agg #[.slice A l.length c, .int .i64 T, .int .i64 C], .int .i64 err, .int .i64 b] w fun e w' => Below w.heap.size w w' ∧
      ∃ R d, e = .returned (.slice R l.length d) ∧ RmAt w' R (rmLo l err (outI (bitL b)) l.length) (rmHi l err (outI (bitL b)) l.length) l.length ∧ w'.ownsRow w.heap.size 60 2 (.slice R l.length d) l.length (rmV (rmLo l err (outI (bitL b)) l.length) (rmHi l err (outI (bitL b)) l.length) l.length) := by
  have hbl : Below w.heap.size w (w.alloc (.cells #[.slice A l.length c, .int .i64 T, .int .i64 C] 24)) := (Below.refl _ w).alloc (Nat.le_refl _) _
  have hnet := at_alloc (w := w) (o := .cells #[.slice A l.length c, .int .i64 T, .int .i64 C] 24) rfl
  generalize hlo : rmLo l err (outI (bitL b)) l.length = lo
  generalize hhi : rmHi l err (outI (bitL b)) l.length = hi
  have Hlo := Lib.hid hlo
  have Hhi := Lib.hid hhi
  clear hlo hhi
  go_enter Try.func30, Try.ntmps30
  go_wp2_with fail
  generalize w.alloc (.cells #[.slice A l.length c, .int .i64 T, .int .i64 C] 24) = W0 at *
  go_loopw [7, 8] (fun v t wr => ∃ k : Nat, k ≤ l.length ∧ t = .int .i64 k ∧ Below w.heap.size w wr ∧ wr.heap[w.heap.size]? = some (.cells #[.slice A l.length c, .int .i64 T, .int .i64 C] 24 (0, 0)) ∧ wr.ownsRow (w.heap.size + 1) 60 2 v k (rmV lo hi k)) (fun _ t _ => l.length - (intOf t).toNat)
  case atStart => exact ⟨0, Nat.zero_le _, rfl, hbl, hnet, World.ownsRow_nil _ _ _ _⟩
  case round =>
    clear hbl hnet
    obtain ⟨k, hk, rfl, hbel, hnet, hown⟩ := hrel
    have hsr := (Array.getElem?_eq_some_iff.1 hnet).1
    have n0 := cell_of_block (j := 0) (v := .slice A l.length c) hnet rfl
    by_cases hlt : k < l.length
    · obtain ⟨a, ha⟩ : ∃ a, l[k]? = some a := ⟨l[k], by simp [hlt]⟩
      have hRM := rm_at (err := err) (out := outI (bitL b)) ha
      rw [Hlo.out, Hhi.out] at hRM
      have hra := hr a (List.mem_of_getElem? ha)
      obtain ⟨b', o, rfl, hb', ha0, ha1, ha2, ha3⟩ := hA.below hbel k _ ha
      have hw0 : 0 ≤ err * a.w := Int.mul_nonneg he.1 (by have := hra.2.2.1; omega)
      have hw1 : err * a.w ≤ 120 := by
        have h1 : err * a.w ≤ 40 * a.w := Int.mul_le_mul_of_nonneg_right he.2 (by have := hra.2.2.1; omega)
        have := hra.2.2.2; omega
      have hr0 := hra.1
      have hr1 := hra.2.1
      have HRM := Lib.hid hRM
      have HB := Lib.hid (bit_spell b (k : Int))
      have HM := Lib.hid (show (k : Int) ∈ outI (bitL b) ↔ b.testBit k = true by rw [mem_outI, mem_bitL]; exact ⟨fun h => h.2, fun h => ⟨by omega, h⟩⟩)
      clear hra hRM ha
      have hk0 : (0 : Int) ≤ k := by omega
      have hk1 : (k : Int) < 12 := by omega
      have hkn : k < 100000 := by omega
      have HS := Lib.hid (rmV_succ lo hi k)
      by_cases hbit : b.testBit k = true
      · have hd : (((b : Int) / 2 ^ k).tmod 2 == 1) = true := by have := HB.out; rw [Int.toNat_natCast] at this; rw [this]; exact hbit
        have hlo' : lo k = 0 := by rw [HRM.out.1, if_pos (HM.out.2 hbit)]
        have hhi' : hi k = 40 := by rw [HRM.out.2, if_pos (HM.out.2 hbit)]
        have HLH := Lib.hid (And.intro hlo' hhi')
        clear hlo' hhi' hbit
        have hal : Below wr.heap.size wr (((wr.alloc (.cells #[.int .i64 a.t, .int .i64 a.c, .int .i64 a.r, .int .i64 a.w] 74)).alloc (.cells #[.int .i64 0, .int .i64 40] 60)).alloc (.cells #[.int .i64 0, .int .i64 40] 60)) := (((Below.refl _ wr).alloc (Nat.le_refl _) _).alloc (by simp) _).alloc (by simp; omega) _
        have how := ownsRow_below hown hal (Nat.le_refl _)
        have hbel2 := hbel.trans (hal.mono hbel.size)
        have hnet2 := (hal.block _ hsr).trans hnet
        have hnew : (((wr.alloc (.cells #[.int .i64 a.t, .int .i64 a.c, .int .i64 a.r, .int .i64 a.w] 74)).alloc (.cells #[.int .i64 0, .int .i64 40] 60)).alloc (.cells #[.int .i64 0, .int .i64 40] 60)).heap[wr.heap.size + 1 + 1]? = some (.cells #[.int .i64 0, .int .i64 40] 60 (0, 0)) := at_alloc (by simp)
        have hszA : w.heap.size + 1 ≤ (((wr.alloc (.cells #[.int .i64 a.t, .int .i64 a.c, .int .i64 a.r, .int .i64 a.w] 74)).alloc (.cells #[.int .i64 0, .int .i64 40] 60)).alloc (.cells #[.int .i64 0, .int .i64 40] 60)).heap.size := Nat.le_trans (by omega) hal.size
        have HO := Lib.hid how
        have HBL := Lib.hid hbel2
        have HNT := Lib.hid hnet2
        have HNW := Lib.hid hnew
        clear how hal hbel2 hnet2 hnew hown
        go_wp2_with (at_builtin; refine wpList_push elem44 (((wr.alloc (.cells #[.int .i64 a.t, .int .i64 a.c, .int .i64 a.r, .int .i64 a.w] 74)).alloc (.cells #[.int .i64 0, .int .i64 40] 60)).alloc (.cells #[.int .i64 0, .int .i64 40] 60)) (by rfl) (.tmp 47) (.tmp 49) (by rfl) (w.heap.size + 1) _ k _ (by rfl) HO.out (wr.heap.size + 1 + 1) 1 [.int .i64 0, .int .i64 40] (by rfl) HNW.out rfl (by simp [Value.oneCell']) hkn hszA ?_; intro v' w' how5 hbe5 _)
        go_roundw
        case rel =>
          refine ⟨k + 1, by omega, by go_num, HBL.out.trans (hbe5.mono (by omega)), (hbe5.block _ (Nat.lt_succ_self _)).trans HNT.out, ?_⟩
          rw [HS.out, HLH.out.1, HLH.out.2]
          exact how5
        case measure => simp [intOf]; omega
      · have hd : (((b : Int) / 2 ^ k).tmod 2 == 1) = false := by
          have := HB.out
          rw [Int.toNat_natCast] at this
          rw [this]
          cases h : b.testBit k with
          | false => rfl
          | true => exact absurd h hbit
        have hlo' : lo k = max 0 (a.r - err * a.w) := by rw [HRM.out.1, if_neg (fun h => hbit (HM.out.1 h))]; rfl
        have hhi' : hi k = min 40 (a.r + err * a.w) := by rw [HRM.out.2, if_neg (fun h => hbit (HM.out.1 h))]; rfl
        have HLH := Lib.hid (And.intro hlo' hhi')
        clear hlo' hhi' hbit
        have hal : Below wr.heap.size wr (((wr.alloc (.cells #[.int .i64 a.t, .int .i64 a.c, .int .i64 a.r, .int .i64 a.w] 74)).alloc (.cells #[.int .i64 (max 0 (a.r - err * a.w)), .int .i64 (min 40 (a.r + err * a.w))] 60)).alloc (.cells #[.int .i64 (max 0 (a.r - err * a.w)), .int .i64 (min 40 (a.r + err * a.w))] 60)) := (((Below.refl _ wr).alloc (Nat.le_refl _) _).alloc (by simp) _).alloc (by simp; omega) _
        have how := ownsRow_below hown hal (Nat.le_refl _)
        have hbel2 := hbel.trans (hal.mono hbel.size)
        have hnet2 := (hal.block _ hsr).trans hnet
        have hnew : (((wr.alloc (.cells #[.int .i64 a.t, .int .i64 a.c, .int .i64 a.r, .int .i64 a.w] 74)).alloc (.cells #[.int .i64 (max 0 (a.r - err * a.w)), .int .i64 (min 40 (a.r + err * a.w))] 60)).alloc (.cells #[.int .i64 (max 0 (a.r - err * a.w)), .int .i64 (min 40 (a.r + err * a.w))] 60)).heap[wr.heap.size + 1 + 1]? = some (.cells #[.int .i64 (max 0 (a.r - err * a.w)), .int .i64 (min 40 (a.r + err * a.w))] 60 (0, 0)) := at_alloc (by simp)
        have hszA : w.heap.size + 1 ≤ (((wr.alloc (.cells #[.int .i64 a.t, .int .i64 a.c, .int .i64 a.r, .int .i64 a.w] 74)).alloc (.cells #[.int .i64 (max 0 (a.r - err * a.w)), .int .i64 (min 40 (a.r + err * a.w))] 60)).alloc (.cells #[.int .i64 (max 0 (a.r - err * a.w)), .int .i64 (min 40 (a.r + err * a.w))] 60)).heap.size := Nat.le_trans (by omega) hal.size
        have HO := Lib.hid how
        have HBL := Lib.hid hbel2
        have HNT := Lib.hid hnet2
        have HNW := Lib.hid hnew
        clear how hal hbel2 hnet2 hnew hown
        go_wp2_with (at_builtin; refine wpList_push elem44 (((wr.alloc (.cells #[.int .i64 a.t, .int .i64 a.c, .int .i64 a.r, .int .i64 a.w] 74)).alloc (.cells #[.int .i64 (max 0 (a.r - err * a.w)), .int .i64 (min 40 (a.r + err * a.w))] 60)).alloc (.cells #[.int .i64 (max 0 (a.r - err * a.w)), .int .i64 (min 40 (a.r + err * a.w))] 60)) (by rfl) (.tmp 47) (.tmp 49) (by rfl) (w.heap.size + 1) _ k _ (by rfl) HO.out (wr.heap.size + 1 + 1) 1 [.int .i64 (max 0 (a.r - err * a.w)), .int .i64 (min 40 (a.r + err * a.w))] (by rfl) HNW.out rfl (by simp [Value.oneCell']) hkn hszA ?_; intro v' w' how5 hbe5 _)
        go_roundw
        case rel =>
          refine ⟨k + 1, by omega, by go_num, HBL.out.trans (hbe5.mono (by omega)), (hbe5.block _ (Nat.lt_succ_self _)).trans HNT.out, ?_⟩
          rw [HS.out, HLH.out.1, HLH.out.2]
          exact how5
        case measure => simp [intOf]; omega
    · obtain rfl : k = l.length := by omega
      obtain ⟨R, d, rfl, hR⟩ := own_rooms hown
      go_wp2_with fail
      go_ret
      exact ⟨hbel, R, d, rfl, hR, ownsRow_mono hown (by omega)⟩
end Go.Proofs.Ytnhbplnhhloklaa
