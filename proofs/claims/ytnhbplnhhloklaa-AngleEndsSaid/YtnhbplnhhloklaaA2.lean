/- The contract of the iterator over the arcs of a node: it hands on each arc along which something can flow, in order, or stops. -/
import Derived.Test.YtnhbplnhhloklaaA1
import Derived.Lib.Hide
import Derived.RangeFuncNested
import Derived.RangeFuncBound
import Derived.RangeFuncCalls
import Derived.RangeFuncLeaves
import Derived.Shelf.Abstract
import Derived.Shelf.RegionOpen
import Derived.OwnWalkIn
import Derived.TacticsInMore
import Derived.LoopNIn
import Derived.LoopIn
namespace Go.Proofs.Ytnhbplnhhloklaa
open Go.RowKit
open Go.ChangeMaps (setBlock)
attribute [local go_sem] Oper.semAt_some

/-- The arcs from a node to 'to' with numbers below k - 1 along which something can flow. -/
def arcRow (L : Int → Int → Int → Int) (fr t : Int) (k : Nat) : List (Int × Int) := ((List.range k).map (fun j : Nat => (t, (j : Int) - 1))).filter (fun x => decide (0 < L fr x.1 x.2))
def arcRows (L : Int → Int → Int → Int) (fr : Int) (m k : Nat) : List (Int × Int) := (List.range k).flatMap (fun t : Nat => arcRow L fr t (m + 1))

theorem arcRow_len (L fr t k) : (arcRow L fr t k).length ≤ k := by
  unfold arcRow
  refine Nat.le_trans (List.length_filter_le _ _) (by simp)
theorem arcRows_len (L fr m) : ∀ k, (arcRows L fr m k).length ≤ k * (m + 1)
  | 0 => by simp [arcRows]
  | k + 1 => by
    have := arcRows_len L fr m k
    have h2 := arcRow_len L fr (k : Nat) (m + 1)
    unfold arcRows at *
    rw [List.range_succ, List.flatMap_append, List.length_append]
    simp only [List.flatMap_cons, List.flatMap_nil, List.append_nil]
    rw [Nat.succ_mul]; omega
theorem arcRow_succ_yes {L fr t} {k : Nat} (h : 0 < L fr t ((k : Int) - 1)) : arcRow L fr t (k + 1) = arcRow L fr t k ++ [(t, (k : Int) - 1)] := by
  unfold arcRow
  rw [List.range_succ, List.map_append, List.filter_append]
  simp [h]
theorem arcRow_succ_no {L fr t} {k : Nat} (h : ¬ 0 < L fr t ((k : Int) - 1)) : arcRow L fr t (k + 1) = arcRow L fr t k := by
  unfold arcRow
  rw [List.range_succ, List.map_append, List.filter_append]
  simp [h]
theorem arcRows_succ {L fr m} {k : Nat} : arcRows L fr m (k + 1) = arcRows L fr m k ++ arcRow L fr (k : Nat) (m + 1) := by
  unfold arcRows
  rw [List.range_succ, List.flatMap_append]
  simp

/-- These blocks lie as they lay. -/
def KpB (bs : List Nat) (W W' : World) : Prop := W.heap.size ≤ W'.heap.size ∧ ∀ b ∈ bs, W'.heap[b]? = W.heap[b]?

/-- An arc that is handed on. -/
def ArcOk (L : Int → Int → Int → Int) (fr : Int) (m : Nat) (x : Int × Int) : Prop := 0 ≤ x.1 ∧ x.1 < 13 ∧ -1 ≤ x.2 ∧ x.2 < m ∧ 0 < L fr x.1 x.2

def encArc (L : Int → Int → Int → Int) (fr : Int) (x : Int × Int) : Array Value := #[kv fr x.1 x.2, .int .i64 (L fr x.1 x.2)]

/-- The memory that the iterator reads. -/
structure ArcMem (W : World) (b1 b2 Wb Mb : Nat) (A : Option Addr) (m c : Nat) (T C fr : Int) (L : Int → Int → Int → Int) : Prop where
  h1 : W.heap[b1]? = some (.cells #[.pointer (some ⟨Wb, 0, none⟩)] 136 (0, 0))
  h2 : W.heap[b2]? = some (.cells #[.int .i64 fr] 3 (0, 0))
  hW : W.heap[Wb]? = some (.cells #[.slice A m c, .int .i64 T, .int .i64 C, .map (some Mb)] 153 (0, 0))
  hM : MapIs W Mb L

theorem ArcMem.kp {W W' : World} {b1 b2 Wb Mb : Nat} {A : Option Addr} {m c : Nat} {T C fr : Int} {L : Int → Int → Int → Int} (h : ArcMem W b1 b2 Wb Mb A m c T C fr L) (hk : KpB [b1, b2, Wb, Mb] W W') : ArcMem W' b1 b2 Wb Mb A m c T C fr L :=
  ⟨(hk.2 b1 (by simp)).trans h.h1, (hk.2 b2 (by simp)).trans h.h2, (hk.2 Wb (by simp)).trans h.hW, h.hM.same (hk.2 Mb (by simp))⟩
theorem ArcMem.alloc {W : World} {b1 b2 Wb Mb : Nat} {A : Option Addr} {m c : Nat} {T C fr : Int} {L : Int → Int → Int → Int} (h : ArcMem W b1 b2 Wb Mb A m c T C fr L) (o : Obj) : ArcMem (W.alloc o) b1 b2 Wb Mb A m c T C fr L :=
  ⟨(Below.heap_alloc W o _ (Array.getElem?_eq_some_iff.1 h.h1).1).trans h.h1, (Below.heap_alloc W o _ (Array.getElem?_eq_some_iff.1 h.h2).1).trans h.h2, (Below.heap_alloc W o _ (Array.getElem?_eq_some_iff.1 h.hW).1).trans h.hW, h.hM.same (Below.heap_alloc W o _ h.hM.lt)⟩

set_option maxRecDepth 100000 in
set_option maxHeartbeats 4000000 in
theorem arcs1_in (n : Nat) (hn : 1 ≤ n) (l b1 b2 Wb Mb : Nat) (A : Option Addr) (m c : Nat) (T C fr : Int) (L : Int → Int → Int → Int) (J Jx : List (Int × Int) → World → Prop) (hm : m ≤ 1000)
    (hfr : -1000 ≤ fr ∧ fr ≤ 1000)
    (W : World) (hJ : AbidesFrom W.heap.size J)
    (hY : ∀ pre x W, ArcOk L fr m x → J pre W → pre.length < 13 * (m + 1) → YieldAt Fence.wide (n - 1) Try.prog l (encArc L fr x) W fun e W' =>
      (e = .returned (.bool true) ∧ J (pre ++ [x]) W' ∧ KpB [b1, b2, Wb, Mb] W W') ∨ (e = .returned (.bool false) ∧ Jx (pre ++ [x]) W'))
    (hA : ArcMem W b1 b2 Wb Mb A m c T C fr L) (h0 : J [] W) :
    CallsIn Fence.wide n Try.prog 120 #[.func (.yield l) #[] #[], .pointer (some ⟨b1, 0, none⟩), .pointer (some ⟨b2, 0, none⟩)] W fun e W' => (∃ v, e = .returned v) ∧
      ((∃ ys, ys = arcRows L fr m 13 ∧ J ys W') ∨ (∃ pre, True ∧ Jx pre W')) := by
  refine callsIn_of_wp (F := Fence.wide) Try.func120 rfl trivial ?_ rfl
  simp only [Try.ntmps120, List.size_toArray, List.length_cons, List.length_nil, Nat.reduceAdd, Nat.reduceSub, Array.replicate_succ, Array.replicate_zero, List.push_toArray, List.append_toArray, List.nil_append, List.cons_append]
  gi_wp2
  gi_loopw [8] (fun t wr => ∃ k : Nat, k ≤ 13 ∧ t = .int .i64 k ∧ J (arcRows L fr m k) wr ∧ ArcMem wr b1 b2 Wb Mb A m c T C fr L ∧ W.heap.size ≤ wr.heap.size)
    (fun t _ => 13 - (intOf t).toNat)
  case atStart =>
    exact ⟨0, by omega, rfl, h0, hA, Nat.le_refl _⟩
  case round =>
    obtain ⟨k, hk, rfl, hJk, hAk, hsz⟩ := hrel
    by_cases hlt : k < 13
    · have hk13 : decide ((k : Int) < 13) = true := by simp; omega
      gi_wp2
      obtain ⟨wo, hwo⟩ : ∃ wo : World, wo = wr := ⟨_, rfl⟩
      subst hwo
      gi_loopw [5] (fun t wi => ∃ j : Nat, j ≤ m + 1 ∧ t = .int .i64 ((j : Int) - 1) ∧ J (arcRows L fr m k ++ arcRow L fr (k : Nat) j) wi ∧ ArcMem wi b1 b2 Wb Mb A m c T C fr L ∧ W.heap.size ≤ wi.heap.size)
        (fun t _ => m + 1 - (intOf t + 1).toNat)
      case atStart =>
        exact ⟨0, by omega, rfl, by simpa [arcRow] using hJk, hAk, hsz⟩
      case round =>
        obtain ⟨j, hj, rfl, hJj, hAj, hszj⟩ := hrel
        have hc1 := cell_of_block (j := 0) hAj.h1 rfl
        have hc2 := cell_of_block (j := 0) hAj.h2 rfl
        have hcW := cell_of_block (j := 0) hAj.hW rfl
        by_cases hlt2 : (j : Int) - 1 < (m : Int)
        · have hA' := hAj.alloc (Obj.cells #[Value.int IntKind.i64 fr, Value.int IntKind.i64 k, Value.int IntKind.i64 ((j : Int) - 1)] 112)
          have hc1' := cell_of_block (j := 0) hA'.h1 rfl
          have hc3' := cell_of_block (j := 3) hA'.hW rfl
          have hs : Sm fr (k : Nat) ((j : Int) - 1) := ⟨fits_small (by omega), fits_small (by omega), fits_small (by omega)⟩
          have hl := (hA'.hM.same (w' := (wr.alloc (Obj.cells #[Value.int IntKind.i64 fr, Value.int IntKind.i64 k, Value.int IntKind.i64 ((j : Int) - 1)] 112)).drew) rfl).look hs
          unfold kv at hl
          have hJ1 : J (arcRows L fr m k ++ arcRow L fr (k : Nat) j) (wr.alloc (Obj.cells #[Value.int IntKind.i64 fr, Value.int IntKind.i64 k, Value.int IntKind.i64 ((j : Int) - 1)] 112)).drew :=
            hJ _ _ _ none (hJ _ _ _ none hJj (World.grownBy_alloc wr _ none) (fun _ h => by cases h)) ⟨rfl, rfl, rfl, Nat.le_refl _, fun _ _ _ => rfl⟩ (fun _ h => by cases h)
          have hA1 : ArcMem (wr.alloc (Obj.cells #[Value.int IntKind.i64 fr, Value.int IntKind.i64 k, Value.int IntKind.i64 ((j : Int) - 1)] 112)).drew b1 b2 Wb Mb A m c T C fr L := ⟨hA'.h1, hA'.h2, hA'.hW, hA'.hM.same rfl⟩
          have hsz1 : W.heap.size ≤ (wr.alloc (Obj.cells #[Value.int IntKind.i64 fr, Value.int IntKind.i64 k, Value.int IntKind.i64 ((j : Int) - 1)] 112)).drew.heap.size := by
            show W.heap.size ≤ (wr.heap.push _).size
            rw [Array.size_push]; omega
          have hlen : (arcRows L fr m k ++ arcRow L fr (k : Nat) j).length < 13 * (m + 1) := by
            have h1 := arcRows_len L fr m k
            have h2 := arcRow_len L fr (k : Nat) j
            rw [List.length_append]
            have h3 : k * (m + 1) ≤ 12 * (m + 1) := Nat.mul_le_mul_right _ (by omega)
            have h4 : 13 * (m + 1) = 12 * (m + 1) + (m + 1) := by omega
            omega
          have hnum : Value.int IntKind.i64 (j : Int) = Value.int IntKind.i64 (((j + 1 : Nat) : Int) - 1) := by congr 1; omega
          have HN := Lib.hid hnum
          clear hnum
          by_cases hp : 0 < L fr (k : Nat) ((j : Int) - 1)
          · obtain ⟨fn, tmps, assign, body, hy, hR⟩ := hY _ ((k : Int), (j : Int) - 1) _ ⟨by simp, by simp; omega, by simp; omega, by simp; omega, hp⟩ hJ1 hlen
            dsimp only [encArc, kv] at hy
            gi_wp2
            gi_region
            gi_wp2
            refine hR.mono ?_
            rintro e W3 (⟨rfl, hJ3, hk3⟩ | ⟨rfl, hJx3⟩)
            · gi_wp2
              go_roundw
              case rel => exact ⟨j + 1, by omega, HN.out, by rw [arcRow_succ_yes hp, ← List.append_assoc]; exact hJ3, hA1.kp hk3, Nat.le_trans hsz1 hk3.1⟩
              case measure => simp [intOf]; omega
            · gi_wp2
              refine bodyPost_ret (results_none rfl _ _ _) rfl ?_
              exact ⟨⟨_, rfl⟩, .inr ⟨_, trivial, hJx3⟩⟩
          · gi_wp2
            gi_region
            gi_wp2
            refine ⟨fun _ h => (by cases h), ?_⟩
            gi_wp2
            go_roundw
            case rel => exact ⟨j + 1, by omega, HN.out, by rw [arcRow_succ_no (by omega)]; exact hJ1, hA1, hsz1⟩
            case measure => simp [intOf]; omega
        · obtain rfl : j = m + 1 := by omega
          gi_wp2
          go_roundw
          case rel => exact ⟨k + 1, by omega, by go_num, by rw [arcRows_succ]; exact hJj, hAj, hszj⟩
          case measure => simp [intOf]; omega
    · gi_wp2
      go_end0
      obtain rfl : k = 13 := by omega
      exact ⟨⟨_, rfl⟩, .inl ⟨_, rfl, hJk⟩⟩

/-- The iterator hands on all arcs of a node along which something can flow. -/
theorem arcs_stops (n : Nat) (hn : 1 ≤ n) (b1 b2 Wb Mb : Nat) (A : Option Addr) (m c : Nat) (T C fr : Int) (L : Int → Int → Int → Int) (hm : m ≤ 1000) (hfr : -1000 ≤ fr ∧ fr ≤ 1000) (w : World)
    (hA : ArcMem w b1 b2 Wb Mb A m c T C fr L) (hb1 : b1 < w.heap.size) (hb2 : b2 < w.heap.size) (hWb : Wb < w.heap.size) :
    SeqStopsK Fence.wide n Try.prog 120 #[.pointer (some ⟨b1, 0, none⟩), .pointer (some ⟨b2, 0, none⟩)] (fun x : {x : Int × Int // ArcOk L fr m x} => encArc L fr x.1) (KpB [b1, b2, Wb, Mb])
      (fun xs => xs.map (·.1) = arcRows L fr m 13) (fun _ => True) (13 * (m + 1)) w := by
  intro l J Jx W hW hJ hJx hY h0
  have hMb := hA.hM.lt
  have hA' : ArcMem W b1 b2 Wb Mb A m c T C fr L := hA.kp ⟨hW.size, fun b hb => hW.block b (by simp at hb; rcases hb with rfl | rfl | rfl | rfl <;> assumption)⟩
  refine (arcs1_in n hn l b1 b2 Wb Mb A m c T C fr L (fun ys W => ∃ xs : List {x : Int × Int // ArcOk L fr m x}, xs.map (·.1) = ys ∧ J xs W) (fun ys W => ∃ xs : List {x : Int × Int // ArcOk L fr m x}, xs.map (·.1) = ys ∧ Jx xs W) hm hfr W ?_ ?_ hA' ⟨[], rfl, h0⟩).mono ?_
  · rintro s A B row ⟨xs, hx, hj⟩ hg hr
    exact ⟨xs, hx, hJ _ _ _ _ hj hg hr⟩
  · rintro pre x W1 hx ⟨xs, rfl, hj⟩ hlen
    refine (hY xs ⟨x, hx⟩ W1 hj (by simpa using hlen)).mono ?_
    rintro e w' (⟨h1, h2, h3⟩ | ⟨h1, h2⟩)
    · exact .inl ⟨h1, ⟨_, by simp, h2⟩, h3⟩
    · exact .inr ⟨h1, ⟨_, by simp, h2⟩⟩
  · rintro e W' ⟨hv, ⟨ys, rfl, xs, hx, hj⟩ | ⟨pre, _, xs, hx, hj⟩⟩
    · exact ⟨hv, .inl ⟨xs, hx, hj⟩⟩
    · exact ⟨hv, .inr ⟨xs, trivial, hj⟩⟩

theorem KpB.trans {bs : List Nat} {A B C : World} (h : KpB bs A B) (k : KpB bs B C) : KpB bs A C := ⟨Nat.le_trans h.1 k.1, fun b hb => (k.2 b hb).trans (h.2 b hb)⟩
theorem KpB.put {bs : List Nat} {w : World} (hb : ∀ b ∈ bs, b < w.heap.size) (W : World) (l : Nat) (o o' : Obj) (hl : w.heap.size ≤ l) (_ : W.heap[l]? = some o) (_ : o.isCells = false) (_ : o.isWalk = false) : KpB bs W (W.putObj l o') :=
  ⟨by simp, fun b hbm => World.putObj_heap_other (by have := hb b hbm; omega)⟩
end Go.Proofs.Ytnhbplnhhloklaa
