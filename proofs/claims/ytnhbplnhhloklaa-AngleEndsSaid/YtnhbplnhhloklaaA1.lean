/- Contracts of push and needs: flow along an arc is moved in the map of arcs. -/
import Derived.Test.YtnhbplnhhloklaaA0
import Derived.BigQuiet
import Derived.Deep.QuietTactic
namespace Go.Proofs.Ytnhbplnhhloklaa
open Go.RowKit
open Go.ChangeMaps (setBlock)

theorem setBlock_ne {w : World} {b k : Nat} (o : Obj) (h : k ≠ b) : (setBlock w b o).heap[k]? = w.heap[k]? := by
  show (w.heap.setIfInBounds b o)[k]? = _
  rw [Array.getElem?_setIfInBounds_ne (Ne.symm h)]
theorem setBlock_size {w : World} {b : Nat} (o : Obj) : (setBlock w b o).heap.size = w.heap.size := by simp [setBlock]
theorem cell_of_block {w : World} {b j : Nat} {cs : Array Value} {t : TypeId} {f : Nat × Nat} {v : Value} (h : w.heap[b]? = some (.cells cs t f)) (hj : cs[j]? = some v) : w.cell? ⟨b, j, none⟩ = some v := by
  simp [World.cell?, h, hj]
theorem free_of_block {w : World} {b j : Nat} {cs : Array Value} {t : TypeId} (h : w.heap[b]? = some (.cells cs t (0, 0))) : w.frozen? ⟨b, j, none⟩ = false := by
  simp [World.frozen?, h]

/-- The flow along an arc by n. -/
def pushL (L : Int → Int → Int → Int) (u v i n : Int) : Int → Int → Int → Int := upd (upd L u v i (L u v i - n)) v u i (upd L u v i (L u v i - n) v u i + n)

set_option maxHeartbeats 400000 in
theorem push_any (w : World) (Wb Mb : Nat) (A : Option Addr) (m c : Nat) (T C u v i n : Int) (L : Int → Int → Int → Int)
   (hW : w.heap[Wb]? = some (.cells #[.slice A m c, .int .i64 T, .int .i64 C, .map (some Mb)] 153 (0, 0))) (hM : MapIs w Mb L) (hs : Sm u v i) 
   (h1 : -1000000000000 ≤ L u v i - n) (h2 : L u v i - n ≤ 1000000000000) (h3 : -1000000000000 ≤ upd L u v i (L u v i - n) v u i + n) (h4 : upd L u v i (L u v i - n) v u i + n ≤ 1000000000000) :
    Calls Try.prog 119 #[.pointer (some ⟨Wb, 0, none⟩), .agg #[.int .i64 u, .int .i64 v, .int .i64 i], .int .i64 n] w fun e w' => (∃ r, e = .returned r) ∧ MapIs w' Mb (pushL L u v i n) ∧ Keep (· = Mb) w w' := by
  have hc : w.cell? ⟨Wb, 3, none⟩ = some (.map (some Mb)) := cell_of_block hW rfl
  have hWl : Wb < w.heap.size := (Array.getElem?_eq_some_iff.1 hW).1
  have hWM : Wb ≠ Mb := by
    rintro rfl
    obtain ⟨es, cl, hb, _⟩ := hM
    rw [hW] at hb; cases hb
  have hc' : (w.alloc (Obj.cells #[Value.int IntKind.i64 u, Value.int IntKind.i64 v, Value.int IntKind.i64 i] 112)).cell? ⟨Wb, 3, none⟩ = some (.map (some Mb)) := by
    rw [World.cell?_of_block (w := w) (Below.heap_alloc w _ _ hWl)]; exact hc
  have hM0 : MapIs (w.alloc (Obj.cells #[Value.int IntKind.i64 u, Value.int IntKind.i64 v, Value.int IntKind.i64 i] 112)).drew Mb L := hM.same (Below.heap_alloc w _ _ hM.lt)
  have hl0 := hM0.look hs
  obtain ⟨w1, st, he, ⟨o, rfl⟩, hM1, hst⟩ := hM0.entry hs
  have hl1 := hM1.look hs
  obtain ⟨o', hst', hM2⟩ := hst _ (L u v i - n) rfl
  unfold kv at hl0 he hl1
  unfold goInt at he hst'
  clear hst
  go_enter Try.func119, Try.ntmps119
  go_wp2
  go_region
  clear hl0 he hl1 hst' hc' hc hM1 hM0
  have hK : Keep (· = Mb) w (setBlock (setBlock (w.alloc (Obj.cells #[Value.int IntKind.i64 u, Value.int IntKind.i64 v, Value.int IntKind.i64 i] 112)).drew Mb o) Mb o') :=
    ((((Keep.refl (fun k => k = Mb) w).alloc _).drew).setBlock (b := Mb) (.inl rfl) _).setBlock (b := Mb) (.inl rfl) _
  have hB : (setBlock (setBlock (w.alloc (Obj.cells #[Value.int IntKind.i64 u, Value.int IntKind.i64 v, Value.int IntKind.i64 i] 112)).drew Mb o) Mb o').heap[w.heap.size]? = some (.cells #[Value.int IntKind.i64 u, Value.int IntKind.i64 v, Value.int IntKind.i64 i] 112 (0, 0)) := by
    have hlt := hM.lt
    rw [setBlock_ne _ (by omega), setBlock_ne _ (by omega)]
    exact (MapKept.heap_alloc w _).1
  generalize setBlock (setBlock (w.alloc (Obj.cells #[Value.int IntKind.i64 u, Value.int IntKind.i64 v, Value.int IntKind.i64 i] 112)).drew Mb o) Mb o' = w2 at *
  have hW2 := (hK.block Wb hWl hWM).trans hW
  have hc2 : w2.cell? ⟨Wb, 3, none⟩ = some (.map (some Mb)) := cell_of_block hW2 rfl
  have hb0 : w2.cell? ⟨w.heap.size, 0, none⟩ = some (.int .i64 u) := cell_of_block hB rfl
  have hb1 : w2.cell? ⟨w.heap.size, 1, none⟩ = some (.int .i64 v) := cell_of_block hB rfl
  have hb2 : w2.cell? ⟨w.heap.size, 2, none⟩ = some (.int .i64 i) := cell_of_block hB rfl
  clear hB hW2
  have hM0 : MapIs w2.drew Mb (upd L u v i (L u v i - n)) := hM2.same rfl
  have hs' : Sm v u i := ⟨hs.2.1, hs.1, hs.2.2⟩
  have hp : Hid (pushL L u v i n = upd (upd L u v i (L u v i - n)) v u i (upd L u v i (L u v i - n) v u i + n)) := rfl
  generalize upd L u v i (L u v i - n) = L1 at *
  have hl0 := hM0.look hs'
  obtain ⟨w1, st, he, ⟨o, rfl⟩, hM1, hst⟩ := hM0.entry hs'
  have hl1 := hM1.look hs'
  obtain ⟨o', hst', hM3⟩ := hst _ (L1 v u i + n) rfl
  unfold kv at hl0 he hl1
  unfold goInt at he hst'
  clear hst
  go_wp2
  go_region
  go_end0
  exact ⟨⟨_, rfl⟩, by rw [hp.out]; exact hM3, (hK.drew.setBlock (b := Mb) (.inl rfl) _).setBlock (b := Mb) (.inl rfl) _⟩

/-- What has to flow from a node, or to it. -/
def needsL (L : Int → Int → Int → Int) (v n : Int) : Int → Int → Int → Int := if 0 < n then upd L 11 v (-1) (L 11 v (-1) + n) else upd L v 12 (-1) (L v 12 (-1) - n)

theorem fits_small {n : Int} (h : -1000000 ≤ n ∧ n ≤ 1000000) : Fits n := ⟨by omega, by omega⟩

set_option maxHeartbeats 400000 in
theorem needs_any (w : World) (Wb Mb : Nat) (A : Option Addr) (m c : Nat) (T C v n : Int) (L : Int → Int → Int → Int)
   (hW : w.heap[Wb]? = some (.cells #[.slice A m c, .int .i64 T, .int .i64 C, .map (some Mb)] 153 (0, 0))) (hM : MapIs w Mb L) (hv : -1000000 ≤ v ∧ v ≤ 1000000)
   (h1 : -1000000000000 ≤ L 11 v (-1) + n) (h2 : L 11 v (-1) + n ≤ 1000000000000) (h3 : -1000000000000 ≤ L v 12 (-1) - n) (h4 : L v 12 (-1) - n ≤ 1000000000000) :
    Calls Try.prog 117 #[.pointer (some ⟨Wb, 0, none⟩), .int .i64 v, .int .i64 n] w fun e w' => (∃ r, e = .returned r) ∧ MapIs w' Mb (needsL L v n) ∧ Keep (fun k => k = Mb) w w' := by
  have hc : w.cell? ⟨Wb, 3, none⟩ = some (.map (some Mb)) := cell_of_block hW rfl
  have hM0 : MapIs w.drew Mb L := hM.same rfl
  by_cases hn : 0 < n
  · have hs : Sm 11 v (-1) := ⟨fits_small (by omega), fits_small hv, fits_small (by omega)⟩
    have hp : Hid (needsL L v n = upd L 11 v (-1) (L 11 v (-1) + n)) := if_pos hn
    have hl0 := hM0.look hs
    obtain ⟨w1, st, he, ⟨o, rfl⟩, hM1, hst⟩ := hM0.entry hs
    have hl1 := hM1.look hs
    obtain ⟨o', hst', hM2⟩ := hst _ (L 11 v (-1) + n) rfl
    unfold kv at hl0 he hl1
    unfold goInt at he hst'
    clear hst
    go_enter Try.func117, Try.ntmps117
    go_wp2
    go_region
    go_end0
    exact ⟨⟨_, rfl⟩, by rw [hp.out]; exact hM2, (((Keep.refl (fun k => k = Mb) w).drew).setBlock (b := Mb) (.inl rfl) _).setBlock (b := Mb) (.inl rfl) _⟩
  · have hs : Sm v 12 (-1) := ⟨fits_small hv, fits_small (by omega), fits_small (by omega)⟩
    have hp : Hid (needsL L v n = upd L v 12 (-1) (L v 12 (-1) - n)) := if_neg hn
    have hl0 := hM0.look hs
    obtain ⟨w1, st, he, ⟨o, rfl⟩, hM1, hst⟩ := hM0.entry hs
    have hl1 := hM1.look hs
    obtain ⟨o', hst', hM2⟩ := hst _ (L v 12 (-1) - n) rfl
    unfold kv at hl0 he hl1
    unfold goInt at he hst'
    clear hst
    go_enter Try.func117, Try.ntmps117
    go_wp2
    go_region
    go_end0
    exact ⟨⟨_, rfl⟩, by rw [hp.out]; exact hM2, (((Keep.refl (fun k => k = Mb) w).drew).setBlock (b := Mb) (.inl rfl) _).setBlock (b := Mb) (.inl rfl) _⟩
end Go.Proofs.Ytnhbplnhhloklaa
