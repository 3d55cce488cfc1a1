/- Contract of bounds. -/
import Derived.Test.YtnhbplnhhloklaaC1
namespace Go.Proofs.Ytnhbplnhhloklaa
open Go.RowKit

theorem at_alloc {w : World} {o : Obj} {n : Nat} (h : w.heap.size = n) : (w.alloc o).heap[n]? = some o := by subst h; exact (MapKept.heap_alloc w o).1
theorem past_alloc {w : World} {o x : Obj} {n : Nat} (h : w.heap[n]? = some x) : (w.alloc o).heap[n]? = some x := (Below.heap_alloc w o n (Array.getElem?_eq_some_iff.1 h).1).trans h

def roomsL (lo hi : Nat → Int) : List Value := (List.range 24).map (fun k => Value.int .i64 (if k % 2 = 0 then lo (k / 2) else hi (k / 2)))
theorem roomsL_eq (lo hi : Nat → Int) : (roomsL lo hi).toArray = roomsV lo hi := rfl
theorem sizeL (lo hi : Nat → Int) : (Try.prog.info? 109).map (·.size) = some (roomsL lo hi).length := by
  have : (roomsL lo hi).length = 24 := by simp [roomsL]
  rw [this]; exact size109
theorem roomsL_at {w : World} {b : Nat} {lo hi : Nat → Int} {t : TypeId} {fr : Nat × Nat} (h : w.heap[b]? = some (.cells (roomsV lo hi) t fr)) : w.rangeAt b 0 (roomsL lo hi) := fun j v hj => by
  rw [Nat.zero_add]
  refine cell_of_block h ?_
  rw [← roomsL_eq, List.getElem?_toArray]
  exact hj

/-- The bounds of an angle. -/
structure EndsAre (l : List Ang) (T C : Nat) (lo hi : Nat → Int) (i : Nat) (a b : Int) : Prop where
  a0 : lo i ≤ a ∧ a ≤ hi i
  b0 : lo i ≤ b ∧ b ≤ hi i
  ca : Can l T C (setAt lo i a) (setAt hi i a)
  cb : Can l T C (setAt lo i b) (setAt hi i b)
  na : ∀ c, lo i ≤ c → c < a → ¬ Can l T C (setAt lo i c) (setAt hi i c)
  nb : ∀ c, b < c → c ≤ hi i → ¬ Can l T C (setAt lo i c) (setAt hi i c)

set_option maxHeartbeats 4000000 in
set_option maxRecDepth 100000 in
theorem bounds_law (w : World) (A : Option Addr) (l : List Ang) (c : Nat) (T C : Nat) (lo hi : Nat → Int) (i : Nat) (hA : AngAt w A l) (hl : l.length ≤ 12) (hN : NetOk l T C) (hR : RoomOk lo hi) (hi' : i < l.length) (hcan : Can l T C lo hi) :
    Calls Try.prog 79 #[.agg #[.slice A l.length c, .int .i64 T, .int .i64 C], .agg (roomsV lo hi), .int .i64 i] w fun e w' => Below w.heap.size w w' ∧
      ∃ a b, e = .returned (.agg #[.int .i64 a, .int .i64 b]) ∧ EndsAre l T C lo hi i a b := by
  have hb1 : (((((w.alloc (.cells #[.slice A l.length c, .int .i64 T, .int .i64 C] 33)).alloc (.cells (roomsV lo hi) 109)).alloc (.cells #[.int .i64 0, .int .i64 0] 58)).alloc (.cells #[.func (.func 102) #[] #[], .int .i64 1] 149)).alloc (.cells #[.func (.func 103) #[] #[], .int .i64 (-1)] 149)).heap[w.heap.size]? = some (.cells #[.slice A l.length c, .int .i64 T, .int .i64 C] 33 (0, 0)) := past_alloc (past_alloc (past_alloc (past_alloc (at_alloc rfl))))
  have hb2 : (((((w.alloc (.cells #[.slice A l.length c, .int .i64 T, .int .i64 C] 33)).alloc (.cells (roomsV lo hi) 109)).alloc (.cells #[.int .i64 0, .int .i64 0] 58)).alloc (.cells #[.func (.func 102) #[] #[], .int .i64 1] 149)).alloc (.cells #[.func (.func 103) #[] #[], .int .i64 (-1)] 149)).heap[w.heap.size + 1]? = some (.cells (roomsV lo hi) 109 (0, 0)) := past_alloc (past_alloc (past_alloc (at_alloc (by simp))))
  have hb3 : (((((w.alloc (.cells #[.slice A l.length c, .int .i64 T, .int .i64 C] 33)).alloc (.cells (roomsV lo hi) 109)).alloc (.cells #[.int .i64 0, .int .i64 0] 58)).alloc (.cells #[.func (.func 102) #[] #[], .int .i64 1] 149)).alloc (.cells #[.func (.func 103) #[] #[], .int .i64 (-1)] 149)).heap[w.heap.size + 1 + 1]? = some (.cells #[.int .i64 0, .int .i64 0] 58 (0, 0)) := past_alloc (past_alloc (at_alloc (by simp)))
  have hb4 : (((((w.alloc (.cells #[.slice A l.length c, .int .i64 T, .int .i64 C] 33)).alloc (.cells (roomsV lo hi) 109)).alloc (.cells #[.int .i64 0, .int .i64 0] 58)).alloc (.cells #[.func (.func 102) #[] #[], .int .i64 1] 149)).alloc (.cells #[.func (.func 103) #[] #[], .int .i64 (-1)] 149)).heap[w.heap.size + 1 + 1 + 1]? = some (.cells #[.func (.func 102) #[] #[], .int .i64 1] 149 (0, 0)) := past_alloc (at_alloc (by simp))
  have hb5 : (((((w.alloc (.cells #[.slice A l.length c, .int .i64 T, .int .i64 C] 33)).alloc (.cells (roomsV lo hi) 109)).alloc (.cells #[.int .i64 0, .int .i64 0] 58)).alloc (.cells #[.func (.func 102) #[] #[], .int .i64 1] 149)).alloc (.cells #[.func (.func 103) #[] #[], .int .i64 (-1)] 149)).heap[w.heap.size + 1 + 1 + 1 + 1]? = some (.cells #[.func (.func 103) #[] #[], .int .i64 (-1)] 149 (0, 0)) := at_alloc (by simp)
  have hbel : Below w.heap.size w (((((w.alloc (.cells #[.slice A l.length c, .int .i64 T, .int .i64 C] 33)).alloc (.cells (roomsV lo hi) 109)).alloc (.cells #[.int .i64 0, .int .i64 0] 58)).alloc (.cells #[.func (.func 102) #[] #[], .int .i64 1] 149)).alloc (.cells #[.func (.func 103) #[] #[], .int .i64 (-1)] 149)) :=
    (((((Below.refl _ w).alloc (Nat.le_refl _) _).alloc (by simp) _).alloc (by simp; omega) _).alloc (by simp; omega) _).alloc (by simp; omega) _
  go_enter Try.func79, Try.ntmps79
  go_wp2
  generalize ((((w.alloc (.cells #[.slice A l.length c, .int .i64 T, .int .i64 C] 33)).alloc (.cells (roomsV lo hi) 109)).alloc (.cells #[.int .i64 0, .int .i64 0] 58)).alloc (.cells #[.func (.func 102) #[] #[], .int .i64 1] 149)).alloc (.cells #[.func (.func 103) #[] #[], .int .i64 (-1)] 149) = W1 at *
  have hord : w.heap.size < w.heap.size + 1 ∧ w.heap.size + 1 < w.heap.size + 1 + 1 ∧ w.heap.size + 1 + 1 < w.heap.size + 1 + 1 + 1 ∧ w.heap.size + 1 + 1 + 1 < w.heap.size + 1 + 1 + 1 + 1 := by omega
  generalize w.heap.size + 1 + 1 + 1 + 1 = B5 at *
  generalize w.heap.size + 1 + 1 + 1 = B4 at *
  generalize w.heap.size + 1 + 1 = B3 at *
  generalize w.heap.size + 1 = B2 at *
  have hkeep : ∀ w', Keep (fun k => k = B3) W1 w' → (w'.cell? ⟨w.heap.size, 0, none⟩ = some (.slice A l.length c) ∧ w'.cell? ⟨w.heap.size, 1, none⟩ = some (.int .i64 T) ∧ w'.cell? ⟨w.heap.size, 2, none⟩ = some (.int .i64 C) ∧ w'.cell? ⟨B4, 0, none⟩ = some (.func (.func 102) #[] #[]) ∧ w'.cell? ⟨B4, 1, none⟩ = some (.int .i64 1) ∧ w'.cell? ⟨B5, 0, none⟩ = some (.func (.func 103) #[] #[]) ∧ w'.cell? ⟨B5, 1, none⟩ = some (.int .i64 (-1)) ∧ w'.rangeAt B2 0 (roomsL lo hi)) := by
    intro w' hK
    have f1 := (hK.block _ (Array.getElem?_eq_some_iff.1 hb1).1 (by omega)).trans hb1
    have f2 := (hK.block _ (Array.getElem?_eq_some_iff.1 hb2).1 (by omega)).trans hb2
    have f4 := (hK.block _ (Array.getElem?_eq_some_iff.1 hb4).1 (by omega)).trans hb4
    have f5 := (hK.block _ (Array.getElem?_eq_some_iff.1 hb5).1 (by omega)).trans hb5
    exact ⟨cell_of_block f1 rfl, cell_of_block f1 rfl, cell_of_block f1 rfl, cell_of_block f4 rfl, cell_of_block f4 rfl, cell_of_block f5 rfl, cell_of_block f5 rfl, roomsL_at f2⟩
  have hs0 := hkeep W1 (Keep.refl _ _)
  have hK0 : Keep (fun k => k = B3) W1 W1.drew := (Keep.refl _ _).drew
  have hr0 := cell_of_block (j := 0) (v := .int .i64 0) hb3 rfl
  have HKP := Lib.hid hkeep
  have hBk : ∀ w', Keep (fun k => k = B3) W1 w' → Below w.heap.size w w' := fun w' hK => hbel.trans (hK.below hbel.size (by rintro k rfl; omega))
  have hu := und109
  have hsz := sizeL lo hi
  have hs58 : B3 < W1.heap.size := (Array.getElem?_eq_some_iff.1 hb3).1
  have HBK := Lib.hid hBk
  clear hkeep hBk hb1 hb2 hb4 hb5 hbel
  obtain ⟨hs1, hs2, hs3, hs4, hs5, hs6, hs7, hs8⟩ := hs0
  refine wp_region_held_drew (S := (fun w' => w'.cell? ⟨w.heap.size, 0, none⟩ = some (.slice A l.length c) ∧ w'.cell? ⟨w.heap.size, 1, none⟩ = some (.int .i64 T) ∧ w'.cell? ⟨w.heap.size, 2, none⟩ = some (.int .i64 C) ∧ w'.cell? ⟨B4, 0, none⟩ = some (.func (.func 102) #[] #[]) ∧ w'.cell? ⟨B4, 1, none⟩ = some (.int .i64 1) ∧ w'.cell? ⟨B5, 0, none⟩ = some (.func (.func 103) #[] #[]) ∧ w'.cell? ⟨B5, 1, none⟩ = some (.int .i64 (-1)) ∧ w'.rangeAt B2 0 (roomsL lo hi))) (by kernel_rfl) (HKP.out _ hK0) (fun hHeld => ?_)
  refine wpAnyH_take (i := 0) (v := .agg #[.func (.func 102) #[] #[], .int .i64 1]) rfl (by kernel_rfl) (by kernel_rfl) (by kernel_rfl) (fun _ _ _ h => h) (Or.inl ⟨by rfl, ?_⟩) hHeld ?_
  · intro w' hSw
    try dsimp only at hSw
    go_simp
  try simp only [Act.put, List.setIfInBounds_toArray]
  refine wpAnyH_take (i := 1) (v := .agg #[.slice A l.length c, .int .i64 T, .int .i64 C]) rfl (by kernel_rfl) (by kernel_rfl) (by kernel_rfl) (fun _ _ _ h => h) (Or.inl ⟨by rfl, ?_⟩) hHeld ?_
  · intro w' hSw
    try dsimp only at hSw
    go_simp
  try simp only [Act.put]
  refine wpAnyH_take (i := 2) (v := .agg (roomsL lo hi).toArray) rfl (by kernel_rfl) (by kernel_rfl) (by kernel_rfl) (fun _ _ _ h => h) (yieldsIf_load_mid (by rfl) 109 (.tmp 4) rfl B2 0 (by rfl) (roomsL lo hi) (.array 12 58) (fun w' h => h.2.2.2.2.2.2.2) und109 (by rfl) (sizeL lo hi)) hHeld ?_
  try simp only [Act.put]
  refine wpAnyH_take (i := 3) (v := .int .i64 i) rfl (by kernel_rfl) (by kernel_rfl) (by kernel_rfl) (fun _ _ _ h => h) (Or.inl ⟨by rfl, ?_⟩) hHeld ?_
  · intro w' hSw
    try dsimp only at hSw
    go_simp
  try simp only [Act.put]
  refine wpAnyH_take (i := 5) (v := .agg #[.func (.func 103) #[] #[], .int .i64 (-1)]) rfl (by kernel_rfl) (by kernel_rfl) (by kernel_rfl) (fun _ _ _ h => h) (Or.inl ⟨by rfl, ?_⟩) hHeld ?_
  · intro w' hSw
    try dsimp only at hSw
    go_simp
  try simp only [Act.put]
  refine wpAnyH_take (i := 6) (v := .agg #[.slice A l.length c, .int .i64 T, .int .i64 C]) rfl (by kernel_rfl) (by kernel_rfl) (by kernel_rfl) (fun _ _ _ h => h) (Or.inl ⟨by rfl, ?_⟩) hHeld ?_
  · intro w' hSw
    try dsimp only at hSw
    go_simp
  try simp only [Act.put]
  refine wpAnyH_take (i := 7) (v := .agg (roomsL lo hi).toArray) rfl (by kernel_rfl) (by kernel_rfl) (by kernel_rfl) (fun _ _ _ h => h) (yieldsIf_load_mid (by rfl) 109 (.tmp 4) rfl B2 0 (by rfl) (roomsL lo hi) (.array 12 58) (fun w' h => h.2.2.2.2.2.2.2) und109 (by rfl) (sizeL lo hi)) hHeld ?_
  try simp only [Act.put]
  refine wpAnyH_take (i := 8) (v := .int .i64 i) rfl (by kernel_rfl) (by kernel_rfl) (by kernel_rfl) (fun _ _ _ h => h) (Or.inl ⟨by rfl, ?_⟩) hHeld ?_
  · intro w' hSw
    try dsimp only at hSw
    go_simp
  try simp only [Act.put]
  refine wpAnyH_ready (rs := [4]) (by kernel_rfl) (by simp) ?_
  refine AllReadyH.cons rfl (fun K hK => ?_) AllReadyH.nil
  go_simp
  refine (reach_low _ A l c T C lo hi i (hA.below (HBK.out _ hK0)) hl hN hR hi' hcan).mono ?_
  rintro e W2 ⟨hbe, a, rfl, ha0, ha1, ha2, ha3⟩
  have hK1 := hK0.trans (Keep.of_below hbe)
  refine hK.out _ _ (HKP.out _ hK1) (fun hHeld => ?_)
  clear hK K
  try simp only [Act.put, List.setIfInBounds_toArray, List.set_cons_zero, List.set_cons_succ]
  refine wpAnyH_ready (rs := [9]) (by kernel_rfl) (by simp) ?_
  refine AllReadyH.cons rfl (fun K hK => ?_) AllReadyH.nil
  go_simp
  refine (reach_high _ A l c T C lo hi i (hA.below (HBK.out _ hK1)) hl hN hR hi' hcan).mono ?_
  rintro e W3 ⟨hbe2, b, rfl, hb0, hb1, hb2, hb3'⟩
  have hK2 := hK1.trans (Keep.of_below hbe2)
  have hb3W := (hbe2.block _ (Nat.lt_of_lt_of_le hs58 hK1.size)).trans ((hbe.block _ hs58).trans hb3)
  refine hK.out _ _ (HKP.out _ hK2) (fun hHeld => ?_)
  clear hK K
  try simp only [Act.put, List.setIfInBounds_toArray, List.set_cons_zero, List.set_cons_succ]
  refine wpAnyH_take (i := 10) (v := .agg #[.int .i64 a, .int .i64 b]) rfl (by kernel_rfl) (by kernel_rfl) (by kernel_rfl) (fun _ _ _ h => h) (Or.inl ⟨by rfl, ?_⟩) hHeld ?_
  · intro w' hSw
    try dsimp only at hSw
    go_simp
  try simp only [Act.put, List.setIfInBounds_toArray]
  have hc3 := cell_of_block (j := 0) (v := .int .i64 0) hb3W rfl
  have hc4 := cell_of_block (j := 1) (v := .int .i64 0) hb3W rfl
  have hf3 := free_of_block (j := 0) hb3W
  have hf4 := free_of_block (j := 1) hb3W
  have hne : ¬ (B3 = w.heap.size) := by omega
  refine wpAnyH_ready (rs := [11]) (by kernel_rfl) (by simp) ?_
  refine AllReadyH.cons rfl (fun K hK => ?_) AllReadyH.nil
  go_simp
  have hK3 : Keep (fun k => k = B3) W1 ((W3.setCell ⟨B3, 0, none⟩ (.int .i64 a)).setCell ⟨B3, 1, none⟩ (.int .i64 b)) := (hK2.setCell (.inl rfl) _).setCell (.inl rfl) _
  refine hK.out _ _ (HKP.out _ hK3) (fun hHeld => ?_)
  clear hK K
  try simp only [Act.put, List.setIfInBounds_toArray, List.set_cons_zero, List.set_cons_succ]
  refine wpAnyH_done (by kernel_rfl) ?_ _
  have hfin := heap_setCell_self (k := 1) (heap_setCell_self (k := 0) hb3W (.int .i64 a)) (.int .i64 b)
  have hr0 := cell_of_block (j := 0) (v := .int .i64 a) hfin rfl
  have hr1 := cell_of_block (j := 1) (v := .int .i64 b) hfin rfl
  generalize (W3.setCell ⟨B3, 0, none⟩ (.int .i64 a)).setCell ⟨B3, 1, none⟩ (.int .i64 b) = W4 at *
  clear hc3 hc4 hf3 hf4
  go_wp2
  refine bodyPost_ret (v := .agg #[.int .i64 a, .int .i64 b]) (by simp [results, Try.results79, go_sem, hr0, hr1]) rfl ?_
  exact ⟨HBK.out _ hK3, a, b, rfl, ⟨ha0, ha1⟩, ⟨hb0, hb1⟩, ha2, hb2, ha3, hb3'⟩
end Go.Proofs.Ytnhbplnhhloklaa
