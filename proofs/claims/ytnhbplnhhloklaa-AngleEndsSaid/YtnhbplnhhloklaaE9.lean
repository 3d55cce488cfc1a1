/- Contracts of the law's helpers: Net, Cut, ints. -/
import Derived.Test.YtnhbplnhhloklaaE8
import Derived.Test.YtnhbplnhhloklaaD4
namespace Go.Proofs.Ytnhbplnhhloklaa
open Go.RowKit

theorem elem31 : Elem 31 104 4 32 (.agg #[.int .i64 0, .int .i64 0, .int .i64 0, .int .i64 0]) := ⟨by kernel_rfl, elem_info (by kernel_rfl), rfl, by decide, by decide⟩
def angL (l : List Ang) : List Value := l.flatMap fun a => [Value.int .i64 a.t, .int .i64 a.c, .int .i64 a.r, .int .i64 a.w]
theorem angL_len (l : List Ang) : (angL l).length = l.length * 4 := by
  unfold angL
  induction l with
  | nil => rfl
  | cons a r ih => rw [List.flatMap_cons, List.length_append, ih, List.length_cons]; simp; omega
theorem own_ang {w : World} {base e k : Nat} {v : Value} {l : List Ang} (h : w.ownsRow base e 4 v k (angL l)) : k = l.length ∧ ∃ B d, v = .slice B l.length d ∧ AngAt w B l ∧ ∀ b o, B = some ⟨b, o, none⟩ → base ≤ b ∧ b < w.heap.size := by
  have hl := h.1
  rw [angL_len] at hl
  have hk : k = l.length := by omega
  refine ⟨hk, ?_⟩
  subst hk
  rcases h.2 with ⟨rfl, h0⟩ | ⟨g, cap, cur, rfl, hb, hh, hc, hm, hs, ht⟩
  · refine ⟨none, 0, by rw [h0], ?_, fun b o e => by cases e⟩
    rw [List.length_eq_zero_iff.1 h0]
    intro i a hi; simp at hi
  · have hlt := (Array.getElem?_eq_some_iff.1 hh).1
    refine ⟨some ⟨g, 0, none⟩, cap, rfl, fun i a hi => ⟨g, 0, rfl, hlt, ?_⟩, fun b o e => by cases e; exact ⟨hb, hlt⟩⟩
    have key : ∀ j, j < 4 → w.cell? ⟨g, 0 + (i * 4 + j), none⟩ = [Value.int .i64 a.t, .int .i64 a.c, .int .i64 a.r, .int .i64 a.w][j]? := fun j hj => by
      have h1 := flat_at l i a hi j hj
      obtain ⟨u, hu⟩ : ∃ u, [Value.int .i64 a.t, .int .i64 a.c, .int .i64 a.r, .int .i64 a.w][j]? = some u := ⟨_, List.getElem?_eq_getElem (by simpa using hj)⟩
      rw [hu] at h1 ⊢
      have := h.cells (g := g) rfl (i * 4 + j) u h1
      rw [addr_add] at this
      exact this
    exact ⟨key 0 (by omega), key 1 (by omega), key 2 (by omega), key 3 (by omega)⟩
theorem angL_snoc (l : List Ang) (a : Ang) : angL (l ++ [a]) = angL l ++ [.int .i64 a.t, .int .i64 a.c, .int .i64 a.r, .int .i64 a.w] := by simp [angL]

/-- The memory of Net. -/
structure VMem (w wr : World) (A : Option Addr) (n c : Nat) (T C : Int) (v : Value) (k : Nat) (l : List Ang) : Prop where
  net : NMem w wr A n c T C
  res : wr.heap[w.heap.size + 1]? = some (.cells #[.slice none 0 0, .int .i64 0, .int .i64 0] 33 (0, 0))
  out : wr.heap[w.heap.size + 1 + 1]? = some (.cells #[v, .int .i64 T, .int .i64 C] 33 (0, 0))
  own : wr.ownsRow (w.heap.size + 1 + 1 + 1) 104 4 v k (angL l)
theorem VMem.put {w wr w' : World} {A : Option Addr} {n c : Nat} {T C : Int} {v v' : Value} {k k' : Nat} {l l' : List Ang} (h : VMem w wr A n c T C v k l) (hb : Below (w.heap.size + 1 + 1 + 1) wr w') (ho : w'.ownsRow (w.heap.size + 1 + 1 + 1) 104 4 v' k' (angL l')) :
    VMem w (w'.setCell ⟨w.heap.size + 1 + 1, 0, none⟩ v') A n c T C v' k' l' := by
  have e : ∀ b, b < w.heap.size + 1 + 1 → (w'.setCell ⟨w.heap.size + 1 + 1, 0, none⟩ v').heap[b]? = wr.heap[b]? := fun b h1 => (Below.heap_setCell _ _ _ _ (by show b ≠ w.heap.size + 1 + 1; omega)).trans (hb.block b (by omega))
  refine ⟨⟨(h.net.below.trans (hb.mono (by omega))).setCell (by show w.heap.size ≤ w.heap.size + 1 + 1; omega) _, (e _ (by omega)).trans h.net.net⟩, (e _ (by omega)).trans h.res, ?_, own_setCell ho (Nat.lt_succ_self _) _⟩
  rw [heap_setCell_self ((hb.block _ (Nat.lt_succ_self _)).trans h.out)]; rfl

/-- A net is returned. -/
def NetOut (w : World) (l : List Ang) (T C : Int) (e : Ending) (w' : World) : Prop := Below w.heap.size w w' ∧ ∃ B d, e = .returned (.agg #[.slice B l.length d, .int .i64 T, .int .i64 C]) ∧ AngAt w' B l ∧ ∀ b o, B = some ⟨b, o, none⟩ → w.heap.size ≤ b ∧ b < w'.heap.size
/-- A bool is returned that says whether something holds. -/
def BoolIff (p : Prop) (w : World) (e : Ending) (w' : World) : Prop := Below w.heap.size w w' ∧ ∃ b : Bool, e = .returned (.bool b) ∧ (b = true ↔ p)
theorem BoolIff.yes {p : Prop} {w w' : World} (hb : Below w.heap.size w w') (h : p) : BoolIff p w (.returned (.bool true)) w' := ⟨hb, true, rfl, fun _ => h, fun _ => rfl⟩
theorem BoolIff.no {p : Prop} {w w' : World} (hb : Below w.heap.size w w') (h : ¬ p) : BoolIff p w (.returned (.bool false)) w' := ⟨hb, false, rfl, fun e => (by cases e), fun hp => absurd hp h⟩

set_option maxHeartbeats 4000000 in
set_option maxRecDepth 100000 in
theorem net_any (w : World) (A : Option Addr) (l : List Ang) (c : Nat) (T C : Int) (hA : AngAt w A l) (hl : l.length ≤ 1000) :
    Calls Try.prog 22 #[.agg #[.slice A l.length c, .int .i64 T, .int .i64 C]] w (NetOut w l T C) := by
  have hV0 : VMem w (((w.alloc (.cells #[.slice A l.length c, .int .i64 T, .int .i64 C] 24)).alloc (.cells #[.slice none 0 0, .int .i64 0, .int .i64 0] 33)).alloc (.cells #[.slice none 0 0, .int .i64 T, .int .i64 C] 33)) A l.length c T C (.slice none 0 0) 0 [] :=
    ⟨⟨(((Below.refl _ w).alloc (Nat.le_refl _) _).alloc (by simp) _).alloc (by simp; omega) _, past_alloc (past_alloc (at_alloc rfl))⟩, past_alloc (at_alloc (by simp)), at_alloc (by simp), World.ownsRow_nil _ _ _ _⟩
  go_enter Try.func22, Try.ntmps22
  go_wp2_with fail
  generalize (((w.alloc (.cells #[.slice A l.length c, .int .i64 T, .int .i64 C] 24)).alloc (.cells #[.slice none 0 0, .int .i64 0, .int .i64 0] 33)).alloc (.cells #[.slice none 0 0, .int .i64 T, .int .i64 C] 33)) = W0 at *
  go_loopw [4] (fun t wr => ∃ (k : Nat) (v : Value), k ≤ l.length ∧ t = .int .i64 k ∧ VMem w wr A l.length c T C v k (l.take k)) (fun t _ => l.length - (intOf t).toNat)
  case atStart => exact ⟨0, _, Nat.zero_le _, rfl, hV0⟩
  case round =>
    clear hV0
    obtain ⟨k, v, hk, rfl, hM⟩ := hrel
    obtain ⟨p, cp, rfl⟩ := own_slice hM.own
    have n0 := cell_of_block (j := 0) (v := .slice A l.length c) hM.net.net rfl
    by_cases hlt : k < l.length
    · obtain ⟨a, ha⟩ : ∃ a, l[k]? = some a := ⟨l[k], by simp [hlt]⟩
      have HT := Lib.hid (take_step ha)
      obtain ⟨b', o, rfl, hb', ha0, ha1, ha2, ha3⟩ := hA.below hM.net.below k _ ha
      have o0 := cell_of_block (j := 0) (v := .slice p k cp) hM.out rfl
      have hou := (Array.getElem?_eq_some_iff.1 hM.out).1
      have hal : Below wr.heap.size wr ((wr.alloc (.cells #[.int .i64 a.t, .int .i64 a.c, .int .i64 a.r, .int .i64 a.w] 74)).alloc (.cells #[.int .i64 a.t, .int .i64 a.c, .int .i64 a.r, .int .i64 a.w] 104)) := ((Below.refl _ wr).alloc (Nat.le_refl _) _).alloc (by simp) _
      have how := ownsRow_below hM.own hal (Nat.le_refl _)
      have hszA : w.heap.size + 1 + 1 + 1 ≤ ((wr.alloc (.cells #[.int .i64 a.t, .int .i64 a.c, .int .i64 a.r, .int .i64 a.w] 74)).alloc (.cells #[.int .i64 a.t, .int .i64 a.c, .int .i64 a.r, .int .i64 a.w] 104)).heap.size := Nat.le_trans (by omega) hal.size
      have hnew : ((wr.alloc (.cells #[.int .i64 a.t, .int .i64 a.c, .int .i64 a.r, .int .i64 a.w] 74)).alloc (.cells #[.int .i64 a.t, .int .i64 a.c, .int .i64 a.r, .int .i64 a.w] 104)).heap[wr.heap.size + 1]? = some (.cells #[.int .i64 a.t, .int .i64 a.c, .int .i64 a.r, .int .i64 a.w] 104 (0, 0)) := at_alloc (by simp)
      have hkn : k < 100000 := by omega
      have HO := Lib.hid how
      have HNW := Lib.hid hnew
      have HAL := Lib.hid hal
      have HM := Lib.hid hM
      clear how hnew hal hM ha
      go_wp2_with (at_builtin; refine wpList_push elem31 ((wr.alloc (.cells #[.int .i64 a.t, .int .i64 a.c, .int .i64 a.r, .int .i64 a.w] 74)).alloc (.cells #[.int .i64 a.t, .int .i64 a.c, .int .i64 a.r, .int .i64 a.w] 104)) (by rfl) (.tmp 24) (.tmp 34) (by rfl) (w.heap.size + 1 + 1 + 1) _ k _ (by rfl) HO.out (wr.heap.size + 1) 1 [.int .i64 a.t, .int .i64 a.c, .int .i64 a.r, .int .i64 a.w] (by rfl) HNW.out rfl (by simp [Value.oneCell']) hkn hszA ?_; intro v' w' how5 hbe5 _; obtain ⟨g, cap, rfl, hcap, hbg, hgl⟩ := own_form how5; have hbw := (HAL.out.mono (show w.heap.size + 1 + 1 + 1 ≤ wr.heap.size by omega)).trans hbe5; have co' := cell_of_block (j := 0) ((hbw.block (w.heap.size + 1 + 1) (Nat.lt_succ_self _)).trans HM.out.out) rfl; have fo' := free_of_block (j := 0) ((hbw.block (w.heap.size + 1 + 1) (Nat.lt_succ_self _)).trans HM.out.out))
      go_roundw
      case rel => exact ⟨k + 1, _, by omega, by go_num, by rw [HT.out]; exact HM.out.put hbw (by rw [angL_snoc]; exact how5)⟩
      case measure => simp [intOf]; omega
    · obtain rfl : k = l.length := by omega
      have hown := hM.own
      rw [List.take_length] at hown
      obtain ⟨_, B, d, he, hB, hBb⟩ := own_ang hown
      cases he
      have o0 := cell_of_block (j := 0) (v := .slice p l.length cp) hM.out rfl
      have o1 := cell_of_block (j := 1) (v := .int .i64 T) hM.out rfl
      have o2 := cell_of_block (j := 2) (v := .int .i64 C) hM.out rfl
      have r0 := cell_of_block (j := 0) (v := .slice none 0 0) hM.res rfl
      have r1 := cell_of_block (j := 1) (v := .int .i64 0) hM.res rfl
      have r2 := cell_of_block (j := 2) (v := .int .i64 0) hM.res rfl
      have f0 := free_of_block (j := 0) hM.res
      have f1 := free_of_block (j := 1) hM.res
      have f2 := free_of_block (j := 2) hM.res
      have HB := Lib.hid (And.intro hB hBb)
      clear hB hBb hown
      go_wp2_with fail
      refine bodyPost_ret (v := .agg #[.slice p l.length cp, .int .i64 T, .int .i64 C]) (by simp [results, Try.results22, go_sem, r0, r1, r2]) rfl ?_
      have hk3 : Keep (fun q => q = w.heap.size + 1) wr ((((wr.setCell ⟨w.heap.size + 1, 0, none⟩ (.slice p l.length cp)).setCell ⟨w.heap.size + 1, 1, none⟩ (.int .i64 T)).setCell ⟨w.heap.size + 1, 2, none⟩ (.int .i64 C))) :=
        (((Keep.refl (fun q => q = w.heap.size + 1) wr).setCell (p := ⟨w.heap.size + 1, 0, none⟩) (.inl rfl) _).setCell (p := ⟨w.heap.size + 1, 1, none⟩) (.inl rfl) _).setCell (p := ⟨w.heap.size + 1, 2, none⟩) (.inl rfl) _
      refine ⟨((hM.net.below.setCell (by show w.heap.size ≤ w.heap.size + 1; omega) _).setCell (by show w.heap.size ≤ w.heap.size + 1; omega) _).setCell (by show w.heap.size ≤ w.heap.size + 1; omega) _, p, cp, rfl, HB.out.1.keep hk3 (fun b o e => by have := HB.out.2 b o e; omega), fun b o e => ?_⟩
      have := HB.out.2 b o e
      have := hk3.size
      omega

theorem IntsAt.keep {W W' : World} {A : Option Addr} {l : List Int} {S : Nat → Prop} (h : IntsAt W A l) (hb : Keep S W W') (hS : ∀ b o, A = some ⟨b, o, none⟩ → ¬ S b) : IntsAt W' A l := by
  intro i a hi
  obtain ⟨b, o, hA, hl, h1⟩ := h i a hi
  exact ⟨b, o, hA, Nat.lt_of_lt_of_le hl hb.size, (World.cell?_of_block (w := W) (hb.block b hl (hS b o hA))).trans h1⟩

/-- A cut is returned. -/
def CutOut (w : World) (ts cs : List Int) (e : Ending) (w' : World) : Prop := Below w.heap.size w w' ∧ ∃ P Q d1 d2, e = .returned (.agg #[.slice P ts.length d1, .slice Q cs.length d2]) ∧ IntsAt w' P ts ∧ IntsAt w' Q cs
set_option maxHeartbeats 4000000 in
theorem cut_any (w : World) (P Q : Option Addr) (ts cs : List Int) (c1 c2 : Nat) (hP : IntsAt w P ts) (hQ : IntsAt w Q cs) (hP0 : P = none → ts = [] ∧ c1 = 0) (hQ0 : Q = none → cs = [] ∧ c2 = 0) (hlt : ts.length ≤ 1000) (hlc : cs.length ≤ 1000) :
    Calls Try.prog 25 #[.agg #[.slice P ts.length c1, .slice Q cs.length c2]] w (CutOut w ts cs) := by
  have hal : Below w.heap.size w ((w.alloc (.cells #[.slice P ts.length c1, .slice Q cs.length c2] 27)).alloc (.cells #[.slice none 0 0, .slice none 0 0] 37)) := ((Below.refl _ w).alloc (Nat.le_refl _) _).alloc (by simp) _
  have hc : ((w.alloc (.cells #[.slice P ts.length c1, .slice Q cs.length c2] 27)).alloc (.cells #[.slice none 0 0, .slice none 0 0] 37)).heap[w.heap.size]? = some (.cells #[.slice P ts.length c1, .slice Q cs.length c2] 27 (0, 0)) := past_alloc (at_alloc rfl)
  have hr : ((w.alloc (.cells #[.slice P ts.length c1, .slice Q cs.length c2] 27)).alloc (.cells #[.slice none 0 0, .slice none 0 0] 37)).heap[w.heap.size + 1]? = some (.cells #[.slice none 0 0, .slice none 0 0] 37 (0, 0)) := at_alloc (by simp)
  go_enter Try.func25, Try.ntmps25
  go_wp2_with fail
  generalize ((w.alloc (.cells #[.slice P ts.length c1, .slice Q cs.length c2] 27)).alloc (.cells #[.slice none 0 0, .slice none 0 0] 37)) = W0 at *
  have hs0 := (Array.getElem?_eq_some_iff.1 hc).1
  have hs1 := (Array.getElem?_eq_some_iff.1 hr).1
  have c0 := cell_of_block (j := 0) (v := .slice P ts.length c1) hc rfl
  have c1' := cell_of_block (j := 1) (v := .slice Q cs.length c2) hc rfl
  have r0 := cell_of_block (j := 0) (v := .slice none 0 0) hr rfl
  have r1 := cell_of_block (j := 1) (v := .slice none 0 0) hr rfl
  have f0 := free_of_block (j := 0) hr
  have f1 := free_of_block (j := 1) hr
  have hd0 : Below W0.heap.size W0 W0.drew := (Below.refl _ W0).drew
  go_region_held3 (fun w' => w'.cell? ⟨w.heap.size, 0, none⟩ = some (.slice P ts.length c1) ∧ w'.cell? ⟨w.heap.size, 1, none⟩ = some (.slice Q cs.length c2))
    ((first | exact ⟨by assumption, by assumption⟩ | exact ⟨(hx1.cell (by exact hs0)).trans c0, (hx1.cell (by exact hs0)).trans c1'⟩ | exact ⟨(hx2.cell (by exact hs0)).trans c0, (hx2.cell (by exact hs0)).trans c1'⟩ | exact ⟨(World.cell?_setCell_far _ _ _ _ (by simp)).trans ((World.cell?_setCell_far _ _ _ _ (by simp)).trans ((hx2.cell (by exact hs0)).trans c0)), (World.cell?_setCell_far _ _ _ _ (by simp)).trans ((World.cell?_setCell_far _ _ _ _ (by simp)).trans ((hx2.cell (by exact hs0)).trans c1'))⟩))
    (first | (go_at_call_has 23 P; refine (list_any _ P ts c1 (hP.below (hal.trans (hd0.mono hal.size))) hP0 hlt).mono ?_; rintro e W1 ⟨hb1, B1, d1, rfl, hI1, hF1⟩; have hx1 := hd0.trans (hb1.mono hd0.size)) | (go_at_call_has 23 Q; refine (list_any _ Q cs c2 (hQ.below (hal.trans (hx1.mono hal.size))) hQ0 hlc).mono ?_; rintro e W2 ⟨hb2, B2, d2, rfl, hI2, hF2⟩; have hx2 := hx1.trans (hb2.mono hx1.size); have r0' := (hx2.cell (p := ⟨w.heap.size + 1, 0, none⟩) hs1).trans r0; have r1' := (hx2.cell (p := ⟨w.heap.size + 1, 1, none⟩) hs1).trans r1; have f0' := (hx2.frozen (p := ⟨w.heap.size + 1, 0, none⟩) hs1).trans f0; have f1' := (hx2.frozen (p := ⟨w.heap.size + 1, 1, none⟩) hs1).trans f1))
  go_wp2_with fail
  refine bodyPost_ret (v := .agg #[.slice B1 ts.length d1, .slice B2 cs.length d2]) (by simp [results, Try.results25, go_sem, r0', r1']) rfl ?_
  have hk : Keep (fun q => q = w.heap.size + 1) W2 ((W2.setCell ⟨w.heap.size + 1, 0, none⟩ (.slice B1 ts.length d1)).setCell ⟨w.heap.size + 1, 1, none⟩ (.slice B2 cs.length d2)) :=
    ((Keep.refl (fun q => q = w.heap.size + 1) W2).setCell (p := ⟨w.heap.size + 1, 0, none⟩) (.inl rfl) _).setCell (p := ⟨w.heap.size + 1, 1, none⟩) (.inl rfl) _
  have hz := hd0.size
  have hz1 := hx1.size
  exact ⟨((hal.trans (hx2.mono hal.size)).setCell (Nat.le_succ _) _).setCell (Nat.le_succ _) _, B1, B2, d1, d2, rfl, (hI1.below hb2).keep hk (fun b o e => by have := hF1 b o e; omega), hI2.keep hk (fun b o e => by have := hF2 b o e; omega)⟩

set_option maxHeartbeats 1000000 in
theorem ints_any (w : World) (A B : Option Addr) (xs ys : List Int) (c d : Nat) (hA : IntsAt w A xs) (hB : IntsAt w B ys) (hl : xs.length ≤ 1000000) (_hl2 : ys.length ≤ 1000000) :
    Calls Try.prog 42 #[.slice A xs.length c, .slice B ys.length d] w (BoolIff (xs = ys) w) := by
  by_cases hlen : xs.length = ys.length
  · have hlen' : ((xs.length : Int) != ys.length) = false := by simp [hlen]
    have HLEN := Lib.hid hlen
    clear hlen
    go_enter Try.func42, Try.ntmps42
    go_wp2_with fail
    go_loopw [5] (fun t wr => ∃ k : Nat, k ≤ xs.length ∧ t = .int .i64 k ∧ Below w.heap.size w wr ∧ Hid (xs.take k = ys.take k)) (fun t _ => xs.length - (intOf t).toNat)
    case atStart => exact ⟨0, Nat.zero_le _, rfl, Below.refl _ _, Lib.hid rfl⟩
    case round =>
      obtain ⟨k, hk, rfl, hbel, heq⟩ := hrel
      by_cases hlt : k < xs.length
      · obtain ⟨x, hx⟩ : ∃ x, xs[k]? = some x := ⟨xs[k], by simp [hlt]⟩
        have hlt2 : k < ys.length := by rw [← HLEN.out]; exact hlt
        obtain ⟨y, hy⟩ : ∃ y, ys[k]? = some y := ⟨ys[k], by simp [hlt2]⟩
        obtain ⟨b1, o1, rfl, hb1, hc1⟩ := hA.below hbel k x hx
        obtain ⟨b2, o2, rfl, hb2, hc2⟩ := hB.below hbel k y hy
        have hTx := Lib.hid (take_step hx)
        have hTy := Lib.hid (take_step hy)
        have hk0 : (0 : Int) ≤ k := by omega
        have hk1 : (k : Int) < xs.length := by omega
        have hk2 : (k : Int) < ys.length := by omega
        have HX := Lib.hid (And.intro hx hy)
        clear hx hy
        go_wp2_with fail
        go_region_held3 (fun w' => w'.cell? ⟨b1, o1 + k, none⟩ = some (.int .i64 x) ∧ w'.cell? ⟨b2, o2 + k, none⟩ = some (.int .i64 y)) (exact ⟨hc1, hc2⟩) (fail)
        by_cases he : x = y
        · have hd : (x != y) = false := by simp [he]
          have HN : Hid (xs.take (k + 1) = ys.take (k + 1)) := Lib.hid (by rw [hTx.out, hTy.out, heq.out, he])
          clear he
          go_wp2_with fail
          go_roundw
          case rel => exact ⟨k + 1, by omega, by go_num, hbel.drew, HN⟩
          case measure => simp [intOf]; omega
        · have hd : (x != y) = true := by simp [he]
          have HN : Hid (xs ≠ ys) := Lib.hid (fun e => by
            subst e
            have := HX.out.1.symm.trans HX.out.2
            exact he (Option.some.inj this))
          clear he
          go_wp2_with fail
          go_ret
          exact .no hbel.drew HN.out
      · have HN : Hid (xs = ys) := Lib.hid (by
          have h := heq.out
          rw [List.take_of_length_le (by omega), List.take_of_length_le (by have := HLEN.out; omega)] at h
          exact h)
        go_wp2_with fail
        go_ret
        exact .yes hbel HN.out
  · have hlen' : ((xs.length : Int) != ys.length) = true := by simp; omega
    have HN : Hid (xs ≠ ys) := Lib.hid (fun e => hlen (by rw [e]))
    clear hlen
    go_enter Try.func42, Try.ntmps42
    go_wp2_with fail
    go_ret
    exact .no (Below.refl _ _) HN.out
end Go.Proofs.Ytnhbplnhhloklaa
