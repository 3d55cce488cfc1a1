/- Contract of Prove. -/
import Derived.Test.YtnhbplnhhloklaaL1
import Derived.Test.YtnhbplnhhloklaaC5
import Derived.Sort.AtCall
import Derived.Deep.WholeRow
import Derived.WalkSpells
namespace Go.Proofs.Ytnhbplnhhloklaa
open Go.RowKit

/-- What Prove tells. -/
def CutIs (l : List Ang) (T C : Nat) (err : Int) (ts cs : List Nat) : Prop := Rising (outI ts) T ∧ Rising (outI cs) C ∧ ProvesL l (outI ts) (outI cs) (rmLo l err [] l.length) (rmHi l err [] l.length)

/-- The memory behind begin. -/
structure QMem (w W1 W : World) (B7 Wb Mb : Nat) (A : Option Addr) (n c : Nat) (T C : Int) (L : LL) : Prop where
  below : Below W1.heap.size W1 W
  ord : w.heap.size + 1 < W1.heap.size ∧ W1.heap.size ≤ B7 ∧ W1.heap.size ≤ Wb ∧ W1.heap.size ≤ Mb
  ne : B7 ≠ Wb ∧ B7 ≠ Mb ∧ Wb ≠ Mb
  box : W.heap[B7]? = some (.cells #[.pointer (some ⟨Wb, 0, none⟩)] 136 (0, 0))
  work : W.heap[Wb]? = some (.cells #[.slice A n c, .int .i64 T, .int .i64 C, .map (some Mb)] 153 (0, 0))
  map : MapIs W Mb L

section
variable {w W1 W3 : World} {B7 Wb Mb : Nat} {A : Option Addr} {n c : Nat} {T C : Int} {L : LL}
theorem work_ne_map {W : World} {cs : Array Value} {t : TypeId} {f : Nat × Nat} (h : W.heap[Wb]? = some (.cells cs t f)) (hM : MapIs W Mb L) : Wb ≠ Mb := by
  rintro rfl
  obtain ⟨es, cl, hb, _⟩ := hM
  rw [h] at hb; cases hb
theorem QMem.of_new (hx : Below W1.heap.size W1 W3) (hs : w.heap.size + 1 < W1.heap.size) (h1 : W1.heap.size ≤ Wb) (h2 : W1.heap.size ≤ Mb) (hW : W3.heap[Wb]? = some (.cells #[.slice A n c, .int .i64 T, .int .i64 C, .map (some Mb)] 153 (0, 0))) (hM : MapIs W3 Mb L) :
    QMem w W1 (W3.alloc (.cells #[.pointer (some ⟨Wb, 0, none⟩)] 136)) W3.heap.size Wb Mb A n c T C L := by
  have lW := (Array.getElem?_eq_some_iff.1 hW).1
  have lM := hM.lt
  exact ⟨hx.alloc hx.size _, ⟨hs, hx.size, h1, h2⟩, ⟨by omega, by omega, work_ne_map hW hM⟩, at_alloc rfl, past_alloc hW, hM.same (Below.heap_alloc _ _ _ lM)⟩
theorem QMem.of_set (hx : Below W1.heap.size W1 W3) (hs : w.heap.size + 1 < W1.heap.size) (h0 : W1.heap.size ≤ B7) (h1 : B7 < Wb) (h2 : B7 < Mb) (hb : W3.heap[B7]? = some (.cells #[.pointer none] 136 (0, 0))) (hW : W3.heap[Wb]? = some (.cells #[.slice A n c, .int .i64 T, .int .i64 C, .map (some Mb)] 153 (0, 0))) (hM : MapIs W3 Mb L) :
    QMem w W1 (W3.setCell ⟨B7, 0, none⟩ (.pointer (some ⟨Wb, 0, none⟩))) B7 Wb Mb A n c T C L := by
  refine ⟨hx.setCell h0 _, ⟨hs, h0, by omega, by omega⟩, ⟨by omega, by omega, work_ne_map hW hM⟩, ?_, ?_, hM.same ?_⟩
  · rw [heap_setCell_self hb]; rfl
  · rw [Below.heap_setCell _ _ _ _ (by show Wb ≠ B7; omega)]; exact hW
  · exact Below.heap_setCell _ _ _ _ (by show Mb ≠ B7; omega)
end

theorem own_slice {w : World} {base e size k : Nat} {v : Value} {xs : List Value} (h : w.ownsRow base e size v k xs) : ∃ p cap, v = .slice p k cap := by
  rcases h.2 with ⟨rfl, rfl⟩ | ⟨g, cap, cur, rfl, _⟩
  · exact ⟨none, 0, rfl⟩
  · exact ⟨_, cap, rfl⟩
theorem own_keep {S : Nat → Prop} {w w' : World} {base e size k : Nat} {v : Value} {xs : List Value} (h : w.ownsRow base e size v k xs) (hk : Keep S w w') (hS : ∀ g, base ≤ g → g < w.heap.size → ¬ S g) : w'.ownsRow base e size v k xs := by
  refine ⟨h.1, ?_⟩
  rcases h.2 with hn | ⟨g, cap, cur, rfl, hbg, hgg, rest⟩
  · exact .inl hn
  · have hl := (Array.getElem?_eq_some_iff.1 hgg).1
    exact .inr ⟨g, cap, cur, rfl, hbg, (hk.block g hl (hS g hbg hl)).trans hgg, rest⟩
theorem outV_len (xs : List Nat) : (outV xs).length = xs.length := by simp [outV]
theorem outV_snoc (xs : List Nat) (i : Nat) : outV (xs ++ [i]) = outV xs ++ [.int .i64 i] := by simp [outV]

/-- The memory of the lists of a cut: below Bc all is as it was. -/
structure UMem (W7 wr : World) (P Q : Value) : Prop where
  below : Below W7.heap.size W7 wr
  cut : wr.heap[W7.heap.size]? = some (.cells #[P, Q] 37 (0, 0))
section
variable {W7 wr w' : World} {P Q P' Q' : Value} {base : Nat}
theorem UMem.lt (h : UMem W7 wr P Q) : W7.heap.size < wr.heap.size := (Array.getElem?_eq_some_iff.1 h.cut).1
theorem UMem.put0 (h : UMem W7 wr P Q) (hb : Below base wr w') (hl : W7.heap.size < base) : UMem W7 (w'.setCell ⟨W7.heap.size, 0, none⟩ P') P' Q := by
  refine ⟨(h.below.trans (hb.mono (by omega))).setCell (Nat.le_refl _) _, ?_⟩
  rw [heap_setCell_self ((hb.block _ hl).trans h.cut)]; rfl
theorem UMem.put1 (h : UMem W7 wr P Q) (hb : Below base wr w') (hl : W7.heap.size < base) : UMem W7 (w'.setCell ⟨W7.heap.size, 1, none⟩ Q') P Q' := by
  refine ⟨(h.below.trans (hb.mono (by omega))).setCell (Nat.le_refl _) _, ?_⟩
  rw [heap_setCell_self ((hb.block _ hl).trans h.cut)]; rfl
end

set_option maxHeartbeats 20000000 in
set_option maxRecDepth 100000 in
theorem prove_any (w : World) (A : Option Addr) (l : List Ang) (c : Nat) (T C err : Int) (hA : AngAt w A l) (hl : l.length ≤ 1000) :
    Calls Try.prog 64 #[.agg #[.slice A l.length c, .int .i64 T, .int .i64 C], .int .i64 err] w fun e w' => Below w.heap.size w w' ∧
      ∃ P Q s, e = .returned (.tuple #[.agg #[P, Q], .int .i64 s]) ∧ ((askedN l T C err ≠ 0 ∧ P = .slice none 0 0 ∧ Q = .slice none 0 0 ∧ s = askedN l T C err) ∨
        (askedN l T C err = 0 ∧ ((s = 7 ∧ P = .slice none 0 0 ∧ Q = .slice none 0 0 ∧ CanE l T.toNat C.toNat err []) ∨
          (s = 0 ∧ ¬ CanE l T.toNat C.toNat err [] ∧ ∃ ts cs, CutIs l T.toNat C.toNat err ts cs ∧ w'.ownsRow w.heap.size 3 1 P ts.length (outV ts) ∧ w'.ownsRow w.heap.size 3 1 Q cs.length (outV cs))))) := by
  have hbl : Below w.heap.size w ((w.alloc (.cells #[.slice A l.length c, .int .i64 T, .int .i64 C] 33)).alloc (.cells #[.slice none 0 0, .slice none 0 0] 37)) := ((Below.refl _ w).alloc (Nat.le_refl _) _).alloc (by simp) _
  have hq : ((w.alloc (.cells #[.slice A l.length c, .int .i64 T, .int .i64 C] 33)).alloc (.cells #[.slice none 0 0, .slice none 0 0] 37)).heap[w.heap.size + 1]? = some (.cells #[.slice none 0 0, .slice none 0 0] 37 (0, 0)) := at_alloc (by simp)
  have hsz : w.heap.size + 1 < ((w.alloc (.cells #[.slice A l.length c, .int .i64 T, .int .i64 C] 33)).alloc (.cells #[.slice none 0 0, .slice none 0 0] 37)).heap.size := by simp
  by_cases h1 : askedN l T C err = 0
  · have h1' : (askedN l T C err != 0) = false := by simp [h1]
    have h2 := askedN_zero h1
    obtain ⟨T, C, rfl, rfl, hV⟩ := valid_of h2.1
    have hR := rm_ok (out := []) (k := l.length) hV.reads h2.2
    have HA := Lib.hid h1
    have hE := h2.2
    have hl12 := hV.len.2
    have hN := hV.net
    clear h1 h2
    have hn : ((w.alloc (.cells #[.slice A l.length c, .int .i64 T, .int .i64 C] 33)).alloc (.cells #[.slice none 0 0, .slice none 0 0] 37)).heap[w.heap.size]? = some (.cells #[.slice A l.length c, .int .i64 T, .int .i64 C] 33 (0, 0)) := past_alloc (at_alloc rfl)
    go_enter Try.func64, Try.ntmps64
    go_wp2_with (first | (go_at_call 66; refine (asked_any _ A l c T C err (hA.below hbl) hl).mono ?_; rintro e W1 ⟨hbe, rfl⟩))
    have hb1 := hbl.trans (hbe.mono hbl.size)
    have hn1 := (hbe.block _ (Nat.lt_of_succ_lt hsz)).trans hn
    have hq1 := (hbe.block _ hsz).trans hq
    have hs1 : w.heap.size < W1.heap.size := Nat.lt_of_lt_of_le (Nat.lt_of_succ_lt hsz) hbe.size
    have hs2 : w.heap.size + 1 < W1.heap.size := Nat.lt_of_lt_of_le hsz hbe.size
    have c0 := cell_of_block (j := 0) (v := .slice A l.length c) hn1 rfl
    have c1 := cell_of_block (j := 1) (v := .int .i64 T) hn1 rfl
    have c2 := cell_of_block (j := 2) (v := .int .i64 C) hn1 rfl
    have hd0 : Below W1.heap.size W1 W1.drew := (Below.refl _ W1).drew
    have hda : Below W1.heap.size W1 (W1.alloc (.cells #[.pointer none] 136)).drew := ((Below.refl _ W1).alloc (Nat.le_refl _) _).drew
    clear hbe hn hbl hq hsz
    go_region_held3 (fun w' => w'.cell? ⟨w.heap.size, 0, none⟩ = some (.slice A l.length c) ∧ w'.cell? ⟨w.heap.size, 1, none⟩ = some (.int .i64 T) ∧ w'.cell? ⟨w.heap.size, 2, none⟩ = some (.int .i64 C))
      ((first | exact ⟨by assumption, by assumption, by assumption⟩ | exact ⟨(hda.cell (by exact hs1)).trans c0, (hda.cell (by exact hs1)).trans c1, (hda.cell (by exact hs1)).trans c2⟩ | exact ⟨(hx2.cell (by exact hs1)).trans c0, (hx2.cell (by exact hs1)).trans c1, (hx2.cell (by exact hs1)).trans c2⟩ | exact ⟨((hx2.alloc hx2.size _).cell (by exact hs1)).trans c0, ((hx2.alloc hx2.size _).cell (by exact hs1)).trans c1, ((hx2.alloc hx2.size _).cell (by exact hs1)).trans c2⟩ | exact ⟨(hx3.cell (by exact hs1)).trans c0, (hx3.cell (by exact hs1)).trans c1, (hx3.cell (by exact hs1)).trans c2⟩ | exact ⟨((hx3.alloc hx3.size _).cell (by exact hs1)).trans c0, ((hx3.alloc hx3.size _).cell (by exact hs1)).trans c1, ((hx3.alloc hx3.size _).cell (by exact hs1)).trans c2⟩ | exact ⟨((hx3.setCell (by exact hx2.size) _).cell (by exact hs1)).trans c0, ((hx3.setCell (by exact hx2.size) _).cell (by exact hs1)).trans c1, ((hx3.setCell (by exact hx2.size) _).cell (by exact hs1)).trans c2⟩ | exact ⟨((hx3.setCell (by exact Nat.le_refl _) _).cell (by exact hs1)).trans c0, ((hx3.setCell (by exact Nat.le_refl _) _).cell (by exact hs1)).trans c1, ((hx3.setCell (by exact Nat.le_refl _) _).cell (by exact hs1)).trans c2⟩))
      (first | (go_at_call 67; refine (rooms_any _ A none l [] c 0 T C err (hA.below (hb1.trans (hd0.mono hb1.size))) (IntsAt.nil _ _) hl12 (by simp) hE hV.reads).mono ?_; rintro e W2 ⟨rfl, hbr⟩; have hx2 := hd0.trans (hbr.mono hd0.size)) | (go_at_call 67; refine (rooms_any _ A none l [] c 0 T C err (hA.below (hb1.trans (hda.mono hb1.size))) (IntsAt.nil _ _) hl12 (by simp) hE hV.reads).mono ?_; rintro e W2 ⟨rfl, hbr⟩; have hx2 := hda.trans (hbr.mono hda.size); have hbx := (hbr.block W1.heap.size (by simp)).trans (at_alloc (w := W1) (o := .cells #[.pointer none] 136) rfl)) | (go_at_call 92; refine (begin_any _ A l c T C _ _ (hA.below (hb1.trans (hx2.mono hb1.size))) hl12 hN.hT hN.hC hN.ok hR.lo0 hR.hi0).mono ?_; rintro e W3 ⟨Wb, Mb, rfl, hwb, hmb, hbg, hW, hM⟩; have hx3 := hx2.trans (hbg.mono hx2.size); (try (have hbx3 := (hbg.block W1.heap.size (Array.getElem?_eq_some_iff.1 hbx).1).trans hbx; have cbx := cell_of_block (j := 0) hbx3 rfl; have fbx := free_of_block (j := 0) hbx3))) | (go_at_call 92; refine (begin_any _ A l c T C _ _ (hA.below (hb1.trans ((hx2.alloc hx2.size _).mono hb1.size))) hl12 hN.hT hN.hC hN.ok hR.lo0 hR.hi0).mono ?_; rintro e W3 ⟨Wb, Mb, rfl, hwb, hmb, hbg, hW, hM⟩; have hx3 := (hx2.alloc hx2.size _).trans (hbg.mono (hx2.alloc hx2.size _).size); have hbx3 := (hbg.block W2.heap.size (by simp)).trans (at_alloc (w := W2) (o := .cells #[.pointer none] 136) rfl); have cbx := cell_of_block (j := 0) hbx3 rfl; have fbx := free_of_block (j := 0) hbx3))
    all_goals
      first
        | (have hz : W1.heap.size < W2.heap.size := (Array.getElem?_eq_some_iff.1 hbx).1
           have hQ := QMem.of_set (w := w) hx3 hs2 (Nat.le_refl _) (Nat.lt_of_lt_of_le hz hwb) (Nat.lt_of_lt_of_le hz hmb) hbx3 hW hM
           generalize W3.setCell ⟨W1.heap.size, 0, none⟩ (.pointer (some ⟨Wb, 0, none⟩)) = Wq at hQ ⊢
           obtain ⟨B7, hB7⟩ : ∃ B7, W1.heap.size = B7 := ⟨_, rfl⟩
           have hQ2 : QMem w W1 Wq B7 Wb Mb A l.length c T C (LF l T C (rmLo l err [] l.length) (rmHi l err [] l.length)) := by rw [← hB7]; exact hQ
           rw [hB7]
           clear hB7 hQ hz
           have hQ := hQ2
           clear hQ2)
        | (have hz : W2.heap.size < (W2.alloc (.cells #[.pointer none] 136)).heap.size := by simp
           have hQ := QMem.of_set (w := w) hx3 hs2 hx2.size (Nat.lt_of_lt_of_le hz hwb) (Nat.lt_of_lt_of_le hz hmb) hbx3 hW hM
           generalize W3.setCell ⟨W2.heap.size, 0, none⟩ (.pointer (some ⟨Wb, 0, none⟩)) = Wq at hQ ⊢
           generalize W2.heap.size = B7 at hQ ⊢)
        | (have hQ := QMem.of_new (w := w) hx3 hs2 (Nat.le_trans hx2.size hwb) (Nat.le_trans hx2.size hmb) hW hM
           generalize W3.alloc (.cells #[.pointer (some ⟨Wb, 0, none⟩)] 136) = Wq at hQ ⊢
           generalize W3.heap.size = B7 at hQ ⊢)
      try clear hbx3 cbx fbx
      try clear hbx
      clear hbg hbr hW hM hwb hmb hx3 hx2 hd0 hda
      have hBf := LF_bnd (T := T) (C := C) hl12 hR.lo0 hR.hi0 hR.le
      have hcb := cell_of_block (j := 0) (v := .pointer (some ⟨Wb, 0, none⟩)) hQ.box rfl
      have hl1 : l.length ≤ 1000 := by omega
      have hqq := (hQ.below.block _ hs2).trans hq1
      have hqM : w.heap.size + 1 ≠ Mb := by have := hQ.ord; omega
      have lq : w.heap.size + 1 < Wq.heap.size := Nat.lt_of_lt_of_le hs2 hQ.below.size
      go_wp2_with (first | (go_at_call 93; refine (flow_any Wb Mb A l.length c T C hl1 _ _ hQ.work hQ.map hBf).mono ?_; rintro e W5 ⟨sum, L', rfl, hM5, hK5, hrel, s0, hd0⟩; have HR := Lib.hid (And.intro hrel hd0); clear hrel hd0; have hq5 := (hK5.block _ lq hqM).trans hqq; have q0 := cell_of_block (j := 0) (v := .slice none 0 0) hq5 rfl; have q1 := cell_of_block (j := 1) (v := .slice none 0 0) hq5 rfl; have f0 := free_of_block (j := 0) hq5; have f1 := free_of_block (j := 1) hq5))
      · have he : sum = dueN (gF l T C (rmLo l err [] l.length)) 11 := by
          have h : (sum == dueN (gF l T C (rmLo l err [] l.length)) 11) = true := by assumption
          simpa using h
        have hcan : CanE l T C err [] := ⟨_, flow_truth hN hR.le hBf HR.out.1 he⟩
        have hb5 : Below w.heap.size w W5 := hb1.trans ((hQ.below.trans (hK5.below hQ.below.size (by rintro k rfl; exact hQ.ord.2.2.2))).mono hb1.size)
        refine bodyPost_ret (v := .tuple #[.agg #[.slice none 0 0, .slice none 0 0], .int .i64 7]) (by simp [results, Try.results64, go_sem, q0, q1]) rfl ?_
        exact ⟨(hb5.setCell (Nat.le_succ _) _).setCell (Nat.le_succ _) _, _, _, 7, rfl, .inr ⟨HA.out, .inl ⟨rfl, rfl, rfl, hcan⟩⟩⟩
      · have hne : sum ≠ dueN (gF l T C (rmLo l err [] l.length)) 11 := by
          intro e
          have h : ¬ (sum == dueN (gF l T C (rmLo l err [] l.length)) 11) = true := by first | assumption | (simp_all; done)
          exact h (by simp [e])
        have HNE := Lib.hid hne
        have hb5 : Below W1.heap.size W1 W5 := hQ.below.trans (hK5.below hQ.below.size (by rintro k rfl; exact hQ.ord.2.2.2))
        have lB := (Array.getElem?_eq_some_iff.1 hQ.box).1
        have lWb := (Array.getElem?_eq_some_iff.1 hQ.work).1
        have hbox5 := (hK5.block _ lB hQ.ne.2.1).trans hQ.box
        have hwork5 := (hK5.block _ lWb hQ.ne.2.2).trans hQ.work
        have lB5 := (Array.getElem?_eq_some_iff.1 hbox5).1
        have lW5 := (Array.getElem?_eq_some_iff.1 hwork5).1
        have lM5 := hM5.lt
        clear hne
        have hG : GMem ((W5.alloc (.cells #[.bool false, .bool false, .bool false, .bool false, .bool false, .bool false, .bool false, .bool false, .bool false, .bool false, .bool false, .bool true, .bool false] 140)).alloc (.cells #[.func (.func 94) #[] #[.pointer (some ⟨B7, 0, none⟩), .pointer (some ⟨W5.heap.size, 0, none⟩), .pointer (some ⟨W5.heap.size + 1, 0, none⟩)]] 141)) W5.heap.size B7 (W5.heap.size + 1) Wb Mb A l.length c T C (mark (fun _ => false) 11) L' :=
          ⟨past_alloc (at_alloc rfl), past_alloc (past_alloc hbox5), at_alloc (by simp), past_alloc (past_alloc hwork5), hM5.same ((Below.heap_alloc _ _ _ (by simp; omega)).trans (Below.heap_alloc _ _ _ lM5)), by omega, by omega, by omega⟩
        have hb6 : Below W1.heap.size W1 ((W5.alloc (.cells #[.bool false, .bool false, .bool false, .bool false, .bool false, .bool false, .bool false, .bool false, .bool false, .bool false, .bool false, .bool true, .bool false] 140)).alloc (.cells #[.func (.func 94) #[] #[.pointer (some ⟨B7, 0, none⟩), .pointer (some ⟨W5.heap.size, 0, none⟩), .pointer (some ⟨W5.heap.size + 1, 0, none⟩)]] 141)) := (hb5.alloc hb5.size _).alloc (Nat.le_trans hb5.size (by simp)) _
        have hs5 := hb5.size
        refine (prove1_any W5.heap.size B7 (W5.heap.size + 1) Wb Mb A l.length c T C hl1 L' 13 11 (mark (fun _ => false) 11) _ (by decide) (by omega) (mark_me _ _) hG).mono ?_
        rintro e W7 ⟨⟨r, rfl⟩, S, hG7, hK7, hgr⟩
        have hb7 : Below W1.heap.size W1 W7 := hb6.trans (hK7.below hb6.size (by rintro k rfl; omega))
        have HG := Lib.hid (prove_cut hN hBf HR.out.1 HR.out.2 hgr HNE.out)
        have hn7 := (hb7.block _ hs1).trans hn1
        have hq7 := (hb7.block _ hs2).trans hq1
        have hS7 := hG7.hs
        have hs7 := hb7.size
        have ls7 := hG7.ls
        clear hG hG7 hK7 hgr hb6 hb5 hbox5 hwork5 hK5 hQ hM5 HR hq5 q0 q1 f0 f1 hcb hqq lq lB lWb lB5 lW5 lM5 hqM
        have c10 := cell_of_block (j := 10) hS7 (bools_get (by omega))
        have n1 := cell_of_block (j := 1) (v := .int .i64 T) hn7 rfl
        have n2 := cell_of_block (j := 2) (v := .int .i64 C) hn7 rfl
        have hw7 : w.heap.size < W7.heap.size := by omega
        have hU : UMem W7 (W7.alloc (.cells #[.slice none 0 0, .slice none 0 0] 37)) (.slice none 0 0) (.slice none 0 0) := ⟨(Below.refl _ W7).alloc (Nat.le_refl _) _, at_alloc rfl⟩
        go_wp2_with fail
        go_loopw [44] (fun t wr => ∃ (k n : Nat) (v : Value), k ≤ T ∧ n ≤ k ∧ t = .int .i64 k ∧ UMem W7 wr v (.slice none 0 0) ∧ wr.ownsRow (W7.heap.size + 1) 3 1 v n (outV (pick (sideP S) k))) (fun t _ => T - (intOf t).toNat)
        case atStart => exact ⟨0, 0, _, Nat.zero_le _, Nat.zero_le _, rfl, hU, World.ownsRow_nil _ _ _ _⟩
        case round =>
          clear hU
          obtain ⟨k, n, v, hk, hnk, rfl, hU, hown⟩ := hrel
          have hT5 := hN.hT
          have hlu := hU.lt
          obtain ⟨p, cp, rfl⟩ := own_slice hown
          by_cases hlt : k < T
          · have cS := (hU.below.cell (p := ⟨W5.heap.size, k, none⟩) ls7).trans (cell_of_block (j := k) hS7 (bools_get (by omega)))
            have hk0 : (0 : Int) ≤ k := by omega
            have hk1 : (k : Int) < 13 := by omega
            have cu := cell_of_block (j := 0) (v := .slice p n cp) hU.cut rfl
            cases hp : sideP S k with
            | true =>
              have hd : (S k == !S 10) = true := hp
              have HP := Lib.hid (pick_yes hp)
              have hal : Below (W7.heap.size + 1) wr (wr.alloc (.cells #[.int .i64 k] 3)) := (Below.refl _ wr).alloc (by omega) _
              have how := ownsRow_below hown ((Below.refl wr.heap.size wr).alloc (Nat.le_refl _) (.cells #[.int .i64 k] 3)) (Nat.le_refl _)
              have hszA : W7.heap.size + 1 ≤ (wr.alloc (.cells #[.int .i64 k] 3)).heap.size := Nat.le_trans (by omega) hal.size
              have hkn : n < 100000 := by omega
              have HO := Lib.hid how
              have HAL := Lib.hid hal
              have HU := Lib.hid hU
              have hcut := hU.cut
              clear how hal hown hp hU
              go_wp2_with (at_builtin; refine wpList_push elem25 (wr.alloc (.cells #[.int .i64 k] 3)) (by rfl) (.tmp 53) (.tmp 55) (by rfl) (W7.heap.size + 1) _ n _ (by rfl) HO.out wr.heap.size 1 [.int .i64 k] (by rfl) (at_alloc rfl) rfl (by simp [Value.oneCell']) hkn hszA ?_; intro v' w' how5 hbe5 _; obtain ⟨g, cap, rfl, hcap, hbg, hgl⟩ := own_form how5; have hbw := HAL.out.trans hbe5; have co' := cell_of_block (j := 0) ((hbw.block W7.heap.size (Nat.lt_succ_self _)).trans hcut) rfl; have fo' := free_of_block (j := 0) ((hbw.block W7.heap.size (Nat.lt_succ_self _)).trans hcut))
              go_roundw
              case rel =>
                refine ⟨k + 1, n + 1, _, by omega, by omega, by go_num, HU.out.put0 hbw (Nat.lt_succ_self _), ?_⟩
                rw [HP.out, outV_snoc]
                exact own_setCell how5 (Nat.lt_succ_self _) _
              case measure => simp [intOf]; omega
            | false =>
              have hd : (S k == !S 10) = false := hp
              have HP := Lib.hid (pick_no hp)
              have HO := Lib.hid hown
              clear hown hp
              go_wp2_with fail
              go_roundw
              case rel => exact ⟨k + 1, n, _, by omega, by omega, by go_num, hU, by rw [HP.out]; exact HO.out⟩
              case measure => simp [intOf]; omega
          · obtain rfl : k = T := by omega
            have n2' := (hU.below.cell (p := ⟨w.heap.size, 2, none⟩) hw7).trans n2
            go_wp2_with fail
            obtain ⟨W9, hW9⟩ : ∃ W9 : World, W9 = wr := ⟨_, rfl⟩
            subst hW9
            go_loopw [61] (fun t wr => ∃ (j m : Nat) (v : Value), j ≤ C ∧ m ≤ j ∧ t = .int .i64 j ∧ UMem W7 wr (.slice p n cp) v ∧ Keep (fun q => q = W7.heap.size ∨ W9.heap.size ≤ q) W9 wr ∧ wr.ownsRow W9.heap.size 3 1 v m (outV (pick (fun k => sideP S (5 + k)) j))) (fun t _ => C - (intOf t).toNat)
            case atStart => exact ⟨0, 0, _, Nat.zero_le _, Nat.zero_le _, rfl, hU, Keep.refl _ _, World.ownsRow_nil _ _ _ _⟩
            case round =>
              clear hU
              obtain ⟨j, m, v, hj, hmj, rfl, hU, hK, how2⟩ := hrel
              have hC5 := hN.hC
              have hlu2 := hU.lt
              obtain ⟨p2, cp2, rfl⟩ := own_slice how2
              by_cases hlt : j < C
              · have cS := (hU.below.cell (p := ⟨W5.heap.size, 5 + j, none⟩) ls7).trans (cell_of_block (j := 5 + j) hS7 (bools_get (by omega)))
                have hk0 : (0 : Int) ≤ j := by omega
                have hk1 : (j : Int) < 5 := by omega
                have cu := cell_of_block (j := 1) (v := .slice p2 m cp2) hU.cut rfl
                have hs9 := hK.size
                cases hp : sideP S (5 + j) with
                | true =>
                  have hd : (S (5 + j) == !S 10) = true := hp
                  have HP := Lib.hid (pick_yes (P := fun k => sideP S (5 + k)) hp)
                  have hal : Below W9.heap.size wr (wr.alloc (.cells #[.int .i64 j] 3)) := (Below.refl _ wr).alloc hs9 _
                  have how := ownsRow_below how2 ((Below.refl wr.heap.size wr).alloc (Nat.le_refl _) (.cells #[.int .i64 j] 3)) (Nat.le_refl _)
                  have hszA : W9.heap.size ≤ (wr.alloc (.cells #[.int .i64 j] 3)).heap.size := Nat.le_trans hs9 hal.size
                  have hkn : m < 100000 := by omega
                  have HO := Lib.hid how
                  have HAL := Lib.hid hal
                  have HU := Lib.hid hU
                  have hcut := hU.cut
                  clear how hal how2 hp hU
                  go_wp2_with (at_builtin; refine wpList_push elem25 (wr.alloc (.cells #[.int .i64 j] 3)) (by rfl) (.tmp 71) (.tmp 73) (by rfl) W9.heap.size _ m _ (by rfl) HO.out wr.heap.size 1 [.int .i64 j] (by rfl) (at_alloc rfl) rfl (by simp [Value.oneCell']) hkn hszA ?_; intro v' w' how5 hbe5 _; obtain ⟨g, cap, rfl, hcap, hbg, hgl⟩ := own_form how5; have hbw := HAL.out.trans hbe5; have co' := cell_of_block (j := 1) ((hbw.block W7.heap.size hlu).trans hcut) rfl; have fo' := free_of_block (j := 1) ((hbw.block W7.heap.size hlu).trans hcut))
                  go_roundw
                  case rel =>
                    refine ⟨j + 1, m + 1, _, by omega, by omega, by go_num, HU.out.put1 hbw hlu, ?_, ?_⟩
                    · refine hK.trans ⟨hbw.os, hbw.tape, hbw.output, by have := hbw.size; simpa [World.setCell] using this, fun q hq hn => ?_⟩
                      have h1 : q ≠ W7.heap.size := fun e => hn (.inl e)
                      have h2 : q < W9.heap.size := Classical.byContradiction fun e => hn (.inr (by omega))
                      exact (Below.heap_setCell _ _ _ _ h1).trans (hbw.block q h2)
                    · rw [HP.out, outV_snoc]
                      exact own_setCell how5 hlu _
                  case measure => simp [intOf]; omega
                | false =>
                  have hd : (S (5 + j) == !S 10) = false := hp
                  have HP := Lib.hid (pick_no (P := fun k => sideP S (5 + k)) hp)
                  have HO := Lib.hid how2
                  clear how2 hp
                  go_wp2_with fail
                  go_roundw
                  case rel => exact ⟨j + 1, m, _, by omega, by omega, by go_num, hU, hK, by rw [HP.out]; exact HO.out⟩
                  case measure => simp [intOf]; omega
              · obtain rfl : j = C := by omega
                have hqr := (hU.below.block (w.heap.size + 1) (by omega)).trans hq7
                have q0 := cell_of_block (j := 0) (v := .slice none 0 0) hqr rfl
                have q1 := cell_of_block (j := 1) (v := .slice none 0 0) hqr rfl
                have f0 := free_of_block (j := 0) hqr
                have f1 := free_of_block (j := 1) hqr
                have u0 := cell_of_block (j := 0) (v := .slice p n cp) hU.cut rfl
                have u1 := cell_of_block (j := 1) (v := .slice p2 m cp2) hU.cut rfl
                have howP := own_keep hown hK (fun g h1 h2 => by omega)
                have hl1' := howP.1
                have hl2' := how2.1
                rw [outV_len, Nat.mul_one] at hl1' hl2'
                have HL := Lib.hid (And.intro hl1' hl2')
                have HO1 := Lib.hid howP
                have HO2 := Lib.hid how2
                clear hl1' hl2' howP how2 hown
                go_wp2_with fail
                refine bodyPost_ret (v := .tuple #[.agg #[.slice p n cp, .slice p2 m cp2], .int .i64 0]) (by simp [results, Try.results64, go_sem, q0, q1]) rfl ?_
                have hbf : Below w.heap.size w wr := hb1.trans ((hb7.trans (hU.below.mono hs7)).mono hb1.size)
                refine ⟨(hbf.setCell (Nat.le_succ _) _).setCell (Nat.le_succ _) _, _, _, 0, rfl, .inr ⟨HA.out, .inr ⟨rfl, not_can hN HG.out, _, _, deny_lists hN HG.out, ?_, ?_⟩⟩⟩
                · rw [HL.out.1]
                  exact ownsRow_mono (own_setCell (own_setCell HO1.out (by show w.heap.size + 1 < _; omega) _) (by show w.heap.size + 1 < _; omega) _) (by omega)
                · rw [HL.out.2]
                  exact ownsRow_mono (own_setCell (own_setCell HO2.out (by show w.heap.size + 1 < _; omega) _) (by show w.heap.size + 1 < _; omega) _) (by omega)
  · have h1' : (askedN l T C err != 0) = true := by simp [h1]
    have HH := Lib.hid h1
    clear h1
    go_enter Try.func64, Try.ntmps64
    go_wp2_with (first | (go_at_call 66; refine (asked_any _ A l c T C err (hA.below hbl) hl).mono ?_; rintro e w' ⟨hbe, rfl⟩; have hqw := (hbe.block _ hsz).trans hq; have q0 := cell_of_block (j := 0) (v := .slice none 0 0) hqw rfl; have q1 := cell_of_block (j := 1) (v := .slice none 0 0) hqw rfl; have f0 := free_of_block (j := 0) hqw; have f1 := free_of_block (j := 1) hqw))
    refine bodyPost_ret (v := .tuple #[.agg #[.slice none 0 0, .slice none 0 0], .int .i64 (askedN l T C err)]) (by simp [results, Try.results64, go_sem, q0, q1]) rfl ?_
    exact ⟨((hbl.trans (hbe.mono hbl.size)).setCell (Nat.le_succ _) _).setCell (Nat.le_succ _) _, _, _, _, rfl, .inl ⟨HH.out, rfl, rfl, rfl⟩⟩
end Go.Proofs.Ytnhbplnhhloklaa
