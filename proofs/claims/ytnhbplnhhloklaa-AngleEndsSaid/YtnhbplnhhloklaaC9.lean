/- Contract of ProveCut. -/
import Derived.Test.YtnhbplnhhloklaaC8
import Derived.Sort.AtCall
import Derived.Deep.WholeRow
namespace Go.Proofs.Ytnhbplnhhloklaa
open Go.RowKit

theorem rising_b {b0 : Bool} (w : World) (A : Option Addr) (l : List Int) (c : Nat) (m : Int) (hA : IntsAt w A l) (hl : l.length ≤ 100000) (hm : 0 ≤ m ∧ m ≤ 5) (h : b0 = true ↔ Rising l m) :
    Calls Try.prog 70 #[.slice A l.length c, .int .i64 m] w fun e w' => w = w' ∧ e = .returned (.bool b0) := by
  refine (rising_any w A l c m hA hl hm).mono ?_
  rintro e w' ⟨rfl, b, rfl, hb⟩
  have : b = b0 := by
    cases b <;> cases b0 <;> simp_all
  rw [this]
  exact ⟨rfl, rfl⟩

theorem rising_yes (w : World) (A : Option Addr) (l : List Int) (c : Nat) (m : Int) (hA : IntsAt w A l) (hl : l.length ≤ 100000) (hm : 0 ≤ m ∧ m ≤ 5) (h : Hid (Rising l m)) :
    Calls Try.prog 70 #[.slice A l.length c, .int .i64 m] w fun e w' => w = w' ∧ e = .returned (.bool true) := rising_b w A l c m hA hl hm (by simp [h.out])
theorem rising_no (w : World) (A : Option Addr) (l : List Int) (c : Nat) (m : Int) (hA : IntsAt w A l) (hl : l.length ≤ 100000) (hm : 0 ≤ m ∧ m ≤ 5) (h : Hid (¬ Rising l m)) :
    Calls Try.prog 70 #[.slice A l.length c, .int .i64 m] w fun e w' => w = w' ∧ e = .returned (.bool false) := rising_b w A l c m hA hl hm (by simp [h.out])

/-- The part of an angle in what a cut allows. -/
def partLo (ts cs : List Int) (lo hi : Nat → Int) (i : Nat) (a : Ang) : Int := if a.t ∈ ts ∧ a.c ∉ cs then lo i else if a.c ∈ cs ∧ a.t ∉ ts then - hi i else 0
def partHi (ts cs : List Int) (lo hi : Nat → Int) (i : Nat) (a : Ang) : Int := if a.t ∈ ts ∧ a.c ∉ cs then hi i else if a.c ∈ cs ∧ a.t ∉ ts then - lo i else 0
def sumLo (l : List Ang) (ts cs : List Int) (lo hi : Nat → Int) (k : Nat) : Int := sumN k (fun i => match l[i]? with | some a => partLo ts cs lo hi i a | none => 0)
def sumHi (l : List Ang) (ts cs : List Int) (lo hi : Nat → Int) (k : Nat) : Int := sumN k (fun i => match l[i]? with | some a => partHi ts cs lo hi i a | none => 0)
theorem part_bnd {ts cs : List Int} {lo hi : Nat → Int} (hR : RoomOk lo hi) (k : Nat) (a : Ang) : (-40 ≤ partLo ts cs lo hi k a ∧ partLo ts cs lo hi k a ≤ 40) ∧ (-40 ≤ partHi ts cs lo hi k a ∧ partHi ts cs lo hi k a ≤ 40) := by
  have h1 := hR.lo0 k
  have h2 := hR.hi0 k
  unfold partLo partHi
  (repeat' split) <;> omega
theorem sum_bnd {l : List Ang} {ts cs : List Int} {lo hi : Nat → Int} (hR : RoomOk lo hi) (k : Nat) : (-40 * (k : Int) ≤ sumLo l ts cs lo hi k ∧ sumLo l ts cs lo hi k ≤ 40 * (k : Int)) ∧ (-40 * (k : Int) ≤ sumHi l ts cs lo hi k ∧ sumHi l ts cs lo hi k ≤ 40 * (k : Int)) := by
  induction k with
  | zero => simp [sumLo, sumHi, sumN]
  | succ k ih =>
    simp only [sumLo, sumHi, sumN] at ih ⊢
    cases l[k]? with
    | none => simp only; omega
    | some a => have := part_bnd (ts := ts) (cs := cs) hR k a; simp only; omega
theorem sumLo_step {l : List Ang} {ts cs : List Int} {lo hi : Nat → Int} {k : Nat} {a : Ang} (h : l[k]? = some a) : sumLo l ts cs lo hi (k + 1) = sumLo l ts cs lo hi k + partLo ts cs lo hi k a := by
  simp only [sumLo, sumN, h]
theorem sumHi_step {l : List Ang} {ts cs : List Int} {lo hi : Nat → Int} {k : Nat} {a : Ang} (h : l[k]? = some a) : sumHi l ts cs lo hi (k + 1) = sumHi l ts cs lo hi k + partHi ts cs lo hi k a := by
  simp only [sumHi, sumN, h]
/-- What a cut proves, as the program reckons it. -/
def ProvesL (l : List Ang) (ts cs : List Int) (lo hi : Nat → Int) : Prop := ¬ (sumLo l ts cs lo hi l.length ≤ ts.length * 36 - cs.length * 72 ∧ ts.length * 36 - cs.length * 72 ≤ sumHi l ts cs lo hi l.length)

/-- The memory of ProveCut. -/
structure CMem (w wr : World) (Bc Br : Nat) (A : Option Addr) (n c : Nat) (T C : Int) (P Q : Value) (lo hi : Nat → Int) (x y : Int) : Prop where
  below : Below w.heap.size w wr
  ord : w.heap.size + 1 < Bc ∧ Bc < Br
  net : wr.heap[w.heap.size]? = some (.cells #[.slice A n c, .int .i64 T, .int .i64 C] 33 (0, 0))
  cut : wr.heap[w.heap.size + 1]? = some (.cells #[P, Q] 37 (0, 0))
  can : wr.heap[Bc]? = some (.cells #[.int .i64 x, .int .i64 y] 58 (0, 0))
  rms : wr.heap[Br]? = some (.cells (roomsV lo hi) 109 (0, 0))
section
variable {w wr : World} {Bc Br : Nat} {A : Option Addr} {n c : Nat} {T C : Int} {P Q : Value} {lo hi : Nat → Int} {x y : Int}
theorem CMem.lt (h : CMem w wr Bc Br A n c T C P Q lo hi x y) : Br < wr.heap.size := (Array.getElem?_eq_some_iff.1 h.rms).1
theorem CMem.step (h : CMem w wr Bc Br A n c T C P Q lo hi x y) {w2 : World} (hb : Below wr.heap.size wr w2) : CMem w w2 Bc Br A n c T C P Q lo hi x y :=
  have hl := h.lt
  have ho := h.ord
  ⟨h.below.trans (hb.mono (by omega)), ho, (hb.block _ (by omega)).trans h.net, (hb.block _ (by omega)).trans h.cut, (hb.block _ (by omega)).trans h.can, (hb.block _ (by omega)).trans h.rms⟩
theorem CMem.set (h : CMem w wr Bc Br A n c T C P Q lo hi x y) (x' y' : Int) : CMem w ((wr.setCell ⟨Bc, 0, none⟩ (.int .i64 x')).setCell ⟨Bc, 1, none⟩ (.int .i64 y')) Bc Br A n c T C P Q lo hi x' y' := by
  have ho := h.ord
  refine ⟨(h.below.setCell (by simp; omega) _).setCell (by simp; omega) _, ho, ?_, ?_, heap_setCell_self (heap_setCell_self h.can _) _, ?_⟩
  · rw [Below.heap_setCell _ _ _ _ (by simp; omega), Below.heap_setCell _ _ _ _ (by simp; omega)]; exact h.net
  · rw [Below.heap_setCell _ _ _ _ (by simp; omega), Below.heap_setCell _ _ _ _ (by simp; omega)]; exact h.cut
  · rw [Below.heap_setCell _ _ _ _ (by simp; omega), Below.heap_setCell _ _ _ _ (by simp; omega)]; exact h.rms
theorem CMem.made {wA W1 W2 : World} (hbl : Below w.heap.size w wA) (hsz : w.heap.size + 1 < wA.heap.size) (hn : wA.heap[w.heap.size]? = some (.cells #[.slice A n c, .int .i64 T, .int .i64 C] 33 (0, 0))) (hq : wA.heap[w.heap.size + 1]? = some (.cells #[P, Q] 37 (0, 0)))
    (hbe : Below wA.heap.size wA W1) (hbr : Below (W1.alloc (.cells #[.int .i64 0, .int .i64 0] 58)).heap.size (W1.alloc (.cells #[.int .i64 0, .int .i64 0] 58)) W2) : CMem w (W2.alloc (.cells (roomsV lo hi) 109)) W1.heap.size W2.heap.size A n c T C P Q lo hi 0 0 := by
  have h1 := hbe.size
  have h2 := hbr.size
  have h3 : (W1.alloc (.cells #[.int .i64 0, .int .i64 0] 58)).heap.size = W1.heap.size + 1 := by simp
  refine ⟨((hbl.trans (hbe.mono (by omega))).alloc (by omega) _).trans (hbr.mono (by omega)) |>.alloc (by omega) _, by omega, ?_, ?_, ?_, at_alloc rfl⟩
  · exact past_alloc ((hbr.block _ (by omega)).trans (past_alloc ((hbe.block _ (by omega)).trans hn)))
  · exact past_alloc ((hbr.block _ (by omega)).trans (past_alloc ((hbe.block _ (by omega)).trans hq)))
  · exact past_alloc ((hbr.block _ (by omega)).trans (at_alloc rfl))
end

set_option maxHeartbeats 4000000 in
set_option maxRecDepth 100000 in
theorem proveCut_any (w : World) (A P Q : Option Addr) (l : List Ang) (ts cs : List Int) (c c1 c2 : Nat) (T C err : Int) (hA : AngAt w A l) (hP : IntsAt w P ts) (hQ : IntsAt w Q cs) (hl : l.length ≤ 1000) (htl : ts.length ≤ 1000) (hcl : cs.length ≤ 1000) :
    Calls Try.prog 24 #[.agg #[.slice A l.length c, .int .i64 T, .int .i64 C], .int .i64 err, .agg #[.slice P ts.length c1, .slice Q cs.length c2]] w fun e w' => Below w.heap.size w w' ∧
      ∃ b : Bool, e = .returned (.bool b) ∧ (b = true ↔ askedN l T C err = 0 ∧ Rising ts T ∧ Rising cs C ∧ ProvesL l ts cs (rmLo l err [] l.length) (rmHi l err [] l.length)) := by
  have hbl : Below w.heap.size w ((w.alloc (.cells #[.slice A l.length c, .int .i64 T, .int .i64 C] 33)).alloc (.cells #[.slice P ts.length c1, .slice Q cs.length c2] 37)) := ((Below.refl _ w).alloc (Nat.le_refl _) _).alloc (by simp) _
  have hn : ((w.alloc (.cells #[.slice A l.length c, .int .i64 T, .int .i64 C] 33)).alloc (.cells #[.slice P ts.length c1, .slice Q cs.length c2] 37)).heap[w.heap.size]? = some (.cells #[.slice A l.length c, .int .i64 T, .int .i64 C] 33 (0, 0)) := past_alloc (at_alloc rfl)
  have hq : ((w.alloc (.cells #[.slice A l.length c, .int .i64 T, .int .i64 C] 33)).alloc (.cells #[.slice P ts.length c1, .slice Q cs.length c2] 37)).heap[w.heap.size + 1]? = some (.cells #[.slice P ts.length c1, .slice Q cs.length c2] 37 (0, 0)) := at_alloc (by simp)
  have hsz : w.heap.size + 1 < ((w.alloc (.cells #[.slice A l.length c, .int .i64 T, .int .i64 C] 33)).alloc (.cells #[.slice P ts.length c1, .slice Q cs.length c2] 37)).heap.size := by simp
  by_cases h1 : askedN l T C err = 0
  · have h1' : (askedN l T C err != 0) = false := by simp [h1]
    have h2 := askedN_zero h1
    obtain ⟨T, C, rfl, rfl, hV⟩ := valid_of h2.1
    have hR := rm_ok (out := []) (k := l.length) hV.reads h2.2
    have HA := Lib.hid h1
    have hE := h2.2
    have hl12 := hV.len.2
    have hT : 0 ≤ (T : Int) ∧ (T : Int) ≤ 5 := by have := hV.net.hT; omega
    have hC : 0 ≤ (C : Int) ∧ (C : Int) ≤ 5 := by have := hV.net.hC; omega
    clear h1 h2
    by_cases r1 : Rising ts T
    · have HR1 := Lib.hid r1
      by_cases r2 : Rising cs C
      · have HR2 := Lib.hid r2
        clear r1 r2
        go_enter Try.func24, Try.ntmps24
        go_wp2_with (first | (go_at_call 66; refine (asked_any _ A l c T C err (hA.below hbl) hl).mono ?_; rintro e W1 ⟨hbe, rfl⟩; have q0 := cell_of_block (j := 0) (v := .slice P ts.length c1) ((hbe.block _ hsz).trans hq) rfl; have q1 := cell_of_block (j := 1) (v := .slice Q cs.length c2) ((hbe.block _ hsz).trans hq) rfl; have n1 := cell_of_block (j := 1) (v := .int .i64 T) ((hbe.block _ (Nat.lt_of_succ_lt hsz)).trans hn) rfl; have n2 := cell_of_block (j := 2) (v := .int .i64 C) ((hbe.block _ (Nat.lt_of_succ_lt hsz)).trans hn) rfl; have n0 := cell_of_block (j := 0) (v := .slice A l.length c) ((hbe.block _ (Nat.lt_of_succ_lt hsz)).trans hn) rfl; have hsW := Nat.lt_of_lt_of_le hsz hbe.size; have hsW0 := Nat.lt_of_succ_lt hsW; have hPW := hP.below (hbl.trans (hbe.mono hbl.size)); have hQW := hQ.below (hbl.trans (hbe.mono hbl.size))) | (go_at_call_has 70 P; refine (rising_yes _ P ts c1 T hPW (by omega) hT HR1).mono ?_; rintro e w' ⟨rfl, rfl⟩) | (go_at_call_has 70 Q; refine (rising_yes _ Q cs c2 C hQW (by omega) hC HR2).mono ?_; rintro e w' ⟨rfl, rfl⟩) | (go_at_call 67; refine (rooms_any _ A none l [] c 0 T C err (hA.below ((hbl.trans (hbe.mono hbl.size)).alloc (Nat.le_trans hbl.size hbe.size) _)) (IntsAt.nil _ _) hl12 (by simp) hE hV.reads).mono ?_; rintro e W2 ⟨rfl, hbr⟩) | ((with_reducible refine wpList_store_row ?_ 109 (.tmp 9) (.tmp 45) ?_ W2.heap.size (roomsV (rmLo l err [] l.length) (rmHi l err [] l.length)) ?_ ?_ 109 _ (at_alloc rfl) (sizeR _ _) ?_ (roomsV_one _ _) ?_); (· rfl); (· rfl); (· rfl); (· rfl); (· (rw [roomsV_size]; rfl)); rw [World.setRow_alloc_new]; have hs2 : w.heap.size < W2.heap.size := (by have h := hbr.size; simp at h; omega); have nW2 := (hbr.cell (p := ⟨w.heap.size, 0, none⟩) (by simp <;> omega)).trans ((World.cell?_alloc_lt _ _ _ (by exact hsW0)).trans n0)))
        have hM0 : CMem w (W2.alloc (.cells (roomsV (rmLo l err [] l.length) (rmHi l err [] l.length)) 109)) W1.heap.size W2.heap.size A l.length c T C (.slice P ts.length c1) (.slice Q cs.length c2) (rmLo l err [] l.length) (rmHi l err [] l.length) 0 0 := CMem.made hbl hsz hn hq hbe hbr
        clear hbe hbr q0 q1 n1 n2 n0 hPW hQW hbl hsz hn hq nW2 hsW hsW0 hs2
        generalize W2.alloc (.cells (roomsV (rmLo l err [] l.length) (rmHi l err [] l.length)) 109) = wr0 at *
        generalize W2.heap.size = Br at *
        generalize W1.heap.size = Bc at *
        have hsb := sum_bnd (l := l) (ts := ts) (cs := cs) hR
        generalize hlo : rmLo l err [] l.length = lo at *
        generalize hhi : rmHi l err [] l.length = hi at *
        have Hlo := Lib.hid hlo
        have Hhi := Lib.hid hhi
        clear hlo hhi
        go_loopw [49] (fun t wr => ∃ k : Nat, k ≤ l.length ∧ t = .int .i64 k ∧ CMem w wr Bc Br A l.length c T C (.slice P ts.length c1) (.slice Q cs.length c2) lo hi (sumLo l ts cs lo hi k) (sumHi l ts cs lo hi k)) (fun t _ => l.length - (intOf t).toNat)
        case atStart => exact ⟨0, Nat.zero_le _, rfl, hM0⟩
        case round =>
          clear hM0
          obtain ⟨k, hk, rfl, hM⟩ := hrel
          by_cases hlt : k < l.length
          · obtain ⟨a, ha⟩ : ∃ a, l[k]? = some a := ⟨l[k], by simp [hlt]⟩
            obtain ⟨b, o, rfl, hb, ha0, ha1, ha2, ha3⟩ := hA.below hM.below k a ha
            go_wp2_with fail
            have hM3 := hM.step ((Below.refl _ wr).alloc (Nat.le_refl _) (.cells #[.int .i64 a.t, .int .i64 a.c, .int .i64 a.r, .int .i64 a.w] 104))
            have hab := at_alloc (w := wr) (o := .cells #[.int .i64 a.t, .int .i64 a.c, .int .i64 a.r, .int .i64 a.w] 104) rfl
            have hBa : Br < wr.heap.size := hM.lt
            clear hM ha0 ha1 ha2 ha3 hb
            generalize wr.alloc (.cells #[.int .i64 a.t, .int .i64 a.c, .int .i64 a.r, .int .i64 a.w] 104) = W3 at *
            generalize wr.heap.size = Ba at *
            have hPW := hP.below hM3.below.drew
            have hQW := hQ.below hM3.below.drew
            have e0 := cell_of_block (j := 0) (v := .int .i64 a.t) hab rfl
            have e1 := cell_of_block (j := 1) (v := .int .i64 a.c) hab rfl
            have q0 := cell_of_block (j := 0) (v := .slice P ts.length c1) hM3.cut rfl
            have q1 := cell_of_block (j := 1) (v := .slice Q cs.length c2) hM3.cut rfl
            go_region_held3 (fun w' => w'.cell? ⟨Ba, 0, none⟩ = some (.int .i64 a.t) ∧ w'.cell? ⟨Ba, 1, none⟩ = some (.int .i64 a.c) ∧ w'.cell? ⟨w.heap.size + 1, 0, none⟩ = some (.slice P ts.length c1) ∧ w'.cell? ⟨w.heap.size + 1, 1, none⟩ = some (.slice Q cs.length c2))
              (exact ⟨e0, e1, q0, q1⟩)
              (first | (go_at_call_has 71 P; refine (contains_any _ P ts c1 a.t hPW (by omega)).mono ?_; rintro e w' ⟨rfl, rfl⟩) | (go_at_call_has 71 Q; refine (contains_any _ Q cs c2 a.c hQW (by omega)).mono ?_; rintro e w' ⟨rfl, rfl⟩))
            have hM4 := hM3.step ((Below.refl _ _).drew)
            have hord := hM3.ord
            have hbk := hsb k
            have hlok := hR.lo0 k
            have hhik := hR.hi0 k
            clear hM3 e0 e1 q0 q1 hab hPW hQW hsb
            generalize W3.drew = W4 at *
            have x0 := cell_of_block (j := 0) (v := .int .i64 (sumLo l ts cs lo hi k)) hM4.can rfl
            have x1 := cell_of_block (j := 1) (v := .int .i64 (sumHi l ts cs lo hi k)) hM4.can rfl
            have f0 := free_of_block (j := 0) hM4.can
            have f1 := free_of_block (j := 1) hM4.can
            have r0 := cell_of_block (j := k * 2) hM4.rms (roomsV_lo (by omega))
            have r1 := cell_of_block (j := k * 2 + 1) hM4.rms (roomsV_hi (by omega))
            have hk0 : (0 : Int) ≤ k := by omega
            have hk1 : (k : Int) < 12 := by omega
            by_cases p : a.t ∈ ts
            · have d1 : decide (a.t ∈ ts) = true := decide_eq_true p
              by_cases q : a.c ∈ cs
              · have d2 : decide (a.c ∈ cs) = true := decide_eq_true q
                have HX : Hid (sumLo l ts cs lo hi (k + 1) = sumLo l ts cs lo hi k ∧ sumHi l ts cs lo hi (k + 1) = sumHi l ts cs lo hi k) := Lib.hid (by rw [sumLo_step ha, sumHi_step ha]; simp [partLo, partHi, p, q])
                clear p q ha
                simp only [d1, d2]
                go_wp2_with fail
                go_roundw
                case rel => exact ⟨k + 1, by omega, by go_num, by rw [HX.out.1, HX.out.2]; exact hM4⟩
                case measure => simp [intOf]; omega
              · have d2 : decide (a.c ∈ cs) = false := decide_eq_false q
                have HX : Hid (sumLo l ts cs lo hi (k + 1) = sumLo l ts cs lo hi k + lo k ∧ sumHi l ts cs lo hi (k + 1) = sumHi l ts cs lo hi k + hi k) := Lib.hid (by rw [sumLo_step ha, sumHi_step ha]; simp [partLo, partHi, p, q]; try omega)
                clear p q ha
                simp only [d1, d2]
                go_wp2_with fail
                go_region
                have hM5 := (hM4.set (sumLo l ts cs lo hi k + lo k) (sumHi l ts cs lo hi k + hi k)).step ((Below.refl _ _).drew)
                go_wp2_with fail
                go_roundw
                case rel => exact ⟨k + 1, by omega, by go_num, by rw [HX.out.1, HX.out.2]; exact hM5⟩
                case measure => simp [intOf]; omega
            · have d1 : decide (a.t ∈ ts) = false := decide_eq_false p
              by_cases q : a.c ∈ cs
              · have d2 : decide (a.c ∈ cs) = true := decide_eq_true q
                have HX : Hid (sumLo l ts cs lo hi (k + 1) = sumLo l ts cs lo hi k - hi k ∧ sumHi l ts cs lo hi (k + 1) = sumHi l ts cs lo hi k - lo k) := Lib.hid (by rw [sumLo_step ha, sumHi_step ha]; simp [partLo, partHi, p, q]; try omega)
                clear p q ha
                simp only [d1, d2]
                go_wp2_with fail
                go_region
                have hM5 := (hM4.set (sumLo l ts cs lo hi k - hi k) (sumHi l ts cs lo hi k - lo k)).step ((Below.refl _ _).drew)
                go_wp2_with fail
                go_roundw
                case rel => exact ⟨k + 1, by omega, by go_num, by rw [HX.out.1, HX.out.2]; exact hM5⟩
                case measure => simp [intOf]; omega
              · have d2 : decide (a.c ∈ cs) = false := decide_eq_false q
                have HX : Hid (sumLo l ts cs lo hi (k + 1) = sumLo l ts cs lo hi k ∧ sumHi l ts cs lo hi (k + 1) = sumHi l ts cs lo hi k) := Lib.hid (by rw [sumLo_step ha, sumHi_step ha]; simp [partLo, partHi, p, q])
                clear p q ha
                simp only [d1, d2]
                go_wp2_with fail
                go_roundw
                case rel => exact ⟨k + 1, by omega, by go_num, by rw [HX.out.1, HX.out.2]; exact hM4⟩
                case measure => simp [intOf]; omega
          · obtain rfl : k = l.length := by omega
            have hord := hM.ord
            have hbk := hsb l.length
            have x0 := cell_of_block (j := 0) (v := .int .i64 (sumLo l ts cs lo hi l.length)) hM.can rfl
            have x1 := cell_of_block (j := 1) (v := .int .i64 (sumHi l ts cs lo hi l.length)) hM.can rfl
            go_wp2_with (go_at_call 68; refine (within_any _ _ _ _).mono ?_; rintro e w' ⟨rfl, rfl⟩)
            have e : (!decide (sumLo l ts cs lo hi l.length ≤ (ts.length : Int) * 36 - (cs.length : Int) * 72 ∧ (ts.length : Int) * 36 - (cs.length : Int) * 72 ≤ sumHi l ts cs lo hi l.length)) = true ↔ ProvesL l ts cs lo hi := by
              unfold ProvesL; rw [Bool.not_eq_true', decide_eq_false_iff_not]
            have HE := Lib.hid e
            clear e
            refine bodyPost_ret (v := .bool (!decide (sumLo l ts cs lo hi l.length ≤ (ts.length : Int) * 36 - (cs.length : Int) * 72 ∧ (ts.length : Int) * 36 - (cs.length : Int) * 72 ≤ sumHi l ts cs lo hi l.length))) (by simp [results, Try.results24, go_sem]) rfl ?_
            refine ⟨hM.below, _, rfl, ?_⟩
            rw [HE.out, Hlo.out, Hhi.out]
            exact ⟨fun h => ⟨HA.out, HR1.out, HR2.out, h⟩, fun h => h.2.2.2⟩
      · have HR2 := Lib.hid r2
        clear r1 r2
        go_enter Try.func24, Try.ntmps24
        go_wp2_with (first | (go_at_call 66; refine (asked_any _ A l c T C err (hA.below hbl) hl).mono ?_; rintro e W1 ⟨hbe, rfl⟩; have q0 := cell_of_block (j := 0) (v := .slice P ts.length c1) ((hbe.block _ hsz).trans hq) rfl; have q1 := cell_of_block (j := 1) (v := .slice Q cs.length c2) ((hbe.block _ hsz).trans hq) rfl; have n1 := cell_of_block (j := 1) (v := .int .i64 T) ((hbe.block _ (Nat.lt_of_succ_lt hsz)).trans hn) rfl; have n2 := cell_of_block (j := 2) (v := .int .i64 C) ((hbe.block _ (Nat.lt_of_succ_lt hsz)).trans hn) rfl; have hPW := hP.below (hbl.trans (hbe.mono hbl.size)); have hQW := hQ.below (hbl.trans (hbe.mono hbl.size))) | (go_at_call_has 70 P; refine (rising_yes _ P ts c1 T hPW (by omega) hT HR1).mono ?_; rintro e w' ⟨rfl, rfl⟩) | (go_at_call_has 70 Q; refine (rising_no _ Q cs c2 C hQW (by omega) hC HR2).mono ?_; rintro e w' ⟨rfl, rfl⟩))
        go_ret
        exact ⟨hbl.trans (hbe.mono hbl.size), false, rfl, ⟨fun h => (by cases h), fun h => absurd h.2.2.1 HR2.out⟩⟩
    · have HR1 := Lib.hid r1
      clear r1
      go_enter Try.func24, Try.ntmps24
      go_wp2_with (first | (go_at_call 66; refine (asked_any _ A l c T C err (hA.below hbl) hl).mono ?_; rintro e W1 ⟨hbe, rfl⟩; have q0 := cell_of_block (j := 0) (v := .slice P ts.length c1) ((hbe.block _ hsz).trans hq) rfl; have q1 := cell_of_block (j := 1) (v := .slice Q cs.length c2) ((hbe.block _ hsz).trans hq) rfl; have n1 := cell_of_block (j := 1) (v := .int .i64 T) ((hbe.block _ (Nat.lt_of_succ_lt hsz)).trans hn) rfl; have n2 := cell_of_block (j := 2) (v := .int .i64 C) ((hbe.block _ (Nat.lt_of_succ_lt hsz)).trans hn) rfl; have hPW := hP.below (hbl.trans (hbe.mono hbl.size)); have hQW := hQ.below (hbl.trans (hbe.mono hbl.size))) | (go_at_call_has 70 P; refine (rising_no _ P ts c1 T hPW (by omega) hT HR1).mono ?_; rintro e w' ⟨rfl, rfl⟩))
      go_ret
      exact ⟨hbl.trans (hbe.mono hbl.size), false, rfl, ⟨fun h => (by cases h), fun h => absurd h.2.1 HR1.out⟩⟩
  · have h1' : (askedN l T C err != 0) = true := by simp [h1]
    have HH := Lib.hid h1
    clear h1
    go_enter Try.func24, Try.ntmps24
    go_wp2_with (first | (go_at_call 66; refine (asked_any _ A l c T C err (hA.below hbl) hl).mono ?_; rintro e w' ⟨hbe, rfl⟩))
    go_ret
    exact ⟨hbl.trans (hbe.mono hbl.size), false, rfl, ⟨fun h => (by cases h), fun h => absurd h.1 HH.out⟩⟩
end Go.Proofs.Ytnhbplnhhloklaa
