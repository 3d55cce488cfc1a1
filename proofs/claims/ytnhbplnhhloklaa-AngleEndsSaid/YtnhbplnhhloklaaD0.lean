/- Contract of ProveTruth. -/
import Derived.Test.YtnhbplnhhloklaaC9
namespace Go.Proofs.Ytnhbplnhhloklaa
open Go.RowKit

theorem part_rooms (lo hi : Nat → Int) {k : Nat} (h : k < 12) : (roomsV lo hi).extract (k * 2) (k * 2 + 2) = #[.int .i64 (lo k), .int .i64 (hi k)] := by
  have hs := roomsV_size lo hi
  apply Array.ext
  · simp [hs]; omega
  · intro i h1 h2
    have h3 : i = 0 ∨ i = 1 := by simp at h2; omega
    rw [Array.getElem_extract]
    rcases h3 with rfl | rfl
    · have := roomsV_lo (lo := lo) (hi := hi) h
      exact (Array.getElem?_eq_some_iff.1 this).2
    · have := roomsV_hi (lo := lo) (hi := hi) h
      exact (Array.getElem?_eq_some_iff.1 this).2
theorem index109 (w : World) (lo hi : Nat → Int) {k : Nat} (h : k < 12) : (Instr.index 109 (.agg (roomsV lo hi)) (.int .i64 k)).run Try.prog w = .ok (.agg #[.int .i64 (lo k), .int .i64 (hi k)]) w := by
  have h0 : (0 : Int) ≤ k := by omega
  have z := Try.sizeOf58
  have ia := Try.isAgg58
  simp [Instr.index, run_underlying und109, asIntOf, h0, h, part, z, ia, part_rooms lo hi h]

/-- The sums of a list at the nodes. -/
def hS (l : List Ang) (xs : List Int) (k : Nat) : Nat → Int := fun j => sumN k (fun i => (if fI l i = j then xs.getD i 0 else 0) + (if tI l i = j then xs.getD i 0 else 0))
theorem hS_step {l : List Ang} {xs : List Int} {k : Nat} {a : Ang} {x : Int} (ha : l[k]? = some a) (hx : xs[k]? = some x) : setAt (setAt (hS l xs k) (frN a) (hS l xs k (frN a) + x)) (toN a) (setAt (hS l xs k) (frN a) (hS l xs k (frN a) + x) (toN a) + x) = hS l xs (k + 1) := by
  have ef : fI l k = frN a := by simp only [fI, ha]
  have et : tI l k = toN a := by simp only [tI, ha]
  have ex : xs.getD k 0 = x := by rw [List.getD_eq_getElem?_getD, hx]; rfl
  funext j
  simp only [hS, sumN, setAt, ef, et, ex]
  generalize frN a = f
  generalize toN a = t
  by_cases h1 : j = t
  · subst h1
    by_cases h2 : j = f
    · subst h2; simp only [if_true]; omega
    · have h3 : ¬ f = j := fun e => h2 e.symm
      simp only [if_true, h2, h3, if_false]; omega
  · have h4 : ¬ t = j := fun e => h1 e.symm
    by_cases h2 : j = f
    · subst h2; simp only [if_true, h1, h4, if_false]; omega
    · have h3 : ¬ f = j := fun e => h2 e.symm
      simp only [h1, h2, h3, h4, if_false]; omega
theorem hS_bnd {l : List Ang} {xs : List Int} {k : Nat} (h : ∀ i, i < k → 0 ≤ xs.getD i 0 ∧ xs.getD i 0 ≤ 40) (j : Nat) : 0 ≤ hS l xs k j ∧ hS l xs k j ≤ 80 * (k : Int) := by
  induction k with
  | zero => simp [hS, sumN]
  | succ k ih =>
    have h1 := ih (fun i hi => h i (by omega))
    have h2 := h k (by omega)
    simp only [hS, sumN] at h1 ⊢
    split <;> split <;> omega

/-- The memory of ProveTruth. -/
structure PMem (w wr : World) (Bg : Nat) (A : Option Addr) (n c : Nat) (T C : Int) (g : Nat → Int) : Prop where
  below : Below w.heap.size w wr
  ord : w.heap.size < Bg
  net : wr.heap[w.heap.size]? = some (.cells #[.slice A n c, .int .i64 T, .int .i64 C] 33 (0, 0))
  give : wr.heap[Bg]? = some (.cells (gv g) 107 (0, 0))
section
variable {w wr : World} {Bg : Nat} {A : Option Addr} {n c : Nat} {T C : Int} {g : Nat → Int}
theorem PMem.lt (h : PMem w wr Bg A n c T C g) : Bg < wr.heap.size := (Array.getElem?_eq_some_iff.1 h.give).1
theorem PMem.step (h : PMem w wr Bg A n c T C g) {w2 : World} (hb : Below wr.heap.size wr w2) : PMem w w2 Bg A n c T C g :=
  have hl := h.lt
  have ho := h.ord
  ⟨h.below.trans (hb.mono (by omega)), ho, (hb.block _ (by omega)).trans h.net, (hb.block _ (by omega)).trans h.give⟩
theorem PMem.set (h : PMem w wr Bg A n c T C g) (k : Nat) (x : Int) : PMem w (wr.setCell ⟨Bg, k, none⟩ (.int .i64 x)) Bg A n c T C (setAt g k x) := by
  have ho := h.ord
  refine ⟨h.below.setCell (by simp; omega) _, ho, ?_, ?_⟩
  · rw [Below.heap_setCell _ _ _ _ (by simp; omega)]; exact h.net
  · rw [heap_setCell_self h.give, gv_set]
theorem PMem.made {wA W1 W2 : World} (hbl : Below w.heap.size w wA) (hsz : w.heap.size < wA.heap.size) (hn : wA.heap[w.heap.size]? = some (.cells #[.slice A n c, .int .i64 T, .int .i64 C] 33 (0, 0)))
    (hbe : Below wA.heap.size wA W1) (hbr : Below (W1.alloc (.cells (gv fun _ => 0) 107)).heap.size (W1.alloc (.cells (gv fun _ => 0) 107)) W2) : PMem w W2 W1.heap.size A n c T C (fun _ => 0) := by
  have h1 := hbe.size
  have h2 := hbr.size
  have h3 : (W1.alloc (.cells (gv fun _ => 0) 107)).heap.size = W1.heap.size + 1 := by simp
  refine ⟨((hbl.trans (hbe.mono (by omega))).alloc (by omega) _).trans (hbr.mono (by omega)), by omega, ?_, ?_⟩
  · exact (hbr.block _ (by omega)).trans (past_alloc ((hbe.block _ (by omega)).trans hn))
  · exact (hbr.block _ (by omega)).trans (at_alloc rfl)
theorem PMem.cell (h : PMem w wr Bg A n c T C g) {k : Nat} (hk : k < 13) : wr.cell? ⟨Bg, k, none⟩ = some (.int .i64 (g k)) := cell_of_block h.give (gv_get hk)
theorem PMem.free (h : PMem w wr Bg A n c T C g) (k : Nat) : wr.frozen? ⟨Bg, k, none⟩ = false := free_of_block h.give
end

/-- A list is a truth, as the program reckons it. -/
def InRooms (xs : List Int) (lo hi : Nat → Int) (n : Nat) : Prop := ∀ i, i < n → lo i ≤ xs.getD i 0 ∧ xs.getD i 0 ≤ hi i
def TruthL (l : List Ang) (T C : Nat) (xs : List Int) (lo hi : Nat → Int) : Prop := InRooms xs lo hi l.length ∧ (∀ t, t < T → hS l xs l.length t = 36) ∧ (∀ k, k < C → hS l xs l.length (5 + k) = 72)

set_option maxHeartbeats 4000000 in
set_option maxRecDepth 100000 in
theorem proveTruth_any (w : World) (A X : Option Addr) (l : List Ang) (xs : List Int) (c cx : Nat) (T C err : Int) (hA : AngAt w A l) (hX : IntsAt w X xs) (hl : l.length ≤ 1000) (_hxl : xs.length ≤ 1000) :
    Calls Try.prog 21 #[.agg #[.slice A l.length c, .int .i64 T, .int .i64 C], .int .i64 err, .slice X xs.length cx] w fun e w' => Below w.heap.size w w' ∧
      ∃ b : Bool, e = .returned (.bool b) ∧ (b = true ↔ askedN l T C err = 0 ∧ xs.length = l.length ∧ TruthL l T.toNat C.toNat xs (rmLo l err [] l.length) (rmHi l err [] l.length)) := by
  have hbl : Below w.heap.size w (w.alloc (.cells #[.slice A l.length c, .int .i64 T, .int .i64 C] 33)) := (Below.refl _ w).alloc (Nat.le_refl _) _
  have hn : (w.alloc (.cells #[.slice A l.length c, .int .i64 T, .int .i64 C] 33)).heap[w.heap.size]? = some (.cells #[.slice A l.length c, .int .i64 T, .int .i64 C] 33 (0, 0)) := at_alloc rfl
  have hsz : w.heap.size < (w.alloc (.cells #[.slice A l.length c, .int .i64 T, .int .i64 C] 33)).heap.size := by simp
  by_cases h1 : askedN l T C err = 0
  · have h1' : (askedN l T C err != 0) = false := by simp [h1]
    have h2 := askedN_zero h1
    obtain ⟨T, C, rfl, rfl, hV⟩ := valid_of h2.1
    have hR := rm_ok (out := []) (k := l.length) hV.reads h2.2
    have HA := Lib.hid h1
    have hE := h2.2
    have hl12 := hV.len.2
    clear h1 h2
    by_cases h3 : xs.length = l.length
    · have h3' : ((xs.length : Int) != l.length) = false := by simp [h3]
      go_enter Try.func21, Try.ntmps21
      go_wp2_with (first | (go_at_call 66; refine (asked_any _ A l c T C err (hA.below hbl) hl).mono ?_; rintro e W1 ⟨hbe, rfl⟩; have n0 := cell_of_block (j := 0) (v := .slice A l.length c) ((hbe.block _ hsz).trans hn) rfl; have n1 := cell_of_block (j := 1) (v := .int .i64 T) ((hbe.block _ hsz).trans hn) rfl; have n2 := cell_of_block (j := 2) (v := .int .i64 C) ((hbe.block _ hsz).trans hn) rfl; have hsW := Nat.lt_of_lt_of_le hsz hbe.size) | (go_at_call 67; refine (rooms_any _ A none l [] c 0 T C err (hA.below ((hbl.trans (hbe.mono hbl.size)).alloc (Nat.le_trans hbl.size hbe.size) _)) (IntsAt.nil _ _) hl12 (by simp) hE hV.reads).mono ?_; rintro e W2 ⟨rfl, hbr⟩))
      have hM0 : PMem w W2 W1.heap.size A l.length c T C (fun _ => 0) := PMem.made hbl hsz hn hbe hbr
      have Hl := Lib.hid h3
      clear h3 h3' hbe hbr n0 n1 n2 hbl hn hsz hsW
      generalize hlo : rmLo l err [] l.length = lo at *
      generalize hhi : rmHi l err [] l.length = hi at *
      have Hlo := Lib.hid hlo
      have Hhi := Lib.hid hhi
      clear hlo hhi
      generalize W1.heap.size = Bg at *
      go_loopw [28] (fun t wr => ∃ k : Nat, k ≤ l.length ∧ t = .int .i64 k ∧ PMem w wr Bg A l.length c T C (hS l xs k) ∧ Hid (InRooms xs lo hi k)) (fun t _ => l.length - (intOf t).toNat)
      case atStart => exact ⟨0, Nat.zero_le _, rfl, by have e : hS l xs 0 = fun _ => 0 := rfl; rw [e]; exact hM0, Lib.hid (fun i hi => by omega)⟩
      case round =>
        clear hM0
        obtain ⟨k, hk, rfl, hM, hin⟩ := hrel
        by_cases hlt : k < l.length
        · have hk0 : (0 : Int) ≤ k := by omega
          have hk1 : (k : Int) < 12 := by omega
          have hix := index109 wr lo hi (k := k) (by omega)
          obtain ⟨x, hx⟩ : ∃ x, xs[k]? = some x := ⟨xs[k]'(by rw [Hl.out]; exact hlt), by simp [Hl.out, hlt]⟩
          obtain ⟨a, ha⟩ : ∃ a, l[k]? = some a := ⟨l[k], by simp [hlt]⟩
          have hlb : decide (l.length ≤ k) = false := decide_eq_false (by omega)
          go_wp2_with fail
          have hM3 := hM.step ((Below.refl _ wr).alloc (Nat.le_refl _) (.cells #[.int .i64 (lo k), .int .i64 (hi k)] 58))
          have hab := at_alloc (w := wr) (o := .cells #[.int .i64 (lo k), .int .i64 (hi k)] 58) rfl
          have hBa : Bg < wr.heap.size := hM.lt
          clear hM hix
          generalize wr.alloc (.cells #[.int .i64 (lo k), .int .i64 (hi k)] 58) = W3 at *
          generalize wr.heap.size = Ba at *
          obtain ⟨b, o, rfl, hbw, hxc0⟩ := hX k x hx
          have hxc := (hM3.below.cell (p := ⟨b, _, none⟩) hbw).trans hxc0
          have hb := Nat.lt_of_lt_of_le hbw hM3.below.size
          have e0 := cell_of_block (j := 0) (v := .int .i64 (lo k)) hab rfl
          have e1 := cell_of_block (j := 1) (v := .int .i64 (hi k)) hab rfl
          go_region_held3 (fun w' => w'.cell? ⟨Ba, 0, none⟩ = some (.int .i64 (lo k)) ∧ w'.cell? ⟨Ba, 1, none⟩ = some (.int .i64 (hi k)) ∧ w'.cell? ⟨b, o + k, none⟩ = some (.int .i64 x))
            (exact ⟨e0, e1, hxc⟩)
            (first | (go_at_call 68; refine (within_any _ _ _ _).mono ?_; rintro e w' ⟨rfl, rfl⟩))
          have hM4 := hM3.step ((Below.refl _ _).drew)
          have hxc4 : W3.drew.cell? ⟨b, o + k, none⟩ = some (.int .i64 x) := hxc
          clear hM3 hxc e0 e1 hab
          have hb4 : b < W3.drew.heap.size := hb
          clear hb
          generalize W3.drew = W4 at *
          have hxd : xs.getD k 0 = x := by rw [List.getD_eq_getElem?_getD, hx]; rfl
          by_cases hw : lo k ≤ x ∧ x ≤ hi k
          · have d1 : (!decide (lo k ≤ x) || !decide (x ≤ hi k)) = false := by simp [hw.1, hw.2]
            simp only [d1]
            have hao := hV.net.ok a (List.mem_of_getElem? ha)
            have hTT := hV.net.hT
            have hCC := hV.net.hC
            have hA4 := hA.below hM4.below
            have hn0 := cell_of_block (j := 0) (v := .slice A l.length c) hM4.net rfl
            have hn1 := cell_of_block (j := 1) (v := .int .i64 T) hM4.net rfl
            have hn2 := cell_of_block (j := 2) (v := .int .i64 C) hM4.net rfl
            go_wp2_with (go_at_call 69; refine (arc_any _ _ _ _ _ _ k a hA4 ha (by omega) (by omega) (by omega)).mono ?_; rintro e W5 ⟨rfl, hbW⟩)
            have hM5 := (hM4.step hbW).step ((Below.refl _ W5).alloc (Nat.le_refl _) (.cells #[.int .i64 (frN a), .int .i64 (toN a), .int .i64 k] 112))
            have harc := at_alloc (w := W5) (o := .cells #[.int .i64 (frN a), .int .i64 (toN a), .int .i64 k] 112) rfl
            have hBb : Bg < W5.heap.size := (hM4.step hbW).lt
            have hfr : frN a ≤ 10 := by unfold frN nodeZ; split <;> omega
            have hto : toN a ≤ 10 := by unfold toN nodeZ; split <;> omega
            have HS := Lib.hid (hS_step ha hx)
            have hin2 : Hid (InRooms xs lo hi (k + 1)) := Lib.hid (fun i hi => by
              by_cases e : i = k
              · subst e; rw [hxd]; exact hw
              · exact hin.out i (by omega))
            have hgb := hS_bnd (l := l) (xs := xs) (k := k) (fun i hi => by have := hin.out i hi; have := hR.lo0 i; have := hR.hi0 i; omega)
            have hx40 : 0 ≤ x ∧ x ≤ 40 := by have := hR.lo0 k; have := hR.hi0 k; omega
            have hord := hM5.ord
            have hxc5 := (hM5.below.cell (p := ⟨b, _, none⟩) hbw).trans hxc0
            clear hM4 hbW hA4 hn0 hn1 hn2 hao ha hxc4 hw hxd hx hin
            generalize W5.alloc (.cells #[.int .i64 (frN a), .int .i64 (toN a), .int .i64 k] 112) = W6 at *
            generalize W5.heap.size = Bb at *
            generalize hS l xs k = g at *
            have hgf := hgb (frN a)
            have hgt := hgb (toN a)
            clear hgb
            generalize frN a = fr at *
            generalize toN a = tt at *
            have ha0 := cell_of_block (j := 0) (v := .int .i64 fr) harc rfl
            have ha1 := cell_of_block (j := 1) (v := .int .i64 tt) harc rfl
            have hg0 := hM5.cell (k := fr) (by omega)
            have hf0 := hM5.free fr
            have hfr0 : (0 : Int) ≤ fr := by omega
            have hfr1 : (fr : Int) < 13 := by omega
            have hto0 : (0 : Int) ≤ tt := by omega
            have hto1 : (tt : Int) < 13 := by omega
            go_region
            have hM7 := (hM5.set fr (g fr + x)).step ((Below.refl _ _).drew)
            have harc7 : (W6.setCell ⟨Bg, fr, none⟩ (.int .i64 (g fr + x))).drew.heap[Bb]? = some (.cells #[.int .i64 fr, .int .i64 tt, .int .i64 k] 112 (0, 0)) := (Below.heap_setCell W6 ⟨Bg, fr, none⟩ (.int .i64 (g fr + x)) Bb (by simp; omega)).trans harc
            have hgt7 : -2000 ≤ setAt g fr (g fr + x) tt ∧ setAt g fr (g fr + x) tt ≤ 2000 := by
              simp only [setAt]; split <;> omega
            clear hM5 harc ha0 ha1 hg0 hf0 hxc5
            generalize setAt g fr (g fr + x) = g7 at *
            generalize (W6.setCell ⟨Bg, fr, none⟩ (.int .i64 (g fr + x))).drew = W7 at *
            have hxc7 := (hM7.below.cell (p := ⟨b, _, none⟩) hbw).trans hxc0
            have ha0 := cell_of_block (j := 0) (v := .int .i64 fr) harc7 rfl
            have ha1 := cell_of_block (j := 1) (v := .int .i64 tt) harc7 rfl
            have hg0 := hM7.cell (k := tt) (by omega)
            have hf0 := hM7.free tt
            go_wp2_with fail
            go_region
            have hM8 := (hM7.set tt (g7 tt + x)).step ((Below.refl _ _).drew)
            go_wp2_with fail
            go_roundw
            case rel => exact ⟨k + 1, by omega, by go_num, by rw [← HS.out]; exact hM8, hin2⟩
            case measure => simp [intOf]; omega
          · have d1 : (!decide (lo k ≤ x) || !decide (x ≤ hi k)) = true := by
              by_cases h : lo k ≤ x
              · have h2 : ¬ x ≤ hi k := fun h2 => hw ⟨h, h2⟩
                simp only [h2, decide_false, Bool.not_false, Bool.or_true]
              · simp only [h, decide_false, Bool.not_false, Bool.true_or]
            have HN : Hid (¬ InRooms xs lo hi l.length) := Lib.hid (fun h => by have := h k hlt; rw [hxd] at this; exact hw this)
            clear hw hxd hx ha
            simp only [d1]
            go_wp2_with fail
            refine bodyPost_ret (v := .bool false) (by simp [results, Try.results21, go_sem]) rfl ?_
            refine ⟨hM4.below, false, rfl, ⟨fun h => (by cases h), fun h => ?_⟩⟩
            have h5 := h.2.2.1
            rw [Hlo.out, Hhi.out] at h5
            exact absurd h5 HN.out
        · obtain rfl : k = l.length := by omega
          have hT5 := hV.net.hT
          have hC5 := hV.net.hC
          have hM0 := hM
          by_cases h12 : l.length < 12
          case' pos =>
            have hix := index109 wr lo hi (k := l.length) h12
            have hk0 : (0 : Int) ≤ l.length := by omega
            have hlb : decide (l.length ≤ l.length) = true := decide_eq_true (Nat.le_refl _)
            have hMz := hM0.step ((Below.refl _ wr).alloc (Nat.le_refl _) (.cells #[.int .i64 (lo l.length), .int .i64 (hi l.length)] 58))
            have n1 := cell_of_block (j := 1) (v := .int .i64 T) hM.net rfl
            have n2 := cell_of_block (j := 2) (v := .int .i64 C) hM.net rfl
            have hsr := (Array.getElem?_eq_some_iff.1 hM.net).1
            go_wp2_with fail
            clear hM hM0 hix hlb hk0 n1 n2 hsr
            generalize wr.alloc (.cells #[.int .i64 (lo l.length), .int .i64 (hi l.length)] 58) = Wz at *
          case' neg =>
            obtain ⟨Wz, rfl⟩ : ∃ Wz, Wz = wr := ⟨_, rfl⟩
            have hMz := hM0
            have n1 := cell_of_block (j := 1) (v := .int .i64 T) hM.net rfl
            go_wp2_with fail
            clear hM hM0 n1
          all_goals
            have n1 := cell_of_block (j := 1) (v := .int .i64 T) hMz.net rfl
            have n2 := cell_of_block (j := 2) (v := .int .i64 C) hMz.net rfl
            go_loop [72] (fun t => ∃ k : Nat, k ≤ T ∧ t = .int .i64 k ∧ Hid (∀ j, j < k → hS l xs l.length j = 36)) (fun t => T - (intOf t).toNat)
            case atStart => exact ⟨0, Nat.zero_le _, rfl, Lib.hid (fun j hj => by omega)⟩
            case round =>
              obtain ⟨k, hk, rfl, hall⟩ := hrel
              by_cases hlt : k < T
              · have hg0 := hMz.cell (k := k) (by omega)
                have hk0 : (0 : Int) ≤ k := by omega
                have hk1 : (k : Int) < 13 := by omega
                by_cases h36 : hS l xs l.length k = 36
                · have d : (hS l xs l.length k != 36) = false := by simp [h36]
                  have HN : Hid (∀ j, j < k + 1 → hS l xs l.length j = 36) := Lib.hid (fun j hj => by
                    by_cases e : j = k
                    · subst e; exact h36
                    · exact hall.out j (by omega))
                  clear h36
                  go_wp2_with fail
                  go_round
                  case rel => exact ⟨k + 1, by omega, by go_num, HN⟩
                  case measure => simp [intOf]; omega
                · have d : (hS l xs l.length k != 36) = true := by simp [h36]
                  have HN := Lib.hid h36
                  clear h36
                  go_wp2_with fail
                  refine bodyPost_ret (v := .bool false) (by simp [results, Try.results21, go_sem]) rfl ?_
                  exact ⟨hMz.below, .inl ⟨rfl, fun _ _ h => absurd (h.2.1 k hlt) HN.out⟩⟩
              · obtain rfl : k = T := by omega
                go_wp2_with fail
                go_loop [82] (fun t => ∃ k : Nat, k ≤ C ∧ t = .int .i64 k ∧ Hid (∀ j, j < k → hS l xs l.length (5 + j) = 72)) (fun t => C - (intOf t).toNat)
                case atStart => exact ⟨0, Nat.zero_le _, rfl, Lib.hid (fun j hj => by omega)⟩
                case round =>
                  obtain ⟨m, hm, rfl, hal2⟩ := hrel
                  by_cases hlt2 : m < C
                  · have hg0 := hMz.cell (k := 5 + m) (by omega)
                    have hk0 : (0 : Int) ≤ m := by omega
                    have hk1 : (m : Int) < 5 := by omega
                    by_cases h36 : hS l xs l.length (5 + m) = 72
                    · have d : (hS l xs l.length (5 + m) != 72) = false := by simp [h36]
                      have HN : Hid (∀ j, j < m + 1 → hS l xs l.length (5 + j) = 72) := Lib.hid (fun j hj => by
                        by_cases e : j = m
                        · subst e; exact h36
                        · exact hal2.out j (by omega))
                      clear h36
                      go_wp2_with fail
                      go_round
                      case rel => exact ⟨m + 1, by omega, by go_num, HN⟩
                      case measure => simp [intOf]; omega
                    · have d : (hS l xs l.length (5 + m) != 72) = true := by simp [h36]
                      have HN := Lib.hid h36
                      clear h36
                      go_wp2_with fail
                      refine bodyPost_ret (v := .bool false) (by simp [results, Try.results21, go_sem]) rfl ?_
                      exact ⟨hMz.below, .inl ⟨rfl, fun _ _ h => absurd (h.2.2 m hlt2) HN.out⟩⟩
                  · obtain rfl : m = C := by omega
                    go_wp2_with fail
                    refine bodyPost_ret (v := .bool true) (by simp [results, Try.results21, go_sem]) rfl ?_
                    exact ⟨hMz.below, .inr ⟨rfl, HA.out, Hl.out, by rw [Hlo.out, Hhi.out]; exact ⟨hin.out, hall.out, hal2.out⟩⟩⟩
    · have h3' : ((xs.length : Int) != l.length) = true := by simp; omega
      have HH := Lib.hid h3
      clear h3
      go_enter Try.func21, Try.ntmps21
      go_wp2_with (first | (go_at_call 66; refine (asked_any _ A l c T C err (hA.below hbl) hl).mono ?_; rintro e W1 ⟨hbe, rfl⟩; have n0 := cell_of_block (j := 0) (v := .slice A l.length c) ((hbe.block _ hsz).trans hn) rfl))
      go_ret
      exact ⟨hbl.trans (hbe.mono hbl.size), false, rfl, ⟨fun h => (by cases h), fun h => absurd h.2.1 HH.out⟩⟩
  · have h1' : (askedN l T C err != 0) = true := by simp [h1]
    have HH := Lib.hid h1
    clear h1
    go_enter Try.func21, Try.ntmps21
    go_wp2_with (first | (go_at_call 66; refine (asked_any _ A l c T C err (hA.below hbl) hl).mono ?_; rintro e w' ⟨hbe, rfl⟩))
    go_ret
    exact ⟨hbl.trans (hbe.mono hbl.size), false, rfl, ⟨fun h => (by cases h), fun h => absurd h.1 HH.out⟩⟩
end Go.Proofs.Ytnhbplnhhloklaa
