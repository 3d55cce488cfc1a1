/- Contracts of the reference's rising and Proves. -/
import Derived.Test.YtnhbplnhhloklaaE3
import Derived.Test.YtnhbplnhhloklaaE9
import Derived.Laws.BitsAllLaws
import Derived.Laws.BitsLemmas
import Derived.Deep.QuietTactic
import Derived.BigQuiet
import Derived.Test.YtnhbplnhhloklaaL1
import Derived.Test.YtnhbplnhhloklaaF0
import Derived.Test.YtnhbplnhhloklaaD2
import Derived.Test.YtnhbplnhhloklaaL0
import Derived.Test.YtnhbplnhhloklaaE4
namespace Go.Proofs.Ytnhbplnhhloklaa
open Go.RowKit

theorem in_quiet (n lo hi : Int) (w : World) : Calls Try.prog 58 #[.int .i64 n, .int .i64 lo, .int .i64 hi] w fun e w' => e = .returned (.bool (decide (lo ≤ n ∧ n ≤ hi))) ∧ w' = w :=
  (in_any n lo hi w).mono fun _ _ ⟨h1, h2⟩ => ⟨h2, h1.symm⟩

set_option maxHeartbeats 4000000 in
theorem rrising_any (w : World) (A : Option Addr) (l : List Int) (c : Nat) (m : Int) (hA : IntsAt w A l) (hl : l.length ≤ 100000) (hm : 0 ≤ m ∧ m ≤ 5) :
    Calls Try.prog 74 #[.slice A l.length c, .int .i64 m] w (BoolIff (Rising l m) w) := by
  go_enter Try.func74, Try.ntmps74
  go_wp2_with fail
  go_loopw [5] (fun t wr => ∃ k : Nat, k ≤ l.length ∧ t = .int .i64 k ∧ Below w.heap.size w wr ∧ Hid (RiseTo l m k)) (fun t _ => l.length - (intOf t).toNat)
  case atStart => exact ⟨0, Nat.zero_le _, rfl, Below.refl _ _, Lib.hid (fun i hi => by omega)⟩
  case round =>
    obtain ⟨k, hk, rfl, hbel, hr⟩ := hrel
    by_cases hlt : k < l.length
    · obtain ⟨x, hx⟩ : ∃ x, l[k]? = some x := ⟨l[k], by simp [hlt]⟩
      have hxd : l.getD k 0 = x := by rw [List.getD_eq_getElem?_getD, hx]; rfl
      obtain ⟨b, o, rfl, hb, hc⟩ := hA.below hbel k x hx
      have hk0 : (0 : Int) ≤ k := by omega
      have hk1 : (k : Int) < l.length := by omega
      have hwm : IntKind.i64.wrap (m - 1) = m - 1 := IntWalk.i64_in _ (by omega)
      by_cases h1 : 0 ≤ x ∧ x ≤ m - 1
      · have d1 : decide (0 ≤ x ∧ x ≤ m - 1) = true := decide_eq_true h1
        cases k with
        | zero =>
          have HN : Hid (RiseTo l m 1) := Lib.hid (hr.out.step (by rw [hxd]; exact h1) (fun h => by omega))
          rw [Nat.add_zero] at hc
          have hgt : decide ((0 : Int) < 0) = false := rfl
          clear h1 hxd hx
          go_wp2_with fail
          go_quiet ((go_at_call 58; exact Calls.quiet_of_same (in_quiet _ _ _ _)))
          clear hwm
          go_wp2_with fail
          go_roundw
          case rel => exact ⟨1, by omega, by go_num, below_drewN hbel _, HN⟩
          case measure => simp [intOf]; omega
        | succ j =>
          obtain ⟨y, hy⟩ : ∃ y, l[j]? = some y := ⟨l[j], by simp⟩
          have hyd : l.getD j 0 = y := by rw [List.getD_eq_getElem?_getD, hy]; rfl
          obtain ⟨b2, o2, hAe, hb2, hc2⟩ := hA.below hbel j y hy
          cases hAe
          have hj0 : (0 : Int) ≤ j := by omega
          have hj1 : (j : Int) < l.length := by omega
          have hgt : decide ((0 : Int) < (j : Int) + 1) = true := decide_eq_true (by omega)
          have hwj : IntKind.i64.wrap ((j : Int) + 1 - 1) = j := by rw [Int.add_sub_cancel]; exact IntWalk.i64_in _ (by omega)
          have hwj2 : IntKind.i64.wrap (j : Int) = j := IntWalk.i64_in _ (by omega)
          by_cases h2 : x ≤ y
          · have d2 : decide (x ≤ y) = true := decide_eq_true h2
            have HN : Hid (¬ Rising l m) := Lib.hid (fun h => by
              have := (h (j + 1) hlt).2 (by omega)
              rw [Nat.add_sub_cancel, hxd, hyd] at this
              omega)
            clear h1 h2 hxd hx hyd hy
            go_wp2_with fail
            go_quiet ((go_at_call 58; exact Calls.quiet_of_same (in_quiet _ _ _ _)))
            clear hwm hwj hwj2
            go_wp2_with fail
            go_ret
            exact .no (below_drewN hbel _) HN.out
          · have d2 : decide (x ≤ y) = false := decide_eq_false h2
            have HN : Hid (RiseTo l m (j + 1 + 1)) := Lib.hid (hr.out.step (by rw [hxd]; exact h1) (fun h => by rw [Nat.add_sub_cancel, hxd, hyd]; omega))
            clear h1 h2 hxd hx hyd hy
            go_wp2_with fail
            go_quiet ((go_at_call 58; exact Calls.quiet_of_same (in_quiet _ _ _ _)))
            clear hwm hwj hwj2
            go_wp2_with fail
            go_roundw
            case rel => exact ⟨j + 1 + 1, by omega, by go_num, below_drewN hbel _, HN⟩
            case measure => simp [intOf]; omega
      · have d1 : decide (0 ≤ x ∧ x ≤ m - 1) = false := decide_eq_false h1
        have HN : Hid (¬ Rising l m) := Lib.hid (fun h => by
          have := (h k hlt).1
          rw [hxd] at this
          exact h1 this)
        clear h1 hxd hx
        go_wp2_with fail
        go_quiet ((go_at_call 58; exact Calls.quiet_of_same (in_quiet _ _ _ _)))
        clear hwm
        go_wp2_with fail
        go_ret
        exact .no (below_drewN hbel _) HN.out
    · have hN : Hid (Rising l m) := Lib.hid (by
        have : k = l.length := by omega
        have h := hr.out
        rw [this] at h; exact h)
      go_wp2_with fail
      go_ret
      exact .yes hbel hN.out

/-- The bits of a list. -/
def orL : List Int → Nat
  | [] => 0
  | x :: r => 2 ^ x.toNat ||| orL r
theorem orL_snoc (xs : List Int) (x : Int) : orL (xs ++ [x]) = orL xs ||| 2 ^ x.toNat := by
  induction xs with
  | nil => simp [orL]
  | cons y r ih => simp only [List.cons_append, orL, ih, Nat.or_assoc]
theorem orL_test (xs : List Int) (j : Nat) : (orL xs).testBit j = decide (∃ x ∈ xs, x.toNat = j) := by
  induction xs with
  | nil => simp [orL]
  | cons y r ih =>
    rw [Bool.eq_iff_iff]
    simp only [orL, Nat.testBit_or, ih, Nat.testBit_two_pow, Bool.or_eq_true, decide_eq_true_eq, List.mem_cons]
    constructor
    · rintro (h | ⟨x, hx, h⟩)
      · exact ⟨y, .inl rfl, h⟩
      · exact ⟨x, .inr hx, h⟩
    · rintro ⟨x, rfl | hx, h⟩
      · exact .inl h
      · exact .inr ⟨x, hx, h⟩
theorem orL_mem {xs : List Int} (h : ∀ x ∈ xs, 0 ≤ x) : bitB (orL xs) = memB xs := by
  funext t
  rw [Bool.eq_iff_iff]
  unfold bitB memB
  rw [Bool.and_eq_true, decide_eq_true_eq, decide_eq_true_eq, orL_test, decide_eq_true_eq]
  constructor
  · rintro ⟨h0, x, hx, e⟩
    have := h x hx
    have : x = t := by omega
    rw [← this]; exact hx
  · intro ht
    exact ⟨h t ht, t, ht, rfl⟩
theorem orL_lt {xs : List Int} (h : ∀ x ∈ xs, 0 ≤ x ∧ x ≤ 4) : orL xs < 32 := by
  induction xs with
  | nil => simp [orL]
  | cons y r ih =>
    have hy := h y (List.mem_cons_self ..)
    have h1 : 2 ^ y.toNat < 2 ^ 5 := Nat.pow_lt_pow_right (by omega) (by omega)
    exact Nat.or_lt_two_pow (n := 5) h1 (ih (fun x hx => h x (List.mem_cons_of_mem _ hx)))
theorem ofInt_i64 (a : Nat) (ha : a < 9223372036854775808) : (BitVec.ofInt 64 (a : Int)).toNat = a := by
  rw [BitVec.ofInt_natCast, BitVec.toNat_ofNat]; exact Nat.mod_eq_of_lt (by omega)
theorem i64_or_nat (a b : Nat) (ha : a < 9223372036854775808) (hb : b < 9223372036854775808) : bits .or .i64 (a : Int) (b : Int) = ((a ||| b : Nat) : Int) := by
  have hx : a ||| b < 2 ^ 63 := Nat.or_lt_two_pow (by omega) (by omega)
  show IntKind.i64.wrap ((BitVec.ofInt 64 (a : Int) ||| BitVec.ofInt 64 (b : Int)).toNat : Int) = _
  rw [BitVec.toNat_or, ofInt_i64 a ha, ofInt_i64 b hb, IntKind.wrap_i64]
  omega
end Go.Proofs.Ytnhbplnhhloklaa

/- Contract of the reference's Proves. -/
namespace Go.Proofs.Ytnhbplnhhloklaa
open Go.RowKit

theorem rrising_yes (w : World) (A : Option Addr) (l : List Int) (c : Nat) (m : Int) (hA : IntsAt w A l) (hl : l.length ≤ 100000) (hm : 0 ≤ m ∧ m ≤ 5) (h : Hid (Rising l m)) :
    Calls Try.prog 74 #[.slice A l.length c, .int .i64 m] w fun e w' => Below w.heap.size w w' ∧ e = .returned (.bool true) := by
  refine (rrising_any w A l c m hA hl hm).mono ?_
  rintro e w' ⟨hb, b, rfl, hbb⟩
  obtain rfl : b = true := hbb.2 h.out
  exact ⟨hb, rfl⟩
theorem rrising_no (w : World) (A : Option Addr) (l : List Int) (c : Nat) (m : Int) (hA : IntsAt w A l) (hl : l.length ≤ 100000) (hm : 0 ≤ m ∧ m ≤ 5) (h : Hid (¬ Rising l m)) :
    Calls Try.prog 74 #[.slice A l.length c, .int .i64 m] w fun e w' => Below w.heap.size w w' ∧ e = .returned (.bool false) := by
  refine (rrising_any w A l c m hA hl hm).mono ?_
  rintro e w' ⟨hb, b, rfl, hbb⟩
  cases b with
  | false => exact ⟨hb, rfl⟩
  | true => exact absurd (hbb.1 rfl) h.out

/-- The memory of Proves. -/
structure PvMem (w wr : World) (A : Option Addr) (n c : Nat) (T C : Int) (P Q : Value) : Prop where
  net : NMem w wr A n c T C
  cut : wr.heap[w.heap.size + 1]? = some (.cells #[P, Q] 27 (0, 0))
theorem PvMem.step {w wr w' : World} {A : Option Addr} {n c : Nat} {T C : Int} {P Q : Value} (h : PvMem w wr A n c T C P Q) (hb : Below wr.heap.size wr w') : PvMem w w' A n c T C P Q :=
  ⟨h.net.step hb, (hb.block _ (Array.getElem?_eq_some_iff.1 h.cut).1).trans h.cut⟩

set_option maxHeartbeats 4000000 in
set_option maxRecDepth 100000 in
theorem rproves_any (w : World) (A P Q : Option Addr) (l : List Ang) (ts cs : List Int) (c c1 c2 : Nat) (T C : Nat) (err : Int) (hA : AngAt w A l) (hV : Valid l T C) (hE : 0 ≤ err ∧ err ≤ 40) (hP : IntsAt w P ts) (hQ : IntsAt w Q cs) (hlt : ts.length ≤ 1000) (hlc : cs.length ≤ 1000) :
    Calls Try.prog 31 #[.agg #[.slice A l.length c, .int .i64 T, .int .i64 C], .int .i64 err, .agg #[.slice P ts.length c1, .slice Q cs.length c2]] w (BoolIff (Rising ts T ∧ Rising cs C ∧ ProvesL l ts cs (rmLo l err [] l.length) (rmHi l err [] l.length)) w) := by
  have hM : PvMem w ((w.alloc (.cells #[.slice A l.length c, .int .i64 T, .int .i64 C] 24)).alloc (.cells #[.slice P ts.length c1, .slice Q cs.length c2] 27)) A l.length c T C (.slice P ts.length c1) (.slice Q cs.length c2) :=
    ⟨⟨((Below.refl _ w).alloc (Nat.le_refl _) _).alloc (by simp) _, past_alloc (at_alloc rfl)⟩, at_alloc (by simp)⟩
  have hN := hV.net
  have hR := rm_ok (out := []) (k := l.length) hV.reads hE
  have hl12 := hV.len.2
  have hT : 0 ≤ (T : Int) ∧ (T : Int) ≤ 5 := by have := hN.hT; omega
  have hC : 0 ≤ (C : Int) ∧ (C : Int) ≤ 5 := by have := hN.hC; omega
  by_cases r1 : Rising ts T
  · have HR1 := Lib.hid r1
    by_cases r2 : Rising cs C
    · have HR2 := Lib.hid r2
      have HDef := Lib.hid (provesL_iff (lo := rmLo l err [] l.length) (hi := rmHi l err [] l.length) hN r1 r2)
      have hm1 : ∀ x ∈ ts, 0 ≤ x ∧ x ≤ 4 := fun x hx => by have := r1.mem hx; omega
      have hm2 : ∀ x ∈ cs, 0 ≤ x ∧ x ≤ 4 := fun x hx => by have := r2.mem hx; omega
      have HO1 := Lib.hid (orL_mem (fun x hx => (hm1 x hx).1))
      have HO2 := Lib.hid (orL_mem (fun x hx => (hm2 x hx).1))
      clear r1 r2
      go_enter Try.func31, Try.ntmps31
      go_wp2_with fail
      generalize (w.alloc (.cells #[.slice A l.length c, .int .i64 T, .int .i64 C] 24)).alloc (.cells #[.slice P ts.length c1, .slice Q cs.length c2] 27) = W0 at *
      have n1 := cell_of_block (j := 1) (v := .int .i64 T) hM.net.net rfl
      have p0 := cell_of_block (j := 0) (v := .slice P ts.length c1) hM.cut rfl
      go_wp2_with fail
      refine (rrising_yes _ P ts c1 T (hP.below hM.net.below) (by omega) hT HR1).mono ?_
      rintro e W1 ⟨hb1, rfl⟩
      have hM1 := hM.step hb1
      clear hM hb1 n1 p0
      have n2 := cell_of_block (j := 2) (v := .int .i64 C) hM1.net.net rfl
      have p1 := cell_of_block (j := 1) (v := .slice Q cs.length c2) hM1.cut rfl
      go_wp2_with fail
      refine (rrising_yes _ Q cs c2 C (hQ.below hM1.net.below) (by omega) hC HR2).mono ?_
      rintro e W2 ⟨hb2, rfl⟩
      have hM2 := hM1.step hb2
      clear hM1 hb2 n2 p1
      have p0 := cell_of_block (j := 0) (v := .slice P ts.length c1) hM2.cut rfl
      have p1 := cell_of_block (j := 1) (v := .slice Q cs.length c2) hM2.cut rfl
      go_wp2_with fail
      go_loop [7, 9] (fun x t => ∃ k : Nat, k ≤ ts.length ∧ t = .int .i64 k ∧ x = .int .i64 (orL (ts.take k))) (fun _ t => ts.length - (intOf t).toNat)
      case atStart => exact ⟨0, Nat.zero_le _, rfl, rfl⟩
      case round =>
        obtain ⟨k, hk, rfl, rfl⟩ := hrel
        by_cases hlk : k < ts.length
        · obtain ⟨x, hx⟩ : ∃ x, ts[k]? = some x := ⟨ts[k], by simp [hlk]⟩
          obtain ⟨b, o, rfl, hb, hc⟩ := hP.below hM2.net.below k x hx
          have hx4 := hm1 x (List.mem_of_getElem? hx)
          have HT := Lib.hid (by rw [take_step hx, orL_snoc] : orL (ts.take (k + 1)) = orL (ts.take k) ||| 2 ^ x.toNat)
          have ho := orL_lt (xs := ts.take k) (fun y hy => hm1 y (List.mem_of_mem_take hy))
          obtain ⟨hwx, hbx⟩ := pow_spell (m := x.toNat) (by omega)
          have hor := i64_or_nat (orL (ts.take k)) (2 ^ x.toNat) (by omega) (by omega)
          clear hx
          go_wp2_with fail
          go_round
          case rel => exact ⟨k + 1, by omega, by go_num, by rw [HT.out, ← hor]; simp⟩
          case measure => simp [intOf]; omega
        · obtain rfl : k = ts.length := by omega
          rw [List.take_length]
          go_wp2_with fail
          go_loop [8, 10] (fun x t => ∃ k : Nat, k ≤ cs.length ∧ t = .int .i64 k ∧ x = .int .i64 (orL (cs.take k))) (fun _ t => cs.length - (intOf t).toNat)
          case atStart => exact ⟨0, Nat.zero_le _, rfl, rfl⟩
          case round =>
            obtain ⟨k, hk, rfl, rfl⟩ := hrel
            by_cases hlk : k < cs.length
            · obtain ⟨x, hx⟩ : ∃ x, cs[k]? = some x := ⟨cs[k], by simp [hlk]⟩
              obtain ⟨b, o, rfl, hb, hc⟩ := hQ.below hM2.net.below k x hx
              have hx4 := hm2 x (List.mem_of_getElem? hx)
              have HT := Lib.hid (by rw [take_step hx, orL_snoc] : orL (cs.take (k + 1)) = orL (cs.take k) ||| 2 ^ x.toNat)
              have ho := orL_lt (xs := cs.take k) (fun y hy => hm2 y (List.mem_of_mem_take hy))
              obtain ⟨hwx, hbx⟩ := pow_spell (m := x.toNat) (by omega)
              have hor := i64_or_nat (orL (cs.take k)) (2 ^ x.toNat) (by omega) (by omega)
              clear hx
              go_wp2_with fail
              go_round
              case rel => exact ⟨k + 1, by omega, by go_num, by rw [HT.out, ← hor]; simp⟩
              case measure => simp [intOf]; omega
            · obtain rfl : k = cs.length := by omega
              rw [List.take_length]
              have hs1 := hM2.net.lt
              have hb1 := hM2.net.below
              have c0 := cell_of_block (j := 0) (v := .slice A l.length c) hM2.net.net rfl
              have c1' := cell_of_block (j := 1) (v := .int .i64 T) hM2.net.net rfl
              have c2' := cell_of_block (j := 2) (v := .int .i64 C) hM2.net.net rfl
              have hok : ∀ a ∈ l, (-1 ≤ a.t ∧ a.t ≤ 10) ∧ (-1 ≤ a.c ∧ a.c ≤ 10) := fun a ha => by have := hN.ok a ha; omega
              go_wp2_with fail
              clear p0 p1
              go_region_held3 (fun w' => w'.cell? ⟨w.heap.size, 0, none⟩ = some (.slice A l.length c) ∧ w'.cell? ⟨w.heap.size, 1, none⟩ = some (.int .i64 T) ∧ w'.cell? ⟨w.heap.size, 2, none⟩ = some (.int .i64 C))
                ((first | exact ⟨by assumption, by assumption, by assumption⟩ | exact ⟨(hbr.cell (by exact hs1)).trans c0, (hbr.cell (by exact hs1)).trans c1', (hbr.cell (by exact hs1)).trans c2'⟩ | exact ⟨(hbc.cell (by exact hs1)).trans c0, (hbc.cell (by exact hs1)).trans c1', (hbc.cell (by exact hs1)).trans c2'⟩))
                (first | (go_at_call 30; refine (rrooms0 _ A l c T C err (hA.below hb1.drew) hl12 hE hV.reads).mono ?_; rintro e W4 ⟨hbr, R, d, rfl, hRm⟩) | (go_at_call 75; refine (denies_any _ A R l c d T C _ _ (orL ts) (orL cs) (hA.below (hb1.drew.trans (hbr.mono hb1.size))) hRm hl12 hR hok).mono ?_; rintro e W5 ⟨hbc0, b, rfl, hb⟩; have HB := Lib.hid hb; clear hb; have hbc := Below.trans hbr (hbc0.mono hbr.size)))
              have hM5 := hM2.step ((Below.refl _ W2).drew.trans hbc)
              go_wp2_with fail
              go_ret
              refine ⟨hM5.net.below, b, rfl, ?_⟩
              have hb := HB.out
              rw [HO1.out, HO2.out] at hb
              rw [hb, HDef.out]
              exact ⟨fun h => ⟨HR1.out, HR2.out, h⟩, fun h => h.2.2⟩
    · have HR2 := Lib.hid r2
      clear r1 r2
      go_enter Try.func31, Try.ntmps31
      go_wp2_with fail
      generalize (w.alloc (.cells #[.slice A l.length c, .int .i64 T, .int .i64 C] 24)).alloc (.cells #[.slice P ts.length c1, .slice Q cs.length c2] 27) = W0 at *
      have n1 := cell_of_block (j := 1) (v := .int .i64 T) hM.net.net rfl
      have p0 := cell_of_block (j := 0) (v := .slice P ts.length c1) hM.cut rfl
      go_wp2_with fail
      refine (rrising_yes _ P ts c1 T (hP.below hM.net.below) (by omega) hT HR1).mono ?_
      rintro e W1 ⟨hb1, rfl⟩
      have hM1 := hM.step hb1
      clear hM hb1 n1 p0
      have n2 := cell_of_block (j := 2) (v := .int .i64 C) hM1.net.net rfl
      have p1 := cell_of_block (j := 1) (v := .slice Q cs.length c2) hM1.cut rfl
      go_wp2_with fail
      refine (rrising_no _ Q cs c2 C (hQ.below hM1.net.below) (by omega) hC HR2).mono ?_
      rintro e W2 ⟨hb2, rfl⟩
      go_wp2_with fail
      go_ret
      exact .no (hM1.step hb2).net.below (fun h => HR2.out h.2.1)
  · have HR1 := Lib.hid r1
    clear r1
    go_enter Try.func31, Try.ntmps31
    go_wp2_with fail
    generalize (w.alloc (.cells #[.slice A l.length c, .int .i64 T, .int .i64 C] 24)).alloc (.cells #[.slice P ts.length c1, .slice Q cs.length c2] 27) = W0 at *
    have n1 := cell_of_block (j := 1) (v := .int .i64 T) hM.net.net rfl
    have p0 := cell_of_block (j := 0) (v := .slice P ts.length c1) hM.cut rfl
    go_wp2_with fail
    refine (rrising_no _ P ts c1 T (hP.below hM.net.below) (by omega) hT HR1).mono ?_
    rintro e W1 ⟨hb1, rfl⟩
    go_wp2_with fail
    go_ret
    exact .no (hM.step hb1).net.below (fun h => HR1.out h.1)
end Go.Proofs.Ytnhbplnhhloklaa

/- Contract of the reference's IsTruth. -/
namespace Go.Proofs.Ytnhbplnhhloklaa
open Go.RowKit

/-- Five sums, as the reference holds them. -/
def av (g : Nat → Int) : Array Value := ((List.range 5).map (fun k => Value.int .i64 (g k))).toArray
theorem av_get {g : Nat → Int} {i : Nat} (h : i < 5) : (av g)[i]? = some (.int .i64 (g i)) := by
  simp only [av, List.getElem?_toArray, List.getElem?_map]
  rw [List.getElem?_range (by omega)]
  rfl
theorem av_set {g : Nat → Int} {i : Nat} {x : Int} : (av g).setIfInBounds i (.int .i64 x) = av (setAt g i x) := by
  apply Array.ext'
  rw [Array.toList_setIfInBounds]
  simp only [av]
  apply List.ext_getElem?
  intro j
  by_cases hj : j < 5
  · by_cases e1 : i = j
    · subst e1
      rw [List.getElem?_set_self (by simpa using hj)]
      simp [hj, setAt]
    · rw [List.getElem?_set_ne e1]
      simp only [List.getElem?_map, List.getElem?_range hj, Option.map_some, setAt]
      rw [if_neg (by omega)]
  · rw [List.getElem?_eq_none (by simp; omega), List.getElem?_eq_none (by simp; omega)]
theorem av_zero : av (fun _ => 0) = #[.int .i64 0, .int .i64 0, .int .i64 0, .int .i64 0, .int .i64 0] := rfl

/-- The sums of a list at triangles, and at circles. -/
def tS (l : List Ang) (xs : List Int) (k : Nat) : Nat → Int := fun j => sumN k (fun i => match l[i]? with | some a => if a.t = j then xs.getD i 0 else 0 | none => 0)
def cS (l : List Ang) (xs : List Int) (k : Nat) : Nat → Int := fun j => sumN k (fun i => match l[i]? with | some a => if a.c = j then xs.getD i 0 else 0 | none => 0)
theorem tS_yes {l : List Ang} {xs : List Int} {k : Nat} {a : Ang} {x : Int} (ha : l[k]? = some a) (hx : xs[k]? = some x) (h : 0 ≤ a.t) : tS l xs (k + 1) = setAt (tS l xs k) a.t.toNat (tS l xs k a.t.toNat + x) := by
  have ex : xs.getD k 0 = x := by rw [List.getD_eq_getElem?_getD, hx]; rfl
  funext j
  simp only [tS, sumN, setAt, ha, ex]
  by_cases e : j = a.t.toNat
  · subst e; rw [if_pos rfl, if_pos (by omega)]
  · rw [if_neg e, if_neg (by omega)]; omega
theorem tS_no {l : List Ang} {xs : List Int} {k : Nat} {a : Ang} (ha : l[k]? = some a) (h : ¬ 0 ≤ a.t) : tS l xs (k + 1) = tS l xs k := by
  funext j
  simp only [tS, sumN, ha]
  rw [if_neg (by omega)]; omega
theorem cS_yes {l : List Ang} {xs : List Int} {k : Nat} {a : Ang} {x : Int} (ha : l[k]? = some a) (hx : xs[k]? = some x) (h : 0 ≤ a.c) : cS l xs (k + 1) = setAt (cS l xs k) a.c.toNat (cS l xs k a.c.toNat + x) := by
  have ex : xs.getD k 0 = x := by rw [List.getD_eq_getElem?_getD, hx]; rfl
  funext j
  simp only [cS, sumN, setAt, ha, ex]
  by_cases e : j = a.c.toNat
  · subst e; rw [if_pos rfl, if_pos (by omega)]
  · rw [if_neg e, if_neg (by omega)]; omega
theorem cS_no {l : List Ang} {xs : List Int} {k : Nat} {a : Ang} (ha : l[k]? = some a) (h : ¬ 0 ≤ a.c) : cS l xs (k + 1) = cS l xs k := by
  funext j
  simp only [cS, sumN, ha]
  rw [if_neg (by omega)]; omega
theorem tS_bnd {l : List Ang} {xs : List Int} {k : Nat} (h : ∀ i, i < k → 0 ≤ xs.getD i 0 ∧ xs.getD i 0 ≤ 40) (j : Nat) : (0 ≤ tS l xs k j ∧ tS l xs k j ≤ 40 * (k : Int)) ∧ (0 ≤ cS l xs k j ∧ cS l xs k j ≤ 40 * (k : Int)) := by
  induction k with
  | zero => simp [tS, cS, sumN]
  | succ k ih =>
    have h1 := ih (fun i hi => h i (by omega))
    have h2 := h k (by omega)
    simp only [tS, cS, sumN] at h1 ⊢
    cases l[k]? with
    | none => simp only; omega
    | some a => simp only; split <;> split <;> omega
theorem tS_hS {l : List Ang} {T C : Nat} (hN : NetOk l T C) (xs : List Int) (t : Nat) (ht : t < 5) : hS l xs l.length t = tS l xs l.length t := by
  unfold hS tS
  refine sumN_congr fun i hi => ?_
  have ha : l[i]? = some l[i] := by simp [hi]
  have hao := hN.ok _ (List.mem_of_getElem? ha)
  have hT := hN.hT
  have h2 := tI_in hN i
  rw [if_neg (show ¬ tI l i = t by omega), ha]
  simp only [fI, ha]
  by_cases h1 : l[i].t = -1
  · have e10 : frN l[i] = 10 := by unfold frN nodeZ; rw [if_pos h1]; rfl
    rw [if_neg (by omega), if_neg (by omega)]; omega
  · have hf : (frN l[i] : Int) = l[i].t := by rw [frN_eq hao.1]; unfold nodeZ; rw [if_neg h1]; omega
    by_cases e : frN l[i] = t
    · rw [if_pos e, if_pos (by omega)]; omega
    · rw [if_neg e, if_neg (by omega)]; omega
theorem cS_hS {l : List Ang} {T C : Nat} (hN : NetOk l T C) (xs : List Int) (k : Nat) (hk : k < 5) : hS l xs l.length (5 + k) = cS l xs l.length k := by
  unfold hS cS
  refine sumN_congr fun i hi => ?_
  have ha : l[i]? = some l[i] := by simp [hi]
  have hao := hN.ok _ (List.mem_of_getElem? ha)
  have hT := hN.hT
  have hC := hN.hC
  have h1 := fI_in hN i
  rw [if_neg (show ¬ fI l i = 5 + k by omega), ha]
  simp only [tI, ha]
  by_cases h1 : l[i].c = -1
  · have e10 : toN l[i] = 10 := by unfold toN nodeZ; rw [if_pos h1]; rfl
    rw [if_neg (by omega), if_neg (by omega)]; omega
  · have hf : (toN l[i] : Int) = 5 + l[i].c := by rw [toN_eq hao.2.2.1]; unfold nodeZ; rw [if_neg h1]
    by_cases e : toN l[i] = 5 + k
    · rw [if_pos e, if_pos (by omega)]; omega
    · rw [if_neg e, if_neg (by omega)]; omega

/-- The memory of IsTruth. -/
structure SMem (w wr : World) (A : Option Addr) (n c : Nat) (T C : Int) (g h : Nat → Int) : Prop where
  net : NMem w wr A n c T C
  tri : wr.heap[w.heap.size + 1]? = some (.cells (av g) 117 (0, 0))
  cir : wr.heap[w.heap.size + 1 + 1]? = some (.cells (av h) 117 (0, 0))
section
variable {w wr w' : World} {A : Option Addr} {n c : Nat} {T C : Int} {g h : Nat → Int}
theorem SMem.step (m : SMem w wr A n c T C g h) (hb : Below wr.heap.size wr w') : SMem w w' A n c T C g h :=
  ⟨m.net.step hb, (hb.block _ (Array.getElem?_eq_some_iff.1 m.tri).1).trans m.tri, (hb.block _ (Array.getElem?_eq_some_iff.1 m.cir).1).trans m.cir⟩
theorem SMem.setTri (m : SMem w wr A n c T C g h) (k : Nat) (x : Int) : SMem w (wr.setCell ⟨w.heap.size + 1, k, none⟩ (.int .i64 x)) A n c T C (setAt g k x) h := by
  have e : ∀ b, b ≠ w.heap.size + 1 → (wr.setCell ⟨w.heap.size + 1, k, none⟩ (.int .i64 x)).heap[b]? = wr.heap[b]? := fun b hb => Below.heap_setCell _ _ _ _ hb
  refine ⟨⟨m.net.below.setCell (by show w.heap.size ≤ w.heap.size + 1; omega) _, (e _ (by omega)).trans m.net.net⟩, ?_, (e _ (by omega)).trans m.cir⟩
  rw [heap_setCell_self m.tri, av_set]
theorem SMem.setCir (m : SMem w wr A n c T C g h) (k : Nat) (x : Int) : SMem w (wr.setCell ⟨w.heap.size + 1 + 1, k, none⟩ (.int .i64 x)) A n c T C g (setAt h k x) := by
  have e : ∀ b, b ≠ w.heap.size + 1 + 1 → (wr.setCell ⟨w.heap.size + 1 + 1, k, none⟩ (.int .i64 x)).heap[b]? = wr.heap[b]? := fun b hb => Below.heap_setCell _ _ _ _ hb
  refine ⟨⟨m.net.below.setCell (by show w.heap.size ≤ w.heap.size + 1 + 1; omega) _, (e _ (by omega)).trans m.net.net⟩, (e _ (by omega)).trans m.tri, ?_⟩
  rw [heap_setCell_self m.cir, av_set]
end

set_option maxHeartbeats 8000000 in
set_option maxRecDepth 100000 in
theorem isTruth_any (w : World) (A R X : Option Addr) (l : List Ang) (xs : List Int) (c d cx : Nat) (T C : Nat) (lo hi : Nat → Int) (hA : AngAt w A l) (hRm : RmAt w R lo hi l.length) (hX : IntsAt w X xs) (hl : l.length ≤ 12) (_hxl : xs.length ≤ 1000000) (hN : NetOk l T C) (hR : RoomOk lo hi) :
    Calls Try.prog 29 #[.agg #[.slice A l.length c, .int .i64 T, .int .i64 C], .slice R l.length d, .slice X xs.length cx] w (BoolIff (xs.length = l.length ∧ TruthL l T C xs lo hi) w) := by
  by_cases hlen : xs.length = l.length
  · have hlen' : ((xs.length : Int) != l.length) = false := by simp [hlen]
    have HLEN := Lib.hid hlen
    have hX12 : xs.length ≤ 12 := by omega
    have hM0 : SMem w (((w.alloc (.cells #[.slice A l.length c, .int .i64 T, .int .i64 C] 24)).alloc (.cells (av fun _ => 0) 117)).alloc (.cells (av fun _ => 0) 117)) A l.length c T C (fun _ => 0) (fun _ => 0) :=
      ⟨⟨(((Below.refl _ w).alloc (Nat.le_refl _) _).alloc (by simp) _).alloc (by simp; omega) _, past_alloc (past_alloc (at_alloc rfl))⟩, past_alloc (at_alloc (by simp)), at_alloc (by simp)⟩
    rw [av_zero] at hM0
    clear hlen
    go_enter Try.func29, Try.ntmps29
    go_wp2_with fail
    generalize (((w.alloc (.cells #[.slice A l.length c, .int .i64 T, .int .i64 C] 24)).alloc (.cells #[.int .i64 0, .int .i64 0, .int .i64 0, .int .i64 0, .int .i64 0] 117)).alloc (.cells #[.int .i64 0, .int .i64 0, .int .i64 0, .int .i64 0, .int .i64 0] 117)) = W0 at *
    go_loopw [9] (fun t wr => ∃ k : Nat, k ≤ xs.length ∧ t = .int .i64 k ∧ SMem w wr A l.length c T C (tS l xs k) (cS l xs k) ∧ Hid (InRooms xs lo hi k)) (fun t _ => xs.length - (intOf t).toNat)
    case atStart => exact ⟨0, Nat.zero_le _, rfl, hM0, Lib.hid (fun i hi => by omega)⟩
    case round =>
      clear hM0
      obtain ⟨k, hk, rfl, hM, hin⟩ := hrel
      by_cases hlt : k < xs.length
      · have hltl : k < l.length := by rw [← HLEN.out]; exact hlt
        obtain ⟨x, hx⟩ : ∃ x, xs[k]? = some x := ⟨xs[k], by simp [hlt]⟩
        obtain ⟨a, ha⟩ : ∃ a, l[k]? = some a := ⟨l[k], by simp [hltl]⟩
        have hao := hN.ok a (List.mem_of_getElem? ha)
        have hT5 := hN.hT
        have hC5 := hN.hC
        obtain ⟨bx, ox, rfl, hbx, hcx⟩ := hX.below hM.net.below k x hx
        obtain ⟨rb, ro, rfl, hrb, hr0, hr1⟩ := hRm.below hM.net.below k hltl
        obtain ⟨b, o, rfl, hb, ha0, ha1, ha2, ha3⟩ := hA.below hM.net.below k a ha
        have hk0 : (0 : Int) ≤ k := by omega
        have hk1 : (k : Int) < l.length := by omega
        have hk2 : (k : Int) < xs.length := by omega
        have hxd : xs.getD k 0 = x := by rw [List.getD_eq_getElem?_getD, hx]; rfl
        go_wp2_with fail
        go_region_held3 (fun w' => w'.cell? ⟨bx, ox + k, none⟩ = some (.int .i64 x) ∧ w'.cell? ⟨rb, ro + k * 2, none⟩ = some (.int .i64 (lo k)) ∧ w'.cell? ⟨rb, ro + k * 2 + 1, none⟩ = some (.int .i64 (hi k)))
          (exact ⟨hcx, hr0, hr1⟩)
          (first | (go_at_call 58; refine (in_any _ _ _ _).mono ?_; rintro e w' ⟨rfl, rfl⟩))
        have hM1 := hM.step (Below.refl _ wr).drew
        have hbxw : bx < wr.heap.size := hbx
        have hbw : b < wr.heap.size := hb
        have hd0 : Below wr.heap.size wr wr.drew := (Below.refl _ wr).drew
        have hcx1 := (hd0.cell (p := ⟨bx, ox + k, none⟩) hbx).trans hcx
        have ha01 := (hd0.cell (p := ⟨b, o + k * 4, none⟩) hb).trans ha0
        have ha11 := (hd0.cell (p := ⟨b, o + k * 4 + 1, none⟩) hb).trans ha1
        have hs1 := hd0.size
        clear hM hcx hr0 hr1 ha0 ha1 ha2 ha3 hrb
        by_cases hw : lo k ≤ x ∧ x ≤ hi k
        · have d1 : (!decide (lo k ≤ x) || !decide (x ≤ hi k)) = false := by simp [hw.1, hw.2]
          simp only [d1]
          have hin2 : Hid (InRooms xs lo hi (k + 1)) := Lib.hid (fun i hi => by
            by_cases e : i = k
            · subst e; rw [hxd]; exact hw
            · exact hin.out i (by omega))
          have hgb := tS_bnd (l := l) (xs := xs) (k := k) (fun i hi => by have := hin.out i hi; have := hR.lo0 i; have := hR.hi0 i; omega)
          have hx40 : 0 ≤ x ∧ x ≤ 40 := by have := hR.lo0 k; have := hR.hi0 k; omega
          clear hw hxd hin
          have hbx1 : bx < wr.drew.heap.size := hbx
          have hb1 : b < wr.drew.heap.size := hb
          clear hd0 hs1 hbxw hbw hbx hb
          generalize wr.drew = W1 at *
          have n0 := cell_of_block (j := 0) (v := .slice (some ⟨b, o, none⟩) l.length c) hM1.net.net rfl
          have hsn := hM1.net.lt
          by_cases ht : 0 ≤ a.t
          case' pos =>
            have HT := Lib.hid (tS_yes ha hx ht)
            obtain ⟨tn, htn⟩ := Int.eq_ofNat_of_zero_le ht
            rw [htn] at ha01
            rw [htn] at HT
            have htn5 : (tn : Int) < 5 := by omega
            have htn0 : (0 : Int) ≤ tn := by omega
            have hdt : decide ((0 : Int) ≤ tn) = true := decide_eq_true htn0
            have g0 := cell_of_block (j := tn) hM1.tri (av_get (by omega))
            have f0 := free_of_block (j := tn) hM1.tri
            have hgt := (hgb tn).1
            clear ht
            go_wp2_with fail
            go_region
            have hM2 := (hM1.setTri tn (tS l xs k tn + x)).step (Below.refl _ _).drew
            rw [show setAt (tS l xs k) tn (tS l xs k tn + x) = tS l xs (k + 1) from HT.out.symm] at hM2
            have hcx2 : (W1.setCell ⟨w.heap.size + 1, tn, none⟩ (.int .i64 (tS l xs k tn + x))).drew.cell? ⟨bx, ox + k, none⟩ = some (.int .i64 x) := by
              show (W1.setCell ⟨w.heap.size + 1, tn, none⟩ (.int .i64 (tS l xs k tn + x))).cell? ⟨bx, ox + k, none⟩ = _
              obtain ⟨b', o', e', hb', hc'⟩ := hX k x hx
              cases e'
              rw [World.cell?_setCell_far _ _ _ _ (by show w.heap.size + 1 ≠ bx; omega)]; exact hcx1
            have hac2 : (W1.setCell ⟨w.heap.size + 1, tn, none⟩ (.int .i64 (tS l xs k tn + x))).drew.cell? ⟨b, o + k * 4 + 1, none⟩ = some (.int .i64 a.c) := by
              show (W1.setCell ⟨w.heap.size + 1, tn, none⟩ (.int .i64 (tS l xs k tn + x))).cell? ⟨b, o + k * 4 + 1, none⟩ = _
              obtain ⟨b', o', e', hb', _⟩ := hA k a ha
              cases e'
              rw [World.cell?_setCell_far _ _ _ _ (by show w.heap.size + 1 ≠ b; omega)]; exact ha11
            clear hM1 hcx1 ha01 ha11 g0 f0 hgt n0 HT htn hdt
            generalize (W1.setCell ⟨w.heap.size + 1, tn, none⟩ (.int .i64 (tS l xs k tn + x))).drew = W2 at *
          case' neg =>
            have HT := Lib.hid (tS_no (xs := xs) ha ht)
            have hdt : decide ((0 : Int) ≤ a.t) = false := decide_eq_false ht
            obtain ⟨W2, hW2⟩ : ∃ W2, W2 = W1 := ⟨_, rfl⟩
            subst hW2
            have hM2 := hM1
            rw [show tS l xs k = tS l xs (k + 1) from HT.out.symm] at hM2
            have hcx2 := hcx1
            have hac2 := ha11
            clear HT ht hM1 hcx1 ha11 n0
          all_goals
            have n0 := cell_of_block (j := 0) (v := .slice (some ⟨b, o, none⟩) l.length c) hM2.net.net rfl
            by_cases hc : 0 ≤ a.c
            case' pos =>
              have HC := Lib.hid (cS_yes ha hx hc)
              obtain ⟨cn, hcn⟩ := Int.eq_ofNat_of_zero_le hc
              rw [hcn] at hac2
              rw [hcn] at HC
              have hcn5 : (cn : Int) < 5 := by omega
              have hcn0 : (0 : Int) ≤ cn := by omega
              have hdc : decide ((0 : Int) ≤ cn) = true := decide_eq_true hcn0
              have g0 := cell_of_block (j := cn) hM2.cir (av_get (by omega))
              have f0 := free_of_block (j := cn) hM2.cir
              have hgt := (hgb cn).2
              clear hc
              go_wp2_with fail
              go_region
              have hM3 := (hM2.setCir cn (cS l xs k cn + x)).step (Below.refl _ _).drew
              rw [show setAt (cS l xs k) cn (cS l xs k cn + x) = cS l xs (k + 1) from HC.out.symm] at hM3
              clear hM2 g0 f0 n0
              go_wp2_with fail
              go_roundw
              case rel => exact ⟨k + 1, by omega, by go_num, hM3, hin2⟩
              case measure => simp [intOf]; omega
            case' neg =>
              have HC := Lib.hid (cS_no (xs := xs) ha hc)
              have hdc : decide ((0 : Int) ≤ a.c) = false := decide_eq_false hc
              have hM3 := hM2
              rw [show cS l xs k = cS l xs (k + 1) from HC.out.symm] at hM3
              have HM3 := Lib.hid hM3
              clear hc hM3
              go_wp2_with fail
              go_roundw
              case rel => exact ⟨k + 1, by omega, by go_num, HM3.out, hin2⟩
              case measure => simp [intOf]; omega
        · have d1 : (!decide (lo k ≤ x) || !decide (x ≤ hi k)) = true := by
            by_cases h : lo k ≤ x
            · have h2 : ¬ x ≤ hi k := fun h2 => hw ⟨h, h2⟩
              simp only [h2, decide_false, Bool.not_false, Bool.or_true]
            · simp only [h, decide_false, Bool.not_false, Bool.true_or]
          simp only [d1]
          have HN : Hid (¬ InRooms xs lo hi l.length) := Lib.hid (fun h => by have := h k hltl; rw [hxd] at this; exact hw this)
          clear hw
          go_wp2_with fail
          go_ret
          exact .no hM1.net.below (fun h => HN.out h.2.1)
      · obtain rfl : k = xs.length := by omega
        have hin3 : Hid (InRooms xs lo hi l.length) := Lib.hid (by rw [← HLEN.out]; exact hin.out)
        have HT1 : Hid (∀ t, t < 5 → hS l xs l.length t = tS l xs xs.length t) := Lib.hid (fun t ht => by rw [HLEN.out]; exact tS_hS hN xs t ht)
        have HC1 : Hid (∀ t, t < 5 → hS l xs l.length (5 + t) = cS l xs xs.length t) := Lib.hid (fun t ht => by rw [HLEN.out]; exact cS_hS hN xs t ht)
        have hT5 := hN.hT
        have hC5 := hN.hC
        have n1 := cell_of_block (j := 1) (v := .int .i64 T) hM.net.net rfl
        have n2 := cell_of_block (j := 2) (v := .int .i64 C) hM.net.net rfl
        clear hin
        generalize tS l xs xs.length = g at *
        generalize cS l xs xs.length = h at *
        go_wp2_with fail
        go_loop [12] (fun t => ∃ j : Nat, j ≤ 5 ∧ t = .int .i64 j ∧ Hid (∀ i, i < j → (i < T → g i = 36) ∧ (i < C → h i = 72))) (fun t => 5 - (intOf t).toNat)
        case atStart => exact ⟨0, Nat.zero_le _, rfl, Lib.hid (fun i hi => by omega)⟩
        case round =>
          obtain ⟨j, hj, rfl, hall⟩ := hrel
          by_cases hlj : j < 5
          · have gj := cell_of_block (j := j) hM.tri (av_get hlj)
            have hj' := cell_of_block (j := j) hM.cir (av_get hlj)
            have hj0 : (0 : Int) ≤ j := by omega
            have hj1 : (j : Int) < 5 := by omega
            by_cases hok : (j < T → g j = 36) ∧ (j < C → h j = 72)
            · have HN : Hid (∀ i, i < j + 1 → (i < T → g i = 36) ∧ (i < C → h i = 72)) := Lib.hid (fun i hi => by
                by_cases e : i = j
                · subst e; exact hok
                · exact hall.out i (by omega))
              by_cases p1 : j < T
              · have d1 : decide ((j : Int) < T) = true := decide_eq_true (by omega)
                have d2 : (g j != 36) = false := by simp [hok.1 p1]
                by_cases p2 : j < C
                · have d3 : decide ((j : Int) < C) = true := decide_eq_true (by omega)
                  have d4 : (h j != 72) = false := by simp [hok.2 p2]
                  clear hok
                  go_wp2_with fail
                  go_round
                  case rel => exact ⟨j + 1, by omega, by go_num, HN⟩
                  case measure => simp [intOf]; omega
                · have d3 : decide ((j : Int) < C) = false := decide_eq_false (by omega)
                  clear hok
                  go_wp2_with fail
                  go_round
                  case rel => exact ⟨j + 1, by omega, by go_num, HN⟩
                  case measure => simp [intOf]; omega
              · have d1 : decide ((j : Int) < T) = false := decide_eq_false (by omega)
                by_cases p2 : j < C
                · have d3 : decide ((j : Int) < C) = true := decide_eq_true (by omega)
                  have d4 : (h j != 72) = false := by simp [hok.2 p2]
                  clear hok
                  go_wp2_with fail
                  go_round
                  case rel => exact ⟨j + 1, by omega, by go_num, HN⟩
                  case measure => simp [intOf]; omega
                · have d3 : decide ((j : Int) < C) = false := decide_eq_false (by omega)
                  clear hok
                  go_wp2_with fail
                  go_round
                  case rel => exact ⟨j + 1, by omega, by go_num, HN⟩
                  case measure => simp [intOf]; omega
            · by_cases p1 : j < T ∧ g j ≠ 36
              · have d1 : decide ((j : Int) < T) = true := decide_eq_true (by omega)
                have d2 : (g j != 36) = true := by simp [p1.2]
                have HN : Hid (¬ TruthL l T C xs lo hi) := Lib.hid (fun q => p1.2 (by rw [← HT1.out j hlj]; exact q.2.1 j p1.1))
                obtain ⟨p1, p1'⟩ := p1
                clear hok
                go_wp2_with fail
                go_ret
                exact .no hM.net.below (fun q => HN.out q.2)
              · have p2 : j < C ∧ h j ≠ 72 := by
                  refine Classical.byContradiction fun hn => hok ⟨fun q => Classical.byContradiction fun e => p1 ⟨q, e⟩, fun q => Classical.byContradiction fun e => hn ⟨q, e⟩⟩
                have d3 : decide ((j : Int) < C) = true := decide_eq_true (by omega)
                have d4 : (h j != 72) = true := by simp [p2.2]
                have HN : Hid (¬ TruthL l T C xs lo hi) := Lib.hid (fun q => p2.2 (by rw [← HC1.out j hlj]; exact q.2.2 j p2.1))
                obtain ⟨p2, p2'⟩ := p2
                clear hok
                by_cases p3 : j < T
                · have d1 : decide ((j : Int) < T) = true := decide_eq_true (by omega)
                  have d2 : (g j != 36) = false := by
                    have : g j = 36 := Classical.byContradiction fun e => p1 ⟨p3, e⟩
                    simp [this]
                  clear p1
                  go_wp2_with fail
                  go_ret
                  exact .no hM.net.below (fun q => HN.out q.2)
                · have d1 : decide ((j : Int) < T) = false := decide_eq_false (by omega)
                  clear p1
                  go_wp2_with fail
                  go_ret
                  exact .no hM.net.below (fun q => HN.out q.2)
          · obtain rfl : j = 5 := by omega
            have HN : Hid (TruthL l T C xs lo hi) := Lib.hid ⟨hin3.out, fun t ht => by rw [HT1.out t (by omega)]; exact (hall.out t (by omega)).1 ht, fun t ht => by rw [HC1.out t (by omega)]; exact (hall.out t (by omega)).2 ht⟩
            go_wp2_with fail
            go_ret
            exact .yes hM.net.below ⟨HLEN.out, HN.out⟩
  · have hlen' : ((xs.length : Int) != l.length) = true := by simp; omega
    have hM := NMem.made w A l.length c T C
    have HN : Hid (¬ xs.length = l.length) := Lib.hid hlen
    clear hlen
    go_enter Try.func29, Try.ntmps29
    go_wp2_with fail
    go_ret
    exact .no hM.below (fun h => HN.out h.1)
end Go.Proofs.Ytnhbplnhhloklaa

/- Contracts of the reference's Bits and Less. -/
namespace Go.Proofs.Ytnhbplnhhloklaa
open Go.RowKit

/-- The bits below k. -/
def preL (b k : Nat) : List Nat := (List.range k).filter (fun i => b.testBit i)
theorem preL_yes {b k : Nat} (h : b.testBit k = true) : preL b (k + 1) = preL b k ++ [k] := by
  unfold preL; rw [List.range_succ, List.filter_append]; simp [h]
theorem preL_no {b k : Nat} (h : ¬ b.testBit k = true) : preL b (k + 1) = preL b k := by
  unfold preL; rw [List.range_succ, List.filter_append]; simp [h]
theorem preL_len (b k : Nat) : (preL b k).length ≤ k := by
  unfold preL
  have := List.length_filter_le (fun i => b.testBit i) (List.range k)
  simpa using this
/-- A list of indexes is returned, in a row of its own. -/
def RowOut (w : World) (ks : List Nat) (e : Ending) (w' : World) : Prop := Below w.heap.size w w' ∧ ∃ v, e = .returned v ∧ w'.ownsRow w.heap.size 3 1 v ks.length (outV ks)

set_option maxHeartbeats 2000000 in
theorem bits_any (w : World) (b : Nat) (_hb : b < 65536) : Calls Try.prog 63 #[.int .i64 b] w (RowOut w (bitL b)) := by
  go_enter Try.func63, Try.ntmps63
  go_wp2_with fail
  go_loopw [3, 4] (fun v t wr => ∃ k : Nat, k ≤ 16 ∧ t = .int .i64 k ∧ Below w.heap.size w wr ∧ wr.ownsRow w.heap.size 3 1 v (preL b k).length (outV (preL b k))) (fun _ t _ => 16 - (intOf t).toNat)
  case atStart => exact ⟨0, Nat.zero_le _, rfl, Below.refl _ _, World.ownsRow_nil _ _ _ _⟩
  case round =>
    obtain ⟨k, hk, rfl, hbel, hown⟩ := hrel
    have HO := Lib.hid hown
    have HBl := Lib.hid hbel
    clear hown hbel
    by_cases hlt : k < 16
    · have HB := Lib.hid (bit_spell b (k : Int))
      have hk0 : (0 : Int) ≤ k := by omega
      have hk1 : (k : Int) < 16 := by omega
      by_cases hbit : b.testBit k = true
      · have hd : (((b : Int) / 2 ^ k).tmod 2 == 1) = true := by have := HB.out; rw [Int.toNat_natCast] at this; rw [this]; exact hbit
        have HP := Lib.hid (preL_yes hbit)
        have hbg : Below wr.heap.size wr (wr.alloc (.cells #[.int .i64 k] 3)) := (Below.refl _ wr).alloc (Nat.le_refl _) _
        have HO4 := Lib.hid (ownsRow_below HO.out hbg (Nat.le_refl _))
        have hkn : (preL b k).length < 100000 := by have := preL_len b k; omega
        have hszA : w.heap.size ≤ (wr.alloc (.cells #[.int .i64 k] 3)).heap.size := Nat.le_trans HBl.out.size hbg.size
        have HW4 := Lib.hid (HBl.out.trans (hbg.mono HBl.out.size))
        clear hbg hbit
        go_wp2_with (at_builtin; refine wpList_push elem25 (wr.alloc (.cells #[.int .i64 k] 3)) (by rfl) (.tmp 15) (.tmp 17) (by rfl) w.heap.size _ (preL b k).length _ (by rfl) HO4.out wr.heap.size 1 [.int .i64 k] (by rfl) (at_alloc rfl) rfl (by simp [Value.oneCell']) hkn hszA ?_; intro v' w' how5 hbe5 _)
        go_roundw
        case rel =>
          refine ⟨k + 1, by omega, by go_num, HW4.out.trans hbe5, ?_⟩
          rw [HP.out, List.length_append, outV, List.map_append]
          exact how5
        case measure => simp [intOf]; omega
      · have hd : (((b : Int) / 2 ^ k).tmod 2 == 1) = false := by have := HB.out; rw [Int.toNat_natCast] at this; rw [this]; exact Bool.eq_false_iff.2 hbit
        have HP := Lib.hid (preL_no hbit)
        clear hbit
        go_wp2_with fail
        go_roundw
        case rel => exact ⟨k + 1, by omega, by go_num, HBl.out, by rw [HP.out]; exact HO.out⟩
        case measure => simp [intOf]; omega
    · obtain rfl : k = 16 := by omega
      go_wp2_with fail
      go_ret
      exact ⟨HBl.out, _, rfl, HO.out⟩

/-- Shorter, or as long and smaller at the first index at which they differ. -/
def lessL (xs ys : List Nat) : Prop := xs.length < ys.length ∨ (xs.length = ys.length ∧ lexLt xs ys)
theorem lex_at : ∀ {xs ys : List Nat} {k x y : Nat}, xs.take k = ys.take k → xs[k]? = some x → ys[k]? = some y → x ≠ y → (lexLt xs ys ↔ x < y)
  | [], _, k, x, y, _, hx, _, _ => by simp at hx
  | _ :: _, [], k, x, y, _, _, hy, _ => by simp at hy
  | a :: r, b :: s, 0, x, y, _, hx, hy, hne => by
    simp at hx hy
    subst hx hy
    unfold lexLt
    constructor
    · rintro (h | ⟨h, _⟩)
      · exact h
      · exact absurd h hne
    · exact .inl
  | a :: r, b :: s, k + 1, x, y, ht, hx, hy, hne => by
    simp only [List.take_succ_cons, List.cons.injEq] at ht
    obtain ⟨rfl, ht⟩ := ht
    have := lex_at (xs := r) (ys := s) ht (by simpa using hx) (by simpa using hy) hne
    unfold lexLt
    rw [this]
    constructor
    · rintro (h | ⟨_, h⟩)
      · exact absurd h (Nat.lt_irrefl _)
      · exact h
    · exact fun h => .inr ⟨rfl, h⟩
theorem lex_irr : ∀ {xs : List Nat}, ¬ lexLt xs xs
  | [] => fun h => by unfold lexLt at h; exact h
  | a :: r => fun h => by
    unfold lexLt at h
    rcases h with h | ⟨_, h⟩
    · exact Nat.lt_irrefl _ h
    · exact lex_irr h

theorem outI_get {xs : List Nat} {k : Nat} {x : Int} (h : (outI xs)[k]? = some x) : ∃ n : Nat, xs[k]? = some n ∧ x = n := by
  unfold outI at h
  rw [List.getElem?_map, Option.map_eq_some_iff] at h
  obtain ⟨n, h1, h2⟩ := h
  exact ⟨n, h1, h2.symm⟩
theorem outI_len (xs : List Nat) : (outI xs).length = xs.length := by simp [outI]

set_option maxHeartbeats 4000000 in
theorem less_quiet (w : World) (A B : Option Addr) (xs ys : List Nat) (c d : Nat) (b : Bool) (hb : b = true ↔ lessL xs ys) (hA : IntsAt w A (outI xs)) (hB : IntsAt w B (outI ys)) (hl : xs.length ≤ 1000000) (_hl2 : ys.length ≤ 1000000) :
    Calls Try.prog 62 #[.slice A xs.length c, .slice B ys.length d] w fun e w' => e = .returned (.bool b) ∧ ∃ m, w' = w.drewN m := by
  by_cases hlen : xs.length = ys.length
  · have hlen' : ((xs.length : Int) == ys.length) = true := by simp [hlen]
    have hlen2 : ((ys.length : Int) == ys.length) = true := by simp
    have HLEN := Lib.hid hlen
    go_enter Try.func62, Try.ntmps62
    go_wp2_with fail
    go_loopw [5] (fun t wr => ∃ k m : Nat, k ≤ xs.length ∧ t = .int .i64 k ∧ wr = w.drewN m ∧ Hid (xs.take k = ys.take k)) (fun t _ => xs.length - (intOf t).toNat)
    case atStart => exact ⟨0, 0, Nat.zero_le _, rfl, rfl, Lib.hid rfl⟩
    case round =>
      obtain ⟨k, m, hk, rfl, rfl, heq⟩ := hrel
      by_cases hlt : k < xs.length
      · obtain ⟨x, hx⟩ : ∃ x, xs[k]? = some x := ⟨xs[k], by simp [hlt]⟩
        have hlt2 : k < ys.length := by rw [← HLEN.out]; exact hlt
        obtain ⟨y, hy⟩ : ∃ y, ys[k]? = some y := ⟨ys[k], by simp [hlt2]⟩
        obtain ⟨b1, o1, rfl, hb1, hc1⟩ := hA k (x : Int) (by simp [outI, hx])
        obtain ⟨b2, o2, rfl, hb2, hc2⟩ := hB k (y : Int) (by simp [outI, hy])
        have hTx := Lib.hid (take_step hx)
        have hTy := Lib.hid (take_step hy)
        have hk0 : (0 : Int) ≤ k := by omega
        have hk1 : (k : Int) < xs.length := by omega
        have hk2 : (k : Int) < ys.length := by omega
        have HX := Lib.hid (And.intro hx hy)
        clear hx hy hlen
        go_wp2_with fail
        go_quiet (fail)
        by_cases he : x = y
        · have hd : ((x : Int) != y) = false := by simp [he]
          have HN : Hid (xs.take (k + 1) = ys.take (k + 1)) := Lib.hid (by rw [hTx.out, hTy.out, heq.out, he])
          clear he
          go_wp2_with fail
          go_roundw
          case rel => exact ⟨k + 1, m + nq, by omega, by go_num, rfl, HN⟩
          case measure => simp [intOf]; omega
        · have hd : ((x : Int) != y) = true := by simp; omega
          have HN : Hid (decide ((x : Int) < y) = b) := Lib.hid (by
            rw [Bool.eq_iff_iff, hb]
            unfold lessL
            rw [lex_at heq.out HX.out.1 HX.out.2 he]
            have := HLEN.out
            simp only [decide_eq_true_eq]
            constructor
            · intro h; exact .inr ⟨this, by omega⟩
            · rintro (h | ⟨_, h⟩)
              · omega
              · omega)
          have he' : ¬ ((x : Int) = y) := by omega
          clear he
          go_wp2_with fail
          go_quiet (fail)
          go_wp2_with fail
          go_ret
          exact ⟨by rw [← HN.out]; simp, _, by rw [World.drewN_drewN, World.drewN_drewN]⟩
      · have HN : Hid (b = false) := Lib.hid (by
          have h := heq.out
          rw [List.take_of_length_le (by omega), List.take_of_length_le (by omega)] at h
          subst h
          rw [Bool.eq_false_iff, Ne, hb]
          rintro (h | ⟨_, h⟩)
          · omega
          · exact lex_irr h)
        go_wp2_with fail
        go_ret
        exact ⟨by rw [HN.out]; simp, m, rfl⟩
  · have hlen' : ((xs.length : Int) == ys.length) = false := by simp; omega
    have HN : Hid (decide ((xs.length : Int) < ys.length) = b) := Lib.hid (by
      rw [Bool.eq_iff_iff, hb]
      unfold lessL
      simp only [decide_eq_true_eq]
      constructor
      · intro h; exact .inl (by omega)
      · rintro (h | ⟨h, _⟩)
        · omega
        · exact absurd h hlen)
    go_enter Try.func62, Try.ntmps62
    go_wp2_with fail
    go_loopw [5] (fun t wr => t = .int .i64 0 ∧ wr = w) (fun _ _ => 0)
    case atStart => exact ⟨rfl, rfl⟩
    case round =>
      obtain ⟨rfl, rfl⟩ := hrel
      by_cases h0 : 0 < xs.length
      · have hd : decide ((0 : Int) < xs.length) = true := decide_eq_true (by omega)
        go_wp2_with fail
        go_ret
        exact ⟨by rw [← HN.out]; simp, 0, rfl⟩
      · have hd : decide ((0 : Int) < xs.length) = false := decide_eq_false (by omega)
        go_wp2_with fail
        go_ret
        exact ⟨by rw [← HN.out]; simp, 0, rfl⟩
end Go.Proofs.Ytnhbplnhhloklaa

/- Contract of the reference's Leave, and what it means. -/
namespace Go.Proofs.Ytnhbplnhhloklaa
open Go.RowKit

section
variable {l : List Ang} {T C : Nat} {err : Int}
theorem canE_mono {out out' : List Int} (h : CanE l T C err out) (hs : ∀ i : Nat, (i : Int) ∈ out → (i : Int) ∈ out') : CanE l T C err out' := can_mono h fun i hi => by
  have ha : l[i]? = some l[i] := by simp
  simp only [rmLo, rmHi, hi, if_true, ha]
  by_cases h1 : (i : Int) ∈ out
  · rw [if_pos h1, if_pos h1, if_pos (hs i h1), if_pos (hs i h1)]; omega
  · rw [if_neg h1, if_neg h1]
    split <;> (unfold rLo rHi; omega)
theorem bit_below {b n i : Nat} (hb : b < 2 ^ n) (h : b.testBit i = true) : i < n := by
  by_cases e : i < n
  · exact e
  · have h1 : 2 ^ n ≤ 2 ^ i := Nat.pow_le_pow_right (by omega) (by omega)
    rw [Nat.testBit_lt_two_pow (by omega)] at h
    cases h
theorem bitL_up (b : Nat) : (bitL b).Pairwise (· < ·) := by unfold bitL; exact List.Pairwise.filter _ List.pairwise_lt_range
theorem bitL_ext {b n : Nat} (hb : b < 2 ^ n) : Ext n 0 (bitL b).length (bitL b) :=
  ⟨rfl, bitL_up b, fun _ hy => ⟨Nat.zero_le _, bit_below hb (mem_bitL.1 hy).2⟩⟩
theorem ext_bits {n : Nat} {zs : List Nat} (h : Ext n 0 zs.length zs) (hn : n ≤ 12) : ∃ b < 2 ^ n, zs = bitL b := by
  obtain ⟨b, hb, hk⟩ := bits_of (fun i => decide (i ∈ zs)) n
  refine ⟨b, hb, sorted_ext h.up (bitL_up b) fun i => ?_⟩
  rw [mem_bitL]
  constructor
  · intro hi
    have := (h.mem i hi).2
    exact ⟨by omega, by rw [hk i this]; exact decide_eq_true hi⟩
  · rintro ⟨_, hi⟩
    rw [hk i (bit_below hb hi)] at hi
    exact of_decide_eq_true hi
theorem mem_all {n i : Nat} (hn : n ≤ 12) : i ∈ bitL (2 ^ n - 1) ↔ i < n := by
  rw [mem_bitL, Nat.testBit_two_pow_sub_one]
  constructor
  · rintro ⟨_, h⟩; exact of_decide_eq_true h
  · intro h; exact ⟨by omega, decide_eq_true h⟩
theorem up_len : ∀ {ys : List Nat} {f n : Nat}, ys.Pairwise (· < ·) → (∀ y ∈ ys, f ≤ y ∧ y < n) → ys.length ≤ n - f
  | [], f, n, _, _ => by simp
  | y :: r, f, n, h, hm => by
    have h1 := List.pairwise_cons.1 h
    have hy := hm y (List.mem_cons_self ..)
    have h2 := up_len (ys := r) (f := y + 1) (n := n) h1.2 (fun z hz => ⟨h1.1 z hz, (hm z (List.mem_cons_of_mem _ hz)).2⟩)
    simp only [List.length_cons]
    omega
theorem up_eq : ∀ {xs ys : List Nat} {f n : Nat}, xs.Pairwise (· < ·) → (∀ y ∈ xs, f ≤ y ∧ y < n) → ys.Pairwise (· < ·) → (∀ y ∈ ys, f ≤ y ∧ y < n) → xs.length = n - f → ys.length = n - f → xs = ys
  | [], [], _, _, _, _, _, _, _, _ => rfl
  | [], _ :: _, f, n, _, _, _, _, h1, h2 => by simp at h1 h2; omega
  | _ :: _, [], f, n, _, _, _, _, h1, h2 => by simp at h1 h2; omega
  | x :: r, y :: s, f, n, h, hm, h', hm', h1, h2 => by
    have k1 := List.pairwise_cons.1 h
    have k2 := List.pairwise_cons.1 h'
    have hx := hm x (List.mem_cons_self ..)
    have hy := hm' y (List.mem_cons_self ..)
    have a1 : ∀ z ∈ r, x + 1 ≤ z ∧ z < n := fun z hz => ⟨k1.1 z hz, (hm z (List.mem_cons_of_mem _ hz)).2⟩
    have a2 : ∀ z ∈ s, y + 1 ≤ z ∧ z < n := fun z hz => ⟨k2.1 z hz, (hm' z (List.mem_cons_of_mem _ hz)).2⟩
    have b1 := up_len k1.2 a1
    have b2 := up_len k2.2 a2
    simp only [List.length_cons] at h1 h2
    obtain rfl : x = f := by omega
    obtain rfl : y = x := by omega
    rw [up_eq (f := y + 1) (n := n) k1.2 a1 k2.2 a2 (by omega) (by omega)]
theorem lex_total : ∀ {xs ys : List Nat}, xs.length = ys.length → ¬ lexLt xs ys → ¬ lexLt ys xs → xs = ys
  | [], [], _, _, _ => rfl
  | [], _ :: _, h, _, _ => by simp at h
  | _ :: _, [], h, _, _ => by simp at h
  | x :: r, y :: s, h, h1, h2 => by
    unfold lexLt at h1 h2
    have e : x = y := by
      by_cases h3 : x < y
      · exact absurd (.inl h3) h1
      · by_cases h4 : y < x
        · exact absurd (.inl h4) h2
        · omega
    subst e
    rw [lex_total (xs := r) (ys := s) (by simpa using h) (fun k => h1 (.inr ⟨rfl, k⟩)) (fun k => h2 (.inr ⟨rfl, k⟩))]
theorem out_unique {ys zs : List Nat} (h : OutIs l T C err ys) (h' : OutIs l T C err zs) : ys = zs := by
  have h1 := h.short zs h'.ext h'.can
  have h2 := h'.short ys h.ext h.can
  exact lex_total (by omega) (h'.first ys h.ext h.can (by omega)) (h.first zs h'.ext h'.can (by omega))
theorem ext_len {n : Nat} {ys : List Nat} (h : Ext n 0 ys.length ys) : ys.length ≤ n := by simpa using up_len h.up h.mem
theorem out_of {ys : List Nat} (hn : l.length ≤ 12) (hc : CanE l T C err (outI (bitL (2 ^ l.length - 1)))) (hE : Ext l.length 0 ys.length ys) (hy : ys = bitL (2 ^ l.length - 1) ∨ CanE l T C err (outI ys)) (hno : ∀ b, b < 2 ^ l.length - 1 → CanE l T C err (outI (bitL b)) → ¬ lessL (bitL b) ys) : OutIs l T C err ys := by
  have hk : ∀ zs, Ext l.length 0 zs.length zs → CanE l T C err (outI zs) → ¬ lessL zs ys := by
    intro zs hz hcz
    obtain ⟨b, hb, rfl⟩ := ext_bits hz hn
    by_cases e : b < 2 ^ l.length - 1
    · exact hno b e hcz
    · obtain rfl : b = 2 ^ l.length - 1 := by omega
      have hlen : (bitL (2 ^ l.length - 1)).length = l.length := by
        have : bitL (2 ^ l.length - 1) = List.range l.length := sorted_ext (bitL_up _) List.pairwise_lt_range fun i => by rw [mem_all hn]; simp
        rw [this, List.length_range]
      have hyl := ext_len hE
      rintro (h | ⟨h, h'⟩)
      · omega
      · have := up_eq hz.up hz.mem hE.up hE.mem (by simpa using hlen) (by omega)
        rw [this] at h'
        exact lex_irr h'
  refine ⟨hE, ?_, fun zs hz hcz => ?_, fun zs hz hcz hl h => hk zs hz hcz (.inr ⟨hl, h⟩)⟩
  · rcases hy with rfl | h
    · exact hc
    · exact h
  · have := hk zs hz hcz
    by_cases e : zs.length < ys.length
    · exact absurd (.inl e) this
    · omega
theorem can_all {zs : List Nat} (hn : l.length ≤ 12) (h : Ext l.length 0 zs.length zs) (hc : CanE l T C err (outI zs)) : CanE l T C err (outI (bitL (2 ^ l.length - 1))) :=
  canE_mono hc fun i hi => by rw [mem_outI] at hi ⊢; exact (mem_all hn).2 (h.mem i hi).2
end

theorem lex_trans : ∀ {xs ys zs : List Nat}, lexLt xs ys → lexLt ys zs → lexLt xs zs
  | [], _, _, h, _ => by unfold lexLt at h; exact h.elim
  | _ :: _, [], _, h, _ => by unfold lexLt at h; exact h.elim
  | _ :: _, _ :: _, [], _, h => by unfold lexLt at h; exact h.elim
  | x :: r, y :: s, z :: t, h, h' => by
    unfold lexLt at h h' ⊢
    rcases h with h | ⟨rfl, h⟩
    · rcases h' with h' | ⟨rfl, _⟩
      · exact .inl (by omega)
      · exact .inl h
    · rcases h' with h' | ⟨rfl, h'⟩
      · exact .inl h'
      · exact .inr ⟨rfl, lex_trans h h'⟩
theorem less_trans {xs ys zs : List Nat} (h : lessL xs ys) (h' : lessL ys zs) : lessL xs zs := by
  unfold lessL at *
  rcases h with h | ⟨h1, h⟩
  · rcases h' with h' | ⟨h2, _⟩
    · exact .inl (by omega)
    · exact .inl (by omega)
  · rcases h' with h' | ⟨h2, h'⟩
    · exact .inl (by omega)
    · exact .inr ⟨by omega, lex_trans h h'⟩
theorem less_irr {xs : List Nat} : ¬ lessL xs xs := by
  rintro (h | ⟨_, h⟩)
  · omega
  · exact lex_irr h
theorem NMem.cells {w wr : World} {A : Option Addr} {n c : Nat} {T C : Int} (h : NMem w wr A n c T C) : wr.cell? ⟨w.heap.size, 0, none⟩ = some (.slice A n c) ∧ wr.cell? ⟨w.heap.size, 1, none⟩ = some (.int .i64 T) ∧ wr.cell? ⟨w.heap.size, 2, none⟩ = some (.int .i64 C) :=
  ⟨cell_of_block (j := 0) h.net rfl, cell_of_block (j := 1) h.net rfl, cell_of_block (j := 2) h.net rfl⟩
theorem less_true (w : World) (A B : Option Addr) (xs ys : List Nat) (c d : Nat) (h : lessL xs ys) (hA : IntsAt w A (outI xs)) (hB : IntsAt w B (outI ys)) (hl : xs.length ≤ 1000000) (hl2 : ys.length ≤ 1000000) :
    Calls Try.prog 62 #[.slice A xs.length c, .slice B ys.length d] w fun e w' => e = .returned (.bool true) ∧ Below w.heap.size w w' :=
  (less_quiet w A B xs ys c d true ⟨fun _ => h, fun _ => rfl⟩ hA hB hl hl2).mono fun _ _ ⟨h1, m, h2⟩ => ⟨h1, by rw [h2]; exact below_drewN (Below.refl w.heap.size w) m⟩
/-- What the reference's Leave returns. -/
def LeaveOut (w : World) (l : List Ang) (T C : Nat) (err : Int) (e : Ending) (w' : World) : Prop := Below w.heap.size w w' ∧ ∃ v b ys, e = .returned (.tuple #[v, .bool b]) ∧ w'.ownsRow w.heap.size 3 1 v ys.length (outV ys) ∧ (b = true → OutIs l T C err ys) ∧ (b = false → ∀ zs, Ext l.length 0 zs.length zs → ¬ CanE l T C err (outI zs))

set_option maxHeartbeats 8000000 in
set_option maxRecDepth 100000 in
theorem rleave_any (w : World) (A : Option Addr) (l : List Ang) (c : Nat) (T C : Nat) (err : Int) (hA : AngAt w A l) (hV : Valid l T C) (hE : 0 ≤ err ∧ err ≤ 40) :
    Calls Try.prog 57 #[.agg #[.slice A l.length c, .int .i64 T, .int .i64 C], .int .i64 err] w (LeaveOut w l T C err) := by
  have hM := NMem.made w A l.length c T C
  have hl12 := hV.len.2
  have hRa : ∀ b : Nat, RoomOk (rmLo l err (outI (bitL b)) l.length) (rmHi l err (outI (bitL b)) l.length) := fun b => rm_ok hV.reads hE
  obtain ⟨hwN, hbN⟩ := pow_spell (m := l.length) (by omega)
  have hpos : 0 < 2 ^ l.length := Nat.pow_pos (by omega)
  obtain ⟨M, hMe⟩ : ∃ M, M = 2 ^ l.length - 1 := ⟨_, rfl⟩
  have hMlt : M < 65536 := by omega
  have hw0 : wrap64 (wrap64 ((2 : Int) ^ l.length) - 1) = (M : Int) := by
    rw [hwN]
    clear hwN
    generalize 2 ^ l.length = x at *
    rw [show (x : Int) - 1 = (M : Int) by omega]
    unfold wrap64
    omega
  have hw1 := Lib.hid hw0
  clear hw0
  have HX : Hid (∀ b, b ≤ M → Ext l.length 0 (bitL b).length (bitL b)) := Lib.hid (fun b hb => bitL_ext (by omega))
  have HFin : Hid (∀ ys, CanE l T C err (outI (bitL M)) → Ext l.length 0 ys.length ys → (ys = bitL M ∨ CanE l T C err (outI ys)) → (∀ b, b < M → CanE l T C err (outI (bitL b)) → ¬ lessL (bitL b) ys) → OutIs l T C err ys) := Lib.hid (by rw [hMe]; exact fun ys a b c d => out_of hl12 a b c d)
  have HAll : Hid (∀ zs, Ext l.length 0 zs.length zs → CanE l T C err (outI zs) → CanE l T C err (outI (bitL M))) := Lib.hid (by rw [hMe]; exact fun zs h1 h2 => can_all hl12 h1 h2)
  clear hMe hwN hbN hpos
  go_enter Try.func57, Try.ntmps57
  go_wp2_with fail
  simp only [hw1.out]
  refine (bits_any _ M hMlt).mono ?_
  rintro e W1 ⟨hb1, v, rfl, hown⟩
  have hM1 := hM.step hb1
  have hown1 := ownsRow_mono hown hM.below.size
  have HO1 := Lib.hid hown1
  clear hM hb1 hown hown1 hw1
  go_wp2_with fail
  go_loopw [7, 8] (fun v t wr => ∃ (k : Nat) (ys : List Nat), k ≤ M ∧ t = .int .i64 k ∧ NMem w wr A l.length c T C ∧ Hid (Ext l.length 0 ys.length ys ∧ (ys = bitL M ∨ CanE l T C err (outI ys)) ∧ ∀ b, b < k → CanE l T C err (outI (bitL b)) → ¬ lessL (bitL b) ys) ∧ Hid (wr.ownsRow w.heap.size 3 1 v ys.length (outV ys))) (fun _ t _ => M - (intOf t).toNat)
  case atStart => exact ⟨0, bitL M, Nat.zero_le _, rfl, hM1, Lib.hid ⟨HX.out M (Nat.le_refl _), .inl rfl, fun b h => by omega⟩, HO1⟩
  case round =>
    clear hM1 HO1
    obtain ⟨k, ys, hk, rfl, hMr, hys, hown⟩ := hrel
    have hdr : Below wr.heap.size wr wr.drew := (Below.refl _ wr).drew
    by_cases hlt : k < M
    · have hylen := ext_len hys.out.1
      have hd : decide ((k : Int) < M) = true := decide_eq_true (by omega)
      have hklen := ext_len (HX.out k hk)
      go_wp2_with fail
      refine (bits_any _ k (by omega)).mono ?_
      rintro e W2 ⟨hb2, v2, rfl, how2⟩
      have hM2 := hMr.step hb2
      have how1 := ownsRow_below hown.out hb2 (Nat.le_refl _)
      have how2 := ownsRow_mono how2 hMr.below.size
      obtain ⟨B1, d1, e1, hI1⟩ := own_ints how1
      obtain ⟨B2, d2, e2, hI2⟩ := own_ints how2
      rw [outI_len] at e1 e2
      subst e1
      subst e2
      have H1 := Lib.hid how1
      have H2 := Lib.hid how2
      have hs2 := hM2.lt
      have hP : NMem w W2.drew A l.length c T C := hM2.step (Below.refl _ W2).drew
      have hd2 : Below W2.heap.size W2 W2.drew := (Below.refl _ W2).drew
      have c0 := cell_of_block (j := 0) (v := .slice A l.length c) hM2.net rfl
      have c1 := cell_of_block (j := 1) (v := .int .i64 T) hM2.net rfl
      have c2 := cell_of_block (j := 2) (v := .int .i64 C) hM2.net rfl
      clear hMr hb2 how1 how2 hown hdr
      by_cases hless : lessL (bitL k) ys
      · have HL := Lib.hid hless
        clear hless
        go_wp2_with fail
        go_region_held3 (fun w' => w'.cell? ⟨w.heap.size, 0, none⟩ = some (.slice A l.length c) ∧ w'.cell? ⟨w.heap.size, 1, none⟩ = some (.int .i64 T) ∧ w'.cell? ⟨w.heap.size, 2, none⟩ = some (.int .i64 C))
          ((first | exact hM5.cells | exact hM4.cells | exact hM3.cells | exact hP.cells | exact ⟨by assumption, by assumption, by assumption⟩))
          (first | (go_at_call 62; refine (less_true _ B2 B1 (bitL k) ys d2 d1 HL.out (hI2.below hd2) (hI1.below hd2) (by omega) (by omega)).mono ?_; rintro e W3 ⟨rfl, hb3⟩; have hM3 := hP.step hb3) | (go_at_call 30; refine (rrooms_any _ A l c T C err k (hA.below hM3.below) hl12 hE hV.reads).mono ?_; rintro e W4 ⟨hb4, R, dR, rfl, hRm, _⟩; have hM4 := hM3.step hb4) | (go_at_call 77; refine (rcan_any _ A R l c dR T C _ _ (hA.below hM4.below) hRm hl12 hV.net (hRa k)).mono ?_; rintro e W5 ⟨hb5, b, rfl, hb⟩; have HB : Hid (b = true ↔ CanE l T C err (outI (bitL k))) := Lib.hid hb; have hM5 := hM4.step hb5; clear hb))
        have hbw := hd2.trans ((hb3.trans ((hb4.trans (hb5.mono hb4.size)).mono hb3.size)).mono hd2.size)
        have H1' := Lib.hid (ownsRow_below H1.out hbw (Nat.le_refl _))
        have H2' := Lib.hid (ownsRow_below H2.out hbw (Nat.le_refl _))
        clear hP hM2 hM3 hM4 hb3 hb4 hb5 hbw c0 c1 c2 hRm hI1 hI2 hd2 H1 H2
        cases b with
        | true =>
          go_wp2_with fail
          go_roundw
          case rel =>
            refine ⟨k + 1, bitL k, by omega, by go_num, hM5, Lib.hid ⟨HX.out k hk, .inr (HB.out.1 rfl), fun b hb hc h => ?_⟩, H2'⟩
            by_cases e : b = k
            · subst e; exact less_irr h
            · exact hys.out.2.2 b (by omega) hc (less_trans h HL.out)
          case measure => simp [intOf]; omega
        | false =>
          go_wp2_with fail
          go_roundw
          case rel =>
            refine ⟨k + 1, ys, by omega, by go_num, hM5, Lib.hid ⟨hys.out.1, hys.out.2.1, fun b hb hc h => ?_⟩, H1'⟩
            by_cases e : b = k
            · subst e; exact absurd (HB.out.2 hc) (by simp)
            · exact hys.out.2.2 b (by omega) hc h
          case measure => simp [intOf]; omega
      · have HL := Lib.hid hless
        clear hless
        go_wp2_with fail
        go_quiet ((go_at_call 62; exact Calls.quiet_of (less_quiet _ B2 B1 (bitL k) ys d2 d1 false ⟨fun h => (by cases h), fun h => absurd h HL.out⟩ (hI2.below (below_drewN (Below.refl _ _) _)) (hI1.below (below_drewN (Below.refl _ _) _)) (by omega) (by omega))))
        have hbw : Below W2.heap.size W2 (W2.drewN nq) := below_drewN (Below.refl _ _) _
        have hM3 := hM2.step hbw
        have H1' := Lib.hid (ownsRow_below H1.out hbw (Nat.le_refl _))
        clear hP hM2 hbw c0 c1 c2 hI1 hI2 hd2 H1 H2
        go_wp2_with fail
        go_roundw
        case rel =>
          refine ⟨k + 1, ys, by omega, by go_num, hM3, Lib.hid ⟨hys.out.1, hys.out.2.1, fun b hb hc h => ?_⟩, H1'⟩
          by_cases e : b = k
          · subst e; exact absurd h HL.out
          · exact hys.out.2.2 b (by omega) hc h
        case measure => simp [intOf]; omega
    · obtain rfl : k = M := by omega
      have hP : NMem w wr.drew A l.length c T C := hMr.step hdr
      have c0 := cell_of_block (j := 0) (v := .slice A l.length c) hMr.net rfl
      have c1 := cell_of_block (j := 1) (v := .int .i64 T) hMr.net rfl
      have c2 := cell_of_block (j := 2) (v := .int .i64 C) hMr.net rfl
      have hs := hMr.lt
      go_wp2_with fail
      go_region_held3 (fun w' => w'.cell? ⟨w.heap.size, 0, none⟩ = some (.slice A l.length c) ∧ w'.cell? ⟨w.heap.size, 1, none⟩ = some (.int .i64 T) ∧ w'.cell? ⟨w.heap.size, 2, none⟩ = some (.int .i64 C))
        ((first | exact hM5.cells | exact hM4.cells | exact hP.cells | exact ⟨by assumption, by assumption, by assumption⟩))
        (first | (go_at_call 30; refine (rrooms_any _ A l c T C err k (hA.below hP.below) hl12 hE hV.reads).mono ?_; rintro e W4 ⟨hb4, R, dR, rfl, hRm, _⟩; have hM4 := hP.step hb4) | (go_at_call 77; refine (rcan_any _ A R l c dR T C _ _ (hA.below hM4.below) hRm hl12 hV.net (hRa k)).mono ?_; rintro e W5 ⟨hb5, b, rfl, hb⟩; have HB : Hid (b = true ↔ CanE l T C err (outI (bitL k))) := Lib.hid hb; have hM5 := hM4.step hb5; clear hb))
      have hbw := hdr.trans ((hb4.trans (hb5.mono hb4.size)).mono hdr.size)
      have how := ownsRow_below hown.out hbw (Nat.le_refl _)
      go_wp2_with fail
      refine bodyPost_ret (v := .tuple #[u7, .bool b]) (by simp [results, Try.results57, go_sem]) rfl ?_
      refine ⟨hM5.below, _, b, ys, rfl, how, fun h => HFin.out ys (HB.out.1 h) hys.out.1 hys.out.2.1 hys.out.2.2, fun h zs hz hc => ?_⟩
      have := HB.out.2 (HAll.out zs hz hc)
      rw [h] at this
      cases this
end Go.Proofs.Ytnhbplnhhloklaa

/- Contract of the law's inside; what more error does. -/
namespace Go.Proofs.Ytnhbplnhhloklaa
open Go.RowKit

set_option maxHeartbeats 4000000 in
theorem inside_any (w : World) (A B : Option Addr) (xs ys : List Int) (c d : Nat) (hA : IntsAt w A xs) (hB : IntsAt w B ys) (hl : xs.length ≤ 1000000) (hl2 : ys.length ≤ 1000000) :
    Calls Try.prog 60 #[.slice A xs.length c, .slice B ys.length d] w (BoolIff (∀ x ∈ xs, x ∈ ys) w) := by
  go_enter Try.func60, Try.ntmps60
  go_wp2_with fail
  go_loopw [5] (fun t wr => ∃ k m : Nat, k ≤ xs.length ∧ t = .int .i64 k ∧ wr = w.drewN m ∧ Hid (∀ x ∈ xs.take k, x ∈ ys)) (fun t _ => xs.length - (intOf t).toNat)
  case atStart => exact ⟨0, 0, Nat.zero_le _, rfl, rfl, Lib.hid (by simp)⟩
  case round =>
    obtain ⟨k, m, hk, rfl, rfl, hin⟩ := hrel
    by_cases hlt : k < xs.length
    · obtain ⟨x, hx⟩ : ∃ x, xs[k]? = some x := ⟨xs[k], by simp [hlt]⟩
      obtain ⟨b1, o1, rfl, hb1, hc1⟩ := hA k x hx
      have hTx := Lib.hid (take_step hx)
      have hk0 : (0 : Int) ≤ k := by omega
      have hk1 : (k : Int) < xs.length := by omega
      have HX := Lib.hid (List.mem_of_getElem? hx)
      clear hx
      go_wp2_with fail
      go_loopw [6, 7] (fun f t wr => ∃ j q : Nat, j ≤ ys.length ∧ t = .int .i64 j ∧ f = .bool (decide (x ∈ ys.take j)) ∧ wr = w.drewN q) (fun _ t _ => ys.length - (intOf t).toNat)
      case atStart => exact ⟨0, m, Nat.zero_le _, rfl, by simp, rfl⟩
      case round =>
        obtain ⟨j, q, hj, rfl, rfl, rfl⟩ := hrel
        by_cases hlj : j < ys.length
        · obtain ⟨y, hy⟩ : ∃ y, ys[j]? = some y := ⟨ys[j], by simp [hlj]⟩
          obtain ⟨b2, o2, rfl, hb2, hc2⟩ := hB j y hy
          have hTy := Lib.hid (take_step hy)
          have hj0 : (0 : Int) ≤ j := by omega
          have hj1 : (j : Int) < ys.length := by omega
          clear hy
          by_cases hf : x ∈ ys.take j
          · have hd : decide (x ∈ ys.take j) = true := decide_eq_true hf
            have HN : Hid (decide (x ∈ ys.take (j + 1)) = true) := Lib.hid (decide_eq_true (by rw [hTy.out, List.mem_append]; exact .inl hf))
            rw [hd]
            clear hf hd
            go_wp2_with fail
            go_quiet (fail)
            go_wp2_with fail
            go_roundw
            case rel => exact ⟨j + 1, q + nq, by omega, by go_num, by rw [HN.out], rfl⟩
            case measure => simp [intOf]; omega
          · have hd : decide (x ∈ ys.take j) = false := decide_eq_false hf
            have HN : Hid (decide (x ∈ ys.take (j + 1)) = (y == x)) := Lib.hid (by
              rw [Bool.eq_iff_iff, hTy.out]
              simp only [decide_eq_true_eq, List.mem_append, List.mem_singleton, beq_iff_eq]
              constructor
              · rintro (h | h)
                · exact absurd h hf
                · exact h.symm
              · exact fun h => .inr h.symm)
            rw [hd]
            clear hf hd
            go_wp2_with fail
            go_quiet (fail)
            go_wp2_with fail
            go_roundw
            case rel => exact ⟨j + 1, q + nq, by omega, by go_num, by rw [HN.out], rfl⟩
            case measure => simp [intOf]; omega
        · obtain rfl : j = ys.length := by omega
          rw [List.take_of_length_le (Nat.le_refl ys.length)]
          by_cases hf : x ∈ ys
          · have hd : decide (x ∈ ys) = true := decide_eq_true hf
            have HN : Hid (∀ z ∈ xs.take (k + 1), z ∈ ys) := Lib.hid (fun z hz => by
              rw [hTx.out, List.mem_append, List.mem_singleton] at hz
              rcases hz with hz | rfl
              · exact hin.out z hz
              · exact hf)
            rw [hd]
            clear hf hd
            go_wp2_with fail
            go_roundw
            case rel => exact ⟨k + 1, q, by omega, by go_num, rfl, HN⟩
            case measure => simp [intOf]; omega
          · have hd : decide (x ∈ ys) = false := decide_eq_false hf
            have HN : Hid (¬ ∀ z ∈ xs, z ∈ ys) := Lib.hid (fun h => hf (h x HX.out))
            rw [hd]
            clear hf hd
            go_wp2_with fail
            go_ret
            exact .no (below_drewN (Below.refl _ _) _) HN.out
    · have HN : Hid (∀ z ∈ xs, z ∈ ys) := Lib.hid (by
        have h := hin.out
        rwa [List.take_of_length_le (by omega)] at h)
      go_wp2_with fail
      go_ret
      exact .yes (below_drewN (Below.refl _ _) _) HN.out

section
variable {l : List Ang} {T C : Nat} {e e' : Int} {out : List Int}
theorem rm_mono (hr : ∀ a ∈ l, ReadOk a) (h : e ≤ e') (i : Nat) (hi : i < l.length) : rmLo l e' out l.length i ≤ rmLo l e out l.length i ∧ rmHi l e out l.length i ≤ rmHi l e' out l.length i := by
  have ha : l[i]? = some l[i] := by simp
  have hw : 0 ≤ l[i].w := by have := hr l[i] (by simp); unfold ReadOk at this; omega
  have hm := Int.mul_le_mul_of_nonneg_right h hw
  simp only [rmLo, rmHi, hi, if_true, ha]
  split
  · omega
  · unfold rLo rHi
    generalize e * l[i].w = x at *
    generalize e' * l[i].w = y at *
    omega
theorem canE_err (hr : ∀ a ∈ l, ReadOk a) (h : e ≤ e') (hc : CanE l T C e out) : CanE l T C e' out := can_mono hc fun i hi => rm_mono hr h i hi
theorem canE_all (hn : l.length ≤ 12) : CanE l T C e (outI (bitL (2 ^ l.length - 1))) → CanE l T C e' (outI (bitL (2 ^ l.length - 1))) := fun h => can_mono h fun i hi => by
  have ha : l[i]? = some l[i] := by simp
  have hm : (i : Int) ∈ outI (bitL (2 ^ l.length - 1)) := by rw [mem_outI, mem_all hn]; exact hi
  simp only [rmLo, rmHi, hi, if_true, ha, hm]
  omega
theorem ends_wide {lo hi lo' hi' : Nat → Int} {i : Nat} {a b a' b' : Int} (h : EndsAre l T C lo hi i a b) (h' : EndsAre l T C lo' hi' i a' b') (hle : ∀ j, j < l.length → lo' j ≤ lo j ∧ hi j ≤ hi' j) (hi0 : i < l.length) : a' ≤ a ∧ b ≤ b' := by
  have key : ∀ x, Can l T C (setAt lo i x) (setAt hi i x) → Can l T C (setAt lo' i x) (setAt hi' i x) := fun x hx => can_mono hx fun j hj => by
    unfold setAt
    by_cases e : j = i
    · rw [if_pos e, if_pos e, if_pos e, if_pos e]; omega
    · rw [if_neg e, if_neg e, if_neg e, if_neg e]; exact hle j hj
  have hi1 := hle i hi0
  constructor
  · by_cases e : a < a'
    · exact absurd (key a h.ca) (h'.na a (by have := h.a0; omega) e)
    · omega
  · by_cases e : b' < b
    · exact absurd (key b h.cb) (h'.nb b e (by have := h.b0; omega))
    · omega
theorem ctl_mono (hr : ∀ a ∈ l, ReadOk a) (h : e ≤ e') (he' : 0 ≤ e' ∧ e' ≤ 40) (hc : CanE l T C e []) {i : Nat} (hi : i < l.length) (hC : Ctl l T C e' i) : Ctl l T C e i := by
  obtain ⟨x', y', h1, h2⟩ := hC
  obtain ⟨x, y, h3⟩ := ends_exist (lo := rmLo l e [(i : Int)] l.length) (hi := rmHi l e [(i : Int)] l.length) hi (canE_out hc)
  refine ⟨x, y, h3, fun h4 => h2 ?_⟩
  have hw := ends_wide h3 h1 (fun j hj => rm_mono hr h j hj) hi
  have hR := rm_ok (out := [(i : Int)]) (k := l.length) hr he'
  have a1 := hR.lo0 i
  have a2 := hR.hi0 i
  have a3 := h1.a0
  have a4 := h1.b0
  omega
theorem leave_iff (hn : l.length ≤ 12) {ys : List Nat} (h : OutIs l T C e ys) : ¬ ∀ zs, Ext l.length 0 zs.length zs → ¬ CanE l T C e' (outI zs) := fun hz =>
  hz _ (bitL_ext (b := 2 ^ l.length - 1) (by have : 0 < 2 ^ l.length := Nat.pow_pos (by omega); omega)) (canE_all hn (can_all hn h.ext h.can))
theorem leave_short (hr : ∀ a ∈ l, ReadOk a) (h : e ≤ e') {ys zs : List Nat} (hy : OutIs l T C e ys) (hz : OutIs l T C e' zs) : zs.length ≤ ys.length := hz.short ys hy.ext (canE_err hr h hy.can)
theorem leave_none {ys : List Nat} (hy : OutIs l T C e ys) : CanE l T C e [] ↔ ys = [] := by
  constructor
  · intro h
    have := hy.short [] ⟨rfl, .nil, by simp⟩ h
    exact List.length_eq_zero_iff.1 (by simpa using this)
  · rintro rfl
    exact hy.can
end
end Go.Proofs.Ytnhbplnhhloklaa

/- Nets copied and changed in memory; nets of one shape. -/
namespace Go.Proofs.Ytnhbplnhhloklaa
open Go.RowKit

theorem elem22 : Elem 22 74 4 32 (.agg #[.int .i64 0, .int .i64 0, .int .i64 0, .int .i64 0]) := ⟨by kernel_rfl, elem_info (by kernel_rfl), rfl, by decide, by decide⟩
/-- An angle with another field. -/
def Ang.put (a : Ang) (j : Nat) (x : Int) : Ang := if j = 0 then { a with t := x } else if j = 1 then { a with c := x } else if j = 2 then { a with r := x } else { a with w := x }
theorem ang_cells {W : World} {b o : Nat} {l : List Ang} (h : AngAt W (some ⟨b, o, none⟩) l) : ∀ j u, (angL l)[j]? = some u → W.cell? ((⟨b, o, none⟩ : Addr).add j) = some u := by
  intro j u hj
  have hlt : j < l.length * 4 := by have := (List.getElem?_eq_some_iff.1 hj).1; rwa [angL_len] at this
  have hl4 : j / 4 < l.length := by omega
  have hi : l[j / 4]? = some l[j / 4] := List.getElem?_eq_getElem hl4
  obtain ⟨b', o', e, _, h0, h1, h2, h3⟩ := h (j / 4) _ hi
  cases e
  have hf : (angL l)[j / 4 * 4 + j % 4]? = _ := flat_at l (j / 4) _ hi (j % 4) (by omega)
  rw [show j / 4 * 4 + j % 4 = j by omega, hj] at hf
  rw [addr_add]
  have hr : j % 4 = 0 ∨ j % 4 = 1 ∨ j % 4 = 2 ∨ j % 4 = 3 := by omega
  rcases hr with e | e | e | e
  · rw [e] at hf; cases hf; rw [show o + j = o + j / 4 * 4 by omega]; exact h0
  · rw [e] at hf; cases hf; rw [show o + j = o + j / 4 * 4 + 1 by omega]; exact h1
  · rw [e] at hf; cases hf; rw [show o + j = o + j / 4 * 4 + 2 by omega]; exact h2
  · rw [e] at hf; cases hf; rw [show o + j = o + j / 4 * 4 + 3 by omega]; exact h3
theorem angL_one (l : List Ang) : ∀ u ∈ angL l, u.oneCell' = true := by
  intro u hu
  unfold angL at hu
  obtain ⟨a, _, ha⟩ := List.mem_flatMap.1 hu
  simp only [List.mem_cons, List.not_mem_nil, or_false] at ha
  rcases ha with rfl | rfl | rfl | rfl <;> rfl
theorem AngAt.put {W : World} {b o : Nat} {l : List Ang} {i j : Nat} {a : Ang} {x : Int} (h : AngAt W (some ⟨b, o, none⟩) l) (hi : l[i]? = some a) (hj : j < 4) : AngAt (W.setCell ⟨b, o + i * 4 + j, none⟩ (.int .i64 x)) (some ⟨b, o, none⟩) (l.set i (a.put j x)) := by
  have hil := (List.getElem?_eq_some_iff.1 hi).1
  have hoth : ∀ q v, q ≠ o + i * 4 + j → W.cell? ⟨b, q, none⟩ = some v → (W.setCell ⟨b, o + i * 4 + j, none⟩ (.int .i64 x)).cell? ⟨b, q, none⟩ = some v := fun q v hq hc => by
    refine Eq.trans ?_ hc
    apply World.cell?_setCell_other
    intro e
    injection e with _ e2 _
    exact hq e2.symm
  have hsame : ∀ v, W.cell? ⟨b, o + i * 4 + j, none⟩ = some v → (W.setCell ⟨b, o + i * 4 + j, none⟩ (.int .i64 x)).cell? ⟨b, o + i * 4 + j, none⟩ = some (.int .i64 x) := fun v hc => by
    apply World.cell?_setCell_same
    exact hc
  intro k an hk
  by_cases e : k = i
  · subst e
    rw [List.getElem?_set_self hil] at hk
    cases hk
    obtain ⟨b', o', e, hb, h0, h1, h2, h3⟩ := h k a hi
    cases e
    refine ⟨b, o, rfl, by simp [World.setCell]; exact hb, ?_⟩
    have hr : j = 0 ∨ j = 1 ∨ j = 2 ∨ j = 3 := by omega
    rcases hr with rfl | rfl | rfl | rfl
    · exact ⟨hsame _ h0, hoth _ _ (by omega) h1, hoth _ _ (by omega) h2, hoth _ _ (by omega) h3⟩
    · exact ⟨hoth _ _ (by omega) h0, hsame _ h1, hoth _ _ (by omega) h2, hoth _ _ (by omega) h3⟩
    · exact ⟨hoth _ _ (by omega) h0, hoth _ _ (by omega) h1, hsame _ h2, hoth _ _ (by omega) h3⟩
    · exact ⟨hoth _ _ (by omega) h0, hoth _ _ (by omega) h1, hoth _ _ (by omega) h2, hsame _ h3⟩
  · rw [List.getElem?_set_ne (Ne.symm e)] at hk
    obtain ⟨b', o', e', hb, h0, h1, h2, h3⟩ := h k an hk
    cases e'
    have hd : k * 4 + 3 < i * 4 ∨ i * 4 + 3 < k * 4 := by omega
    exact ⟨b, o, rfl, by simp [World.setCell]; exact hb, hoth _ _ (by omega) h0, hoth _ _ (by omega) h1, hoth _ _ (by omega) h2, hoth _ _ (by omega) h3⟩

/-- A net and its changed copy in memory. -/
structure KMem (w wr : World) (A : Option Addr) (n c : Nat) (T C : Int) (p g cap : Nat) (l : List Ang) : Prop where
  net : NMem w wr A n c T C
  ord : w.heap.size < p ∧ w.heap.size < g ∧ p ≠ g
  cop : wr.heap[p]? = some (.cells #[.slice (some ⟨g, 0, none⟩) l.length cap, .int .i64 T, .int .i64 C] 24 (0, 0))
  row : AngAt wr (some ⟨g, 0, none⟩) l
  blk : ∃ cur, wr.heap[g]? = some (.cells cur 74 (0, 0))
section
variable {w wr w' : World} {A : Option Addr} {n c : Nat} {T C : Int} {p g cap : Nat} {l : List Ang}
theorem KMem.step (h : KMem w wr A n c T C p g cap l) (hb : Below wr.heap.size wr w') : KMem w w' A n c T C p g cap l := by
  obtain ⟨cur, hc⟩ := h.blk
  exact ⟨h.net.step hb, h.ord, (hb.block _ (Array.getElem?_eq_some_iff.1 h.cop).1).trans h.cop, h.row.below hb, cur, (hb.block _ (Array.getElem?_eq_some_iff.1 hc).1).trans hc⟩
theorem KMem.put (h : KMem w wr A n c T C p g cap l) {i j : Nat} {a : Ang} (x : Int) (hi : l[i]? = some a) (hj : j < 4) : KMem w (wr.setCell ⟨g, i * 4 + j, none⟩ (.int .i64 x)) A n c T C p g cap (l.set i (a.put j x)) := by
  obtain ⟨cur, hc⟩ := h.blk
  have ho := h.ord
  have e : ∀ b, b ≠ g → (wr.setCell ⟨g, i * 4 + j, none⟩ (.int .i64 x)).heap[b]? = wr.heap[b]? := fun b hb => Below.heap_setCell _ _ _ _ hb
  have hr := h.row.put (x := x) hi hj
  rw [Nat.zero_add] at hr
  refine ⟨⟨h.net.below.setCell (by show w.heap.size ≤ g; omega) _, (e _ (by omega)).trans h.net.net⟩, ho, ?_, hr, _, heap_setCell_self hc _⟩
  rw [List.length_set]
  exact (e _ ho.2.2).trans h.cop
theorem KMem.cells (h : KMem w wr A n c T C p g cap l) : wr.cell? ⟨p, 0, none⟩ = some (.slice (some ⟨g, 0, none⟩) l.length cap) ∧ wr.cell? ⟨p, 1, none⟩ = some (.int .i64 T) ∧ wr.cell? ⟨p, 2, none⟩ = some (.int .i64 C) :=
  ⟨cell_of_block (j := 0) h.cop rfl, cell_of_block (j := 1) h.cop rfl, cell_of_block (j := 2) h.cop rfl⟩
theorem KMem.ang (h : KMem w wr A n c T C p g cap l) {i : Nat} {a : Ang} (hi : l[i]? = some a) : wr.cell? ⟨g, i * 4, none⟩ = some (.int .i64 a.t) ∧ wr.cell? ⟨g, i * 4 + 1, none⟩ = some (.int .i64 a.c) ∧ wr.cell? ⟨g, i * 4 + 2, none⟩ = some (.int .i64 a.r) ∧ wr.cell? ⟨g, i * 4 + 3, none⟩ = some (.int .i64 a.w) := by
  obtain ⟨b, o, e, _, h0, h1, h2, h3⟩ := h.row i a hi
  cases e
  rw [Nat.zero_add] at h0 h1 h2 h3
  exact ⟨h0, h1, h2, h3⟩
theorem KMem.free (h : KMem w wr A n c T C p g cap l) (k : Nat) : wr.frozen? ⟨g, k, none⟩ = false := by
  obtain ⟨cur, hc⟩ := h.blk
  exact free_of_block hc
theorem KMem.made {W w1 : World} (hM : NMem w W A n c T C) (how : w1.ownsRow (W.heap.size + 1) 74 4 (.slice (some ⟨g, 0, none⟩) l.length cap) l.length (angL l)) (hb : Below (W.heap.size + 1) ((W.alloc (.cells #[.slice A n c, .int .i64 T, .int .i64 C] 24)).alloc (.cells #[] 74)) w1) :
    KMem w (w1.setCell ⟨W.heap.size, 0, none⟩ (.slice (some ⟨g, 0, none⟩) l.length cap)) A n c T C W.heap.size g cap l := by
  obtain ⟨cur, hg, hgb⟩ := own_block how
  obtain ⟨_, B, d, he, hrow, hrb⟩ := own_ang how
  cases he
  have hcop : w1.heap[W.heap.size]? = some (.cells #[.slice A n c, .int .i64 T, .int .i64 C] 24 (0, 0)) := (hb.block _ (Nat.lt_succ_self _)).trans (past_alloc (at_alloc rfl))
  have hal : Below W.heap.size W ((W.alloc (.cells #[.slice A n c, .int .i64 T, .int .i64 C] 24)).alloc (.cells #[] 74)) := ((Below.refl _ W).alloc (Nat.le_refl _) _).alloc (by simp) _
  have h1 : Below W.heap.size W w1 := hal.trans (hb.mono (Nat.le_succ _))
  have hN := hM.step (h1.setCell (p := ⟨W.heap.size, 0, none⟩) (Nat.le_refl _) (.slice (some ⟨g, 0, none⟩) l.length cap))
  have hk : Keep (fun q => q = W.heap.size) w1 (w1.setCell ⟨W.heap.size, 0, none⟩ (.slice (some ⟨g, 0, none⟩) l.length cap)) := (Keep.refl (fun q => q = W.heap.size) w1).setCell (p := ⟨W.heap.size, 0, none⟩) (.inl rfl) _
  have hlt := hM.lt
  refine ⟨hN, ⟨hlt, by omega, by omega⟩, ?_, hrow.keep hk (fun b o e => by cases e; omega), cur, ?_⟩
  · rw [heap_setCell_self hcop]
    rfl
  · rw [Below.heap_setCell _ _ _ _ (by show g ≠ W.heap.size; omega)]; exact hg
end

section
variable {l l' : List Ang} {T C : Nat} {lo hi : Nat → Int}
/-- Nets of one shape: the same angles, maybe read otherwise. -/
structure Shape (l l' : List Ang) : Prop where
  len : l'.length = l.length
  f : ∀ i, fI l' i = fI l i
  t : ∀ i, tI l' i = tI l i
theorem can_shape (h : Shape l l') : Can l T C lo hi → Can l' T C lo hi := by
  rintro ⟨x, h1, h2⟩
  refine ⟨x, fun i hi => h1 i (by rw [← h.len]; exact hi), fun u hu => ?_⟩
  rw [h.len]
  simp only [h.f, h.t]
  exact h2 u hu
theorem Shape.symm (h : Shape l l') : Shape l' l := ⟨h.len.symm, fun i => (h.f i).symm, fun i => (h.t i).symm⟩
theorem shape_set {i : Nat} {a a' : Ang} (hi : l[i]? = some a) (ht : a'.t = a.t) (hc : a'.c = a.c) : Shape l (l.set i a') := by
  have hil := (List.getElem?_eq_some_iff.1 hi).1
  refine ⟨List.length_set, fun k => ?_, fun k => ?_⟩
  · unfold fI
    by_cases e : k = i
    · subst e; rw [List.getElem?_set_self hil, hi]; simp only [frN, ht]
    · rw [List.getElem?_set_ne (Ne.symm e)]
  · unfold tI
    by_cases e : k = i
    · subst e; rw [List.getElem?_set_self hil, hi]; simp only [toN, hc]
    · rw [List.getElem?_set_ne (Ne.symm e)]
theorem can40 (hr : ∀ a ∈ l, ReadOk a) (hr' : ∀ a ∈ l', ReadOk a) (hs : Shape l l') (h : CanE l T C 40 []) : CanE l' T C 40 [] :=
  can_mono (can_shape hs h) fun i hi => by
    have hi2 : i < l.length := by rw [← hs.len]; exact hi
    have ha : l[i]? = some l[i] := by simp [hi2]
    have ha' : l'[i]? = some l'[i] := by simp
    have k1 := hr l[i] (by simp)
    have k2 := hr' l'[i] (by simp)
    unfold ReadOk at k1 k2
    rw [hs.len]
    simp only [rmLo, rmHi, hi2, if_true, ha, ha', List.not_mem_nil, if_false, rLo, rHi]
    omega
end
end Go.Proofs.Ytnhbplnhhloklaa
