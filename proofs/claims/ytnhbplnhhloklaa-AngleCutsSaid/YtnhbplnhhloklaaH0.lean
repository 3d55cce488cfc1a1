/- Contract of the reference's Proves. -/
import Derived.Test.YtnhbplnhhloklaaE7
namespace Go.Proofs.Ytnhbplnhhloklaa
open Go.RowKit

theorem rrising_yes (w : World) (A : Option Addr) (l : List Int) (c : Nat) (m : Int) (hA : IntsAt w A l) (hl : l.length ≤ 100000) (hm : 0 ≤ m ∧ m ≤ 5) (h : Hid (Rising l m)) :
    Calls Try.prog 74 #[.slice A l.length c, .int .i64 m] w fun e w' => Below w.heap.size w w' ∧ e = .returned (.bool true) := by
  refine (rrising_any w A l c m hA hl hm).mono ?_
  rintro e w' ⟨hb, b, rfl, hbb⟩
  obtain rfl : b = true := hbb.2 h.out
  exact ⟨hb, rfl⟩
theorem rrising_no (w : World) (A : Option Addr) (l : List Int) (c : Nat) (m : Int) (hA : IntsAt w A l) (hl : l.length ≤ 100000) (hm : 0 ≤ m ∧ m ≤ 5) (h : Hid (¬ Rising l m)) :
    Calls Try.prog 74 #[.slice A l.length c, .int .i64 m] w fun e w' => Below w.heap.size w w' ∧ e = .returned (.bool false) := by
  refine (rrising_any w A l c m hA hl hm).mono ?_
  rintro e w' ⟨hb, b, rfl, hbb⟩
  cases b with
  | false => exact ⟨hb, rfl⟩
  | true => exact absurd (hbb.1 rfl) h.out

/-- The memory of Proves. -/
structure PvMem (w wr : World) (A : Option Addr) (n c : Nat) (T C : Int) (P Q : Value) : Prop where
  net : NMem w wr A n c T C
  cut : wr.heap[w.heap.size + 1]? = some (.cells #[P, Q] 27 (0, 0))
theorem PvMem.step {w wr w' : World} {A : Option Addr} {n c : Nat} {T C : Int} {P Q : Value} (h : PvMem w wr A n c T C P Q) (hb : Below wr.heap.size wr w') : PvMem w w' A n c T C P Q :=
  ⟨h.net.step hb, (hb.block _ (Array.getElem?_eq_some_iff.1 h.cut).1).trans h.cut⟩

set_option maxHeartbeats 4000000 in
set_option maxRecDepth 100000 in
theorem rproves_any (w : World) (A P Q : Option Addr) (l : List Ang) (ts cs : List Int) (c c1 c2 : Nat) (T C : Nat) (err : Int) (hA : AngAt w A l) (hV : Valid l T C) (hE : 0 ≤ err ∧ err ≤ 40) (hP : IntsAt w P ts) (hQ : IntsAt w Q cs) (hlt : ts.length ≤ 1000) (hlc : cs.length ≤ 1000) :
    Calls Try.prog 31 #[.agg #[.slice A l.length c, .int .i64 T, .int .i64 C], .int .i64 err, .agg #[.slice P ts.length c1, .slice Q cs.length c2]] w (BoolIff (Rising ts T ∧ Rising cs C ∧ ProvesL l ts cs (rmLo l err [] l.length) (rmHi l err [] l.length)) w) := by
  have hM : PvMem w ((w.alloc (.cells #[.slice A l.length c, .int .i64 T, .int .i64 C] 24)).alloc (.cells #[.slice P ts.length c1, .slice Q cs.length c2] 27)) A l.length c T C (.slice P ts.length c1) (.slice Q cs.length c2) :=
    ⟨⟨((Below.refl _ w).alloc (Nat.le_refl _) _).alloc (by simp) _, past_alloc (at_alloc rfl)⟩, at_alloc (by simp)⟩
  have hN := hV.net
  have hR := rm_ok (out := []) (k := l.length) hV.reads hE
  have hl12 := hV.len.2
  have hT : 0 ≤ (T : Int) ∧ (T : Int) ≤ 5 := by have := hN.hT; omega
  have hC : 0 ≤ (C : Int) ∧ (C : Int) ≤ 5 := by have := hN.hC; omega
  by_cases r1 : Rising ts T
  · have HR1 := Lib.hid r1
    by_cases r2 : Rising cs C
    · have HR2 := Lib.hid r2
      have HDef := Lib.hid (provesL_iff (lo := rmLo l err [] l.length) (hi := rmHi l err [] l.length) hN r1 r2)
      have hm1 : ∀ x ∈ ts, 0 ≤ x ∧ x ≤ 4 := fun x hx => by have := r1.mem hx; omega
      have hm2 : ∀ x ∈ cs, 0 ≤ x ∧ x ≤ 4 := fun x hx => by have := r2.mem hx; omega
      have HO1 := Lib.hid (orL_mem (fun x hx => (hm1 x hx).1))
      have HO2 := Lib.hid (orL_mem (fun x hx => (hm2 x hx).1))
      clear r1 r2
      go_enter Try.func31, Try.ntmps31
      go_wp2_with fail
      generalize (w.alloc (.cells #[.slice A l.length c, .int .i64 T, .int .i64 C] 24)).alloc (.cells #[.slice P ts.length c1, .slice Q cs.length c2] 27) = W0 at *
      have n1 := cell_of_block (j := 1) (v := .int .i64 T) hM.net.net rfl
      have p0 := cell_of_block (j := 0) (v := .slice P ts.length c1) hM.cut rfl
      go_wp2_with fail
      refine (rrising_yes _ P ts c1 T (hP.below hM.net.below) (by omega) hT HR1).mono ?_
      rintro e W1 ⟨hb1, rfl⟩
      have hM1 := hM.step hb1
      clear hM hb1 n1 p0
      have n2 := cell_of_block (j := 2) (v := .int .i64 C) hM1.net.net rfl
      have p1 := cell_of_block (j := 1) (v := .slice Q cs.length c2) hM1.cut rfl
      go_wp2_with fail
      refine (rrising_yes _ Q cs c2 C (hQ.below hM1.net.below) (by omega) hC HR2).mono ?_
      rintro e W2 ⟨hb2, rfl⟩
      have hM2 := hM1.step hb2
      clear hM1 hb2 n2 p1
      have p0 := cell_of_block (j := 0) (v := .slice P ts.length c1) hM2.cut rfl
      have p1 := cell_of_block (j := 1) (v := .slice Q cs.length c2) hM2.cut rfl
      go_wp2_with fail
      go_loop [7, 9] (fun x t => ∃ k : Nat, k ≤ ts.length ∧ t = .int .i64 k ∧ x = .int .i64 (orL (ts.take k))) (fun _ t => ts.length - (intOf t).toNat)
      case atStart => exact ⟨0, Nat.zero_le _, rfl, rfl⟩
      case round =>
        obtain ⟨k, hk, rfl, rfl⟩ := hrel
        by_cases hlk : k < ts.length
        · obtain ⟨x, hx⟩ : ∃ x, ts[k]? = some x := ⟨ts[k], by simp [hlk]⟩
          obtain ⟨b, o, rfl, hb, hc⟩ := hP.below hM2.net.below k x hx
          have hx4 := hm1 x (List.mem_of_getElem? hx)
          have HT := Lib.hid (by rw [take_step hx, orL_snoc] : orL (ts.take (k + 1)) = orL (ts.take k) ||| 2 ^ x.toNat)
          have ho := orL_lt (xs := ts.take k) (fun y hy => hm1 y (List.mem_of_mem_take hy))
          obtain ⟨hwx, hbx⟩ := pow_spell (m := x.toNat) (by omega)
          have hor := i64_or_nat (orL (ts.take k)) (2 ^ x.toNat) (by omega) (by omega)
          clear hx
          go_wp2_with fail
          go_round
          case rel => exact ⟨k + 1, by omega, by go_num, by rw [HT.out, ← hor]; simp⟩
          case measure => simp [intOf]; omega
        · obtain rfl : k = ts.length := by omega
          rw [List.take_length]
          go_wp2_with fail
          go_loop [8, 10] (fun x t => ∃ k : Nat, k ≤ cs.length ∧ t = .int .i64 k ∧ x = .int .i64 (orL (cs.take k))) (fun _ t => cs.length - (intOf t).toNat)
          case atStart => exact ⟨0, Nat.zero_le _, rfl, rfl⟩
          case round =>
            obtain ⟨k, hk, rfl, rfl⟩ := hrel
            by_cases hlk : k < cs.length
            · obtain ⟨x, hx⟩ : ∃ x, cs[k]? = some x := ⟨cs[k], by simp [hlk]⟩
              obtain ⟨b, o, rfl, hb, hc⟩ := hQ.below hM2.net.below k x hx
              have hx4 := hm2 x (List.mem_of_getElem? hx)
              have HT := Lib.hid (by rw [take_step hx, orL_snoc] : orL (cs.take (k + 1)) = orL (cs.take k) ||| 2 ^ x.toNat)
              have ho := orL_lt (xs := cs.take k) (fun y hy => hm2 y (List.mem_of_mem_take hy))
              obtain ⟨hwx, hbx⟩ := pow_spell (m := x.toNat) (by omega)
              have hor := i64_or_nat (orL (cs.take k)) (2 ^ x.toNat) (by omega) (by omega)
              clear hx
              go_wp2_with fail
              go_round
              case rel => exact ⟨k + 1, by omega, by go_num, by rw [HT.out, ← hor]; simp⟩
              case measure => simp [intOf]; omega
            · obtain rfl : k = cs.length := by omega
              rw [List.take_length]
              have hs1 := hM2.net.lt
              have hb1 := hM2.net.below
              have c0 := cell_of_block (j := 0) (v := .slice A l.length c) hM2.net.net rfl
              have c1' := cell_of_block (j := 1) (v := .int .i64 T) hM2.net.net rfl
              have c2' := cell_of_block (j := 2) (v := .int .i64 C) hM2.net.net rfl
              have hok : ∀ a ∈ l, (-1 ≤ a.t ∧ a.t ≤ 10) ∧ (-1 ≤ a.c ∧ a.c ≤ 10) := fun a ha => by have := hN.ok a ha; omega
              go_wp2_with fail
              clear p0 p1
              go_region_held3 (fun w' => w'.cell? ⟨w.heap.size, 0, none⟩ = some (.slice A l.length c) ∧ w'.cell? ⟨w.heap.size, 1, none⟩ = some (.int .i64 T) ∧ w'.cell? ⟨w.heap.size, 2, none⟩ = some (.int .i64 C))
                ((first | exact ⟨by assumption, by assumption, by assumption⟩ | exact ⟨(hbr.cell (by exact hs1)).trans c0, (hbr.cell (by exact hs1)).trans c1', (hbr.cell (by exact hs1)).trans c2'⟩ | exact ⟨(hbc.cell (by exact hs1)).trans c0, (hbc.cell (by exact hs1)).trans c1', (hbc.cell (by exact hs1)).trans c2'⟩))
                (first | (go_at_call 30; refine (rrooms0 _ A l c T C err (hA.below hb1.drew) hl12 hE hV.reads).mono ?_; rintro e W4 ⟨hbr, R, d, rfl, hRm⟩) | (go_at_call 75; refine (denies_any _ A R l c d T C _ _ (orL ts) (orL cs) (hA.below (hb1.drew.trans (hbr.mono hb1.size))) hRm hl12 hR hok).mono ?_; rintro e W5 ⟨hbc0, b, rfl, hb⟩; have HB := Lib.hid hb; clear hb; have hbc := Below.trans hbr (hbc0.mono hbr.size)))
              have hM5 := hM2.step ((Below.refl _ W2).drew.trans hbc)
              go_wp2_with fail
              go_ret
              refine ⟨hM5.net.below, b, rfl, ?_⟩
              have hb := HB.out
              rw [HO1.out, HO2.out] at hb
              rw [hb, HDef.out]
              exact ⟨fun h => ⟨HR1.out, HR2.out, h⟩, fun h => h.2.2⟩
    · have HR2 := Lib.hid r2
      clear r1 r2
      go_enter Try.func31, Try.ntmps31
      go_wp2_with fail
      generalize (w.alloc (.cells #[.slice A l.length c, .int .i64 T, .int .i64 C] 24)).alloc (.cells #[.slice P ts.length c1, .slice Q cs.length c2] 27) = W0 at *
      have n1 := cell_of_block (j := 1) (v := .int .i64 T) hM.net.net rfl
      have p0 := cell_of_block (j := 0) (v := .slice P ts.length c1) hM.cut rfl
      go_wp2_with fail
      refine (rrising_yes _ P ts c1 T (hP.below hM.net.below) (by omega) hT HR1).mono ?_
      rintro e W1 ⟨hb1, rfl⟩
      have hM1 := hM.step hb1
      clear hM hb1 n1 p0
      have n2 := cell_of_block (j := 2) (v := .int .i64 C) hM1.net.net rfl
      have p1 := cell_of_block (j := 1) (v := .slice Q cs.length c2) hM1.cut rfl
      go_wp2_with fail
      refine (rrising_no _ Q cs c2 C (hQ.below hM1.net.below) (by omega) hC HR2).mono ?_
      rintro e W2 ⟨hb2, rfl⟩
      go_wp2_with fail
      go_ret
      exact .no (hM1.step hb2).net.below (fun h => HR2.out h.2.1)
  · have HR1 := Lib.hid r1
    clear r1
    go_enter Try.func31, Try.ntmps31
    go_wp2_with fail
    generalize (w.alloc (.cells #[.slice A l.length c, .int .i64 T, .int .i64 C] 24)).alloc (.cells #[.slice P ts.length c1, .slice Q cs.length c2] 27) = W0 at *
    have n1 := cell_of_block (j := 1) (v := .int .i64 T) hM.net.net rfl
    have p0 := cell_of_block (j := 0) (v := .slice P ts.length c1) hM.cut rfl
    go_wp2_with fail
    refine (rrising_no _ P ts c1 T (hP.below hM.net.below) (by omega) hT HR1).mono ?_
    rintro e W1 ⟨hb1, rfl⟩
    go_wp2_with fail
    go_ret
    exact .no (hM.step hb1).net.below (fun h => HR1.out h.1)
end Go.Proofs.Ytnhbplnhhloklaa
