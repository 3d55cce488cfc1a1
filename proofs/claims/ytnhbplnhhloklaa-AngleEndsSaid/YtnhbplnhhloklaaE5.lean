/- Contract of the reference's Controlled. -/
import Derived.Test.YtnhbplnhhloklaaE4
namespace Go.Proofs.Ytnhbplnhhloklaa
open Go.RowKit

set_option maxRecDepth 100000 in
theorem eq60 (a b c d : Int) (w : World) : (Op.equalIn 10000 60 (.agg #[.int .i64 a, .int .i64 b]) (.agg #[.int .i64 c, .int .i64 d])).run Try.prog w = .ok (a == c && b == d) w := by
  have u3 := Try.underlying3
  have a3 := Try.isAgg3
  have z3 := Try.sizeOf3
  have hS : Try.prog.underlying 60 = some (.struct (Try.prog.fieldsOf 60)) := by kernel_rfl
  have hp : Try.prog.stoodInHeld 60 = false := by kernel_rfl
  rw [show (10000 : Nat) = 9999 + 1 from rfl, run_equalIn_agg w 9999 60 _ _ hS hp]
  simp only [Program.fieldsOf, Try.underlying60]
  go_simp
  by_cases h1 : a = c <;> by_cases h2 : b = d <;> simp [h1, h2]
theorem guard60 : Try.prog.eqGuardType Try.prog.depth 60 = false := by kernel_rfl
attribute [local go_sem ↓] eq60 guard60

theorem bitL_one {i : Nat} (h : i < 16) : bitL (2 ^ i) = [i] := by
  unfold bitL
  have e : ∀ j, (2 ^ i).testBit j = decide (i = j) := fun j => Nat.testBit_two_pow
  simp only [e]
  have hr : List.range 16 = [0,1,2,3,4,5,6,7,8,9,10,11,12,13,14,15] := rfl
  rw [hr]
  have : i = 0 ∨ i = 1 ∨ i = 2 ∨ i = 3 ∨ i = 4 ∨ i = 5 ∨ i = 6 ∨ i = 7 ∨ i = 8 ∨ i = 9 ∨ i = 10 ∨ i = 11 ∨ i = 12 ∨ i = 13 ∨ i = 14 ∨ i = 15 := by omega
  rcases this with rfl | rfl | rfl | rfl | rfl | rfl | rfl | rfl | rfl | rfl | rfl | rfl | rfl | rfl | rfl | rfl <;> rfl

set_option maxHeartbeats 4000000 in
set_option maxRecDepth 100000 in
theorem rcontrolled_any (w : World) (A : Option Addr) (l : List Ang) (c : Nat) (T C : Nat) (err : Int) (i : Nat) (hA : AngAt w A l) (hV : Valid l T C) (hE : 0 ≤ err ∧ err ≤ 40) (hi' : i < l.length) (hcan : CanE l T C err []) :
    Calls Try.prog 41 #[.agg #[.slice A l.length c, .int .i64 T, .int .i64 C], .int .i64 err, .int .i64 i] w fun e w' => Below w.heap.size w w' ∧ ∃ b : Bool, e = .returned (.bool b) ∧ (b = true ↔ Ctl l T C err i) := by
  have hM := NMem.made w A l.length c T C
  have hl12 := hV.len.2
  have hR := rm_ok (out := [(i : Int)]) (k := l.length) hV.reads hE
  have hbi := (pow_spell (m := i) (by omega)).2
  have hsp : IntKind.i64.wrap (2 ^ min (IntKind.u64.wrap (i : Int)).toNat 64) = ((2 ^ i : Nat) : Int) := by
    have e1 : IntKind.u64.wrap (i : Int) = i := IntWalk.u64_in _ (by omega)
    rw [e1, Int.toNat_natCast, show min i 64 = i by omega]
    have e2 : (2 : Int) ^ i = ((2 ^ i : Nat) : Int) := by simp
    rw [e2]
    clear e2
    generalize 2 ^ i = NB at hbi ⊢
    exact IntWalk.i64_in _ (by omega)
  have HBL := Lib.hid (bitL_one (i := i) (by omega))
  generalize 2 ^ i = NB at *
  have HSP := Lib.hid hsp
  clear hsp hbi
  have HC := Lib.hid (canE_out (out := [(i : Int)]) hcan)
  have hs1 := hM.lt
  have hb1 := hM.below
  have c0 := cell_of_block (j := 0) (v := .slice A l.length c) hM.net rfl
  have c1 := cell_of_block (j := 1) (v := .int .i64 T) hM.net rfl
  have c2 := cell_of_block (j := 2) (v := .int .i64 C) hM.net rfl
  clear hcan
  go_enter Try.func41, Try.ntmps41
  go_wp2_with fail
  generalize w.alloc (.cells #[.slice A l.length c, .int .i64 T, .int .i64 C] 24) = W0 at *
  go_region_held3 (fun w' => w'.cell? ⟨w.heap.size, 0, none⟩ = some (.slice A l.length c) ∧ w'.cell? ⟨w.heap.size, 1, none⟩ = some (.int .i64 T) ∧ w'.cell? ⟨w.heap.size, 2, none⟩ = some (.int .i64 C))
    ((first | exact ⟨by assumption, by assumption, by assumption⟩ | exact ⟨(hbr.cell (by exact hs1)).trans c0, (hbr.cell (by exact hs1)).trans c1, (hbr.cell (by exact hs1)).trans c2⟩ | exact ⟨(hbc.cell (by exact hs1)).trans c0, (hbc.cell (by exact hs1)).trans c1, (hbc.cell (by exact hs1)).trans c2⟩))
    (first | (go_at_call 30; rw [HSP.out]; refine (rrooms_any _ A l c T C err NB (hA.below hb1.drew) hl12 hE hV.reads).mono ?_; rintro e W2 ⟨hbr, R, d, rfl, hRm0, _⟩; have hRm := hRm0; rw [HBL.out] at hRm; clear hRm0) | (go_at_call 39; refine (rbounds_any _ A R l c d T C _ _ i (hA.below (hb1.drew.trans (hbr.mono hb1.size))) hRm hl12 hV.net hR hi' HC.out).mono ?_; rintro e W3 ⟨hbc0, x, y, rfl, hxy⟩; have HX := Lib.hid hxy; clear hxy; have hbc := Below.trans hbr (hbc0.mono hbr.size)))
  have hM3 := hM.step ((Below.refl _ W0).drew.trans hbc)
  clear c0 c1 c2
  go_wp2_with fail
  go_ret
  refine ⟨hM3.below, _, rfl, ?_⟩
  constructor
  · intro h
    refine ⟨x, y, HX.out, ?_⟩
    rintro ⟨rfl, rfl⟩
    simp at h
  · rintro ⟨x', y', h1, h2⟩
    obtain ⟨rfl, rfl⟩ := ends_unique HX.out h1
    simp
    omega
end Go.Proofs.Ytnhbplnhhloklaa
