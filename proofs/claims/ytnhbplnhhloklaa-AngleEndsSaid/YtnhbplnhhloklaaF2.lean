/- The contract of awake: the chapter's examples are as it says. -/
import Derived.Test.YtnhbplnhhloklaaF1
import Derived.Laws.StructEq
import Derived.Laws.Small
import Derived.Laws.Cover2
namespace Go.Proofs.Ytnhbplnhhloklaa
open Go.RowKit
attribute [local go_sem ↓] eq58 guard58

/-- What is kept from call to call. -/
structure AwMem (w W : World) (g : Nat) (L S : Option Addr) (xs : List Int) : Prop where
  below : Below w.heap.size w W
  b : BCells W g
  l : IntsAt W L [0, 2, 3]
  s : IntsAt W S xs
theorem AwMem.step {w W W' : World} {g : Nat} {L S : Option Addr} {xs : List Int} (h : AwMem w W g L S xs) (hb : Below W.heap.size W W') : AwMem w W' g L S xs :=
  ⟨h.below.trans (hb.mono h.below.size), h.b.below hb, h.l.below hb, h.s.below hb⟩

set_option maxHeartbeats 8000000 in
set_option maxRecDepth 100000 in
theorem awake_any (w : World) : Calls Try.prog 20 #[] w fun e w' => Below w.heap.size w w' ∧ e = .returned (.bool true) := by
  go_enter Try.func20, Try.ntmps20
  go_wp2_with fail
  refine (six_any _).mono ?_
  rintro e W1 ⟨h1, B1, rfl, hA1, _⟩
  go_wp2_with fail
  refine (sixc_least _ B1 6 hA1).mono ?_
  rintro e W2 ⟨h2, rfl⟩
  have k2 := h1.trans (h2.mono h1.size)
  clear h1 h2 hA1
  go_wp2_with fail
  refine (six_any _).mono ?_
  rintro e W3 ⟨h3, B3, rfl, hA3, _⟩
  go_wp2_with fail
  refine (sixc_bounds _ B3 6 hA3).mono ?_
  rintro e W4 ⟨h4, g, d, rfl, hd6, hB⟩
  have k4 := k2.trans ((h3.trans (h4.mono h3.size)).mono k2.size)
  clear k2 h3 h4 hA3
  go_wp2_with fail
  refine (six_any _).mono ?_
  rintro e W5 ⟨h5, B5, rfl, hA5, hb5⟩
  go_wp2_with fail
  refine (sixc_leave _ B5 6 hA5 (fun b o e => (hb5 b o e).2)).mono ?_
  rintro e W6 ⟨h6, L, dl, rfl, hL⟩
  have h46 := h5.trans (h6.mono h5.size)
  have k6 := k4.trans (h46.mono k4.size)
  have hB6 := hB.below h46
  clear k4 h5 h6 hA5 hb5 hB h46
  go_wp2_with fail
  refine (six_any _).mono ?_
  rintro e W7 ⟨h7, B7, rfl, hA7, _⟩
  go_wp2_with fail
  refine (sixc_show _ B7 6 hA7).mono ?_
  rintro e W8 ⟨h8, S, ds, xs, rfl, hxl, hS, hT⟩
  have hxl' := Lib.hid hxl
  have hT' := Lib.hid hT
  have h68 := h7.trans (h8.mono h7.size)
  have hM8 : AwMem w W8 g L S xs := ⟨k6.trans (h68.mono k6.size), hB6.below h68, hL.below h68, hS⟩
  clear k6 h7 h8 hA7 hB6 h68 hL hS hT hxl
  go_wp2_with fail
  refine (six_any _).mono ?_
  rintro e W9 ⟨h9, B9, rfl, hA9, _⟩
  go_wp2_with fail
  refine (sixc_ctl _ B9 6 hA9).mono ?_
  rintro e W10 ⟨h10, Cc, dc, rfl⟩
  have hM10 := hM8.step (h9.trans (h10.mono h9.size))
  clear hM8 h9 h10 hA9
  obtain ⟨hg, c0, c1, c8, c9, c10, c11⟩ := hM10.b
  go_wp2_with fail
  have hM11 := hM10.step ((Below.refl _ W10).alloc (Nat.le_refl _) (.cells #[.int .i64 0, .int .i64 2, .int .i64 3] 3))
  have hI3 : IntsAt (W10.alloc (.cells #[.int .i64 0, .int .i64 2, .int .i64 3] 3)) (some ⟨W10.heap.size, 0, none⟩) [0, 2, 3] := intsAt_of (t := 3) (at_alloc rfl)
  clear hM10 hg c0 c1 c8 c9 c10 c11
  refine (ints_any _ L (some ⟨W10.heap.size, 0, none⟩) [0, 2, 3] [0, 2, 3] dl 3 hM11.l hI3 (by decide) (by decide)).mono ?_
  rintro e W12 ⟨h12, b, rfl, hb⟩
  obtain rfl : b = true := hb.2 rfl
  have hM12 := hM11.step h12
  clear hM11 h12 hI3
  go_wp2_with fail
  refine (six_any _).mono ?_
  rintro e W13 ⟨h13, B13, rfl, hA13, _⟩
  have hM13 := hM12.step h13
  clear hM12 h13
  go_wp2_with fail
  refine (sixc_pt _ B13 6 hA13 S ds hM13.s hxl'.out hT'.out).mono ?_
  rintro e W14 ⟨h14, rfl⟩
  have hM14 := hM13.step h14
  clear hM13 h14 hA13
  go_wp2_with fail
  refine (six_any _).mono ?_
  rintro e W15 ⟨h15, B15, rfl, hA15, _⟩
  have hM15 := hM14.step h15
  clear hM14 h15
  go_wp2_with fail
  refine (sixc_pt1 _ B15 6 hA15 S ds hM15.s hxl'.out).mono ?_
  rintro e W16 ⟨h16, rfl⟩
  have hM16 := hM15.step h16
  clear hM15 h16 hA15
  go_wp2_with fail
  refine (six_any _).mono ?_
  rintro e W17 ⟨h17, B17, rfl, hA17, _⟩
  have hM17 := hM16.step h17
  clear hM16 h17
  go_wp2_with fail
  have hal : Below W17.heap.size W17 ((W17.alloc (.cells #[.int .i64 0, .int .i64 1] 3)).alloc (.cells #[.int .i64 0] 3)) := ((Below.refl _ W17).alloc (Nat.le_refl _) _).alloc (by simp) _
  refine (sixc_pc _ B17 6 (hA17.below hal) (some ⟨W17.heap.size, 0, none⟩) (some ⟨W17.heap.size + 1, 0, none⟩) 2 1 (intsAt_of (t := 3) (past_alloc (at_alloc rfl))) (intsAt_of (t := 3) (at_alloc (by simp)))).mono ?_
  rintro e W18 ⟨h18, rfl⟩
  have hM18 := (hM17.step hal).step h18
  clear hM17 h18 hA17 hal
  go_wp2_with fail
  go_ret
  exact ⟨hM18.below, rfl⟩
end Go.Proofs.Ytnhbplnhhloklaa
