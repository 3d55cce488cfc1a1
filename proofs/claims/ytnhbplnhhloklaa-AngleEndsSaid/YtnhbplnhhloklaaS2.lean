/- The law on the ends of bounds: its walk. -/
import Derived.Test.YtnhbplnhhloklaaS1
namespace Go.Proofs.Ytnhbplnhhloklaa
open Go.RowKit

/-- What Show tells of a net without fault. -/
theorem shown_out {w : World} {A : Option Addr} {l : List Ang} {c T C : Nat} {e : Int} (hA : AngAt w A l) (hV : Valid l T C) (he : 0 ≤ e ∧ e ≤ 40) : Calls Try.prog 36 #[.agg #[.slice A l.length c, .int .i64 T, .int .i64 C], .int .i64 e] w fun r w' => Below w.heap.size w w' ∧ ∃ v s, r = .returned (.tuple #[v, .int .i64 s]) ∧ ((s = 0 ∧ CanE l T C e []) ∨ (s = 9 ∧ ¬ CanE l T C e [])) := by
  have hz := asked_in (err := e) (faultN_valid hV) he
  have hl := hV.len
  refine (show_any w A l c T C e hA (by omega)).mono ?_
  rintro r w' ⟨hb, v, s, rfl, ⟨h, _⟩ | ⟨_, ⟨h1, x, hx, _⟩ | ⟨h1, _, h2⟩⟩⟩
  · exact absurd hz h
  · exact ⟨hb, v, s, rfl, .inl ⟨h1, x, hx⟩⟩
  · exact ⟨hb, v, s, rfl, .inr ⟨h1, h2⟩⟩
/-- The bounds in memory besides. -/
structure EMem (w W1 wr : World) (B : Option Addr) (n d : Nat) (T C : Int) (D : Option Addr) (xs : List Int) (base g cap : Nat) (ps : List (Int × Int)) : Prop where
  z : ZMem w W1 wr B n d T C D xs
  own : wr.ownsRow base 58 2 (.slice (some ⟨g, 0, none⟩) n cap) n (pairsV ps)
theorem EMem.step {w W1 wr w' : World} {B : Option Addr} {n d : Nat} {T C : Int} {D : Option Addr} {xs : List Int} {base g cap : Nat} {ps : List (Int × Int)} (h : EMem w W1 wr B n d T C D xs base g cap ps) (hb : Below wr.heap.size wr w') : EMem w W1 w' B n d T C D xs base g cap ps := ⟨h.z.step hb, ownsRow_below h.own hb (Nat.le_refl _)⟩

set_option maxHeartbeats 16000000 in
set_option maxRecDepth 100000 in
theorem ends_walk (w : World) (A : Option Addr) (ws : List Int) (c : Nat) (b d0 : Int) (hA : HexAt w A ws) (hl : ws.length ≤ maxLen) (_hn : A = none → ws = [] ∧ c = 0) (hb : (Lit.int .u8 b).wf = true) (hd : (Lit.int .u8 d0).wf = true) :
    Calls Try.prog 10 #[.slice A ws.length c, .int .u8 b, .int .u8 d0] w (Holds w) := by
  have hb8 := u8_in hb
  have hd8 := u8_in hd
  clear hb hd
  go_enter Try.func10, Try.ntmps10
  have hE : 0 ≤ b % 6 ∧ b % 6 ≤ 5 := by omega
  go_wp2_with fail
  generalize b % 6 = e at *
  clear hb8
  refine (closed_any w A ws c e hA hl hE).mono ?_
  rintro r1 W1 ⟨hb1, B, l, d, T, C, D, xs, d2, rfl, hB, hD, hxl, hl0, hl14, hBf, hdone⟩
  have hdn := Lib.hid hdone
  have hZ : ZMem w W1 (W1.alloc (.cells #[.slice B l.length d, .int .i64 T, .int .i64 C] 24)) B l.length d T C D xs := ⟨hb1, NMem.made W1 B l.length d T C, hD.below ((Below.refl _ W1).alloc (Nat.le_refl _) _)⟩
  clear hBf hdone hb1 hA hD
  have hl2 : l.length ≤ 1000 := by omega
  have hXL := Lib.hid hxl
  clear hxl
  go_wp2_with fail
  refine (lfault_any _ B l d T C (hB.below hZ.net.below) hl2).mono ?_
  rintro r2 W2 ⟨hb2, rfl⟩
  have hZ2 := hZ.step hb2
  clear hZ hb2
  by_cases hz : faultN l T C = 0
  · have hz' : (faultN l T C != 0) = false := by simp [hz]
    have hV : Valid l T C := by
      obtain ⟨T', C', h1, h2, hV⟩ := valid_of hz
      obtain rfl : T = T' := by omega
      obtain rfl : C = C' := by omega
      exact hV
    have hTL := (hdn.out hV.len.2).2
    have hcan : CanE l T C e [] := truth_can hV.net hTL
    have HCA := Lib.hid hcan
    have HV := Lib.hid hV
    have hE40 : 0 ≤ e ∧ e ≤ 40 := by omega
    clear hTL hcan hz hdn hV
    obtain ⟨c0, c1, c2⟩ := hZ2.net.cells
    go_wp2_with fail
    refine (net_any _ B l d T C (hB.below hZ2.net.below) hl2).mono ?_
    rintro r3 W3 ⟨hb3, B2, d3, rfl, hB2, _⟩
    have hZ3 := hZ2.step hb3
    clear hZ2 hb3 c0 c1 c2
    go_wp2_with fail
    refine (bounds_out hB2 HV.out hE40).mono ?_
    rintro r6 W6 ⟨hb6, vb, sb, rfl, hvb⟩
    obtain ⟨rfl, _, g, cap, ps, rfl, _, hg, hpl, hps, how⟩ := hvb.resolve_right (fun h => h.2.2 HCA.out)
    obtain ⟨i, hid1⟩ : ∃ i : Nat, d0 % (l.length : Int) = i := ⟨(d0 % (l.length : Int)).toNat, by have := Int.emod_nonneg d0 (b := l.length) (by omega); omega⟩
    have hil : i < l.length := by have := Int.emod_lt_of_pos d0 (b := l.length) (by omega); omega
    have hid2 : d0.tmod (l.length : Int) = i := by rw [Int.tmod_eq_emod_of_nonneg hd8.1]; exact hid1
    obtain ⟨a, ha⟩ : ∃ x, l[i]? = some x := ⟨l[i], by simp [hil]⟩
    obtain ⟨⟨p, q⟩, hp⟩ : ∃ p, ps[i]? = some p := ⟨ps[i]'(by rw [hpl]; exact hil), by rw [List.getElem?_eq_getElem]⟩
    have hra := HV.out.reads a (List.mem_of_getElem? ha)
    have hZ6 : EMem w W1 W6 B l.length d T C D xs W3.heap.size g cap ps := ⟨hZ3.step hb6, how⟩
    obtain ⟨k1, k2, k3, k4, k5⟩ := ends_read HV.out hE40 ha (hps i _ hp)
    have hz0 : 0 ≤ e * a.w := Int.mul_nonneg hE.1 (by have := hra.2.2.1; omega)
    have hz1 : e * a.w ≤ 15 := by
      have h1 : e * a.w ≤ 5 * a.w := Int.mul_le_mul_of_nonneg_right hE.2 (by have := hra.2.2.1; omega)
      have := hra.2.2.2; omega
    obtain ⟨z, hzz⟩ : ∃ z, e * a.w = z := ⟨_, rfl⟩
    simp only [hzz] at k1 k2 k3 k4 k5
    rw [hzz] at hz0 hz1
    have hr01 : 0 ≤ a.r ∧ a.r ≤ 40 := ⟨hra.1, hra.2.1⟩
    obtain ⟨lw, hlw1⟩ : ∃ lw, max 0 (a.r - z) = lw := ⟨_, rfl⟩
    obtain ⟨hg', hhg1⟩ : ∃ hg, min 40 (a.r + z) = hg := ⟨_, rfl⟩
    rw [hlw1] at k1 k4
    rw [hhg1] at k1 k5
    have hlw2 : (if z < a.r then a.r - z else 0) = lw := by rw [← hlw1]; split <;> omega
    have hlw3 : (if 0 < a.r - z then a.r - z else 0) = lw := by rw [← hlw1]; split <;> omega
    have hhg2 : (if a.r + z < 40 then a.r + z else 40) = hg' := by rw [← hhg1]; split <;> omega
    have K2 := Lib.hid k2
    have K3 := Lib.hid k3
    have K4 := Lib.hid k4
    have K5 := Lib.hid k5
    have HP := Lib.hid hp
    have HA := Lib.hid ha
    have HRA := Lib.hid hra
    have hln : (l.length : Int) ≠ 0 := by omega
    have hi0 : (0 : Int) ≤ i := by omega
    have hi1 : (i : Int) < l.length := by omega
    clear hZ3 hb6 hB2 hvb how hpl hps k2 k3 k4 k5 hp
    obtain ⟨c0, c1, c2⟩ := hZ6.z.net.cells
    have d9 : ((l.length : Int) != l.length) = false := by simp
    obtain ⟨bB, oB, rfl, hbB, a0, a1, a2, a3⟩ := hB.below hZ6.z.net.below i a ha
    clear ha hra a0 a1
    have hw1 : IntKind.i64.wrap (a.r - z) = a.r - z := IntWalk.i64_in _ (by omega)
    have hw2 : IntKind.i64.wrap (a.r + z) = a.r + z := IntWalk.i64_in _ (by omega)
    go_wp2_with fail
    go_quiet (fail)
    have hZ7 := hZ6.step (below_drewN (Below.refl _ W6) nq)
    clear hZ6 c0 c1 c2 a2 a3 hw1 hw2 hlw1 hlw2 hlw3 hhg1 hhg2
    generalize W6.drewN nq = W7 at *
    go_wp2_with fail
    go_loopw [16] (fun t wr => ∃ k : Nat, k ≤ 4 ∧ t = .int .i64 k ∧ EMem w W1 wr (some ⟨bB, oB, none⟩) l.length d T C D xs W3.heap.size g cap ps) (fun t _ => 4 - (intOf t).toNat)
    case atStart => exact ⟨0, by omega, rfl, hZ7⟩
    case round =>
      clear hZ7
      obtain ⟨k, hk, rfl, hZ⟩ := hrel
      obtain ⟨u0, u1⟩ := pairs_cell hZ.own HP.out
      have hgl : g < wr.heap.size := by
        obtain ⟨cur, hc, _⟩ := own_block hZ.own
        exact (Array.getElem?_eq_some_iff.1 hc).1
      have hw1 : IntKind.i64.wrap (p - z) = p - z := IntWalk.i64_in _ (by omega)
      have hw2 : IntKind.i64.wrap (q + z) = q + z := IntWalk.i64_in _ (by omega)
      have hw3 : IntKind.i64.wrap (p - 1) = p - 1 := IntWalk.i64_in _ (by omega)
      have hw4 : IntKind.i64.wrap (p - 1 - z) = p - 1 - z := IntWalk.i64_in _ (by omega)
      have hw5 : IntKind.i64.wrap (q + 1) = q + 1 := IntWalk.i64_in _ (by omega)
      have hw6 : IntKind.i64.wrap (q + 1 + z) = q + 1 + z := IntWalk.i64_in _ (by omega)
      have bA : Below wr.heap.size wr wr.drew := (Below.refl _ wr).drew
      have bB2 : Below wr.heap.size wr ((wr.alloc (.cells #[.int .i64 (p - z), .int .i64 (q + z), .int .i64 (p - 1 - z), .int .i64 (q + 1 + z)] 3)).drew) := ((Below.refl _ wr).alloc (Nat.le_refl _) _).drew
      have HKP : Hid (∀ w', Below wr.heap.size wr w' → w'.cell? ⟨g, i * 2, none⟩ = some (.int .i64 p) ∧ w'.cell? ⟨g, i * 2 + 1, none⟩ = some (.int .i64 q)) := Lib.hid (fun w' hb' => ⟨(hb'.cell (p := ⟨g, _, none⟩) hgl).trans u0, (hb'.cell (p := ⟨g, _, none⟩) hgl).trans u1⟩)
      by_cases hlt : k < 4
      · have hkc : k = 0 ∨ k = 1 ∨ k = 2 ∨ k = 3 := by omega
        clear hk hlt
        rcases hkc with rfl | rfl | rfl | rfl
        · go_wp2_with fail
          go_region
          have hZ5 := hZ.step bB2
          clear hZ u0 u1 HKP bA bB2 hw1 hw2 hw3 hw4 hw5 hw6 hgl
          generalize ((wr.alloc (.cells #[.int .i64 (p - z), .int .i64 (q + z), .int .i64 (p - 1 - z), .int .i64 (q + 1 + z)] 3)).drew) = W5 at *
          obtain ⟨u0, u1⟩ := pairs_cell hZ5.own HP.out
          go_wp2_with fail
          refine (in_any (p - z) 0 40 _).mono ?_
          rintro r7 W4 ⟨rfl, rfl⟩
          by_cases hin : 0 ≤ p - z ∧ p - z ≤ 40
          · have din : decide (0 ≤ p - z ∧ p - z ≤ 40) = true := decide_eq_true hin
            obtain ⟨c0, c1, c2⟩ := hZ5.z.net.cells
            have hro : ReadOk (a.put 2 (p - z)) := ⟨hin.1, hin.2, HRA.out.2.2.1, HRA.out.2.2.2⟩
            have hV' := valid_set HV.out HA.out (a' := a.put 2 (p - z)) rfl rfl hro
            have hsl : (l.set i (a.put 2 (p - z))).length = l.length := List.length_set
            go_wp2_with fail
            refine (readAs_any _ (some ⟨bB, oB, none⟩) l d T C i (p - z) a (hB.below hZ5.z.net.below) hl2 HA.out).mono ?_
            rintro r3 W8 ⟨hb8, B3, d4, rfl, hB3, _⟩
            have hZ8 := hZ5.step hb8
            have HSL := Lib.hid hsl
            clear hZ5 hb8 c0 c1 c2 hsl hro hin
            generalize l.set i (a.put 2 (p - z)) = l' at *
            go_wp2_with fail
            refine (net_any _ B3 l' d4 T C hB3 (by rw [HSL.out]; exact hl2)).mono ?_
            rintro r4 W9 ⟨hb9, B4, d5, rfl, hB4, _⟩
            have hZ9 := hZ8.step hb9
            clear hZ8 hb9 hB3
            go_wp2_with fail
            refine (shown_out hB4 hV' hE40).mono ?_
            rintro r5 W10 ⟨hb10, v, s, rfl, hvs⟩
            have hZ10 := hZ9.step hb10
            obtain rfl : s = 0 := by
              rcases hvs with h | h
              · exact h.1
              · exact absurd K2.out h.2
            clear hZ9 hb10 hB4 hvs hV'
            go_wp2_with fail
            go_roundw
            case rel => exact ⟨1, by omega, by go_num, hZ10⟩
            case measure => simp [intOf]
          · have din : decide (0 ≤ p - z ∧ p - z ≤ 40) = false := decide_eq_false hin
            go_wp2_with fail
            go_roundw
            case rel => exact ⟨1, by omega, by go_num, hZ5⟩
            case measure => simp [intOf]
        · go_wp2_with fail
          go_region
          have hZ5 := hZ.step bB2
          clear hZ u0 u1 HKP bA bB2 hw1 hw2 hw3 hw4 hw5 hw6 hgl
          generalize ((wr.alloc (.cells #[.int .i64 (p - z), .int .i64 (q + z), .int .i64 (p - 1 - z), .int .i64 (q + 1 + z)] 3)).drew) = W5 at *
          obtain ⟨u0, u1⟩ := pairs_cell hZ5.own HP.out
          go_wp2_with fail
          refine (in_any (q + z) 0 40 _).mono ?_
          rintro r7 W4 ⟨rfl, rfl⟩
          by_cases hin : 0 ≤ q + z ∧ q + z ≤ 40
          · have din : decide (0 ≤ q + z ∧ q + z ≤ 40) = true := decide_eq_true hin
            obtain ⟨c0, c1, c2⟩ := hZ5.z.net.cells
            have hro : ReadOk (a.put 2 (q + z)) := ⟨hin.1, hin.2, HRA.out.2.2.1, HRA.out.2.2.2⟩
            have hV' := valid_set HV.out HA.out (a' := a.put 2 (q + z)) rfl rfl hro
            have hsl : (l.set i (a.put 2 (q + z))).length = l.length := List.length_set
            go_wp2_with fail
            refine (readAs_any _ (some ⟨bB, oB, none⟩) l d T C i (q + z) a (hB.below hZ5.z.net.below) hl2 HA.out).mono ?_
            rintro r3 W8 ⟨hb8, B3, d4, rfl, hB3, _⟩
            have hZ8 := hZ5.step hb8
            have HSL := Lib.hid hsl
            clear hZ5 hb8 c0 c1 c2 hsl hro hin
            generalize l.set i (a.put 2 (q + z)) = l' at *
            go_wp2_with fail
            refine (net_any _ B3 l' d4 T C hB3 (by rw [HSL.out]; exact hl2)).mono ?_
            rintro r4 W9 ⟨hb9, B4, d5, rfl, hB4, _⟩
            have hZ9 := hZ8.step hb9
            clear hZ8 hb9 hB3
            go_wp2_with fail
            refine (shown_out hB4 hV' hE40).mono ?_
            rintro r5 W10 ⟨hb10, v, s, rfl, hvs⟩
            have hZ10 := hZ9.step hb10
            obtain rfl : s = 0 := by
              rcases hvs with h | h
              · exact h.1
              · exact absurd K3.out h.2
            clear hZ9 hb10 hB4 hvs hV'
            go_wp2_with fail
            go_roundw
            case rel => exact ⟨2, by omega, by go_num, hZ10⟩
            case measure => simp [intOf]
          · have din : decide (0 ≤ q + z ∧ q + z ≤ 40) = false := decide_eq_false hin
            go_wp2_with fail
            go_roundw
            case rel => exact ⟨2, by omega, by go_num, hZ5⟩
            case measure => simp [intOf]
        · go_wp2_with fail
          go_region
          have hZ5 := hZ.step bB2
          clear hZ u0 u1 HKP bA bB2 hw1 hw2 hw3 hw4 hw5 hw6 hgl
          generalize ((wr.alloc (.cells #[.int .i64 (p - z), .int .i64 (q + z), .int .i64 (p - 1 - z), .int .i64 (q + 1 + z)] 3)).drew) = W5 at *
          obtain ⟨u0, u1⟩ := pairs_cell hZ5.own HP.out
          go_wp2_with fail
          refine (in_any (p - 1 - z) 0 40 _).mono ?_
          rintro r7 W4 ⟨rfl, rfl⟩
          by_cases hin : 0 ≤ p - 1 - z ∧ p - 1 - z ≤ 40
          · have din : decide (0 ≤ p - 1 - z ∧ p - 1 - z ≤ 40) = true := decide_eq_true hin
            by_cases hc : p ≤ lw
            · have dc : decide (p ≤ lw) = true := decide_eq_true hc
              go_wp2_with fail
              go_roundw
              case rel => exact ⟨3, by omega, by go_num, hZ5⟩
              case measure => simp [intOf]
            · have dc : decide (p ≤ lw) = false := decide_eq_false hc
              have hnc := Lib.hid (K4.out (by omega))
              obtain ⟨c0, c1, c2⟩ := hZ5.z.net.cells
              have hro : ReadOk (a.put 2 (p - 1 - z)) := ⟨hin.1, hin.2, HRA.out.2.2.1, HRA.out.2.2.2⟩
              have hV' := valid_set HV.out HA.out (a' := a.put 2 (p - 1 - z)) rfl rfl hro
              have hsl : (l.set i (a.put 2 (p - 1 - z))).length = l.length := List.length_set
              go_wp2_with fail
              refine (readAs_any _ (some ⟨bB, oB, none⟩) l d T C i (p - 1 - z) a (hB.below hZ5.z.net.below) hl2 HA.out).mono ?_
              rintro r3 W8 ⟨hb8, B3, d4, rfl, hB3, _⟩
              have hZ8 := hZ5.step hb8
              have HSL := Lib.hid hsl
              clear hZ5 hb8 c0 c1 c2 hsl hro hin
              generalize l.set i (a.put 2 (p - 1 - z)) = l' at *
              go_wp2_with fail
              refine (net_any _ B3 l' d4 T C hB3 (by rw [HSL.out]; exact hl2)).mono ?_
              rintro r4 W9 ⟨hb9, B4, d5, rfl, hB4, _⟩
              have hZ9 := hZ8.step hb9
              clear hZ8 hb9 hB3
              go_wp2_with fail
              refine (shown_out hB4 hV' hE40).mono ?_
              rintro r5 W10 ⟨hb10, v, s, rfl, hvs⟩
              have hZ10 := hZ9.step hb10
              obtain rfl : s = 9 := by
                rcases hvs with h | h
                · exact absurd h.2 (hnc.out)
                · exact h.1
              clear hZ9 hb10 hB4 hvs hV'
              go_wp2_with fail
              go_roundw
              case rel => exact ⟨3, by omega, by go_num, hZ10⟩
              case measure => simp [intOf]
          · have din : decide (0 ≤ p - 1 - z ∧ p - 1 - z ≤ 40) = false := decide_eq_false hin
            go_wp2_with fail
            go_roundw
            case rel => exact ⟨3, by omega, by go_num, hZ5⟩
            case measure => simp [intOf]
        · go_wp2_with fail
          go_region
          have hZ5 := hZ.step bB2
          clear hZ u0 u1 HKP bA bB2 hw1 hw2 hw3 hw4 hw5 hw6 hgl
          generalize ((wr.alloc (.cells #[.int .i64 (p - z), .int .i64 (q + z), .int .i64 (p - 1 - z), .int .i64 (q + 1 + z)] 3)).drew) = W5 at *
          obtain ⟨u0, u1⟩ := pairs_cell hZ5.own HP.out
          go_wp2_with fail
          refine (in_any (q + 1 + z) 0 40 _).mono ?_
          rintro r7 W4 ⟨rfl, rfl⟩
          by_cases hin : 0 ≤ q + 1 + z ∧ q + 1 + z ≤ 40
          · have din : decide (0 ≤ q + 1 + z ∧ q + 1 + z ≤ 40) = true := decide_eq_true hin
            by_cases hc : hg' ≤ q
            · have dc : decide (hg' ≤ q) = true := decide_eq_true hc
              go_wp2_with fail
              go_roundw
              case rel => exact ⟨4, by omega, by go_num, hZ5⟩
              case measure => simp [intOf]
            · have dc : decide (hg' ≤ q) = false := decide_eq_false hc
              have hnc := Lib.hid (K5.out (by omega))
              obtain ⟨c0, c1, c2⟩ := hZ5.z.net.cells
              have hro : ReadOk (a.put 2 (q + 1 + z)) := ⟨hin.1, hin.2, HRA.out.2.2.1, HRA.out.2.2.2⟩
              have hV' := valid_set HV.out HA.out (a' := a.put 2 (q + 1 + z)) rfl rfl hro
              have hsl : (l.set i (a.put 2 (q + 1 + z))).length = l.length := List.length_set
              go_wp2_with fail
              refine (readAs_any _ (some ⟨bB, oB, none⟩) l d T C i (q + 1 + z) a (hB.below hZ5.z.net.below) hl2 HA.out).mono ?_
              rintro r3 W8 ⟨hb8, B3, d4, rfl, hB3, _⟩
              have hZ8 := hZ5.step hb8
              have HSL := Lib.hid hsl
              clear hZ5 hb8 c0 c1 c2 hsl hro hin
              generalize l.set i (a.put 2 (q + 1 + z)) = l' at *
              go_wp2_with fail
              refine (net_any _ B3 l' d4 T C hB3 (by rw [HSL.out]; exact hl2)).mono ?_
              rintro r4 W9 ⟨hb9, B4, d5, rfl, hB4, _⟩
              have hZ9 := hZ8.step hb9
              clear hZ8 hb9 hB3
              go_wp2_with fail
              refine (shown_out hB4 hV' hE40).mono ?_
              rintro r5 W10 ⟨hb10, v, s, rfl, hvs⟩
              have hZ10 := hZ9.step hb10
              obtain rfl : s = 9 := by
                rcases hvs with h | h
                · exact absurd h.2 (hnc.out)
                · exact h.1
              clear hZ9 hb10 hB4 hvs hV'
              go_wp2_with fail
              go_roundw
              case rel => exact ⟨4, by omega, by go_num, hZ10⟩
              case measure => simp [intOf]
          · have din : decide (0 ≤ q + 1 + z ∧ q + 1 + z ≤ 40) = false := decide_eq_false hin
            go_wp2_with fail
            go_roundw
            case rel => exact ⟨4, by omega, by go_num, hZ5⟩
            case measure => simp [intOf]
      · obtain rfl : k = 4 := by omega
        have d4 : decide (lw ≤ p) = true := decide_eq_true k1.1
        have d5 : decide (q ≤ hg') = true := decide_eq_true k1.2.1
        go_wp2_with fail
        refine (awake_any _).mono ?_
        rintro r8 W8 ⟨hb8, rfl⟩
        go_wp2_with fail
        go_ret
        exact ⟨rfl, (hZ.step hb8).z.below⟩
  · have hz' : (faultN l T C != 0) = true := by simp [hz]
    clear hz
    go_wp2_with fail
    refine (awake_any _).mono ?_
    rintro r3 W3 ⟨hb3, rfl⟩
    go_wp2_with fail
    go_ret
    exact ⟨rfl, (hZ2.step hb3).below⟩
end Go.Proofs.Ytnhbplnhhloklaa
