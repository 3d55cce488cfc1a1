/- Contracts of the reference's Denies and Can. -/
import Derived.Test.YtnhbplnhhloklaaE1
import Derived.Test.YtnhbplnhhloklaaL0
import Derived.Deep.RegionHeld3
import Derived.IntWalk
namespace Go.Proofs.Ytnhbplnhhloklaa
open Go.RowKit


theorem has_law (w : World) (b : Nat) (t : Int) (h0 : -1 ≤ t) (h1 : t ≤ 60) : Calls Try.prog 101 #[.int .i64 b, .int .i64 t] w fun e w' => w = w' ∧ e = .returned (.bool (bitB b t)) := has_any w b t h0 h1

theorem cp_bnd {p q : Int → Bool} {lo hi : Nat → Int} (hR : RoomOk lo hi) (k : Nat) (a : Ang) : (-40 ≤ cpLo p q lo hi k a ∧ cpLo p q lo hi k a ≤ 40) ∧ (-40 ≤ cpHi p q lo hi k a ∧ cpHi p q lo hi k a ≤ 40) := by
  have h1 := hR.lo0 k
  have h2 := hR.hi0 k
  unfold cpLo cpHi
  (repeat' split) <;> omega
theorem cs_bnd {l : List Ang} {p q : Int → Bool} {lo hi : Nat → Int} (hR : RoomOk lo hi) (k : Nat) : (-40 * (k : Int) ≤ csLo l p q lo hi k ∧ csLo l p q lo hi k ≤ 40 * (k : Int)) ∧ (-40 * (k : Int) ≤ csHi l p q lo hi k ∧ csHi l p q lo hi k ≤ 40 * (k : Int)) := by
  induction k with
  | zero => simp [csLo, csHi, sumN]
  | succ k ih =>
    simp only [csLo, csHi, sumN] at ih ⊢
    cases l[k]? with
    | none => simp only; omega
    | some a => have := cp_bnd (p := p) (q := q) hR k a; simp only; omega
theorem csLo_step {l : List Ang} {p q : Int → Bool} {lo hi : Nat → Int} {k : Nat} {a : Ang} (h : l[k]? = some a) : csLo l p q lo hi (k + 1) = csLo l p q lo hi k + cpLo p q lo hi k a := by simp only [csLo, sumN, h]
theorem csHi_step {l : List Ang} {p q : Int → Bool} {lo hi : Nat → Int} {k : Nat} {a : Ang} (h : l[k]? = some a) : csHi l p q lo hi (k + 1) = csHi l p q lo hi k + cpHi p q lo hi k a := by simp only [csHi, sumN, h]
theorem cDiff_bnd (p q : Int → Bool) (k : Nat) : -72 * (k : Int) ≤ cDiff p q k ∧ cDiff p q k ≤ 36 * (k : Int) := by
  induction k with
  | zero => simp [cDiff, sumN]
  | succ k ih =>
    simp only [cDiff, sumN] at ih ⊢
    split <;> split <;> omega

/-- The memory of the reference. -/
structure NMem (w wr : World) (A : Option Addr) (n c : Nat) (T C : Int) : Prop where
  below : Below w.heap.size w wr
  net : wr.heap[w.heap.size]? = some (.cells #[.slice A n c, .int .i64 T, .int .i64 C] 24 (0, 0))
theorem NMem.step {w wr w' : World} {A : Option Addr} {n c : Nat} {T C : Int} (h : NMem w wr A n c T C) (hb : Below wr.heap.size wr w') : NMem w w' A n c T C :=
  ⟨h.below.trans (hb.mono h.below.size), (hb.block _ (Array.getElem?_eq_some_iff.1 h.net).1).trans h.net⟩
theorem NMem.made (w : World) (A : Option Addr) (n c : Nat) (T C : Int) : NMem w (w.alloc (.cells #[.slice A n c, .int .i64 T, .int .i64 C] 24)) A n c T C := ⟨(Below.refl _ w).alloc (Nat.le_refl _) _, at_alloc rfl⟩
theorem NMem.lt {w wr : World} {A : Option Addr} {n c : Nat} {T C : Int} (h : NMem w wr A n c T C) : w.heap.size < wr.heap.size := (Array.getElem?_eq_some_iff.1 h.net).1

set_option maxHeartbeats 4000000 in
set_option maxRecDepth 100000 in
theorem denies_any (w : World) (A R : Option Addr) (l : List Ang) (c d : Nat) (T C : Int) (lo hi : Nat → Int) (tb cb : Nat) (hA : AngAt w A l) (hRm : RmAt w R lo hi l.length) (hl : l.length ≤ 12) (hR : RoomOk lo hi) (hok : ∀ a ∈ l, (-1 ≤ a.t ∧ a.t ≤ 10) ∧ (-1 ≤ a.c ∧ a.c ≤ 10)) :
    Calls Try.prog 75 #[.agg #[.slice A l.length c, .int .i64 T, .int .i64 C], .slice R l.length d, .int .i64 tb, .int .i64 cb] w fun e w' => Below w.heap.size w w' ∧ ∃ b : Bool, e = .returned (.bool b) ∧ (b = true ↔ DenyC l (bitB tb) (bitB cb) lo hi) := by
  have hM0 := NMem.made w A l.length c T C
  go_enter Try.func75, Try.ntmps75
  go_wp2_with fail
  generalize w.alloc (.cells #[.slice A l.length c, .int .i64 T, .int .i64 C] 24) = W0 at *
  go_loopw [9, 10, 11] (fun x y t wr => ∃ k : Nat, k ≤ l.length ∧ t = .int .i64 k ∧ NMem w wr A l.length c T C ∧ x = .int .i64 (csLo l (bitB tb) (bitB cb) lo hi k) ∧ y = .int .i64 (csHi l (bitB tb) (bitB cb) lo hi k)) (fun _ _ t _ => l.length - (intOf t).toNat)
  case atStart => exact ⟨0, Nat.zero_le _, rfl, hM0, rfl, rfl⟩
  case round =>
    clear hM0
    obtain ⟨k, hk, rfl, hM, rfl, rfl⟩ := hrel
    have n0 := cell_of_block (j := 0) (v := .slice A l.length c) hM.net rfl
    have hbk := cs_bnd (l := l) (p := bitB tb) (q := bitB cb) hR k
    by_cases hlt : k < l.length
    · obtain ⟨a, ha⟩ : ∃ a, l[k]? = some a := ⟨l[k], by simp [hlt]⟩
      have hao := hok a (List.mem_of_getElem? ha)
      obtain ⟨b, o, rfl, hb, ha0, ha1, ha2, ha3⟩ := hA.below hM.below k a ha
      obtain ⟨rb, ro, rfl, hrb, hr0, hr1⟩ := hRm.below hM.below k hlt
      have hk0 : (0 : Int) ≤ k := by omega
      have hk1 : (k : Int) < l.length := by omega
      have hL := csLo_step (p := bitB tb) (q := bitB cb) (lo := lo) (hi := hi) ha
      have hH := csHi_step (p := bitB tb) (q := bitB cb) (lo := lo) (hi := hi) ha
      have hlok := hR.lo0 k
      have hhik := hR.hi0 k
      unfold cpLo at hL
      unfold cpHi at hH
      have HL := Lib.hid hL
      have HH := Lib.hid hH
      clear ha hL hH
      have hd1 : decide (k < l.length) = true := decide_eq_true hlt
      go_wp2_with fail
      go_region_held3 (fun w' => w'.cell? ⟨w.heap.size, 0, none⟩ = some (.slice (some ⟨b, o, none⟩) l.length c) ∧ w'.cell? ⟨b, o + k * 4, none⟩ = some (.int .i64 a.t) ∧ w'.cell? ⟨b, o + k * 4 + 1, none⟩ = some (.int .i64 a.c))
        (exact ⟨n0, ha0, ha1⟩)
        (first | (go_at_call 101; refine (has_law _ _ _ (by omega) (by omega)).mono ?_; rintro e w' ⟨rfl, rfl⟩))
      have hM2 := hM.step (Below.refl _ wr).drew
      have hr0d : wr.drew.cell? ⟨rb, ro + k * 2, none⟩ = some (.int .i64 (lo k)) := hr0
      have hr1d : wr.drew.cell? ⟨rb, ro + k * 2 + 1, none⟩ = some (.int .i64 (hi k)) := hr1
      clear hM n0 ha0 ha1 ha2 ha3 hr0 hr1
      generalize wr.drew = W1 at *
      generalize hp : bitB tb a.t = p at *
      generalize hq : bitB cb a.c = q at *
      generalize csLo l (bitB tb) (bitB cb) lo hi k = x at *
      generalize csHi l (bitB tb) (bitB cb) lo hi k = y at *
      clear hp hq
      cases p <;> cases q
      · go_wp2_with fail
        go_roundw
        case rel => exact ⟨k + 1, by omega, by go_num, hM2, by rw [HL.out]; simp, by rw [HH.out]; simp⟩
        case measure => simp [intOf]; omega
      · go_wp2_with fail
        have hwx : IntKind.i64.wrap (x - hi k) = x - hi k := IntWalk.i64_in _ (by omega)
        have hwy : IntKind.i64.wrap (y - lo k) = y - lo k := IntWalk.i64_in _ (by omega)
        go_region_held3 (fun w' => w'.cell? ⟨rb, ro + k * 2, none⟩ = some (.int .i64 (lo k)) ∧ w'.cell? ⟨rb, ro + k * 2 + 1, none⟩ = some (.int .i64 (hi k))) (exact ⟨hr0d, hr1d⟩) (fail)
        clear hwx hwy
        have hM3 := hM2.step (Below.refl _ W1).drew
        go_wp2_with fail
        go_roundw
        case rel => exact ⟨k + 1, by omega, by go_num, hM3, by rw [HL.out]; simp [Int.sub_eq_add_neg], by rw [HH.out]; simp [Int.sub_eq_add_neg]⟩
        case measure => simp [intOf]; omega
      · go_wp2_with fail
        have hwx : IntKind.i64.wrap (x + lo k) = x + lo k := IntWalk.i64_in _ (by omega)
        have hwy : IntKind.i64.wrap (y + hi k) = y + hi k := IntWalk.i64_in _ (by omega)
        go_region_held3 (fun w' => w'.cell? ⟨rb, ro + k * 2, none⟩ = some (.int .i64 (lo k)) ∧ w'.cell? ⟨rb, ro + k * 2 + 1, none⟩ = some (.int .i64 (hi k))) (exact ⟨hr0d, hr1d⟩) (fail)
        clear hwx hwy
        have hM3 := hM2.step (Below.refl _ W1).drew
        go_wp2_with fail
        go_roundw
        case rel => exact ⟨k + 1, by omega, by go_num, hM3, by rw [HL.out]; simp, by rw [HH.out]; simp⟩
        case measure => simp [intOf]; omega
      · go_wp2_with fail
        go_roundw
        case rel => exact ⟨k + 1, by omega, by go_num, hM2, by rw [HL.out]; simp, by rw [HH.out]; simp⟩
        case measure => simp [intOf]; omega
    · obtain rfl : k = l.length := by omega
      have HDef : Hid (DenyC l (bitB tb) (bitB cb) lo hi ↔ cDiff (bitB tb) (bitB cb) 5 < csLo l (bitB tb) (bitB cb) lo hi l.length ∨ csHi l (bitB tb) (bitB cb) lo hi l.length < cDiff (bitB tb) (bitB cb) 5) := Lib.hid Iff.rfl
      generalize csLo l (bitB tb) (bitB cb) lo hi l.length = x at *
      generalize csHi l (bitB tb) (bitB cb) lo hi l.length = y at *
      go_wp2_with fail
      go_loop [14, 15] (fun x t => ∃ k : Nat, k ≤ 5 ∧ t = .int .i64 k ∧ x = .int .i64 (cDiff (bitB tb) (bitB cb) k)) (fun _ t => 5 - (intOf t).toNat)
      case atStart => exact ⟨0, Nat.zero_le _, rfl, rfl⟩
      case round =>
        obtain ⟨j, hj, rfl, rfl⟩ := hrel
        have hdb := cDiff_bnd (bitB tb) (bitB cb) j
        by_cases hlt : j < 5
        · have HD : Hid (cDiff (bitB tb) (bitB cb) (j + 1) = cDiff (bitB tb) (bitB cb) j + ((if bitB tb j = true then 36 else 0) - (if bitB cb j = true then 72 else 0))) := Lib.hid rfl
          have hj0 : (0 : Int) ≤ j := by omega
          generalize cDiff (bitB tb) (bitB cb) j = z at *
          cases hp : bitB tb j <;> cases hq : bitB cb j
          all_goals
            rw [hp, hq] at HD
            go_wp2_with (first | (go_at_call 101; refine (has_law _ _ _ (by omega) (by omega)).mono ?_; rintro e w' ⟨rfl, rfl⟩))
            go_round
            case rel => exact ⟨j + 1, by omega, by go_num, by rw [HD.out]; simp; try omega⟩
            case measure => simp [intOf]; omega
        · obtain rfl : j = 5 := by omega
          generalize cDiff (bitB tb) (bitB cb) 5 = z at *
          by_cases h1 : z < x
          · have d1 : decide (z < x) = true := decide_eq_true h1
            have HN : Hid (DenyC l (bitB tb) (bitB cb) lo hi) := Lib.hid (HDef.out.2 (.inl h1))
            clear h1
            go_wp2_with fail
            go_ret
            exact ⟨hM.below, .inr ⟨rfl, HN.out⟩⟩
          · have d1 : decide (z < x) = false := decide_eq_false h1
            by_cases h2 : y < z
            · have d2 : decide (y < z) = true := decide_eq_true h2
              have HN : Hid (DenyC l (bitB tb) (bitB cb) lo hi) := Lib.hid (HDef.out.2 (.inr h2))
              clear h1 h2
              go_wp2_with fail
              go_ret
              exact ⟨hM.below, .inr ⟨rfl, HN.out⟩⟩
            · have d2 : decide (y < z) = false := decide_eq_false h2
              have HN : Hid (¬ DenyC l (bitB tb) (bitB cb) lo hi) := Lib.hid (fun h => (HDef.out.1 h).elim h1 h2)
              clear h1 h2
              go_wp2_with fail
              go_ret
              exact ⟨hM.below, .inl ⟨rfl, HN.out⟩⟩

theorem pow_spell {m : Nat} (h : m ≤ 16) : wrap64 ((2 : Int) ^ m) = ((2 ^ m : Nat) : Int) ∧ 2 ^ m ≤ 65536 := by
  have h1 : 2 ^ m ≤ 2 ^ 16 := Nat.pow_le_pow_right (by omega) h
  have e : (2 : Int) ^ m = ((2 ^ m : Nat) : Int) := by simp
  rw [e]
  generalize 2 ^ m = x at *
  unfold wrap64
  omega

set_option maxHeartbeats 4000000 in
set_option maxRecDepth 100000 in
theorem rcan_any (w : World) (A R : Option Addr) (l : List Ang) (c d : Nat) (T C : Nat) (lo hi : Nat → Int) (hA : AngAt w A l) (hRm : RmAt w R lo hi l.length) (hl : l.length ≤ 12) (hN : NetOk l T C) (hR : RoomOk lo hi) :
    Calls Try.prog 77 #[.agg #[.slice A l.length c, .int .i64 T, .int .i64 C], .slice R l.length d] w fun e w' => Below w.heap.size w w' ∧ ∃ b : Bool, e = .returned (.bool b) ∧ (b = true ↔ Can l T C lo hi) := by
  have hM0 := NMem.made w A l.length c T C
  have hT5 := hN.hT
  have hC5 := hN.hC
  have hCan := Lib.hid (can_bits (lo := lo) (hi := hi) hl hN hR)
  obtain ⟨hwT, hbT⟩ := pow_spell (m := T) (by omega)
  obtain ⟨hwC, hbC⟩ := pow_spell (m := C) (by omega)
  generalize hNT : 2 ^ T = NT at *
  generalize hNC : 2 ^ C = NC at *
  clear hNT hNC
  have hok : ∀ a ∈ l, (-1 ≤ a.t ∧ a.t ≤ 10) ∧ (-1 ≤ a.c ∧ a.c ≤ 10) := fun a ha => by have := hN.ok a ha; omega
  go_enter Try.func77, Try.ntmps77
  go_wp2_with fail
  generalize w.alloc (.cells #[.slice A l.length c, .int .i64 T, .int .i64 C] 24) = W0 at *
  go_loopw [5] (fun t wr => ∃ k : Nat, k ≤ NT ∧ t = .int .i64 k ∧ NMem w wr A l.length c T C ∧ Hid (∀ b, b < k → ∀ c < NC, ¬ DenyC l (bitB b) (bitB c) lo hi)) (fun t _ => NT - (intOf t).toNat)
  case atStart => exact ⟨0, Nat.zero_le _, rfl, hM0, Lib.hid (fun b h => by omega)⟩
  case round =>
    clear hM0
    obtain ⟨k, hk, rfl, hM, hno⟩ := hrel
    have n1 := cell_of_block (j := 1) (v := .int .i64 T) hM.net rfl
    by_cases hlt : k < NT
    · have hd : decide ((k : Int) < NT) = true := decide_eq_true (by omega)
      go_wp2_with fail
      obtain ⟨wo, hwo⟩ : ∃ wo : World, wo = wr := ⟨_, rfl⟩
      subst hwo
      clear n1
      simp only [hwT]
      go_loopw [6] (fun t wi => ∃ j : Nat, j ≤ NC ∧ t = .int .i64 j ∧ NMem w wi A l.length c T C ∧ Hid (∀ c, c < j → ¬ DenyC l (bitB k) (bitB c) lo hi)) (fun t _ => NC - (intOf t).toNat)
      case atStart => exact ⟨0, Nat.zero_le _, rfl, hM, Lib.hid (fun b h => by omega)⟩
      case round =>
        clear hM
        obtain ⟨j, hj, rfl, hM, hno2⟩ := hrel
        have n0 := cell_of_block (j := 0) (v := .slice A l.length c) hM.net rfl
        have n1 := cell_of_block (j := 1) (v := .int .i64 T) hM.net rfl
        have n2 := cell_of_block (j := 2) (v := .int .i64 C) hM.net rfl
        by_cases hlt2 : j < NC
        · have hd2 : decide ((j : Int) < NC) = true := decide_eq_true (by omega)
          go_wp2_with (first | (go_at_call 75; refine (denies_any _ A R l c d T C lo hi k j (hA.below hM.below) (hRm.below hM.below) hl hR hok).mono ?_; rintro e W3 ⟨hbe, b, rfl, hb⟩; have HB := Lib.hid hb; clear hb))
          · have hb : b = true := by assumption
            subst hb
            have HD : Hid (¬ Can l T C lo hi) := Lib.hid (fun hc => hCan.out.2 hc k hlt j hlt2 (HB.out.1 rfl))
            go_ret
            exact ⟨hM.below.trans (hbe.mono hM.below.size), by first | exact .inl ⟨rfl, HD.out⟩ | exact ⟨false, rfl, by simp; exact HD.out⟩⟩
          · have hb : b = false := by
              cases b with
              | false => rfl
              | true => first | contradiction | simp_all
            subst hb
            have hM3 := hM.step hbe
            go_roundw
            case rel =>
              refine ⟨j + 1, by omega, by go_num, hM3, Lib.hid (fun c hc hd => ?_)⟩
              by_cases e : c = j
              · subst e
                have := HB.out.2 hd
                cases this
              · exact hno2.out c (by omega) hd
            case measure => simp [intOf]; omega
        · obtain rfl : j = NC := by omega
          have hd2 : decide ((j : Int) < j) = false := decide_eq_false (by omega)
          go_wp2_with fail
          go_roundw
          case rel =>
            refine ⟨k + 1, by omega, by go_num, hM, Lib.hid (fun b hb c hc hdn => ?_)⟩
            by_cases e : b = k
            · subst e; exact hno2.out c hc hdn
            · exact hno.out b (by omega) c hc hdn
          case measure => simp [intOf]; omega
    · obtain rfl : k = NT := by omega
      have hd : decide ((k : Int) < k) = false := decide_eq_false (by omega)
      have HN : Hid (Can l T C lo hi) := Lib.hid (hCan.out.1 hno.out)
      go_wp2_with fail
      go_ret
      exact ⟨hM.below, by first | exact .inr ⟨rfl, HN.out⟩ | exact ⟨true, rfl, by simp; exact HN.out⟩⟩
end Go.Proofs.Ytnhbplnhhloklaa
