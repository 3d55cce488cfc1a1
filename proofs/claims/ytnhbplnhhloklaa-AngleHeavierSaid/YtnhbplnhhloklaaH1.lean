/- Contract of the reference's IsTruth. -/
import Derived.Test.YtnhbplnhhloklaaE7
import Derived.Test.YtnhbplnhhloklaaL1
namespace Go.Proofs.Ytnhbplnhhloklaa
open Go.RowKit

/-- Five sums, as the reference holds them. -/
def av (g : Nat → Int) : Array Value := ((List.range 5).map (fun k => Value.int .i64 (g k))).toArray
theorem av_get {g : Nat → Int} {i : Nat} (h : i < 5) : (av g)[i]? = some (.int .i64 (g i)) := by
  simp only [av, List.getElem?_toArray, List.getElem?_map]
  rw [List.getElem?_range (by omega)]
  rfl
theorem av_set {g : Nat → Int} {i : Nat} {x : Int} : (av g).setIfInBounds i (.int .i64 x) = av (setAt g i x) := by
  apply Array.ext'
  rw [Array.toList_setIfInBounds]
  simp only [av]
  apply List.ext_getElem?
  intro j
  by_cases hj : j < 5
  · by_cases e1 : i = j
    · subst e1
      rw [List.getElem?_set_self (by simpa using hj)]
      simp [hj, setAt]
    · rw [List.getElem?_set_ne e1]
      simp only [List.getElem?_map, List.getElem?_range hj, Option.map_some, setAt]
      rw [if_neg (by omega)]
  · rw [List.getElem?_eq_none (by simp; omega), List.getElem?_eq_none (by simp; omega)]
theorem av_zero : av (fun _ => 0) = #[.int .i64 0, .int .i64 0, .int .i64 0, .int .i64 0, .int .i64 0] := rfl

/-- The sums of a list at triangles, and at circles. -/
def tS (l : List Ang) (xs : List Int) (k : Nat) : Nat → Int := fun j => sumN k (fun i => match l[i]? with | some a => if a.t = j then xs.getD i 0 else 0 | none => 0)
def cS (l : List Ang) (xs : List Int) (k : Nat) : Nat → Int := fun j => sumN k (fun i => match l[i]? with | some a => if a.c = j then xs.getD i 0 else 0 | none => 0)
theorem tS_yes {l : List Ang} {xs : List Int} {k : Nat} {a : Ang} {x : Int} (ha : l[k]? = some a) (hx : xs[k]? = some x) (h : 0 ≤ a.t) : tS l xs (k + 1) = setAt (tS l xs k) a.t.toNat (tS l xs k a.t.toNat + x) := by
  have ex : xs.getD k 0 = x := by rw [List.getD_eq_getElem?_getD, hx]; rfl
  funext j
  simp only [tS, sumN, setAt, ha, ex]
  by_cases e : j = a.t.toNat
  · subst e; rw [if_pos rfl, if_pos (by omega)]
  · rw [if_neg e, if_neg (by omega)]; omega
theorem tS_no {l : List Ang} {xs : List Int} {k : Nat} {a : Ang} (ha : l[k]? = some a) (h : ¬ 0 ≤ a.t) : tS l xs (k + 1) = tS l xs k := by
  funext j
  simp only [tS, sumN, ha]
  rw [if_neg (by omega)]; omega
theorem cS_yes {l : List Ang} {xs : List Int} {k : Nat} {a : Ang} {x : Int} (ha : l[k]? = some a) (hx : xs[k]? = some x) (h : 0 ≤ a.c) : cS l xs (k + 1) = setAt (cS l xs k) a.c.toNat (cS l xs k a.c.toNat + x) := by
  have ex : xs.getD k 0 = x := by rw [List.getD_eq_getElem?_getD, hx]; rfl
  funext j
  simp only [cS, sumN, setAt, ha, ex]
  by_cases e : j = a.c.toNat
  · subst e; rw [if_pos rfl, if_pos (by omega)]
  · rw [if_neg e, if_neg (by omega)]; omega
theorem cS_no {l : List Ang} {xs : List Int} {k : Nat} {a : Ang} (ha : l[k]? = some a) (h : ¬ 0 ≤ a.c) : cS l xs (k + 1) = cS l xs k := by
  funext j
  simp only [cS, sumN, ha]
  rw [if_neg (by omega)]; omega
theorem tS_bnd {l : List Ang} {xs : List Int} {k : Nat} (h : ∀ i, i < k → 0 ≤ xs.getD i 0 ∧ xs.getD i 0 ≤ 40) (j : Nat) : (0 ≤ tS l xs k j ∧ tS l xs k j ≤ 40 * (k : Int)) ∧ (0 ≤ cS l xs k j ∧ cS l xs k j ≤ 40 * (k : Int)) := by
  induction k with
  | zero => simp [tS, cS, sumN]
  | succ k ih =>
    have h1 := ih (fun i hi => h i (by omega))
    have h2 := h k (by omega)
    simp only [tS, cS, sumN] at h1 ⊢
    cases l[k]? with
    | none => simp only; omega
    | some a => simp only; split <;> split <;> omega
theorem tS_hS {l : List Ang} {T C : Nat} (hN : NetOk l T C) (xs : List Int) (t : Nat) (ht : t < 5) : hS l xs l.length t = tS l xs l.length t := by
  unfold hS tS
  refine sumN_congr fun i hi => ?_
  have ha : l[i]? = some l[i] := by simp [hi]
  have hao := hN.ok _ (List.mem_of_getElem? ha)
  have hT := hN.hT
  have h2 := tI_in hN i
  rw [if_neg (show ¬ tI l i = t by omega), ha]
  simp only [fI, ha]
  by_cases h1 : l[i].t = -1
  · have e10 : frN l[i] = 10 := by unfold frN nodeZ; rw [if_pos h1]; rfl
    rw [if_neg (by omega), if_neg (by omega)]; omega
  · have hf : (frN l[i] : Int) = l[i].t := by rw [frN_eq hao.1]; unfold nodeZ; rw [if_neg h1]; omega
    by_cases e : frN l[i] = t
    · rw [if_pos e, if_pos (by omega)]; omega
    · rw [if_neg e, if_neg (by omega)]; omega
theorem cS_hS {l : List Ang} {T C : Nat} (hN : NetOk l T C) (xs : List Int) (k : Nat) (hk : k < 5) : hS l xs l.length (5 + k) = cS l xs l.length k := by
  unfold hS cS
  refine sumN_congr fun i hi => ?_
  have ha : l[i]? = some l[i] := by simp [hi]
  have hao := hN.ok _ (List.mem_of_getElem? ha)
  have hT := hN.hT
  have hC := hN.hC
  have h1 := fI_in hN i
  rw [if_neg (show ¬ fI l i = 5 + k by omega), ha]
  simp only [tI, ha]
  by_cases h1 : l[i].c = -1
  · have e10 : toN l[i] = 10 := by unfold toN nodeZ; rw [if_pos h1]; rfl
    rw [if_neg (by omega), if_neg (by omega)]; omega
  · have hf : (toN l[i] : Int) = 5 + l[i].c := by rw [toN_eq hao.2.2.1]; unfold nodeZ; rw [if_neg h1]
    by_cases e : toN l[i] = 5 + k
    · rw [if_pos e, if_pos (by omega)]; omega
    · rw [if_neg e, if_neg (by omega)]; omega

/-- The memory of IsTruth. -/
structure SMem (w wr : World) (A : Option Addr) (n c : Nat) (T C : Int) (g h : Nat → Int) : Prop where
  net : NMem w wr A n c T C
  tri : wr.heap[w.heap.size + 1]? = some (.cells (av g) 117 (0, 0))
  cir : wr.heap[w.heap.size + 1 + 1]? = some (.cells (av h) 117 (0, 0))
section
variable {w wr w' : World} {A : Option Addr} {n c : Nat} {T C : Int} {g h : Nat → Int}
theorem SMem.step (m : SMem w wr A n c T C g h) (hb : Below wr.heap.size wr w') : SMem w w' A n c T C g h :=
  ⟨m.net.step hb, (hb.block _ (Array.getElem?_eq_some_iff.1 m.tri).1).trans m.tri, (hb.block _ (Array.getElem?_eq_some_iff.1 m.cir).1).trans m.cir⟩
theorem SMem.setTri (m : SMem w wr A n c T C g h) (k : Nat) (x : Int) : SMem w (wr.setCell ⟨w.heap.size + 1, k, none⟩ (.int .i64 x)) A n c T C (setAt g k x) h := by
  have e : ∀ b, b ≠ w.heap.size + 1 → (wr.setCell ⟨w.heap.size + 1, k, none⟩ (.int .i64 x)).heap[b]? = wr.heap[b]? := fun b hb => Below.heap_setCell _ _ _ _ hb
  refine ⟨⟨m.net.below.setCell (by show w.heap.size ≤ w.heap.size + 1; omega) _, (e _ (by omega)).trans m.net.net⟩, ?_, (e _ (by omega)).trans m.cir⟩
  rw [heap_setCell_self m.tri, av_set]
theorem SMem.setCir (m : SMem w wr A n c T C g h) (k : Nat) (x : Int) : SMem w (wr.setCell ⟨w.heap.size + 1 + 1, k, none⟩ (.int .i64 x)) A n c T C g (setAt h k x) := by
  have e : ∀ b, b ≠ w.heap.size + 1 + 1 → (wr.setCell ⟨w.heap.size + 1 + 1, k, none⟩ (.int .i64 x)).heap[b]? = wr.heap[b]? := fun b hb => Below.heap_setCell _ _ _ _ hb
  refine ⟨⟨m.net.below.setCell (by show w.heap.size ≤ w.heap.size + 1 + 1; omega) _, (e _ (by omega)).trans m.net.net⟩, (e _ (by omega)).trans m.tri, ?_⟩
  rw [heap_setCell_self m.cir, av_set]
end

set_option maxHeartbeats 8000000 in
set_option maxRecDepth 100000 in
theorem isTruth_any (w : World) (A R X : Option Addr) (l : List Ang) (xs : List Int) (c d cx : Nat) (T C : Nat) (lo hi : Nat → Int) (hA : AngAt w A l) (hRm : RmAt w R lo hi l.length) (hX : IntsAt w X xs) (hl : l.length ≤ 12) (_hxl : xs.length ≤ 1000000) (hN : NetOk l T C) (hR : RoomOk lo hi) :
    Calls Try.prog 29 #[.agg #[.slice A l.length c, .int .i64 T, .int .i64 C], .slice R l.length d, .slice X xs.length cx] w (BoolIff (xs.length = l.length ∧ TruthL l T C xs lo hi) w) := by
  by_cases hlen : xs.length = l.length
  · have hlen' : ((xs.length : Int) != l.length) = false := by simp [hlen]
    have HLEN := Lib.hid hlen
    have hX12 : xs.length ≤ 12 := by omega
    have hM0 : SMem w (((w.alloc (.cells #[.slice A l.length c, .int .i64 T, .int .i64 C] 24)).alloc (.cells (av fun _ => 0) 117)).alloc (.cells (av fun _ => 0) 117)) A l.length c T C (fun _ => 0) (fun _ => 0) :=
      ⟨⟨(((Below.refl _ w).alloc (Nat.le_refl _) _).alloc (by simp) _).alloc (by simp; omega) _, past_alloc (past_alloc (at_alloc rfl))⟩, past_alloc (at_alloc (by simp)), at_alloc (by simp)⟩
    rw [av_zero] at hM0
    clear hlen
    go_enter Try.func29, Try.ntmps29
    go_wp2_with fail
    generalize (((w.alloc (.cells #[.slice A l.length c, .int .i64 T, .int .i64 C] 24)).alloc (.cells #[.int .i64 0, .int .i64 0, .int .i64 0, .int .i64 0, .int .i64 0] 117)).alloc (.cells #[.int .i64 0, .int .i64 0, .int .i64 0, .int .i64 0, .int .i64 0] 117)) = W0 at *
    go_loopw [9] (fun t wr => ∃ k : Nat, k ≤ xs.length ∧ t = .int .i64 k ∧ SMem w wr A l.length c T C (tS l xs k) (cS l xs k) ∧ Hid (InRooms xs lo hi k)) (fun t _ => xs.length - (intOf t).toNat)
    case atStart => exact ⟨0, Nat.zero_le _, rfl, hM0, Lib.hid (fun i hi => by omega)⟩
    case round =>
      clear hM0
      obtain ⟨k, hk, rfl, hM, hin⟩ := hrel
      by_cases hlt : k < xs.length
      · have hltl : k < l.length := by rw [← HLEN.out]; exact hlt
        obtain ⟨x, hx⟩ : ∃ x, xs[k]? = some x := ⟨xs[k], by simp [hlt]⟩
        obtain ⟨a, ha⟩ : ∃ a, l[k]? = some a := ⟨l[k], by simp [hltl]⟩
        have hao := hN.ok a (List.mem_of_getElem? ha)
        have hT5 := hN.hT
        have hC5 := hN.hC
        obtain ⟨bx, ox, rfl, hbx, hcx⟩ := hX.below hM.net.below k x hx
        obtain ⟨rb, ro, rfl, hrb, hr0, hr1⟩ := hRm.below hM.net.below k hltl
        obtain ⟨b, o, rfl, hb, ha0, ha1, ha2, ha3⟩ := hA.below hM.net.below k a ha
        have hk0 : (0 : Int) ≤ k := by omega
        have hk1 : (k : Int) < l.length := by omega
        have hk2 : (k : Int) < xs.length := by omega
        have hxd : xs.getD k 0 = x := by rw [List.getD_eq_getElem?_getD, hx]; rfl
        go_wp2_with fail
        go_region_held3 (fun w' => w'.cell? ⟨bx, ox + k, none⟩ = some (.int .i64 x) ∧ w'.cell? ⟨rb, ro + k * 2, none⟩ = some (.int .i64 (lo k)) ∧ w'.cell? ⟨rb, ro + k * 2 + 1, none⟩ = some (.int .i64 (hi k)))
          (exact ⟨hcx, hr0, hr1⟩)
          (first | (go_at_call 58; refine (in_any _ _ _ _).mono ?_; rintro e w' ⟨rfl, rfl⟩))
        have hM1 := hM.step (Below.refl _ wr).drew
        have hbxw : bx < wr.heap.size := hbx
        have hbw : b < wr.heap.size := hb
        have hd0 : Below wr.heap.size wr wr.drew := (Below.refl _ wr).drew
        have hcx1 := (hd0.cell (p := ⟨bx, ox + k, none⟩) hbx).trans hcx
        have ha01 := (hd0.cell (p := ⟨b, o + k * 4, none⟩) hb).trans ha0
        have ha11 := (hd0.cell (p := ⟨b, o + k * 4 + 1, none⟩) hb).trans ha1
        have hs1 := hd0.size
        clear hM hcx hr0 hr1 ha0 ha1 ha2 ha3 hrb
        by_cases hw : lo k ≤ x ∧ x ≤ hi k
        · have d1 : (!decide (lo k ≤ x) || !decide (x ≤ hi k)) = false := by simp [hw.1, hw.2]
          simp only [d1]
          have hin2 : Hid (InRooms xs lo hi (k + 1)) := Lib.hid (fun i hi => by
            by_cases e : i = k
            · subst e; rw [hxd]; exact hw
            · exact hin.out i (by omega))
          have hgb := tS_bnd (l := l) (xs := xs) (k := k) (fun i hi => by have := hin.out i hi; have := hR.lo0 i; have := hR.hi0 i; omega)
          have hx40 : 0 ≤ x ∧ x ≤ 40 := by have := hR.lo0 k; have := hR.hi0 k; omega
          clear hw hxd hin
          have hbx1 : bx < wr.drew.heap.size := hbx
          have hb1 : b < wr.drew.heap.size := hb
          clear hd0 hs1 hbxw hbw hbx hb
          generalize wr.drew = W1 at *
          have n0 := cell_of_block (j := 0) (v := .slice (some ⟨b, o, none⟩) l.length c) hM1.net.net rfl
          have hsn := hM1.net.lt
          by_cases ht : 0 ≤ a.t
          case' pos =>
            have HT := Lib.hid (tS_yes ha hx ht)
            obtain ⟨tn, htn⟩ := Int.eq_ofNat_of_zero_le ht
            rw [htn] at ha01
            rw [htn] at HT
            have htn5 : (tn : Int) < 5 := by omega
            have htn0 : (0 : Int) ≤ tn := by omega
            have hdt : decide ((0 : Int) ≤ tn) = true := decide_eq_true htn0
            have g0 := cell_of_block (j := tn) hM1.tri (av_get (by omega))
            have f0 := free_of_block (j := tn) hM1.tri
            have hgt := (hgb tn).1
            clear ht
            go_wp2_with fail
            go_region
            have hM2 := (hM1.setTri tn (tS l xs k tn + x)).step (Below.refl _ _).drew
            rw [show setAt (tS l xs k) tn (tS l xs k tn + x) = tS l xs (k + 1) from HT.out.symm] at hM2
            have hcx2 : (W1.setCell ⟨w.heap.size + 1, tn, none⟩ (.int .i64 (tS l xs k tn + x))).drew.cell? ⟨bx, ox + k, none⟩ = some (.int .i64 x) := by
              show (W1.setCell ⟨w.heap.size + 1, tn, none⟩ (.int .i64 (tS l xs k tn + x))).cell? ⟨bx, ox + k, none⟩ = _
              obtain ⟨b', o', e', hb', hc'⟩ := hX k x hx
              cases e'
              rw [World.cell?_setCell_far _ _ _ _ (by show w.heap.size + 1 ≠ bx; omega)]; exact hcx1
            have hac2 : (W1.setCell ⟨w.heap.size + 1, tn, none⟩ (.int .i64 (tS l xs k tn + x))).drew.cell? ⟨b, o + k * 4 + 1, none⟩ = some (.int .i64 a.c) := by
              show (W1.setCell ⟨w.heap.size + 1, tn, none⟩ (.int .i64 (tS l xs k tn + x))).cell? ⟨b, o + k * 4 + 1, none⟩ = _
              obtain ⟨b', o', e', hb', _⟩ := hA k a ha
              cases e'
              rw [World.cell?_setCell_far _ _ _ _ (by show w.heap.size + 1 ≠ b; omega)]; exact ha11
            clear hM1 hcx1 ha01 ha11 g0 f0 hgt n0 HT htn hdt
            generalize (W1.setCell ⟨w.heap.size + 1, tn, none⟩ (.int .i64 (tS l xs k tn + x))).drew = W2 at *
          case' neg =>
            have HT := Lib.hid (tS_no (xs := xs) ha ht)
            have hdt : decide ((0 : Int) ≤ a.t) = false := decide_eq_false ht
            obtain ⟨W2, hW2⟩ : ∃ W2, W2 = W1 := ⟨_, rfl⟩
            subst hW2
            have hM2 := hM1
            rw [show tS l xs k = tS l xs (k + 1) from HT.out.symm] at hM2
            have hcx2 := hcx1
            have hac2 := ha11
            clear HT ht hM1 hcx1 ha11 n0
          all_goals
            have n0 := cell_of_block (j := 0) (v := .slice (some ⟨b, o, none⟩) l.length c) hM2.net.net rfl
            by_cases hc : 0 ≤ a.c
            case' pos =>
              have HC := Lib.hid (cS_yes ha hx hc)
              obtain ⟨cn, hcn⟩ := Int.eq_ofNat_of_zero_le hc
              rw [hcn] at hac2
              rw [hcn] at HC
              have hcn5 : (cn : Int) < 5 := by omega
              have hcn0 : (0 : Int) ≤ cn := by omega
              have hdc : decide ((0 : Int) ≤ cn) = true := decide_eq_true hcn0
              have g0 := cell_of_block (j := cn) hM2.cir (av_get (by omega))
              have f0 := free_of_block (j := cn) hM2.cir
              have hgt := (hgb cn).2
              clear hc
              go_wp2_with fail
              go_region
              have hM3 := (hM2.setCir cn (cS l xs k cn + x)).step (Below.refl _ _).drew
              rw [show setAt (cS l xs k) cn (cS l xs k cn + x) = cS l xs (k + 1) from HC.out.symm] at hM3
              clear hM2 g0 f0 n0
              go_wp2_with fail
              go_roundw
              case rel => exact ⟨k + 1, by omega, by go_num, hM3, hin2⟩
              case measure => simp [intOf]; omega
            case' neg =>
              have HC := Lib.hid (cS_no (xs := xs) ha hc)
              have hdc : decide ((0 : Int) ≤ a.c) = false := decide_eq_false hc
              have hM3 := hM2
              rw [show cS l xs k = cS l xs (k + 1) from HC.out.symm] at hM3
              have HM3 := Lib.hid hM3
              clear hc hM3
              go_wp2_with fail
              go_roundw
              case rel => exact ⟨k + 1, by omega, by go_num, HM3.out, hin2⟩
              case measure => simp [intOf]; omega
        · have d1 : (!decide (lo k ≤ x) || !decide (x ≤ hi k)) = true := by
            by_cases h : lo k ≤ x
            · have h2 : ¬ x ≤ hi k := fun h2 => hw ⟨h, h2⟩
              simp only [h2, decide_false, Bool.not_false, Bool.or_true]
            · simp only [h, decide_false, Bool.not_false, Bool.true_or]
          simp only [d1]
          have HN : Hid (¬ InRooms xs lo hi l.length) := Lib.hid (fun h => by have := h k hltl; rw [hxd] at this; exact hw this)
          clear hw
          go_wp2_with fail
          go_ret
          exact .no hM1.net.below (fun h => HN.out h.2.1)
      · obtain rfl : k = xs.length := by omega
        have hin3 : Hid (InRooms xs lo hi l.length) := Lib.hid (by rw [← HLEN.out]; exact hin.out)
        have HT1 : Hid (∀ t, t < 5 → hS l xs l.length t = tS l xs xs.length t) := Lib.hid (fun t ht => by rw [HLEN.out]; exact tS_hS hN xs t ht)
        have HC1 : Hid (∀ t, t < 5 → hS l xs l.length (5 + t) = cS l xs xs.length t) := Lib.hid (fun t ht => by rw [HLEN.out]; exact cS_hS hN xs t ht)
        have hT5 := hN.hT
        have hC5 := hN.hC
        have n1 := cell_of_block (j := 1) (v := .int .i64 T) hM.net.net rfl
        have n2 := cell_of_block (j := 2) (v := .int .i64 C) hM.net.net rfl
        clear hin
        generalize tS l xs xs.length = g at *
        generalize cS l xs xs.length = h at *
        go_wp2_with fail
        go_loop [12] (fun t => ∃ j : Nat, j ≤ 5 ∧ t = .int .i64 j ∧ Hid (∀ i, i < j → (i < T → g i = 36) ∧ (i < C → h i = 72))) (fun t => 5 - (intOf t).toNat)
        case atStart => exact ⟨0, Nat.zero_le _, rfl, Lib.hid (fun i hi => by omega)⟩
        case round =>
          obtain ⟨j, hj, rfl, hall⟩ := hrel
          by_cases hlj : j < 5
          · have gj := cell_of_block (j := j) hM.tri (av_get hlj)
            have hj' := cell_of_block (j := j) hM.cir (av_get hlj)
            have hj0 : (0 : Int) ≤ j := by omega
            have hj1 : (j : Int) < 5 := by omega
            by_cases hok : (j < T → g j = 36) ∧ (j < C → h j = 72)
            · have HN : Hid (∀ i, i < j + 1 → (i < T → g i = 36) ∧ (i < C → h i = 72)) := Lib.hid (fun i hi => by
                by_cases e : i = j
                · subst e; exact hok
                · exact hall.out i (by omega))
              by_cases p1 : j < T
              · have d1 : decide ((j : Int) < T) = true := decide_eq_true (by omega)
                have d2 : (g j != 36) = false := by simp [hok.1 p1]
                by_cases p2 : j < C
                · have d3 : decide ((j : Int) < C) = true := decide_eq_true (by omega)
                  have d4 : (h j != 72) = false := by simp [hok.2 p2]
                  clear hok
                  go_wp2_with fail
                  go_round
                  case rel => exact ⟨j + 1, by omega, by go_num, HN⟩
                  case measure => simp [intOf]; omega
                · have d3 : decide ((j : Int) < C) = false := decide_eq_false (by omega)
                  clear hok
                  go_wp2_with fail
                  go_round
                  case rel => exact ⟨j + 1, by omega, by go_num, HN⟩
                  case measure => simp [intOf]; omega
              · have d1 : decide ((j : Int) < T) = false := decide_eq_false (by omega)
                by_cases p2 : j < C
                · have d3 : decide ((j : Int) < C) = true := decide_eq_true (by omega)
                  have d4 : (h j != 72) = false := by simp [hok.2 p2]
                  clear hok
                  go_wp2_with fail
                  go_round
                  case rel => exact ⟨j + 1, by omega, by go_num, HN⟩
                  case measure => simp [intOf]; omega
                · have d3 : decide ((j : Int) < C) = false := decide_eq_false (by omega)
                  clear hok
                  go_wp2_with fail
                  go_round
                  case rel => exact ⟨j + 1, by omega, by go_num, HN⟩
                  case measure => simp [intOf]; omega
            · by_cases p1 : j < T ∧ g j ≠ 36
              · have d1 : decide ((j : Int) < T) = true := decide_eq_true (by omega)
                have d2 : (g j != 36) = true := by simp [p1.2]
                have HN : Hid (¬ TruthL l T C xs lo hi) := Lib.hid (fun q => p1.2 (by rw [← HT1.out j hlj]; exact q.2.1 j p1.1))
                obtain ⟨p1, p1'⟩ := p1
                clear hok
                go_wp2_with fail
                go_ret
                exact .no hM.net.below (fun q => HN.out q.2)
              · have p2 : j < C ∧ h j ≠ 72 := by
                  refine Classical.byContradiction fun hn => hok ⟨fun q => Classical.byContradiction fun e => p1 ⟨q, e⟩, fun q => Classical.byContradiction fun e => hn ⟨q, e⟩⟩
                have d3 : decide ((j : Int) < C) = true := decide_eq_true (by omega)
                have d4 : (h j != 72) = true := by simp [p2.2]
                have HN : Hid (¬ TruthL l T C xs lo hi) := Lib.hid (fun q => p2.2 (by rw [← HC1.out j hlj]; exact q.2.2 j p2.1))
                obtain ⟨p2, p2'⟩ := p2
                clear hok
                by_cases p3 : j < T
                · have d1 : decide ((j : Int) < T) = true := decide_eq_true (by omega)
                  have d2 : (g j != 36) = false := by
                    have : g j = 36 := Classical.byContradiction fun e => p1 ⟨p3, e⟩
                    simp [this]
                  clear p1
                  go_wp2_with fail
                  go_ret
                  exact .no hM.net.below (fun q => HN.out q.2)
                · have d1 : decide ((j : Int) < T) = false := decide_eq_false (by omega)
                  clear p1
                  go_wp2_with fail
                  go_ret
                  exact .no hM.net.below (fun q => HN.out q.2)
          · obtain rfl : j = 5 := by omega
            have HN : Hid (TruthL l T C xs lo hi) := Lib.hid ⟨hin3.out, fun t ht => by rw [HT1.out t (by omega)]; exact (hall.out t (by omega)).1 ht, fun t ht => by rw [HC1.out t (by omega)]; exact (hall.out t (by omega)).2 ht⟩
            go_wp2_with fail
            go_ret
            exact .yes hM.net.below ⟨HLEN.out, HN.out⟩
  · have hlen' : ((xs.length : Int) != l.length) = true := by simp; omega
    have hM := NMem.made w A l.length c T C
    have HN : Hid (¬ xs.length = l.length) := Lib.hid hlen
    clear hlen
    go_enter Try.func29, Try.ntmps29
    go_wp2_with fail
    go_ret
    exact .no hM.below (fun h => HN.out h.1)
end Go.Proofs.Ytnhbplnhhloklaa
