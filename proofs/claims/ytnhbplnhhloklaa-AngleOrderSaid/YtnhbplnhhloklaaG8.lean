/- The law on the order of triangles and circles: its walk. -/
import Derived.Test.YtnhbplnhhloklaaK3
namespace Go.Proofs.Ytnhbplnhhloklaa
open Go.RowKit
attribute [local go_sem ↓] eq58 guard58

/-- An angle renumbered. -/
def FullR (T C s q : Nat) (a a' : Ang) : Prop := a'.r = a.r ∧ a'.w = a.w ∧ (a'.t = if 0 ≤ a.t then (a.t + s) % (T : Int) else a.t) ∧ (a'.c = if 0 ≤ a.c then (a.c + q) % (C : Int) else a.c)
/-- An angle whose triangle is renumbered. -/
def HalfR (T s : Nat) (a a' : Ang) : Prop := a'.r = a.r ∧ a'.w = a.w ∧ (a'.t = if 0 ≤ a.t then (a.t + s) % (T : Int) else a.t) ∧ a'.c = a.c
def PartR (T C s q k i : Nat) (a a' : Ang) : Prop := if i < k then FullR T C s q a a' else a' = a
def PartM (T C s q k i : Nat) (a a' : Ang) : Prop := if i < k then FullR T C s q a a' else if i = k then HalfR T s a a' else a' = a

set_option maxHeartbeats 16000000 in
set_option maxRecDepth 100000 in
theorem order_walk (w : World) (A : Option Addr) (l : List Ang) (c : Nat) (T C : Int) (a b : Int) (hA : AngAt w A l) (hl : l.length ≤ 9223372036854775807) (ha : (Lit.int .u8 a).wf = true) (hb : (Lit.int .u8 b).wf = true) :
    Calls Try.prog 14 #[.agg #[.slice A l.length c, .int .i64 T, .int .i64 C], .int .u8 a, .int .u8 b] w (Holds w) := by
  have hM := NMem.made w A l.length c T C
  have ha8 := u8_in ha
  have hb8 := u8_in hb
  by_cases h1 : l.length ≤ 15
  · have h1' : decide (l.length ≤ 15) = true := decide_eq_true h1
    have HL := Lib.hid h1'
    have hl2 : l.length ≤ 1000 := by omega
    clear h1 h1' ha hb
    go_enter Try.func14, Try.ntmps14
    go_wp2_with fail
    refine (thin_any _ _ _ _ _ _ hl).mono ?_
    rintro e W1 ⟨hb1, he⟩
    rw [HL.out] at he
    subst he
    have hM1 := hM.step hb1
    clear hM hb1 HL
    have c0 := cell_of_block (j := 0) (v := .slice A l.length c) hM1.net rfl
    have c1 := cell_of_block (j := 1) (v := .int .i64 T) hM1.net rfl
    have c2 := cell_of_block (j := 2) (v := .int .i64 C) hM1.net rfl
    go_wp2_with fail
    refine (lfault_any _ A l c T C (hA.below hM1.below) hl2).mono ?_
    rintro e W2 ⟨hb2, rfl⟩
    have hM2 := hM1.step hb2
    clear hM1 hb2 c0 c1 c2
    by_cases hz : faultN l T C = 0
    · have hz' : (faultN l T C != 0) = false := by simp [hz]
      obtain ⟨T, C, rfl, rfl, hV⟩ := valid_of hz
      have hl12 := hV.len.2
      have hl0 := hV.len.1
      obtain ⟨a0, ha0⟩ : ∃ x, l[0]? = some x := ⟨l[0], by simp [hl0]⟩
      obtain ⟨b0, o0, rfl, _⟩ := hA 0 a0 ha0
      clear ha0
      have c0 := cell_of_block (j := 0) (v := .slice (some ⟨b0, o0, none⟩) l.length c) hM2.net rfl
      have c1 := cell_of_block (j := 1) (v := .int .i64 T) hM2.net rfl
      have c2 := cell_of_block (j := 2) (v := .int .i64 C) hM2.net rfl
      have hal : Below W2.heap.size W2 ((W2.alloc (.cells #[.slice (some ⟨b0, o0, none⟩) l.length c, .int .i64 T, .int .i64 C] 24)).alloc (.cells #[] 74)) := ((Below.refl _ W2).alloc (Nat.le_refl _) _).alloc (by simp) _
      have hnw := ang_cells ((hA.below hM2.below).below hal)
      have how0 := World.ownsRow_made (base := W2.heap.size + 1) (e := 74) (size := 4) (W2.alloc (.cells #[.slice (some ⟨b0, o0, none⟩) l.length c, .int .i64 T, .int .i64 C] 24)) #[] 0 (by simp) (by decide) (by simp)
      have how : ((W2.alloc (.cells #[.slice (some ⟨b0, o0, none⟩) l.length c, .int .i64 T, .int .i64 C] 24)).alloc (.cells #[] 74)).ownsRow (W2.heap.size + 1) 74 4 (.slice (some ⟨W2.heap.size + 1, 0, none⟩) 0 0) 0 [] := by simpa using how0
      have hcp : ((W2.alloc (.cells #[.slice (some ⟨b0, o0, none⟩) l.length c, .int .i64 T, .int .i64 C] 24)).alloc (.cells #[] 74)).heap[W2.heap.size]? = some (.cells #[.slice (some ⟨b0, o0, none⟩) l.length c, .int .i64 T, .int .i64 C] 24 (0, 0)) := past_alloc (at_alloc rfl)
      have hszA : W2.heap.size + 1 ≤ ((W2.alloc (.cells #[.slice (some ⟨b0, o0, none⟩) l.length c, .int .i64 T, .int .i64 C] 24)).alloc (.cells #[] 74)).heap.size := by simp
      have hs2 := hM2.lt
      have HO := Lib.hid how
      have HW := Lib.hid hnw
      have HC := Lib.hid hcp
      have HM2 := Lib.hid hM2
      clear hz how how0 hnw hcp hal hM2
      go_wp2_with (at_builtin; refine wpList_pushN elem22 ((W2.alloc (.cells #[.slice (some ⟨b0, o0, none⟩) l.length c, .int .i64 T, .int .i64 C] 24)).alloc (.cells #[] 74)) (by rfl) (.tmp 34) (.tmp 36) (by rfl) (W2.heap.size + 1) _ 0 [] (by rfl) HO.out ⟨b0, o0, none⟩ l.length c l.length (angL l) (by rfl) HW.out (angL_len _) (angL_one _) hl0 (Nat.zero_add _) (by omega) hszA ?_; intro g cap w1 how1 hbe1; have cq := cell_of_block (j := 0) ((hbe1.block W2.heap.size (Nat.lt_succ_self _)).trans HC.out) rfl; have fq := free_of_block (j := 0) ((hbe1.block W2.heap.size (Nat.lt_succ_self _)).trans HC.out))
      have hK := KMem.made HM2.out (by simpa using how1) hbe1
      clear how1 hbe1 cq fq HO HW HC hszA hs2 HM2 c0 c1 c2
      generalize w1.setCell ⟨W2.heap.size, 0, none⟩ (.slice (some ⟨g, 0, none⟩) l.length cap) = W5 at *
      have hT5 := hV.net.hT
      have hC5 := hV.net.hC
      obtain ⟨bn, rfl⟩ := Int.eq_ofNat_of_zero_le hb8.1
      have hbn : bn ≤ 255 := by omega
      clear hb8
      have HS := Lib.hid (show ((bn % 16 : Nat) : Int) = (bn : Int) % 16 by omega)
      have HQ := Lib.hid (show ((bn / 16 : Nat) : Int) = (bn : Int) / 16 by omega)
      go_loopw [8] (fun t wr => ∃ (k : Nat) (l' : List Ang), k ≤ l.length ∧ t = .int .i64 k ∧ KMem w wr (some ⟨b0, o0, none⟩) l.length c T C W2.heap.size g cap l' ∧ Hid (Turn l l' (PartR T C (bn % 16) (bn / 16) k))) (fun t _ => l.length - (intOf t).toNat)
      case atStart => exact ⟨0, l, Nat.zero_le _, rfl, hK, Lib.hid ⟨rfl, fun i a ha => ⟨a, ha, by unfold PartR; rw [if_neg (by omega)]⟩⟩⟩
      case round =>
        clear hK
        obtain ⟨k, l', hk, rfl, hK, hR⟩ := hrel
        have hlen := hR.out.len
        obtain ⟨k0, k1, k2⟩ := hK.cells
        by_cases hlt : k < l.length
        · obtain ⟨x, hx⟩ : ∃ x, l[k]? = some x := ⟨l[k], by simp [hlt]⟩
          have hox := hV.net.ok x (List.mem_of_getElem? hx)
          obtain ⟨x', hx', hxe⟩ := hR.out.at' k x hx
          have hxe2 : x' = x := by unfold PartR at hxe; rwa [if_neg (by omega)] at hxe
          subst hxe2
          obtain ⟨q0, q1, q2, q3⟩ := hK.ang hx'
          have fz := hK.free (k * 4)
          have n1 := cell_of_block (j := 1) (v := .int .i64 T) hK.net.net rfl
          have hk0 : (0 : Int) ≤ k := by omega
          have hk1 : (k : Int) < l.length := by omega
          have hk2 : (k : Int) < l'.length := by omega
          have hlt2 : k < l'.length := by omega
          clear hxe
          by_cases ht : 0 ≤ x'.t
          case' pos =>
            obtain ⟨y, hy⟩ : ∃ y, (x'.t + (bn : Int) % 16) % (T : Int) = y := ⟨_, rfl⟩
            have hy2 : (x'.t + (bn : Int) % 16).tmod (T : Int) = y := by rw [Int.tmod_eq_emod_of_nonneg (by omega)]; exact hy
            have hTne : (T : Int) ≠ 0 := by omega
            have hTn : T ≠ 0 := by omega
            have hTb : ((T : Int) == 0) = false := by simp [hTn]
            have hyb : 0 ≤ y ∧ y < T := by rw [← hy]; exact ⟨Int.emod_nonneg _ hTne, Int.emod_lt_of_pos _ (by omega)⟩
            have hdt : decide ((0 : Int) ≤ x'.t) = true := decide_eq_true ht
            go_wp2_with fail
            go_region
            have hK2 := (hK.put0 y hx').step (Below.refl _ _).drew
            have HM : Hid (Turn l (l'.set k (x'.put 0 y)) (PartM T C (bn % 16) (bn / 16) k)) := Lib.hid (hR.out.set hx (by unfold PartM; rw [if_neg (by omega), if_pos rfl]; exact ⟨rfl, rfl, by rw [if_pos ht, HS.out]; exact hy.symm, rfl⟩) (fun i a a' hi h => by
              unfold PartR at h; unfold PartM
              by_cases e : i < k
              · rw [if_pos e] at h ⊢; exact h
              · rw [if_neg e] at h; rw [if_neg e, if_neg hi]; exact h))
            have hx2 : (l'.set k (x'.put 0 y))[k]? = some (x'.put 0 y) := List.getElem?_set_self hlt2
            have hl2 : (l'.set k (x'.put 0 y)).length = l.length := by rw [List.length_set]; exact hlen
            have hc2 : (x'.put 0 y).c = x'.c := rfl
            clear hy hy2 hyb hdt hK hR
            generalize (wr.setCell ⟨g, k * 4, none⟩ (.int .i64 y)).drew = W6 at *
            generalize x'.put 0 y = x2 at *
            generalize l'.set k x2 = l2 at *
          case' neg =>
            have hdt : decide ((0 : Int) ≤ x'.t) = false := decide_eq_false ht
            have HM : Hid (Turn l l' (PartM T C (bn % 16) (bn / 16) k)) := Lib.hid (hR.out.mono (fun i a a' ha h => by
              unfold PartR at h; unfold PartM
              by_cases e : i < k
              · rw [if_pos e] at h ⊢; exact h
              · rw [if_neg e] at h; rw [if_neg e]
                by_cases e2 : i = k
                · subst e2
                  rw [hx] at ha
                  cases ha
                  rw [if_pos rfl, h]
                  exact ⟨rfl, rfl, by rw [if_neg ht], rfl⟩
                · rw [if_neg e2]; exact h))
            have hK2 := hK
            have hx2 := hx'
            have hl2 := hlen
            have q0' := q0
            have hc2 : x'.c = x'.c := rfl
            clear hK hR
            generalize wr = W6 at *
            obtain ⟨x2, ex2⟩ : ∃ x2, x2 = x' := ⟨_, rfl⟩
            rw [← ex2] at hx2
            replace hc2 : x2.c = x'.c := by rw [ex2]
            clear ex2
            generalize l' = l2 at *
          all_goals
            clear q0 q1 q2 q3 fz n1 k0 k1 k2 hx'
            obtain ⟨k0, k1, k2⟩ := hK2.cells
            obtain ⟨q0, q1, q2, q3⟩ := hK2.ang hx2
            rw [hc2] at q1
            have fz := hK2.free (k * 4 + 1)
            have n2 := cell_of_block (j := 2) (v := .int .i64 C) hK2.net.net rfl
            have hk3 : (k : Int) < l2.length := by omega
            have hlt3 : k < l2.length := by omega
            by_cases hc : 0 ≤ x'.c
            · obtain ⟨z, hz⟩ : ∃ z, (x'.c + (bn : Int) / 16) % (C : Int) = z := ⟨_, rfl⟩
              have hz2 : (x'.c + (bn : Int) / 16).tmod (C : Int) = z := by rw [Int.tmod_eq_emod_of_nonneg (by omega)]; exact hz
              have hCne : (C : Int) ≠ 0 := by omega
              have hCn : C ≠ 0 := by omega
              have hCb : ((C : Int) == 0) = false := by simp [hCn]
              have hdc : decide ((0 : Int) ≤ x'.c) = true := decide_eq_true hc
              go_wp2_with fail
              go_region
              have hK3 := (hK2.put (j := 1) z hx2 (by omega)).step (Below.refl _ _).drew
              have HR2 : Hid (Turn l (l2.set k (x2.put 1 z)) (PartR T C (bn % 16) (bn / 16) (k + 1))) := Lib.hid (by
                obtain ⟨x3, hx3, hp3⟩ := HM.out.at' k _ hx
                rw [hx2] at hx3
                cases hx3
                unfold PartM at hp3
                rw [if_neg (by omega), if_pos rfl] at hp3
                refine HM.out.set hx (by unfold PartR; rw [if_pos (by omega)]; exact ⟨hp3.1, hp3.2.1, hp3.2.2.1, by rw [if_pos hc, HQ.out]; exact hz.symm⟩) (fun i a a' hi h => ?_)
                unfold PartM at h; unfold PartR
                by_cases e : i < k
                · rw [if_pos e] at h; rw [if_pos (by omega)]; exact h
                · rw [if_neg e, if_neg hi] at h; rw [if_neg (by omega)]; exact h)
              clear hz hz2 hdc hK2 HM q0 q1 q2 q3 fz n2 k0 k1 k2
              go_wp2_with fail
              go_roundw
              case rel => exact ⟨k + 1, _, by omega, by go_num, hK3, HR2⟩
              case measure => simp [intOf]; omega
            · have hdc : decide ((0 : Int) ≤ x'.c) = false := decide_eq_false hc
              have HR2 : Hid (Turn l l2 (PartR T C (bn % 16) (bn / 16) (k + 1))) := Lib.hid (HM.out.mono (fun i a a' ha h => by
                unfold PartM at h; unfold PartR
                by_cases e : i < k
                · rw [if_pos e] at h; rw [if_pos (by omega)]; exact h
                · rw [if_neg e] at h
                  by_cases e2 : i = k
                  · subst e2
                    rw [if_pos rfl] at h
                    rw [hx] at ha
                    cases ha
                    rw [if_pos (by omega)]
                    exact ⟨h.1, h.2.1, h.2.2.1, by rw [if_neg hc]; exact h.2.2.2⟩
                  · rw [if_neg e2] at h; rw [if_neg (by omega)]; exact h))
              clear HM
              go_wp2_with fail
              go_roundw
              case rel => exact ⟨k + 1, _, by omega, by go_num, hK2, HR2⟩
              case measure => simp [intOf]; omega
        · obtain rfl : k = l.length := by omega
          have hren : Renum l l' T C (bn % 16) (bn / 16) := ⟨hlen, fun i a ha => by
            obtain ⟨a', h1, h2⟩ := hR.out.at' i a ha
            unfold PartR at h2
            rw [if_pos (List.getElem?_eq_some_iff.1 ha).1] at h2
            exact ⟨a', h1, h2⟩⟩
          have hAl := hren.alike hV.net
          have hV' : Valid l' T C := ⟨by rw [hlen]; exact hV.len, hren.net hV.net, fun a' ha' => by
            obtain ⟨i, hi⟩ := List.getElem?_of_mem ha'
            have hil : i < l.length := by have := (List.getElem?_eq_some_iff.1 hi).1; omega
            obtain ⟨a2, h1, h4, h5, _⟩ := hren.at' i l[i] (by simp [hil])
            rw [hi] at h1
            cases h1
            have := hV.reads l[i] (by simp)
            unfold ReadOk at this ⊢
            rw [h4, h5]; exact this⟩
          have HA := Lib.hid hAl
          have hl'2 : l'.length ≤ 1000 := by omega
          have HLEN := Lib.hid hlen
          clear hR hren hAl
          have c0 := cell_of_block (j := 0) (v := .slice (some ⟨b0, o0, none⟩) l.length c) hK.net.net rfl
          have c1 := cell_of_block (j := 1) (v := .int .i64 T) hK.net.net rfl
          have c2 := cell_of_block (j := 2) (v := .int .i64 C) hK.net.net rfl
          go_wp2_with fail
          refine (net_any _ (some ⟨b0, o0, none⟩) l c T C (hA.below hK.net.below) hl2).mono ?_
          rintro e W20 ⟨hb20, Bn1, dn1, rfl, hBn1, hBfn1⟩
          have hK20 := hK.step hb20
          clear hK hb20 c0 c1 c2 k0 k1 k2 hlen
          go_wp2_with fail
          refine (least_out hBn1 hV).mono ?_
          rintro e W21 ⟨hb21, vn1, sn1, rfl, hv⟩
          have hK21 := hK20.step hb21
          have Hn1 := Lib.hid hv
          clear hK20 hb21 hv hBn1 hBfn1
          obtain ⟨c0, c1, c2⟩ := hK21.cells
          go_wp2_with fail
          refine (net_any _ (some ⟨g, 0, none⟩) l' cap T C hK21.row hl'2).mono ?_
          rintro e W22 ⟨hb22, Bn2, dn2, rfl, hBn2, hBfn2⟩
          have hK22 := hK21.step hb22
          clear hK21 hb22 c0 c1 c2
          go_wp2_with fail
          refine (least_out hBn2 hV').mono ?_
          rintro e W23 ⟨hb23, vn2, sn2, rfl, hv⟩
          have hK23 := hK22.step hb23
          have Hn2 := Lib.hid hv
          clear hK22 hb23 hv hBn2 hBfn2
          have c0 := cell_of_block (j := 0) (v := .slice (some ⟨b0, o0, none⟩) l.length c) hK23.net.net rfl
          have c1 := cell_of_block (j := 1) (v := .int .i64 T) hK23.net.net rfl
          have c2 := cell_of_block (j := 2) (v := .int .i64 C) hK23.net.net rfl
          go_wp2_with fail
          refine (net_any _ (some ⟨b0, o0, none⟩) l c T C (hA.below hK23.net.below) hl2).mono ?_
          rintro e W24 ⟨hb24, Bb1, db1, rfl, hBb1, hBfb1⟩
          have hK24 := hK23.step hb24
          clear hK23 hb24 c0 c1 c2
          go_wp2_with fail
          refine (bounds_out hBb1 hV (by omega)).mono ?_
          rintro e W25 ⟨hb25, vb1, sb1, rfl, hv⟩
          have hK25 := hK24.step hb25
          have Hb1 := Lib.hid hv
          clear hK24 hb25 hv hBb1 hBfb1
          obtain ⟨c0, c1, c2⟩ := hK25.cells
          go_wp2_with fail
          refine (net_any _ (some ⟨g, 0, none⟩) l' cap T C hK25.row hl'2).mono ?_
          rintro e W26 ⟨hb26, Bb2, db2, rfl, hBb2, hBfb2⟩
          have hK26 := hK25.step hb26
          replace Hb1 := Lib.hid (Hb1.out.below hb26)
          clear hK25 hb26 c0 c1 c2
          go_wp2_with fail
          refine (bounds_out hBb2 hV' (by omega)).mono ?_
          rintro e W27 ⟨hb27, vb2, sb2, rfl, hv⟩
          have hK27 := hK26.step hb27
          replace Hb1 := Lib.hid (Hb1.out.below hb27)
          have Hb2 := Lib.hid hv
          clear hK26 hb27 hv hBb2 hBfb2
          have c0 := cell_of_block (j := 0) (v := .slice (some ⟨b0, o0, none⟩) l.length c) hK27.net.net rfl
          have c1 := cell_of_block (j := 1) (v := .int .i64 T) hK27.net.net rfl
          have c2 := cell_of_block (j := 2) (v := .int .i64 C) hK27.net.net rfl
          go_wp2_with fail
          refine (net_any _ (some ⟨b0, o0, none⟩) l c T C (hA.below hK27.net.below) hl2).mono ?_
          rintro e W28 ⟨hb28, Bl1, dl1, rfl, hBl1, hBfl1⟩
          have hK28 := hK27.step hb28
          replace Hb1 := Lib.hid (Hb1.out.below hb28)
          replace Hb2 := Lib.hid (Hb2.out.below hb28)
          clear hK27 hb28 c0 c1 c2
          go_wp2_with fail
          refine (leaves_own hBl1 (fun b o e => (hBfl1 b o e).2) hV (by omega)).mono ?_
          rintro e W29 ⟨hb29, vl1, sl1, rfl, hv⟩
          have hK29 := hK28.step hb29
          replace Hb1 := Lib.hid (Hb1.out.below hb29)
          replace Hb2 := Lib.hid (Hb2.out.below hb29)
          have Hl1 := Lib.hid hv
          clear hK28 hb29 hv hBl1 hBfl1
          obtain ⟨c0, c1, c2⟩ := hK29.cells
          go_wp2_with fail
          refine (net_any _ (some ⟨g, 0, none⟩) l' cap T C hK29.row hl'2).mono ?_
          rintro e W30 ⟨hb30, Bl2, dl2, rfl, hBl2, hBfl2⟩
          have hK30 := hK29.step hb30
          replace Hb1 := Lib.hid (Hb1.out.below hb30)
          replace Hb2 := Lib.hid (Hb2.out.below hb30)
          replace Hl1 := Lib.hid (Hl1.out.below hb30)
          clear hK29 hb30 c0 c1 c2
          go_wp2_with fail
          refine (leaves_own hBl2 (fun b o e => (hBfl2 b o e).2) hV' (by omega)).mono ?_
          rintro e W31 ⟨hb31, vl2, sl2, rfl, hv⟩
          have hK31 := hK30.step hb31
          replace Hb1 := Lib.hid (Hb1.out.below hb31)
          replace Hb2 := Lib.hid (Hb2.out.below hb31)
          replace Hl1 := Lib.hid (Hl1.out.below hb31)
          have Hl2 := Lib.hid hv
          clear hK30 hb31 hv hBl2 hBfl2
          have hsl : sn1 = sl1 := least_leave hV.reads hV.len.2 Hn1.out Hl1.out.out
          have hbs : sb1 = 0 ∨ sb1 = 9 := by rcases Hb1.out with ⟨h, _⟩ | ⟨h, _⟩ <;> simp [h]
          have hls : sn1 = 0 ∨ sn1 = 9 := by rcases Hn1.out with ⟨_, _, _, _, _, h⟩ | ⟨_, _, h⟩ <;> simp [h]
          obtain ⟨rfl, rfl⟩ := HA.out.least Hn1.out Hn2.out
          obtain ⟨rfl, Bl1, dl1, Bl2, dl2, ys, rfl, rfl, hI1, hI2, hyl⟩ : sl1 = sl2 ∧ ∃ B d B' d' ys, vl1 = .slice B (outI ys).length d ∧ vl2 = .slice B' (outI ys).length d' ∧ IntsAt W31 B (outI ys) ∧ IntsAt W31 B' (outI ys) ∧ ys.length ≤ 12 := by
            rcases Hl1.out with ⟨h1, B, d, ys, h2, h3, h4, h5⟩ | ⟨h1, h2, h3⟩
            · rcases Hl2.out with ⟨k1, B', d', zs, k2, k3, k4, k5⟩ | ⟨_, _, k3⟩
              · obtain rfl := out_unique (HA.out.out h5) k5
                exact ⟨by rw [h1, k1], B, d, B', d', ys, h2, k2, h3, k3, h4⟩
              · have := HA.out.out h5
                exact absurd this.can (k3 _ this.ext)
            · rcases Hl2.out with ⟨_, _, _, zs, _, _, _, k5⟩ | ⟨k1, k2, _⟩
              · exact absurd ((HA.out.canE _ _).2 k5.can) (h3 zs (by rw [← HA.out.len]; exact k5.ext))
              · exact ⟨by rw [h1, k1], none, 0, none, 0, [], h2, k2, .nil _ _, .nil _ _, by simp⟩
          subst hsl
          have hol : (outI ys).length ≤ 1000000 := by rw [outI_len]; omega
          obtain ⟨rfl, m, A1, e1, A2, e2, rfl, rfl, hml, HPS⟩ : sb1 = sb2 ∧ ∃ m A1 e1 A2 e2, vb1 = .slice A1 m e1 ∧ vb2 = .slice A2 m e2 ∧ m ≤ 1000 ∧ Hid (∀ k, k < m → ∃ g1 g2 x y, A1 = some ⟨g1, 0, none⟩ ∧ A2 = some ⟨g2, 0, none⟩ ∧ g1 < W31.heap.size ∧ g2 < W31.heap.size ∧ W31.cell? ⟨g1, k * 2, none⟩ = some (.int .i64 x) ∧ W31.cell? ⟨g1, k * 2 + 1, none⟩ = some (.int .i64 y) ∧ W31.cell? ⟨g2, k * 2, none⟩ = some (.int .i64 x) ∧ W31.cell? ⟨g2, k * 2 + 1, none⟩ = some (.int .i64 y)) := by
            rcases Hb1.out with ⟨h1, h2, g1, cap1, ps1, h3, _, h4, h5, h6, h7⟩ | ⟨h1, h2, h3⟩
            · rcases Hb2.out with ⟨k1, k2, g2, cap2, ps2, k3, _, k4, k5, k6, k7⟩ | ⟨_, _, k3⟩
              · rw [HLEN.out] at k3 k5 k7
                refine ⟨by rw [h1, k1], l.length, _, cap1, _, cap2, h3, k3, by omega, Lib.hid (fun k hk => ?_)⟩
                obtain ⟨p, hp⟩ : ∃ p, ps1[k]? = some p := ⟨ps1[k]'(by omega), by rw [List.getElem?_eq_getElem]⟩
                obtain ⟨p', hp'⟩ : ∃ p, ps2[k]? = some p := ⟨ps2[k]'(by omega), by rw [List.getElem?_eq_getElem]⟩
                subst h3
                subst k3
                have a1 := pairs_cell h7 hp
                have a2 := pairs_cell k7 hp'
                have b1 := HA.out.ends (h6 k p hp)
                have b2 := k6 k p' hp'
                rw [HA.out.lo, HA.out.hi] at b2
                have b3 := ends_unique b1 b2
                rw [← b3.1, ← b3.2] at a2
                exact ⟨g1, g2, p.1, p.2, rfl, rfl, h4, k4, a1.1, a1.2, a2.1, a2.2⟩
              · exact absurd ((HA.out.canE _ _).1 h2) k3
            · rcases Hb2.out with ⟨_, k2, _⟩ | ⟨k1, k2, _⟩
              · exact absurd ((HA.out.canE _ _).2 k2) h3
              · exact ⟨by rw [h1, k1], 0, none, 0, none, 0, h2, k2, by omega, Lib.hid (fun k hk => by omega)⟩
          clear Hn1 Hn2 Hb1 Hb2 Hl1 Hl2 HA
          go_wp2_with fail
          refine (ints_any _ Bl1 Bl2 (outI ys) (outI ys) dl1 dl2 hI1 hI2 hol hol).mono ?_
          rintro e W32 ⟨hb32, b', rfl, hb'⟩
          obtain rfl : b' = true := hb'.2 rfl
          have hK32 := hK31.step hb32
          have HB := Lib.hid hb32
          clear hK31 hb' hI1 hI2 hb32
          go_wp2_with fail
          go_loopw [23] (fun t wr => ∃ k : Nat, k ≤ m ∧ t = .int .i64 k ∧ Below W32.heap.size W32 wr) (fun t _ => m - (intOf t).toNat)
          case atStart => exact ⟨0, Nat.zero_le _, rfl, Below.refl _ _⟩
          case round =>
            obtain ⟨k, hkm, rfl, hbel⟩ := hrel
            by_cases hlt : k < m
            · obtain ⟨g1, g2, x, y, rfl, rfl, hg1, hg2, u0, u1, u2, u3⟩ := HPS.out k hlt
              have v0 : wr.cell? ⟨g1, k * 2, none⟩ = some (.int .i64 x) := (hbel.cell (p := ⟨g1, k * 2, none⟩) (Nat.lt_of_lt_of_le hg1 HB.out.size)).trans ((HB.out.cell (p := ⟨g1, k * 2, none⟩) hg1).trans u0)
              have v1 : wr.cell? ⟨g1, k * 2 + 1, none⟩ = some (.int .i64 y) := (hbel.cell (p := ⟨g1, k * 2 + 1, none⟩) (Nat.lt_of_lt_of_le hg1 HB.out.size)).trans ((HB.out.cell (p := ⟨g1, k * 2 + 1, none⟩) hg1).trans u1)
              have v2 : wr.cell? ⟨g2, k * 2, none⟩ = some (.int .i64 x) := (hbel.cell (p := ⟨g2, k * 2, none⟩) (Nat.lt_of_lt_of_le hg2 HB.out.size)).trans ((HB.out.cell (p := ⟨g2, k * 2, none⟩) hg2).trans u2)
              have v3 : wr.cell? ⟨g2, k * 2 + 1, none⟩ = some (.int .i64 y) := (hbel.cell (p := ⟨g2, k * 2 + 1, none⟩) (Nat.lt_of_lt_of_le hg2 HB.out.size)).trans ((HB.out.cell (p := ⟨g2, k * 2 + 1, none⟩) hg2).trans u3)
              have hk0 : (0 : Int) ≤ k := by omega
              have hk1 : (k : Int) < m := by omega
              clear u0 u1 u2 u3
              go_wp2_with fail
              go_region_held3 (fun w' => w'.cell? ⟨g1, k * 2, none⟩ = some (.int .i64 x) ∧ w'.cell? ⟨g1, k * 2 + 1, none⟩ = some (.int .i64 y) ∧ w'.cell? ⟨g2, k * 2, none⟩ = some (.int .i64 x) ∧ w'.cell? ⟨g2, k * 2 + 1, none⟩ = some (.int .i64 y)) (exact ⟨v0, v1, v2, v3⟩) (fail)
              have hbd := hbel.drew
              clear v0 v1 v2 v3 hbel
              go_wp2_with fail
              go_roundw
              case rel => exact ⟨k + 1, by omega, by go_num, hbd⟩
              case measure => simp [intOf]; omega
            · have hKq := hK32.step hbel
              rcases hbs with rfl | rfl
              · rcases hls with rfl | rfl
                · go_wp2_with fail
                  refine (awake_any _).mono ?_
                  rintro e W ⟨hbW, rfl⟩
                  go_wp2_with fail
                  go_ret
                  exact ⟨rfl, (hKq.step hbW).net.below⟩
                · go_wp2_with fail
                  refine (awake_any _).mono ?_
                  rintro e W ⟨hbW, rfl⟩
                  go_wp2_with fail
                  go_ret
                  exact ⟨rfl, (hKq.step hbW).net.below⟩
              · rcases hls with rfl | rfl
                · go_wp2_with fail
                  refine (awake_any _).mono ?_
                  rintro e W ⟨hbW, rfl⟩
                  go_wp2_with fail
                  go_ret
                  exact ⟨rfl, (hKq.step hbW).net.below⟩
                · go_wp2_with fail
                  refine (awake_any _).mono ?_
                  rintro e W ⟨hbW, rfl⟩
                  go_wp2_with fail
                  go_ret
                  exact ⟨rfl, (hKq.step hbW).net.below⟩
    · have hz' : (faultN l T C != 0) = true := by simp [hz]
      clear hz
      go_wp2_with fail
      refine (awake_any _).mono ?_
      rintro e W6 ⟨hb6, rfl⟩
      go_wp2_with fail
      go_ret
      exact ⟨rfl, (hM2.step hb6).below⟩
  · have h1' : decide (l.length ≤ 15) = false := decide_eq_false h1
    have HL := Lib.hid h1'
    clear h1 h1' ha hb
    go_enter Try.func14, Try.ntmps14
    go_wp2_with fail
    refine (thin_any _ _ _ _ _ _ hl).mono ?_
    rintro e W1 ⟨hb1, he⟩
    rw [HL.out] at he
    subst he
    have hM1 := hM.step hb1
    go_wp2_with fail
    refine (awake_any _).mono ?_
    rintro e W6 ⟨hb6, rfl⟩
    go_wp2_with fail
    go_ret
    exact ⟨rfl, (hM1.step hb6).below⟩
end Go.Proofs.Ytnhbplnhhloklaa
