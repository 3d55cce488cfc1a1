/- The law on a heavier angle: its walk. -/
import Derived.Test.YtnhbplnhhloklaaG6
import Derived.Test.YtnhbplnhhloklaaH5
namespace Go.Proofs.Ytnhbplnhhloklaa
open Go.RowKit

section
variable {l l' : List Ang} {T C : Nat}
theorem valid_set {i : Nat} {a a' : Ang} (hV : Valid l T C) (hi : l[i]? = some a) (ht : a'.t = a.t) (hc : a'.c = a.c) (hr : ReadOk a') : Valid (l.set i a') T C := by
  have ha := hV.net.ok a (List.mem_of_getElem? hi)
  refine ⟨by rw [List.length_set]; exact hV.len, ⟨hV.net.hT, hV.net.hC, fun x hx => ?_⟩, fun x hx => ?_⟩
  · rcases List.mem_or_eq_of_mem_set hx with h | rfl
    · exact hV.net.ok x h
    · rw [ht, hc]; exact ha
  · rcases List.mem_or_eq_of_mem_set hx with h | rfl
    · exact hV.reads x h
    · exact hr
/-- A net of which an angle may be read with more weight. -/
structure Heavy (l l' : List Ang) (T C : Nat) : Prop where
  shape : Shape l l'
  valid : Valid l' T C
  wide : ∀ (e : Nat) i, i < l.length → rmLo l' e [] l.length i ≤ rmLo l e [] l.length i ∧ rmHi l e [] l.length i ≤ rmHi l' e [] l.length i
theorem heavy_set {i : Nat} {a : Ang} {x : Int} (hV : Valid l T C) (hi : l[i]? = some a) (hx : a.w ≤ x ∧ x ≤ 3) : Heavy l (l.set i (a.put 3 x)) T C := by
  have hr := hV.reads a (List.mem_of_getElem? hi)
  have hil := (List.getElem?_eq_some_iff.1 hi).1
  refine ⟨shape_set hi rfl rfl, valid_set hV hi rfl rfl ?_, fun e k hk => ?_⟩
  · unfold ReadOk at hr ⊢
    show 0 ≤ a.r ∧ a.r ≤ 40 ∧ 1 ≤ x ∧ x ≤ 3
    omega
  · by_cases e1 : k = i
    · subst e1
      have hm : (e : Int) * a.w ≤ (e : Int) * x := Int.mul_le_mul_of_nonneg_left hx.1 (by omega)
      simp only [rmLo, rmHi, hk, if_true, List.getElem?_set_self hil, hi, List.not_mem_nil, if_false, rLo, rHi]
      show max 0 (a.r - (e : Int) * x) ≤ max 0 (a.r - (e : Int) * a.w) ∧ min 40 (a.r + (e : Int) * a.w) ≤ min 40 (a.r + (e : Int) * x)
      generalize (e : Int) * a.w = u at *
      generalize (e : Int) * x = v at *
      omega
    · simp only [rmLo, rmHi, List.getElem?_set_ne (Ne.symm e1)]
      omega
theorem heavy_least {n s n' s' : Int} (hV : Valid l T C) (h : Heavy l l' T C) (h1 : LeastIs l T C n s) (h2 : LeastIs l' T C n' s') : (s = 0 ∧ s' = 0 ∧ n' ≤ n) ∨ (s = 9 ∧ s' = 9) := by
  have key : ∀ k : Nat, CanE l T C k [] → CanE l' T C k [] := fun k hk => can_mono (can_shape h.shape hk) fun i hi => by
    have hi2 : i < l.length := by rw [← h.shape.len]; exact hi
    have := h.wide k i hi2
    rw [h.shape.len]
    exact this
  have back : ∀ k : Nat, k ≤ 40 → CanE l' T C k [] → CanE l T C 40 [] := fun k hk hc => can40 h.valid.reads hV.reads h.shape.symm (canE_err h.valid.reads (by omega) hc)
  rcases h1 with ⟨k, hk, hc, hno, rfl, rfl⟩ | ⟨hno, rfl, rfl⟩
  · rcases h2 with ⟨j, hj, hc2, hno2, rfl, rfl⟩ | ⟨hno2, _⟩
    · refine .inl ⟨rfl, rfl, ?_⟩
      by_cases e : k < j
      · exact absurd (key k hc) (hno2 k e)
      · omega
    · exact absurd (key k hc) (hno2 k hk)
  · rcases h2 with ⟨j, hj, hc2, _⟩ | ⟨_, _, rfl⟩
    · exact absurd (back j hj hc2) (hno 40 (by omega))
    · exact .inr ⟨rfl, rfl⟩
/-- What Least tells of a net without fault. -/
theorem least_out {w : World} {A : Option Addr} {c : Nat} (hA : AngAt w A l) (hV : Valid l T C) : Calls Try.prog 32 #[.agg #[.slice A l.length c, .int .i64 T, .int .i64 C]] w fun e w' => Below w.heap.size w w' ∧ ∃ n s, e = .returned (.tuple #[.int .i64 n, .int .i64 s]) ∧ LeastIs l T C n s := by
  have hl := hV.len
  refine (least_any w A l c T C hA (by omega)).mono ?_
  rintro e w' ⟨hb, n, s, rfl, ⟨h, _⟩ | ⟨_, h⟩⟩
  · exact absurd (faultN_valid hV) h
  · exact ⟨hb, n, s, rfl, h⟩
end

set_option maxHeartbeats 16000000 in
set_option maxRecDepth 100000 in
theorem heavier_walk (w : World) (A : Option Addr) (l : List Ang) (c : Nat) (T C : Int) (a : Int) (hA : AngAt w A l) (hl : l.length ≤ 9223372036854775807) (ha : (Lit.int .u8 a).wf = true) :
    Calls Try.prog 13 #[.agg #[.slice A l.length c, .int .i64 T, .int .i64 C], .int .u8 a] w (Holds w) := by
  have hM := NMem.made w A l.length c T C
  have ha8 := u8_in ha
  by_cases h1 : l.length ≤ 15
  · have h1' : decide (l.length ≤ 15) = true := decide_eq_true h1
    have HL := Lib.hid h1'
    have hl2 : l.length ≤ 1000 := by omega
    clear h1 h1' ha
    go_enter Try.func13, Try.ntmps13
    go_wp2_with fail
    refine (thin_any _ _ _ _ _ _ hl).mono ?_
    rintro e W1 ⟨hb1, he⟩
    rw [HL.out] at he
    subst he
    have hM1 := hM.step hb1
    clear hM hb1 HL
    have c0 := cell_of_block (j := 0) (v := .slice A l.length c) hM1.net rfl
    have c1 := cell_of_block (j := 1) (v := .int .i64 T) hM1.net rfl
    have c2 := cell_of_block (j := 2) (v := .int .i64 C) hM1.net rfl
    go_wp2_with fail
    refine (lfault_any _ A l c T C (hA.below hM1.below) hl2).mono ?_
    rintro e W2 ⟨hb2, rfl⟩
    have hM2 := hM1.step hb2
    clear hM1 hb2 c0 c1 c2
    by_cases hz : faultN l T C = 0
    · have hz' : (faultN l T C != 0) = false := by simp [hz]
      obtain ⟨T, C, rfl, rfl, hV⟩ := valid_of hz
      have hl12 := hV.len.2
      have hl0 := hV.len.1
      obtain ⟨a0, ha0⟩ : ∃ x, l[0]? = some x := ⟨l[0], by simp [hl0]⟩
      obtain ⟨b0, o0, rfl, _⟩ := hA 0 a0 ha0
      clear ha0
      obtain ⟨i, hid1⟩ : ∃ i : Nat, a % (l.length : Int) = i := ⟨(a % (l.length : Int)).toNat, by have := Int.emod_nonneg a (b := l.length) (by omega); omega⟩
      have hil : i < l.length := by have := Int.emod_lt_of_pos a (b := l.length) (by omega); omega
      have hid2 : a.tmod (l.length : Int) = i := by rw [Int.tmod_eq_emod_of_nonneg ha8.1]; exact hid1
      obtain ⟨an, hi⟩ : ∃ x, l[i]? = some x := ⟨l[i], by simp [hil]⟩
      have c0 := cell_of_block (j := 0) (v := .slice (some ⟨b0, o0, none⟩) l.length c) hM2.net rfl
      have c1 := cell_of_block (j := 1) (v := .int .i64 T) hM2.net rfl
      have c2 := cell_of_block (j := 2) (v := .int .i64 C) hM2.net rfl
      have hal : Below W2.heap.size W2 ((W2.alloc (.cells #[.slice (some ⟨b0, o0, none⟩) l.length c, .int .i64 T, .int .i64 C] 24)).alloc (.cells #[] 74)) := ((Below.refl _ W2).alloc (Nat.le_refl _) _).alloc (by simp) _
      have hnw := ang_cells ((hA.below hM2.below).below hal)
      have how0 := World.ownsRow_made (base := W2.heap.size + 1) (e := 74) (size := 4) (W2.alloc (.cells #[.slice (some ⟨b0, o0, none⟩) l.length c, .int .i64 T, .int .i64 C] 24)) #[] 0 (by simp) (by decide) (by simp)
      have how : ((W2.alloc (.cells #[.slice (some ⟨b0, o0, none⟩) l.length c, .int .i64 T, .int .i64 C] 24)).alloc (.cells #[] 74)).ownsRow (W2.heap.size + 1) 74 4 (.slice (some ⟨W2.heap.size + 1, 0, none⟩) 0 0) 0 [] := by simpa using how0
      have hcp : ((W2.alloc (.cells #[.slice (some ⟨b0, o0, none⟩) l.length c, .int .i64 T, .int .i64 C] 24)).alloc (.cells #[] 74)).heap[W2.heap.size]? = some (.cells #[.slice (some ⟨b0, o0, none⟩) l.length c, .int .i64 T, .int .i64 C] 24 (0, 0)) := past_alloc (at_alloc rfl)
      have hszA : W2.heap.size + 1 ≤ ((W2.alloc (.cells #[.slice (some ⟨b0, o0, none⟩) l.length c, .int .i64 T, .int .i64 C] 24)).alloc (.cells #[] 74)).heap.size := by simp
      have hs2 := hM2.lt
      have HO := Lib.hid how
      have HW := Lib.hid hnw
      have HC := Lib.hid hcp
      have HM2 := Lib.hid hM2
      clear hz how how0 hnw hcp hal hM2
      go_wp2_with (at_builtin; refine wpList_pushN elem22 ((W2.alloc (.cells #[.slice (some ⟨b0, o0, none⟩) l.length c, .int .i64 T, .int .i64 C] 24)).alloc (.cells #[] 74)) (by rfl) (.tmp 21) (.tmp 23) (by rfl) (W2.heap.size + 1) _ 0 [] (by rfl) HO.out ⟨b0, o0, none⟩ l.length c l.length (angL l) (by rfl) HW.out (angL_len _) (angL_one _) hl0 (Nat.zero_add _) (by omega) hszA ?_; intro g cap w1 how1 hbe1; have cq := cell_of_block (j := 0) ((hbe1.block W2.heap.size (Nat.lt_succ_self _)).trans HC.out) rfl; have fq := free_of_block (j := 0) ((hbe1.block W2.heap.size (Nat.lt_succ_self _)).trans HC.out))
      have hK := KMem.made HM2.out (by simpa using how1) hbe1
      clear how1 hbe1 cq fq HO HW HC hszA hs2 HM2 c0 c1 c2
      generalize w1.setCell ⟨W2.heap.size, 0, none⟩ (.slice (some ⟨g, 0, none⟩) l.length cap) = W5 at *
      obtain ⟨k0, k1, k2⟩ := hK.cells
      have hi0 : (0 : Int) ≤ i := by omega
      have hi1 : (i : Int) < l.length := by omega
      have hln : (l.length : Int) ≠ 0 := by omega
      go_quiet (fail)
      have hK5 := hK.step (below_drewN (Below.refl _ W5) nq)
      clear hK k0 k1 k2
      generalize W5.drewN nq = W6 at *
      obtain ⟨q0, q1, q2, q3⟩ := hK5.ang hi
      have fz := hK5.free (i * 4 + 3)
      have hr := hV.reads an (List.mem_of_getElem? hi)
      unfold ReadOk at hr
      by_cases hm : 3 ≤ an.w + 1
      case' pos =>
        have hK6 := hK5.put (j := 3) 3 hi (by omega)
        have c0 := cell_of_block (j := 0) (v := .slice (some ⟨b0, o0, none⟩) l.length c) hK6.net.net rfl
        have c1 := cell_of_block (j := 1) (v := .int .i64 T) hK6.net.net rfl
        have c2 := cell_of_block (j := 2) (v := .int .i64 C) hK6.net.net rfl
        go_wp2_with fail
        generalize W6.setCell ⟨g, i * 4 + 3, none⟩ (.int .i64 3) = W7 at *
        have HH := Lib.hid (heavy_set (x := 3) hV hi (by omega))
      case' neg =>
        have hK6 := hK5.put (j := 3) (an.w + 1) hi (by omega)
        have c0 := cell_of_block (j := 0) (v := .slice (some ⟨b0, o0, none⟩) l.length c) hK6.net.net rfl
        have c1 := cell_of_block (j := 1) (v := .int .i64 T) hK6.net.net rfl
        have c2 := cell_of_block (j := 2) (v := .int .i64 C) hK6.net.net rfl
        go_wp2_with fail
        generalize W6.setCell ⟨g, i * 4 + 3, none⟩ (.int .i64 (an.w + 1)) = W7 at *
        have HH := Lib.hid (heavy_set (x := an.w + 1) hV hi (by omega))
      all_goals
        clear hK5 q0 q1 q2 q3 fz hr hm c0 c1 c2
        generalize l.set i (an.put 3 _) = l' at *
        have hV' := HH.out.valid
        refine (net_any _ (some ⟨b0, o0, none⟩) l c T C (hA.below hK6.net.below) hl2).mono ?_
        rintro e W8 ⟨hb8, B, d, rfl, hB, _⟩
        have hK8 := hK6.step hb8
        clear hK6 hb8
        go_wp2_with fail
        refine (least_out hB hV).mono ?_
        rintro e W9 ⟨hb9, n1, s1, rfl, hs1⟩
        have HS1 := Lib.hid hs1
        have hK9 := hK8.step hb9
        obtain ⟨k0, k1, k2⟩ := hK9.cells
        have hl'2 : l'.length ≤ 1000 := by have := hV'.len; omega
        clear hK8 hb9 hB hs1
        go_wp2_with fail
        refine (net_any _ (some ⟨g, 0, none⟩) l' cap T C hK9.row hl'2).mono ?_
        rintro e W10 ⟨hb10, B, d, rfl, hB, _⟩
        have hK10 := hK9.step hb10
        clear hK9 hb10 k0 k1 k2
        go_wp2_with fail
        refine (least_out hB hV').mono ?_
        rintro e W11 ⟨hb11, n2, s2, rfl, hs2⟩
        have hK11 := hK10.step hb11
        have hcase := heavy_least hV HH.out HS1.out hs2
        clear hK10 hb11 hB hs2 HS1 HH
        rcases hcase with ⟨rfl, rfl, hle⟩ | ⟨rfl, rfl⟩
        · have hd : decide (n2 ≤ n1) = true := decide_eq_true hle
          go_wp2_with fail
          refine (awake_any _).mono ?_
          rintro e W ⟨hbW, rfl⟩
          go_wp2_with fail
          go_ret
          exact ⟨rfl, (hK11.step hbW).net.below⟩
        · go_wp2_with fail
          refine (awake_any _).mono ?_
          rintro e W ⟨hbW, rfl⟩
          go_wp2_with fail
          go_ret
          exact ⟨rfl, (hK11.step hbW).net.below⟩
    · have hz' : (faultN l T C != 0) = true := by simp [hz]
      clear hz
      go_wp2_with fail
      refine (awake_any _).mono ?_
      rintro e W6 ⟨hb6, rfl⟩
      go_wp2_with fail
      go_ret
      exact ⟨rfl, (hM2.step hb6).below⟩
  · have h1' : decide (l.length ≤ 15) = false := decide_eq_false h1
    have HL := Lib.hid h1'
    clear h1 h1' ha
    go_enter Try.func13, Try.ntmps13
    go_wp2_with fail
    refine (thin_any _ _ _ _ _ _ hl).mono ?_
    rintro e W1 ⟨hb1, he⟩
    rw [HL.out] at he
    subst he
    have hM1 := hM.step hb1
    go_wp2_with fail
    refine (awake_any _).mono ?_
    rintro e W6 ⟨hb6, rfl⟩
    go_wp2_with fail
    go_ret
    exact ⟨rfl, (hM1.step hb6).below⟩
end Go.Proofs.Ytnhbplnhhloklaa
