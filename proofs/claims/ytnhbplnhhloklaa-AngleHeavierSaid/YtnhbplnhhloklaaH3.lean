/- Contract of the reference's Leave, and what it means. -/
import Derived.Test.YtnhbplnhhloklaaH2
import Derived.Test.YtnhbplnhhloklaaF0
import Derived.Test.YtnhbplnhhloklaaE3
import Derived.Test.YtnhbplnhhloklaaD2
import Derived.Test.YtnhbplnhhloklaaL0
namespace Go.Proofs.Ytnhbplnhhloklaa
open Go.RowKit

section
variable {l : List Ang} {T C : Nat} {err : Int}
theorem canE_mono {out out' : List Int} (h : CanE l T C err out) (hs : ∀ i : Nat, (i : Int) ∈ out → (i : Int) ∈ out') : CanE l T C err out' := can_mono h fun i hi => by
  have ha : l[i]? = some l[i] := by simp
  simp only [rmLo, rmHi, hi, if_true, ha]
  by_cases h1 : (i : Int) ∈ out
  · rw [if_pos h1, if_pos h1, if_pos (hs i h1), if_pos (hs i h1)]; omega
  · rw [if_neg h1, if_neg h1]
    split <;> (unfold rLo rHi; omega)
theorem bit_below {b n i : Nat} (hb : b < 2 ^ n) (h : b.testBit i = true) : i < n := by
  by_cases e : i < n
  · exact e
  · have h1 : 2 ^ n ≤ 2 ^ i := Nat.pow_le_pow_right (by omega) (by omega)
    rw [Nat.testBit_lt_two_pow (by omega)] at h
    cases h
theorem bitL_up (b : Nat) : (bitL b).Pairwise (· < ·) := by unfold bitL; exact List.Pairwise.filter _ List.pairwise_lt_range
theorem bitL_ext {b n : Nat} (hb : b < 2 ^ n) : Ext n 0 (bitL b).length (bitL b) :=
  ⟨rfl, bitL_up b, fun _ hy => ⟨Nat.zero_le _, bit_below hb (mem_bitL.1 hy).2⟩⟩
theorem ext_bits {n : Nat} {zs : List Nat} (h : Ext n 0 zs.length zs) (hn : n ≤ 12) : ∃ b < 2 ^ n, zs = bitL b := by
  obtain ⟨b, hb, hk⟩ := bits_of (fun i => decide (i ∈ zs)) n
  refine ⟨b, hb, sorted_ext h.up (bitL_up b) fun i => ?_⟩
  rw [mem_bitL]
  constructor
  · intro hi
    have := (h.mem i hi).2
    exact ⟨by omega, by rw [hk i this]; exact decide_eq_true hi⟩
  · rintro ⟨_, hi⟩
    rw [hk i (bit_below hb hi)] at hi
    exact of_decide_eq_true hi
theorem mem_all {n i : Nat} (hn : n ≤ 12) : i ∈ bitL (2 ^ n - 1) ↔ i < n := by
  rw [mem_bitL, Nat.testBit_two_pow_sub_one]
  constructor
  · rintro ⟨_, h⟩; exact of_decide_eq_true h
  · intro h; exact ⟨by omega, decide_eq_true h⟩
theorem up_len : ∀ {ys : List Nat} {f n : Nat}, ys.Pairwise (· < ·) → (∀ y ∈ ys, f ≤ y ∧ y < n) → ys.length ≤ n - f
  | [], f, n, _, _ => by simp
  | y :: r, f, n, h, hm => by
    have h1 := List.pairwise_cons.1 h
    have hy := hm y (List.mem_cons_self ..)
    have h2 := up_len (ys := r) (f := y + 1) (n := n) h1.2 (fun z hz => ⟨h1.1 z hz, (hm z (List.mem_cons_of_mem _ hz)).2⟩)
    simp only [List.length_cons]
    omega
theorem up_eq : ∀ {xs ys : List Nat} {f n : Nat}, xs.Pairwise (· < ·) → (∀ y ∈ xs, f ≤ y ∧ y < n) → ys.Pairwise (· < ·) → (∀ y ∈ ys, f ≤ y ∧ y < n) → xs.length = n - f → ys.length = n - f → xs = ys
  | [], [], _, _, _, _, _, _, _, _ => rfl
  | [], _ :: _, f, n, _, _, _, _, h1, h2 => by simp at h1 h2; omega
  | _ :: _, [], f, n, _, _, _, _, h1, h2 => by simp at h1 h2; omega
  | x :: r, y :: s, f, n, h, hm, h', hm', h1, h2 => by
    have k1 := List.pairwise_cons.1 h
    have k2 := List.pairwise_cons.1 h'
    have hx := hm x (List.mem_cons_self ..)
    have hy := hm' y (List.mem_cons_self ..)
    have a1 : ∀ z ∈ r, x + 1 ≤ z ∧ z < n := fun z hz => ⟨k1.1 z hz, (hm z (List.mem_cons_of_mem _ hz)).2⟩
    have a2 : ∀ z ∈ s, y + 1 ≤ z ∧ z < n := fun z hz => ⟨k2.1 z hz, (hm' z (List.mem_cons_of_mem _ hz)).2⟩
    have b1 := up_len k1.2 a1
    have b2 := up_len k2.2 a2
    simp only [List.length_cons] at h1 h2
    obtain rfl : x = f := by omega
    obtain rfl : y = x := by omega
    rw [up_eq (f := y + 1) (n := n) k1.2 a1 k2.2 a2 (by omega) (by omega)]
theorem lex_total : ∀ {xs ys : List Nat}, xs.length = ys.length → ¬ lexLt xs ys → ¬ lexLt ys xs → xs = ys
  | [], [], _, _, _ => rfl
  | [], _ :: _, h, _, _ => by simp at h
  | _ :: _, [], h, _, _ => by simp at h
  | x :: r, y :: s, h, h1, h2 => by
    unfold lexLt at h1 h2
    have e : x = y := by
      by_cases h3 : x < y
      · exact absurd (.inl h3) h1
      · by_cases h4 : y < x
        · exact absurd (.inl h4) h2
        · omega
    subst e
    rw [lex_total (xs := r) (ys := s) (by simpa using h) (fun k => h1 (.inr ⟨rfl, k⟩)) (fun k => h2 (.inr ⟨rfl, k⟩))]
theorem out_unique {ys zs : List Nat} (h : OutIs l T C err ys) (h' : OutIs l T C err zs) : ys = zs := by
  have h1 := h.short zs h'.ext h'.can
  have h2 := h'.short ys h.ext h.can
  exact lex_total (by omega) (h'.first ys h.ext h.can (by omega)) (h.first zs h'.ext h'.can (by omega))
theorem ext_len {n : Nat} {ys : List Nat} (h : Ext n 0 ys.length ys) : ys.length ≤ n := by simpa using up_len h.up h.mem
theorem out_of {ys : List Nat} (hn : l.length ≤ 12) (hc : CanE l T C err (outI (bitL (2 ^ l.length - 1)))) (hE : Ext l.length 0 ys.length ys) (hy : ys = bitL (2 ^ l.length - 1) ∨ CanE l T C err (outI ys)) (hno : ∀ b, b < 2 ^ l.length - 1 → CanE l T C err (outI (bitL b)) → ¬ lessL (bitL b) ys) : OutIs l T C err ys := by
  have hk : ∀ zs, Ext l.length 0 zs.length zs → CanE l T C err (outI zs) → ¬ lessL zs ys := by
    intro zs hz hcz
    obtain ⟨b, hb, rfl⟩ := ext_bits hz hn
    by_cases e : b < 2 ^ l.length - 1
    · exact hno b e hcz
    · obtain rfl : b = 2 ^ l.length - 1 := by omega
      have hlen : (bitL (2 ^ l.length - 1)).length = l.length := by
        have : bitL (2 ^ l.length - 1) = List.range l.length := sorted_ext (bitL_up _) List.pairwise_lt_range fun i => by rw [mem_all hn]; simp
        rw [this, List.length_range]
      have hyl := ext_len hE
      rintro (h | ⟨h, h'⟩)
      · omega
      · have := up_eq hz.up hz.mem hE.up hE.mem (by simpa using hlen) (by omega)
        rw [this] at h'
        exact lex_irr h'
  refine ⟨hE, ?_, fun zs hz hcz => ?_, fun zs hz hcz hl h => hk zs hz hcz (.inr ⟨hl, h⟩)⟩
  · rcases hy with rfl | h
    · exact hc
    · exact h
  · have := hk zs hz hcz
    by_cases e : zs.length < ys.length
    · exact absurd (.inl e) this
    · omega
theorem can_all {zs : List Nat} (hn : l.length ≤ 12) (h : Ext l.length 0 zs.length zs) (hc : CanE l T C err (outI zs)) : CanE l T C err (outI (bitL (2 ^ l.length - 1))) :=
  canE_mono hc fun i hi => by rw [mem_outI] at hi ⊢; exact (mem_all hn).2 (h.mem i hi).2
end

theorem lex_trans : ∀ {xs ys zs : List Nat}, lexLt xs ys → lexLt ys zs → lexLt xs zs
  | [], _, _, h, _ => by unfold lexLt at h; exact h.elim
  | _ :: _, [], _, h, _ => by unfold lexLt at h; exact h.elim
  | _ :: _, _ :: _, [], _, h => by unfold lexLt at h; exact h.elim
  | x :: r, y :: s, z :: t, h, h' => by
    unfold lexLt at h h' ⊢
    rcases h with h | ⟨rfl, h⟩
    · rcases h' with h' | ⟨rfl, _⟩
      · exact .inl (by omega)
      · exact .inl h
    · rcases h' with h' | ⟨rfl, h'⟩
      · exact .inl h'
      · exact .inr ⟨rfl, lex_trans h h'⟩
theorem less_trans {xs ys zs : List Nat} (h : lessL xs ys) (h' : lessL ys zs) : lessL xs zs := by
  unfold lessL at *
  rcases h with h | ⟨h1, h⟩
  · rcases h' with h' | ⟨h2, _⟩
    · exact .inl (by omega)
    · exact .inl (by omega)
  · rcases h' with h' | ⟨h2, h'⟩
    · exact .inl (by omega)
    · exact .inr ⟨by omega, lex_trans h h'⟩
theorem less_irr {xs : List Nat} : ¬ lessL xs xs := by
  rintro (h | ⟨_, h⟩)
  · omega
  · exact lex_irr h
theorem NMem.cells {w wr : World} {A : Option Addr} {n c : Nat} {T C : Int} (h : NMem w wr A n c T C) : wr.cell? ⟨w.heap.size, 0, none⟩ = some (.slice A n c) ∧ wr.cell? ⟨w.heap.size, 1, none⟩ = some (.int .i64 T) ∧ wr.cell? ⟨w.heap.size, 2, none⟩ = some (.int .i64 C) :=
  ⟨cell_of_block (j := 0) h.net rfl, cell_of_block (j := 1) h.net rfl, cell_of_block (j := 2) h.net rfl⟩
theorem less_true (w : World) (A B : Option Addr) (xs ys : List Nat) (c d : Nat) (h : lessL xs ys) (hA : IntsAt w A (outI xs)) (hB : IntsAt w B (outI ys)) (hl : xs.length ≤ 1000000) (hl2 : ys.length ≤ 1000000) :
    Calls Try.prog 62 #[.slice A xs.length c, .slice B ys.length d] w fun e w' => e = .returned (.bool true) ∧ Below w.heap.size w w' :=
  (less_quiet w A B xs ys c d true ⟨fun _ => h, fun _ => rfl⟩ hA hB hl hl2).mono fun _ _ ⟨h1, m, h2⟩ => ⟨h1, by rw [h2]; exact below_drewN (Below.refl w.heap.size w) m⟩
/-- What the reference's Leave returns. -/
def LeaveOut (w : World) (l : List Ang) (T C : Nat) (err : Int) (e : Ending) (w' : World) : Prop := Below w.heap.size w w' ∧ ∃ v b ys, e = .returned (.tuple #[v, .bool b]) ∧ w'.ownsRow w.heap.size 3 1 v ys.length (outV ys) ∧ (b = true → OutIs l T C err ys) ∧ (b = false → ∀ zs, Ext l.length 0 zs.length zs → ¬ CanE l T C err (outI zs))

set_option maxHeartbeats 8000000 in
set_option maxRecDepth 100000 in
theorem rleave_any (w : World) (A : Option Addr) (l : List Ang) (c : Nat) (T C : Nat) (err : Int) (hA : AngAt w A l) (hV : Valid l T C) (hE : 0 ≤ err ∧ err ≤ 40) :
    Calls Try.prog 57 #[.agg #[.slice A l.length c, .int .i64 T, .int .i64 C], .int .i64 err] w (LeaveOut w l T C err) := by
  have hM := NMem.made w A l.length c T C
  have hl12 := hV.len.2
  have hRa : ∀ b : Nat, RoomOk (rmLo l err (outI (bitL b)) l.length) (rmHi l err (outI (bitL b)) l.length) := fun b => rm_ok hV.reads hE
  obtain ⟨hwN, hbN⟩ := pow_spell (m := l.length) (by omega)
  have hpos : 0 < 2 ^ l.length := Nat.pow_pos (by omega)
  obtain ⟨M, hMe⟩ : ∃ M, M = 2 ^ l.length - 1 := ⟨_, rfl⟩
  have hMlt : M < 65536 := by omega
  have hw0 : wrap64 (wrap64 ((2 : Int) ^ l.length) - 1) = (M : Int) := by
    rw [hwN]
    clear hwN
    generalize 2 ^ l.length = x at *
    rw [show (x : Int) - 1 = (M : Int) by omega]
    unfold wrap64
    omega
  have hw1 := Lib.hid hw0
  clear hw0
  have HX : Hid (∀ b, b ≤ M → Ext l.length 0 (bitL b).length (bitL b)) := Lib.hid (fun b hb => bitL_ext (by omega))
  have HFin : Hid (∀ ys, CanE l T C err (outI (bitL M)) → Ext l.length 0 ys.length ys → (ys = bitL M ∨ CanE l T C err (outI ys)) → (∀ b, b < M → CanE l T C err (outI (bitL b)) → ¬ lessL (bitL b) ys) → OutIs l T C err ys) := Lib.hid (by rw [hMe]; exact fun ys a b c d => out_of hl12 a b c d)
  have HAll : Hid (∀ zs, Ext l.length 0 zs.length zs → CanE l T C err (outI zs) → CanE l T C err (outI (bitL M))) := Lib.hid (by rw [hMe]; exact fun zs h1 h2 => can_all hl12 h1 h2)
  clear hMe hwN hbN hpos
  go_enter Try.func57, Try.ntmps57
  go_wp2_with fail
  simp only [hw1.out]
  refine (bits_any _ M hMlt).mono ?_
  rintro e W1 ⟨hb1, v, rfl, hown⟩
  have hM1 := hM.step hb1
  have hown1 := ownsRow_mono hown hM.below.size
  have HO1 := Lib.hid hown1
  clear hM hb1 hown hown1 hw1
  go_wp2_with fail
  go_loopw [7, 8] (fun v t wr => ∃ (k : Nat) (ys : List Nat), k ≤ M ∧ t = .int .i64 k ∧ NMem w wr A l.length c T C ∧ Hid (Ext l.length 0 ys.length ys ∧ (ys = bitL M ∨ CanE l T C err (outI ys)) ∧ ∀ b, b < k → CanE l T C err (outI (bitL b)) → ¬ lessL (bitL b) ys) ∧ Hid (wr.ownsRow w.heap.size 3 1 v ys.length (outV ys))) (fun _ t _ => M - (intOf t).toNat)
  case atStart => exact ⟨0, bitL M, Nat.zero_le _, rfl, hM1, Lib.hid ⟨HX.out M (Nat.le_refl _), .inl rfl, fun b h => by omega⟩, HO1⟩
  case round =>
    clear hM1 HO1
    obtain ⟨k, ys, hk, rfl, hMr, hys, hown⟩ := hrel
    have hdr : Below wr.heap.size wr wr.drew := (Below.refl _ wr).drew
    by_cases hlt : k < M
    · have hylen := ext_len hys.out.1
      have hd : decide ((k : Int) < M) = true := decide_eq_true (by omega)
      have hklen := ext_len (HX.out k hk)
      go_wp2_with fail
      refine (bits_any _ k (by omega)).mono ?_
      rintro e W2 ⟨hb2, v2, rfl, how2⟩
      have hM2 := hMr.step hb2
      have how1 := ownsRow_below hown.out hb2 (Nat.le_refl _)
      have how2 := ownsRow_mono how2 hMr.below.size
      obtain ⟨B1, d1, e1, hI1⟩ := own_ints how1
      obtain ⟨B2, d2, e2, hI2⟩ := own_ints how2
      rw [outI_len] at e1 e2
      subst e1
      subst e2
      have H1 := Lib.hid how1
      have H2 := Lib.hid how2
      have hs2 := hM2.lt
      have hP : NMem w W2.drew A l.length c T C := hM2.step (Below.refl _ W2).drew
      have hd2 : Below W2.heap.size W2 W2.drew := (Below.refl _ W2).drew
      have c0 := cell_of_block (j := 0) (v := .slice A l.length c) hM2.net rfl
      have c1 := cell_of_block (j := 1) (v := .int .i64 T) hM2.net rfl
      have c2 := cell_of_block (j := 2) (v := .int .i64 C) hM2.net rfl
      clear hMr hb2 how1 how2 hown hdr
      by_cases hless : lessL (bitL k) ys
      · have HL := Lib.hid hless
        clear hless
        go_wp2_with fail
        go_region_held3 (fun w' => w'.cell? ⟨w.heap.size, 0, none⟩ = some (.slice A l.length c) ∧ w'.cell? ⟨w.heap.size, 1, none⟩ = some (.int .i64 T) ∧ w'.cell? ⟨w.heap.size, 2, none⟩ = some (.int .i64 C))
          ((first | exact hM5.cells | exact hM4.cells | exact hM3.cells | exact hP.cells | exact ⟨by assumption, by assumption, by assumption⟩))
          (first | (go_at_call 62; refine (less_true _ B2 B1 (bitL k) ys d2 d1 HL.out (hI2.below hd2) (hI1.below hd2) (by omega) (by omega)).mono ?_; rintro e W3 ⟨rfl, hb3⟩; have hM3 := hP.step hb3) | (go_at_call 30; refine (rrooms_any _ A l c T C err k (hA.below hM3.below) hl12 hE hV.reads).mono ?_; rintro e W4 ⟨hb4, R, dR, rfl, hRm, _⟩; have hM4 := hM3.step hb4) | (go_at_call 77; refine (rcan_any _ A R l c dR T C _ _ (hA.below hM4.below) hRm hl12 hV.net (hRa k)).mono ?_; rintro e W5 ⟨hb5, b, rfl, hb⟩; have HB : Hid (b = true ↔ CanE l T C err (outI (bitL k))) := Lib.hid hb; have hM5 := hM4.step hb5; clear hb))
        have hbw := hd2.trans ((hb3.trans ((hb4.trans (hb5.mono hb4.size)).mono hb3.size)).mono hd2.size)
        have H1' := Lib.hid (ownsRow_below H1.out hbw (Nat.le_refl _))
        have H2' := Lib.hid (ownsRow_below H2.out hbw (Nat.le_refl _))
        clear hP hM2 hM3 hM4 hb3 hb4 hb5 hbw c0 c1 c2 hRm hI1 hI2 hd2 H1 H2
        cases b with
        | true =>
          go_wp2_with fail
          go_roundw
          case rel =>
            refine ⟨k + 1, bitL k, by omega, by go_num, hM5, Lib.hid ⟨HX.out k hk, .inr (HB.out.1 rfl), fun b hb hc h => ?_⟩, H2'⟩
            by_cases e : b = k
            · subst e; exact less_irr h
            · exact hys.out.2.2 b (by omega) hc (less_trans h HL.out)
          case measure => simp [intOf]; omega
        | false =>
          go_wp2_with fail
          go_roundw
          case rel =>
            refine ⟨k + 1, ys, by omega, by go_num, hM5, Lib.hid ⟨hys.out.1, hys.out.2.1, fun b hb hc h => ?_⟩, H1'⟩
            by_cases e : b = k
            · subst e; exact absurd (HB.out.2 hc) (by simp)
            · exact hys.out.2.2 b (by omega) hc h
          case measure => simp [intOf]; omega
      · have HL := Lib.hid hless
        clear hless
        go_wp2_with fail
        go_quiet ((go_at_call 62; exact Calls.quiet_of (less_quiet _ B2 B1 (bitL k) ys d2 d1 false ⟨fun h => (by cases h), fun h => absurd h HL.out⟩ (hI2.below (below_drewN (Below.refl _ _) _)) (hI1.below (below_drewN (Below.refl _ _) _)) (by omega) (by omega))))
        have hbw : Below W2.heap.size W2 (W2.drewN nq) := below_drewN (Below.refl _ _) _
        have hM3 := hM2.step hbw
        have H1' := Lib.hid (ownsRow_below H1.out hbw (Nat.le_refl _))
        clear hP hM2 hbw c0 c1 c2 hI1 hI2 hd2 H1 H2
        go_wp2_with fail
        go_roundw
        case rel =>
          refine ⟨k + 1, ys, by omega, by go_num, hM3, Lib.hid ⟨hys.out.1, hys.out.2.1, fun b hb hc h => ?_⟩, H1'⟩
          by_cases e : b = k
          · subst e; exact absurd h HL.out
          · exact hys.out.2.2 b (by omega) hc h
        case measure => simp [intOf]; omega
    · obtain rfl : k = M := by omega
      have hP : NMem w wr.drew A l.length c T C := hMr.step hdr
      have c0 := cell_of_block (j := 0) (v := .slice A l.length c) hMr.net rfl
      have c1 := cell_of_block (j := 1) (v := .int .i64 T) hMr.net rfl
      have c2 := cell_of_block (j := 2) (v := .int .i64 C) hMr.net rfl
      have hs := hMr.lt
      go_wp2_with fail
      go_region_held3 (fun w' => w'.cell? ⟨w.heap.size, 0, none⟩ = some (.slice A l.length c) ∧ w'.cell? ⟨w.heap.size, 1, none⟩ = some (.int .i64 T) ∧ w'.cell? ⟨w.heap.size, 2, none⟩ = some (.int .i64 C))
        ((first | exact hM5.cells | exact hM4.cells | exact hP.cells | exact ⟨by assumption, by assumption, by assumption⟩))
        (first | (go_at_call 30; refine (rrooms_any _ A l c T C err k (hA.below hP.below) hl12 hE hV.reads).mono ?_; rintro e W4 ⟨hb4, R, dR, rfl, hRm, _⟩; have hM4 := hP.step hb4) | (go_at_call 77; refine (rcan_any _ A R l c dR T C _ _ (hA.below hM4.below) hRm hl12 hV.net (hRa k)).mono ?_; rintro e W5 ⟨hb5, b, rfl, hb⟩; have HB : Hid (b = true ↔ CanE l T C err (outI (bitL k))) := Lib.hid hb; have hM5 := hM4.step hb5; clear hb))
      have hbw := hdr.trans ((hb4.trans (hb5.mono hb4.size)).mono hdr.size)
      have how := ownsRow_below hown.out hbw (Nat.le_refl _)
      go_wp2_with fail
      refine bodyPost_ret (v := .tuple #[u7, .bool b]) (by simp [results, Try.results57, go_sem]) rfl ?_
      refine ⟨hM5.below, _, b, ys, rfl, how, fun h => HFin.out ys (HB.out.1 h) hys.out.1 hys.out.2.1 hys.out.2.2, fun h zs hz hc => ?_⟩
      have := HB.out.2 (HAll.out zs hz hc)
      rw [h] at this
      cases this
end Go.Proofs.Ytnhbplnhhloklaa
