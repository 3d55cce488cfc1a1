/- The law on truths and cuts: its walk. -/
import Derived.Test.YtnhbplnhhloklaaS1
namespace Go.Proofs.Ytnhbplnhhloklaa
open Go.RowKit

/-- The memory of a law with a net and a cut. -/
structure NCMem (w wr : World) (A : Option Addr) (n c : Nat) (T C : Int) (P : Option Addr) (m c1 : Nat) (Q : Option Addr) (k c2 : Nat) : Prop where
  net : NMem w wr A n c T C
  cut : wr.heap[w.heap.size + 1]? = some (.cells #[.slice P m c1, .slice Q k c2] 27 (0, 0))
section
variable {w wr w' : World} {A P Q : Option Addr} {n c m c1 k c2 : Nat} {T C : Int}
theorem NCMem.made (w : World) (A : Option Addr) (n c : Nat) (T C : Int) (P : Option Addr) (m c1 : Nat) (Q : Option Addr) (k c2 : Nat) : NCMem w ((w.alloc (.cells #[.slice A n c, .int .i64 T, .int .i64 C] 24)).alloc (.cells #[.slice P m c1, .slice Q k c2] 27)) A n c T C P m c1 Q k c2 :=
  ⟨⟨((Below.refl _ w).alloc (Nat.le_refl _) _).alloc (by simp) _, past_alloc (at_alloc rfl)⟩, at_alloc (by simp)⟩
theorem NCMem.step (h : NCMem w wr A n c T C P m c1 Q k c2) (hb : Below wr.heap.size wr w') : NCMem w w' A n c T C P m c1 Q k c2 :=
  ⟨h.net.step hb, (hb.block _ (Array.getElem?_eq_some_iff.1 h.cut).1).trans h.cut⟩
theorem NCMem.cells (h : NCMem w wr A n c T C P m c1 Q k c2) : wr.cell? ⟨w.heap.size, 0, none⟩ = some (.slice A n c) ∧ wr.cell? ⟨w.heap.size, 1, none⟩ = some (.int .i64 T) ∧ wr.cell? ⟨w.heap.size, 2, none⟩ = some (.int .i64 C) ∧ wr.cell? ⟨w.heap.size + 1, 0, none⟩ = some (.slice P m c1) ∧ wr.cell? ⟨w.heap.size + 1, 1, none⟩ = some (.slice Q k c2) :=
  ⟨cell_of_block (j := 0) h.net.net rfl, cell_of_block (j := 1) h.net.net rfl, cell_of_block (j := 2) h.net.net rfl, cell_of_block (j := 0) h.cut rfl, cell_of_block (j := 1) h.cut rfl⟩
end

/-- The five cells. -/
def Five (w : World) (A : Option Addr) (n c : Nat) (T C : Int) (P : Option Addr) (m c1 : Nat) (Q : Option Addr) (k c2 : Nat) (w' : World) : Prop := w'.cell? ⟨w.heap.size, 0, none⟩ = some (.slice A n c) ∧ w'.cell? ⟨w.heap.size, 1, none⟩ = some (.int .i64 T) ∧ w'.cell? ⟨w.heap.size, 2, none⟩ = some (.int .i64 C) ∧ w'.cell? ⟨w.heap.size + 1, 0, none⟩ = some (.slice P m c1) ∧ w'.cell? ⟨w.heap.size + 1, 1, none⟩ = some (.slice Q k c2)

theorem rise_ge {l : List Int} {m : Int} {k : Nat} (h : RiseTo l m k) : ∀ i, i < k → (i : Int) ≤ l.getD i 0
  | 0, h0 => (h 0 h0).1.1
  | i + 1, h1 => by
    have h2 := rise_ge h i (by omega)
    have h3 := (h (i + 1) h1).2 (by omega)
    rw [show i + 1 - 1 = i by omega] at h3
    omega
theorem rising_len {ks : List Int} {T : Nat} (h : Rising ks T) : ks.length ≤ T := by
  by_cases e : ks.length = 0
  · omega
  · have h1 := rise_ge h (ks.length - 1) (by omega)
    have h2 := (h (ks.length - 1) (by omega)).1.2
    omega
/-- What Show tells of a net without fault, with its list in memory. -/
def ShowOwn (l : List Ang) (T C : Nat) (e : Int) (w : World) (v : Value) (s : Int) : Prop :=
  (s = 0 ∧ CanE l T C e [] ∧ ∃ X d xs, v = .slice X (xs : List Int).length d ∧ IntsAt w X xs ∧ xs.length = l.length ∧ TruthL l T C xs (rmLo l e [] l.length) (rmHi l e [] l.length)) ∨ (s = 9 ∧ v = .slice none 0 0 ∧ ¬ CanE l T C e [])
theorem show_own {w : World} {A : Option Addr} {l : List Ang} {c T C : Nat} {e : Int} (hA : AngAt w A l) (hV : Valid l T C) (he : 0 ≤ e ∧ e ≤ 40) : Calls Try.prog 36 #[.agg #[.slice A l.length c, .int .i64 T, .int .i64 C], .int .i64 e] w fun r w' => Below w.heap.size w w' ∧ ∃ v s, r = .returned (.tuple #[v, .int .i64 s]) ∧ ShowOwn l T C e w' v s := by
  have hz := asked_in (err := e) (faultN_valid hV) he
  have hl := hV.len
  refine (show_any w A l c T C e hA (by omega)).mono ?_
  rintro r w' ⟨hb, v, s, rfl, ⟨h, _⟩ | ⟨_, ⟨rfl, x, hx, how⟩ | ⟨rfl, rfl, h2⟩⟩⟩
  · exact absurd hz h
  · have e1 : (List.range l.length).map (fun i => Value.int IntKind.i64 (x i)) = ((List.range l.length).map x).map (Value.int .i64) := by rw [List.map_map]; rfl
    rw [e1] at how
    obtain ⟨_, B, d, rfl, hI, _⟩ := own_intsI how
    refine ⟨hb, _, 0, rfl, .inl ⟨rfl, ⟨x, hx⟩, B, d, (List.range l.length).map x, rfl, hI, by simp, truth_list hV.net hx⟩⟩
  · exact ⟨hb, _, 9, rfl, .inr ⟨rfl, rfl, h2⟩⟩
/-- What Prove tells of a net without fault, with its cut in memory. -/
def ProveOwn (l : List Ang) (T C : Nat) (e : Int) (w : World) (P Q : Value) (s : Int) : Prop :=
  (s = 7 ∧ P = .slice none 0 0 ∧ Q = .slice none 0 0 ∧ CanE l T C e []) ∨
  (s = 0 ∧ ¬ CanE l T C e [] ∧ ∃ B D d1 d2 ts cs, P = .slice B (ts : List Int).length d1 ∧ Q = .slice D (cs : List Int).length d2 ∧ IntsAt w B ts ∧ IntsAt w D cs ∧ ts.length ≤ 5 ∧ cs.length ≤ 5 ∧ Rising ts T ∧ Rising cs C ∧ ProvesL l ts cs (rmLo l e [] l.length) (rmHi l e [] l.length))
theorem prove_own {w : World} {A : Option Addr} {l : List Ang} {c T C : Nat} {e : Int} (hA : AngAt w A l) (hV : Valid l T C) (he : 0 ≤ e ∧ e ≤ 40) : Calls Try.prog 64 #[.agg #[.slice A l.length c, .int .i64 T, .int .i64 C], .int .i64 e] w fun r w' => Below w.heap.size w w' ∧ ∃ P Q s, r = .returned (.tuple #[.agg #[P, Q], .int .i64 s]) ∧ ProveOwn l T C e w' P Q s := by
  have hz := asked_in (err := e) (faultN_valid hV) he
  have hl := hV.len
  refine (prove_any w A l c T C e hA (by omega)).mono ?_
  rintro r w' ⟨hb, P, Q, s, rfl, ⟨h, _⟩ | ⟨_, ⟨rfl, rfl, rfl, h⟩ | ⟨rfl, h, ts, cs, hcut, h1, h2⟩⟩⟩
  · exact absurd hz h
  · exact ⟨hb, _, _, 7, rfl, .inl ⟨rfl, rfl, rfl, h⟩⟩
  · obtain ⟨B, d1, rfl, hI⟩ := own_ints h1
    obtain ⟨D, d2, rfl, hJ⟩ := own_ints h2
    have k1 := rising_len hcut.1
    have k2 := rising_len hcut.2.1
    have kT := hV.net.hT
    have kC := hV.net.hC
    rw [outI_len] at k1 k2
    exact ⟨hb, _, _, 0, rfl, .inr ⟨rfl, h, B, D, d1, d2, outI ts, outI cs, rfl, rfl, hI, hJ, by rw [outI_len]; omega, by rw [outI_len]; omega, hcut.1, hcut.2.1, hcut.2.2⟩⟩
theorem ProveOwn.below {l : List Ang} {T C : Nat} {e : Int} {w w' : World} {P Q : Value} {s : Int} (h : ProveOwn l T C e w P Q s) (hb : Below w.heap.size w w') : ProveOwn l T C e w' P Q s := by
  rcases h with h | ⟨h1, h2, B, D, d1, d2, ts, cs, h3, h4, h5, h6, h7⟩
  · exact .inl h
  · exact .inr ⟨h1, h2, B, D, d1, d2, ts, cs, h3, h4, h5.below hb, h6.below hb, h7⟩
theorem ShowOwn.below {l : List Ang} {T C : Nat} {e : Int} {w w' : World} {v : Value} {s : Int} (h : ShowOwn l T C e w v s) (hb : Below w.heap.size w w') : ShowOwn l T C e w' v s := by
  rcases h with ⟨h1, h2, X, d, xs, h3, h4, h5⟩ | h
  · exact .inl ⟨h1, h2, X, d, xs, h3, h4.below hb, h5⟩
  · exact .inr h
/-- The memory of a law with a net, a cut, and what Prove returned. -/
structure NCP (w wr : World) (A : Option Addr) (n c : Nat) (T C : Int) (P : Option Addr) (m c1 : Nat) (Q : Option Addr) (k c2 : Nat) (pb : Nat) (R S : Value) : Prop where
  nc : NCMem w wr A n c T C P m c1 Q k c2
  prf : wr.heap[pb]? = some (.cells #[R, S] 37 (0, 0))
theorem NCP.step {w wr w' : World} {A P Q : Option Addr} {n c m c1 k c2 pb : Nat} {T C : Int} {R S : Value} (h : NCP w wr A n c T C P m c1 Q k c2 pb R S) (hb : Below wr.heap.size wr w') : NCP w w' A n c T C P m c1 Q k c2 pb R S :=
  ⟨h.nc.step hb, (hb.block _ (Array.getElem?_eq_some_iff.1 h.prf).1).trans h.prf⟩
theorem NCP.cells {w wr : World} {A P Q : Option Addr} {n c m c1 k c2 pb : Nat} {T C : Int} {R S : Value} (h : NCP w wr A n c T C P m c1 Q k c2 pb R S) : Five w A n c T C P m c1 Q k c2 wr ∧ wr.cell? ⟨pb, 0, none⟩ = some R ∧ wr.cell? ⟨pb, 1, none⟩ = some S :=
  ⟨h.nc.cells, cell_of_block (j := 0) h.prf rfl, cell_of_block (j := 1) h.prf rfl⟩
theorem least_cmp {l : List Ang} {T C : Nat} {e n s : Int} (hr : ∀ a ∈ l, ReadOk a) (he : 0 ≤ e ∧ e ≤ 40) (h : LeastIs l T C n s) : (CanE l T C e [] ∧ s = 0 ∧ n ≤ e) ∨ (¬ CanE l T C e [] ∧ ((s = 0 ∧ e < n) ∨ s = 9)) := by
  obtain ⟨k, rfl⟩ := Int.eq_ofNat_of_zero_le he.1
  rcases h with ⟨j, hj, hc, hno, rfl, rfl⟩ | ⟨hno, rfl, rfl⟩
  · by_cases e1 : j ≤ k
    · exact .inl ⟨canE_err hr (by omega) hc, rfl, by omega⟩
    · exact .inr ⟨hno k (by omega), .inl ⟨rfl, by omega⟩⟩
  · exact .inr ⟨hno k (by omega), .inr rfl⟩

/-- A net of Closed beside it. -/
structure ZC (w W1 wr : World) (B : Option Addr) (n d : Nat) (T C : Int) (D : Option Addr) (xs : List Int) (A : Option Addr) (n0 c0 : Nat) (T0 C0 : Int) (P : Option Addr) (m c1 : Nat) (Q : Option Addr) (k c2 : Nat) : Prop where
  z : ZMem w W1 wr B n d T C D xs
  m : NCMem w wr A n0 c0 T0 C0 P m c1 Q k c2
section
variable {w W1 wr w' : World} {B A P Q D : Option Addr} {n d n0 c0 m c1 k c2 : Nat} {T C T0 C0 : Int} {xs : List Int}
theorem ZC.step (h : ZC w W1 wr B n d T C D xs A n0 c0 T0 C0 P m c1 Q k c2) (hb : Below wr.heap.size wr w') : ZC w W1 w' B n d T C D xs A n0 c0 T0 C0 P m c1 Q k c2 := ⟨h.z.step hb, h.m.step hb⟩
theorem ZC.cells (h : ZC w W1 wr B n d T C D xs A n0 c0 T0 C0 P m c1 Q k c2) : wr.cell? ⟨W1.heap.size, 0, none⟩ = some (.slice B n d) ∧ wr.cell? ⟨W1.heap.size, 1, none⟩ = some (.int .i64 T) ∧ wr.cell? ⟨W1.heap.size, 2, none⟩ = some (.int .i64 C) ∧ wr.cell? ⟨w.heap.size + 1, 0, none⟩ = some (.slice P m c1) ∧ wr.cell? ⟨w.heap.size + 1, 1, none⟩ = some (.slice Q k c2) :=
  ⟨h.z.net.cells.1, h.z.net.cells.2.1, h.z.net.cells.2.2, h.m.cells.2.2.2.1, h.m.cells.2.2.2.2⟩
end

set_option maxHeartbeats 16000000 in
set_option maxRecDepth 100000 in
theorem proved_walk (w : World) (A : Option Addr) (l : List Ang) (c : Nat) (T C : Int) (a : Int) (WA : Option Addr) (ws : List Int) (wc : Nat) (P : Option Addr) (ts : List Int) (c1 : Nat) (Q : Option Addr) (cs : List Int) (c2 : Nat)
    (hA : AngAt w A l) (hl : l.length ≤ 9223372036854775807) (ha : (Lit.int .u8 a).wf = true) (hW : HexAt w WA ws) (hwl : ws.length ≤ maxLen) (_hwn : WA = none → ws = [] ∧ wc = 0) (hP : IntsAt w P ts) (hQ : IntsAt w Q cs) (_hlp : ts.length ≤ maxLen) (_hlq : cs.length ≤ maxLen) (hP0 : P = none → ts = [] ∧ c1 = 0) (hQ0 : Q = none → cs = [] ∧ c2 = 0) :
    Calls Try.prog 18 #[.agg #[.slice A l.length c, .int .i64 T, .int .i64 C], .int .u8 a, .slice WA ws.length wc, .agg #[.slice P ts.length c1, .slice Q cs.length c2]] w (Holds w) := by
  have hM := NCMem.made w A l.length c T C P ts.length c1 Q cs.length c2
  have ha8 := u8_in ha
  by_cases h1 : l.length ≤ 15
  · have h1' : decide (l.length ≤ 15) = true := decide_eq_true h1
    have HL := Lib.hid h1'
    have hl2 : l.length ≤ 1000 := by omega
    clear h1 h1' ha
    go_enter Try.func18, Try.ntmps18
    go_wp2_with fail
    refine (thin_any _ _ _ _ _ _ hl).mono ?_
    rintro e W1 ⟨hb1, he⟩
    rw [HL.out] at he
    subst he
    have hM1 := hM.step hb1
    clear hM hb1 HL
    obtain ⟨k0, k1, k2, k3, k4⟩ := hM1.cells
    go_wp2_with fail
    refine (lfault_any _ A l c T C (hA.below hM1.net.below) hl2).mono ?_
    rintro e W2 ⟨hb2, rfl⟩
    have hM2 := hM1.step hb2
    clear hM1 hb2 k0 k1 k2 k3 k4
    obtain ⟨k0, k1, k2, k3, k4⟩ := hM2.cells
    by_cases hz : faultN l T C = 0
    · have hz' : (faultN l T C != 0) = false := by simp [hz]
      obtain ⟨T, C, rfl, rfl, hV⟩ := valid_of hz
      clear hz
      by_cases h3 : ts.length ≤ 9
      · have d3 : decide ((9 : Int) < ts.length) = false := decide_eq_false (by omega)
        by_cases h4 : cs.length ≤ 9
        · have d4 : decide ((9 : Int) < cs.length) = false := decide_eq_false (by omega)
          have hE : 0 ≤ a % 41 ∧ a % 41 ≤ 40 := by omega
          go_wp2_with fail
          generalize a % 41 = e at *
          clear ha8
          have hl12 := hV.len.2
          have hR := rm_ok (out := []) (k := l.length) hV.reads hE
          have HR := Lib.hid hR
          have HV := Lib.hid hV
          have HAS := Lib.hid (asked_in (err := e) (faultN_valid hV) hE)
          clear hR hV
          refine (net_any _ A l c T C (hA.below hM2.net.below) hl2).mono ?_
          rintro r1 W3 ⟨hb3, B, d, rfl, hB, _⟩
          have hM3 := hM2.step hb3
          clear hM2 hb3 k0 k1 k2 k3 k4
          go_wp2_with fail
          refine (show_own hB HV.out hE).mono ?_
          rintro r2 W4 ⟨hb4, vs, sf, rfl, hvs⟩
          have HS1 := Lib.hid hvs
          have hM4 := hM3.step hb4
          clear hM3 hb4 hB hvs
          obtain ⟨k0, k1, k2, k3, k4⟩ := hM4.cells
          go_wp2_with fail
          refine (net_any _ A l c T C (hA.below hM4.net.below) hl2).mono ?_
          rintro r3 W5 ⟨hb5, B, d, rfl, hB, _⟩
          have hM5 := hM4.step hb5
          replace HS1 := Lib.hid (HS1.out.below hb5)
          clear hM4 hb5 k0 k1 k2 k3 k4
          go_wp2_with fail
          refine (prove_own hB HV.out hE).mono ?_
          rintro r4 W6 ⟨hb6, R, S, sg, rfl, hvp⟩
          have hM6 := hM5.step hb6
          replace HS1 := Lib.hid (HS1.out.below hb6)
          clear hM5 hb6 hB
          rcases hvp with ⟨rfl, rfl, rfl, hcan⟩ | ⟨rfl, hcan, B1, D1, dd1, dd2, ts1, cs1, rfl, rfl, hI1, hJ1, hlt1, hlc1, hri1, hri2, hpv⟩
          case' inl =>
            have HCA := Lib.hid hcan
            clear hcan
            have hM7 := hM6.step ((Below.refl _ W6).alloc (Nat.le_refl _) (.cells #[.slice none 0 0, .slice none 0 0] 37))
            replace HS1 := Lib.hid (HS1.out.below ((Below.refl _ W6).alloc (Nat.le_refl _) (.cells #[.slice none 0 0, .slice none 0 0] 37)))
            obtain ⟨rfl, _, X, dX, xs, rfl, hX, hxl, hTL⟩ := HS1.out.resolve_right (fun h => h.2.2 HCA.out)
            have HX := Lib.hid hX
            have HT := Lib.hid hTL
            have HXL := Lib.hid hxl
            have hxl2 : xs.length ≤ 1000000 := by omega
            clear hX hTL hxl HS1
            obtain ⟨k0, k1, k2, k3, k4⟩ := hM7.cells
            clear hM6
            go_wp2_with fail
            generalize (W6.alloc (.cells #[.slice none 0 0, .slice none 0 0] 37)) = W7 at *
            refine (net_any _ A l c T C (hA.below hM7.net.below) hl2).mono ?_
            rintro r5 W8 ⟨hb8, B, d, rfl, hB, _⟩
            have hM8 := hM7.step hb8
            replace HX := Lib.hid (HX.out.below hb8)
            clear hM7 hb8 k0 k1 k2 k3 k4
            go_wp2_with fail
            refine (least_out hB HV.out).mono ?_
            rintro r6 W9 ⟨hb9, n1, sh, rfl, hs1⟩
            obtain ⟨_, rfl, hn1⟩ := (least_cmp HV.out.reads hE hs1).resolve_right (fun h => h.1 HCA.out)
            have hM9 := hM8.step hb9
            replace HX := Lib.hid (HX.out.below hb9)
            clear hM8 hb9 hB hs1
            have dn : decide (n1 ≤ e) = true := decide_eq_true hn1
            obtain ⟨k0, k1, k2, k3, k4⟩ := hM9.cells
            have hPd : NCMem w W9.drew A l.length c T C P ts.length c1 Q cs.length c2 := hM9.step (Below.refl _ W9).drew
            have HXd := Lib.hid (HX.out.below (Below.refl _ W9).drew)
            clear hM9 HX
            go_wp2_with fail
            go_region_held3 (fun w' => w'.cell? ⟨w.heap.size, 0, none⟩ = some (.slice A l.length c) ∧ w'.cell? ⟨w.heap.size, 1, none⟩ = some (.int .i64 T) ∧ w'.cell? ⟨w.heap.size, 2, none⟩ = some (.int .i64 C) ∧ w'.cell? ⟨w.heap.size + 1, 0, none⟩ = some (.slice P ts.length c1) ∧ w'.cell? ⟨w.heap.size + 1, 1, none⟩ = some (.slice Q cs.length c2))
              ((first | exact hM14.cells | exact hM13.cells | exact hM12.cells | exact hM11.cells | exact hM10.cells | exact hPd.cells))
              (first | (go_at_call 30; refine (rrooms0 _ A l c T C e (hA.below hPd.net.below) hl12 hE HV.out.reads).mono ?_; rintro r7 W10 ⟨hb10, R, dR, rfl, hRm⟩; have hM10 := hPd.step hb10) | (go_at_call 29; refine (isTruth_any _ A R X l xs c dR dX T C _ _ (hA.below hM10.net.below) hRm (HXd.out.below hb10) hl12 hxl2 HV.out.net HR.out).mono ?_; rintro r8 W11 ⟨hb11, b1, rfl, hb1'⟩; obtain rfl : b1 = true := hb1'.2 ⟨HXL.out, HT.out⟩; clear hb1'; have hM11 := hM10.step hb11) | (go_at_call 22; refine (net_any _ A l c T C (hA.below hM11.net.below) hl2).mono ?_; rintro r9 W12 ⟨hb12, B, d, rfl, hB, _⟩; have hM12 := hM11.step hb12) | (go_at_call 25; refine (cut_any _ P Q ts cs c1 c2 (hP.below hM12.net.below) (hQ.below hM12.net.below) hP0 hQ0 (by omega) (by omega)).mono ?_; rintro r10 W13 ⟨hb13, P2, Q2, e1, e2, rfl, hP2, hQ2⟩; have hM13 := hM12.step hb13) | (go_at_call 24; refine (proveCut_any _ B P2 Q2 l ts cs d e1 e2 T C e (hB.below hb13) hP2 hQ2 hl2 (by omega) (by omega)).mono ?_; rintro r11 W14 ⟨hb14, b2, rfl, hb2'⟩; obtain rfl : b2 = false := Bool.eq_false_iff.2 (fun h => provesL_not HV.out.net (hb2'.1 h).2.1 (hb2'.1 h).2.2.1 (hb2'.1 h).2.2.2 HCA.out); clear hb2'; have hM14 := hM13.step hb14))
            have hMt := hM14
            clear hPd hM10 hM11 hM12 hM13 hM14 hb10 hb11 hb12 hb13 hb14 hRm hB hP2 hQ2 HXd HT HCA k0 k1 k2 k3 k4
            generalize W14 = Wt at *
          case' inr =>
            obtain ⟨rfl, rfl, _⟩ := HS1.out.resolve_left (fun h => hcan h.2.1)
            have HNC := Lib.hid hcan
            have HPV : Hid (askedN l T C e = 0 ∧ Rising ts1 T ∧ Rising cs1 C ∧ ProvesL l ts1 cs1 (rmLo l e [] l.length) (rmHi l e [] l.length)) := Lib.hid ⟨HAS.out, hri1, hri2, hpv⟩
            have hbA := (Below.refl _ W6).alloc (Nat.le_refl _) (.cells #[.slice B1 ts1.length dd1, .slice D1 cs1.length dd2] 37)
            have hM7 : NCP w (W6.alloc (.cells #[.slice B1 ts1.length dd1, .slice D1 cs1.length dd2] 37)) A l.length c T C P ts.length c1 Q cs.length c2 W6.heap.size (.slice B1 ts1.length dd1) (.slice D1 cs1.length dd2) := ⟨hM6.step hbA, at_alloc rfl⟩
            have HI1 := Lib.hid (And.intro (hI1.below hbA) (hJ1.below hbA))
            clear hcan hri1 hri2 hpv hI1 hJ1 hbA hM6 HS1
            obtain ⟨⟨k0, k1, k2, k3, k4⟩, p0, p1⟩ := hM7.cells
            go_wp2_with fail
            generalize (W6.alloc (.cells #[.slice B1 ts1.length dd1, .slice D1 cs1.length dd2] 37)) = W7 at *
            refine (net_any _ A l c T C (hA.below hM7.nc.net.below) hl2).mono ?_
            rintro r5 W8 ⟨hb8, B, d, rfl, hB, _⟩
            have hM8 := hM7.step hb8
            replace HI1 := Lib.hid (And.intro (HI1.out.1.below hb8) (HI1.out.2.below hb8))
            clear hM7 hb8 k0 k1 k2 k3 k4 p0 p1
            go_wp2_with fail
            refine (least_out hB HV.out).mono ?_
            rintro r6 W9 ⟨hb9, n1, sh, rfl, hs1⟩
            have hcm := (least_cmp HV.out.reads hE hs1).resolve_left (fun h => HNC.out h.1)
            have hM9 := hM8.step hb9
            replace HI1 := Lib.hid (And.intro (HI1.out.1.below hb9) (HI1.out.2.below hb9))
            clear hM8 hb9 hB hs1
            obtain ⟨⟨k0, k1, k2, k3, k4⟩, p0, p1⟩ := hM9.cells
            have hPd := hM9.step (Below.refl _ W9).drew
            have q9 := hPd.cells
            clear hM9
            rcases hcm.2 with ⟨rfl, hn1⟩ | rfl
            case' inl =>
              have dn : decide (n1 ≤ e) = false := decide_eq_false (by omega)
              clear hcm
              go_wp2_with fail
              go_region_held3 (fun w' => w'.cell? ⟨w.heap.size, 0, none⟩ = some (.slice A l.length c) ∧ w'.cell? ⟨w.heap.size, 1, none⟩ = some (.int .i64 T) ∧ w'.cell? ⟨w.heap.size, 2, none⟩ = some (.int .i64 C) ∧ w'.cell? ⟨w.heap.size + 1, 0, none⟩ = some (.slice P ts.length c1) ∧ w'.cell? ⟨w.heap.size + 1, 1, none⟩ = some (.slice Q cs.length c2) ∧ w'.cell? ⟨W6.heap.size, 0, none⟩ = some (.slice B1 ts1.length dd1) ∧ w'.cell? ⟨W6.heap.size, 1, none⟩ = some (.slice D1 cs1.length dd2))
                ((first | exact ⟨q11.1.1, q11.1.2.1, q11.1.2.2.1, q11.1.2.2.2.1, q11.1.2.2.2.2, q11.2.1, q11.2.2⟩ | exact ⟨q10.1.1, q10.1.2.1, q10.1.2.2.1, q10.1.2.2.2.1, q10.1.2.2.2.2, q10.2.1, q10.2.2⟩ | exact ⟨q9.1.1, q9.1.2.1, q9.1.2.2.1, q9.1.2.2.2.1, q9.1.2.2.2.2, q9.2.1, q9.2.2⟩))
                (first | (go_at_call 22; refine (net_any _ A l c T C (hA.below hPd.nc.net.below) hl2).mono ?_; rintro r8 W10 ⟨hb10, B, d, rfl, hB, _⟩; have hM10 := hPd.step hb10; have q10 := hM10.cells) | (go_at_call 24; refine (proveCut_any _ B B1 D1 l ts1 cs1 d dd1 dd2 T C e hB (HI1.out.1.below (Below.refl _ _).drew |>.below hb10) (HI1.out.2.below (Below.refl _ _).drew |>.below hb10) hl2 (by omega) (by omega)).mono ?_; rintro r9 W11 ⟨hb11, b1, rfl, hb1'⟩; obtain rfl : b1 = true := hb1'.2 HPV.out; clear hb1'; have hM11 := hM10.step hb11; have q11 := hM11.cells))
              have hMt := hM11.nc
              clear q9 q10 q11 hPd hM10 hM11 hb10 hb11 hB HI1 HPV k0 k1 k2 k3 k4 p0 p1
              generalize W11 = Wt at *
            case' inr =>
              clear hcm
              go_wp2_with fail
              go_region_held3 (fun w' => w'.cell? ⟨w.heap.size, 0, none⟩ = some (.slice A l.length c) ∧ w'.cell? ⟨w.heap.size, 1, none⟩ = some (.int .i64 T) ∧ w'.cell? ⟨w.heap.size, 2, none⟩ = some (.int .i64 C) ∧ w'.cell? ⟨w.heap.size + 1, 0, none⟩ = some (.slice P ts.length c1) ∧ w'.cell? ⟨w.heap.size + 1, 1, none⟩ = some (.slice Q cs.length c2) ∧ w'.cell? ⟨W6.heap.size, 0, none⟩ = some (.slice B1 ts1.length dd1) ∧ w'.cell? ⟨W6.heap.size, 1, none⟩ = some (.slice D1 cs1.length dd2))
                ((first | exact ⟨q11.1.1, q11.1.2.1, q11.1.2.2.1, q11.1.2.2.2.1, q11.1.2.2.2.2, q11.2.1, q11.2.2⟩ | exact ⟨q10.1.1, q10.1.2.1, q10.1.2.2.1, q10.1.2.2.2.1, q10.1.2.2.2.2, q10.2.1, q10.2.2⟩ | exact ⟨q9.1.1, q9.1.2.1, q9.1.2.2.1, q9.1.2.2.2.1, q9.1.2.2.2.2, q9.2.1, q9.2.2⟩))
                (first | (go_at_call 22; refine (net_any _ A l c T C (hA.below hPd.nc.net.below) hl2).mono ?_; rintro r8 W10 ⟨hb10, B, d, rfl, hB, _⟩; have hM10 := hPd.step hb10; have q10 := hM10.cells) | (go_at_call 24; refine (proveCut_any _ B B1 D1 l ts1 cs1 d dd1 dd2 T C e hB (HI1.out.1.below (Below.refl _ _).drew |>.below hb10) (HI1.out.2.below (Below.refl _ _).drew |>.below hb10) hl2 (by omega) (by omega)).mono ?_; rintro r9 W11 ⟨hb11, b1, rfl, hb1'⟩; obtain rfl : b1 = true := hb1'.2 HPV.out; clear hb1'; have hM11 := hM10.step hb11; have q11 := hM11.cells))
              have hMt := hM11.nc
              clear q9 q10 q11 hPd hM10 hM11 hb10 hb11 hB HI1 HPV k0 k1 k2 k3 k4 p0 p1
              generalize W11 = Wt at *
          all_goals
            have hE6 : 0 ≤ e % 6 ∧ e % 6 ≤ 5 := by omega
            go_wp2_with fail
            refine (closed_any _ WA ws wc (e % 6) (hW.below hMt.net.below) hwl hE6).mono ?_
            rintro r20 Wc ⟨hbc, B, l2, d, T2, C2, D, xs2, d2, rfl, hB, hD, hxl2', hl0', hl14, hBf, hdone⟩
            have hdn := Lib.hid hdone
            have hbA := (Below.refl _ Wc).alloc (Nat.le_refl _) (.cells #[.slice B l2.length d, .int .i64 T2, .int .i64 C2] 24)
            have hMc := hMt.step hbc
            have hZ0 : ZC w Wc (Wc.alloc (.cells #[.slice B l2.length d, .int .i64 T2, .int .i64 C2] 24)) B l2.length d T2 C2 D xs2 A l.length c T C P ts.length c1 Q cs.length c2 := ⟨⟨hMc.net.below, NMem.made Wc B l2.length d T2 C2, hD.below hbA⟩, hMc.step hbA⟩
            have hl22 : l2.length ≤ 1000 := by omega
            have hx22 : xs2.length ≤ 1000 := by omega
            have hx20 : 0 < xs2.length := by omega
            have HXL2 := Lib.hid hxl2'
            clear hdone hbA hMc hbc hMt hD hBf hxl2'
            have hey2 : e.tmod 6 = e % 6 := by rw [Int.tmod_eq_emod_of_nonneg hE.1]
            generalize hey : e % 6 = e6 at *
            go_wp2_with fail
            refine (lfault_any _ B l2 d T2 C2 (hB.below hZ0.z.net.below) hl22).mono ?_
            rintro r21 V0 ⟨hv0, rfl⟩
            have hZ1 := hZ0.step hv0
            clear hZ0 hv0
            by_cases hz2 : faultN l2 T2 C2 = 0
            · have hz2' : (faultN l2 T2 C2 != 0) = false := by simp [hz2]
              have hV2 : Valid l2 T2 C2 := by
                obtain ⟨T', C', h1, h2, hV⟩ := valid_of hz2
                obtain rfl : T2 = T' := by omega
                obtain rfl : C2 = C' := by omega
                exact hV
              have hTL2 := (hdn.out hV2.len.2).2
              have HCA2 := Lib.hid (truth_can hV2.net hTL2)
              have HT2 := Lib.hid hTL2
              have HV2 := Lib.hid hV2
              have HA2 := Lib.hid (asked_in (err := e6) (faultN_valid hV2) (by omega))
              clear hTL2 hV2 hz2 hdn
              have hY := hZ1.step (Below.refl _ V0).drew
              obtain ⟨j0, j1, j2, j3, j4⟩ := hZ1.cells
              clear hZ1
              go_wp2_with fail
              go_region_held3 (fun w' => w'.cell? ⟨Wc.heap.size, 0, none⟩ = some (.slice B l2.length d) ∧ w'.cell? ⟨Wc.heap.size, 1, none⟩ = some (.int .i64 T2) ∧ w'.cell? ⟨Wc.heap.size, 2, none⟩ = some (.int .i64 C2) ∧ w'.cell? ⟨w.heap.size + 1, 0, none⟩ = some (.slice P ts.length c1) ∧ w'.cell? ⟨w.heap.size + 1, 1, none⟩ = some (.slice Q cs.length c2))
                (exact hY.cells)
                (first | (go_at_call 22; refine (net_any _ B l2 d T2 C2 (hB.below hY.z.net.below) hl22).mono ?_; rintro r22 V1 ⟨hv1, B3, d3, rfl, hB3, _⟩; have hY := hY.step hv1) | (go_at_call 23; refine (list_any _ D xs2 d2 hY.z.ints (ints_none hY.z.ints hx20 d2) hx22).mono ?_; rintro r23 V2 ⟨hv2, X2, dX2, rfl, hX2, _⟩; have hY := hY.step hv2) | (go_at_call 21; refine (proveTruth_any _ B3 X2 l2 xs2 d3 dX2 T2 C2 e6 (hB3.below hv2) hX2 hl22 hx22).mono ?_; rintro r24 V3 ⟨hv3, is, rfl, his⟩; obtain rfl : is = true := his.2 ⟨HA2.out, HXL2.out, HT2.out⟩; clear his; have hY := hY.step hv3) | (go_at_call 25; refine (cut_any _ P Q ts cs c1 c2 (hP.below hY.m.net.below) (hQ.below hY.m.net.below) hP0 hQ0 (by omega) (by omega)).mono ?_; rintro r26 V5 ⟨hv5, P2, Q2, e1, e2, rfl, hP2, hQ2⟩; have hY := hY.step hv5) | (go_at_call 24; refine (proveCut_any _ B3 P2 Q2 l2 ts cs d3 e1 e2 T2 C2 e6 (hB3.below hv5) hP2 hQ2 hl22 (by omega) (by omega)).mono ?_; rintro r27 V6 ⟨hv6, b2, rfl, hb2'⟩; obtain rfl : b2 = false := Bool.eq_false_iff.2 (fun h => provesL_not HV2.out.net (hb2'.1 h).2.1 (hb2'.1 h).2.2.1 (hb2'.1 h).2.2.2 HCA2.out); clear hb2'; have hY := hY.step hv6) | (go_at_call 20; refine (awake_any _).mono ?_; rintro r28 V7 ⟨hv7, rfl⟩; have hY := hY.step hv7))
              go_wp2_with fail
              go_ret
              exact ⟨rfl, hY.m.net.below⟩
            · have hz2' : (faultN l2 T2 C2 != 0) = true := by simp [hz2]
              clear hz2
              go_wp2_with fail
              refine (awake_any _).mono ?_
              rintro r22 V1 ⟨hv1, rfl⟩
              go_wp2_with fail
              go_ret
              exact ⟨rfl, (hZ1.step hv1).m.net.below⟩
        · have d4 : decide ((9 : Int) < cs.length) = true := decide_eq_true (by omega)
          go_wp2_with fail
          refine (awake_any _).mono ?_
          rintro e W6 ⟨hb6, rfl⟩
          go_wp2_with fail
          go_ret
          exact ⟨rfl, (hM2.step hb6).net.below⟩
      · have d3 : decide ((9 : Int) < ts.length) = true := decide_eq_true (by omega)
        go_wp2_with fail
        refine (awake_any _).mono ?_
        rintro e W6 ⟨hb6, rfl⟩
        go_wp2_with fail
        go_ret
        exact ⟨rfl, (hM2.step hb6).net.below⟩
    · have hz' : (faultN l T C != 0) = true := by simp [hz]
      clear hz
      go_wp2_with fail
      refine (awake_any _).mono ?_
      rintro e W6 ⟨hb6, rfl⟩
      go_wp2_with fail
      go_ret
      exact ⟨rfl, (hM2.step hb6).net.below⟩
  · have h1' : decide (l.length ≤ 15) = false := decide_eq_false h1
    have HL := Lib.hid h1'
    clear h1 h1' ha
    go_enter Try.func18, Try.ntmps18
    go_wp2_with fail
    refine (thin_any _ _ _ _ _ _ hl).mono ?_
    rintro e W1 ⟨hb1, he⟩
    rw [HL.out] at he
    subst he
    have hM1 := hM.step hb1
    go_wp2_with fail
    refine (awake_any _).mono ?_
    rintro e W6 ⟨hb6, rfl⟩
    go_wp2_with fail
    go_ret
    exact ⟨rfl, (hM1.step hb6).net.below⟩
end Go.Proofs.Ytnhbplnhhloklaa
