/- Contract of Bounds. -/
import Derived.Test.YtnhbplnhhloklaaC5
namespace Go.Proofs.Ytnhbplnhhloklaa
open Go.RowKit
theorem elem52 : Elem 52 58 2 16 (.agg #[.int .i64 0, .int .i64 0]) := ⟨by kernel_rfl, elem_info (by kernel_rfl), rfl, by decide, by decide⟩

/-- Pairs as the program holds them. -/
def pairsV (ps : List (Int × Int)) : List Value := ps.flatMap fun p => [.int .i64 p.1, .int .i64 p.2]
/-- The bounds of the first angles. -/
def BoundsAre (l : List Ang) (T C : Nat) (err : Int) (ps : List (Int × Int)) : Prop := ∀ i p, ps[i]? = some p → EndsAre l T C (rmLo l err [] l.length) (rmHi l err [] l.length) i p.1 p.2

set_option maxHeartbeats 4000000 in
set_option maxRecDepth 100000 in
theorem boundsAll_any (w : World) (A : Option Addr) (l : List Ang) (c : Nat) (T C err : Int) (hA : AngAt w A l) (hl : l.length ≤ 1000) :
    Calls Try.prog 35 #[.agg #[.slice A l.length c, .int .i64 T, .int .i64 C], .int .i64 err] w fun e w' => Below w.heap.size w w' ∧
      ∃ v s, e = .returned (.tuple #[v, .int .i64 s]) ∧ ((askedN l T C err ≠ 0 ∧ v = .slice none 0 0 ∧ s = askedN l T C err) ∨
        (askedN l T C err = 0 ∧ ((s = 0 ∧ CanE l T.toNat C.toNat err [] ∧ ∃ ps, ps.length = l.length ∧ BoundsAre l T.toNat C.toNat err ps ∧ w'.ownsRow w.heap.size 58 2 v l.length (pairsV ps)) ∨
          (s = 9 ∧ v = .slice none 0 0 ∧ ¬ CanE l T.toNat C.toNat err [])))) := by
  have hbl : Below w.heap.size w (w.alloc (.cells #[.slice A l.length c, .int .i64 T, .int .i64 C] 33)) := (Below.refl _ w).alloc (Nat.le_refl _) _
  have hn : (w.alloc (.cells #[.slice A l.length c, .int .i64 T, .int .i64 C] 33)).heap[w.heap.size]? = some (.cells #[.slice A l.length c, .int .i64 T, .int .i64 C] 33 (0, 0)) := at_alloc rfl
  have hsz : w.heap.size < (w.alloc (.cells #[.slice A l.length c, .int .i64 T, .int .i64 C] 33)).heap.size := by simp
  go_enter Try.func35, Try.ntmps35
  go_wp2_with (first | (go_at_call 78; refine (sure_any _ A l c T C err (hA.below hbl) hl).mono ?_; rintro e W1 ⟨hbe, s, rfl, hs⟩; have HS := Lib.hid hs; clear hs; have hc0 := cell_of_block (j := 0) (v := .slice A l.length c) ((hbe.block _ hsz).trans hn) rfl))
  · have hsn : (s != 0) = true := by first | assumption | (simp_all; done)
    refine bodyPost_ret (v := .tuple #[.slice none 0 0, .int .i64 s]) (by simp [results, Try.results35, go_sem]) rfl ?_
    refine ⟨hbl.trans (hbe.mono hbl.size), _, s, rfl, ?_⟩
    rcases HS.out with ⟨h1, h2⟩ | ⟨h1, ⟨rfl, h2⟩ | ⟨rfl, h2⟩⟩
    · exact .inl ⟨h1, rfl, h2⟩
    · simp at hsn
    · exact .inr ⟨h1, .inr ⟨rfl, rfl, h2⟩⟩
  · have hsn : (s != 0) = false := by first | assumption | (simp_all; done)
    have hs0 : s = 0 := by simpa using hsn
    subst hs0
    have h2 : askedN l T C err = 0 ∧ CanE l T.toNat C.toNat err [] := by
      rcases HS.out with ⟨h1, h2⟩ | ⟨h1, ⟨_, h2⟩ | ⟨h3, h2⟩⟩
      · exact absurd h2.symm h1
      · exact ⟨h1, h2⟩
      · cases h3
    have h3 := askedN_zero h2.1
    obtain ⟨T, C, rfl, rfl, hV⟩ := valid_of h3.1
    have hR := rm_ok (out := []) (k := l.length) hV.reads h3.2
    have hE := h3.2
    have hl12 := hV.len.2
    have HA := Lib.hid h2
    have hb1 := hbl.trans (hbe.mono hbl.size)
    have hn1 := (hbe.block _ hsz).trans hn
    have hs1 := Nat.lt_of_lt_of_le hsz hbe.size
    clear h2 h3 HS hbl hn hsz hbe hc0
    simp only [hsn]
    clear hsn
    go_loopw [7, 18] (fun v t wr => ∃ (k : Nat) (ps : List (Int × Int)), k ≤ l.length ∧ t = .int .i64 k ∧ Below W1.heap.size W1 wr ∧ ps.length = k ∧ Hid (BoundsAre l T C err ps) ∧ wr.ownsRow W1.heap.size 58 2 v k (pairsV ps)) (fun _ t _ => l.length - (intOf t).toNat)
    case atStart => exact ⟨0, [], Nat.zero_le _, rfl, Below.refl _ _, rfl, Lib.hid (fun i p h => by simp at h), World.ownsRow_nil _ _ _ _⟩
    case round =>
      obtain ⟨k, ps, hk, rfl, hbel, hpl, hps, hown⟩ := hrel
      have hHp := Lib.hid hpl
      clear hpl
      by_cases hlt : k < l.length
      · have hnr := (hbel.block _ hs1).trans hn1
        have hsr := Nat.lt_of_lt_of_le hs1 hbel.size
        have hbr0 := hb1.trans (hbel.mono hb1.size)
        have c0 := cell_of_block (j := 0) (v := .slice A l.length c) hnr rfl
        have c1 := cell_of_block (j := 1) (v := .int .i64 T) hnr rfl
        have c2 := cell_of_block (j := 2) (v := .int .i64 C) hnr rfl
        have hcan := HA.out.2
        have hkn : k < 100000 := by omega
        have HBl := Lib.hid hbel
        have HO := Lib.hid hown
        have HC := Lib.hid hcan
        clear hown hbel hcan
        go_wp2_with fail
        go_region_held3 (fun w' => w'.cell? ⟨w.heap.size, 0, none⟩ = some (.slice A l.length c) ∧ w'.cell? ⟨w.heap.size, 1, none⟩ = some (.int .i64 T) ∧ w'.cell? ⟨w.heap.size, 2, none⟩ = some (.int .i64 C))
          ((first | exact ⟨by assumption, by assumption, by assumption⟩ | exact ⟨(hba.cell (by exact hsr)).trans c0, (hba.cell (by exact hsr)).trans c1, (hba.cell (by exact hsr)).trans c2⟩ | exact ⟨(hbd.cell (by exact hsr)).trans c0, (hbd.cell (by exact hsr)).trans c1, (hbd.cell (by exact hsr)).trans c2⟩ | exact ⟨((hbd.alloc hbd.size _).cell (by exact hsr)).trans c0, ((hbd.alloc hbd.size _).cell (by exact hsr)).trans c1, ((hbd.alloc hbd.size _).cell (by exact hsr)).trans c2⟩ | exact ⟨(hbe5.cell (by exact hs1)).trans (((hbd.alloc hbd.size _).cell (by exact hsr)).trans c0), (hbe5.cell (by exact hs1)).trans (((hbd.alloc hbd.size _).cell (by exact hsr)).trans c1), (hbe5.cell (by exact hs1)).trans (((hbd.alloc hbd.size _).cell (by exact hsr)).trans c2)⟩))
          (first | (go_at_call 67; refine (rooms_any _ A none l [] c 0 T C err (hA.below hbr0.drew) (IntsAt.nil _ _) hl12 (by simp) hE hV.reads).mono ?_; rintro e W2 ⟨rfl, hbr⟩; have hba := (Below.refl _ wr).drew.trans hbr) | (go_at_call 79; refine (bounds_law _ A l c T C _ _ k (hA.below (hbr0.trans (hba.mono hbr0.size))) hl12 hV.net hR hlt HC.out).mono ?_; rintro e W3 ⟨hbc, x, y, rfl, hxy⟩; have HX := Lib.hid hxy; clear hxy; have hbd := hba.trans (hbc.mono hba.size)) | (refine step_push elem52 (W3.alloc (.cells #[.int .i64 x, .int .i64 y] 58)) (by rfl) (.tmp 21) (.tmp 28) (by rfl) W1.heap.size _ k _ (by rfl) (ownsRow_below HO.out (hbd.alloc hbd.size _) (Nat.le_refl _)) W3.heap.size 1 [.int .i64 x, .int .i64 y] (by rfl) (at_alloc rfl) rfl (by simp [Value.oneCell']) hkn (Nat.le_trans HBl.out.size (hbd.alloc hbd.size _).size) ?_; intro v' w' how5 hbe5 _))
        go_wp2_with fail
        go_roundw
        case rel =>
          refine ⟨k + 1, ps ++ [(x, y)], by omega, by go_num, HBl.out.trans (((hbd.alloc hbd.size _).mono HBl.out.size).trans hbe5), by rw [List.length_append, hHp.out]; rfl, Lib.hid ?_, ?_⟩
          · intro i p hp
            by_cases hi : i < k
            · rw [List.getElem?_append_left (by rw [hHp.out]; exact hi)] at hp
              exact hps.out i p hp
            · rw [List.getElem?_append_right (by rw [hHp.out]; omega), hHp.out] at hp
              have e : i = k := by
                have := (List.getElem?_eq_some_iff.1 hp).1
                simp at this; omega
              subst e
              simp at hp
              subst hp
              exact HX.out
          · have e : pairsV (ps ++ [(x, y)]) = pairsV ps ++ [.int .i64 x, .int .i64 y] := by simp [pairsV]
            rw [e]; exact how5
        case measure => simp [intOf]; omega
      · obtain rfl : k = l.length := by omega
        go_wp2_with fail
        refine bodyPost_ret (v := .tuple #[u7, .int .i64 0]) (by simp [results, Try.results35, go_sem]) rfl ?_
        exact ⟨hb1.trans (hbel.mono hb1.size), u7, 0, rfl, .inr ⟨HA.out.1, .inl ⟨rfl, HA.out.2, ps, hHp.out, hps.out, ownsRow_mono hown hb1.size⟩⟩⟩
end Go.Proofs.Ytnhbplnhhloklaa
