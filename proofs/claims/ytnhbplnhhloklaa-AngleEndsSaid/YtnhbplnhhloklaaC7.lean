/- Contract of Controlled. -/
import Derived.Test.YtnhbplnhhloklaaC6
import Derived.Laws.StructEq
import Derived.Laws.Small
import Derived.Laws.Cover2
namespace Go.Proofs.Ytnhbplnhhloklaa
open Go.RowKit

set_option maxRecDepth 100000 in
theorem eq58 (a b c d : Int) (w : World) : (Op.equalIn 10000 58 (.agg #[.int .i64 a, .int .i64 b]) (.agg #[.int .i64 c, .int .i64 d])).run Try.prog w = .ok (a == c && b == d) w := by
  have u3 := Try.underlying3
  have a3 := Try.isAgg3
  have z3 := Try.sizeOf3
  have hS : Try.prog.underlying 58 = some (.struct (Try.prog.fieldsOf 58)) := by kernel_rfl
  have hp : Try.prog.stoodInHeld 58 = false := by kernel_rfl
  rw [show (10000 : Nat) = 9999 + 1 from rfl, run_equalIn_agg w 9999 58 _ _ hS hp]
  simp only [Program.fieldsOf, Try.underlying58]
  go_simp
  by_cases h1 : a = c <;> by_cases h2 : b = d <;> simp [h1, h2]
theorem guard58 : Try.prog.eqGuardType Try.prog.depth 58 = false := by kernel_rfl
attribute [local go_sem ↓] eq58 guard58

theorem intsAt_one {W : World} {b : Nat} {x : Int} {t : TypeId} (h : W.heap[b]? = some (.cells #[.int .i64 x] t (0, 0))) : IntsAt W (some ⟨b, 0, none⟩) [x] := by
  intro i y hi
  have h0 : i = 0 := by
    have := (List.getElem?_eq_some_iff.1 hi).1
    simp at this; exact this
  subst h0
  simp at hi
  subst hi
  exact ⟨b, 0, rfl, (Array.getElem?_eq_some_iff.1 h).1, cell_of_block h rfl⟩
theorem can_mono {l : List Ang} {T C : Nat} {lo hi lo' hi' : Nat → Int} (h : Can l T C lo hi) (hle : ∀ i, i < l.length → lo' i ≤ lo i ∧ hi i ≤ hi' i) : Can l T C lo' hi' := by
  obtain ⟨x, h1, h2⟩ := h
  refine ⟨x, fun i hi' => ?_, h2⟩
  have := h1 i hi'
  have := hle i hi'
  omega
theorem rm_out {l : List Ang} {err : Int} {out : List Int} (i : Nat) (hi : i < l.length) : rmLo l err out l.length i ≤ rmLo l err [] l.length i ∧ rmHi l err [] l.length i ≤ rmHi l err out l.length i := by
  have ha : l[i]? = some l[i] := by simp
  simp only [rmLo, rmHi, hi, if_true, ha, List.not_mem_nil, if_false]
  split
  · unfold rLo rHi; omega
  · omega
theorem canE_out {l : List Ang} {T C : Nat} {err : Int} {out : List Int} (h : CanE l T C err []) : CanE l T C err out := can_mono h fun i hi => rm_out i hi

/-- An angle is controlled. -/
def Ctl (l : List Ang) (T C : Nat) (err : Int) (i : Nat) : Prop := ∃ x y, EndsAre l T C (rmLo l err [(i : Int)] l.length) (rmHi l err [(i : Int)] l.length) i x y ∧ ¬ (x = 0 ∧ y = 40)
theorem ends_unique {l : List Ang} {T C : Nat} {lo hi : Nat → Int} {i : Nat} {a b a' b' : Int} (h : EndsAre l T C lo hi i a b) (h' : EndsAre l T C lo hi i a' b') : a = a' ∧ b = b' := by
  constructor
  · by_cases h1 : a < a'
    · exact absurd h.ca (h'.na a h.a0.1 h1)
    · by_cases h2 : a' < a
      · exact absurd h'.ca (h.na a' h'.a0.1 h2)
      · omega
  · by_cases h1 : b' < b
    · exact absurd h.cb (h'.nb b h1 h.b0.2)
    · by_cases h2 : b < b'
      · exact absurd h'.cb (h.nb b' h2 h'.b0.2)
      · omega

set_option maxHeartbeats 4000000 in
set_option maxRecDepth 100000 in
theorem controlled_any (w : World) (A : Option Addr) (l : List Ang) (c : Nat) (T C err : Int) (hA : AngAt w A l) (hl : l.length ≤ 1000) :
    Calls Try.prog 40 #[.agg #[.slice A l.length c, .int .i64 T, .int .i64 C], .int .i64 err] w fun e w' => Below w.heap.size w w' ∧
      ∃ v s, e = .returned (.tuple #[v, .int .i64 s]) ∧ ((askedN l T C err ≠ 0 ∧ v = .slice none 0 0 ∧ s = askedN l T C err) ∨
        (askedN l T C err = 0 ∧ ((s = 0 ∧ CanE l T.toNat C.toNat err [] ∧ ∃ ks : List Nat, ks.Pairwise (· < ·) ∧ (∀ i, i ∈ ks ↔ i < l.length ∧ Ctl l T.toNat C.toNat err i) ∧ w'.ownsRow w.heap.size 3 1 v ks.length (ks.map fun (i : Nat) => Value.int .i64 i)) ∨
          (s = 9 ∧ v = .slice none 0 0 ∧ ¬ CanE l T.toNat C.toNat err [])))) := by
  have hbl : Below w.heap.size w (w.alloc (.cells #[.slice A l.length c, .int .i64 T, .int .i64 C] 33)) := (Below.refl _ w).alloc (Nat.le_refl _) _
  have hn : (w.alloc (.cells #[.slice A l.length c, .int .i64 T, .int .i64 C] 33)).heap[w.heap.size]? = some (.cells #[.slice A l.length c, .int .i64 T, .int .i64 C] 33 (0, 0)) := at_alloc rfl
  have hsz : w.heap.size < (w.alloc (.cells #[.slice A l.length c, .int .i64 T, .int .i64 C] 33)).heap.size := by simp
  go_enter Try.func40, Try.ntmps40
  go_wp2_with (first | (go_at_call 78; refine (sure_any _ A l c T C err (hA.below hbl) hl).mono ?_; rintro e W1 ⟨hbe, s, rfl, hs⟩; have HS := Lib.hid hs; clear hs; have hc0 := cell_of_block (j := 0) (v := .slice A l.length c) ((hbe.block _ hsz).trans hn) rfl))
  · have hsn : (s != 0) = true := by first | assumption | (simp_all; done)
    refine bodyPost_ret (v := .tuple #[.slice none 0 0, .int .i64 s]) (by simp [results, Try.results40, go_sem]) rfl ?_
    refine ⟨hbl.trans (hbe.mono hbl.size), _, s, rfl, ?_⟩
    rcases HS.out with ⟨h1, h2⟩ | ⟨h1, ⟨rfl, h2⟩ | ⟨rfl, h2⟩⟩
    · exact .inl ⟨h1, rfl, h2⟩
    · simp at hsn
    · exact .inr ⟨h1, .inr ⟨rfl, rfl, h2⟩⟩
  · have hsn : (s != 0) = false := by first | assumption | (simp_all; done)
    have hs0 : s = 0 := by simpa using hsn
    subst hs0
    have h2 : askedN l T C err = 0 ∧ CanE l T.toNat C.toNat err [] := by
      rcases HS.out with ⟨h1, h2⟩ | ⟨h1, ⟨_, h2⟩ | ⟨h3, h2⟩⟩
      · exact absurd h2.symm h1
      · exact ⟨h1, h2⟩
      · cases h3
    have h3 := askedN_zero h2.1
    obtain ⟨T, C, rfl, rfl, hV⟩ := valid_of h3.1
    have hE := h3.2
    have hl12 := hV.len.2
    have HA := Lib.hid h2
    have hb1 := hbl.trans (hbe.mono hbl.size)
    have hn1 := (hbe.block _ hsz).trans hn
    have hs1 := Nat.lt_of_lt_of_le hsz hbe.size
    clear h2 h3 HS hbl hn hsz hbe hc0
    simp only [hsn]
    clear hsn
    go_loopw [7, 18] (fun v t wr => ∃ (k : Nat) (ks : List Nat), k ≤ l.length ∧ t = .int .i64 k ∧ Below W1.heap.size W1 wr ∧ Hid (ks.Pairwise (· < ·) ∧ (∀ i, i ∈ ks ↔ i < k ∧ Ctl l T C err i) ∧ ks.length ≤ k) ∧ wr.ownsRow W1.heap.size 3 1 v ks.length (ks.map fun (i : Nat) => Value.int .i64 i)) (fun _ t _ => l.length - (intOf t).toNat)
    case atStart => exact ⟨0, [], Nat.zero_le _, rfl, Below.refl _ _, Lib.hid ⟨List.Pairwise.nil, by simp, by simp⟩, World.ownsRow_nil _ _ _ _⟩
    case round =>
      obtain ⟨k, ks, hk, rfl, hbel, hks, hown⟩ := hrel
      by_cases hlt : k < l.length
      · have hnr := (hbel.block _ hs1).trans hn1
        have hsr := Nat.lt_of_lt_of_le hs1 hbel.size
        have hbr0 := hb1.trans (hbel.mono hb1.size)
        have c0 := cell_of_block (j := 0) (v := .slice A l.length c) hnr rfl
        have c1 := cell_of_block (j := 1) (v := .int .i64 T) hnr rfl
        have c2 := cell_of_block (j := 2) (v := .int .i64 C) hnr rfl
        have hcan := canE_out (out := [(k : Int)]) HA.out.2
        have hR := rm_ok (out := [(k : Int)]) (k := l.length) hV.reads hE
        have hints : IntsAt (wr.alloc (.cells #[.int .i64 k] 3)).drew (some ⟨wr.heap.size, 0, none⟩) [(k : Int)] := intsAt_one (at_alloc (w := wr) rfl)
        have hba0 : Below wr.heap.size wr (wr.alloc (.cells #[.int .i64 k] 3)).drew := ((Below.refl _ wr).alloc (Nat.le_refl _) _).drew
        have HBl := Lib.hid hbel
        have HO := Lib.hid hown
        have HC := Lib.hid hcan
        clear hown hbel hcan
        go_wp2_with fail
        go_region_held3 (fun w' => w'.cell? ⟨w.heap.size, 0, none⟩ = some (.slice A l.length c) ∧ w'.cell? ⟨w.heap.size, 1, none⟩ = some (.int .i64 T) ∧ w'.cell? ⟨w.heap.size, 2, none⟩ = some (.int .i64 C))
          ((first | exact ⟨by assumption, by assumption, by assumption⟩ | exact ⟨(hba0.cell (by exact hsr)).trans c0, (hba0.cell (by exact hsr)).trans c1, (hba0.cell (by exact hsr)).trans c2⟩ | exact ⟨(hba.cell (by exact hsr)).trans c0, (hba.cell (by exact hsr)).trans c1, (hba.cell (by exact hsr)).trans c2⟩ | exact ⟨(hbd.cell (by exact hsr)).trans c0, (hbd.cell (by exact hsr)).trans c1, (hbd.cell (by exact hsr)).trans c2⟩ | exact ⟨(hbf.cell (by exact hsr)).trans c0, (hbf.cell (by exact hsr)).trans c1, (hbf.cell (by exact hsr)).trans c2⟩))
          (first | (go_at_call 67; refine (rooms_any _ A (some ⟨wr.heap.size, 0, none⟩) l [(k : Int)] c 1 T C err (hA.below (hbr0.trans (hba0.mono hbr0.size))) hints hl12 (by simp) hE hV.reads).mono ?_; rintro e W2 ⟨rfl, hbr⟩; have hba := hba0.trans (hbr.mono hba0.size)) | (go_at_call 79; refine (bounds_law _ A l c T C _ _ k (hA.below (hbr0.trans (hba.mono hbr0.size))) hl12 hV.net hR hlt HC.out).mono ?_; rintro e W3 ⟨hbc, x, y, rfl, hxy⟩; have HX := Lib.hid hxy; clear hxy; have hbd := hba.trans (hbc.mono hba.size)) | (go_at_call 81; refine (everything_any _).mono ?_; rintro e W4 ⟨rfl, hbe4⟩; have hbf := hbd.trans (hbe4.mono hbd.size)))
        have hWk := HBl.out.trans (hbf.mono HBl.out.size)
        by_cases hxy : x = 0 ∧ y = 40
        · have hb : (!x == 0 || !y == 40) = false := by simp [hxy.1, hxy.2]
          have hnc : ¬ Ctl l T C err k := by
            rintro ⟨x', y', h1, h2⟩
            obtain ⟨rfl, rfl⟩ := ends_unique HX.out h1
            exact h2 hxy
          have HN := Lib.hid hnc
          have HO2 := Lib.hid (ownsRow_below HO.out hbf (Nat.le_refl _))
          have HW := Lib.hid hWk
          clear hxy hnc hWk
          simp only [hb]
          go_wp2_with fail
          go_roundw
          case rel =>
            refine ⟨k + 1, ks, by omega, by go_num, HW.out, Lib.hid ⟨hks.out.1, fun i => ?_, Nat.le_succ_of_le hks.out.2.2⟩, HO2.out⟩
            rw [hks.out.2.1 i]
            constructor
            · rintro ⟨h1, h2⟩; exact ⟨by omega, h2⟩
            · rintro ⟨h1, h2⟩
              refine ⟨?_, h2⟩
              by_cases e : i = k
              · subst e; exact absurd h2 HN.out
              · omega
          case measure => simp [intOf]; omega
        · have hb : (!x == 0 || !y == 40) = true := by
            by_cases h : x = 0
            · have h2 : ¬ y = 40 := fun h2 => hxy ⟨h, h2⟩
              simp [h2]
            · simp [h]
          have HN : Hid (Ctl l T C err k) := Lib.hid ⟨x, y, HX.out, hxy⟩
          have hbg : Below wr.heap.size wr (W4.alloc (.cells #[.int .i64 k] 3)) := hbf.alloc hbf.size _
          have how4 := ownsRow_below HO.out hbg (Nat.le_refl _)
          have hkn : ks.length < 100000 := by have := hks.out.2.2; omega
          have hsz4 : W1.heap.size ≤ (W4.alloc (.cells #[.int .i64 k] 3)).heap.size := Nat.le_trans HBl.out.size hbg.size
          have hW4 := HBl.out.trans (hbg.mono HBl.out.size)
          have HO4 := Lib.hid how4
          have HW := Lib.hid hW4
          clear hxy how4 hW4 hWk
          simp only [hb]
          go_wp2_with (refine wpList_push elem25 (W4.alloc (.cells #[.int .i64 k] 3)) (by rfl) (.tmp 31) (.tmp 33) (by rfl) W1.heap.size _ ks.length _ (by rfl) HO4.out W4.heap.size 1 [.int .i64 k] (by rfl) (at_alloc rfl) rfl (by simp [Value.oneCell']) hkn hsz4 ?_; intro v' w' how5 hbe5 _)
          go_roundw
          case rel =>
            refine ⟨k + 1, ks ++ [k], by omega, by go_num, HW.out.trans hbe5, Lib.hid ⟨?_, fun i => ?_, ?_⟩, ?_⟩
            · rw [List.pairwise_append]
              refine ⟨hks.out.1, List.pairwise_singleton _ _, fun a ha b hb => ?_⟩
              rw [List.mem_singleton.1 hb]
              exact ((hks.out.2.1 a).1 ha).1
            · rw [List.mem_append, hks.out.2.1 i, List.mem_singleton]
              constructor
              · rintro (⟨h1, h2⟩ | rfl)
                · exact ⟨by omega, h2⟩
                · exact ⟨by omega, HN.out⟩
              · rintro ⟨h1, h2⟩
                by_cases e : i = k
                · exact .inr e
                · exact .inl ⟨by omega, h2⟩
            · have := hks.out.2.2
              rw [List.length_append]; simp; omega
            · rw [List.length_append, List.map_append]; exact how5
          case measure => simp [intOf]; omega
      · obtain rfl : k = l.length := by omega
        go_wp2_with fail
        refine bodyPost_ret (v := .tuple #[u7, .int .i64 0]) (by simp [results, Try.results40, go_sem]) rfl ?_
        exact ⟨hb1.trans (hbel.mono hb1.size), u7, 0, rfl, .inr ⟨HA.out.1, .inl ⟨rfl, HA.out.2, ks, hks.out.1, hks.out.2.1, ownsRow_mono hown hb1.size⟩⟩⟩
end Go.Proofs.Ytnhbplnhhloklaa
