/- Contract of Leave. -/
import Derived.Test.YtnhbplnhhloklaaD1
import Derived.WalkMore
namespace Go.Proofs.Ytnhbplnhhloklaa
open Go.RowKit

/-- The smallest set that can be left out. -/
structure OutIs (l : List Ang) (T C : Nat) (err : Int) (ys : List Nat) : Prop where
  ext : Ext l.length 0 ys.length ys
  can : CanE l T C err (outI ys)
  short : ∀ zs, Ext l.length 0 zs.length zs → CanE l T C err (outI zs) → ys.length ≤ zs.length
  first : ∀ zs, Ext l.length 0 zs.length zs → CanE l T C err (outI zs) → zs.length = ys.length → ¬ lexLt zs ys

set_option maxHeartbeats 4000000 in
set_option maxRecDepth 100000 in
theorem leave_any (w : World) (A : Option Addr) (l : List Ang) (c : Nat) (T C err : Int) (hA : AngAt w A l) (hl : l.length ≤ 1000) (hAb : ∀ b o, A = some ⟨b, o, none⟩ → b < w.heap.size) :
    Calls Try.prog 56 #[.agg #[.slice A l.length c, .int .i64 T, .int .i64 C], .int .i64 err] w fun e w' => Below w.heap.size w w' ∧
      ∃ v s, e = .returned (.tuple #[v, .int .i64 s]) ∧ ((askedN l T C err ≠ 0 ∧ v = .slice none 0 0 ∧ s = askedN l T C err) ∨
        (askedN l T C err = 0 ∧ ((s = 0 ∧ ∃ ys, OutIs l T.toNat C.toNat err ys ∧ w'.ownsRow w.heap.size 3 1 v ys.length (outV ys)) ∨
          (s = 9 ∧ v = .slice none 0 0 ∧ ∀ zs, Ext l.length 0 zs.length zs → ¬ CanE l T.toNat C.toNat err (outI zs))))) := by
  have hbl : Below w.heap.size w ((w.alloc (.cells #[.slice A l.length c, .int .i64 T, .int .i64 C] 33)).alloc (.cells #[.int .i64 err] 3)) := ((Below.refl _ w).alloc (Nat.le_refl _) _).alloc (by simp) _
  by_cases h1 : askedN l T C err = 0
  · have h1' : (askedN l T C err != 0) = false := by simp [h1]
    have h2 := askedN_zero h1
    obtain ⟨T, C, rfl, rfl, hV⟩ := valid_of h2.1
    have HA := Lib.hid h1
    have hE := h2.2
    have hl12 := hV.len.2
    clear h1 h2
    have hn : ((w.alloc (.cells #[.slice A l.length c, .int .i64 T, .int .i64 C] 33)).alloc (.cells #[.int .i64 err] 3)).heap[w.heap.size]? = some (.cells #[.slice A l.length c, .int .i64 T, .int .i64 C] 33 (0, 0)) := past_alloc (at_alloc rfl)
    have hr : ((w.alloc (.cells #[.slice A l.length c, .int .i64 T, .int .i64 C] 33)).alloc (.cells #[.int .i64 err] 3)).heap[w.heap.size + 1]? = some (.cells #[.int .i64 err] 3 (0, 0)) := at_alloc (by simp)
    have hsz : ((w.alloc (.cells #[.slice A l.length c, .int .i64 T, .int .i64 C] 33)).alloc (.cells #[.int .i64 err] 3)).heap.size = w.heap.size + 1 + 1 := by simp
    have HZ := Lib.hid hsz
    clear hsz
    go_enter Try.func56, Try.ntmps56
    go_wp2_with fail
    go_step3
    go_wp2_with (first | (go_at_call 66; refine (asked_any _ A l c T C err (hA.below hbl) hl).mono ?_; rintro e W1 ⟨hbe, rfl⟩))
    have hb1 := hbl.trans (hbe.mono hbl.size)
    have hn1 := (hbe.block w.heap.size (by have := HZ.out; omega)).trans hn
    have hr1 := (hbe.block (w.heap.size + 1) (by have := HZ.out; omega)).trans hr
    have hs1 : w.heap.size + 1 < W1.heap.size := by have := HZ.out; have := hbe.size; omega
    clear hbe hn hr hbl
    go_step3
    have hM0 : LMem ((W1.alloc (.cells #[.slice none 0 0] 25)).alloc (.cells #[.func (.func 91) #[] #[.pointer (some ⟨w.heap.size, 0, none⟩), .pointer (some ⟨w.heap.size + 1, 0, none⟩), .pointer (some ⟨W1.heap.size, 0, none⟩), .pointer (some ⟨W1.heap.size + 1, 0, none⟩)]] 135)) w.heap.size (w.heap.size + 1) W1.heap.size (W1.heap.size + 1) (W1.heap.size + 1 + 1) A l.length c T C err (.slice none 0 0) 0 [] :=
      ⟨past_alloc (past_alloc hn1), past_alloc (past_alloc hr1), past_alloc (at_alloc rfl), at_alloc (by simp), World.ownsRow_nil _ _ _ _, by omega, by omega, by simp⟩
    have hb2 : Below w.heap.size w ((W1.alloc (.cells #[.slice none 0 0] 25)).alloc (.cells #[.func (.func 91) #[] #[.pointer (some ⟨w.heap.size, 0, none⟩), .pointer (some ⟨w.heap.size + 1, 0, none⟩), .pointer (some ⟨W1.heap.size, 0, none⟩), .pointer (some ⟨W1.heap.size + 1, 0, none⟩)]] 135)) := (hb1.alloc (by omega) _).alloc (by simp; omega) _
    have c0 := cell_of_block (j := 0) (v := .slice A l.length c) hn1 rfl
    have hs0 : w.heap.size < W1.heap.size := by omega
    have hs2 : w.heap.size < W1.heap.size + 1 := by omega
    go_wp2_with fail
    generalize ((W1.alloc (.cells #[.slice none 0 0] 25)).alloc (.cells #[.func (.func 91) #[] #[.pointer (some ⟨w.heap.size, 0, none⟩), .pointer (some ⟨w.heap.size + 1, 0, none⟩), .pointer (some ⟨W1.heap.size, 0, none⟩), .pointer (some ⟨W1.heap.size + 1, 0, none⟩)]] 135)) = W2 at *
    clear c0 hs2 hn1 hr1 hb1
    have hAb2 : ∀ b o, A = some ⟨b, o, none⟩ → b < W1.heap.size + 1 + 1 ∧ b ≠ W1.heap.size := fun b o e => by have := hAb b o e; omega
    have hW1 : w.heap.size ≤ W1.heap.size := by omega
    go_loopw [9, 22] (fun fd t wr => ∃ (k : Nat) (v : Value), k ≤ l.length + 1 ∧ fd = .bool false ∧ t = .int .i64 k ∧ LMem wr w.heap.size (w.heap.size + 1) W1.heap.size (W1.heap.size + 1) (W1.heap.size + 1 + 1) A l.length c T C err v 0 [] ∧ Below w.heap.size w wr ∧ Hid (∀ j, j < k → ∀ zs, Ext l.length 0 j zs → ¬ CanE l T C err (outI zs))) (fun _ t _ => l.length + 1 - (intOf t).toNat)
    case atStart => exact ⟨0, _, Nat.zero_le _, rfl, rfl, hM0, hb2, Lib.hid (fun j hj => by omega)⟩
    case round =>
      clear hM0 hb2
      obtain ⟨k, v, hk, rfl, rfl, hM, hbw, hno⟩ := hrel
      by_cases hlt : k < l.length + 1
      · have hd : decide ((k : Int) < (l.length : Int) + 1) = true := decide_eq_true (by omega)
        have cf := cell_of_block (j := 0) hM.fn rfl
        have hAr := hA.below hbw
        go_wp2_with (first | (go_at_call 91; refine (leave1_any l c T C err hV hE _ _ _ _ _ A hAb2 k 0 0 _ _ [] v _ rfl rfl hAr (by omega) (by omega) hM).mono ?_; rintro e W3 ⟨b, v3, k3, xs3, rfl, hM3, hK3, hres⟩; have co3 := cell_of_block (j := 0) (v := v3) hM3.out rfl; have HR := Lib.hid hres; clear hres))
        · have hb : b = true := by assumption
          subst hb
          have hb3 : Below w.heap.size w W3 := hbw.trans (hK3.below hbw.size (by rintro q (rfl | h) <;> omega))
          rw [Exit.noGoto_ret]
          refine bodyPost_ret (v := .tuple #[v3, .int .i64 0]) (by simp [results, Try.results56, go_sem]) rfl ?_
          refine ⟨hb3, v3, 0, rfl, .inr ⟨HA.out, .inl ⟨rfl, ?_⟩⟩⟩
          rcases HR.out with ⟨_, ys, hx, hxs, hcan, hmin⟩ | ⟨h, _⟩
          · rw [List.nil_append] at hxs
            subst hxs
            have hlk := hx.len
            refine ⟨xs3, ⟨by rw [hlk]; exact hx, hcan, fun zs hz hc => ?_, fun zs hz hc he => hmin zs (by rw [← hlk, ← he]; exact hz) (by simpa using hc)⟩, ?_⟩
            · refine Classical.byContradiction fun hn => ?_
              exact hno.out zs.length (by omega) zs hz hc
            · have := hM3.own
              have hl3 := this.1
              rw [show (outV xs3).length = xs3.length by simp [outV], Nat.mul_one] at hl3
              rw [hl3]
              exact ownsRow_mono this (by omega)
          · cases h
        · have hb : b = false := by
            cases b with
            | false => rfl
            | true => first | contradiction | simp_all
          subst hb
          have hb3 : Below w.heap.size w W3 := hbw.trans (hK3.below hbw.size (by rintro q (rfl | h) <;> omega))
          rcases HR.out with ⟨h, _⟩ | ⟨_, rfl, rfl, hnone⟩
          · cases h
          · have HN := Lib.hid hnone
            clear hnone
            go_roundw
            case rel =>
              refine ⟨k + 1, v3, by omega, rfl, by go_num, hM3, hb3, Lib.hid (fun j hj zs hz hc => ?_)⟩
              by_cases e : j = k
              · subst e; exact HN.out zs hz (by simpa using hc)
              · exact hno.out j (by omega) zs hz hc
            case measure => simp [intOf]; omega
      · obtain rfl : k = l.length + 1 := by omega
        go_wp2_with fail
        try rw [Exit.noGoto_ret]
        refine bodyPost_ret (v := .tuple #[.slice none 0 0, .int .i64 9]) (by simp [results, Try.results56, go_sem]) rfl ?_
        refine ⟨hbw, _, 9, rfl, .inr ⟨HA.out, .inr ⟨rfl, rfl, fun zs hz => hno.out zs.length ?_ zs hz⟩⟩⟩
        have := hz.room
        omega
  · have h1' : (askedN l T C err != 0) = true := by simp [h1]
    have HH := Lib.hid h1
    clear h1
    go_enter Try.func56, Try.ntmps56
    go_wp2_with fail
    go_step3
    go_wp2_with (first | (go_at_call 66; refine (asked_any _ A l c T C err (hA.below hbl) hl).mono ?_; rintro e w' ⟨hbe, rfl⟩))
    rw [Exit.noGoto_ret]
    refine bodyPost_ret (v := .tuple #[.slice none 0 0, .int .i64 (askedN l T C err)]) (by simp [results, Try.results56, go_sem]) rfl ?_
    exact ⟨hbl.trans (hbe.mono hbl.size), _, _, rfl, .inl ⟨HH.out, rfl, rfl⟩⟩
end Go.Proofs.Ytnhbplnhhloklaa
