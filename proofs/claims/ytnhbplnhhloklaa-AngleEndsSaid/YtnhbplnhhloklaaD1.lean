/- Contract of the search for readings that are left out (a closure that calls itself out of a loop). -/
import Derived.Test.YtnhbplnhhloklaaC7
import Derived.WalkSmall
namespace Go.Proofs.Ytnhbplnhhloklaa
open Go.RowKit

def outI (xs : List Nat) : List Int := xs.map (fun i : Nat => (i : Int))
def outV (xs : List Nat) : List Value := xs.map (fun i : Nat => Value.int .i64 i)
/-- Rising lists of so many indexes from one on. -/
structure Ext (n f m : Nat) (ys : List Nat) : Prop where
  len : ys.length = m
  up : ys.Pairwise (· < ·)
  mem : ∀ y ∈ ys, f ≤ y ∧ y < n
/-- Smaller at the first index at which they differ. -/
def lexLt : List Nat → List Nat → Prop
  | x :: r, y :: s => x < y ∨ (x = y ∧ lexLt r s)
  | _, _ => False
theorem Ext.nil (n f : Nat) : Ext n f 0 [] := ⟨rfl, .nil, by simp⟩
theorem Ext.zero {n f : Nat} {ys : List Nat} (h : Ext n f 0 ys) : ys = [] := List.length_eq_zero_iff.1 h.len
theorem Ext.cons {n f m i : Nat} {ys : List Nat} (h : Ext n (i + 1) m ys) (hf : f ≤ i) (hi : i < n) : Ext n f (m + 1) (i :: ys) :=
  ⟨by simp [h.len], List.pairwise_cons.2 ⟨fun y hy => (h.mem y hy).1, h.up⟩, fun y hy => by
    rcases List.mem_cons.1 hy with rfl | hy
    · exact ⟨hf, hi⟩
    · have := h.mem y hy; omega⟩
theorem Ext.tail {n f m j : Nat} {ys : List Nat} (h : Ext n f (m + 1) (j :: ys)) : Ext n (j + 1) m ys :=
  ⟨by have := h.len; simpa using this, (List.pairwise_cons.1 h.up).2, fun y hy => ⟨(List.pairwise_cons.1 h.up).1 y hy, (h.mem y (List.mem_cons_of_mem _ hy)).2⟩⟩
theorem Ext.room {n : Nat} : ∀ {ys : List Nat} {f m : Nat}, Ext n f m ys → m = 0 ∨ f + m ≤ n
  | [], f, m, h => .inl h.len.symm
  | j :: r, f, m, h => by
    obtain ⟨m', rfl⟩ : ∃ m', m = m' + 1 := ⟨r.length, by have := h.len; simp at this; omega⟩
    have h1 := h.mem j (List.mem_cons_self ..)
    have h2 := (Ext.tail h).room
    omega
theorem Ext.uncons {n f m : Nat} {zs : List Nat} (h : Ext n f (m + 1) zs) : ∃ j ys, zs = j :: ys ∧ f ≤ j ∧ Ext n (j + 1) m ys ∧ j + m < n := by
  cases zs with
  | nil => have := h.len; simp at this
  | cons j ys =>
    have h1 := h.mem j (List.mem_cons_self ..)
    have h2 := h.tail
    have h3 := h2.room
    exact ⟨j, ys, rfl, h1.1, h2, by omega⟩

theorem own_form {w : World} {base e size k : Nat} {v : Value} {xs : List Value} (h : w.ownsRow base e size v (k + 1) xs) : ∃ g cap, v = .slice (some ⟨g, 0, none⟩) (k + 1) cap ∧ k + 1 ≤ cap ∧ base ≤ g ∧ g < w.heap.size := by
  rcases h.2 with ⟨_, h0⟩ | ⟨g, cap, cur, rfl, hb, hh, hc, _⟩
  · cases h0
  · exact ⟨g, cap, rfl, hc, hb, (Array.getElem?_eq_some_iff.1 hh).1⟩
theorem own_ints {w : World} {base k : Nat} {v : Value} {xs : List Nat} (h : w.ownsRow base 3 1 v k (outV xs)) : ∃ B d, v = .slice B (outI xs).length d ∧ IntsAt w B (outI xs) := by
  have hlen : (outV xs).length = (outI xs).length := by simp [outV, outI]
  have hl := h.1
  rw [hlen, Nat.mul_one] at hl
  rcases h.2 with ⟨rfl, h0⟩ | ⟨g, cap, cur, rfl, hb, hh, hc, hm, hs, ht⟩
  · refine ⟨none, 0, by rw [hl, h0], ?_⟩
    have : outI xs = [] := List.length_eq_zero_iff.1 (by omega)
    rw [this]; exact IntsAt.nil _ _
  · refine ⟨some ⟨g, 0, none⟩, cap, by rw [hl], fun i x hi => ?_⟩
    have hx : (outV xs)[i]? = some (.int .i64 x) := by
      simp only [outI, List.getElem?_map, Option.map_eq_some_iff] at hi
      obtain ⟨a, ha, rfl⟩ := hi
      simp only [outV, List.getElem?_map, ha, Option.map_some]
    refine ⟨g, 0, rfl, (Array.getElem?_eq_some_iff.1 hh).1, ?_⟩
    have := h.cells (g := g) rfl i _ hx
    by_cases e : i = 0
    · subst e; simpa [Addr.add] using this
    · simpa [Addr.add, e] using this
theorem own_setCell {w : World} {base e size k : Nat} {v : Value} {xs : List Value} (h : w.ownsRow base e size v k xs) {p : Addr} (hp : p.block < base) (u : Value) : (w.setCell p u).ownsRow base e size v k xs := by
  refine ⟨h.1, ?_⟩
  rcases h.2 with hn | ⟨g, cap, cur, rfl, hbg, hgg, rest⟩
  · exact .inl hn
  · refine .inr ⟨g, cap, cur, rfl, hbg, ?_, rest⟩
    rw [Below.heap_setCell _ _ _ _ (by omega)]
    exact hgg

/-- The memory of the search. -/
structure LMem (w : World) (nb eb ob kb base : Nat) (A : Option Addr) (n c : Nat) (T C err : Int) (v : Value) (k : Nat) (xs : List Nat) : Prop where
  net : w.heap[nb]? = some (.cells #[.slice A n c, .int .i64 T, .int .i64 C] 33 (0, 0))
  er : w.heap[eb]? = some (.cells #[.int .i64 err] 3 (0, 0))
  out : w.heap[ob]? = some (.cells #[v] 25 (0, 0))
  fn : w.heap[kb]? = some (.cells #[.func (.func 91) #[] #[.pointer (some ⟨nb, 0, none⟩), .pointer (some ⟨eb, 0, none⟩), .pointer (some ⟨ob, 0, none⟩), .pointer (some ⟨kb, 0, none⟩)]] 135 (0, 0))
  own : w.ownsRow base 3 1 v k (outV xs)
  lt : nb < base ∧ eb < base ∧ ob < base ∧ kb < base
  ne : ob ≠ nb ∧ ob ≠ eb ∧ ob ≠ kb
  sz : base ≤ w.heap.size
section
variable {w w' : World} {nb eb ob kb base : Nat} {A : Option Addr} {n c : Nat} {T C err : Int} {v : Value} {k : Nat} {xs : List Nat}
theorem LMem.step (h : LMem w nb eb ob kb base A n c T C err v k xs) (hb : Below w.heap.size w w') : LMem w' nb eb ob kb base A n c T C err v k xs :=
  have hl := h.lt
  have hs := h.sz
  ⟨(hb.block _ (by omega)).trans h.net, (hb.block _ (by omega)).trans h.er, (hb.block _ (by omega)).trans h.out, (hb.block _ (by omega)).trans h.fn, ownsRow_below h.own hb (Nat.le_refl _), hl, h.ne, Nat.le_trans hs hb.size⟩
theorem LMem.put (h : LMem w nb eb ob kb base A n c T C err v k xs) (hb : Below base w w') {v' : Value} {k' : Nat} {xs' : List Nat} (ho : w'.ownsRow base 3 1 v' k' (outV xs')) : LMem (w'.setCell ⟨ob, 0, none⟩ v') nb eb ob kb base A n c T C err v' k' xs' := by
  have hl := h.lt
  have hn := h.ne
  have e : ∀ b, b < base → b ≠ ob → (w'.setCell ⟨ob, 0, none⟩ v').heap[b]? = w.heap[b]? := fun b h1 h2 => (Below.heap_setCell _ _ _ _ h2).trans (hb.block b h1)
  refine ⟨(e nb (by omega) (by omega)).trans h.net, (e eb (by omega) (by omega)).trans h.er, ?_, (e kb (by omega) (by omega)).trans h.fn, own_setCell ho (by show ob < base; omega) _, hl, hn, ?_⟩
  · rw [heap_setCell_self ((hb.block ob (by omega)).trans h.out)]; rfl
  · have := hb.size
    have := h.sz
    simp [World.setCell]; omega
theorem Keep.out_put (hb : Below base w w') (v' : Value) : Keep (fun q => q = ob ∨ base ≤ q) w (w'.setCell ⟨ob, 0, none⟩ v') := by
  refine ⟨hb.os, hb.tape, hb.output, by have := hb.size; simpa [World.setCell] using this, fun q hq hn => ?_⟩
  have h1 : q ≠ ob := fun e => hn (.inl e)
  have h2 : q < base := by
    refine Classical.byContradiction fun e => hn (.inr (by omega))
  exact (Below.heap_setCell _ _ _ _ h1).trans (hb.block q h2)
end

/-- What the search does. -/
def LPost (l : List Ang) (nb eb ob kb base : Nat) (A : Option Addr) (c : Nat) (T C : Nat) (err : Int) (f m k : Nat) (pre : List Nat) (w : World) (e : Ending) (w' : World) : Prop :=
  ∃ (b : Bool) (v : Value) (k' : Nat) (xs : List Nat), e = .returned (.bool b) ∧ LMem w' nb eb ob kb base A l.length c T C err v k' xs ∧ Keep (fun q => q = ob ∨ base ≤ q) w w' ∧
    ((b = true ∧ ∃ ys, Ext l.length f m ys ∧ xs = pre ++ ys ∧ CanE l T C err (outI xs) ∧ ∀ zs, Ext l.length f m zs → CanE l T C err (outI (pre ++ zs)) → ¬ lexLt zs ys) ∨
     (b = false ∧ xs = pre ∧ k' = k ∧ ∀ zs, Ext l.length f m zs → ¬ CanE l T C err (outI (pre ++ zs))))

set_option maxHeartbeats 4000000 in
set_option maxRecDepth 100000 in
theorem leave1_any (l : List Ang) (c T C : Nat) (err : Int) (hV : Valid l T C) (hE : 0 ≤ err ∧ err ≤ 40) (nb eb ob kb base : Nat) (A : Option Addr) (hAb : ∀ b o, A = some ⟨b, o, none⟩ → b < base ∧ b ≠ ob) (m : Nat) :
    ∀ (f k : Nat) (fi mi : Int) (pre : List Nat) (v : Value) (w : World), fi = f → mi = m → AngAt w A l → f ≤ 20 → k + m ≤ 20 → LMem w nb eb ob kb base A l.length c T C err v k pre →
      Calls Try.prog 91 #[.int .i64 fi, .int .i64 mi, .pointer (some ⟨nb, 0, none⟩), .pointer (some ⟨eb, 0, none⟩), .pointer (some ⟨ob, 0, none⟩), .pointer (some ⟨kb, 0, none⟩)] w (LPost l nb eb ob kb base A c T C err f m k pre w) := by
  have hl12 := hV.len.2
  induction m with
  | zero =>
    rintro f k _ _ pre v w rfl rfl hA hf hk hM
    obtain ⟨B, d, hv, hI⟩ := own_ints hM.own
    subst hv
    have hol : (outI pre).length ≤ 100 := by
      have := hM.own.1
      simp [outV] at this
      simp [outI]; omega
    have hR := rm_ok (out := outI pre) (k := l.length) hV.reads hE
    have hlt := hM.lt
    have hsz := hM.sz
    have ln : nb < w.heap.size := by omega
    have le : eb < w.heap.size := by omega
    have lo : ob < w.heap.size := by omega
    have c0 := cell_of_block (j := 0) (v := .slice A l.length c) hM.net rfl
    have c1 := cell_of_block (j := 1) (v := .int .i64 T) hM.net rfl
    have c2 := cell_of_block (j := 2) (v := .int .i64 C) hM.net rfl
    have ce := cell_of_block (j := 0) (v := .int .i64 err) hM.er rfl
    have co := cell_of_block (j := 0) (v := .slice B (outI pre).length d) hM.out rfl
    have hd0 : Below w.heap.size w w.drew := (Below.refl _ w).drew
    have HM := Lib.hid hM
    clear hM hlt hsz
    go_enter Try.func91, Try.ntmps91
    go_wp2_with fail
    go_region_held3 (fun w' => w'.cell? ⟨nb, 0, none⟩ = some (.slice A l.length c) ∧ w'.cell? ⟨nb, 1, none⟩ = some (.int .i64 T) ∧ w'.cell? ⟨nb, 2, none⟩ = some (.int .i64 C) ∧ w'.cell? ⟨eb, 0, none⟩ = some (.int .i64 err) ∧ w'.cell? ⟨ob, 0, none⟩ = some (.slice B (outI pre).length d))
      ((first | exact ⟨by assumption, by assumption, by assumption, by assumption, by assumption⟩ | exact ⟨(hbr.cell (by exact ln)).trans c0, (hbr.cell (by exact ln)).trans c1, (hbr.cell (by exact ln)).trans c2, (hbr.cell (by exact le)).trans ce, (hbr.cell (by exact lo)).trans co⟩ | exact ⟨(hbc.cell (by exact ln)).trans c0, (hbc.cell (by exact ln)).trans c1, (hbc.cell (by exact ln)).trans c2, (hbc.cell (by exact le)).trans ce, (hbc.cell (by exact lo)).trans co⟩))
      (first | (go_at_call 67; refine (rooms_any _ A B l (outI pre) c d T C err (hA.below hd0) (hI.below hd0) hl12 hol hE hV.reads).mono ?_; rintro e W2 ⟨rfl, hbr⟩) | (go_at_call 76; refine (can_law _ A l c T C _ _ (hA.below (hd0.trans hbr)) hl12 hV.net hR).mono ?_; rintro e W3 ⟨hbc0, b, rfl, hb⟩; have HB := Lib.hid hb; clear hb; have hbc := Below.trans hbr (hbc0.mono hbr.size)))
    go_wp2_with fail
    go_ret
    have hfin := hd0.trans hbc
    refine ⟨b, _, k, pre, rfl, HM.out.step hfin, Keep.of_below hfin, ?_⟩
    cases b with
    | true => exact .inl ⟨rfl, [], Ext.nil _ _, by simp, HB.out.1 rfl, fun zs hz _ => by rw [hz.zero]; exact id⟩
    | false => exact .inr ⟨rfl, rfl, rfl, fun zs hz hc => by
        rw [hz.zero, List.append_nil] at hc
        have := HB.out.2 hc
        cases this⟩
  | succ m ih =>
    rintro f k _ mi pre v w rfl hmi hA hf hk hM
    have hm1 : 1 ≤ mi := by omega
    have hm2 : mi ≤ 20 := by omega
    have hm0 : (mi == 0) = false := by simp; omega
    have HMI := Lib.hid hmi
    clear hmi
    go_enter Try.func91, Try.ntmps91
    go_wp2_with fail
    go_loopw [9] (fun t wr => ∃ (i : Nat) (v : Value), f ≤ i ∧ i ≤ 20 ∧ t = .int .i64 i ∧ LMem wr nb eb ob kb base A l.length c T C err v k pre ∧ Keep (fun q => q = ob ∨ base ≤ q) w wr ∧ Hid (∀ zs, Ext l.length f (m + 1) zs → ∀ j ys, zs = j :: ys → j < i → ¬ CanE l T C err (outI (pre ++ zs)))) (fun t _ => 40 - (intOf t).toNat)
    case atStart => exact ⟨f, v, Nat.le_refl _, hf, rfl, hM, Keep.refl _ _, Lib.hid (fun zs hz j ys e hj => by subst e; have := (hz.mem j (List.mem_cons_self ..)).1; omega)⟩
    case round =>
      clear hM
      obtain ⟨i, v, hfi, hi20, rfl, hM, hK, hno⟩ := hrel
      have c0 := cell_of_block (j := 0) (v := .slice A l.length c) hM.net rfl
      by_cases hlt : (i : Int) ≤ l.length - mi
      · have hd : decide ((i : Int) ≤ l.length - mi) = true := decide_eq_true hlt
        have hil : i < l.length := by omega
        have hAr := hA.keep hK (fun b o e h => by have := hAb b o e; omega)
        have hal : Below base wr (wr.alloc (.cells #[.int .i64 i] 3)) := (Below.refl _ wr).alloc hM.sz _
        have how := ownsRow_below hM.own ((Below.refl wr.heap.size wr).alloc (Nat.le_refl _) (.cells #[.int .i64 i] 3)) (Nat.le_refl _)
        have hszA : base ≤ (wr.alloc (.cells #[.int .i64 i] 3)).heap.size := Nat.le_trans hM.sz hal.size
        have hkn : k < 100000 := by omega
        have co := hM.out
        have cf := hM.fn
        have hob := hM.lt.2.2.1
        have hkb := hM.lt.2.2.2
        have hok := hM.ne.2.2
        have cov : ∃ u, wr.cell? ⟨ob, 0, none⟩ = some u ∧ u = v := ⟨v, cell_of_block co rfl, rfl⟩
        obtain ⟨u, cv, hu⟩ := cov
        subst hu
        have HM := Lib.hid hM
        have HO := Lib.hid how
        have HAL := Lib.hid hal
        clear hM how hal hlt
        go_wp2_with (refine wpList_push elem25 (wr.alloc (.cells #[.int .i64 i] 3)) (by rfl) (.tmp 28) (.tmp 30) (by rfl) base _ k _ (by rfl) HO.out wr.heap.size 1 [.int .i64 i] (by rfl) (at_alloc rfl) rfl (by simp [Value.oneCell']) hkn hszA ?_; intro v' w' how5 hbe5 _; obtain ⟨g, cap, rfl, hcap, hbg, hgl⟩ := own_form how5; have hbw := HAL.out.trans hbe5; have co' := cell_of_block (j := 0) ((hbw.block ob hob).trans co) rfl; have fo' := free_of_block (j := 0) ((hbw.block ob hob).trans co); have cf' := cell_of_block (j := 0) ((hbw.block kb hkb).trans cf) rfl)
        have hM5 := HM.out.put (xs' := pre ++ [i]) hbw (by rw [show outV (pre ++ [i]) = outV pre ++ [.int .i64 i] by simp [outV]]; exact how5)
        have hK5 := hK.trans (Keep.out_put (ob := ob) hbw (.slice (some ⟨g, 0, none⟩) (k + 1) cap))
        have hA5 := hA.keep hK5 (fun b o e h => by have := hAb b o e; omega)
        refine (ih (i + 1) (k + 1) _ _ (pre ++ [i]) _ _ (by omega) (by have := HMI.out; omega) hA5 (by omega) (by omega) hM5).mono ?_
        rintro e W5 ⟨b, v5, k5, xs5, rfl, hM6, hK6, hres⟩
        have hK7 := hK5.trans (hK6.mono (fun _ _ h => h))
        rcases hres with ⟨rfl, ys, hx, rfl, hcan, hmin⟩ | ⟨rfl, rfl, rfl, hnone⟩
        · have HH : Hid (CanE l T C err (outI (pre ++ [i] ++ ys)) ∧ ∀ zs, Ext l.length (i + 1) m zs → CanE l T C err (outI (pre ++ [i] ++ zs)) → ¬ lexLt zs ys) := Lib.hid ⟨hcan, hmin⟩
          clear hcan hmin
          go_wp2_with fail
          go_ret
          refine ⟨true, v5, k5, pre ++ [i] ++ ys, rfl, hM6, hK7, .inl ⟨rfl, i :: ys, hx.cons hfi hil, by simp, HH.out.1, fun zs hz hc hlx => ?_⟩⟩
          obtain ⟨j, zs', rfl, hj, hz', _⟩ := hz.uncons
          rcases hlx with h1 | ⟨rfl, h2⟩
          · exact hno.out _ hz j zs' rfl h1 hc
          · exact HH.out.2 zs' hz' (by simpa using hc) h2
        · have HN := Lib.hid hnone
          clear hnone
          obtain ⟨g5, cap5, rfl, hcap5, hbg5, hgl5⟩ := own_form hM6.own
          have co6 := cell_of_block (j := 0) (v := .slice (some ⟨g5, 0, none⟩) (k + 1) cap5) hM6.out rfl
          have fo6 := free_of_block (j := 0) hM6.out
          have hpop := ownsRow_pop (xs := outV pre) (last := [.int .i64 i]) (by have := HM.out.own.1; exact this) (by have := hM6.own; rwa [show outV (pre ++ [i]) = outV pre ++ [.int .i64 i] by simp [outV]] at this)
          have hM7 := hM6.put (Below.refl base W5) hpop
          have hK8 := hK7.trans (Keep.out_put (ob := ob) (Below.refl base W5) (.slice (some ⟨g5, 0, none⟩) k cap5))
          have HM7 := Lib.hid hM7
          clear hM6 hM5 hM7 hpop hcap
          go_wp2_with fail
          go_roundw
          case rel =>
            refine ⟨i + 1, .slice (some ⟨g5, 0, none⟩) k cap5, by omega, by omega, by go_num, HM7.out, hK8, Lib.hid (fun zs hz j ys e hj hc => ?_)⟩
            subst e
            by_cases h : j = i
            · subst h
              exact HN.out ys hz.tail (by simpa using hc)
            · exact hno.out _ hz j ys rfl (by omega) hc
          case measure => simp [intOf]; omega
      · have hd : decide ((i : Int) ≤ l.length - mi) = false := decide_eq_false hlt
        have HL : Hid (¬ (i : Int) ≤ l.length - mi) := Lib.hid hlt
        clear hlt
        go_wp2_with fail
        go_ret
        refine ⟨false, v, k, pre, rfl, hM, hK, .inr ⟨rfl, rfl, rfl, fun zs hz => ?_⟩⟩
        obtain ⟨j, ys, rfl, hj, hz', hjm⟩ := hz.uncons
        exact hno.out _ hz j ys rfl (by have := HL.out; have := HMI.out; omega)
end Go.Proofs.Ytnhbplnhhloklaa
