/- The law on a loose angle: its walk. -/
import Derived.Test.YtnhbplnhhloklaaK4
namespace Go.Proofs.Ytnhbplnhhloklaa
open Go.RowKit

/-- append of some elements onto an own row, at a step of a region that draws; what is kept is told. -/
theorem step_pushG {t e : TypeId} {size bytes : Nat} {z : Value} (E : Elem t e size bytes z) (W : World) {ops : Array Oper} {o : Oper} {a : Act} {K : Act → World → Prop} {Q : Exit → Act → World → Prop} {E' : Prop} (hgd : o.guard = none) (s x : Operand)
    (ho : o.op = .call { callee := .builtin .append, args := #[s, x], argTypes := #[t, t] }) (base : Nat) (v : Value) (n : Nat) (xs : List Value) (hs : a.eval s = v) (hown : W.ownsRow base e size v n xs)
    (ad : Addr) (m c N : Nat) (news : List Value) (hx : a.eval x = .slice (some ad) m c) (hnews : ∀ j u, news[j]? = some u → W.cell? (ad.add j) = some u) (hl : news.length = m * size) (h1 : ∀ u ∈ news, u.oneCell' = true) (hm : 0 < m) (hN : n + m = N) (hn : N < 100000) (hbase : base ≤ W.heap.size)
    (h : ∀ g cap w', w'.ownsRow base e size (.slice (some ⟨g, 0, none⟩) N cap) N (xs ++ news) → Below base W w' → W.grownBy w' v.ownBlock → K (a.put o.dst (.slice (some ⟨g, 0, none⟩) N cap)) w') :
    if Region.wanted o (yielded ops a.tmps) = true then Oper.wp Try.prog o a W K Q else E' := by
  subst hN
  obtain ⟨i, hi, hz0, hz1, hz2⟩ := E.info
  have := E.small
  refine step_append_lies W hgd s x t ho base e i z size bytes E.und hi hz0 hz1 hz2 E.zs E.pos v n xs hs hown ad m c news hx hl hnews h1 hm (by simp only [maxLen]; omega) ?_ hbase _ rfl ?_
  · have h2 : (n + m) * bytes ≤ (n + m) * 100 := Nat.mul_le_mul_left _ this
    omega
  · intro g cap w1 how hgrow _ _
    exact h g cap _ how ((Below.refl base W).grown hgrow hbase (fun k hk => (hown.lt k hk).1)) hgrow
theorem own_empty {W : World} {base e size g : Nat} (h : W.heap[g]? = some (.cells #[] e (0, 0))) (hb : base ≤ g) : W.ownsRow base e size (.slice (some ⟨g, 0, none⟩) 0 0) 0 [] :=
  ⟨by simp, .inr ⟨g, 0, #[], rfl, hb, h, Nat.le_refl _, Nat.zero_le _, by simp, by simp⟩⟩
/-- A net's copy in memory with a row made otherwise. -/
theorem KMem.made2 {w W5 w2 : World} {A : Option Addr} {n c : Nat} {T C : Int} {p g cap : Nat} {l' : List Ang} {v0 : Value} (hM : NMem w W5 A n c T C) (hp : w.heap.size < p) (hq : W5.heap[p]? = some (.cells #[v0, .int .i64 T, .int .i64 C] 24 (0, 0))) (hb : Below W5.heap.size W5 w2)
    (how : w2.ownsRow W5.heap.size 74 4 (.slice (some ⟨g, 0, none⟩) l'.length cap) l'.length (angL l')) : KMem w (w2.setCell ⟨p, 0, none⟩ (.slice (some ⟨g, 0, none⟩) l'.length cap)) A n c T C p g cap l' := by
  obtain ⟨cur, hg, hgb⟩ := own_block how
  obtain ⟨_, B, d, he, hrow, hrb⟩ := own_ang how
  cases he
  have hp5 := (Array.getElem?_eq_some_iff.1 hq).1
  have hq2 := (hb.block _ hp5).trans hq
  have hlt := hM.lt
  have hk : Keep (fun q => q = p) w2 (w2.setCell ⟨p, 0, none⟩ (.slice (some ⟨g, 0, none⟩) l'.length cap)) := (Keep.refl (fun q => q = p) w2).setCell (p := ⟨p, 0, none⟩) (.inl rfl) _
  refine ⟨⟨(hM.below.trans (hb.mono hM.below.size)).setCell (by show w.heap.size ≤ p; omega) _, ?_⟩, ⟨hp, by omega, by omega⟩, ?_, hrow.keep hk (fun b o e => by cases e; omega), cur, ?_⟩
  · rw [Below.heap_setCell _ _ _ _ (by show w.heap.size ≠ p; omega)]
    exact (hb.block _ hlt).trans hM.net
  · rw [heap_setCell_self hq2]; rfl
  · rw [Below.heap_setCell _ _ _ _ (by show g ≠ p; omega)]; exact hg
/-- The same, with the angle that was made. -/
structure AMem (w wr : World) (A : Option Addr) (n c : Nat) (T C : Int) (p g cap : Nat) (l : List Ang) (x : Nat) (r wt : Int) : Prop where
  k : KMem w wr A n c T C p g cap l
  ang : wr.heap[x]? = some (.cells #[.int .i64 (-1), .int .i64 (-1), .int .i64 r, .int .i64 wt] 74 (0, 0))
theorem AMem.step {w wr w' : World} {A : Option Addr} {n c : Nat} {T C : Int} {p g cap : Nat} {l : List Ang} {x : Nat} {r wt : Int} (h : AMem w wr A n c T C p g cap l x r wt) (hb : Below wr.heap.size wr w') : AMem w w' A n c T C p g cap l x r wt :=
  ⟨h.k.step hb, (hb.block _ (Array.getElem?_eq_some_iff.1 h.ang).1).trans h.ang⟩
theorem angL_app (l : List Ang) (a : Ang) : angL l ++ [.int .i64 a.t, .int .i64 a.c, .int .i64 a.r, .int .i64 a.w] = angL (l ++ [a]) := (angL_snoc l a).symm

set_option maxHeartbeats 16000000 in
set_option maxRecDepth 100000 in
theorem alone_walk (w : World) (A : Option Addr) (l : List Ang) (c : Nat) (T C : Int) (a b d : Int) (hA : AngAt w A l) (hl : l.length ≤ 9223372036854775807) (ha : (Lit.int .u8 a).wf = true) (hb : (Lit.int .u8 b).wf = true) (hd : (Lit.int .u8 d).wf = true) :
    Calls Try.prog 15 #[.agg #[.slice A l.length c, .int .i64 T, .int .i64 C], .int .u8 a, .int .u8 b, .int .u8 d] w (Holds w) := by
  have hM := NMem.made w A l.length c T C
  have ha8 := u8_in ha
  have hb8 := u8_in hb
  have hd8 := u8_in hd
  by_cases h1 : l.length ≤ 15
  · have h1' : decide (l.length ≤ 15) = true := decide_eq_true h1
    have HL := Lib.hid h1'
    have hl2 : l.length ≤ 1000 := by omega
    clear h1 h1' ha hb hd
    go_enter Try.func15, Try.ntmps15
    go_wp2_with fail
    refine (thin_any _ _ _ _ _ _ hl).mono ?_
    rintro e W1 ⟨hb1, he⟩
    rw [HL.out] at he
    subst he
    have hM1 := hM.step hb1
    clear hM hb1 HL
    have c0 := cell_of_block (j := 0) (v := .slice A l.length c) hM1.net rfl
    have c1 := cell_of_block (j := 1) (v := .int .i64 T) hM1.net rfl
    have c2 := cell_of_block (j := 2) (v := .int .i64 C) hM1.net rfl
    go_wp2_with fail
    refine (lfault_any _ A l c T C (hA.below hM1.below) hl2).mono ?_
    rintro e W2 ⟨hb2, rfl⟩
    have hM2 := hM1.step hb2
    clear hM1 hb2 c0 c1 c2
    by_cases hz : faultN l T C = 0
    · have hz' : (faultN l T C != 0) = false := by simp [hz]
      obtain ⟨T, C, rfl, rfl, hV⟩ := valid_of hz
      have hl12 := hV.len.2
      have hl0 := hV.len.1
      obtain ⟨a0, ha0⟩ : ∃ x, l[0]? = some x := ⟨l[0], by simp [hl0]⟩
      obtain ⟨b0, o0, rfl, _⟩ := hA 0 a0 ha0
      clear ha0
      have c0 := cell_of_block (j := 0) (v := .slice (some ⟨b0, o0, none⟩) l.length c) hM2.net rfl
      have c1 := cell_of_block (j := 1) (v := .int .i64 T) hM2.net rfl
      have c2 := cell_of_block (j := 2) (v := .int .i64 C) hM2.net rfl
      have hs2 := hM2.lt
      clear hz
      obtain ⟨r, hr1⟩ : ∃ r, b % 41 = r := ⟨_, rfl⟩
      obtain ⟨q, hq1⟩ : ∃ q, d % 3 = q := ⟨_, rfl⟩
      have hE : 0 ≤ a % 41 ∧ a % 41 ≤ 40 := by omega
      have hRr : 0 ≤ r ∧ r ≤ 40 := by omega
      have hQq : 0 ≤ q ∧ q ≤ 2 := by omega
      by_cases hn : l.length ≤ 11
      · have d1 : decide ((11 : Int) < l.length) = false := decide_eq_false (by omega)
        go_wp2_with fail
        generalize a % 41 = e at *
        clear ha8 hb8 hd8
        have hbA : Below W2.heap.size W2 ((W2.alloc (.cells #[.int .i64 (-1), .int .i64 (-1), .int .i64 r, .int .i64 (1 + q)] 74)).alloc (.cells #[.slice (some ⟨b0, o0, none⟩) l.length c, .int .i64 T, .int .i64 C] 24)) := ((Below.refl _ W2).alloc (Nat.le_refl _) _).alloc (by simp) _
        have hM5 := hM2.step hbA
        have hx5 : ((W2.alloc (.cells #[.int .i64 (-1), .int .i64 (-1), .int .i64 r, .int .i64 (1 + q)] 74)).alloc (.cells #[.slice (some ⟨b0, o0, none⟩) l.length c, .int .i64 T, .int .i64 C] 24)).heap[W2.heap.size]? = some (.cells #[.int .i64 (-1), .int .i64 (-1), .int .i64 r, .int .i64 (1 + q)] 74 (0, 0)) := past_alloc (at_alloc rfl)
        have hq5 : ((W2.alloc (.cells #[.int .i64 (-1), .int .i64 (-1), .int .i64 r, .int .i64 (1 + q)] 74)).alloc (.cells #[.slice (some ⟨b0, o0, none⟩) l.length c, .int .i64 T, .int .i64 C] 24)).heap[W2.heap.size + 1]? = some (.cells #[.slice (some ⟨b0, o0, none⟩) l.length c, .int .i64 T, .int .i64 C] 24 (0, 0)) := at_alloc (by simp)
        have hs5 : W2.heap.size + 1 < ((W2.alloc (.cells #[.int .i64 (-1), .int .i64 (-1), .int .i64 r, .int .i64 (1 + q)] 74)).alloc (.cells #[.slice (some ⟨b0, o0, none⟩) l.length c, .int .i64 T, .int .i64 C] 24)).heap.size := by simp
        generalize ((W2.alloc (.cells #[.int .i64 (-1), .int .i64 (-1), .int .i64 r, .int .i64 (1 + q)] 74)).alloc (.cells #[.slice (some ⟨b0, o0, none⟩) l.length c, .int .i64 T, .int .i64 C] 24)) = W5 at *
        clear hbA c0 c1 c2
        have hs25 : w.heap.size < W2.heap.size := hs2
        clear hs2
        generalize W2.heap.size = x5 at *
        have HKP : Hid (∀ w', Below W5.heap.size W5 w' → w'.cell? ⟨w.heap.size, 0, none⟩ = some (.slice (some ⟨b0, o0, none⟩) l.length c) ∧ w'.cell? ⟨x5, 0, none⟩ = some (.int .i64 (-1)) ∧ w'.cell? ⟨x5, 1, none⟩ = some (.int .i64 (-1)) ∧ w'.cell? ⟨x5, 2, none⟩ = some (.int .i64 r) ∧ w'.cell? ⟨x5, 3, none⟩ = some (.int .i64 (1 + q))) := Lib.hid (fun w' hb' => by
          have hx6 := (hb'.block _ (by omega)).trans hx5
          exact ⟨cell_of_block (j := 0) ((hb'.block _ (by omega)).trans hM5.net) rfl, cell_of_block (j := 0) hx6 rfl, cell_of_block (j := 1) hx6 rfl, cell_of_block (j := 2) hx6 rfl, cell_of_block (j := 3) hx6 rfl⟩)
        have HKS : Hid (∀ w' v, Below W5.heap.size W5 w' → (w'.setCell ⟨x5 + 1, 0, none⟩ v).cell? ⟨w.heap.size, 0, none⟩ = some (.slice (some ⟨b0, o0, none⟩) l.length c) ∧ (w'.setCell ⟨x5 + 1, 0, none⟩ v).cell? ⟨x5, 0, none⟩ = some (.int .i64 (-1)) ∧ (w'.setCell ⟨x5 + 1, 0, none⟩ v).cell? ⟨x5, 1, none⟩ = some (.int .i64 (-1)) ∧ (w'.setCell ⟨x5 + 1, 0, none⟩ v).cell? ⟨x5, 2, none⟩ = some (.int .i64 r) ∧ (w'.setCell ⟨x5 + 1, 0, none⟩ v).cell? ⟨x5, 3, none⟩ = some (.int .i64 (1 + q))) := Lib.hid (fun w' v hb' => by
          obtain ⟨h1, h2, h3, h4, h5⟩ := HKP.out w' hb'
          exact ⟨(World.cell?_setCell_far _ _ _ _ (by show x5 + 1 ≠ w.heap.size; omega)).trans h1, (World.cell?_setCell_far _ _ _ _ (by show x5 + 1 ≠ x5; omega)).trans h2, (World.cell?_setCell_far _ _ _ _ (by show x5 + 1 ≠ x5; omega)).trans h3, (World.cell?_setCell_far _ _ _ _ (by show x5 + 1 ≠ x5; omega)).trans h4, (World.cell?_setCell_far _ _ _ _ (by show x5 + 1 ≠ x5; omega)).trans h5⟩)
        have hA5 := hA.below hM5.below
        have HA := Lib.hid hA5
        have HM := Lib.hid hM5
        have HX := Lib.hid hx5
        have HQ := Lib.hid hq5
        have HS := Lib.hid (And.intro hs5 hs25)
        clear hA5 hM5 hx5 hq5 hs5 hs25
        have hE' := Lib.hid hE
        have hRr' := Lib.hid hRr
        have hQq' := Lib.hid hQq
        have bA : Below W5.heap.size W5 W5.drew := (Below.refl _ W5).drew
        go_region_held3 (fun w' => w'.cell? ⟨w.heap.size, 0, none⟩ = some (.slice (some ⟨b0, o0, none⟩) l.length c) ∧ w'.cell? ⟨x5, 0, none⟩ = some (.int .i64 (-1)) ∧ w'.cell? ⟨x5, 1, none⟩ = some (.int .i64 (-1)) ∧ w'.cell? ⟨x5, 2, none⟩ = some (.int .i64 r) ∧ w'.cell? ⟨x5, 3, none⟩ = some (.int .i64 (1 + q)))
          ((first | exact HKS.out _ _ hc2 | exact HKP.out _ hc2 | exact HKP.out _ (hc1.alloc hc1.size _) | exact HKP.out _ hc1 | exact HKP.out _ ((bA.alloc (Nat.le_refl _) _).alloc (by simp) _) | exact HKP.out _ (bA.alloc (Nat.le_refl _) _) | exact HKP.out _ bA))
          (first | (refine step_pushG elem22 _ (by rfl) (.tmp 48) (.tmp 50) (by rfl) W5.heap.size _ 0 [] (by rfl) (own_empty (by first | exact at_alloc rfl | exact past_alloc (at_alloc rfl) | exact at_alloc (by simp)) (by first | exact Nat.le_refl _ | exact Nat.le_succ _)) ⟨b0, o0, none⟩ l.length c l.length (angL l) (by rfl) (ang_cells (HA.out.below (by first | exact (bA.alloc (Nat.le_refl _) _) | exact ((bA.alloc (Nat.le_refl _) _).alloc (by simp) _)))) (angL_len _) (angL_one _) hl0 (Nat.zero_add _) (by omega) (by first | (simp; done) | (simp; omega)) ?_; intro g1 cap1 w1 how1 hbe1 hgr1; have hc1 : Below W5.heap.size W5 w1 := (by first | exact (bA.alloc (Nat.le_refl _) _).trans hbe1 | exact ((bA.alloc (Nat.le_refl _) _).alloc (by simp) _).trans hbe1)) | (refine step_pushG elem22 _ (by rfl) (.tmp 51) (.tmp 53) (by rfl) W5.heap.size _ l.length (angL l) (by rfl) (by first | exact how1 | exact how1.alloc _) _ 1 1 (l ++ [looseA r (1 + q)]).length [.int .i64 (-1), .int .i64 (-1), .int .i64 r, .int .i64 (1 + q)] (by rfl) (World.news_of_block (by first | exact at_alloc rfl | exact (hgr1.block _ (by first | (simp; done) | (simp; omega)) (by simp [Value.ownBlock])).trans (at_alloc (by simp)) | exact (hgr1.block _ (by first | (simp; done) | (simp; omega)) (by simp [Value.ownBlock])).trans (past_alloc (at_alloc rfl)))) rfl (by simp [Value.oneCell']) (by omega) (by simp) (by simp; omega) (by first | exact Nat.le_trans hc1.size (hc1.alloc hc1.size _).size | exact hc1.size | exact (hc1.alloc hc1.size _).size) ?_; intro g2 cap2 w2 how2 hbe2 hgr2; have hc2 : Below W5.heap.size W5 w2 := (by first | exact hc1.trans hbe2 | exact (hc1.alloc hc1.size _).trans hbe2); have cq := cell_of_block (j := 0) ((hc2.block (x5 + 1) HS.out.1).trans HQ.out) rfl; have fq := free_of_block (j := 0) ((hc2.block (x5 + 1) HS.out.1).trans HQ.out)))
        all_goals
          have hK : KMem w (w2.setCell ⟨x5 + 1, 0, none⟩ (.slice (some ⟨g2, 0, none⟩) (l.length + 1) cap2)) (some ⟨b0, o0, none⟩) l.length c T C (x5 + 1) g2 cap2 (l ++ [looseA r (1 + q)]) := by
            have h := KMem.made2 HM.out (Nat.lt_succ_of_lt HS.out.2) HQ.out hc2 (l' := l ++ [looseA r (1 + q)]) (by rw [← angL_app]; exact how2)
            have e1 : (l ++ [looseA r (1 + q)]).length = l.length + 1 := by simp
            rw [e1] at h
            exact h
          have hx9 : (w2.setCell ⟨x5 + 1, 0, none⟩ (.slice (some ⟨g2, 0, none⟩) (l.length + 1) cap2)).heap[x5]? = some (.cells #[.int .i64 (-1), .int .i64 (-1), .int .i64 r, .int .i64 (1 + q)] 74 (0, 0)) := (Below.heap_setCell _ _ _ _ (by show x5 ≠ x5 + 1; omega)).trans ((hc2.block _ (by have := HS.out.1; omega)).trans HX.out)
          have hA6 : AMem w (w2.setCell ⟨x5 + 1, 0, none⟩ (.slice (some ⟨g2, 0, none⟩) (l.length + 1) cap2)) (some ⟨b0, o0, none⟩) l.length c T C (x5 + 1) g2 cap2 (l ++ [looseA r (1 + q)]) x5 r (1 + q) := ⟨hK, hx9⟩
          clear hK hx9 how1 hbe1 hgr1 hc1 how2 hbe2 hgr2 hc2 cq fq bA HKP HKS HA HM HX HQ HS
          generalize (w2.setCell ⟨x5 + 1, 0, none⟩ (.slice (some ⟨g2, 0, none⟩) (l.length + 1) cap2)) = W6 at *
          have HE := Lib.hid hE'.out
          have HL := Lib.hid (show (l ++ [looseA r (1 + q)]).length = l.length + 1 by simp)
          have hV' := loose_valid (wt := 1 + q) hV hn hRr'.out (by have := hQq'.out; omega)
          have HCan : Hid (∀ k : Nat, CanE (l ++ [looseA r (1 + q)]) T C k [] ↔ CanE l T C k []) := Lib.hid (fun k => loose_canE (by omega) hRr'.out (by have := hQq'.out; omega) [])
          have HCe : Hid (CanE (l ++ [looseA r (1 + q)]) T C e [] ↔ CanE l T C e []) := Lib.hid (loose_canE hE'.out.1 hRr'.out (by have := hQq'.out; omega) [])
          have HEnd : Hid (∀ x y, EndsAre (l ++ [looseA r (1 + q)]) T C (rmLo (l ++ [looseA r (1 + q)]) e [] (l ++ [looseA r (1 + q)]).length) (rmHi (l ++ [looseA r (1 + q)]) e [] (l ++ [looseA r (1 + q)]).length) l.length x y → x = max 0 (r - e * (1 + q)) ∧ y = min 40 (r + e * (1 + q))) := Lib.hid (fun x y h => by
            have h1 := loose_ends h
            have h2 := loose_rm_n (l := l) (r := r) (wt := 1 + q) e []
            simp only [List.not_mem_nil, if_false] at h2
            exact ⟨h1.1.trans h2.1, h1.2.trans h2.2⟩)
          have HCtl : Hid (¬ Ctl (l ++ [looseA r (1 + q)]) T C e l.length) := Lib.hid loose_ctl
          generalize l ++ [looseA r (1 + q)] = l' at *
          obtain ⟨c0, c1, c2⟩ := hA6.k.net.cells
          obtain ⟨k0, k1, k2⟩ := hA6.k.cells
          have hl'2 : l'.length ≤ 1000 := by have := hV'.len; omega
          go_wp2_with fail
          refine (net_any _ (some ⟨b0, o0, none⟩) l c T C (hA.below hA6.k.net.below) hl2).mono ?_
          rintro r1 W8 ⟨hb8, B, d, rfl, hB, _⟩
          have hA8 := hA6.step hb8
          clear hA6 hb8 c0 c1 c2 k0 k1 k2
          go_wp2_with fail
          refine (least_out hB hV).mono ?_
          rintro r2 W9 ⟨hb9, n1, s1, rfl, hs1⟩
          have HS1 := Lib.hid hs1
          have hA9 := hA8.step hb9
          clear hA8 hb9 hB hs1
          obtain ⟨k0, k1, k2⟩ := hA9.k.cells
          go_wp2_with fail
          refine (net_any _ (some ⟨g2, 0, none⟩) l' cap2 T C hA9.k.row hl'2).mono ?_
          rintro r3 W10 ⟨hb10, B, d, rfl, hB, _⟩
          have hA10 := hA9.step hb10
          clear hA9 hb10 k0 k1 k2
          go_wp2_with fail
          refine (least_out hB hV').mono ?_
          rintro r4 W11 ⟨hb11, n2, s2, rfl, hs2⟩
          have hA11 := hA10.step hb11
          obtain ⟨rfl, rfl⟩ := least_same HCan.out HS1.out hs2
          clear hA10 hb11 hB hs2 HS1 HCan
          obtain ⟨k0, k1, k2⟩ := hA11.k.cells
          go_wp2_with fail
          refine (net_any _ (some ⟨g2, 0, none⟩) l' cap2 T C hA11.k.row hl'2).mono ?_
          rintro r5 W12 ⟨hb12, B, d, rfl, hB, _⟩
          have hA12 := hA11.step hb12
          clear hA11 hb12 k0 k1 k2
          go_wp2_with fail
          refine (bounds_out hB hV' HE.out).mono ?_
          rintro r6 W13 ⟨hb13, vb, sb, rfl, hvb⟩
          have hA13 := hA12.step hb13
          have HB1 := Lib.hid hvb
          clear hA12 hb13 hB hvb
          obtain ⟨k0, k1, k2⟩ := hA13.k.cells
          go_wp2_with fail
          refine (net_any _ (some ⟨g2, 0, none⟩) l' cap2 T C hA13.k.row hl'2).mono ?_
          rintro r7 W14 ⟨hb14, B, d, rfl, hB, _⟩
          have hA14 := hA13.step hb14
          replace HB1 := Lib.hid (HB1.out.below hb14)
          clear hA13 hb14 k0 k1 k2
          go_wp2_with fail
          refine (ctl_out hB hV' HE.out).mono ?_
          rintro r8 W15 ⟨hb15, vc, sc, rfl, hvc⟩
          have hA15 := hA14.step hb15
          replace HB1 := Lib.hid (HB1.out.below hb15)
          have HC1 := Lib.hid hvc
          clear hA14 hb15 hB hvc
          rcases HB1.out with ⟨rfl, hcan, g3, cap3, ps, rfl, _, hg3, hpl, hps, hown⟩ | ⟨rfl, rfl, hcan⟩
          · obtain ⟨rfl, _, Bk, dk, ks, rfl, hI, hkl, hk⟩ := HC1.out.resolve_right (fun h => h.2.2 hcan)
            obtain ⟨p, hp⟩ : ∃ p, ps[l.length]? = some p := ⟨ps[l.length]'(by rw [hpl, HL.out]; omega), by rw [List.getElem?_eq_getElem]⟩
            have hpe := HEnd.out _ _ (hps _ p hp)
            obtain ⟨u0, u1⟩ := pairs_cell hown hp
            obtain ⟨X, hX⟩ : ∃ X, (if e * (1 + q) < r then r - e * (1 + q) else 0) = X := ⟨_, rfl⟩
            obtain ⟨Y, hY⟩ : ∃ Y, (if r + e * (1 + q) < 40 then r + e * (1 + q) else 40) = Y := ⟨_, rfl⟩
            have hX2 : p.1 = X := by rw [hpe.1, ← hX]; split <;> omega
            have hY2 : p.2 = Y := by rw [hpe.2, ← hY]; split <;> omega
            rw [hX2] at u0
            rw [hY2] at u1
            have HNI : Hid (¬ ∀ x ∈ [(l.length : Int)], x ∈ outI ks) := Lib.hid (fun h => by
              have h1 := h _ (List.mem_singleton.2 rfl)
              exact HCtl.out ((hk _).1 (mem_outI.1 h1)).2)
            have hol : (outI ks).length ≤ 1000000 := by rw [outI_len]; omega
            clear HB1 HC1 hps hown hk hp hpe hpl HEnd HCtl HCe hcan hX2 hY2
            obtain ⟨c0, c1, c2⟩ := hA15.k.net.cells
            have a2 := cell_of_block (j := 2) hA15.ang rfl
            have a3 := cell_of_block (j := 3) hA15.ang rfl
            have hx15 := (Array.getElem?_eq_some_iff.1 hA15.ang).1
            have hk0 : (0 : Int) ≤ l.length := by omega
            have hk1 : (l.length : Int) < ((l.length + 1 : Nat) : Int) := by omega
            have hk2 : (l.length : Int) < (l.length : Int) + 1 := by omega
            have hz0 : 0 ≤ e * (1 + q) := Int.mul_nonneg HE.out.1 (by have := hQq'.out; omega)
            have hz1 : e * (1 + q) ≤ 120 := by
              have h1 : e * (1 + q) ≤ 40 * (1 + q) := Int.mul_le_mul_of_nonneg_right HE.out.2 (by have := hQq'.out; omega)
              have := hQq'.out; omega
            have hQ2 := hQq'.out
            have hR2 := hRr'.out
            have hw1 : IntKind.i64.wrap ((l.length : Int) + 1) = (l.length : Int) + 1 := IntWalk.i64_in _ (by omega)
            have hw2 : IntKind.i64.wrap (e * (1 + q)) = e * (1 + q) := IntWalk.i64_in _ (by omega)
            have hw3 : IntKind.i64.wrap (r - e * (1 + q)) = r - e * (1 + q) := IntWalk.i64_in _ (by omega)
            have hw4 : IntKind.i64.wrap (r + e * (1 + q)) = r + e * (1 + q) := IntWalk.i64_in _ (by omega)
            have HKP : Hid (∀ w', Below W15.heap.size W15 w' → w'.cell? ⟨g3, l.length * 2, none⟩ = some (.int .i64 X) ∧ w'.cell? ⟨g3, l.length * 2 + 1, none⟩ = some (.int .i64 Y) ∧ w'.cell? ⟨x5, 2, none⟩ = some (.int .i64 r) ∧ w'.cell? ⟨x5, 3, none⟩ = some (.int .i64 (1 + q))) := Lib.hid (fun w' hb' => ⟨(hb'.cell (p := ⟨g3, _, none⟩) hg3).trans u0, (hb'.cell (p := ⟨g3, _, none⟩) hg3).trans u1, (hb'.cell (p := ⟨x5, _, none⟩) hx15).trans a2, (hb'.cell (p := ⟨x5, _, none⟩) hx15).trans a3⟩)
            have HI := Lib.hid hI
            have HA15 := Lib.hid hA15
            clear hI a2 a3 hx15 hA15
            rw [HL.out]
            go_wp2_with fail
            have bA : Below W15.heap.size W15 W15.drew := (Below.refl _ W15).drew
            have bB : Below W15.heap.size W15 (W15.alloc (.cells #[.int .i64 l.length] 3)).drew := ((Below.refl _ W15).alloc (Nat.le_refl _) _).drew
            have HW : Hid (IntsAt (W15.alloc (.cells #[.int .i64 l.length] 3)).drew (some ⟨W15.heap.size, 0, none⟩) [(l.length : Int)]) := Lib.hid ((intsAt_of (W := W15.alloc (.cells #[.int .i64 l.length] 3)) (l := [(l.length : Int)]) (t := 3) (at_alloc rfl)).below (Below.refl _ _).drew)
            have HI2 := Lib.hid (HI.out.below bB)
            go_region_held3 (fun w' => w'.cell? ⟨g3, l.length * 2, none⟩ = some (.int .i64 X) ∧ w'.cell? ⟨g3, l.length * 2 + 1, none⟩ = some (.int .i64 Y) ∧ w'.cell? ⟨x5, 2, none⟩ = some (.int .i64 r) ∧ w'.cell? ⟨x5, 3, none⟩ = some (.int .i64 (1 + q)))
              ((first | exact HKP.out _ hc2 | exact HKP.out _ hc1 | exact HKP.out _ bB | exact HKP.out _ bA))
              (first | (go_at_call 60; refine (inside_any (W15.alloc (.cells #[.int .i64 l.length] 3)).drew (some ⟨W15.heap.size, 0, none⟩) Bk [(l.length : Int)] (outI ks) 1 dk HW.out HI2.out (Nat.le_of_ble_eq_true rfl) hol).mono ?_; rintro r9 W16 ⟨hb16, b', rfl, hb'⟩; obtain rfl : b' = false := Bool.eq_false_iff.2 (fun h => HNI.out (hb'.1 h)); have hc1 := bB.trans (hb16.mono bB.size)) | (go_at_call 20; refine (awake_any _).mono ?_; rintro r10 W17 ⟨hb17, rfl⟩; have hc2 := hc1.trans (hb17.mono hc1.size)))
            go_wp2_with fail
            go_ret
            exact ⟨rfl, (HA15.out.step hc2).k.net.below⟩
          · obtain ⟨rfl, rfl⟩ : sc = 9 ∧ vc = .slice none 0 0 := by
              rcases HC1.out with ⟨_, h, _⟩ | ⟨h1, h2, _⟩
              · exact absurd h hcan
              · exact ⟨h1, h2⟩
            clear HB1 HC1 HEnd HCtl HCe hcan
            go_wp2_with fail
            refine (awake_any _).mono ?_
            rintro r9 W16 ⟨hb16, rfl⟩
            go_wp2_with fail
            go_ret
            exact ⟨rfl, (hA15.step hb16).k.net.below⟩
      · have d1 : decide ((11 : Int) < l.length) = true := decide_eq_true (by omega)
        go_wp2_with fail
        refine (awake_any _).mono ?_
        rintro e W6 ⟨hb6, rfl⟩
        go_wp2_with fail
        go_ret
        exact ⟨rfl, (hM2.step hb6).below⟩
    · have hz' : (faultN l T C != 0) = true := by simp [hz]
      clear hz
      go_wp2_with fail
      refine (awake_any _).mono ?_
      rintro e W6 ⟨hb6, rfl⟩
      go_wp2_with fail
      go_ret
      exact ⟨rfl, (hM2.step hb6).below⟩
  · have h1' : decide (l.length ≤ 15) = false := decide_eq_false h1
    have HL := Lib.hid h1'
    clear h1 h1' ha hb hd
    go_enter Try.func15, Try.ntmps15
    go_wp2_with fail
    refine (thin_any _ _ _ _ _ _ hl).mono ?_
    rintro e W1 ⟨hb1, he⟩
    rw [HL.out] at he
    subst he
    have hM1 := hM.step hb1
    go_wp2_with fail
    refine (awake_any _).mono ?_
    rintro e W6 ⟨hb6, rfl⟩
    go_wp2_with fail
    go_ret
    exact ⟨rfl, (hM1.step hb6).below⟩
end Go.Proofs.Ytnhbplnhhloklaa
