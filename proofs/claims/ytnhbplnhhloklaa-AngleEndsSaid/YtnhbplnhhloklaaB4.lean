/- Contract of truth. -/
import Derived.Test.YtnhbplnhhloklaaB3
import Derived.Deep.AppendLies
import Derived.Deep.RegionLaw
namespace Go.Proofs.Ytnhbplnhhloklaa
open Go.RowKit

/-- What the laws of append ask of an element's type. -/
structure Elem (t e : TypeId) (size bytes : Nat) (z : Value) : Prop where
  und : Try.prog.underlying t = some (.slice e)
  info : ∃ i, Try.prog.info? e = some i ∧ i.zero = some z ∧ i.size = size ∧ i.bytes = bytes
  zs : z.cells.size = size
  pos : 0 < size
  small : bytes ≤ 100
theorem elem_info {e : TypeId} {z : Value} {size bytes : Nat} (h : (Try.prog.info? e).map (fun i => (i.zero, i.size, i.bytes)) = some (some z, size, bytes)) : ∃ i, Try.prog.info? e = some i ∧ i.zero = some z ∧ i.size = size ∧ i.bytes = bytes := by
  cases hi : Try.prog.info? e with
  | none => rw [hi] at h; cases h
  | some i =>
    rw [hi] at h
    simp only [Option.map_some, Option.some.injEq, Prod.mk.injEq] at h
    exact ⟨i, rfl, h.1, h.2.1, h.2.2⟩
theorem elem25 : Elem 25 3 1 8 (.int .i64 0) := ⟨by kernel_rfl, elem_info (by kernel_rfl), rfl, by decide, by decide⟩

/-- append of one element onto an own row, at a step of a region that draws. -/
theorem step_push {t e : TypeId} {size bytes : Nat} {z : Value} (E : Elem t e size bytes z) (W : World) {ops : Array Oper} {o : Oper} {a : Act} {K : Act → World → Prop} {Q : Exit → Act → World → Prop} {E' : Prop} (hgd : o.guard = none) (s x : Operand)
    (ho : o.op = .call { callee := .builtin .append, args := #[s, x], argTypes := #[t, t] }) (base : Nat) (v : Value) (n : Nat) (xs : List Value) (hs : a.eval s = v) (hown : W.ownsRow base e size v n xs)
    (B c : Nat) (news : List Value) (hx : a.eval x = .slice (some ⟨B, 0, none⟩) 1 c) (hB : W.heap[B]? = some (.cells news.toArray e (0, 0))) (hl : news.length = size) (h1 : ∀ u ∈ news, u.oneCell' = true) (hn : n < 100000) (hbase : base ≤ W.heap.size)
    (h : ∀ v' w', w'.ownsRow base e size v' (n + 1) (xs ++ news) → Below base W w' → W.grownBy w' v.ownBlock → K (a.put o.dst v') w') :
    if Region.wanted o (yielded ops a.tmps) = true then Oper.wp Try.prog o a W K Q else E' := by
  obtain ⟨i, hi, hz0, hz1, hz2⟩ := E.info
  have := E.small
  refine step_append_lies W hgd s x t ho base e i z size bytes E.und hi hz0 hz1 hz2 E.zs E.pos v n xs hs hown ⟨B, 0, none⟩ 1 c news hx (by omega) (World.news_of_block hB) h1 (by decide) (by simp only [maxLen]; omega) ?_ hbase _ rfl ?_
  · have h2 : (n + 1) * bytes ≤ (n + 1) * 100 := Nat.mul_le_mul_left _ this
    omega
  · intro g cap w1 how hgrow _ _
    exact h _ _ how ((Below.refl base W).grown hgrow hbase (fun k hk => (hown.lt k hk).1)) hgrow
theorem wpList_push {t e : TypeId} {size bytes : Nat} {z : Value} (E : Elem t e size bytes z) (W : World) {ops : Array Oper} {rest : List Oper} {o : Oper} {a : Act} {Q : Exit → Act → World → Prop} (hgd : o.guard = none) (s x : Operand)
    (ho : o.op = .call { callee := .builtin .append, args := #[s, x], argTypes := #[t, t] }) (base : Nat) (v : Value) (n : Nat) (xs : List Value) (hs : a.eval s = v) (hown : W.ownsRow base e size v n xs)
    (B c : Nat) (news : List Value) (hx : a.eval x = .slice (some ⟨B, 0, none⟩) 1 c) (hB : W.heap[B]? = some (.cells news.toArray e (0, 0))) (hl : news.length = size) (h1 : ∀ u ∈ news, u.oneCell' = true) (hn : n < 100000) (hbase : base ≤ W.heap.size)
    (h : ∀ v' w', w'.ownsRow base e size v' (n + 1) (xs ++ news) → Below base W w' → W.grownBy w' v.ownBlock → wpList Try.prog ops Q rest (a.put o.dst v') w') :
    wpList Try.prog ops Q (o :: rest) a W := by
  obtain ⟨i, hi, hz0, hz1, hz2⟩ := E.info
  have := E.small
  refine wpList_append_lies W hgd s x t ho base e i z size bytes E.und hi hz0 hz1 hz2 E.zs E.pos v n xs hs hown ⟨B, 0, none⟩ 1 c news hx (by omega) (World.news_of_block hB) h1 (by decide) (by simp only [maxLen]; omega) ?_ hbase _ rfl ?_
  · have h2 : (n + 1) * bytes ≤ (n + 1) * 100 := Nat.mul_le_mul_left _ this
    omega
  · intro g cap w1 how hgrow _ _
    exact h _ _ how ((Below.refl base W).grown hgrow hbase (fun k hk => (hown.lt k hk).1)) hgrow
theorem ownsRow_below {W W' : World} {base e size : Nat} {v : Value} {n : Nat} {xs : List Value} (h : W.ownsRow base e size v n xs) {B : Nat} (hb : Below B W W') (hB : W.heap.size ≤ B) : W'.ownsRow base e size v n xs := by
  refine ⟨h.1, ?_⟩
  rcases h.2 with hn | ⟨g, cap, cur, rfl, hbg, hgg, rest⟩
  · exact .inl hn
  · refine .inr ⟨g, cap, cur, rfl, hbg, ?_, rest⟩
    rw [hb.block g (Nat.lt_of_lt_of_le (Array.getElem?_eq_some_iff.1 hgg).1 hB)]
    exact hgg

theorem ownsRow_mono {W : World} {base base' e size : Nat} {v : Value} {n : Nat} {xs : List Value} (h : W.ownsRow base e size v n xs) (hb : base' ≤ base) : W.ownsRow base' e size v n xs := by
  refine ⟨h.1, ?_⟩
  rcases h.2 with hn | ⟨g, cap, cur, rfl, hbg, rest⟩
  · exact .inl hn
  · exact .inr ⟨g, cap, cur, rfl, Nat.le_trans hb hbg, rest⟩

theorem upd_nn {L : LL} {x : Int} (h : ∀ u v i, 0 ≤ L u v i) (hx : 0 ≤ x) (a b d : Int) : ∀ u v i, 0 ≤ upd L a b d x u v i := by
  intro u v i
  unfold upd
  split
  · exact hx
  · exact h u v i
theorem lA_nn {l : List Ang} {lo hi : Nat → Int} (hle : ∀ i, lo i ≤ hi i) : ∀ k : Nat, ∀ u v i, 0 ≤ lA l lo hi k u v i
  | 0 => by intro u v i; simp [lA]
  | k + 1 => by
    intro u v i
    have ih := lA_nn (l := l) hle k
    cases h : l[k]? with
    | none => simp only [lA, h]; exact ih u v i
    | some a =>
      rw [lA_step h]
      split
      · exact ih u v i
      · have := hle k
        exact upd_nn ih (by omega) _ _ _ u v i
theorem lN_nn {L : LL} {g : Nat → Int} (hL : ∀ u v i, 0 ≤ L u v i) : ∀ k : Nat, ∀ u v i, 0 ≤ lN L g k u v i
  | 0 => hL
  | k + 1 => by
    intro u v i
    have ih := lN_nn (g := g) hL k
    have h1 := ih 11 k (-1)
    have h2 := ih k 12 (-1)
    simp only [lN, needsL]
    split
    · exact upd_nn ih (by omega) _ _ _ u v i
    · exact upd_nn ih (by omega) _ _ _ u v i
theorem gF_bnd {l : List Ang} {T C : Nat} {lo : Nat → Int} (hl : l.length ≤ 12) (hlo : ∀ i, 0 ≤ lo i ∧ lo i ≤ 40) (j : Nat) : -6000 ≤ gF l T C lo j ∧ gF l T C lo j ≤ 6000 := by
  have h1 : ∀ j, -600 ≤ gA l lo (g2 T C) l.length j ∧ gA l lo (g2 T C) l.length j ≤ 600 := fun j => by
    have := gA_bnd (l := l) hlo (g2_bnd T C) l.length j
    omega
  have h2 := n10_bnd h1 10
  have := h1 j
  simp only [gF, setAt]
  split <;> omega
theorem LF_bnd {l : List Ang} {T C : Nat} {lo hi : Nat → Int} (hl : l.length ≤ 12) (hlo : ∀ i, 0 ≤ lo i ∧ lo i ≤ 40) (hhi : ∀ i, 0 ≤ hi i ∧ hi i ≤ 40) (hle : ∀ i, lo i ≤ hi i) : Bnd (LF l T C lo hi) := by
  have h := lN_bnd (lA_bnd (l := l) hlo hhi l.length) (gF_bnd (T := T) (C := C) hl hlo) 11
  refine ⟨lN_nn (lA_nn hle _) 11, fun u v i => ?_⟩
  have h1 := h u v i
  have h2 := h v u i
  simp only [LF]
  omega

/-- The truth that a flow gives. -/
def xsF (l : List Ang) (lo : Nat → Int) (L : LL) (k : Nat) : List Int := (List.range k).map (fun i => match l[i]? with | some a => lo i + L (toN a) (frN a) i | none => 0)

/-- The memory of truth. -/
structure TMem (w wr : World) (Wb Mb : Nat) (A : Option Addr) (n c : Nat) (T C : Int) (lo hi : Nat → Int) (L : LL) : Prop where
  below : Below w.heap.size w wr
  net : wr.heap[w.heap.size]? = some (.cells #[.slice A n c, .int .i64 T, .int .i64 C] 33 (0, 0))
  rms : wr.heap[w.heap.size + 1]? = some (.cells (roomsV lo hi) 109 (0, 0))
  map : MapIs wr Mb L
  work : wr.heap[Wb]? = some (.cells #[.slice A n c, .int .i64 T, .int .i64 C, .map (some Mb)] 153 (0, 0))
section
variable {w wr : World} {Wb Mb : Nat} {A : Option Addr} {n c : Nat} {T C : Int} {lo hi : Nat → Int} {L : LL}
theorem TMem.lt (h : TMem w wr Wb Mb A n c T C lo hi L) : w.heap.size + 1 < wr.heap.size := (Array.getElem?_eq_some_iff.1 h.rms).1
theorem TMem.step (h : TMem w wr Wb Mb A n c T C lo hi L) {B : Nat} {w2 : World} (hb : Below B wr w2) (h1 : w.heap.size + 1 < B) (h2 : Mb < B) (h3 : Wb < B) : TMem w w2 Wb Mb A n c T C lo hi L :=
  ⟨h.below.trans (hb.mono (by omega)), (hb.block _ (by omega)).trans h.net, (hb.block _ (by omega)).trans h.rms, h.map.same (hb.block _ (by omega)), (hb.block _ (by omega)).trans h.work⟩
theorem TMem.of {w wA W1 W2 : World} {L1 L2 : LL} (hbl : Below w.heap.size w wA) (hsz : wA.heap.size = w.heap.size + 1 + 1) (hnt : wA.heap[w.heap.size]? = some (.cells #[.slice A n c, .int .i64 T, .int .i64 C] 33 (0, 0))) (hrm : wA.heap[w.heap.size + 1]? = some (.cells (roomsV lo hi) 109 (0, 0)))
    (hb2 : wA.heap.size ≤ Mb) (hbe : Below wA.heap.size wA W1) (hW : W1.heap[Wb]? = some (.cells #[.slice A n c, .int .i64 T, .int .i64 C, .map (some Mb)] 153 (0, 0))) (hM : MapIs W1 Mb L1) (hM2 : MapIs W2 Mb L2) (hK2 : Keep (fun k => k = Mb) W1 W2) : TMem w W2 Wb Mb A n c T C lo hi L2 := by
  have hs1 := hbe.size
  have hWM : Wb ≠ Mb := by
    rintro rfl
    obtain ⟨es, cl, hb, _⟩ := hM
    rw [hW] at hb; cases hb
  have lW := (Array.getElem?_eq_some_iff.1 hW).1
  refine ⟨(hbl.trans (hbe.mono (by omega))).trans (hK2.below (by omega) (by rintro k rfl; omega)), ?_, ?_, hM2, ?_⟩
  · exact (hK2.block _ (by omega) (by omega)).trans ((hbe.block _ (by omega)).trans hnt)
  · exact (hK2.block _ (by omega) (by omega)).trans ((hbe.block _ (by omega)).trans hrm)
  · exact (hK2.block _ lW hWM).trans hW
end

set_option maxHeartbeats 4000000 in
set_option maxRecDepth 100000 in
theorem truth_any (w : World) (A : Option Addr) (l : List Ang) (c : Nat) (T C : Nat) (lo hi : Nat → Int) (hA : AngAt w A l) (hl : l.length ≤ 12) (hT : T ≤ 5) (hC : C ≤ 5)
    (hok : ∀ a ∈ l, -1 ≤ a.t ∧ a.t < T ∧ -1 ≤ a.c ∧ a.c < C) (hlo : ∀ i, 0 ≤ lo i ∧ lo i ≤ 40) (hhi : ∀ i, 0 ≤ hi i ∧ hi i ≤ 40) (hle : ∀ i, lo i ≤ hi i) :
    Calls Try.prog 80 #[.agg #[.slice A l.length c, .int .i64 T, .int .i64 C], .agg (roomsV lo hi)] w fun e w' => Below w.heap.size w w' ∧ ∃ (sum : Int) (L' : LL) (s' : Seen), FlowRel l.length (LF l T C lo hi) sum L' ∧ Dead l.length 11 (fun _ => false) s' L' ∧
      ((sum = dueN (gF l T C lo) 11 ∧ ∃ v, e = .returned (.tuple #[v, .bool true]) ∧ w'.ownsRow w.heap.size 3 1 v l.length ((xsF l lo L' l.length).map (.int .i64))) ∨ (sum ≠ dueN (gF l T C lo) 11 ∧ e = .returned (.tuple #[.slice none 0 0, .bool false]))) := by
  have hB := LF_bnd (T := T) (C := C) hl hlo hhi hle
  have hlw : l.length ≤ 1000 := by omega
  have hrm : ((w.alloc (.cells #[.slice A l.length c, .int .i64 T, .int .i64 C] 33)).alloc (.cells (roomsV lo hi) 109)).heap[w.heap.size + 1]? = some (.cells (roomsV lo hi) 109 (0, 0)) := by
    have := (MapKept.heap_alloc (w.alloc (.cells #[.slice A l.length c, .int .i64 T, .int .i64 C] 33)) (.cells (roomsV lo hi) 109)).1
    rw [World.size_alloc] at this; exact this
  have hnt : ((w.alloc (.cells #[.slice A l.length c, .int .i64 T, .int .i64 C] 33)).alloc (.cells (roomsV lo hi) 109)).heap[w.heap.size]? = some (.cells #[.slice A l.length c, .int .i64 T, .int .i64 C] 33 (0, 0)) := by
    rw [Below.heap_alloc _ _ _ (by simp)]
    exact (MapKept.heap_alloc w _).1
  have hbl : Below w.heap.size w ((w.alloc (.cells #[.slice A l.length c, .int .i64 T, .int .i64 C] 33)).alloc (.cells (roomsV lo hi) 109)) := ((Below.refl _ w).alloc (Nat.le_refl _) _).alloc (by simp) _
  have hszA : ((w.alloc (.cells #[.slice A l.length c, .int .i64 T, .int .i64 C] 33)).alloc (.cells (roomsV lo hi) 109)).heap.size = w.heap.size + 1 + 1 := by simp
  go_enter Try.func80, Try.ntmps80
  go_wp2_with (first | ((with_reducible refine wpList_load_row ?_ 109 (.tmp 3) ?_ (w.heap.size + 1) ?_ 109 (roomsV lo hi) (0, 0) (.array 12 58) hrm und109 ?_ (sizeR _ _) ?_); (· rfl); (· rfl); (· rfl); (· rfl)) | (go_at_call 92; refine (begin_any _ A l c T C lo hi (hA.below hbl) hl hT hC hok hlo hhi).mono ?_; rintro e W1 ⟨Wb, Mb, rfl, hb1, hb2, hbe, hW, hM⟩) | (go_at_call 93; refine (flow_any Wb Mb A l.length c T C hlw _ _ hW hM hB).mono ?_; rintro e W2 ⟨sum, L', rfl, hM2, hK2, hrel, s', hd⟩; have hTM := TMem.of hbl hszA hnt hrm hb2 hbe hW hM hM2 hK2; have hn0 := cell_of_block (j := 0) (v := .slice A l.length c) hTM.net rfl))
  · rename_i hne
    have hne' : sum ≠ dueN (gF l T C lo) 11 := by simpa using hne
    refine bodyPost_ret (v := .tuple #[.slice none 0 0, .bool false]) (by simp [results, Try.results80, go_sem]) rfl ?_
    exact ⟨hTM.below, sum, L', s', hrel, hd, .inr ⟨hne', rfl⟩⟩
  · have hne : (sum != dueN (gF l T C lo) 11) = false := by first | assumption | (simp_all; done)
    have hse : sum = dueN (gF l T C lo) 11 := by simpa using hne
    have hB2 := hrel.bnd hB
    have lMb := hM2.lt
    have lWb := (Array.getElem?_eq_some_iff.1 hTM.work).1
    have lT := hTM.lt
    have hHd := Lib.hid hd
    have hHr := Lib.hid hrel
    have hHs := Lib.hid hse
    clear hse hd hrel hM hM2 hW hK2 hbe hnt hrm hbl hb1 hb2 hszA hn0 hB
    simp only [hne]
    go_loopw [8, 24] (fun v t wr => ∃ k : Nat, k ≤ l.length ∧ t = .int .i64 k ∧ Below W2.heap.size W2 wr ∧ wr.ownsRow W2.heap.size 3 1 v k ((xsF l lo L' k).map (.int .i64))) (fun _ t _ => l.length - (intOf t).toNat)
    case atStart => exact ⟨0, Nat.zero_le _, rfl, Below.refl _ _, World.ownsRow_nil _ _ _ _⟩
    case round =>
      obtain ⟨k, hk, rfl, hbel, hown⟩ := hrel
      have hT2 := hTM.step hbel lT lMb lWb
      by_cases hlt : k < l.length
      · obtain ⟨a, ha⟩ : ∃ a, l[k]? = some a := ⟨l[k], by simp [hlt]⟩
        have hA2 := hA.below hT2.below
        have hao := hok a (List.mem_of_getElem? ha)
        have hfr : frN a ≤ 10 := by unfold frN nodeZ; split <;> omega
        have hto : toN a ≤ 10 := by unfold toN nodeZ; split <;> omega
        have hnet0 := cell_of_block (j := 0) (v := .slice A l.length c) hT2.net rfl
        have hnet1 := cell_of_block (j := 1) (v := .int .i64 T) hT2.net rfl
        have hnet2 := cell_of_block (j := 2) (v := .int .i64 C) hT2.net rfl
        have HX : Hid (xsF l lo L' (k + 1) = xsF l lo L' k ++ [lo k + L' (toN a) (frN a) k]) := by
          refine Lib.hid ?_
          simp only [xsF, List.range_succ, List.map_append, List.map_cons, List.map_nil, ha]
        go_wp2_with (go_at_call 69; refine (arc_any _ _ _ _ _ _ k a hA2 ha (by omega) (by omega) (by omega)).mono ?_; rintro e W3 ⟨rfl, hbW⟩)
        have hT4 := hT2.step (hbW.mono hbel.size |>.trans ((Below.refl _ W3).alloc (Nat.le_trans hbel.size hbW.size) (.cells #[.int .i64 (frN a), .int .i64 (toN a), .int .i64 k] 112))) lT lMb lWb
        have hovb : ∀ b, u8.ownBlock = some b → W2.heap.size ≤ b ∧ b < W3.heap.size := fun b hb => ⟨(hown.lt b hb).1, Nat.lt_of_lt_of_le (hown.lt b hb).2 hbW.size⟩
        have hB3 : W3.heap.size < (W3.alloc (.cells #[.int .i64 (frN a), .int .i64 (toN a), .int .i64 k] 112)).heap.size := by simp
        have harc := (MapKept.heap_alloc W3 (.cells #[.int .i64 (frN a), .int .i64 (toN a), .int .i64 k] 112)).1
        have hown4 := ownsRow_below hown (hbW.trans ((Below.refl _ W3).alloc hbW.size (.cells #[.int .i64 (frN a), .int .i64 (toN a), .int .i64 k] 112))) (Nat.le_refl _)
        have hbel4 := (hbel.trans (hbW.mono hbel.size)).trans ((Below.refl W2.heap.size W3).alloc (Nat.le_trans hbel.size hbW.size) (.cells #[.int .i64 (frN a), .int .i64 (toN a), .int .i64 k] 112))
        clear hown hbel hT2 hA2 hnet0 hnet1 hnet2 hbW hao ha
        generalize W3.alloc (.cells #[.int .i64 (frN a), .int .i64 (toN a), .int .i64 k] 112) = W4 at *
        generalize W3.heap.size = Ba at *
        generalize frN a = fr at *
        generalize toN a = tt at *
        have ha0 := cell_of_block (j := 0) (v := .int .i64 fr) harc rfl
        have ha1 := cell_of_block (j := 1) (v := .int .i64 tt) harc rfl
        have hr0 := cell_of_block (j := k * 2) hT4.rms (roomsV_lo (by omega))
        have hw3 := cell_of_block (j := 3) (v := .map (some Mb)) hT4.work rfl
        have hk0 : (0 : Int) ≤ k := by omega
        have hk1 : (k : Int) < 12 := by omega
        have hbb := hB2.nn tt fr k
        have hbl := hB2.le tt fr k
        have hbn := hB2.nn fr tt k
        have hlok := hlo k
        have hq1 : L' tt fr k ≤ 1000000 := by omega
        have HQ0 := Lib.hid (show L' tt fr k = L' tt fr k from rfl)
        generalize hQ : L' tt fr k = q at *
        have HQ := Lib.hid hQ
        clear hQ HQ0
        have hwq : IntKind.i64.wrap (lo k + q) = lo k + q := IntWalk.i64_in _ (by omega)
        have hb5 : Below W4.heap.size W4 (W4.alloc (.cells #[.int .i64 (lo k + q)] 3)).drew := ((Below.refl _ W4).alloc (Nat.le_refl _) _).drew
        have hown5 := ownsRow_below hown4 hb5 (Nat.le_refl _)
        have hblk5 : (W4.alloc (.cells #[.int .i64 (lo k + q)] 3)).drew.heap[W4.heap.size]? = some (.cells [Value.int .i64 (lo k + q)].toArray 3 (0, 0)) := (MapKept.heap_alloc W4 (.cells #[.int .i64 (lo k + q)] 3)).1
        have hsz5 : W2.heap.size ≤ (W4.alloc (.cells #[.int .i64 (lo k + q)] 3)).drew.heap.size := Nat.le_trans hbel4.size hb5.size
        have hone : ∀ u ∈ [Value.int .i64 (lo k + q)], u.oneCell' = true := by simp [Value.oneCell']
        have hkn : k < 100000 := by omega
        have hbel5 := hbel4.trans (hb5.mono hbel4.size)
        have hfar : ∀ b, (b = w.heap.size + 1 ∨ b = Wb ∨ b = Ba ∨ b = Mb) → b < W4.heap.size ∧ some b ≠ u8.ownBlock := by
          intro b hb
          have h1 := hbel4.size
          refine ⟨by rcases hb with rfl | rfl | rfl | rfl <;> omega, fun e => ?_⟩
          have h2 := hovb b e.symm
          rcases hb with rfl | rfl | rfl | rfl <;> omega
        have hkeep : ∀ w', (∀ b, (b = w.heap.size + 1 ∨ b = Wb ∨ b = Ba ∨ b = Mb) → w'.heap[b]? = W4.heap[b]?) → (w'.cell? ⟨w.heap.size + 1, k * 2, none⟩ = some (.int .i64 (lo k)) ∧ w'.cell? ⟨Wb, 3, none⟩ = some (.map (some Mb)) ∧ w'.cell? ⟨Ba, 1, none⟩ = some (.int .i64 tt) ∧ w'.cell? ⟨Ba, 0, none⟩ = some (.int .i64 fr) ∧ (Instr.lookup 151 (.map (some Mb)) (.agg #[.int .i64 tt, .int .i64 fr, .int .i64 k]) false).run Try.prog w' = .ok (.int .i64 q) w') := by
          intro w' h
          refine ⟨?_, ?_, ?_, ?_, ?_⟩
          · rw [World.cell?_of_block (h _ (.inl rfl))]; exact hr0
          · rw [World.cell?_of_block (h _ (.inr (.inl rfl)))]; exact hw3
          · rw [World.cell?_of_block (h _ (.inr (.inr (.inl rfl))))]; exact ha1
          · rw [World.cell?_of_block (h _ (.inr (.inr (.inl rfl))))]; exact ha0
          · have := (hT4.map.same (h _ (.inr (.inr (.inr rfl))))).look (u := tt) (v := fr) (i := k) ⟨fits_small (by omega), fits_small (by omega), fits_small (by omega)⟩
            rw [HQ.out] at this
            exact this
        have HKP := Lib.hid hkeep
        have HF := Lib.hid hfar
        have HO := Lib.hid hown5
        have HB := Lib.hid hbel5
        have HS := Lib.hid hsz5
        have HK := Lib.hid hblk5
        clear hkeep hfar hovb
        clear hown4 hown5 hb5 hblk5 hbel4 hbel5 hsz5
        go_region_held3 (fun w' => w'.cell? ⟨w.heap.size + 1, k * 2, none⟩ = some (.int .i64 (lo k)) ∧ w'.cell? ⟨Wb, 3, none⟩ = some (.map (some Mb)) ∧ w'.cell? ⟨Ba, 1, none⟩ = some (.int .i64 tt) ∧ w'.cell? ⟨Ba, 0, none⟩ = some (.int .i64 fr) ∧ (Instr.lookup 151 (.map (some Mb)) (.agg #[.int .i64 tt, .int .i64 fr, .int .i64 k]) false).run Try.prog w' = .ok (.int .i64 q) w')
          ((refine HKP.out _ fun b hb => ?_; first | rfl | exact Below.heap_alloc _ _ _ (HF.out b hb).1 | exact (hgrow.block b (by have := (HF.out b hb).1; simp; omega) (HF.out b hb).2).trans (Below.heap_alloc _ _ _ (HF.out b hb).1)))
          ((refine step_push elem25 _ (by rfl) (.tmp 30) (.tmp 47) (by rfl) W2.heap.size _ k _ (by rfl) HO.out W4.heap.size 1 [.int .i64 (lo k + q)] (by rfl) HK.out rfl hone hkn HS.out ?_; intro v' w' how5 hbe5 hgrow))
        all_goals
          go_wp2_with fail
          go_roundw
          case rel => exact ⟨k + 1, by omega, by go_num, HB.out.trans hbe5, by rw [HX.out, List.map_append]; exact how5⟩
          case measure => simp [intOf]; omega
      · obtain rfl : k = l.length := by omega
        go_wp2_with fail
        refine bodyPost_ret (v := .tuple #[u8, .bool true]) (by simp [results, Try.results80, go_sem]) rfl ?_
        have hsz : w.heap.size ≤ W2.heap.size := hTM.below.size
        exact ⟨hT2.below, sum, L', s', hHr.out, hHd.out, .inl ⟨hHs.out, u8, rfl, ownsRow_mono hown hsz⟩⟩
end Go.Proofs.Ytnhbplnhhloklaa
