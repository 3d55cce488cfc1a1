/- Contract of the search of Prove (a closure that calls itself out of a loop over an iterator): the nodes that can be reached. -/
import Derived.Test.YtnhbplnhhloklaaA5
namespace Go.Proofs.Ytnhbplnhhloklaa
open Go.RowKit
attribute [local go_sem] Oper.semAt_some

structure GMem (W : World) (sb wb kb Wb Mb : Nat) (A : Option Addr) (m c : Nat) (T C : Int) (s : Seen) (L : LL) : Prop where
  hs : W.heap[sb]? = some (.cells (bools s) 140 (0, 0))
  hw : W.heap[wb]? = some (.cells #[.pointer (some ⟨Wb, 0, none⟩)] 136 (0, 0))
  hk : W.heap[kb]? = some (.cells #[.func (.func 94) #[] #[.pointer (some ⟨wb, 0, none⟩), .pointer (some ⟨sb, 0, none⟩), .pointer (some ⟨kb, 0, none⟩)]] 141 (0, 0))
  hW : W.heap[Wb]? = some (.cells #[.slice A m c, .int .i64 T, .int .i64 C, .map (some Mb)] 153 (0, 0))
  hM : MapIs W Mb L
  n1 : sb ≠ wb
  n2 : sb ≠ kb
  n3 : sb ≠ Wb

section
variable {W W' : World} {sb wb kb Wb Mb : Nat} {A : Option Addr} {m c : Nat} {T C : Int} {s : Seen} {L : LL}
theorem GMem.ls (h : GMem W sb wb kb Wb Mb A m c T C s L) : sb < W.heap.size := (Array.getElem?_eq_some_iff.1 h.hs).1
theorem GMem.lw (h : GMem W sb wb kb Wb Mb A m c T C s L) : wb < W.heap.size := (Array.getElem?_eq_some_iff.1 h.hw).1
theorem GMem.lk (h : GMem W sb wb kb Wb Mb A m c T C s L) : kb < W.heap.size := (Array.getElem?_eq_some_iff.1 h.hk).1
theorem GMem.lW (h : GMem W sb wb kb Wb Mb A m c T C s L) : Wb < W.heap.size := (Array.getElem?_eq_some_iff.1 h.hW).1
theorem GMem.lM (h : GMem W sb wb kb Wb Mb A m c T C s L) : Mb < W.heap.size := h.hM.lt
theorem GMem.nM (h : GMem W sb wb kb Wb Mb A m c T C s L) : Mb ≠ sb := by
  obtain ⟨es, cl, hb, _⟩ := h.hM
  rintro rfl
  have := h.hs; rw [hb] at this; cases this
theorem GMem.kept (h : GMem W sb wb kb Wb Mb A m c T C s L) (e : ∀ b, b = sb ∨ b = wb ∨ b = kb ∨ b = Wb ∨ b = Mb → W'.heap[b]? = W.heap[b]?) : GMem W' sb wb kb Wb Mb A m c T C s L :=
  ⟨(e sb (by simp)).trans h.hs, (e wb (by simp)).trans h.hw, (e kb (by simp)).trans h.hk, (e Wb (by simp)).trans h.hW, h.hM.same (e Mb (by simp)), h.n1, h.n2, h.n3⟩
theorem GMem.alloc (h : GMem W sb wb kb Wb Mb A m c T C s L) (o : Obj) : GMem (W.alloc o) sb wb kb Wb Mb A m c T C s L :=
  h.kept fun b hb => Below.heap_alloc W o b (by rcases hb with rfl | rfl | rfl | rfl | rfl; exact h.ls; exact h.lw; exact h.lk; exact h.lW; exact h.lM)
theorem GMem.mark (h : GMem W sb wb kb Wb Mb A m c T C s L) (k : Nat) : GMem (W.setCell ⟨sb, k, none⟩ (.bool true)) sb wb kb Wb Mb A m c T C (mark s k) L := by
  have e : ∀ b, b ≠ sb → (W.setCell ⟨sb, k, none⟩ (.bool true)).heap[b]? = W.heap[b]? := fun b hb => Below.heap_setCell _ _ _ _ hb
  refine ⟨?_, (e wb (Ne.symm h.n1)).trans h.hw, (e kb (Ne.symm h.n2)).trans h.hk, (e Wb (Ne.symm h.n3)).trans h.hW, h.hM.same (e Mb h.nM), h.n1, h.n2, h.n3⟩
  rw [heap_setCell_self h.hs, bools_set]
end

/-- A set of nodes that no arc leaves. -/
def Shut (m : Nat) (L : LL) (Z : Seen) : Prop := ∀ u, u < 13 → Z u = true → ∀ v : Nat, v < 13 → ∀ i : Int, -1 ≤ i → i < m → 0 < L u v i → Z v = true
/-- What the search from a node adds. -/
structure GRel (m fr : Nat) (s s' : Seen) (L : LL) : Prop where
  mono : ∀ j, s j = true → s' j = true
  closed : ∀ u, u < 13 → s' u = true → (s u = false ∨ u = fr) → ∀ v : Nat, v < 13 → ∀ i : Int, -1 ≤ i → i < m → 0 < L u v i → s' v = true
  least : ∀ Z, Shut m L Z → (∀ j, s j = true → Z j = true) → ∀ j, s' j = true → Z j = true
structure GScan (m : Nat) (s s' : Seen) (L : LL) : Prop where
  mono : ∀ j, s j = true → s' j = true
  closed : ∀ u, u < 13 → s' u = true → s u = false → ∀ v : Nat, v < 13 → ∀ i : Int, -1 ≤ i → i < m → 0 < L u v i → s' v = true
  least : ∀ Z, Shut m L Z → (∀ j, s j = true → Z j = true) → ∀ j, s' j = true → Z j = true
theorem mark_mono (s : Seen) (k j : Nat) (h : s j = true) : mark s k j = true := by unfold mark; split <;> simp [*]
theorem mark_me (s : Seen) (k : Nat) : mark s k k = true := by simp [mark]
theorem GScan.step {m fr t : Nat} {s s' s2 : Seen} {L : LL} {i : Int} (h : GScan m s s' L) (hs : s fr = true) (hf : fr < 13) (ht : t < 13) (hi : -1 ≤ i) (hm : i < m) (hp : 0 < L fr t i) (g : GRel m t (mark s' t) s2 L) : GScan m s s2 L := by
  refine ⟨fun j hj => g.mono j (mark_mono _ _ _ (h.mono j hj)), fun u hu h1 h2 v hv k hk hkm hp' => ?_, fun Z hZ hsZ j hj => ?_⟩
  · by_cases e : u = t
    · exact g.closed u hu h1 (.inr e) v hv k hk hkm hp'
    · cases h4 : s' u with
      | true => exact g.mono v (mark_mono _ _ _ (h.closed u hu h4 h2 v hv k hk hkm hp'))
      | false => exact g.closed u hu h1 (.inl (by unfold mark; rw [if_neg e]; exact h4)) v hv k hk hkm hp'
  · refine g.least Z hZ (fun q hq => ?_) j hj
    have h1 := h.least Z hZ hsZ
    by_cases e : q = t
    · subst e
      exact hZ fr hf (h1 fr (h.mono fr hs)) q ht i hi hm hp
    · unfold mark at hq; rw [if_neg e] at hq; exact h1 q hq

def GPost (sb wb kb Wb Mb : Nat) (A : Option Addr) (m c : Nat) (T C : Int) (fr : Nat) (s : Seen) (L : LL) (w : World) (e : Ending) (w' : World) : Prop :=
  (∃ r, e = .returned r) ∧ ∃ s', GMem w' sb wb kb Wb Mb A m c T C s' L ∧ Keep (fun k => k = sb) w w' ∧ GRel m fr s s' L

def GI (sb wb kb Wb Mb : Nat) (A : Option Addr) (m c : Nat) (T C : Int) (fr : Nat) (s : Seen) (L : LL) (w : World) (pre : List (ArcT L fr m)) (W : World) : Prop :=
  ∃ s', GMem W sb wb kb Wb Mb A m c T C s' L ∧ Keep (fun k => k = sb) w W ∧ GScan m s s' L ∧ (∀ x ∈ pre, s' x.1.1.toNat = true) ∧ w.heap.size + 2 ≤ W.heap.size

theorem GI.low {sb wb kb Wb Mb : Nat} {A : Option Addr} {m c : Nat} {T C : Int} {fr : Nat} {s : Seen} {L : LL} {w : World} (hl : sb < w.heap.size ∧ wb < w.heap.size ∧ kb < w.heap.size ∧ Wb < w.heap.size ∧ Mb < w.heap.size) {B : Nat} (hB : w.heap.size + 2 ≤ B) {pre : List (ArcT L fr m)} {W W' : World}
    (h : GI sb wb kb Wb Mb A m c T C fr s L w pre W) (k : Below B W W') : GI sb wb kb Wb Mb A m c T C fr s L w pre W' := by
  obtain ⟨s', h1, h2, h3, h4, h7⟩ := h
  exact ⟨s', h1.kept fun b hb => k.block b (by omega), h2.then_below k (by omega), h3, h4, Nat.le_trans h7 k.size⟩

set_option maxRecDepth 100000 in
set_option maxHeartbeats 4000000 in
theorem prove1_step (sb wb kb Wb Mb : Nat) (A : Option Addr) (m c : Nat) (T C : Int) (hm : m ≤ 1000) (L : LL) (N : Nat)
    (ih : ∀ (fr : Nat) (s : Seen) (w : World), cnt s < N → fr < 13 → s fr = true → GMem w sb wb kb Wb Mb A m c T C s L →
      Calls Try.prog 94 #[.int .i64 fr, .pointer (some ⟨wb, 0, none⟩), .pointer (some ⟨sb, 0, none⟩), .pointer (some ⟨kb, 0, none⟩)] w (GPost sb wb kb Wb Mb A m c T C fr s L w))
    (fr : Nat) (s : Seen) (w : World) (hN : cnt s ≤ N) (hfr : fr < 13) (hsf : s fr = true) (hF : GMem w sb wb kb Wb Mb A m c T C s L) :
    CallsIn Fence.wide 10 Try.prog 94 #[.int .i64 fr, .pointer (some ⟨wb, 0, none⟩), .pointer (some ⟨sb, 0, none⟩), .pointer (some ⟨kb, 0, none⟩)] w (GPost sb wb kb Wb Mb A m c T C fr s L w) := by
  have cw := cell_of_block (j := 0) hF.hw rfl
  have ls := hF.ls
  have lw := hF.lw
  have lk := hF.lk
  have lW := hF.lW
  have lM := hF.lM
  have n1 := hF.n1
  have n2 := hF.n2
  refine callsIn_of_wp_marks (F := Fence.wide) Try.func94 rfl trivial ?_ rfl
  simp only [Try.ntmps94, List.size_toArray, List.length_cons, List.length_nil, Nat.reduceAdd, Nat.reduceSub, Array.replicate_succ, Array.replicate_zero, List.push_toArray, List.append_toArray, List.nil_append, List.cons_append]
  gi_wp2_with fail
  refine ⟨trivial, ?_⟩
  refine (callsIn_wide.2 (arcs_any _ _ _)).mono ?_
  rintro e w' ⟨rfl, rfl⟩
  have hF1 := (hF.alloc (.cells #[.pointer (some ⟨Wb, 0, none⟩)] 136)).alloc (.cells #[.int .i64 fr] 3)
  have hK1 : Keep (fun k => k = sb) w ((w.alloc (.cells #[.pointer (some ⟨Wb, 0, none⟩)] 136)).alloc (.cells #[.int .i64 fr] 3)) := ((Keep.refl _ w).alloc _).alloc _
  have hS0 : ((w.alloc (.cells #[.pointer (some ⟨Wb, 0, none⟩)] 136)).alloc (.cells #[.int .i64 fr] 3)).heap.size = w.heap.size + 2 := by simp
  have hb2 : ((w.alloc (.cells #[.pointer (some ⟨Wb, 0, none⟩)] 136)).alloc (.cells #[.int .i64 fr] 3)).heap[w.heap.size]? = some (.cells #[.pointer (some ⟨Wb, 0, none⟩)] 136 (0, 0)) :=
    (Boxed.new w 136 (.pointer (some ⟨Wb, 0, none⟩))).alloc _
  have hb3 : ((w.alloc (.cells #[.pointer (some ⟨Wb, 0, none⟩)] 136)).alloc (.cells #[.int .i64 fr] 3)).heap[w.heap.size + 1]? = some (.cells #[.int .i64 fr] 3 (0, 0)) := by
    have := Boxed.new (w.alloc (.cells #[.pointer (some ⟨Wb, 0, none⟩)] 136)) 3 (.int .i64 fr)
    rw [World.size_alloc] at this
    exact this
  gi_wp2_with fail
  obtain ⟨W0, hW0⟩ : ∃ W0, ((w.alloc (.cells #[.pointer (some ⟨Wb, 0, none⟩)] 136)).alloc (.cells #[.int .i64 fr] 3)) = W0 := ⟨_, rfl⟩
  rw [hW0] at hF1 hK1 hS0 hb2 hb3 ⊢
  clear hW0
  have hA : ArcMem W0 w.heap.size (w.heap.size + 1) Wb Mb A m c T C fr L := ⟨hb2, hb3, hF1.hW, hF1.hM⟩
  have hlow : sb < w.heap.size ∧ wb < w.heap.size ∧ kb < w.heap.size ∧ Wb < w.heap.size ∧ Mb < w.heap.size := ⟨ls, lw, lk, lW, lM⟩
  have hsc : GScan m s s L := ⟨fun _ h => h, fun u hu h1 h2 => (by rw [h1] at h2; cases h2), fun Z _ h => h⟩
  refine wpIn_rangeFunc_ownH (α := ArcT L fr m) rfl (by omega) (gf := 120) (lb := #[.pointer (some ⟨w.heap.size, 0, none⟩), .pointer (some ⟨w.heap.size + 1, 0, none⟩)]) rfl trivial (enters_of Try.func120 (by kernel_rfl) rfl)
    (arcs_stops 9 (by omega) w.heap.size (w.heap.size + 1) Wb Mb A m c T C fr L hm (by omega) W0 hA (by omega) (by omega) (by omega)) KpB.trans (KpB.put (by intro b hb; simp at hb; omega)) (Below.refl _ _) (fun _ => rfl)
    (GI sb wb kb Wb Mb A m c T C fr s L w) (fun _ _ _ => False)
    (ownFrom_low (fun pre W h => by obtain ⟨_, _, _, _, _, h⟩ := h; omega) (fun pre W W' h k => GI.low hlow (by omega) h k))
    (fun cd => fun _ _ _ _ h _ _ => h.elim)
    ⟨s, hF1, hK1, hsc, by simp, by omega⟩
    (fun x a' W => ∃ Bx, w.heap.size + 2 ≤ Bx ∧ W.heap[Bx]? = some (.cells #[.int .i64 fr, .int .i64 x.1.1, .int .i64 x.1.2] 112 (0, 0)) ∧
      a' = { tmps := #[.int .i64 fr, .pointer (some ⟨wb, 0, none⟩), .pointer (some ⟨sb, 0, none⟩), .pointer (some ⟨kb, 0, none⟩), undef, .pointer (some ⟨Bx, 0, none⟩), .pointer (some ⟨Wb, 0, none⟩), .int .i64 fr,
        .func (.func 120) #[] #[.pointer (some ⟨w.heap.size, 0, none⟩), .pointer (some ⟨w.heap.size + 1, 0, none⟩)], .agg #[.int .i64 fr, .int .i64 x.1.1, .int .i64 x.1.2], .int .i64 (L fr x.1.1 x.1.2),
        undef, undef, undef, undef, undef, undef, undef, undef, undef, undef, undef, undef], defers := [] })
    (fun x a' _ X Y row hs hg hr => by
      obtain ⟨Bx, h1, h2, h3⟩ := hs
      refine ⟨Bx, h1, (hg.block Bx (Array.getElem?_eq_some_iff.1 h2).1 (fun e => ?_)).trans h2, h3⟩
      obtain ⟨_, o, ho, hc⟩ := hr Bx e.symm
      rw [h2] at ho; cases ho; cases hc)
    ?assign ?body ?done ?stop
  case assign =>
    rintro l pre x W K hi hK
    dsimp only [encArc, kv]
    gi_wp2
    have hsW : w.heap.size + 2 ≤ W.heap.size := by obtain ⟨_, _, _, _, _, h⟩ := hi; exact h
    refine hK _ _ ((KeepsOthers.alloc _ _).from _) ⟨by simp, fun b hb => Below.heap_alloc W _ b (by simp at hb; omega)⟩ (GI.low hlow (by omega) hi ((Below.refl W0.heap.size W).alloc (by omega) _)) ⟨W.heap.size, hsW, (MapKept.heap_alloc W _).1, ?_⟩
    rfl
  case body =>
    rintro l pre ⟨⟨to, i⟩, hx⟩ a' W hl ⟨r, hr⟩ hi ⟨Bx, hBx, hbx, rfl⟩ hlt
    have hx0 := hx
    obtain ⟨hx1, hx2, hx3, hx4, hx5⟩ := hx
    simp only at hx1 hx2 hx3 hx4 hx5
    obtain ⟨t, rfl⟩ : ∃ t : Nat, to = t := ⟨to.toNat, by omega⟩
    obtain ⟨s', hF', hK', hsc', hpre, hsz'⟩ := hi
    have ht13 : t < 13 := by omega
    have cB1 := cell_of_block (j := 1) hbx rfl
    have cs' := cell_of_block (j := t) hF'.hs (bools_get ht13)
    cases hst : s' t with
    | true =>
      rw [hst] at cs'
      gi_wp2
      exact ⟨KeepsFrom.refl _ _, ⟨Nat.le_refl _, fun _ _ => rfl⟩, s', hF', hK', hsc', fun y hy => by
        rcases List.mem_append.1 hy with hy | hy
        · exact hpre y hy
        · obtain rfl := List.mem_singleton.1 hy
          simpa using hst, hsz'⟩
    | false =>
      rw [hst] at cs'
      have fs' := free_of_block (j := t) hF'.hs
      have lsW := hF'.ls
      have lBx := (Array.getElem?_eq_some_iff.1 hbx).1
      have ck := cell_of_block (j := 0) hF'.hk rfl
      have hne1 : sb ≠ Bx := by omega
      have hF2 := hF'.mark t
      have hcnt : cnt (mark s' t) < N := by
        have h1 : cnt s' ≤ cnt s := by
          unfold cnt
          have key : ∀ l : List Nat, (l.filter (fun j => !s' j)).length ≤ (l.filter (fun j => !s j)).length := by
            intro l
            induction l with
            | nil => simp
            | cons x r ih =>
              have hx := hsc'.mono x
              cases h : s x <;> cases h' : s' x <;> simp_all <;> omega
          exact key _
        have h2 := cnt_lt (s := s') (s' := mark s' t) (mark_mono s' t) ht13 hst (mark_me s' t)
        omega
      gi_wp2_with fail
      refine ⟨trivial, ?_⟩
      refine (CallsIn.inRound l (callsIn_wide.2 (ih t (mark s' t) _ hcnt ht13 (mark_me s' t) hF2))).mono ?_
      rintro e w2 ⟨⟨rr, rfl⟩, s2, hF3, hK3, hg⟩
      have hsetb : ∀ q, q ≠ sb → (W.setCell ⟨sb, t, none⟩ (.bool true)).heap[q]? = W.heap[q]? := fun q hq => Below.heap_setCell _ _ _ _ hq
      have hszs : (W.setCell ⟨sb, t, none⟩ (.bool true)).heap.size = W.heap.size := by simp [World.setCell]
      have hblk : ∀ q, q < W.heap.size → q ≠ sb → w2.heap[q]? = W.heap[q]? := fun q h1 h2 => (hK3.block q (by omega) h2).trans (hsetb q h2)
      have hsz3 : W.heap.size ≤ w2.heap.size := by have := hK3.size; omega
      gi_wp2
      refine ⟨⟨hsz3, fun q o hq ho _ => (hblk q (Array.getElem?_eq_some_iff.1 ho).1 (by omega)).trans ho⟩, ⟨hsz3, fun q hq => ?_⟩, s2, hF3, ?_, hsc'.step hsf hfr ht13 hx3 hx4 hx5 hg, fun y hy => ?_, by omega⟩
      · simp at hq
        rcases hq with rfl | rfl | rfl | rfl
        · exact hblk _ (by omega) (by omega)
        · exact hblk _ (by omega) (by omega)
        · exact hblk _ hF'.lW (Ne.symm hF'.n3)
        · exact hblk _ hF'.lM hF'.nM
      · exact (hK'.setCell (p := ⟨sb, t, none⟩) (.inl rfl) _).trans hK3
      · rcases List.mem_append.1 hy with hy | hy
        · exact hg.mono _ (mark_mono _ _ _ (hpre y hy))
        · obtain rfl := List.mem_singleton.1 hy
          simpa using hg.mono _ (mark_me s' t)
  case done =>
    rintro D xs W hD hS ⟨s', hF', hK', hsc', hpre, hsz'⟩ hKd
    have hlD := (Array.getElem?_eq_some_iff.1 hKd).1
    gi_wp2
    refine ⟨by simp, .inl ⟨_, _, rfl, run_takeDeferred hKd, ?_⟩⟩
    have hsame : ∀ q, q ≠ D → (W.putObj D (.deferred none)).heap[q]? = W.heap[q]? := fun q h2 => World.putObj_heap_other h2
    have hKf : Keep (fun k => k = sb) w (W.putObj D (.deferred none)) :=
      ⟨hK'.os, hK'.tape, hK'.output, Nat.le_trans hK'.size (by simp), fun q h1 h2 => (hsame q (by omega)).trans (hK'.block q h1 h2)⟩
    refine ⟨.tuple #[], by simp [results, Try.results94, go_sem], ⟨_, rfl⟩, s', hF'.kept (fun q hq => hsame q (by omega)), hKf, hsc'.mono, fun u hu h1 h2 v hv i hi him hp => ?_, hsc'.least⟩
    by_cases e : u = fr
    · subst e
      have hmem := mem_arcRows hv hi him hp
      rw [← hS, List.mem_map] at hmem
      obtain ⟨y, hy, hy2⟩ := hmem
      have := hpre y hy
      rw [hy2] at this
      simpa using this
    · rcases h2 with h2 | h2
      · exact hsc'.closed u hu h1 h2 v hv i hi him hp
      · exact absurd h2 e
  case stop =>
    rintro D cd pre W hD _ h hKd
    exact h.elim

theorem prove1_any (sb wb kb Wb Mb : Nat) (A : Option Addr) (m c : Nat) (T C : Int) (hm : m ≤ 1000) (L : LL) (N : Nat) :
    ∀ (fr : Nat) (s : Seen) (w : World), cnt s ≤ N → fr < 13 → s fr = true → GMem w sb wb kb Wb Mb A m c T C s L →
      Calls Try.prog 94 #[.int .i64 fr, .pointer (some ⟨wb, 0, none⟩), .pointer (some ⟨sb, 0, none⟩), .pointer (some ⟨kb, 0, none⟩)] w (GPost sb wb kb Wb Mb A m c T C fr s L w) := by
  induction N with
  | zero =>
    intro fr s w h0 hfr hs hF
    exact callsIn_wide.1 (prove1_step sb wb kb Wb Mb A m c T C hm L 0 (fun _ _ _ h => by omega) fr s w h0 hfr hs hF)
  | succ N ih =>
    intro fr s w h0 hfr hs hF
    exact callsIn_wide.1 (prove1_step sb wb kb Wb Mb A m c T C hm L (N + 1) (fun fr s w h => ih fr s w (by omega)) fr s w h0 hfr hs hF)
end Go.Proofs.Ytnhbplnhhloklaa
