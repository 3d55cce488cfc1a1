/- The contract of the search for a way from a node to the last one (a closure that calls itself out of a loop over an iterator): it finds a way along which flow is moved, or what it has seen is closed. -/
import Derived.Test.YtnhbplnhhloklaaA3
namespace Go.Proofs.Ytnhbplnhhloklaa
open Go.RowKit
open Go.ChangeMaps (setBlock)
attribute [local go_sem] Oper.semAt_some

structure FMem (ts : TypeId) (W : World) (sb wb kb Wb Mb : Nat) (A : Option Addr) (m c : Nat) (T C : Int) (s : Seen) (L : LL) : Prop where
  hs : W.heap[sb]? = some (.cells (bools s) ts (0, 0))
  hw : W.heap[wb]? = some (.cells #[.pointer (some ⟨Wb, 0, none⟩)] 136 (0, 0))
  hk : W.heap[kb]? = some (.cells #[.func (.func 118) #[] #[.pointer (some ⟨sb, 0, none⟩), .pointer (some ⟨wb, 0, none⟩), .pointer (some ⟨kb, 0, none⟩)]] 146 (0, 0))
  hW : W.heap[Wb]? = some (.cells #[.slice A m c, .int .i64 T, .int .i64 C, .map (some Mb)] 153 (0, 0))
  hM : MapIs W Mb L
  n1 : sb ≠ wb
  n2 : sb ≠ kb
  n3 : sb ≠ Wb

section
variable {ts : TypeId} {W W' : World} {sb wb kb Wb Mb : Nat} {A : Option Addr} {m c : Nat} {T C : Int} {s : Seen} {L : LL}
theorem FMem.ls (h : FMem ts W sb wb kb Wb Mb A m c T C s L) : sb < W.heap.size := (Array.getElem?_eq_some_iff.1 h.hs).1
theorem FMem.lw (h : FMem ts W sb wb kb Wb Mb A m c T C s L) : wb < W.heap.size := (Array.getElem?_eq_some_iff.1 h.hw).1
theorem FMem.lk (h : FMem ts W sb wb kb Wb Mb A m c T C s L) : kb < W.heap.size := (Array.getElem?_eq_some_iff.1 h.hk).1
theorem FMem.lW (h : FMem ts W sb wb kb Wb Mb A m c T C s L) : Wb < W.heap.size := (Array.getElem?_eq_some_iff.1 h.hW).1
theorem FMem.lM (h : FMem ts W sb wb kb Wb Mb A m c T C s L) : Mb < W.heap.size := h.hM.lt
theorem FMem.nM (h : FMem ts W sb wb kb Wb Mb A m c T C s L) : Mb ≠ sb ∧ Mb ≠ wb ∧ Mb ≠ kb ∧ Mb ≠ Wb := by
  obtain ⟨es, cl, hb, _⟩ := h.hM
  refine ⟨?_, ?_, ?_, ?_⟩ <;> rintro rfl
  · have := h.hs; rw [hb] at this; cases this
  · have := h.hw; rw [hb] at this; cases this
  · have := h.hk; rw [hb] at this; cases this
  · have := h.hW; rw [hb] at this; cases this
theorem FMem.kept (h : FMem ts W sb wb kb Wb Mb A m c T C s L) (e : ∀ b, b = sb ∨ b = wb ∨ b = kb ∨ b = Wb ∨ b = Mb → W'.heap[b]? = W.heap[b]?) : FMem ts W' sb wb kb Wb Mb A m c T C s L :=
  ⟨(e sb (by simp)).trans h.hs, (e wb (by simp)).trans h.hw, (e kb (by simp)).trans h.hk, (e Wb (by simp)).trans h.hW, h.hM.same (e Mb (by simp)), h.n1, h.n2, h.n3⟩
theorem FMem.alloc (h : FMem ts W sb wb kb Wb Mb A m c T C s L) (o : Obj) : FMem ts (W.alloc o) sb wb kb Wb Mb A m c T C s L :=
  h.kept fun b hb => Below.heap_alloc W o b (by rcases hb with rfl | rfl | rfl | rfl | rfl; exact h.ls; exact h.lw; exact h.lk; exact h.lW; exact h.lM)
theorem heap_setCell_self {w : World} {b k : Nat} {cs : Array Value} {t : TypeId} {f : Nat × Nat} (h : w.heap[b]? = some (.cells cs t f)) (v : Value) : (w.setCell ⟨b, k, none⟩ v).heap[b]? = some (.cells (cs.setIfInBounds k v) t f) := by
  show (w.heap.modify b _)[b]? = _
  rw [Array.getElem?_modify, if_pos rfl, h]
  rfl
theorem FMem.mark (h : FMem ts W sb wb kb Wb Mb A m c T C s L) (k : Nat) : FMem ts (W.setCell ⟨sb, k, none⟩ (.bool true)) sb wb kb Wb Mb A m c T C (mark s k) L := by
  have e : ∀ b, b ≠ sb → (W.setCell ⟨sb, k, none⟩ (.bool true)).heap[b]? = W.heap[b]? := fun b hb => Below.heap_setCell _ _ _ _ hb
  refine ⟨?_, (e wb (Ne.symm h.n1)).trans h.hw, (e kb (Ne.symm h.n2)).trans h.hk, (e Wb (Ne.symm h.n3)).trans h.hW, h.hM.same (e Mb h.nM.1), h.n1, h.n2, h.n3⟩
  rw [heap_setCell_self h.hs, bools_set]
end

/-- What a search from a node does. -/
def WalkPost (ts : TypeId) (sb wb kb Wb Mb : Nat) (A : Option Addr) (m c : Nat) (T C : Int) (fr : Nat) (most : Int) (s : Seen) (L : LL) (w : World) (e : Ending) (w' : World) : Prop :=
  ∃ (got : Int) (s' : Seen) (L' : LL), e = .returned (.int .i64 got) ∧ FMem ts w' sb wb kb Wb Mb A m c T C s' L' ∧ Keep (fun k => k = sb ∨ k = Mb) w w' ∧
    ((got = 0 ∧ L' = L ∧ Dead m fr s s' L ∧ w'.heap[Mb]? = w.heap[Mb]?) ∨ (0 < got ∧ got ≤ most ∧ Aug m fr got s L L'))

/-- Between two arcs. -/
structure Scan (m : Nat) (fr : Nat) (s s' : Seen) (L : LL) : Prop where
  mono : ∀ j, s j = true → s' j = true
  me : s' fr = true
  last : s' 12 = true → s 12 = true
  closed : ∀ u, u < 13 → s' u = true → s u = false → u ≠ fr → ∀ v : Nat, v < 13 → ∀ i : Int, -1 ≤ i → i < m → 0 < L u v i → s' v = true

theorem Scan.dead {m fr to : Nat} {s s' s'' : Seen} {L : LL} (h : Scan m fr s s' L) (d : Dead m to s' s'' L) : Scan m fr s s'' L :=
  ⟨fun j hj => d.mono j (h.mono j hj), d.mono fr h.me, fun hl => h.last (d.last hl), fun u hu h1 h2 h3 v hv i hi hm hp => by
    cases h4 : s' u with
    | true => exact d.mono v (h.closed u hu h4 h2 h3 v hv i hi hm hp)
    | false => exact d.closed u hu h1 h4 v hv i hi hm hp⟩

abbrev ArcT (L : LL) (fr : Int) (m : Nat) := {x : Int × Int // ArcOk L fr m x}

/-- The search's own state between two arcs. -/
def WI (ts : TypeId) (sb wb kb Wb Mb : Nat) (A : Option Addr) (m c : Nat) (T C : Int) (fr : Nat) (most : Int) (s : Seen) (L : LL) (w : World) (pre : List (ArcT L fr m)) (W : World) : Prop :=
  ∃ s', FMem ts W sb wb kb Wb Mb A m c T C s' L ∧ Keep (fun k => k = sb ∨ k = Mb) w W ∧ Scan m fr s s' L ∧ (∀ x ∈ pre, s' x.1.1.toNat = true) ∧ W.heap[Mb]? = w.heap[Mb]? ∧
    W.heap[w.heap.size]? = some (.cells #[.int .i64 most] 3 (0, 0)) ∧ W.heap[w.heap.size + 1]? = some (.cells #[.int .i64 0] 3 (0, 0)) ∧ w.heap.size + 4 ≤ W.heap.size

/-- It has found a way. -/
def WX (ts : TypeId) (sb wb kb Wb Mb : Nat) (A : Option Addr) (m c : Nat) (T C : Int) (fr : Nat) (most : Int) (s : Seen) (L : LL) (w : World) (cd : Code) (_ : List (ArcT L fr m)) (W : World) : Prop :=
  cd = .ret ∧ ∃ (got : Int) (s' : Seen) (L' : LL), FMem ts W sb wb kb Wb Mb A m c T C s' L' ∧ Keep (fun k => k = sb ∨ k = Mb) w W ∧ 0 < got ∧ got ≤ most ∧ Aug m fr got s L L' ∧
    W.heap[w.heap.size + 1]? = some (.cells #[.int .i64 got] 3 (0, 0)) ∧ w.heap.size + 4 ≤ W.heap.size

theorem ownFrom_low {β : Type} {B : Nat} {I : β → World → Prop} (hB : ∀ s W, I s W → B ≤ W.heap.size) (h : ∀ s W W', I s W → Below B W W' → I s W') : OwnFrom B I := fun s W W' _ hs hg hr =>
  h s W W' hs ((Below.refl B W).grown hg (hB s W hs) (fun k e => (hr k e).1))

section
variable {ts : TypeId} {sb wb kb Wb Mb : Nat} {A : Option Addr} {m c : Nat} {T C : Int} {fr : Nat} {most : Int} {s : Seen} {L : LL} {w : World}
theorem Keep.then_below {S : Nat → Prop} {a b c : World} {B : Nat} (h : Keep S a b) (k : Below B b c) (hB : a.heap.size ≤ B) : Keep S a c :=
  ⟨k.os.trans h.os, k.tape.trans h.tape, k.output.trans h.output, Nat.le_trans h.size k.size, fun i hi hS => (k.block i (by omega)).trans (h.block i hi hS)⟩
theorem WI.low (hl : sb < w.heap.size ∧ wb < w.heap.size ∧ kb < w.heap.size ∧ Wb < w.heap.size ∧ Mb < w.heap.size) {B : Nat} (hB : w.heap.size + 4 ≤ B) {pre : List (ArcT L fr m)} {W W' : World}
    (h : WI ts sb wb kb Wb Mb A m c T C fr most s L w pre W) (k : Below B W W') : WI ts sb wb kb Wb Mb A m c T C fr most s L w pre W' := by
  obtain ⟨s', h1, h2, h3, h4, h8, h5, h6, h7⟩ := h
  exact ⟨s', h1.kept fun b hb => k.block b (by omega), h2.then_below k (by omega), h3, h4, (k.block _ (by omega)).trans h8, (k.block _ (by omega)).trans h5, (k.block _ (by omega)).trans h6, Nat.le_trans h7 k.size⟩
theorem WX.low (hl : sb < w.heap.size ∧ wb < w.heap.size ∧ kb < w.heap.size ∧ Wb < w.heap.size ∧ Mb < w.heap.size) {B : Nat} (hB : w.heap.size + 4 ≤ B) {cd : Code} {pre : List (ArcT L fr m)} {W W' : World}
    (h : WX ts sb wb kb Wb Mb A m c T C fr most s L w cd pre W) (k : Below B W W') : WX ts sb wb kb Wb Mb A m c T C fr most s L w cd pre W' := by
  obtain ⟨h0, got, s', L', h1, h2, h3, h4, h5, h6, h7⟩ := h
  exact ⟨h0, got, s', L', h1.kept fun b hb => k.block b (by omega), h2.then_below k (by omega), h3, h4, h5, (k.block _ (by omega)).trans h6, Nat.le_trans h7 k.size⟩
end

theorem mem_arcRows {L : LL} {fr : Int} {m : Nat} {v : Nat} {i : Int} (hv : v < 13) (h1 : -1 ≤ i) (h2 : i < m) (hp : 0 < L fr v i) : ((v : Int), i) ∈ arcRows L fr m 13 := by
  unfold arcRows arcRow
  rw [List.mem_flatMap]
  refine ⟨v, List.mem_range.2 hv, ?_⟩
  rw [List.mem_filter, List.mem_map]
  refine ⟨⟨(i + 1).toNat, List.mem_range.2 (by omega), ?_⟩, by simpa using hp⟩
  have : (((i + 1).toNat : Nat) : Int) - 1 = i := by omega
  rw [this]

theorem Scan.all {m fr : Nat} {s s' : Seen} {L : LL} (h : Scan m fr s s' L) (hall : ∀ x ∈ arcRows L fr m 13, s' x.1.toNat = true) : Dead m fr s s' L :=
  ⟨h.mono, h.me, h.last, fun u hu h1 h2 v hv i hi hm hp => by
    by_cases e : u = fr
    · subst e
      have := hall _ (mem_arcRows hv hi hm hp)
      simpa using this
    · exact h.closed u hu h1 h2 e v hv i hi hm hp⟩

set_option maxRecDepth 100000 in
set_option maxHeartbeats 4000000 in
theorem flow1_step (ts : TypeId) (sb wb kb Wb Mb : Nat) (A : Option Addr) (m c : Nat) (T C : Int) (hm : m ≤ 1000) (N : Nat)
    (ih : ∀ (fr : Nat) (most : Int) (s : Seen) (L : LL) (w : World), cnt s ≤ N → fr < 13 → 0 < most → most ≤ 1073741824 → s fr = false → Bnd L → FMem ts w sb wb kb Wb Mb A m c T C s L →
      Calls Try.prog 118 #[.int .i64 fr, .int .i64 most, .pointer (some ⟨sb, 0, none⟩), .pointer (some ⟨wb, 0, none⟩), .pointer (some ⟨kb, 0, none⟩)] w (WalkPost ts sb wb kb Wb Mb A m c T C fr most s L w))
    (fr : Nat) (most : Int) (s : Seen) (L : LL) (w : World) (hN : cnt s ≤ N + 1) (hfr : fr < 13) (h12 : ¬ fr = 12) (hm0 : 0 < most) (hm1 : most ≤ 1073741824) (hsf : s fr = false) (hB : Bnd L) (hF : FMem ts w sb wb kb Wb Mb A m c T C s L) :
    CallsIn Fence.wide 10 Try.prog 118 #[.int .i64 fr, .int .i64 most, .pointer (some ⟨sb, 0, none⟩), .pointer (some ⟨wb, 0, none⟩), .pointer (some ⟨kb, 0, none⟩)] w (WalkPost ts sb wb kb Wb Mb A m c T C fr most s L w) := by
  have cw := cell_of_block (j := 0) hF.hw rfl
  have cs := cell_of_block (j := fr) hF.hs (bools_get hfr)
  have fs := free_of_block (j := fr) hF.hs
  have ls := hF.ls
  have lw := hF.lw
  have lk := hF.lk
  have lW := hF.lW
  have lM := hF.lM
  have n1 := hF.n1
  have n2 := hF.n2
  have h12' : ((fr : Int) == 12) = false := by simp; omega
  refine callsIn_of_wp_marks (F := Fence.wide) Try.func118 rfl trivial ?_ rfl
  simp only [Try.ntmps118, List.size_toArray, List.length_cons, List.length_nil, Nat.reduceAdd, Nat.reduceSub, Array.replicate_succ, Array.replicate_zero, List.push_toArray, List.append_toArray, List.nil_append, List.cons_append]
  gi_wp2_with fail
  refine ⟨trivial, ?_⟩
  refine (callsIn_wide.2 (arcs_any _ _ _)).mono ?_
  rintro e w' ⟨rfl, rfl⟩
  have hF1 := ((((hF.mark fr).alloc (.cells #[.int .i64 most] 3)).alloc (.cells #[.int .i64 0] 3)).alloc (.cells #[.pointer (some ⟨Wb, 0, none⟩)] 136)).alloc (.cells #[.int .i64 fr] 3)
  have hK1 : Keep (fun k => k = sb ∨ k = Mb) w (((((w.setCell ⟨sb, fr, none⟩ (.bool true)).alloc (.cells #[.int .i64 most] 3)).alloc (.cells #[.int .i64 0] 3)).alloc (.cells #[.pointer (some ⟨Wb, 0, none⟩)] 136)).alloc (.cells #[.int .i64 fr] 3)) :=
    ((((Keep.setCell (Keep.refl _ w) (p := ⟨sb, fr, none⟩) (.inl (.inl rfl)) _).alloc _).alloc _).alloc _).alloc _
  have hM1 : (((((w.setCell ⟨sb, fr, none⟩ (.bool true)).alloc (.cells #[.int .i64 most] 3)).alloc (.cells #[.int .i64 0] 3)).alloc (.cells #[.pointer (some ⟨Wb, 0, none⟩)] 136)).alloc (.cells #[.int .i64 fr] 3)).heap[Mb]? = w.heap[Mb]? := by
    rw [Below.heap_alloc _ _ _ (by simp [World.setCell]; omega), Below.heap_alloc _ _ _ (by simp [World.setCell]; omega), Below.heap_alloc _ _ _ (by simp [World.setCell]; omega), Below.heap_alloc _ _ _ (by simp [World.setCell]; omega), Below.heap_setCell _ _ _ _ hF.nM.1]
  have hS0 : (((((w.setCell ⟨sb, fr, none⟩ (.bool true)).alloc (.cells #[.int .i64 most] 3)).alloc (.cells #[.int .i64 0] 3)).alloc (.cells #[.pointer (some ⟨Wb, 0, none⟩)] 136)).alloc (.cells #[.int .i64 fr] 3)).heap.size = w.heap.size + 4 := by
    simp [World.setCell]
  have hsz : (w.setCell ⟨sb, fr, none⟩ (.bool true)).heap.size = w.heap.size := by simp [World.setCell]
  have hb0 : (((((w.setCell ⟨sb, fr, none⟩ (.bool true)).alloc (.cells #[.int .i64 most] 3)).alloc (.cells #[.int .i64 0] 3)).alloc (.cells #[.pointer (some ⟨Wb, 0, none⟩)] 136)).alloc (.cells #[.int .i64 fr] 3)).heap[w.heap.size]? = some (.cells #[.int .i64 most] 3 (0, 0)) := by
    have := Boxed.new (w.setCell ⟨sb, fr, none⟩ (.bool true)) 3 (.int .i64 most)
    rw [hsz] at this
    exact ((this.alloc _).alloc _).alloc _
  have hb1 : (((((w.setCell ⟨sb, fr, none⟩ (.bool true)).alloc (.cells #[.int .i64 most] 3)).alloc (.cells #[.int .i64 0] 3)).alloc (.cells #[.pointer (some ⟨Wb, 0, none⟩)] 136)).alloc (.cells #[.int .i64 fr] 3)).heap[w.heap.size + 1]? = some (.cells #[.int .i64 0] 3 (0, 0)) := by
    have := Boxed.new ((w.setCell ⟨sb, fr, none⟩ (.bool true)).alloc (.cells #[.int .i64 most] 3)) 3 (.int .i64 0)
    rw [World.size_alloc, hsz] at this
    exact (this.alloc _).alloc _
  have hb2 : (((((w.setCell ⟨sb, fr, none⟩ (.bool true)).alloc (.cells #[.int .i64 most] 3)).alloc (.cells #[.int .i64 0] 3)).alloc (.cells #[.pointer (some ⟨Wb, 0, none⟩)] 136)).alloc (.cells #[.int .i64 fr] 3)).heap[w.heap.size + 1 + 1]? = some (.cells #[.pointer (some ⟨Wb, 0, none⟩)] 136 (0, 0)) := by
    have := Boxed.new (((w.setCell ⟨sb, fr, none⟩ (.bool true)).alloc (.cells #[.int .i64 most] 3)).alloc (.cells #[.int .i64 0] 3)) 136 (.pointer (some ⟨Wb, 0, none⟩))
    rw [World.size_alloc, World.size_alloc, hsz] at this
    exact this.alloc _
  have hb3 : (((((w.setCell ⟨sb, fr, none⟩ (.bool true)).alloc (.cells #[.int .i64 most] 3)).alloc (.cells #[.int .i64 0] 3)).alloc (.cells #[.pointer (some ⟨Wb, 0, none⟩)] 136)).alloc (.cells #[.int .i64 fr] 3)).heap[w.heap.size + 1 + 1 + 1]? = some (.cells #[.int .i64 fr] 3 (0, 0)) := by
    have := Boxed.new ((((w.setCell ⟨sb, fr, none⟩ (.bool true)).alloc (.cells #[.int .i64 most] 3)).alloc (.cells #[.int .i64 0] 3)).alloc (.cells #[.pointer (some ⟨Wb, 0, none⟩)] 136)) 3 (.int .i64 fr)
    rw [World.size_alloc, World.size_alloc, World.size_alloc, hsz] at this
    exact this
  gi_wp2_with fail
  obtain ⟨W0, hW0⟩ : ∃ W0, (((((w.setCell ⟨sb, fr, none⟩ (.bool true)).alloc (.cells #[.int .i64 most] 3)).alloc (.cells #[.int .i64 0] 3)).alloc (.cells #[.pointer (some ⟨Wb, 0, none⟩)] 136)).alloc (.cells #[.int .i64 fr] 3)) = W0 := ⟨_, rfl⟩
  rw [hW0] at hF1 hK1 hM1 hS0 hb0 hb1 hb2 hb3 ⊢
  clear hW0
  have hA : ArcMem W0 (w.heap.size + 1 + 1) (w.heap.size + 1 + 1 + 1) Wb Mb A m c T C fr L := ⟨hb2, hb3, hF1.hW, hF1.hM⟩
  have hlow : sb < w.heap.size ∧ wb < w.heap.size ∧ kb < w.heap.size ∧ Wb < w.heap.size ∧ Mb < w.heap.size := ⟨ls, lw, lk, lW, lM⟩
  have hsc : Scan m fr s (mark s fr) L := by
    refine ⟨fun j hj => ?_, by simp [mark], fun h => ?_, fun u hu h1 h2 h3 => ?_⟩
    · unfold mark; split <;> simp [*]
    · unfold mark at h; rw [if_neg (by omega)] at h; exact h
    · unfold mark at h1; rw [if_neg h3] at h1; rw [h1] at h2; cases h2
  refine wpIn_rangeFunc_ownH (α := ArcT L fr m) rfl (by omega) (gf := 120) (lb := #[.pointer (some ⟨w.heap.size + 1 + 1, 0, none⟩), .pointer (some ⟨w.heap.size + 1 + 1 + 1, 0, none⟩)]) rfl trivial (enters_of Try.func120 (by kernel_rfl) rfl)
    (arcs_stops 9 (by omega) (w.heap.size + 1 + 1) (w.heap.size + 1 + 1 + 1) Wb Mb A m c T C fr L hm (by omega) W0 hA (by omega) (by omega) (by omega)) KpB.trans (KpB.put (by intro b hb; simp at hb; omega)) (Below.refl _ _) (fun _ => rfl)
    (WI ts sb wb kb Wb Mb A m c T C fr most s L w) (WX ts sb wb kb Wb Mb A m c T C fr most s L w)
    (ownFrom_low (fun pre W h => by obtain ⟨_, _, _, _, _, _, _, _, h⟩ := h; omega) (fun pre W W' h k => WI.low hlow (by omega) h k))
    (fun cd => ownFrom_low (fun pre W h => by obtain ⟨_, _, _, _, _, _, _, _, _, _, h⟩ := h; omega) (fun pre W W' h k => WX.low hlow (by omega) h k))
    ⟨mark s fr, hF1, hK1, hsc, by simp, hM1, hb0, hb1, by omega⟩
    (fun x a' W => ∃ Bx, w.heap.size + 4 ≤ Bx ∧ W.heap[Bx]? = some (.cells #[.int .i64 fr, .int .i64 x.1.1, .int .i64 x.1.2] 112 (0, 0)) ∧
      a' = { tmps := #[.int .i64 fr, .int .i64 most, .pointer (some ⟨sb, 0, none⟩), .pointer (some ⟨wb, 0, none⟩), .pointer (some ⟨kb, 0, none⟩), undef, .pointer (some ⟨w.heap.size, 0, none⟩), .pointer (some ⟨w.heap.size + 1, 0, none⟩),
        .pointer (some ⟨Bx, 0, none⟩), .int .i64 (L fr x.1.1 x.1.2), undef, .int .i64 fr, .bool false, undef, .int .i64 fr, .pointer (some ⟨sb, fr, none⟩), .pointer (some ⟨Wb, 0, none⟩), .int .i64 fr,
        .func (.func 120) #[] #[.pointer (some ⟨w.heap.size + 1 + 1, 0, none⟩), .pointer (some ⟨w.heap.size + 1 + 1 + 1, 0, none⟩)], .agg #[.int .i64 fr, .int .i64 x.1.1, .int .i64 x.1.2], .int .i64 (L fr x.1.1 x.1.2),
        undef, undef, undef, undef, undef, undef, undef, undef, undef, undef, undef, undef, undef, undef, undef, undef, undef, undef, undef], defers := [] })
    (fun x a' _ X Y row hs hg hr => by
      obtain ⟨Bx, h1, h2, h3⟩ := hs
      refine ⟨Bx, h1, (hg.block Bx (Array.getElem?_eq_some_iff.1 h2).1 (fun e => ?_)).trans h2, h3⟩
      obtain ⟨_, o, ho, hc⟩ := hr Bx e.symm
      rw [h2] at ho; cases ho; cases hc)
    ?assign ?body ?done ?stop
  case assign =>
    rintro l pre x W K hi hK
    dsimp only [encArc, kv]
    gi_wp2
    have hsW : w.heap.size + 4 ≤ W.heap.size := by obtain ⟨_, _, _, _, _, _, _, _, h⟩ := hi; exact h
    refine hK _ _ ((KeepsOthers.alloc _ _).from _) ⟨by simp, fun b hb => Below.heap_alloc W _ b (by simp at hb; omega)⟩ (WI.low hlow (by omega) hi ((Below.refl W0.heap.size W).alloc (by omega) _)) ⟨W.heap.size, hsW, (MapKept.heap_alloc W _).1, ?_⟩
    rfl
  case body =>
    rintro l pre ⟨⟨to, i⟩, hx⟩ a' W hl ⟨r, hr⟩ hi ⟨Bx, hBx, hbx, rfl⟩ hlt
    have hx0 := hx
    obtain ⟨hx1, hx2, hx3, hx4, hx5⟩ := hx
    simp only at hx1 hx2 hx3 hx4 hx5
    obtain ⟨t, rfl⟩ : ∃ t : Nat, to = t := ⟨to.toNat, by omega⟩
    obtain ⟨s', hF', hK', hsc', hpre, hMs, hb0', hb1', hsz'⟩ := hi
    have ht13 : t < 13 := by omega
    have cB0 := cell_of_block (j := 0) hbx rfl
    have cB1 := cell_of_block (j := 1) hbx rfl
    have cB2 := cell_of_block (j := 2) hbx rfl
    have cs' := cell_of_block (j := t) hF'.hs (bools_get ht13)
    cases hst : s' t with
    | true =>
      rw [hst] at cs'
      gi_wp2
      exact ⟨KeepsFrom.refl _ _, ⟨Nat.le_refl _, fun _ _ => rfl⟩, s', hF', hK', hsc', fun y hy => by
        rcases List.mem_append.1 hy with hy | hy
        · exact hpre y hy
        · obtain rfl := List.mem_singleton.1 hy
          simpa using hst, hMs, hb0', hb1', hsz'⟩
    | false =>
      rw [hst] at cs'
      gi_wp2
      have lsW := hF'.ls
      have lkW := hF'.lk
      have lBx := (Array.getElem?_eq_some_iff.1 hbx).1
      have ck := cell_of_block (j := 0) hF'.hk rfl
      have cb0 := cell_of_block (j := 0) hb0' rfl
      refine wpIn_region_inv (by kernel_rfl) (fun b a wd => ∃ x25 x26 x27 x28 x29 x30 x31 x32 x10 : Value,
        a = { tmps := #[.int .i64 fr, .int .i64 most, .pointer (some ⟨sb, 0, none⟩), .pointer (some ⟨wb, 0, none⟩), .pointer (some ⟨kb, 0, none⟩), undef, .pointer (some ⟨w.heap.size, 0, none⟩), .pointer (some ⟨w.heap.size + 1, 0, none⟩),
          .pointer (some ⟨Bx, 0, none⟩), .int .i64 (L fr t i), x10, .int .i64 fr, .bool false, undef, .int .i64 fr, .pointer (some ⟨sb, fr, none⟩), .pointer (some ⟨Wb, 0, none⟩), .int .i64 fr,
          .func (.func 120) #[] #[.pointer (some ⟨w.heap.size + 1 + 1, 0, none⟩), .pointer (some ⟨w.heap.size + 1 + 1 + 1, 0, none⟩)], .agg #[.int .i64 fr, .int .i64 t, .int .i64 i], .int .i64 (L fr t i),
          .pointer (some ⟨Bx, 1, none⟩), .int .i64 t, .pointer (some ⟨sb, t, none⟩), .bool false, x25, x26, x27, x28, x29, x30, x31, x32, undef, undef, undef, undef, undef, undef, undef], defers := [] } ∧
        (b 0 = true → x25 = .func (.func 118) #[] #[.pointer (some ⟨sb, 0, none⟩), .pointer (some ⟨wb, 0, none⟩), .pointer (some ⟨kb, 0, none⟩)]) ∧
        (b 1 = true → x26 = .pointer (some ⟨Bx, 1, none⟩)) ∧ (b 2 = true → x27 = .int .i64 t ∧ b 1 = true) ∧ (b 3 = true → x28 = .int .i64 most) ∧ (b 4 = true → x29 = .int .i64 (L fr t i)) ∧
        (b 5 = true → ∃ g, x30 = .slice (some ⟨g, 0, none⟩) 2 2 ∧ b 3 = true ∧ b 4 = true ∧ (b 7 = false → wd.heap[g]? = some (.cells #[.int .i64 most, .int .i64 (L fr t i)] 3 (0, 0)))) ∧
        (b 6 = true → x31 = .int .i64 (min most (L fr t i)) ∧ b 5 = true) ∧
        (b 7 = false → Below W.heap.size W wd ∧ b 8 = false) ∧
        (b 7 = true → b 0 = true ∧ b 2 = true ∧ b 6 = true ∧ ∃ (got : Int) (s2 : Seen) (L2 : LL), x32 = .int .i64 got ∧ (b 8 = true → x10 = .int .i64 got) ∧ FMem ts wd sb wb kb Wb Mb A m c T C s2 L2 ∧ Keep (fun k => k = sb ∨ k = Mb) W wd ∧
          ((got = 0 ∧ L2 = L ∧ Dead m t s' s2 L ∧ wd.heap[Mb]? = W.heap[Mb]?) ∨ (0 < got ∧ got ≤ min most (L fr t i) ∧ Aug m t got s' L L2))))
        (by kernel_rfl) ?r0 ?rstep ?rend
      case r0 =>
        exact ⟨undef, undef, undef, undef, undef, undef, undef, undef, undef, rfl, by simp, by simp, by simp, by simp, by simp, by simp, by simp, fun _ => ⟨(Below.refl _ _).drew, rfl⟩, by simp⟩
      case rstep =>
        rintro b a wd k o ho hbk hn ⟨x25, x26, x27, x28, x29, x30, x31, x32, x10, rfl, f0, f1, f2, f3, f4, f5, f6, f7, f8⟩ K hK
        have hk9 : k < 9 := by simpa using (Array.getElem?_eq_some_iff.1 ho).1
        have hk : k = 0 ∨ k = 1 ∨ k = 2 ∨ k = 3 ∨ k = 4 ∨ k = 5 ∨ k = 6 ∨ k = 7 ∨ k = 8 := by omega
        have hup : ∀ j, j ≠ k → up b k j = b j := fun j hj => by simp [up, hj]
        have hself : up b k k = true := by simp [up]
        rcases hk with rfl | rfl | rfl | rfl | rfl | rfl | rfl | rfl | rfl
        · have h7 : b 7 = false := by cases h : b 7 with | false => rfl | true => rw [(f8 h).1] at hbk; cases hbk
          have hbel := (f7 h7).1
          have ckd := (hbel.cell (p := ⟨kb, 0, none⟩) lkW).trans ck
          unfold Go.wpOpIn
          go_simp
          exact hK _ _ ⟨_, x26, x27, x28, x29, x30, x31, x32, x10, rfl, fun _ => rfl, f1, f2, f3, f4, f5, f6, f7, fun h => by rw [show b 7 = true from h] at h7; cases h7⟩
        · have h7 : b 7 = false := by cases h : b 7 with | false => rfl | true => rw [(f2 (f8 h).2.1).2] at hbk; cases hbk
          unfold Go.wpOpIn
          go_simp
          exact hK _ _ ⟨x25, _, x27, x28, x29, x30, x31, x32, x10, rfl, f0, fun _ => rfl, fun h => ⟨(f2 h).1, rfl⟩, f3, f4, f5, f6, f7, fun h => by rw [show b 7 = true from h] at h7; cases h7⟩
        · have h7 : b 7 = false := by cases h : b 7 with | false => rfl | true => rw [(f8 h).2.1] at hbk; cases hbk
          have hbel := (f7 h7).1
          have h1 : b 1 = true := by simp at ho; subst ho; simp [Region.binds] at hn; exact hn
          obtain rfl := f1 h1
          have cd := (hbel.cell (p := ⟨Bx, 1, none⟩) lBx).trans cB1
          unfold Go.wpOpIn
          go_simp
          exact hK _ _ ⟨x25, _, _, x28, x29, x30, x31, x32, x10, rfl, f0, f1, fun _ => ⟨rfl, h1⟩, f3, f4, f5, f6, f7, fun h => by rw [show b 7 = true from h] at h7; cases h7⟩
        · have h7 : b 7 = false := by
            cases h : b 7 with
            | false => rfl
            | true =>
              obtain ⟨g, _, h3, _⟩ := f5 (f6 (f8 h).2.2.1).2
              rw [h3] at hbk; cases hbk
          have hbel := (f7 h7).1
          have cd := (hbel.cell (p := ⟨w.heap.size, 0, none⟩) (show w.heap.size < W.heap.size by omega)).trans cb0
          unfold Go.wpOpIn
          go_simp
          exact hK _ _ ⟨x25, x26, x27, _, x29, x30, x31, x32, x10, rfl, f0, f1, f2, fun _ => rfl, f4, fun h => by obtain ⟨g, h1, h2, h3⟩ := f5 h; exact ⟨g, h1, rfl, h3⟩, f6, f7, fun h => by rw [show b 7 = true from h] at h7; cases h7⟩
        · have h7 : b 7 = false := by
            cases h : b 7 with
            | false => rfl
            | true =>
              obtain ⟨g, _, _, h3, _⟩ := f5 (f6 (f8 h).2.2.1).2
              rw [h3] at hbk; cases hbk
          unfold Go.wpOpIn
          go_simp
          exact hK _ _ ⟨x25, x26, x27, x28, _, x30, x31, x32, x10, rfl, f0, f1, f2, f3, fun _ => rfl, fun h => by obtain ⟨g, h1, h2, h3, h4⟩ := f5 h; exact ⟨g, h1, h2, rfl, h4⟩, f6, f7, fun h => by rw [show b 7 = true from h] at h7; cases h7⟩
        · have h7 : b 7 = false := by cases h : b 7 with | false => rfl | true => rw [(f6 (f8 h).2.2.1).2] at hbk; cases hbk
          have hbel := (f7 h7).1
          have h34 : b 3 = true ∧ b 4 = true := by simp at ho; subst ho; simp [Region.binds] at hn; exact hn
          obtain rfl := f3 h34.1
          obtain rfl := f4 h34.2
          unfold Go.wpOpIn
          go_simp
          exact hK _ _ ⟨x25, x26, x27, _, _, _, x31, x32, x10, rfl, f0, f1, f2, f3, f4, fun _ => ⟨wd.heap.size, rfl, h34.1, h34.2, fun _ => (MapKept.heap_alloc wd _).1⟩, fun h => ⟨(f6 h).1, rfl⟩, fun _ => ⟨hbel.alloc hbel.size _, (f7 h7).2⟩, fun h => by rw [show b 7 = true from h] at h7; cases h7⟩
        · have h7 : b 7 = false := by cases h : b 7 with | false => rfl | true => rw [(f8 h).2.2.1] at hbk; cases hbk
          have h5 : b 5 = true := by simp at ho; subst ho; simp [Region.binds] at hn; exact hn
          obtain ⟨g, rfl, h3, h4, hg⟩ := f5 h5
          have hgc := hg h7
          unfold Go.wpOpIn
          go_simp
          refine ⟨trivial, ?_⟩
          refine (CallsIn.inRound l (callsIn_wide.2 (small2_any wd g most (L fr t i) hgc))).mono ?_
          rintro e w' ⟨rfl, rfl⟩
          exact hK _ _ ⟨_, _, _, _, _, _, _, _, _, rfl, f0, f1, f2, (fun _ => rfl), (fun _ => rfl), (fun _ => ⟨g, rfl, h3, h4, fun _ => hgc⟩), (fun _ => ⟨rfl, h5⟩), f7, fun h => by rw [show b 7 = true from h] at h7; cases h7⟩
        · have hn' : b 0 = true ∧ b 2 = true ∧ b 6 = true := by
            simp at ho; subst ho; simp [Region.binds] at hn; exact hn
          have hbel := (f7 hbk).1
          obtain rfl := f0 hn'.1
          obtain ⟨rfl, h1⟩ := f2 hn'.2.1
          obtain ⟨rfl, h5⟩ := f6 hn'.2.2
          have hFd : FMem ts wd sb wb kb Wb Mb A m c T C s' L := hF'.kept fun q hq => hbel.block q (by rcases hq with rfl | rfl | rfl | rfl | rfl; exact hF'.ls; exact hF'.lw; exact hF'.lk; exact hF'.lW; exact hF'.lM)
          have hcnt : cnt s' ≤ N := by have := cnt_lt hsc'.mono hfr hsf hsc'.me; omega
          unfold Go.wpOpIn
          go_simp
          refine ⟨trivial, ?_⟩
          refine (CallsIn.inRound l (callsIn_wide.2 (ih t (min most (L fr t i)) s' L wd hcnt ht13 (by omega) (by omega) hst hB hFd))).mono ?_
          rintro e w' ⟨got, s2, L2, rfl, hF2, hK2, hres⟩
          obtain ⟨g, hg1, hg3, hg4, _⟩ := f5 h5
          have h8 := (f7 hbk).2
          exact hK _ _ ⟨_, _, _, _, _, _, _, _, _, rfl, (fun _ => rfl), (fun _ => by first | rfl | exact f1 h1), (fun _ => ⟨rfl, h1⟩), (fun _ => by first | rfl | exact f3 hg3), (fun _ => by first | rfl | exact f4 hg4), (fun _ => ⟨g, by first | exact hg1 | rfl, hg3, hg4, (fun h => by cases h)⟩), (fun _ => ⟨rfl, h5⟩), (fun h => by cases h),
            (fun _ => ⟨hn'.1, hn'.2.1, hn'.2.2, got, s2, L2, rfl, (fun h => by rw [show b 8 = true from h] at h8; cases h8), hF2, (Keep.of_below hbel).trans hK2, hres.imp (fun h => ⟨h.1, h.2.1, h.2.2.1, h.2.2.2.trans (hbel.block Mb hF'.lM)⟩) id⟩)⟩
        · have h7 : b 7 = true := by simp at ho; subst ho; simp [Region.binds] at hn; exact hn.1
          obtain ⟨q0, q2, q6, got, s2, L2, rfl, _, hF2, hK2, hres⟩ := f8 h7
          unfold Go.wpOpIn
          go_simp
          exact hK _ _ ⟨_, _, _, _, _, _, _, _, _, rfl, (fun _ => rfl), (fun _ => by first | rfl | exact f1 (f2 q2).2), (fun _ => ⟨rfl, (f2 q2).2⟩), (by first | exact f3 | exact fun _ => rfl), (by first | exact f4 | exact fun _ => rfl), f5, (fun _ => ⟨rfl, (f6 q6).2⟩), (fun h => by rw [show b 7 = false from h] at h7; cases h7), (fun _ => ⟨q0, q2, q6, got, s2, L2, rfl, (fun _ => rfl), hF2, hK2, hres⟩)⟩
      case rend =>
        rintro b a wd hall ⟨x25, x26, x27, x28, x29, x30, x31, x32, x10, rfl, f0, f1, f2, f3, f4, f5, f6, f7, f8⟩
        obtain ⟨q0, q2, q6, got, s2, L2, rfl, hx10, hF2, hK2, hres⟩ := f8 (hall 7 (by decide))
        obtain rfl := hx10 (hall 8 (by decide))
        obtain rfl := f0 q0
        obtain rfl := f1 (hall 1 (by decide))
        obtain ⟨rfl, _⟩ := f2 q2
        obtain rfl := f3 (hall 3 (by decide))
        obtain rfl := f4 (hall 4 (by decide))
        obtain ⟨rfl, _⟩ := f6 q6
        obtain ⟨g, rfl, _⟩ := f5 (hall 5 (by decide))
        clear f0 f1 f2 f3 f4 f5 f6 f7 f8 hx10 hall q0 q2 q6
        dsimp only
        have lMW := hF'.lM
        have hblk : ∀ q, q < W.heap.size → q ≠ sb → q ≠ Mb → wd.heap[q]? = W.heap[q]? := fun q h1 h2 h3 => hK2.block q h1 (by rintro (h | h); exact h2 h; exact h3 h)
        have hkf : ∀ W' : World, (∀ q, w.heap.size + 4 ≤ q → q < W.heap.size → W'.heap[q]? = W.heap[q]?) → W.heap.size ≤ W'.heap.size → KeepsFrom W0.heap.size W W' := fun W' h1 h2 => ⟨h2, fun q o hq ho _ => (h1 q (by omega) (Array.getElem?_eq_some_iff.1 ho).1).trans ho⟩
        rcases hres with ⟨rfl, rfl, hdead, hMd⟩ | ⟨hg0, hg1, haug⟩
        · gi_wp2
          refine ⟨hkf wd (fun q h1 h2 => hblk q h2 (by omega) (by omega)) hK2.size, ⟨hK2.size, fun q hq => ?_⟩, s2, hF2, hK'.trans ((hK2.mono (fun _ _ h => h))), hsc'.dead hdead, fun y hy => ?_, hMd.trans hMs, (hblk _ (by omega) (by omega) (by omega)).trans hb0', (hblk _ (by omega) (by omega) (by omega)).trans hb1', Nat.le_trans hsz' hK2.size⟩
          · simp at hq
            rcases hq with rfl | rfl | rfl | rfl
            · exact hblk _ (by omega) (by omega) (by omega)
            · exact hblk _ (by omega) (by omega) (by omega)
            · exact hblk _ hF'.lW (Ne.symm hF'.n3) (Ne.symm hF'.nM.2.2.2)
            · exact hMd
          · rcases List.mem_append.1 hy with hy | hy
            · exact hdead.mono _ (hpre y hy)
            · obtain rfl := List.mem_singleton.1 hy
              simpa using hdead.me
        · have hne : (fr : Int) ≠ t := by
            intro e
            have : fr = t := by omega
            rw [← this, hsc'.me] at hst; cases hst
          have hbn := haug.bnd (by omega) hB
          have e1 := haug.same fr t i (.inl hsc'.me)
          have e2 := hbn.le t fr i
          have e3 := hbn.nn t fr i
          have e4 := hbn.nn fr t i
          have hup : upd L2 fr t i (L2 fr t i - got) t fr i = L2 t fr i := by unfold upd; rw [if_neg (by rintro ⟨h, _⟩; exact hne h.symm)]
          have hBd : wd.heap[Bx]? = some (.cells #[.int .i64 fr, .int .i64 t, .int .i64 i] 112 (0, 0)) := (hblk Bx lBx (by omega) (by omega)).trans hbx
          have cw0 := cell_of_block (j := 0) hF2.hw rfl
          have cB0' := cell_of_block (j := 0) hBd rfl
          have cB1' := cell_of_block (j := 1) hBd rfl
          have cB2' := cell_of_block (j := 2) hBd rfl
          have hp := push_any wd Wb Mb A m c T C fr t i got L2 hF2.hW hF2.hM ⟨fits_small (by omega), fits_small (by omega), fits_small (by omega)⟩ (by omega) (by omega) (by rw [hup]; omega) (by rw [hup]; omega)
          have HP := Lib.hid hp
          clear hp hup
          gi_wp2_with fail
          refine ⟨trivial, ?_⟩
          refine (CallsIn.inRound l (callsIn_wide.2 HP.out)).mono ?_
          rintro e w' ⟨⟨r, rfl⟩, hMp, hKp⟩
          have hblk2 : ∀ q, q < wd.heap.size → q ≠ Mb → w'.heap[q]? = wd.heap[q]? := fun q h1 h2 => hKp.block q h1 h2
          have hszd := hK2.size
          have hszp := hKp.size
          have hres1 : w'.heap[w.heap.size + 1]? = some (.cells #[.int .i64 0] 3 (0, 0)) := ((hblk2 _ (by omega) (by omega)).trans (hblk _ (by omega) (by omega) (by omega))).trans hb1'
          have cr := cell_of_block (j := 0) hres1 rfl
          have frz := free_of_block (j := 0) hres1
          have hFp : FMem ts w' sb wb kb Wb Mb A m c T C s2 (pushL L2 fr t i got) :=
            ⟨(hblk2 _ hF2.ls (Ne.symm hF2.nM.1)).trans hF2.hs, (hblk2 _ hF2.lw (Ne.symm hF2.nM.2.1)).trans hF2.hw, (hblk2 _ hF2.lk (Ne.symm hF2.nM.2.2.1)).trans hF2.hk, (hblk2 _ hF2.lW (Ne.symm hF2.nM.2.2.2)).trans hF2.hW, hMp, hF2.n1, hF2.n2, hF2.n3⟩
          gi_wp2
          have hset : ∀ q, q ≠ w.heap.size + 1 → (w'.setCell ⟨w.heap.size + 1, 0, none⟩ (.int .i64 got)).heap[q]? = w'.heap[q]? := fun q hq => Below.heap_setCell _ _ _ _ hq
          refine ⟨hkf _ (fun q h1 h2 => (hset q (by omega)).trans ((hblk2 q (by omega) (by omega)).trans (hblk q h2 (by omega) (by omega)))) (by simp [World.setCell]; omega), rfl, got, s2, _, hFp.kept (fun q hq => hset q (by omega)), ?_, hg0, by omega, ?_, heap_setCell_self hres1 _, by simp [World.setCell]; omega⟩
          · exact ((hK'.trans (hK2.mono (fun _ _ h => h))).trans (hKp.mono (fun _ _ h => .inr h))).setCell (p := ⟨w.heap.size + 1, 0, none⟩) (.inr (Nat.le_succ _)) _
          · exact Aug.step hfr ht13 hx3 hx4 hsf hsc'.mono hsc'.me hst (by omega) haug
  case done =>
    rintro D xs W hD hS ⟨s', hF', hK', hsc', hpre, hMs, hb0', hb1', hsz'⟩ hKd
    have cr := cell_of_block (j := 0) hb1' rfl
    have frz := free_of_block (j := 0) hb1'
    gi_wp2
    have hlD := (Array.getElem?_eq_some_iff.1 hKd).1
    have hKd' : (W.setCell ⟨w.heap.size + 1, 0, none⟩ (.int .i64 0)).heap[D]? = some (.deferred (some [])) := (Below.heap_setCell _ _ _ _ (show D ≠ w.heap.size + 1 by omega)).trans hKd
    refine ⟨by simp, .inl ⟨_, _, rfl, run_takeDeferred hKd', ?_⟩⟩
    have hr1 : ((W.setCell ⟨w.heap.size + 1, 0, none⟩ (.int .i64 0)).putObj D (.deferred none)).heap[w.heap.size + 1]? = some (.cells #[.int .i64 0] 3 (0, 0)) :=
      (World.putObj_heap_other (by omega)).trans (heap_setCell_self hb1' _)
    have hc1 := cell_of_block (j := 0) hr1 rfl
    have hsame : ∀ q, q ≠ w.heap.size + 1 → q ≠ D → ((W.setCell ⟨w.heap.size + 1, 0, none⟩ (.int .i64 0)).putObj D (.deferred none)).heap[q]? = W.heap[q]? := fun q h1 h2 => (World.putObj_heap_other h2).trans (Below.heap_setCell _ _ _ _ h1)
    have hKf : Keep (fun k => k = sb ∨ k = Mb) w ((W.setCell ⟨w.heap.size + 1, 0, none⟩ (.int .i64 0)).putObj D (.deferred none)) :=
      ⟨hK'.os, hK'.tape, hK'.output, Nat.le_trans hK'.size (by simp [World.setCell]), fun q h1 h2 => (hsame q (by omega) (by omega)).trans (hK'.block q h1 h2)⟩
    refine ⟨.int .i64 0, by simp [results, Try.results118, go_sem, hc1], 0, s', L, rfl, hF'.kept (fun q hq => hsame q (by omega) (by omega)), hKf, .inl ⟨rfl, rfl, hsc'.all (fun x hx => ?_), (hsame Mb (by omega) (by omega)).trans hMs⟩⟩
    rw [← hS, List.mem_map] at hx
    obtain ⟨y, hy, rfl⟩ := hx
    exact hpre y hy
  case stop =>
    rintro D cd pre W hD _ ⟨rfl, got, s', L', hF', hK', hg0, hg1, haug, hb1', hsz'⟩ hKd
    gi_wp2
    refine ⟨by simp, .inl ⟨_, _, rfl, run_takeDeferred hKd, ?_⟩⟩
    have hr1 : (W.putObj D (.deferred none)).heap[w.heap.size + 1]? = some (.cells #[.int .i64 got] 3 (0, 0)) :=
      (World.putObj_heap_other (by omega)).trans hb1'
    have hc1 := cell_of_block (j := 0) hr1 rfl
    have hsame : ∀ q, q ≠ D → (W.putObj D (.deferred none)).heap[q]? = W.heap[q]? := fun q h2 => World.putObj_heap_other h2
    have hKf : Keep (fun k => k = sb ∨ k = Mb) w (W.putObj D (.deferred none)) :=
      ⟨hK'.os, hK'.tape, hK'.output, Nat.le_trans hK'.size (by simp), fun q h1 h2 => (hsame q (by omega)).trans (hK'.block q h1 h2)⟩
    exact ⟨.int .i64 got, by simp [results, Try.results118, go_sem, hc1], got, s', L', rfl, hF'.kept (fun q hq => hsame q (by omega)), hKf, .inr ⟨hg0, hg1, haug⟩⟩

set_option maxRecDepth 100000 in
set_option maxHeartbeats 4000000 in
/-- The search for a way: what it returns, and what it does. -/
theorem flow1_any (ts : TypeId) (sb wb kb Wb Mb : Nat) (A : Option Addr) (m c : Nat) (T C : Int) (hm : m ≤ 1000) (N : Nat) :
    ∀ (fr : Nat) (most : Int) (s : Seen) (L : LL) (w : World), cnt s ≤ N → fr < 13 → 0 < most → most ≤ 1073741824 → s fr = false → Bnd L → FMem ts w sb wb kb Wb Mb A m c T C s L →
      Calls Try.prog 118 #[.int .i64 fr, .int .i64 most, .pointer (some ⟨sb, 0, none⟩), .pointer (some ⟨wb, 0, none⟩), .pointer (some ⟨kb, 0, none⟩)] w (WalkPost ts sb wb kb Wb Mb A m c T C fr most s L w) := by
  induction N with
  | zero => intro fr most s L w h0 hfr _ _ hs; have := cnt_pos hfr hs; omega
  | succ N ih =>
    intro fr most s L w hN hfr hm0 hm1 hs hB hF
    by_cases h12 : fr = 12
    · subst h12
      have h12' : (((12 : Nat) : Int) == 12) = true := rfl
      go_enter Try.func118, Try.ntmps118
      go_wp2_with fail
      have hr1 : ((w.alloc (.cells #[.int .i64 most] 3)).alloc (.cells #[.int .i64 most] 3)).heap[w.heap.size + 1]? = some (.cells #[.int .i64 most] 3 (0, 0)) := by
        have := Boxed.new (w.alloc (.cells #[.int .i64 most] 3)) 3 (.int .i64 most)
        rw [World.size_alloc] at this; exact this
      have hc1 := cell_of_block (j := 0) hr1 rfl
      refine bodyPost_ret (v := .int .i64 most) (by simp [results, Try.results118, go_sem, hc1]) rfl ?_
      exact ⟨most, s, L, rfl, (hF.alloc _).alloc _, ((Keep.refl _ w).alloc _).alloc _, .inr ⟨hm0, Int.le_refl _, Aug.last _ _ _⟩⟩
    · exact callsIn_wide.1 (flow1_step ts sb wb kb Wb Mb A m c T C hm N ih fr most s L w hN hfr h12 hm0 hm1 hs hB hF)
end Go.Proofs.Ytnhbplnhhloklaa
