/- The laws of the map of arcs: a block that holds a function of three numbers, read and written by the machine's map operations. -/
import Derived.Test.YtnhbplnhhloklaaProg
import Derived.WalkKit
import Derived.KernelRfl
import Derived.WideKeyEntry
import Derived.DeepKeys4
namespace Go.Proofs.Ytnhbplnhhloklaa
open Go.RowKit
open Go.ChangeMaps (setBlock)

theorem laidOut : laidOutB Try.prog = true := by kernel_rfl

/-- The key of an arc. -/
def kv (u v i : Int) : Value := .agg #[.int .i64 u, .int .i64 v, .int .i64 i]

theorem kv_inj {u v i u' v' i' : Int} (h : kv u v i = kv u' v' i') : u = u' ∧ v = v' ∧ i = i' := by
  simp [kv] at h; exact h

theorem row112 : Try.prog.types.size = 198 := by kernel_rfl
theorem keyLaw : WideMaps.KeyLaw Try.prog 112 :=
  deep_law_laid laidOut (m := 5) (by decide) (by rw [row112]; decide) (by kernel_rfl) (by kernel_rfl)

/-- numbers that fit -/
def Fits (n : Int) : Prop := -9223372036854775808 ≤ n ∧ n ≤ 9223372036854775807

theorem keyOf_kv {u v i : Int} (hu : Fits u) (hv : Fits v) (hi : Fits i) : ∃ l, keyOf Try.prog 112 (kv u v i) = some l := by
  have h112 := Try.underlying112
  have h3 := Try.underlying3
  have hk : Try.prog.keyType 112 = true := by kernel_rfl
  have hc : Try.prog.cellsOf 112 = 3 := by kernel_rfl
  have hc3 : Try.prog.cellsOf 3 = 1 := by kernel_rfl
  have w : ∀ n, Fits n → (Lit.int .i64 n).wf = true := fun n h => WalkArith.wf_i64 h
  have key : ∀ d, Try.prog.keyLits (d + 2) 112 [.int .i64 u, .int .i64 v, .int .i64 i] = some [.int .i64 u, .int .i64 v, .int .i64 i] := by
    intro d
    have e1 : ∀ n, Fits n → Try.prog.keyLits (d + 1) 3 [.int .i64 n] = some [.int .i64 n] := by
      intro n hn
      unfold Program.keyLits
      rw [h3]
      simp [w n hn]
    unfold Program.keyLits
    rw [h112]
    simp [hc, hc3, e1 u hu, e1 v hv, e1 i hi]
  unfold keyOf
  rw [h112]
  have hf : (kv u v i).formed Try.prog 112 = true := by simp [kv, Value.formed, h112, hc]
  have hsz : ∃ d, Try.prog.types.size + 1 = d + 2 := ⟨Try.prog.types.size - 1, by rw [row112]⟩
  obtain ⟨d, hd⟩ := hsz
  refine ⟨.string (keyBytes [.int .i64 u, .int .i64 v, .int .i64 i]), ?_⟩
  have hcs : (kv u v i).cells.toList = [.int .i64 u, .int .i64 v, .int .i64 i] := rfl
  rw [hd, hcs, key d, hk, hf]
  simp only [Bool.and_self, if_true, Option.map_some]

/-! ### frames -/
/-- Whatever lay, S's blocks aside, lies as it lay. -/
structure Keep (S : Nat → Prop) (w w' : World) : Prop where
  os : w'.os = w.os
  tape : w'.tape = w.tape
  output : w'.output = w.output
  size : w.heap.size ≤ w'.heap.size
  block : ∀ k, k < w.heap.size → ¬ S k → w'.heap[k]? = w.heap[k]?

theorem Keep.refl (S : Nat → Prop) (w : World) : Keep S w w := ⟨rfl, rfl, rfl, Nat.le_refl _, fun _ _ _ => rfl⟩
theorem Keep.trans {S : Nat → Prop} {a b c : World} (h : Keep S a b) (k : Keep S b c) : Keep S a c :=
  ⟨k.os.trans h.os, k.tape.trans h.tape, k.output.trans h.output, Nat.le_trans h.size k.size, fun i hi hS => (k.block i (Nat.lt_of_lt_of_le hi h.size) hS).trans (h.block i hi hS)⟩
theorem Keep.mono {S S' : Nat → Prop} {a b : World} (h : Keep S a b) (hS : ∀ k, k < a.heap.size → S k → S' k) : Keep S' a b :=
  ⟨h.os, h.tape, h.output, h.size, fun i hi hn => h.block i hi (fun hs => hn (hS i hi hs))⟩
theorem Keep.of_below {S : Nat → Prop} {w w' : World} (h : Below w.heap.size w w') : Keep S w w' := ⟨h.os, h.tape, h.output, h.size, fun k hk _ => h.block k hk⟩
theorem Keep.below {S : Nat → Prop} {w w' : World} {B : Nat} (h : Keep S w w') (hB : B ≤ w.heap.size) (hS : ∀ k, S k → B ≤ k) : Below B w w' :=
  ⟨h.os, h.tape, h.output, h.size, fun k hk => h.block k (Nat.lt_of_lt_of_le hk hB) (fun hs => by have := hS k hs; omega)⟩
theorem Keep.alloc {S : Nat → Prop} {a w : World} (h : Keep S a w) (o : Obj) : Keep S a (w.alloc o) :=
  h.trans (Keep.of_below ((Below.refl _ w).alloc (Nat.le_refl _) o))
theorem Keep.drew {S : Nat → Prop} {a w : World} (h : Keep S a w) : Keep S a w.drew := ⟨h.os, h.tape, h.output, h.size, h.block⟩
theorem Keep.setCell {S : Nat → Prop} {a w : World} (h : Keep S a w) {p : Addr} (hp : S p.block ∨ a.heap.size ≤ p.block) (u : Value) : Keep S a (w.setCell p u) :=
  ⟨h.os, h.tape, h.output, Nat.le_trans h.size (by simp [World.setCell]), fun k hk hS => by
    rw [Below.heap_setCell _ _ _ _ (by rintro rfl; rcases hp with hp | hp; exact hS hp; omega)]; exact h.block k hk hS⟩
theorem Keep.setBlock {S : Nat → Prop} {a w : World} (h : Keep S a w) {b : Nat} (hp : S b ∨ a.heap.size ≤ b) (o : Obj) : Keep S a (setBlock w b o) :=
  ⟨h.os, h.tape, h.output, Nat.le_trans h.size (by simp [ChangeMaps.setBlock]), fun k hk hS => by
    have hkb : b ≠ k := by rintro rfl; rcases hp with hp | hp; exact hS hp; omega
    show (w.heap.setIfInBounds b o)[k]? = _
    rw [Array.getElem?_setIfInBounds_ne hkb]; exact h.block k hk hS⟩

/-! ### the map of arcs -/
def Sm (u v i : Int) : Prop := Fits u ∧ Fits v ∧ Fits i

def upd (L : Int → Int → Int → Int) (u v i x : Int) : Int → Int → Int → Int := fun u' v' i' => if u' = u ∧ v' = v ∧ i' = i then x else L u' v' i'

theorem upd_self (L : Int → Int → Int → Int) (u v i x : Int) : upd L u v i x u v i = x := by simp [upd]

structure Entries (L : Int → Int → Int → Int) (es : List MapEntry) (clock : Nat) : Prop where
  key : ∀ e ∈ es, ∃ u v i, Sm u v i ∧ e.key = kv u v i ∧ e.val = .int .i64 (L u v i)
  born : ∀ e ∈ es, e.born < clock
  bnd : (es.map (·.born)).Nodup
  knd : (es.map (·.key)).Nodup
  none : ∀ u v i, (∀ e ∈ es, e.key ≠ kv u v i) → L u v i = 0

/-- Block b is a map that holds L. -/
def MapIs (w : World) (b : Nat) (L : Int → Int → Int → Int) : Prop := ∃ es clock, w.heap[b]? = some (.map es clock) ∧ Entries L es.toList clock

theorem MapIs.lt {w : World} {b : Nat} {L : Int → Int → Int → Int} (h : MapIs w b L) : b < w.heap.size := by
  obtain ⟨es, c, hb, _⟩ := h
  exact (Array.getElem?_eq_some_iff.1 hb).1
theorem MapIs.same {w w' : World} {b : Nat} {L : Int → Int → Int → Int} (h : MapIs w b L) (e : w'.heap[b]? = w.heap[b]?) : MapIs w' b L := by
  obtain ⟨es, c, hb, hE⟩ := h
  exact ⟨es, c, e.trans hb, hE⟩

theorem Entries.nil : Entries (fun _ _ _ => 0) [] 0 := ⟨by simp, by simp, by simp, by simp, by simp⟩

theorem Entries.push {L : Int → Int → Int → Int} {es : List MapEntry} {c : Nat} (h : Entries L es c) {u v i : Int} (hs : Sm u v i) (hn : ∀ e ∈ es, e.key ≠ kv u v i) (x : Int) :
    Entries (upd L u v i x) (es ++ [⟨kv u v i, .int .i64 x, c⟩]) (c + 1) := by
  refine ⟨?_, ?_, ?_, ?_, ?_⟩
  · intro e he
    rcases List.mem_append.1 he with he1 | he
    · obtain ⟨a, b, d, h1, h2, h3⟩ := h.key e he1
      refine ⟨a, b, d, h1, h2, ?_⟩
      have hne : ¬ (a = u ∧ b = v ∧ d = i) := fun h4 => hn e he1 (by rw [h2, h4.1, h4.2.1, h4.2.2])
      rw [h3]; unfold upd
      rw [if_neg hne]
    · obtain rfl := List.mem_singleton.1 he
      exact ⟨u, v, i, hs, rfl, by rw [upd_self]⟩
  · intro e he
    rcases List.mem_append.1 he with he | he
    · have := h.born e he; omega
    · obtain rfl := List.mem_singleton.1 he; simp
  · rw [List.map_append, List.nodup_append]
    refine ⟨h.bnd, by simp, ?_⟩
    intro a ha b hb
    simp at hb; subst hb
    obtain ⟨e, he, rfl⟩ := List.mem_map.1 ha
    have := h.born e he; omega
  · rw [List.map_append, List.nodup_append]
    refine ⟨h.knd, by simp, ?_⟩
    intro a ha b hb
    simp at hb; subst hb
    obtain ⟨e, he, rfl⟩ := List.mem_map.1 ha
    exact hn e he
  · intro u' v' i' hk
    unfold upd
    rw [if_neg, h.none u' v' i' (fun e he => hk e (List.mem_append_left _ he))]
    rintro ⟨rfl, rfl, rfl⟩
    exact hk _ (List.mem_append_right _ (List.mem_singleton.2 rfl)) rfl

theorem Entries.set {L : Int → Int → Int → Int} {es : List MapEntry} {c : Nat} (h : Entries L es c) {u v i : Int} {j : Nat} {e0 : MapEntry} (hj : es[j]? = some e0) (hk : e0.key = kv u v i) (x : Int) :
    Entries (upd L u v i x) (es.set j { e0 with val := .int .i64 x }) c := by
  have hlt := (List.getElem?_eq_some_iff.1 hj).1
  have hmem : ∀ e ∈ es.set j { e0 with val := .int .i64 x }, e = { e0 with val := .int .i64 x } ∨ (e ∈ es ∧ e.key ≠ kv u v i) := by
    intro e he
    obtain ⟨n, hn⟩ := List.mem_iff_getElem?.1 he
    by_cases hnj : n = j
    · subst hnj
      rw [List.getElem?_set_self hlt] at hn
      cases hn; exact .inl rfl
    · rw [List.getElem?_set_ne (Ne.symm hnj)] at hn
      refine .inr ⟨List.mem_of_getElem? hn, fun hek => hnj ?_⟩
      have h1 : (es.map (·.key))[n]? = some (kv u v i) := by rw [List.getElem?_map, hn]; simp [hek]
      have h2 : (es.map (·.key))[j]? = some (kv u v i) := by rw [List.getElem?_map, hj]; simp [hk]
      have hln : n < (es.map (·.key)).length := (List.getElem?_eq_some_iff.1 h1).1
      exact (List.getElem?_inj hln h.knd).1 (h1.trans h2.symm)
  have hmap : ∀ {β : Type} (f : MapEntry → β), f { e0 with val := .int .i64 x } = f e0 → (es.set j { e0 with val := .int .i64 x }).map f = es.map f := by
    intro β f hf
    rw [List.map_set, hf]
    apply List.ext_getElem?
    intro n
    by_cases hnj : n = j
    · subst hnj
      rw [List.getElem?_set_self (by simpa using hlt), List.getElem?_map, hj]; rfl
    · rw [List.getElem?_set_ne (Ne.symm hnj)]
  refine ⟨?_, ?_, ?_, ?_, ?_⟩
  · intro e he
    rcases hmem e he with rfl | ⟨he, hne⟩
    · obtain ⟨a, b, d, h1, h2, _⟩ := h.key e0 (List.mem_of_getElem? hj)
      obtain ⟨rfl, rfl, rfl⟩ := kv_inj (h2.symm.trans hk)
      exact ⟨_, _, _, h1, hk, by rw [upd_self]⟩
    · obtain ⟨a, b, d, h1, h2, h3⟩ := h.key e he
      refine ⟨a, b, d, h1, h2, ?_⟩
      rw [h3]; unfold upd
      rw [if_neg]
      rintro ⟨rfl, rfl, rfl⟩
      exact hne h2
  · intro e he
    rcases hmem e he with rfl | ⟨he, _⟩
    · exact h.born e0 (List.mem_of_getElem? hj)
    · exact h.born e he
  · rw [hmap (·.born) rfl]; exact h.bnd
  · rw [hmap (·.key) rfl]; exact h.knd
  · intro u' v' i' hk'
    have hne : ¬ (u' = u ∧ v' = v ∧ i' = i) := by
      rintro ⟨rfl, rfl, rfl⟩
      exact hk' { e0 with val := .int .i64 x } (List.mem_iff_getElem?.2 ⟨j, List.getElem?_set_self hlt⟩) hk
    unfold upd
    rw [if_neg hne]
    refine h.none u' v' i' fun e he hek => ?_
    obtain ⟨n, hn⟩ := List.mem_iff_getElem?.1 he
    by_cases hnj : n = j
    · subst hnj
      rw [hj] at hn; cases hn
      rw [hk] at hek
      obtain ⟨rfl, rfl, rfl⟩ := kv_inj hek
      exact hne ⟨rfl, rfl, rfl⟩
    · exact hk' e (List.mem_iff_getElem?.2 ⟨n, by rw [List.getElem?_set_ne (Ne.symm hnj)]; exact hn⟩) hek

section
variable {w : World} {b : Nat} {L : Int → Int → Int → Int} {u v i : Int}

/-- 'w.left[a]'. -/
theorem MapIs.look (h : MapIs w b L) (hs : Sm u v i) : (Instr.lookup 151 (.map (some b)) (kv u v i) false).run Try.prog w = .ok (.int .i64 (L u v i)) w := by
  obtain ⟨es, c, hb, hE⟩ := h
  obtain ⟨l, hl⟩ := keyOf_kv hs.1 hs.2.1 hs.2.2
  have h151 := Try.underlying151
  have hkeys : ∀ e ∈ es.toList, ∃ l, keyOf Try.prog 112 e.key = some l := by
    intro e he
    obtain ⟨a, b, d, h1, h2, _⟩ := hE.key e he
    rw [h2]; exact keyOf_kv h1.1 h1.2.1 h1.2.2
  rcases keyLaw.find w hl es.toList hkeys with ⟨h1, h2⟩ | ⟨j, e0, h1, h2, h3⟩
  · have := hE.none u v i h2
    simp [Instr.lookup, run_underlying h151, MapKept.run_getObj_map hb, keyLaw.check w _ hl, h1, Result.andThen, this]
  · have hv : e0.val = .int .i64 (L u v i) := by
      obtain ⟨a, b, d, _, h5, h6⟩ := hE.key e0 (List.mem_of_getElem? h2)
      obtain ⟨rfl, rfl, rfl⟩ := kv_inj (h5.symm.trans h3)
      exact h6
    simp [Instr.lookup, run_underlying h151, MapKept.run_getObj_map hb, keyLaw.check w _ hl, h1, Result.andThen, hv]

/-- 'w.left[a] = x'. -/
theorem MapIs.put (h : MapIs w b L) (hs : Sm u v i) (x : Int) : ∃ w', (Instr.mapUpdate 151 (.map (some b)) (kv u v i) (.int .i64 x)).run Try.prog w = .ok () w' ∧ MapIs w' b (upd L u v i x) ∧ (∃ o, w' = setBlock w b o) := by
  obtain ⟨es, c, hb, hE⟩ := h
  obtain ⟨l, hl⟩ := keyOf_kv hs.1 hs.2.1 hs.2.2
  have h151 := Try.underlying151
  have hlt : b < w.heap.size := (Array.getElem?_eq_some_iff.1 hb).1
  have hkeys : ∀ e ∈ es.toList, ∃ l, keyOf Try.prog 112 e.key = some l := by
    intro e he
    obtain ⟨a, b, d, h1, h2, _⟩ := hE.key e he
    rw [h2]; exact keyOf_kv h1.1 h1.2.1 h1.2.2
  rcases keyLaw.find w hl es.toList hkeys with ⟨h1, h2⟩ | ⟨j, e0, h1, h2, h3⟩
  · refine ⟨setBlock w b (.map (es.push ⟨kv u v i, .int .i64 x, c⟩) (c + 1)), ?_, ⟨_, _, show (w.heap.setIfInBounds b _)[b]? = _ by rw [Array.getElem?_setIfInBounds_self_of_lt hlt], ?_⟩, _, rfl⟩
    · simp [Instr.mapUpdate, run_underlying h151, MapKept.run_getObj_map hb, keyLaw.check w _ hl, h1, MapKept.run_setObj_map _ hb, Result.andThen, setBlock]
    · rw [Array.toList_push]; exact hE.push hs h2 x
  · have hj : es[j]? = some e0 := by simpa using h2
    refine ⟨setBlock w b (.map (es.modify j (fun e' => { e' with key := kv u v i, val := .int .i64 x })) c), ?_, ⟨_, _, show (w.heap.setIfInBounds b _)[b]? = _ by rw [Array.getElem?_setIfInBounds_self_of_lt hlt], ?_⟩, _, rfl⟩
    · simp [Instr.mapUpdate, run_underlying h151, MapKept.run_getObj_map hb, keyLaw.check w _ hl, h1, hj, h3, keyLaw.stays w hl, MapKept.run_setObj_map _ hb, Result.andThen, setBlock]
    · rw [Array.toList_modify, ChangeMaps.modify_eq_set _ _ _ _ h2, ← h3]
      exact hE.set h2 h3 x

theorem upd_same {L : Int → Int → Int → Int} {u v i x : Int} (h : L u v i = x) : upd L u v i x = L := by
  funext a b c
  unfold upd
  split
  · rename_i h1
    obtain ⟨rfl, rfl, rfl⟩ := h1
    exact h.symm
  · rfl

/-- 'w.left[a] -= n' begins: the entry is there; what is stored then goes into it. -/
theorem MapIs.entry (h : MapIs w b L) (hs : Sm u v i) : ∃ w1 st, (Instr.mapEntry 151 (.map (some b)) (kv u v i)).run Try.prog w = .ok (.tuple #[.int .i64 (L u v i), goInt (st : Nat)]) w1 ∧ (∃ o, w1 = setBlock w b o) ∧ MapIs w1 b L ∧
    ∀ (w2 : World) (x : Int), w2.heap[b]? = w1.heap[b]? → ∃ o', (Instr.entryStore 151 (.map (some b)) (goInt (st : Nat)) (.int .i64 x)).run Try.prog w2 = .ok () (setBlock w2 b o') ∧ MapIs (setBlock w2 b o') b (upd L u v i x) := by
  obtain ⟨es, c, hb, hE⟩ := h
  obtain ⟨l, hl⟩ := keyOf_kv hs.1 hs.2.1 hs.2.2
  have h151 := Try.underlying151
  have hlt : b < w.heap.size := (Array.getElem?_eq_some_iff.1 hb).1
  have hkeys : ∀ e ∈ es.toList, ∃ l, keyOf Try.prog 112 e.key = some l := by
    intro e he
    obtain ⟨a, b, d, h1, h2, _⟩ := hE.key e he
    rw [h2]; exact keyOf_kv h1.1 h1.2.1 h1.2.2
  have hset : ∀ o, (setBlock w b o).heap[b]? = some o := fun o => show (w.heap.setIfInBounds b _)[b]? = _ by rw [Array.getElem?_setIfInBounds_self_of_lt hlt]
  have hset2 : ∀ (w2 : World) o, w2.heap[b]? ≠ none → (setBlock w2 b o).heap[b]? = some o := fun w2 o h => by
    have hlt2 : b < w2.heap.size := by
      cases hh : w2.heap[b]? with
      | none => exact absurd hh h
      | some z => exact (Array.getElem?_eq_some_iff.1 hh).1
    exact show (w2.heap.setIfInBounds b _)[b]? = _ by rw [Array.getElem?_setIfInBounds_self_of_lt hlt2]
  rcases keyLaw.find w hl es.toList hkeys with ⟨h1, h2⟩ | ⟨j, e0, h1, h2, h3⟩
  · have h0 := hE.none u v i h2
    have hE0 : Entries L (es.push ⟨kv u v i, .int .i64 0, c⟩).toList (c + 1) := by
      have := hE.push hs h2 0
      rw [upd_same h0] at this
      rw [Array.toList_push]; exact this
    refine ⟨setBlock w b (.map (es.push ⟨kv u v i, .int .i64 0, c⟩) (c + 1)), c, ?_, ⟨_, rfl⟩, ⟨_, _, hset _, hE0⟩, fun w2 x hw2 => ?_⟩
    · simp [Instr.mapEntry, run_underlying h151, MapKept.run_getObj_map hb, keyLaw.check w _ hl, h1, MapKept.run_setObj_map _ hb, Result.andThen, setBlock, h0]
    · rw [hset] at hw2
      have hidx : (es.push ⟨kv u v i, .int .i64 0, c⟩).findIdx? (fun e => ((e.born : Nat) : Int) == ((c : Nat) : Int)) = some es.size := by
        rw [WideElems.findIdx_arr]
        have := WideElems.findIdx_born (l := (es.push ⟨kv u v i, .int .i64 0, c⟩).toList) (j := es.size) (e0 := ⟨kv u v i, .int .i64 0, c⟩) hE0.bnd (by simp)
        exact this
      have hmod : (es.push ⟨kv u v i, .int .i64 0, c⟩).modify es.size (fun e => { e with val := .int .i64 x }) = es.push ⟨kv u v i, .int .i64 x, c⟩ := by
        apply Array.ext'
        rw [Array.toList_modify, Array.toList_push, Array.toList_push, ← Array.length_toList, WideElems.modify_last]
      refine ⟨.map (es.push ⟨kv u v i, .int .i64 x, c⟩) (c + 1), ?_, ⟨_, _, hset2 w2 _ (by rw [hw2]; simp), ?_⟩⟩
      · simp [Instr.entryStore, MapKept.run_getObj_map hw2, asInt, asIntOf, goInt, hidx, hmod, MapKept.run_setObj_map _ hw2, Result.andThen, setBlock]
      · rw [Array.toList_push]; exact hE.push hs h2 x
  · have hj : es[j]? = some e0 := by simpa using h2
    have hv : e0.val = .int .i64 (L u v i) := by
      obtain ⟨a, b, d, _, h5, h6⟩ := hE.key e0 (List.mem_of_getElem? h2)
      obtain ⟨rfl, rfl, rfl⟩ := kv_inj (h5.symm.trans h3)
      exact h6
    have hsame : es.modify j (fun e => { e with key := kv u v i }) = es := by
      apply Array.ext'
      rw [Array.toList_modify, ChangeMaps.modify_eq_set _ _ _ _ h2]
      have : ({ e0 with key := kv u v i } : MapEntry) = e0 := by rw [← h3]
      rw [this]
      exact WideElems.set_self _ _ _ h2
    refine ⟨setBlock w b (.map es c), e0.born, ?_, ⟨_, rfl⟩, ⟨_, _, hset _, hE⟩, fun w2 x hw2 => ?_⟩
    · simp [Instr.mapEntry, run_underlying h151, MapKept.run_getObj_map hb, keyLaw.check w _ hl, h1, hj, h3, keyLaw.stays w hl, hsame, MapKept.run_setObj_map _ hb, Result.andThen, setBlock, hv]
    · rw [hset] at hw2
      have hidx : es.findIdx? (fun e => ((e.born : Nat) : Int) == ((e0.born : Nat) : Int)) = some j := by
        rw [WideElems.findIdx_arr]
        exact WideElems.findIdx_born hE.bnd h2
      refine ⟨.map (es.modify j (fun e => { e with val := .int .i64 x })) c, ?_, ⟨_, _, hset2 w2 _ (by rw [hw2]; simp), ?_⟩⟩
      · simp [Instr.entryStore, MapKept.run_getObj_map hw2, asInt, asIntOf, goInt, hidx, MapKept.run_setObj_map _ hw2, Result.andThen, setBlock]
      · rw [Array.toList_modify, ChangeMaps.modify_eq_set _ _ _ _ h2]
        exact hE.set h2 h3 x
end

/-- 'map[arc]int{}'. -/
theorem MapIs.made (w : World) : MapIs (w.alloc (.map #[] 0)) w.heap.size (fun _ _ _ => 0) := ⟨#[], 0, (MapKept.heap_alloc w _).1, Entries.nil⟩
end Go.Proofs.Ytnhbplnhhloklaa
