/- Contract of the law's word. -/
import Derived.Test.YtnhbplnhhloklaaR1
import Derived.Test.YtnhbplnhhloklaaE9
import Derived.Test.YtnhbplnhhloklaaK5
namespace Go.Proofs.Ytnhbplnhhloklaa
open Go.RowKit

/-- A word of a list, counted round. -/
def wordN (l : List Int) (i : Nat) : Int := if l.length = 0 then 0 else l.getD (i % l.length) 0
theorem word_in {W : World} {A : Option Addr} {l : List Int} (h : HexAt W A l) (i : Nat) : 0 ≤ wordN l i ∧ wordN l i ≤ 65535 := by
  unfold wordN
  split
  · omega
  · rename_i h0
    have hlt : i % l.length < l.length := Nat.mod_lt _ (by omega)
    rw [List.getD_eq_getElem?_getD, List.getElem?_eq_getElem hlt]
    exact h.2 _ (List.getElem_mem hlt)

set_option maxHeartbeats 2000000 in
theorem word_any (w : World) (A : Option Addr) (l : List Int) (c i : Nat) (hA : HexAt w A l) (_hl : l.length ≤ maxLen) (_hi : i ≤ 1000) :
    Calls Try.prog 82 #[.slice A l.length c, .int .i64 i] w fun e w' => w = w' ∧ e = .returned (.int .i64 (wordN l i)) := by
  by_cases h0 : l.length = 0
  · have HN : Hid (wordN l i = 0) := Lib.hid (by unfold wordN; rw [if_pos h0])
    have hd : ((l.length : Int) == 0) = true := by simp [h0]
    go_enter Try.func82, Try.ntmps82
    go_wp2_with fail
    go_ret
    exact ⟨rfl, by rw [HN.out]; rfl⟩
  · have hlt : i % l.length < l.length := Nat.mod_lt _ (by omega)
    obtain ⟨k, hk⟩ : ∃ k, i % l.length = k := ⟨_, rfl⟩
    have hk1 : (i : Int) % (l.length : Int) = k := by rw [← hk]; simp
    have hk2 : (i : Int).tmod (l.length : Int) = k := by rw [Int.tmod_eq_emod_of_nonneg (by omega)]; exact hk1
    rw [hk] at hlt
    obtain ⟨x, hx⟩ : ∃ x, l[k]? = some x := ⟨l[k], by simp [hlt]⟩
    have HN : Hid (wordN l i = x) := Lib.hid (by unfold wordN; rw [if_neg h0, hk, List.getD_eq_getElem?_getD, hx]; rfl)
    obtain ⟨b, o, rfl, hb, hc⟩ := hA.1 k x hx
    have hxr := hA.2 x (List.mem_of_getElem? hx)
    have hd : ((l.length : Int) == 0) = false := by simp [h0]
    have hne : (l.length : Int) ≠ 0 := by omega
    have hki : (0 : Int) ≤ k := by omega
    have hkl : (k : Int) < l.length := by omega
    clear hk hx
    go_enter Try.func82, Try.ntmps82
    go_wp2_with fail
    go_ret
    exact ⟨rfl, by rw [HN.out]; rfl⟩
end Go.Proofs.Ytnhbplnhhloklaa

/- A net built around a truth: its plain law. -/
namespace Go.Proofs.Ytnhbplnhhloklaa
open Go.RowKit

/-- Angles and numbers built side by side, with the sums of all triangles and circles. -/
structure Built (T C : Nat) (l : List Ang) (xs : List Int) (g h : Nat → Int) : Prop where
  len : xs.length = l.length
  tri : ∀ j, tS l xs l.length j = g j
  cir : ∀ j, cS l xs l.length j = h j
  ang : ∀ a ∈ l, -1 ≤ a.t ∧ a.t < T ∧ -1 ≤ a.c ∧ a.c < C
  val : ∀ x ∈ xs, 0 ≤ x ∧ x ≤ 40
theorem Built.nil (T C : Nat) : Built T C [] [] (fun _ => 0) (fun _ => 0) :=
  ⟨rfl, fun _ => rfl, fun _ => rfl, fun a ha => by simp at ha, fun x hx => by simp at hx⟩
section
variable {T C : Nat} {l : List Ang} {xs : List Int} {g h : Nat → Int} {left : Int} {t k : Nat}
theorem Built.to (b : Built T C l xs g h) {g' h' : Nat → Int} (hg : ∀ j, g j = g' j) (hh : ∀ j, h j = h' j) : Built T C l xs g' h' :=
  ⟨b.len, fun j => (b.tri j).trans (hg j), fun j => (b.cir j).trans (hh j), b.ang, b.val⟩
theorem snoc_pre (f : Ang → Int → Int) (l : List Ang) (xs : List Int) (a : Ang) (x : Int) (hl : xs.length = l.length) : sumN (l ++ [a]).length (fun i => match (l ++ [a])[i]? with | some a => f a ((xs ++ [x]).getD i 0) | none => 0) = sumN l.length (fun i => match l[i]? with | some a => f a (xs.getD i 0) | none => 0) + f a x := by
  have hlen : (l ++ [a]).length = l.length + 1 := by simp
  rw [hlen]
  simp only [sumN]
  have h1 : (l ++ [a])[l.length]? = some a := by simp
  have h2 : (xs ++ [x]).getD l.length 0 = x := by rw [List.getD_eq_getElem?_getD, ← hl]; simp
  rw [h1, h2]
  have key : ∀ i, i < l.length → (fun i => match (l ++ [a])[i]? with | some a => f a ((xs ++ [x]).getD i 0) | none => 0) i = (fun i => match l[i]? with | some a => f a (xs.getD i 0) | none => 0) i := fun i hi => by
    have e1 : (l ++ [a])[i]? = l[i]? := List.getElem?_append_left hi
    have e2 : (xs ++ [x]).getD i 0 = xs.getD i 0 := by rw [List.getD_eq_getElem?_getD, List.getD_eq_getElem?_getD, List.getElem?_append_left (by omega)]
    simp only [e1, e2]
  rw [sumN_congr key]
theorem Built.snoc (b : Built T C l xs g h) (a : Ang) (x : Int) (ha : -1 ≤ a.t ∧ a.t < T ∧ -1 ≤ a.c ∧ a.c < C) (hx : 0 ≤ x ∧ x ≤ 40) : Built T C (l ++ [a]) (xs ++ [x]) (fun j => g j + if a.t = j then x else 0) (fun j => h j + if a.c = j then x else 0) := by
  refine ⟨by simp [b.len], fun j => ?_, fun j => ?_, fun y hy => ?_, fun y hy => ?_⟩
  · have := snoc_pre (fun a x => if a.t = j then x else 0) l xs a x b.len
    rw [← b.tri j]
    exact this
  · have := snoc_pre (fun a x => if a.c = j then x else 0) l xs a x b.len
    rw [← b.cir j]
    exact this
  · rcases List.mem_append.1 hy with e | e
    · exact b.ang y e
    · rw [List.mem_singleton.1 e]; exact ha
  · rcases List.mem_append.1 hy with e | e
    · exact b.val y e
    · rw [List.mem_singleton.1 e]; exact hx
/-- The sums so far: whole triangles, and one begun. -/
def gT (t : Nat) (left : Int) : Nat → Int := fun j => if j < t then 36 else if j = t then 36 - left else 0
def hC (k : Nat) (h : Nat → Int) : Nat → Int := fun j => if j < k then 72 else h j
theorem Built.inner (b : Built T C l xs (gT t left) h) {x : Int} (ht : t < T) (hx : 0 ≤ x ∧ x ≤ 40) : Built T C (l ++ [⟨t, -1, 0, 0⟩]) (xs ++ [x]) (gT t (left - x)) h :=
  (b.snoc ⟨t, -1, 0, 0⟩ x (by show (-1 : Int) ≤ t ∧ (t : Int) < T ∧ (-1 : Int) ≤ -1 ∧ (-1 : Int) < C; omega) hx).to (fun j => by
    show gT t left j + (if (t : Int) = j then x else 0) = gT t (left - x) j
    unfold gT
    by_cases e : j = t
    · subst e; simp only [Nat.lt_irrefl, if_false, if_true]; omega
    · rw [if_neg e, if_neg e, if_neg (show ¬ (t : Int) = j by omega), Int.add_zero]) (fun j => by
    show h j + (if (-1 : Int) = j then x else 0) = h j
    rw [if_neg (by omega), Int.add_zero])
theorem Built.innerC (b : Built T C l xs (gT t left) h) {x : Int} {k : Nat} (ht : t < T) (hk : k < C) (hx : 0 ≤ x ∧ x ≤ 40) : Built T C (l ++ [⟨t, k, 0, 0⟩]) (xs ++ [x]) (gT t (left - x)) (setAt h k (h k + x)) :=
  (b.snoc ⟨t, k, 0, 0⟩ x (by show (-1 : Int) ≤ t ∧ (t : Int) < T ∧ (-1 : Int) ≤ k ∧ (k : Int) < C; omega) hx).to (fun j => by
    show gT t left j + (if (t : Int) = j then x else 0) = gT t (left - x) j
    unfold gT
    by_cases e : j = t
    · subst e; simp only [Nat.lt_irrefl, if_false, if_true]; omega
    · rw [if_neg e, if_neg e, if_neg (show ¬ (t : Int) = j by omega), Int.add_zero]) (fun j => by
    show h j + (if (k : Int) = j then x else 0) = setAt h k (h k + x) j
    unfold setAt
    by_cases e : j = k
    · subst e; simp only [if_true]
    · rw [if_neg e, if_neg (show ¬ (k : Int) = j by omega), Int.add_zero])
theorem gT_next (t : Nat) (j : Nat) : gT t 0 j = gT (t + 1) 36 j := by
  unfold gT
  by_cases h1 : j < t
  · rw [if_pos h1, if_pos (by omega)]
  · by_cases h2 : j = t
    · rw [if_neg h1, if_pos h2, if_pos (by omega)]; omega
    · rw [if_neg h1, if_neg h2, if_neg (by omega)]; split <;> omega
theorem Built.close (b : Built T C l xs (gT t left) h) (ht : t < T) (hx : 0 ≤ left ∧ left ≤ 40) : Built T C (l ++ [⟨t, -1, 0, 0⟩]) (xs ++ [left]) (gT (t + 1) 36) h :=
  (b.inner ht hx).to (fun j => by rw [Int.sub_self]; exact gT_next t j) (fun _ => rfl)
theorem Built.turn1 (b : Built T C l xs g h) {x : Int} {k : Nat} (hk : k < C) (hx : 0 ≤ x ∧ x ≤ 40) : Built T C (l ++ [⟨-1, k, 0, 0⟩]) (xs ++ [x]) g (setAt h k (h k + x)) :=
  (b.snoc ⟨-1, k, 0, 0⟩ x (by show (-1 : Int) ≤ -1 ∧ (-1 : Int) < T ∧ (-1 : Int) ≤ k ∧ (k : Int) < C; omega) hx).to (fun j => by
    show g j + (if (-1 : Int) = j then x else 0) = g j
    rw [if_neg (by omega), Int.add_zero]) (fun j => by
    show h j + (if (k : Int) = j then x else 0) = setAt h k (h k + x) j
    unfold setAt
    by_cases e : j = k
    · subst e; simp only [if_true]
    · rw [if_neg e, if_neg (show ¬ (k : Int) = j by omega), Int.add_zero])
theorem Built.closeC (b : Built T C l xs g (hC k h)) (hk : k < C) (hx : 0 ≤ 72 - h k ∧ 72 - h k ≤ 40) : Built T C (l ++ [⟨-1, k, 0, 0⟩]) (xs ++ [72 - h k]) g (hC (k + 1) h) :=
  (b.turn1 hk hx).to (fun _ => rfl) (fun j => by
    unfold hC setAt
    by_cases e : j = k
    · subst e; simp only [Nat.lt_irrefl, if_false, if_true, Nat.lt_succ_self]; omega
    · simp only [if_neg e]
      by_cases e2 : j < k
      · rw [if_pos e2, if_pos (by omega)]
      · rw [if_neg e2, if_neg (by omega)])
theorem Built.closeC2 (b : Built T C l xs g (hC k h)) (hk : k < C) {y z : Int} (hy : 0 ≤ y ∧ y ≤ 40) (hz : 0 ≤ z ∧ z ≤ 40) (he : y + z = 72 - h k) : Built T C ((l ++ [⟨-1, k, 0, 0⟩]) ++ [⟨-1, k, 0, 0⟩]) ((xs ++ [y]) ++ [z]) g (hC (k + 1) h) :=
  ((b.turn1 hk hy).turn1 hk hz).to (fun _ => rfl) (fun j => by
    unfold hC setAt
    by_cases e : j = k
    · subst e; simp only [Nat.lt_irrefl, if_false, if_true, Nat.lt_succ_self]; omega
    · simp only [if_neg e]
      by_cases e2 : j < k
      · rw [if_pos e2, if_pos (by omega)]
      · rw [if_neg e2, if_neg (by omega)])
theorem Built.loose (b : Built T C l xs g h) {x : Int} (hx : 0 ≤ x ∧ x ≤ 40) : Built T C (l ++ [⟨-1, -1, 0, 0⟩]) (xs ++ [x]) g h :=
  (b.snoc ⟨-1, -1, 0, 0⟩ x (by show (-1 : Int) ≤ -1 ∧ (-1 : Int) < T ∧ (-1 : Int) ≤ -1 ∧ (-1 : Int) < C; omega) hx).to (fun j => by
    show g j + (if (-1 : Int) = j then x else 0) = g j
    rw [if_neg (by omega), Int.add_zero]) (fun j => by
    show h j + (if (-1 : Int) = j then x else 0) = h j
    rw [if_neg (by omega), Int.add_zero])
end

/-- The angles read so far, around a truth. -/
def ReadTo (e : Int) (xs : List Int) (k i : Nat) (a a' : Ang) : Prop := a'.t = a.t ∧ a'.c = a.c ∧ (i < k → ReadOk a' ∧ rLo a' e ≤ xs.getD i 0 ∧ xs.getD i 0 ≤ rHi a' e)
def ReadMid (e : Int) (xs : List Int) (k i : Nat) (w : Int) (a a' : Ang) : Prop := a'.t = a.t ∧ a'.c = a.c ∧ (i < k → ReadOk a' ∧ rLo a' e ≤ xs.getD i 0 ∧ xs.getD i 0 ≤ rHi a' e) ∧ (i = k → a'.w = w)
theorem read_around {e w x q : Int} (he : 0 ≤ e ∧ e ≤ 5) (hw : 1 ≤ w ∧ w ≤ 3) (hx : 0 ≤ x ∧ x ≤ 40) (hq : 0 ≤ q ∧ q ≤ 2 * (e * w)) (t c : Int) : ReadOk ⟨t, c, max 0 (min 40 (x + q - e * w)), w⟩ ∧ rLo ⟨t, c, max 0 (min 40 (x + q - e * w)), w⟩ e ≤ x ∧ x ≤ rHi ⟨t, c, max 0 (min 40 (x + q - e * w)), w⟩ e := by
  unfold ReadOk rLo rHi
  show (0 ≤ max 0 (min 40 (x + q - e * w)) ∧ max 0 (min 40 (x + q - e * w)) ≤ 40 ∧ 1 ≤ w ∧ w ≤ 3) ∧ max 0 (max 0 (min 40 (x + q - e * w)) - e * w) ≤ x ∧ x ≤ min 40 (max 0 (min 40 (x + q - e * w)) + e * w)
  have hm : 0 ≤ e * w := Int.mul_nonneg he.1 (by omega)
  generalize e * w = z at *
  omega
/-- What a net built around a truth is. -/
theorem built_done {T C : Nat} {l l' : List Ang} {xs : List Int} {h : Nat → Int} {e : Int} (b : Built T C l xs (gT T 36) (hC C h)) (hT : T ≤ 3) (hCc : C ≤ 2) (ht : Turn l l' (ReadTo e xs l.length)) (hl : 0 < l.length ∧ l.length ≤ 12) (_he : 0 ≤ e ∧ e ≤ 40) :
    Valid l' T C ∧ xs.length = l'.length ∧ TruthL l' T C xs (rmLo l' e [] l'.length) (rmHi l' e [] l'.length) := by
  have hback : ∀ a' ∈ l', ∃ i a, l[i]? = some a ∧ l'[i]? = some a' ∧ ReadTo e xs l.length i a a' := fun a' ha' => by
    obtain ⟨i, hi⟩ := List.getElem?_of_mem ha'
    have hil : i < l.length := by have := (List.getElem?_eq_some_iff.1 hi).1; rw [ht.len] at this; exact this
    obtain ⟨a2, h1, h2⟩ := ht.at' i l[i] (by simp [hil])
    rw [hi] at h1
    cases h1
    exact ⟨i, l[i], by simp, hi, h2⟩
  have hnet : NetOk l' T C := ⟨by omega, by omega, fun a' ha' => by
    obtain ⟨i, a, h1, _, h3⟩ := hback a' ha'
    have := b.ang a (List.mem_of_getElem? h1)
    rw [h3.1, h3.2.1]
    exact this⟩
  have hnet0 : NetOk l T C := ⟨by omega, by omega, b.ang⟩
  have hval : Valid l' T C := ⟨by rw [ht.len]; exact hl, hnet, fun a' ha' => by
    obtain ⟨i, a, h1, _, h3⟩ := hback a' ha'
    exact (h3.2.2 (List.getElem?_eq_some_iff.1 h1).1).1⟩
  have hsh : Shape l l' := ⟨ht.len, fun i => by
    unfold fI
    by_cases hi : i < l.length
    · obtain ⟨a', h1, h2⟩ := ht.at' i l[i] (by simp [hi])
      rw [h1, show l[i]? = some l[i] by simp [hi]]
      simp only [frN, h2.1]
    · rw [List.getElem?_eq_none (l := l) (by omega), List.getElem?_eq_none (l := l') (by rw [ht.len]; omega)], fun i => by
    unfold tI
    by_cases hi : i < l.length
    · obtain ⟨a', h1, h2⟩ := ht.at' i l[i] (by simp [hi])
      rw [h1, show l[i]? = some l[i] by simp [hi]]
      simp only [toN, h2.2.1]
    · rw [List.getElem?_eq_none (l := l) (by omega), List.getElem?_eq_none (l := l') (by rw [ht.len]; omega)]⟩
  have hh : ∀ j, hS l' xs l'.length j = hS l xs l.length j := fun j => by
    unfold hS
    rw [ht.len]
    exact sumN_congr fun i _ => by rw [hsh.f, hsh.t]
  refine ⟨hval, b.len.trans ht.len.symm, fun i hi => ?_, fun t ht' => ?_, fun k hk => ?_⟩
  · have hil : i < l.length := by rw [← ht.len]; exact hi
    obtain ⟨a', h1, h2⟩ := ht.at' i l[i] (by simp [hil])
    have h3 := (h2.2.2 hil).2
    simp only [rmLo, rmHi, hi, if_true, h1, List.not_mem_nil, if_false]
    exact h3
  · rw [hh, tS_hS hnet0 xs t (by omega), b.tri]
    unfold gT
    rw [if_pos ht']
  · rw [hh, cS_hS hnet0 xs k (by omega), b.cir]
    unfold hC
    rw [if_pos hk]
end Go.Proofs.Ytnhbplnhhloklaa

/- The memory of Closed: a net and a truth that grow side by side. -/
namespace Go.Proofs.Ytnhbplnhhloklaa
open Go.RowKit

theorem own_apart {w : World} {b1 b2 e1 e2 s1 s2 n m : Nat} {v u : Value} {xs ys : List Value} (h : w.ownsRow b1 e1 s1 v n xs) (k : w.ownsRow b2 e2 s2 u m ys) (hne : e1 ≠ e2) : (v.ownBlock = none ∨ v.ownBlock ≠ u.ownBlock) := by
  rcases h.2 with ⟨rfl, _⟩ | ⟨g, cap, cur, rfl, _, hg, _⟩
  · exact .inl rfl
  · refine .inr ?_
    rcases k.2 with ⟨rfl, _⟩ | ⟨g2, cap2, cur2, rfl, _, hg2, _⟩
    · simp [Value.ownBlock]
    · simp only [Value.ownBlock, ne_eq, Option.some.injEq]
      rintro rfl
      rw [hg] at hg2
      cases hg2
      exact hne rfl

/-- The memory of Closed. -/
structure ClMem (w wr : World) (T C : Int) (v : Value) (l : List Ang) (u : Value) (xs : List Int) (h : Nat → Int) : Prop where
  below : Below w.heap.size w wr
  res : wr.heap[w.heap.size]? = some (.cells #[.slice none 0 0, .int .i64 0, .int .i64 0] 24 (0, 0))
  net : wr.heap[w.heap.size + 1]? = some (.cells #[v, .int .i64 T, .int .i64 C] 24 (0, 0))
  cir : wr.heap[w.heap.size + 1 + 1]? = some (.cells #[.int .i64 (h 0), .int .i64 (h 1), .int .i64 (h 2)] 125 (0, 0))
  own : wr.ownsRow (w.heap.size + 1 + 1 + 1) 74 4 v l.length (angL l)
  owx : wr.ownsRow (w.heap.size + 1 + 1 + 1) 3 1 u xs.length (xs.map (.int .i64))
section
variable {w wr w' : World} {T C : Int} {v u : Value} {l : List Ang} {xs : List Int} {h : Nat → Int}
theorem ClMem.lt (m : ClMem w wr T C v l u xs h) : w.heap.size + 1 + 1 + 1 ≤ wr.heap.size := (Array.getElem?_eq_some_iff.1 m.cir).1
theorem ClMem.step (m : ClMem w wr T C v l u xs h) (hb : Below wr.heap.size wr w') : ClMem w w' T C v l u xs h := by
  have hl := m.lt
  exact ⟨m.below.trans (hb.mono (by omega)), (hb.block _ (by omega)).trans m.res, (hb.block _ (by omega)).trans m.net, (hb.block _ (by omega)).trans m.cir, ownsRow_below m.own hb (Nat.le_refl _), ownsRow_below m.owx hb (Nat.le_refl _)⟩
theorem ClMem.cell (m : ClMem w wr T C v l u xs h) {k : Nat} (hk : k < 3) : wr.cell? ⟨w.heap.size + 1 + 1, k, none⟩ = some (.int .i64 (h k)) := by
  have : k = 0 ∨ k = 1 ∨ k = 2 := by omega
  rcases this with rfl | rfl | rfl
  · exact cell_of_block (j := 0) m.cir rfl
  · exact cell_of_block (j := 1) m.cir rfl
  · exact cell_of_block (j := 2) m.cir rfl
theorem ClMem.free (m : ClMem w wr T C v l u xs h) (k : Nat) : wr.frozen? ⟨w.heap.size + 1 + 1, k, none⟩ = false := free_of_block m.cir
theorem ClMem.put (m : ClMem w wr T C v l u xs h) {k : Nat} (hk : k < 3) (x : Int) : ClMem w (wr.setCell ⟨w.heap.size + 1 + 1, k, none⟩ (.int .i64 x)) T C v l u xs (setAt h k x) := by
  have e : ∀ b, b ≠ w.heap.size + 1 + 1 → (wr.setCell ⟨w.heap.size + 1 + 1, k, none⟩ (.int .i64 x)).heap[b]? = wr.heap[b]? := fun b hb => Below.heap_setCell _ _ _ _ hb
  refine ⟨m.below.setCell (by show w.heap.size ≤ w.heap.size + 1 + 1; omega) _, (e _ (by omega)).trans m.res, (e _ (by omega)).trans m.net, ?_, own_setCell m.own (by show w.heap.size + 1 + 1 < w.heap.size + 1 + 1 + 1; omega) _, own_setCell m.owx (by show w.heap.size + 1 + 1 < w.heap.size + 1 + 1 + 1; omega) _⟩
  rw [heap_setCell_self m.cir]
  have : k = 0 ∨ k = 1 ∨ k = 2 := by omega
  rcases this with rfl | rfl | rfl <;> rfl
/-- An angle is appended, a number is appended, and the net's row is stored. -/
theorem ClMem.push (m : ClMem w wr T C v l u xs h) {o1 o2 : Obj} {w1 w2 : World} {v' u' : Value} {a : Ang} {x : Int}
    (hw1 : w1.ownsRow (w.heap.size + 1 + 1 + 1) 74 4 v' (l.length + 1) (angL l ++ [.int .i64 a.t, .int .i64 a.c, .int .i64 a.r, .int .i64 a.w])) (hb1 : Below (w.heap.size + 1 + 1 + 1) (wr.alloc o1) w1)
    (hg2 : (w1.alloc o2).grownBy w2 u.ownBlock) (hu : (w1.alloc o2).ownsRow (w.heap.size + 1 + 1 + 1) 3 1 u xs.length (xs.map (.int .i64)))
    (hw2 : w2.ownsRow (w.heap.size + 1 + 1 + 1) 3 1 u' (xs.length + 1) (xs.map (.int .i64) ++ [.int .i64 x])) (hb2 : Below (w.heap.size + 1 + 1 + 1) (w1.alloc o2) w2) :
    ClMem w (w2.setCell ⟨w.heap.size + 1, 0, none⟩ v') T C v' (l ++ [a]) u' (xs ++ [x]) h := by
  have hl := m.lt
  have ba : Below (w.heap.size + 1 + 1 + 1) wr (wr.alloc o1) := (Below.refl _ wr).alloc hl _
  have hs1 : w.heap.size + 1 + 1 + 1 ≤ w1.heap.size := Nat.le_trans (Nat.le_trans hl ba.size) hb1.size
  have bb : Below (w.heap.size + 1 + 1 + 1) w1 (w1.alloc o2) := (Below.refl _ w1).alloc hs1 _
  have bt := (ba.trans hb1).trans (bb.trans hb2)
  have e : ∀ b, b ≠ w.heap.size + 1 → (w2.setCell ⟨w.heap.size + 1, 0, none⟩ v').heap[b]? = w2.heap[b]? := fun b hb => Below.heap_setCell _ _ _ _ hb
  have hv2 : w2.ownsRow (w.heap.size + 1 + 1 + 1) 74 4 v' (l.length + 1) (angL l ++ [.int .i64 a.t, .int .i64 a.c, .int .i64 a.r, .int .i64 a.w]) := (hw1.alloc o2).kept hg2 (own_apart (hw1.alloc o2) hu (by decide))
  refine ⟨(m.below.trans (bt.mono (by omega))).setCell (by show w.heap.size ≤ w.heap.size + 1; omega) _, (e _ (by omega)).trans ((bt.block _ (by omega)).trans m.res), ?_, (e _ (by omega)).trans ((bt.block _ (by omega)).trans m.cir), ?_, ?_⟩
  · rw [heap_setCell_self ((bt.block _ (by omega)).trans m.net)]; rfl
  · rw [angL_snoc, List.length_append]
    exact own_setCell hv2 (by show w.heap.size + 1 < w.heap.size + 1 + 1 + 1; omega) _
  · rw [List.map_append, List.length_append]
    exact own_setCell hw2 (by show w.heap.size + 1 < w.heap.size + 1 + 1 + 1; omega) _
/-- The net's row in the net's box behind both appends. -/
theorem ClMem.far (m : ClMem w wr T C v l u xs h) {o1 o2 : Obj} {w1 w2 : World} (hb1 : Below (w.heap.size + 1 + 1 + 1) (wr.alloc o1) w1) (hb2 : Below (w.heap.size + 1 + 1 + 1) (w1.alloc o2) w2) : Below (w.heap.size + 1 + 1 + 1) wr w2 :=
  have hl := m.lt
  have ba : Below (w.heap.size + 1 + 1 + 1) wr (wr.alloc o1) := (Below.refl _ wr).alloc hl _
  (ba.trans hb1).trans (((Below.refl _ w1).alloc (Nat.le_trans (Nat.le_trans hl ba.size) hb1.size) _).trans hb2)
theorem ClMem.netCell (m : ClMem w wr T C v l u xs h) {o1 o2 : Obj} {w1 w2 : World} (hb1 : Below (w.heap.size + 1 + 1 + 1) (wr.alloc o1) w1) (hb2 : Below (w.heap.size + 1 + 1 + 1) (w1.alloc o2) w2) : w2.cell? ⟨w.heap.size + 1, 0, none⟩ = some v :=
  cell_of_block (j := 0) (((m.far hb1 hb2).block _ (by omega)).trans m.net) rfl
theorem ClMem.netFree (m : ClMem w wr T C v l u xs h) {o1 o2 : Obj} {w1 w2 : World} (hb1 : Below (w.heap.size + 1 + 1 + 1) (wr.alloc o1) w1) (hb2 : Below (w.heap.size + 1 + 1 + 1) (w1.alloc o2) w2) : w2.frozen? ⟨w.heap.size + 1, 0, none⟩ = false :=
  free_of_block (j := 0) (((m.far hb1 hb2).block _ (by omega)).trans m.net)
/-- The row of numbers behind the first append. -/
theorem ClMem.mid (m : ClMem w wr T C v l u xs h) {o1 : Obj} {w1 : World} (hg : (wr.alloc o1).grownBy w1 v.ownBlock) : w1.ownsRow (w.heap.size + 1 + 1 + 1) 3 1 u xs.length (xs.map (.int .i64)) :=
  (m.owx.alloc o1).kept hg (own_apart (m.owx.alloc o1) (m.own.alloc o1) (by decide))
end

/-- The memory of Closed while its angles are read. -/
structure CRMem (w wr : World) (T C : Int) (g cap : Nat) (l : List Ang) (D : Option Addr) (xs : List Int) : Prop where
  below : Below w.heap.size w wr
  res : wr.heap[w.heap.size]? = some (.cells #[.slice none 0 0, .int .i64 0, .int .i64 0] 24 (0, 0))
  net : wr.heap[w.heap.size + 1]? = some (.cells #[.slice (some ⟨g, 0, none⟩) l.length cap, .int .i64 T, .int .i64 C] 24 (0, 0))
  gt : w.heap.size + 1 < g
  row : AngAt wr (some ⟨g, 0, none⟩) l
  blk : ∃ cur, wr.heap[g]? = some (.cells cur 74 (0, 0))
  ints : IntsAt wr D xs
  far : ∀ b o, D = some ⟨b, o, none⟩ → b ≠ g ∧ w.heap.size + 1 < b
section
variable {w wr w' : World} {T C : Int} {g cap : Nat} {l : List Ang} {D : Option Addr} {xs : List Int}
theorem ClMem.cr {u : Value} {h : Nat → Int} (m : ClMem w wr T C (.slice (some ⟨g, 0, none⟩) l.length cap) l u xs h) : ∃ D d, u = .slice D xs.length d ∧ CRMem w wr T C g cap l D xs := by
  obtain ⟨cur, hg, hgb⟩ := own_block m.own
  obtain ⟨_, B, d, he, hrow, _⟩ := own_ang m.own
  cases he
  obtain ⟨_, D, dd, rfl, hI, hDb⟩ := own_intsI m.owx
  refine ⟨D, dd, rfl, m.below, m.res, m.net, by omega, hrow, ⟨cur, hg⟩, hI, fun b o e => ⟨?_, by have := hDb b o e; omega⟩⟩
  subst e
  have := own_apart m.owx m.own (by decide)
  simpa [Value.ownBlock] using this
theorem CRMem.step (m : CRMem w wr T C g cap l D xs) (hb : Below wr.heap.size wr w') : CRMem w w' T C g cap l D xs := by
  obtain ⟨cur, hc⟩ := m.blk
  exact ⟨m.below.trans (hb.mono m.below.size), (hb.block _ (Array.getElem?_eq_some_iff.1 m.res).1).trans m.res, (hb.block _ (Array.getElem?_eq_some_iff.1 m.net).1).trans m.net, m.gt, m.row.below hb, ⟨cur, (hb.block _ (Array.getElem?_eq_some_iff.1 hc).1).trans hc⟩, m.ints.below hb, m.far⟩
theorem CRMem.put (m : CRMem w wr T C g cap l D xs) {i j : Nat} {a : Ang} (x : Int) (hi : l[i]? = some a) (hj : j < 4) : CRMem w (wr.setCell ⟨g, i * 4 + j, none⟩ (.int .i64 x)) T C g cap (l.set i (a.put j x)) D xs := by
  obtain ⟨cur, hc⟩ := m.blk
  have hg := m.gt
  have e : ∀ b, b ≠ g → (wr.setCell ⟨g, i * 4 + j, none⟩ (.int .i64 x)).heap[b]? = wr.heap[b]? := fun b hb => Below.heap_setCell _ _ _ _ hb
  have hr := m.row.put (x := x) hi hj
  rw [Nat.zero_add] at hr
  have hk : Keep (fun q => q = g) wr (wr.setCell ⟨g, i * 4 + j, none⟩ (.int .i64 x)) := (Keep.refl (fun q => q = g) wr).setCell (p := ⟨g, i * 4 + j, none⟩) (.inl rfl) _
  refine ⟨m.below.setCell (by show w.heap.size ≤ g; omega) _, (e _ (by omega)).trans m.res, ?_, hg, hr, ⟨_, heap_setCell_self hc _⟩, m.ints.keep hk (fun b o hD => (m.far b o hD).1), m.far⟩
  rw [List.length_set]
  exact (e _ (by omega)).trans m.net
theorem CRMem.ang (m : CRMem w wr T C g cap l D xs) {i : Nat} {a : Ang} (hi : l[i]? = some a) : wr.cell? ⟨g, i * 4, none⟩ = some (.int .i64 a.t) ∧ wr.cell? ⟨g, i * 4 + 1, none⟩ = some (.int .i64 a.c) ∧ wr.cell? ⟨g, i * 4 + 2, none⟩ = some (.int .i64 a.r) ∧ wr.cell? ⟨g, i * 4 + 3, none⟩ = some (.int .i64 a.w) := by
  obtain ⟨b, o, e, _, h0, h1, h2, h3⟩ := m.row i a hi
  cases e
  rw [Nat.zero_add] at h0 h1 h2 h3
  exact ⟨h0, h1, h2, h3⟩
theorem CRMem.free (m : CRMem w wr T C g cap l D xs) (k : Nat) : wr.frozen? ⟨g, k, none⟩ = false := by
  obtain ⟨cur, hc⟩ := m.blk
  exact free_of_block hc
theorem CRMem.cells (m : CRMem w wr T C g cap l D xs) : wr.cell? ⟨w.heap.size + 1, 0, none⟩ = some (.slice (some ⟨g, 0, none⟩) l.length cap) ∧ wr.cell? ⟨w.heap.size + 1, 1, none⟩ = some (.int .i64 T) ∧ wr.cell? ⟨w.heap.size + 1, 2, none⟩ = some (.int .i64 C) ∧ wr.cell? ⟨w.heap.size, 0, none⟩ = some (.slice none 0 0) ∧ wr.cell? ⟨w.heap.size, 1, none⟩ = some (.int .i64 0) ∧ wr.cell? ⟨w.heap.size, 2, none⟩ = some (.int .i64 0) ∧ wr.frozen? ⟨w.heap.size, 0, none⟩ = false ∧ wr.frozen? ⟨w.heap.size, 1, none⟩ = false ∧ wr.frozen? ⟨w.heap.size, 2, none⟩ = false :=
  ⟨cell_of_block (j := 0) m.net rfl, cell_of_block (j := 1) m.net rfl, cell_of_block (j := 2) m.net rfl, cell_of_block (j := 0) m.res rfl, cell_of_block (j := 1) m.res rfl, cell_of_block (j := 2) m.res rfl, free_of_block m.res, free_of_block m.res, free_of_block m.res⟩
end
end Go.Proofs.Ytnhbplnhhloklaa

/- Contract of Closed: a net around a truth. -/
namespace Go.Proofs.Ytnhbplnhhloklaa
open Go.RowKit

theorem HexAt.below {W W' : World} {A : Option Addr} {l : List Int} (h : HexAt W A l) (hb : Below W.heap.size W W') : HexAt W' A l := by
  refine ⟨fun i x hi => ?_, h.2⟩
  obtain ⟨b, o, hA, hl, h1⟩ := h.1 i x hi
  exact ⟨b, o, hA, Nat.lt_of_lt_of_le hl hb.size, (hb.cell (p := ⟨b, _, none⟩) hl).trans h1⟩
theorem word_at (w : World) (A : Option Addr) (l : List Int) (c : Nat) (j : Int) (hA : HexAt w A l) (hl : l.length ≤ maxLen) (hj : 0 ≤ j ∧ j ≤ 1000) :
    Calls Try.prog 82 #[.slice A l.length c, .int .i64 j] w fun e w' => w = w' ∧ e = .returned (.int .i64 (wordN l j.toNat)) := by
  have h := word_any w A l c j.toNat hA hl (by omega)
  rwa [Int.toNat_of_nonneg hj.1] at h

/-- What Closed returns. -/
def ClOut (w : World) (e : Int) (r : Ending) (w' : World) : Prop := Below w.heap.size w w' ∧ ∃ B l d, ∃ T C : Nat, ∃ D xs d2, r = .returned (.tuple #[.agg #[.slice B (l : List Ang).length d, .int .i64 T, .int .i64 C], .slice D (xs : List Int).length d2]) ∧ AngAt w' B l ∧ IntsAt w' D xs ∧ xs.length = l.length ∧ 0 < l.length ∧ l.length ≤ 14 ∧ (∀ b o, B = some ⟨b, o, none⟩ → w.heap.size ≤ b ∧ b < w'.heap.size) ∧ (l.length ≤ 12 → Valid l T C ∧ TruthL l T C xs (rmLo l e [] l.length) (rmHi l e [] l.length))

set_option maxHeartbeats 16000000 in
set_option maxRecDepth 100000 in
theorem closed_any (w : World) (A : Option Addr) (ws : List Int) (c : Nat) (e : Int) (hA : HexAt w A ws) (hl : ws.length ≤ maxLen) (he : 0 ≤ e ∧ e ≤ 5) : Calls Try.prog 43 #[.slice A ws.length c, .int .i64 e] w (ClOut w e) := by
  have hal : Below w.heap.size w ((w.alloc (.cells #[.slice none 0 0, .int .i64 0, .int .i64 0] 24)).alloc (.cells #[.slice none 0 0, .int .i64 0, .int .i64 0] 24)) := ((Below.refl _ w).alloc (Nat.le_refl _) _).alloc (by simp) _
  go_enter Try.func43, Try.ntmps43
  go_wp2_with fail
  refine (word_at _ A ws c _ (hA.below hal) hl (by omega)).mono ?_
  rintro e0 W0 ⟨rfl, rfl⟩
  have hw0 := word_in hA (0 : Int).toNat
  generalize wordN ws (0 : Int).toNat = w0 at *
  obtain ⟨T, hT1⟩ : ∃ T : Nat, w0 % 4 = T := ⟨(w0 % 4).toNat, by omega⟩
  have hT2 : w0.tmod 4 = T := by rw [Int.tmod_eq_emod_of_nonneg hw0.1]; exact hT1
  have hT3 : T ≤ 3 := by omega
  clear hw0
  have hal2 : Below w.heap.size w ((w.alloc (.cells #[.slice none 0 0, .int .i64 0, .int .i64 0] 24)).alloc (.cells #[.slice none 0 0, .int .i64 T, .int .i64 0] 24)) := ((Below.refl _ w).alloc (Nat.le_refl _) _).alloc (by simp) _
  go_wp2_with fail
  refine (word_at _ A ws c _ (hA.below hal2) hl (by omega)).mono ?_
  rintro e0 W0 ⟨rfl, rfl⟩
  have hw0 := word_in hA (1 : Int).toNat
  generalize wordN ws (1 : Int).toNat = w1 at *
  obtain ⟨C, hC1⟩ : ∃ C : Nat, w1 % 3 = C := ⟨(w1 % 3).toNat, by omega⟩
  have hC2 : w1.tmod 3 = C := by rw [Int.tmod_eq_emod_of_nonneg hw0.1]; exact hC1
  have hC3 : C ≤ 2 := by omega
  clear hw0 hal hal2 hT1 hT2
  have hM0 : ClMem w (((w.alloc (.cells #[.slice none 0 0, .int .i64 0, .int .i64 0] 24)).alloc (.cells #[.slice none 0 0, .int .i64 T, .int .i64 C] 24)).alloc (.cells #[.int .i64 0, .int .i64 0, .int .i64 0] 125)) T C (.slice none 0 0) [] (.slice none 0 0) [] (fun _ => 0) :=
    ⟨(((Below.refl _ w).alloc (Nat.le_refl _) _).alloc (by simp) _).alloc (by simp; omega) _, past_alloc (past_alloc (at_alloc rfl)), past_alloc (at_alloc (by simp)), at_alloc (by simp), World.ownsRow_nil _ _ _ _, World.ownsRow_nil _ _ _ _⟩
  go_wp2_with fail
  clear hC1 hC2
  generalize (((w.alloc (.cells #[.slice none 0 0, .int .i64 0, .int .i64 0] 24)).alloc (.cells #[.slice none 0 0, .int .i64 T, .int .i64 C] 24)).alloc (.cells #[.int .i64 0, .int .i64 0, .int .i64 0] 125)) = W0 at *
  generalize w0 = w00 at *
  go_loopw [7, 9] (fun u t wr => ∃ (k : Nat) (l : List Ang) (xs : List Int) (h : Nat → Int) (v : Value), k ≤ T ∧ t = .int .i64 k ∧ ClMem w wr T C v l u xs h ∧ Hid (Built T C l xs (gT k 36) h) ∧ Hid (∀ j, 0 ≤ h j ∧ h j ≤ 60) ∧ Hid (l.length = 3 * k)) (fun _ t _ => T - (intOf t).toNat)
  case atStart => exact ⟨0, [], [], fun _ => 0, .slice none 0 0, Nat.zero_le _, rfl, hM0, Lib.hid ((Built.nil T C).to (fun j => by unfold gT; split <;> first | omega | (split <;> omega)) (fun _ => rfl)), Lib.hid (fun _ => by show (0 : Int) ≤ 0 ∧ (0 : Int) ≤ 60; omega), Lib.hid rfl⟩
  case round =>
    clear hM0
    obtain ⟨k, l, xs, h, v, hk, rfl, hM, hB, hH, hLn⟩ := hrel
    have n1 := cell_of_block (j := 1) (v := .int .i64 T) hM.net rfl
    by_cases hlt : k < T
    · go_wp2_with fail
      go_loopw [7, 10, 11] (fun u lf t wr => ∃ (m : Nat) (y : Int) (l : List Ang) (xs : List Int) (h : Nat → Int) (v : Value), m ≤ 2 ∧ t = .int .i64 m ∧ lf = .int .i64 y ∧ (36 - 17 * (m : Int) ≤ y ∧ y ≤ 36 - 4 * (m : Int)) ∧ ClMem w wr T C v l u xs h ∧ Hid (Built T C l xs (gT k y) h) ∧ Hid (∀ j, 0 ≤ h j ∧ h j ≤ 60) ∧ Hid (l.length = 3 * k + m)) (fun _ _ t _ => 2 - (intOf t).toNat)
      case atStart => exact ⟨0, 36, l, xs, h, v, by omega, rfl, rfl, by omega, hM, hB, hH, Lib.hid (by rw [hLn.out]; rfl)⟩
      case round =>
        clear hM hB hH hLn n1
        obtain ⟨m, y, l, xs, h, v, hm, rfl, rfl, hy, hM, hB, hH, hLn⟩ := hrel
        have n0 := cell_of_block (j := 0) (v := v) hM.net rfl
        have n2 := cell_of_block (j := 2) (v := .int .i64 C) hM.net rfl
        obtain ⟨gb, gc, rfl⟩ := own_slice hM.own
        have HLX := Lib.hid hB.out.len
        have hkn : l.length < 100000 := by have := hLn.out; omega
        have hxn : xs.length < 100000 := by have := HLX.out; omega
        by_cases hm2 : m < 2
        · go_wp2_with fail
          refine (word_at _ A ws c _ (hA.below hM.below) hl (by omega)).mono ?_
          rintro e0 W1 ⟨rfl, rfl⟩
          have hwx := word_in hA (2 * (k : Int) + m + 2).toNat
          generalize wordN ws (2 * (k : Int) + m + 2).toNat = wx at *
          obtain ⟨r, hr1⟩ : ∃ r, wx % 14 = r := ⟨_, rfl⟩
          have hr2 : wx.tmod 14 = r := by rw [Int.tmod_eq_emod_of_nonneg hwx.1]; exact hr1
          have hr3 : 0 ≤ r ∧ r ≤ 13 := by omega
          have hM1 := hM.step ((Below.refl _ wr).alloc (Nat.le_refl _) (.cells #[.int .i64 k, .int .i64 (-1), .int .i64 0, .int .i64 0] 74))
          have n2' := cell_of_block (j := 2) (v := .int .i64 C) hM1.net rfl
          have n0' := cell_of_block (j := 0) (v := .slice gb l.length gc) hM1.net rfl
          have HX := Lib.hid hM1
          have HNO : Hid (Built T C (l ++ [⟨k, -1, 0, 0⟩]) (xs ++ [4 + r]) (gT k (y - (4 + r))) h) := Lib.hid (hB.out.inner hlt (by omega))
          by_cases hc : 0 < C
          · have dc : decide ((0 : Int) < C) = true := decide_eq_true (by omega)
            obtain ⟨z, hz1⟩ : ∃ z : Nat, wx / 32 % (C : Int) = z := ⟨(wx / 32 % (C : Int)).toNat, by have := Int.emod_nonneg (wx / 32) (b := (C : Int)) (by omega); omega⟩
            have hzC : z < C := by have := Int.emod_lt_of_pos (wx / 32) (b := (C : Int)) (by omega); omega
            have hz2 : (wx / 32).tmod (C : Int) = z := by rw [Int.tmod_eq_emod_of_nonneg (by omega)]; exact hz1
            have hCne : (C : Int) ≠ 0 := by omega
            have hz3 : (0 : Int) ≤ z := by omega
            have hz4 : (z : Int) < 3 := by omega
            have hcz := hM1.cell (k := z) (by omega)
            have hfz := hM1.free z
            have hhz := hH.out z
            by_cases hq : wx / 16 % 2 = 0
            · by_cases hs : h z + (4 + r) ≤ 60
              · have ds : decide (h z + (4 + r) ≤ 60) = true := decide_eq_true hs
                have hM2 := hM.step ((Below.refl _ wr).alloc (Nat.le_refl _) (.cells #[.int .i64 k, .int .i64 z, .int .i64 0, .int .i64 0] 74))
                have hcz2 := hM2.cell (k := z) (by omega)
                have hfz2 := hM2.free z
                have hM4 := hM2.put (k := z) (by omega) (h z + (4 + r))
                have m0 := cell_of_block (j := 0) (v := .slice gb l.length gc) hM4.net rfl
                have hab : ((wr.alloc (.cells #[.int .i64 k, .int .i64 z, .int .i64 0, .int .i64 0] 74)).setCell ⟨w.heap.size + 1 + 1, z, none⟩ (.int .i64 (h z + (4 + r)))).heap[wr.heap.size]? = some (.cells #[.int .i64 k, .int .i64 z, .int .i64 0, .int .i64 0] 74 (0, 0)) := (Below.heap_setCell _ _ _ _ (by have := hM.lt; show wr.heap.size ≠ w.heap.size + 1 + 1; omega)).trans (at_alloc rfl)
                have b0 := cell_of_block (j := 0) (v := .int .i64 k) hab rfl
                have b1 := cell_of_block (j := 1) (v := .int .i64 z) hab rfl
                have b2 := cell_of_block (j := 2) (v := .int .i64 0) hab rfl
                have b3 := cell_of_block (j := 3) (v := .int .i64 0) hab rfl
                have HX2 := Lib.hid hM4
                have HYES : Hid (Built T C (l ++ [⟨k, z, 0, 0⟩]) (xs ++ [4 + r]) (gT k (y - (4 + r))) (setAt h z (h z + (4 + r)))) := Lib.hid (hB.out.innerC hlt hzC (by omega))
                have HH2 : Hid (∀ j, 0 ≤ setAt h z (h z + (4 + r)) j ∧ setAt h z (h z + (4 + r)) j ≤ 60) := Lib.hid (fun j => by unfold setAt; split <;> first | exact hH.out j | omega)
                clear hM4 hM2 hab
                go_wp2_with (first | (at_builtin; refine wpList_push elem22 _ (by rfl) (.tmp 89) (.tmp 91) (by rfl) (w.heap.size + 1 + 1 + 1) (.slice gb l.length gc) (l).length (angL (l)) (by rfl) (HX2.out.own.alloc _) _ 1 [.int .i64 k, .int .i64 z, .int .i64 0, .int .i64 0] (by rfl) (at_alloc (by first | rfl | simp)) rfl (by simp [Value.oneCell']) hkn (Nat.le_trans HX2.out.lt (by simp)) ?_; intro v2 w2 how2 hbe2 hgr2; obtain ⟨g2, cap2, rfl, _, _, _⟩ := own_form how2; have HU2 := Lib.hid (HX2.out.mid hgr2); have HV2 := Lib.hid how2; have HB2 := Lib.hid hbe2; clear how2 hbe2 hgr2) | (at_builtin; refine wpList_push elem25 _ (by rfl) (.tmp 93) (.tmp 95) (by rfl) (w.heap.size + 1 + 1 + 1) u7 (xs).length ((xs).map (.int .i64)) (by rfl) (HU2.out.alloc _) _ 1 [.int .i64 (4 + r)] (by rfl) (at_alloc (by first | rfl | simp)) rfl (by simp [Value.oneCell']) hxn (Nat.le_trans (Nat.le_trans (Nat.le_trans HX2.out.lt ((Below.refl (w.heap.size + 1 + 1 + 1) _).alloc HX2.out.lt _).size) HB2.out.size) (by simp)) ?_; intro u2 y2 hox2 hbx2 hgx2; have HM3 := Lib.hid (HX2.out.push (a := ⟨k, z, 0, 0⟩) HV2.out HB2.out hgx2 (HU2.out.alloc _) hox2 hbx2); have cq := ClMem.netCell HX2.out HB2.out hbx2; have fq := ClMem.netFree HX2.out HB2.out hbx2; clear hox2 hbx2 hgx2 HV2 HB2 HU2))
                go_wp2_with fail
                go_roundw
                case rel => exact ⟨m + 1, y - (4 + r), l ++ [⟨k, z, 0, 0⟩], xs ++ [4 + r], setAt h z (h z + (4 + r)), _, by omega, by go_num, rfl, by omega, HM3.out, HYES, HH2, Lib.hid (by rw [List.length_append, hLn.out]; simp; omega)⟩
                case measure => simp [intOf]; omega
              · have ds : decide (h z + (4 + r) ≤ 60) = false := decide_eq_false hs
                go_wp2_with (first | (at_builtin; refine wpList_push elem22 _ (by rfl) (.tmp 89) (.tmp 91) (by rfl) (w.heap.size + 1 + 1 + 1) (.slice gb l.length gc) (l).length (angL (l)) (by rfl) (HX.out.own.alloc _) _ 1 [.int .i64 k, .int .i64 (-1), .int .i64 0, .int .i64 0] (by rfl) (at_alloc (by first | rfl | simp)) rfl (by simp [Value.oneCell']) hkn (Nat.le_trans HX.out.lt (by simp)) ?_; intro v1 w1 how1 hbe1 hgr1; obtain ⟨g1, cap1, rfl, _, _, _⟩ := own_form how1; have HU1 := Lib.hid (HX.out.mid hgr1); have HV1 := Lib.hid how1; have HB1 := Lib.hid hbe1; clear how1 hbe1 hgr1) | (at_builtin; refine wpList_push elem25 _ (by rfl) (.tmp 93) (.tmp 95) (by rfl) (w.heap.size + 1 + 1 + 1) u7 (xs).length ((xs).map (.int .i64)) (by rfl) (HU1.out.alloc _) _ 1 [.int .i64 (4 + r)] (by rfl) (at_alloc (by first | rfl | simp)) rfl (by simp [Value.oneCell']) hxn (Nat.le_trans (Nat.le_trans (Nat.le_trans HX.out.lt ((Below.refl (w.heap.size + 1 + 1 + 1) _).alloc HX.out.lt _).size) HB1.out.size) (by simp)) ?_; intro u1 y1 hox1 hbx1 hgx1; have HM3 := Lib.hid (HX.out.push (a := ⟨k, -1, 0, 0⟩) HV1.out HB1.out hgx1 (HU1.out.alloc _) hox1 hbx1); have cq := ClMem.netCell HX.out HB1.out hbx1; have fq := ClMem.netFree HX.out HB1.out hbx1; clear hox1 hbx1 hgx1 HV1 HB1 HU1))
                go_wp2_with fail
                go_roundw
                case rel => exact ⟨m + 1, y - (4 + r), l ++ [⟨k, -1, 0, 0⟩], xs ++ [4 + r], h, _, by omega, by go_num, rfl, by omega, HM3.out, HNO, hH, Lib.hid (by rw [List.length_append, hLn.out]; simp; omega)⟩
                case measure => simp [intOf]; omega
            · go_wp2_with (first | (at_builtin; refine wpList_push elem22 _ (by rfl) (.tmp 89) (.tmp 91) (by rfl) (w.heap.size + 1 + 1 + 1) (.slice gb l.length gc) (l).length (angL (l)) (by rfl) (HX.out.own.alloc _) _ 1 [.int .i64 k, .int .i64 (-1), .int .i64 0, .int .i64 0] (by rfl) (at_alloc (by first | rfl | simp)) rfl (by simp [Value.oneCell']) hkn (Nat.le_trans HX.out.lt (by simp)) ?_; intro v1 w1 how1 hbe1 hgr1; obtain ⟨g1, cap1, rfl, _, _, _⟩ := own_form how1; have HU1 := Lib.hid (HX.out.mid hgr1); have HV1 := Lib.hid how1; have HB1 := Lib.hid hbe1; clear how1 hbe1 hgr1) | (at_builtin; refine wpList_push elem25 _ (by rfl) (.tmp 93) (.tmp 95) (by rfl) (w.heap.size + 1 + 1 + 1) u7 (xs).length ((xs).map (.int .i64)) (by rfl) (HU1.out.alloc _) _ 1 [.int .i64 (4 + r)] (by rfl) (at_alloc (by first | rfl | simp)) rfl (by simp [Value.oneCell']) hxn (Nat.le_trans (Nat.le_trans (Nat.le_trans HX.out.lt ((Below.refl (w.heap.size + 1 + 1 + 1) _).alloc HX.out.lt _).size) HB1.out.size) (by simp)) ?_; intro u1 y1 hox1 hbx1 hgx1; have HM3 := Lib.hid (HX.out.push (a := ⟨k, -1, 0, 0⟩) HV1.out HB1.out hgx1 (HU1.out.alloc _) hox1 hbx1); have cq := ClMem.netCell HX.out HB1.out hbx1; have fq := ClMem.netFree HX.out HB1.out hbx1; clear hox1 hbx1 hgx1 HV1 HB1 HU1))
              go_wp2_with fail
              go_roundw
              case rel => exact ⟨m + 1, y - (4 + r), l ++ [⟨k, -1, 0, 0⟩], xs ++ [4 + r], h, _, by omega, by go_num, rfl, by omega, HM3.out, HNO, hH, Lib.hid (by rw [List.length_append, hLn.out]; simp; omega)⟩
              case measure => simp [intOf]; omega
          · have dc : decide ((0 : Int) < C) = false := decide_eq_false (by omega)
            go_wp2_with (first | (at_builtin; refine wpList_push elem22 _ (by rfl) (.tmp 89) (.tmp 91) (by rfl) (w.heap.size + 1 + 1 + 1) (.slice gb l.length gc) (l).length (angL (l)) (by rfl) (HX.out.own.alloc _) _ 1 [.int .i64 k, .int .i64 (-1), .int .i64 0, .int .i64 0] (by rfl) (at_alloc (by first | rfl | simp)) rfl (by simp [Value.oneCell']) hkn (Nat.le_trans HX.out.lt (by simp)) ?_; intro v1 w1 how1 hbe1 hgr1; obtain ⟨g1, cap1, rfl, _, _, _⟩ := own_form how1; have HU1 := Lib.hid (HX.out.mid hgr1); have HV1 := Lib.hid how1; have HB1 := Lib.hid hbe1; clear how1 hbe1 hgr1) | (at_builtin; refine wpList_push elem25 _ (by rfl) (.tmp 93) (.tmp 95) (by rfl) (w.heap.size + 1 + 1 + 1) u7 (xs).length ((xs).map (.int .i64)) (by rfl) (HU1.out.alloc _) _ 1 [.int .i64 (4 + r)] (by rfl) (at_alloc (by first | rfl | simp)) rfl (by simp [Value.oneCell']) hxn (Nat.le_trans (Nat.le_trans (Nat.le_trans HX.out.lt ((Below.refl (w.heap.size + 1 + 1 + 1) _).alloc HX.out.lt _).size) HB1.out.size) (by simp)) ?_; intro u1 y1 hox1 hbx1 hgx1; have HM3 := Lib.hid (HX.out.push (a := ⟨k, -1, 0, 0⟩) HV1.out HB1.out hgx1 (HU1.out.alloc _) hox1 hbx1); have cq := ClMem.netCell HX.out HB1.out hbx1; have fq := ClMem.netFree HX.out HB1.out hbx1; clear hox1 hbx1 hgx1 HV1 HB1 HU1))
            go_wp2_with fail
            go_roundw
            case rel => exact ⟨m + 1, y - (4 + r), l ++ [⟨k, -1, 0, 0⟩], xs ++ [4 + r], h, _, by omega, by go_num, rfl, by omega, HM3.out, HNO, hH, Lib.hid (by rw [List.length_append, hLn.out]; simp; omega)⟩
            case measure => simp [intOf]; omega
        · obtain rfl : m = 2 := by omega
          have HX := Lib.hid hM
          have HNO : Hid (Built T C (l ++ [⟨k, -1, 0, 0⟩]) (xs ++ [y]) (gT (k + 1) 36) h) := Lib.hid (hB.out.close hlt (by omega))
          go_wp2_with (first | (at_builtin; refine wpList_push elem22 _ (by rfl) (.tmp 99) (.tmp 102) (by rfl) (w.heap.size + 1 + 1 + 1) (.slice gb l.length gc) (l).length (angL (l)) (by rfl) (HX.out.own.alloc _) _ 1 [.int .i64 k, .int .i64 (-1), .int .i64 0, .int .i64 0] (by rfl) (at_alloc (by first | rfl | simp)) rfl (by simp [Value.oneCell']) hkn (Nat.le_trans HX.out.lt (by simp)) ?_; intro v5 w5 how5 hbe5 hgr5; obtain ⟨g5, cap5, rfl, _, _, _⟩ := own_form how5; have HU5 := Lib.hid (HX.out.mid hgr5); have HV5 := Lib.hid how5; have HB5 := Lib.hid hbe5; clear how5 hbe5 hgr5) | (at_builtin; refine wpList_push elem25 _ (by rfl) (.tmp 104) (.tmp 106) (by rfl) (w.heap.size + 1 + 1 + 1) u7 (xs).length ((xs).map (.int .i64)) (by rfl) (HU5.out.alloc _) _ 1 [.int .i64 (y)] (by rfl) (at_alloc (by first | rfl | simp)) rfl (by simp [Value.oneCell']) hxn (Nat.le_trans (Nat.le_trans (Nat.le_trans HX.out.lt ((Below.refl (w.heap.size + 1 + 1 + 1) _).alloc HX.out.lt _).size) HB5.out.size) (by simp)) ?_; intro u5 y5 hox5 hbx5 hgx5; have HM3 := Lib.hid (HX.out.push (a := ⟨k, -1, 0, 0⟩) HV5.out HB5.out hgx5 (HU5.out.alloc _) hox5 hbx5); have cq := ClMem.netCell HX.out HB5.out hbx5; have fq := ClMem.netFree HX.out HB5.out hbx5; clear hox5 hbx5 hgx5 HV5 HB5 HU5))
          go_wp2_with fail
          go_roundw
          case rel => exact ⟨k + 1, l ++ [⟨k, -1, 0, 0⟩], xs ++ [y], h, _, by omega, by go_num, HM3.out, HNO, hH, Lib.hid (by rw [List.length_append, hLn.out]; simp; omega)⟩
          case measure => simp [intOf]; omega
    · obtain rfl : k = T := by omega
      go_wp2_with fail
      have HX0 := Lib.hid hM
      have HB0 := hB
      have HH0 := hH
      have HL0 := hLn
      clear hM hB hH hLn n1
      go_loopw [7, 15] (fun u t wr => ∃ (q : Nat) (l : List Ang) (xs : List Int) (v : Value), q ≤ C ∧ t = .int .i64 q ∧ ClMem w wr k C v l u xs h ∧ Hid (Built k C l xs (gT k 36) (hC q h)) ∧ Hid (3 * k + q ≤ l.length ∧ l.length ≤ 3 * k + 2 * q)) (fun _ t _ => C - (intOf t).toNat)
      case atStart => exact ⟨0, l, xs, v, Nat.zero_le _, rfl, HX0.out, Lib.hid (HB0.out.to (fun _ => rfl) (fun j => by unfold hC; rw [if_neg (Nat.not_lt_zero j)])), Lib.hid (by have := HL0.out; omega)⟩
      case round =>
        clear HX0 HB0 HL0
        obtain ⟨q, l, xs, v, hq, rfl, hM, hB, hLn⟩ := hrel
        have n0 := cell_of_block (j := 0) (v := v) hM.net rfl
        have n2 := cell_of_block (j := 2) (v := .int .i64 C) hM.net rfl
        obtain ⟨gb, gc, rfl⟩ := own_slice hM.own
        have HLX := Lib.hid hB.out.len
        have hkn : l.length < 100000 := by have := hLn.out; omega
        have hxn : xs.length < 100000 := by have := HLX.out; omega
        by_cases hqC : q < C
        · have hhq := HH0.out q
          have hcq := hM.cell (k := q) (by omega)
          have hq0 : (0 : Int) ≤ q := by omega
          have hq3 : (q : Int) < 3 := by omega
          have HX := Lib.hid hM
          by_cases hx : 40 < 72 - h q
          · have dx : decide ((40 : Int) < 72 - h q) = true := decide_eq_true hx
            obtain ⟨p, hp1⟩ : ∃ p, (72 - h q) / 2 = p := ⟨_, rfl⟩
            have hp2 : (72 - h q).tdiv 2 = p := by rw [Int.tdiv_eq_ediv_of_nonneg (by omega)]; exact hp1
            have hp3 : 20 ≤ p ∧ p ≤ 36 ∧ 72 - h q - p ≤ 37 ∧ 20 ≤ 72 - h q - p := by omega
            have HNO : Hid (Built k C ((l ++ [⟨-1, q, 0, 0⟩]) ++ [⟨-1, q, 0, 0⟩]) ((xs ++ [72 - h q - p]) ++ [p]) (gT k 36) (hC (q + 1) h)) := Lib.hid (hB.out.closeC2 hqC (by omega) (by omega) (by omega))
            have hxn2 : (xs ++ [72 - h q - p]).length < 100000 := by rw [List.length_append]; simp; have := HLX.out; have := hLn.out; omega
            have hkn2 : (l ++ [(⟨-1, q, 0, 0⟩ : Ang)]).length < 100000 := by rw [List.length_append]; have := hLn.out; simp; omega
            go_wp2_with (first | (at_builtin; refine wpList_push elem22 _ (by rfl) (.tmp 122) (.tmp 125) (by rfl) (w.heap.size + 1 + 1 + 1) (.slice gb l.length gc) (l).length (angL (l)) (by rfl) (HX.out.own.alloc _) _ 1 [.int .i64 (-1), .int .i64 q, .int .i64 0, .int .i64 0] (by rfl) (at_alloc (by first | rfl | simp)) rfl (by simp [Value.oneCell']) hkn (Nat.le_trans HX.out.lt (by simp)) ?_; intro v6 w6 how6 hbe6 hgr6; obtain ⟨g6, cap6, rfl, _, _, _⟩ := own_form how6; have HU6 := Lib.hid (HX.out.mid hgr6); have HV6 := Lib.hid how6; have HB6 := Lib.hid hbe6; clear how6 hbe6 hgr6) | (at_builtin; refine wpList_push elem25 _ (by rfl) (.tmp 127) (.tmp 132) (by rfl) (w.heap.size + 1 + 1 + 1) u7 (xs).length ((xs).map (.int .i64)) (by rfl) (HU6.out.alloc _) _ 1 [.int .i64 (72 - h q - p)] (by rfl) (at_alloc (by first | rfl | simp)) rfl (by simp [Value.oneCell']) hxn (Nat.le_trans (Nat.le_trans (Nat.le_trans HX.out.lt ((Below.refl (w.heap.size + 1 + 1 + 1) _).alloc HX.out.lt _).size) HB6.out.size) (by simp)) ?_; intro u6 y6 hox6 hbx6 hgx6; have HM3 := Lib.hid (HX.out.push (a := ⟨-1, q, 0, 0⟩) HV6.out HB6.out hgx6 (HU6.out.alloc _) hox6 hbx6); have cq := ClMem.netCell HX.out HB6.out hbx6; have fq := ClMem.netFree HX.out HB6.out hbx6; clear hox6 hbx6 hgx6 HV6 HB6 HU6) | (at_builtin; refine wpList_push elem22 _ (by rfl) (.tmp 138) (.tmp 141) (by rfl) (w.heap.size + 1 + 1 + 1) (.slice (some ⟨g6, 0, none⟩) (l.length + 1) cap6) (l ++ [(⟨-1, q, 0, 0⟩ : Ang)]).length (angL (l ++ [(⟨-1, q, 0, 0⟩ : Ang)])) (by rfl) (HM3.out.own.alloc _) _ 1 [.int .i64 (-1), .int .i64 q, .int .i64 0, .int .i64 0] (by rfl) (at_alloc (by first | rfl | simp)) rfl (by simp [Value.oneCell']) hkn2 (Nat.le_trans HM3.out.lt (by simp)) ?_; intro v8 w8 how8 hbe8 hgr8; obtain ⟨g8, cap8, rfl, _, _, _⟩ := own_form how8; have HU8 := Lib.hid (HM3.out.mid hgr8); have HV8 := Lib.hid how8; have HB8 := Lib.hid hbe8; clear how8 hbe8 hgr8) | (at_builtin; refine wpList_push elem25 _ (by rfl) (.tmp 143) (.tmp 145) (by rfl) (w.heap.size + 1 + 1 + 1) u6 (xs ++ [72 - h q - p]).length ((xs ++ [72 - h q - p]).map (.int .i64)) (by rfl) (HU8.out.alloc _) _ 1 [.int .i64 (p)] (by rfl) (at_alloc (by first | rfl | simp)) rfl (by simp [Value.oneCell']) hxn2 (Nat.le_trans (Nat.le_trans (Nat.le_trans HM3.out.lt ((Below.refl (w.heap.size + 1 + 1 + 1) _).alloc HM3.out.lt _).size) HB8.out.size) (by simp)) ?_; intro u8 y8 hox8 hbx8 hgx8; have HM4 := Lib.hid (HM3.out.push (a := ⟨-1, q, 0, 0⟩) HV8.out HB8.out hgx8 (HU8.out.alloc _) hox8 hbx8); have cq := ClMem.netCell HM3.out HB8.out hbx8; have fq := ClMem.netFree HM3.out HB8.out hbx8; clear hox8 hbx8 hgx8 HV8 HB8 HU8))
            go_wp2_with fail
            go_roundw
            case rel => exact ⟨q + 1, (l ++ [⟨-1, q, 0, 0⟩]) ++ [⟨-1, q, 0, 0⟩], (xs ++ [72 - h q - p]) ++ [p], _, by omega, by go_num, (by have e9 := HM4.out; rw [List.length_append] at e9; exact e9), HNO, Lib.hid (by rw [List.length_append, List.length_append]; have := hLn.out; simp; omega)⟩
            case measure => simp [intOf]; omega
          · have dx : decide ((40 : Int) < 72 - h q) = false := decide_eq_false hx
            have HNO : Hid (Built k C (l ++ [⟨-1, q, 0, 0⟩]) (xs ++ [72 - h q]) (gT k 36) (hC (q + 1) h)) := Lib.hid (hB.out.closeC hqC (by omega))
            go_wp2_with (first | (at_builtin; refine wpList_push elem22 _ (by rfl) (.tmp 138) (.tmp 141) (by rfl) (w.heap.size + 1 + 1 + 1) (.slice gb l.length gc) (l).length (angL (l)) (by rfl) (HX.out.own.alloc _) _ 1 [.int .i64 (-1), .int .i64 q, .int .i64 0, .int .i64 0] (by rfl) (at_alloc (by first | rfl | simp)) rfl (by simp [Value.oneCell']) hkn (Nat.le_trans HX.out.lt (by simp)) ?_; intro v7 w7 how7 hbe7 hgr7; obtain ⟨g7, cap7, rfl, _, _, _⟩ := own_form how7; have HU7 := Lib.hid (HX.out.mid hgr7); have HV7 := Lib.hid how7; have HB7 := Lib.hid hbe7; clear how7 hbe7 hgr7) | (at_builtin; refine wpList_push elem25 _ (by rfl) (.tmp 143) (.tmp 145) (by rfl) (w.heap.size + 1 + 1 + 1) u7 (xs).length ((xs).map (.int .i64)) (by rfl) (HU7.out.alloc _) _ 1 [.int .i64 (72 - h q)] (by rfl) (at_alloc (by first | rfl | simp)) rfl (by simp [Value.oneCell']) hxn (Nat.le_trans (Nat.le_trans (Nat.le_trans HX.out.lt ((Below.refl (w.heap.size + 1 + 1 + 1) _).alloc HX.out.lt _).size) HB7.out.size) (by simp)) ?_; intro u7 y7 hox7 hbx7 hgx7; have HM3 := Lib.hid (HX.out.push (a := ⟨-1, q, 0, 0⟩) HV7.out HB7.out hgx7 (HU7.out.alloc _) hox7 hbx7); have cq := ClMem.netCell HX.out HB7.out hbx7; have fq := ClMem.netFree HX.out HB7.out hbx7; clear hox7 hbx7 hgx7 HV7 HB7 HU7))
            go_wp2_with fail
            go_roundw
            case rel => exact ⟨q + 1, l ++ [⟨-1, q, 0, 0⟩], xs ++ [72 - h q], _, by omega, by go_num, HM3.out, HNO, Lib.hid (by rw [List.length_append]; have := hLn.out; simp; omega)⟩
            case measure => simp [intOf]; omega
        · obtain rfl : q = C := by omega
          have HX := Lib.hid hM
          have hx14 : l.length ≤ 13 := by have := hLn.out; omega
          by_cases h0 : l.length = 0
          case' pos =>
            have d0 : ((l.length : Int) == 0) = true := by simp [h0]
            replace h0 := Lib.hid h0
            obtain ⟨r, hr0⟩ : ∃ r, wordN ws 10 % 41 = r := ⟨_, rfl⟩
            have hwt := word_in hA 10
            have hr9 : (wordN ws 10).tmod 41 = r := by rw [Int.tmod_eq_emod_of_nonneg hwt.1]; exact hr0
            have hr1 : 0 ≤ r ∧ r ≤ 40 := by omega
            have HB9 : Hid (Built k q (l ++ [⟨-1, -1, 0, 0⟩]) (xs ++ [r]) (gT k 36) (hC q h)) := Lib.hid (hB.out.loose hr1)
            have HL9 : Hid (0 < (l ++ [(⟨-1, -1, 0, 0⟩ : Ang)]).length ∧ (l ++ [(⟨-1, -1, 0, 0⟩ : Ang)]).length ≤ 14) := Lib.hid (by rw [List.length_append]; have := hLn.out; simp; omega)
            have HE9 : Hid ((l ++ [(⟨-1, -1, 0, 0⟩ : Ang)]).length = l.length + 1) := Lib.hid (by simp)
            go_wp2_with (first | (at_builtin; refine wpList_push elem22 _ (by rfl) (.tmp 165) (.tmp 167) (by rfl) (w.heap.size + 1 + 1 + 1) (.slice gb l.length gc) (l).length (angL (l)) (by rfl) (HX.out.own.alloc _) _ 1 [.int .i64 (-1), .int .i64 (-1), .int .i64 0, .int .i64 0] (by rfl) (at_alloc (by first | rfl | simp)) rfl (by simp [Value.oneCell']) hkn (Nat.le_trans HX.out.lt (by simp)) ?_; intro v9 w9 how9 hbe9 hgr9; obtain ⟨g9, cap9, rfl, _, _, _⟩ := own_form how9; have HU9 := Lib.hid (HX.out.mid hgr9); have HV9 := Lib.hid how9; have HB9 := Lib.hid hbe9; clear how9 hbe9 hgr9) | (at_builtin; refine wpList_push elem25 _ (by rfl) (.tmp 169) (.tmp 173) (by rfl) (w.heap.size + 1 + 1 + 1) u7 (xs).length ((xs).map (.int .i64)) (by rfl) (HU9.out.alloc _) _ 1 [.int .i64 (r)] (by rfl) (at_alloc (by first | rfl | simp)) rfl (by simp [Value.oneCell']) hxn (Nat.le_trans (Nat.le_trans (Nat.le_trans HX.out.lt ((Below.refl (w.heap.size + 1 + 1 + 1) _).alloc HX.out.lt _).size) HB9.out.size) (by simp)) ?_; intro u9 y9 hox9 hbx9 hgx9; have HM9 := Lib.hid (HX.out.push (a := ⟨-1, -1, 0, 0⟩) HV9.out HB9.out hgx9 (HU9.out.alloc _) hox9 hbx9); have cq := ClMem.netCell HX.out HB9.out hbx9; have fq := ClMem.netFree HX.out HB9.out hbx9; clear hox9 hbx9 hgx9 HV9 HB9 HU9) | (go_at_call 82; refine (word_at _ A ws c _ (hA.below (HX.out.below.trans ((((Below.refl (w.heap.size + 1 + 1 + 1) _).alloc HX.out.lt _).trans HB9.out).mono (by omega)))) hl (by omega)).mono ?_; rintro e0 W1 ⟨rfl, rfl⟩))
            obtain ⟨D, dd, rfl, hR⟩ := ClMem.cr (g := g9) (cap := cap9) (l := l ++ [(⟨-1, -1, 0, 0⟩ : Ang)]) (by rw [HE9.out]; exact HM9.out)
            clear HM9 HE9 cq fq hM HX n0 n2 hB hLn HLX hr0 hwt hr9 hr1
            generalize (y9.setCell ⟨w.heap.size + 1, 0, none⟩ (.slice (some ⟨g9, 0, none⟩) (l.length + 1) cap9)) = W9 at *
            generalize l ++ [(⟨-1, -1, 0, 0⟩ : Ang)] = L at *
            generalize xs ++ [r] = XS at *
          case' neg =>
            have d0 : ((l.length : Int) == 0) = false := by simp [h0]
            by_cases h12 : l.length < 12
            case' neg =>
              have d12 : decide ((l.length : Int) < 12) = false := decide_eq_false (by omega)
              go_wp2_with fail
              obtain ⟨g9, cap9, hv9, _, _⟩ := own_pos hM.own (by omega)
              have HB9 := hB
              have HL9 : Hid (0 < l.length ∧ l.length ≤ 14) := Lib.hid (by omega)
              cases hv9
              generalize gc = cap9 at *
              obtain ⟨D, dd, rfl, hR⟩ := ClMem.cr hM
              clear hM HX n0 n2 hB hLn HLX
              generalize l = L at *
              generalize xs = XS at *
              generalize wr = W9 at *
            case' pos =>
              have d12 : decide ((l.length : Int) < 12) = true := decide_eq_true (by omega)
              go_wp2_with fail
              refine (word_at _ A ws c _ (hA.below hM.below) hl (by omega)).mono ?_
              rintro e0 W1 ⟨rfl, rfl⟩
              have hw9 := word_in hA (9 : Int).toNat
              generalize wordN ws (9 : Int).toNat = w9' at *
              by_cases h4 : w9' % 4 = 0
              case' pos =>
                have d4 : (w9'.tmod 4 == 0) = true := by rw [Int.tmod_eq_emod_of_nonneg hw9.1, h4]; rfl
                obtain ⟨r, hr0⟩ : ∃ r, wordN ws 10 % 41 = r := ⟨_, rfl⟩
                have hwt := word_in hA 10
                have hr9 : (wordN ws 10).tmod 41 = r := by rw [Int.tmod_eq_emod_of_nonneg hwt.1]; exact hr0
                have hr1 : 0 ≤ r ∧ r ≤ 40 := by omega
                have HB9 : Hid (Built k q (l ++ [⟨-1, -1, 0, 0⟩]) (xs ++ [r]) (gT k 36) (hC q h)) := Lib.hid (hB.out.loose hr1)
                have HL9 : Hid (0 < (l ++ [(⟨-1, -1, 0, 0⟩ : Ang)]).length ∧ (l ++ [(⟨-1, -1, 0, 0⟩ : Ang)]).length ≤ 14) := Lib.hid (by rw [List.length_append]; have := hLn.out; simp; omega)
                have HE9 : Hid ((l ++ [(⟨-1, -1, 0, 0⟩ : Ang)]).length = l.length + 1) := Lib.hid (by simp)
                go_wp2_with (first | (at_builtin; refine wpList_push elem22 _ (by rfl) (.tmp 165) (.tmp 167) (by rfl) (w.heap.size + 1 + 1 + 1) (.slice gb l.length gc) (l).length (angL (l)) (by rfl) (HX.out.own.alloc _) _ 1 [.int .i64 (-1), .int .i64 (-1), .int .i64 0, .int .i64 0] (by rfl) (at_alloc (by first | rfl | simp)) rfl (by simp [Value.oneCell']) hkn (Nat.le_trans HX.out.lt (by simp)) ?_; intro v9 w9 how9 hbe9 hgr9; obtain ⟨g9, cap9, rfl, _, _, _⟩ := own_form how9; have HU9 := Lib.hid (HX.out.mid hgr9); have HV9 := Lib.hid how9; have HB9 := Lib.hid hbe9; clear how9 hbe9 hgr9) | (at_builtin; refine wpList_push elem25 _ (by rfl) (.tmp 169) (.tmp 173) (by rfl) (w.heap.size + 1 + 1 + 1) u7 (xs).length ((xs).map (.int .i64)) (by rfl) (HU9.out.alloc _) _ 1 [.int .i64 (r)] (by rfl) (at_alloc (by first | rfl | simp)) rfl (by simp [Value.oneCell']) hxn (Nat.le_trans (Nat.le_trans (Nat.le_trans HX.out.lt ((Below.refl (w.heap.size + 1 + 1 + 1) _).alloc HX.out.lt _).size) HB9.out.size) (by simp)) ?_; intro u9 y9 hox9 hbx9 hgx9; have HM9 := Lib.hid (HX.out.push (a := ⟨-1, -1, 0, 0⟩) HV9.out HB9.out hgx9 (HU9.out.alloc _) hox9 hbx9); have cq := ClMem.netCell HX.out HB9.out hbx9; have fq := ClMem.netFree HX.out HB9.out hbx9; clear hox9 hbx9 hgx9 HV9 HB9 HU9) | (go_at_call 82; refine (word_at _ A ws c _ (hA.below (HX.out.below.trans ((((Below.refl (w.heap.size + 1 + 1 + 1) _).alloc HX.out.lt _).trans HB9.out).mono (by omega)))) hl (by omega)).mono ?_; rintro e0 W1 ⟨rfl, rfl⟩))
                obtain ⟨D, dd, rfl, hR⟩ := ClMem.cr (g := g9) (cap := cap9) (l := l ++ [(⟨-1, -1, 0, 0⟩ : Ang)]) (by rw [HE9.out]; exact HM9.out)
                clear HM9 HE9 cq fq hM HX n0 n2 hB hLn HLX hr0 hwt hr9 hr1
                generalize (y9.setCell ⟨w.heap.size + 1, 0, none⟩ (.slice (some ⟨g9, 0, none⟩) (l.length + 1) cap9)) = W9 at *
                generalize l ++ [(⟨-1, -1, 0, 0⟩ : Ang)] = L at *
                generalize xs ++ [r] = XS at *
                clear d4 h4 hw9
              case' neg =>
                have d4 : (w9'.tmod 4 == 0) = false := by rw [Int.tmod_eq_emod_of_nonneg hw9.1]; simp [h4]
                have d5 : (w9' % 4 == 0) = false := by simp [h4]
                go_wp2_with fail
                obtain ⟨g9, cap9, hv9, _, _⟩ := own_pos hM.own (by omega)
                have HB9 := hB
                have HL9 : Hid (0 < l.length ∧ l.length ≤ 14) := Lib.hid (by omega)
                cases hv9
                generalize gc = cap9 at *
                obtain ⟨D, dd, rfl, hR⟩ := ClMem.cr hM
                clear hM HX n0 n2 hB hLn HLX
                generalize l = L at *
                generalize xs = XS at *
                generalize wr = W9 at *
                clear d4 d5 h4 hw9
          all_goals
            have hk13 := Lib.hid (And.intro hT3 hC3)
            go_loopw [17] (fun t wr => ∃ (i : Nat) (l' : List Ang), i ≤ L.length ∧ i ≤ 12 ∧ t = .int .i64 i ∧ CRMem w wr k q g9 cap9 l' D XS ∧ Hid (Turn L l' (ReadTo e XS i))) (fun t _ => 12 - (intOf t).toNat)
            case atStart => exact ⟨0, L, Nat.zero_le _, Nat.zero_le _, rfl, hR, Lib.hid ⟨rfl, fun i a ha => ⟨a, ha, rfl, rfl, fun h => absurd h (Nat.not_lt_zero _)⟩⟩⟩
            case round =>
              clear hR
              obtain ⟨i, l', hi, hi12, rfl, hR, hTn⟩ := hrel
              have hcs := hR.cells
              rw [hTn.out.len] at hcs
              obtain ⟨n0, n1, n2, s0, s1, s2, f0, f1, f2⟩ := hcs
              by_cases hc : i < L.length ∧ i < 12
              · have hc1 := hc.1
                have hc2 := hc.2
                clear hc
                obtain ⟨a, ha⟩ : ∃ a, L[i]? = some a := ⟨L[i], by simp [hc1]⟩
                obtain ⟨a', ha', hRa⟩ := hTn.out.at' i a ha
                have hxl : i < XS.length := by rw [HB9.out.len]; exact hc1
                obtain ⟨x, hx⟩ : ∃ x, XS[i]? = some x := ⟨XS[i], by simp [hxl]⟩
                have hxv := HB9.out.val x (List.mem_of_getElem? hx)
                have hxd : XS.getD i 0 = x := by rw [List.getD_eq_getElem?_getD, hx]; rfl
                obtain ⟨q0, q1, q2, q3⟩ := hR.ang ha'
                have fz3 := hR.free (i * 4 + 3)
                have hi0 : (0 : Int) ≤ i := by omega
                have hi1 : (i : Int) < L.length := by omega
                have hi2 : (i : Int) < 12 := by omega
                go_wp2_with fail
                refine (word_at _ A ws c _ (hA.below hR.below) hl (by omega)).mono ?_
                rintro e0 W1 ⟨rfl, rfl⟩
                have hwx := word_in hA ((i : Int) + 11).toNat
                generalize wordN ws ((i : Int) + 11).toNat = wx at *
                obtain ⟨p, hp1⟩ : ∃ p, wx % 3 = p := ⟨_, rfl⟩
                have hp2 : wx.tmod 3 = p := by rw [Int.tmod_eq_emod_of_nonneg hwx.1]; exact hp1
                have hp3 : 0 ≤ p ∧ p ≤ 2 := by omega
                have hz0 : 0 ≤ e * (1 + p) := Int.mul_nonneg he.1 (by omega)
                have hz1 : e * (1 + p) ≤ 15 := by
                  have h1 : e * (1 + p) ≤ 5 * (1 + p) := Int.mul_le_mul_of_nonneg_right he.2 (by omega)
                  omega
                obtain ⟨z, hz⟩ : ∃ z, e * (1 + p) = z := ⟨_, rfl⟩
                rw [hz] at hz0 hz1
                obtain ⟨f, hf1⟩ : ∃ f, wx / 4 = f := ⟨_, rfl⟩
                have hf2 : wx.tdiv 4 = f := by rw [Int.tdiv_eq_ediv_of_nonneg hwx.1]; exact hf1
                have hf3 : 0 ≤ f ∧ f ≤ 20000 := by omega
                obtain ⟨s, hs1⟩ : ∃ s, f % (2 * z + 1) = s := ⟨_, rfl⟩
                have hs2 : f.tmod (2 * z + 1) = s := by rw [Int.tmod_eq_emod_of_nonneg hf3.1]; exact hs1
                have hs3 : 0 ≤ s ∧ s ≤ 2 * z := by
                  have h1 := Int.emod_nonneg f (b := 2 * z + 1) (by omega)
                  have h2 := Int.emod_lt_of_pos f (b := 2 * z + 1) (by omega)
                  omega
                have hzne : 2 * z + 1 ≠ 0 := by omega
                have hw1 : IntKind.i64.wrap (2 * z) = 2 * z := IntWalk.i64_in _ (by omega)
                have hw2 : IntKind.i64.wrap (2 * z + 1) = 2 * z + 1 := IntWalk.i64_in _ (by omega)
                have hw3 : IntKind.i64.wrap (x + s) = x + s := IntWalk.i64_in _ (by omega)
                have hw4 : IntKind.i64.wrap (x + s - z) = x + s - z := IntWalk.i64_in _ (by omega)
                obtain ⟨Y1, hY1⟩ : ∃ Y1, (if x + s - z < 40 then x + s - z else 40) = Y1 := ⟨_, rfl⟩
                obtain ⟨Y2, hY2⟩ : ∃ Y2, (if 0 < Y1 then Y1 else 0) = Y2 := ⟨_, rfl⟩
                have hYe : Y2 = max 0 (min 40 (x + s - z)) := by rw [← hY2, ← hY1]; split <;> split <;> omega
                have HRD : Hid (ReadTo e XS (i + 1) i a ((a'.put 3 (1 + p)).put 2 Y2)) := Lib.hid ⟨hRa.1, hRa.2.1, fun _ => by
                  have h1 := read_around (e := e) (w := 1 + p) (x := x) (q := s) he (by omega) hxv (by rw [hz]; omega) a'.t a'.c
                  rw [hxd]
                  rw [hz, ← hYe] at h1
                  exact h1⟩
                have HTn := Lib.hid (hTn.out.set (R' := ReadTo e XS (i + 1)) ha HRD.out (fun j b b' hj hb => ⟨hb.1, hb.2.1, fun h => hb.2.2 (by omega)⟩))
                have hR2 := hR.put (j := 3) (1 + p) ha' (by omega)
                have hil' : i < l'.length := (List.getElem?_eq_some_iff.1 ha').1
                have ha2 : (l'.set i (a'.put 3 (1 + p)))[i]? = some (a'.put 3 (1 + p)) := List.getElem?_set_self hil'
                have hR3 := (hR2.put (j := 2) Y2 ha2 (by omega))
                rw [List.set_set] at hR3
                obtain ⟨bD, oD, rfl, hbD, hcD⟩ := hR2.ints i x hx
                obtain ⟨t0, t1, t2, t3⟩ := hR2.ang ha2
                have fz2 := hR2.free (i * 4 + 2)
                have HR3 := Lib.hid hR3
                clear hR3 hR2 hYe hxd hRa HRD ha2
                replace t3 : (wr.setCell ⟨g9, i * 4 + 3, none⟩ (.int .i64 (1 + p))).cell? ⟨g9, i * 4 + 3, none⟩ = some (.int .i64 (1 + p)) := t3
                go_wp2_with fail
                go_region
                go_wp2_with fail
                go_roundw
                case rel => exact ⟨i + 1, l'.set i ((a'.put 3 (1 + p)).put 2 Y2), by omega, by omega, by go_num, HR3.out.step (Below.refl _ _).drew, HTn⟩
                case measure => simp [intOf]; omega
              · have HDN : Hid (l'.length ≤ 12 → Valid l' k q ∧ XS.length = l'.length ∧ TruthL l' k q XS (rmLo l' e [] l'.length) (rmHi l' e [] l'.length)) := Lib.hid (fun h12' => by
                  have hll := hTn.out.len
                  obtain rfl : i = L.length := by omega
                  exact built_done HB9.out hk13.out.1 hk13.out.2 hTn.out (by have := HL9.out; omega) (by omega))
                have HLN := Lib.hid hTn.out.len
                have HXL := Lib.hid HB9.out.len
                have HRR := Lib.hid hR
                by_cases hc1 : i < L.length
                case' pos => have hc2 : ¬ i < 12 := fun h => hc ⟨hc1, h⟩
                all_goals try (exfalso; omega)
                all_goals
                  clear hc hR hTn
                  go_wp2_with fail
                  refine bodyPost_ret (v := .tuple #[.agg #[.slice (some ⟨g9, 0, none⟩) L.length cap9, .int .i64 k, .int .i64 q], .slice D XS.length dd]) (by simp [results, Try.results43, go_sem, s0, s1, s2]) rfl ?_
                  have hk3 : Keep (fun b => b = w.heap.size) wr (((wr.setCell ⟨w.heap.size, 0, none⟩ (.slice (some ⟨g9, 0, none⟩) L.length cap9)).setCell ⟨w.heap.size, 1, none⟩ (.int .i64 k)).setCell ⟨w.heap.size, 2, none⟩ (.int .i64 q)) :=
                    (((Keep.refl (fun b => b = w.heap.size) wr).setCell (p := ⟨w.heap.size, 0, none⟩) (.inl rfl) _).setCell (p := ⟨w.heap.size, 1, none⟩) (.inl rfl) _).setCell (p := ⟨w.heap.size, 2, none⟩) (.inl rfl) _
                  have hg := HRR.out.gt
                  obtain ⟨cur, hcur⟩ := HRR.out.blk
                  have hgl := (Array.getElem?_eq_some_iff.1 hcur).1
                  have hks := hk3.size
                  have hln := HLN.out
                  have hlx := HXL.out
                  have hl9 := HL9.out
                  refine ⟨((HRR.out.below.setCell (Nat.le_refl _) _).setCell (Nat.le_refl _) _).setCell (Nat.le_refl _) _, some ⟨g9, 0, none⟩, l', cap9, k, q, D, XS, dd, by rw [hln], HRR.out.row.keep hk3 (fun b o e => by cases e; omega), HRR.out.ints.keep hk3 (fun b o e => by have := (HRR.out.far b o e).2; omega), by omega, by omega, by omega, fun b o e => ?_, fun h12' => ?_⟩
                  · cases e
                    exact ⟨by omega, Nat.lt_of_lt_of_le hgl hks⟩
                  · have := HDN.out h12'
                    exact ⟨this.1, this.2.2⟩
end Go.Proofs.Ytnhbplnhhloklaa

/- The bounds of an angle end where the others end them: the plain law. -/
namespace Go.Proofs.Ytnhbplnhhloklaa
open Go.RowKit

theorem sumN_at (F : Nat → Int → Int → Int) (lo hi : Nat → Int) (i : Nat) (z : Int) : ∀ n : Nat, sumN n (fun j => F j (setAt lo i z j) (setAt hi i z j)) = sumN n (fun j => if j = i then 0 else F j (lo j) (hi j)) + (if i < n then F i z z else 0)
  | 0 => by simp [sumN]
  | n + 1 => by
    simp only [sumN, sumN_at F lo hi i z n]
    by_cases h1 : n = i
    · subst h1
      simp only [setAt, if_true, Nat.lt_irrefl, if_false, Nat.lt_succ_self, Int.add_zero]
    · simp only [setAt, if_neg h1]
      by_cases h2 : i < n
      · rw [if_pos h2, if_pos (by omega)]; omega
      · rw [if_neg h2, if_neg (by omega)]; omega
section
variable {l : List Ang} {T C : Nat} {lo hi : Nat → Int}
theorem can_convex (hl : l.length ≤ 12) (hN : NetOk l T C) {i : Nat} {x y z : Int} (hR : RoomOk (setAt lo i z) (setAt hi i z)) (hx : Can l T C (setAt lo i x) (setAt hi i x)) (hy : Can l T C (setAt lo i y) (setAt hi i y)) (hz : x ≤ z ∧ z ≤ y) : Can l T C (setAt lo i z) (setAt hi i z) := by
  rcases hoffman hl hN hR with h | ⟨P, h⟩
  · exact h
  · exfalso
    have nx := fun h => not_can (P := P) hN h hx
    have ny := fun h => not_can (P := P) hN h hy
    obtain ⟨h10, h⟩ := h
    unfold DenyN at nx ny
    have e1 : ∀ v, cutLo l (setAt lo i v) (setAt hi i v) P = _ := fun v => sumN_at (fun j a b => if P (fI l j) = true ∧ P (tI l j) = false then a else if P (tI l j) = true ∧ P (fI l j) = false then - b else 0) lo hi i v l.length
    have e2 : ∀ v, cutHi l (setAt lo i v) (setAt hi i v) P = _ := fun v => sumN_at (fun j a b => if P (fI l j) = true ∧ P (tI l j) = false then b else if P (tI l j) = true ∧ P (fI l j) = false then - a else 0) lo hi i v l.length
    simp only [e1, e2] at h nx ny
    generalize sumN l.length _ = s1 at *
    generalize sumN l.length _ = s2 at *
    generalize cutDiff T C P = D at *
    have nx' := fun h => nx ⟨h10, h⟩
    have ny' := fun h => ny ⟨h10, h⟩
    clear nx ny e1 e2 hx hy
    by_cases hi' : i < l.length
    · simp only [if_pos hi'] at h nx' ny'
      by_cases c1 : P (fI l i) = true ∧ P (tI l i) = false
      · simp only [if_pos c1] at h nx' ny'
        rcases h with h | h
        · exact ny' (.inl (by omega))
        · exact nx' (.inr (by omega))
      · simp only [if_neg c1] at h nx' ny'
        by_cases c2 : P (tI l i) = true ∧ P (fI l i) = false
        · simp only [if_pos c2] at h nx' ny'
          rcases h with h | h
          · exact nx' (.inl (by omega))
          · exact ny' (.inr (by omega))
        · simp only [if_neg c2] at h nx' ny'
          exact nx' h
    · simp only [if_neg hi'] at h nx' ny'
      exact nx' h
/-- A net with one angle read otherwise closes if and only if the net closes with a number of the new room there. -/
theorem read_can {e rd : Int} {i : Nat} {a : Ang} (hi : l[i]? = some a) : CanE (l.set i (a.put 2 rd)) T C e [] ↔ ∃ x, (max 0 (rd - e * a.w) ≤ x ∧ x ≤ min 40 (rd + e * a.w)) ∧ Can l T C (setAt (rmLo l e [] l.length) i x) (setAt (rmHi l e [] l.length) i x) := by
  have hil := (List.getElem?_eq_some_iff.1 hi).1
  have hs : Shape l (l.set i (a.put 2 rd)) := shape_set hi rfl rfl
  have hrm : ∀ j, j < l.length → rmLo (l.set i (a.put 2 rd)) e [] l.length j = (if j = i then max 0 (rd - e * a.w) else rmLo l e [] l.length j) ∧ rmHi (l.set i (a.put 2 rd)) e [] l.length j = (if j = i then min 40 (rd + e * a.w) else rmHi l e [] l.length j) := fun j hj => by
    by_cases e1 : j = i
    · subst e1
      simp only [rmLo, rmHi, hj, if_true, List.getElem?_set_self hil, List.not_mem_nil, if_false, rLo, rHi]
      exact ⟨rfl, rfl⟩
    · simp only [rmLo, rmHi, hj, if_true, List.getElem?_set_ne (Ne.symm e1), if_neg e1]
      exact ⟨trivial, trivial⟩
  unfold CanE
  rw [hs.len]
  constructor
  · rintro ⟨x, h1, h2⟩
    rw [hs.len] at h1
    have hxi := h1 i hil
    rw [(hrm i hil).1, (hrm i hil).2, if_pos rfl, if_pos rfl] at hxi
    refine ⟨x i, hxi, can_shape hs.symm ⟨x, fun j hj => ?_, h2⟩⟩
    rw [hs.len] at hj
    unfold setAt
    by_cases e1 : j = i
    · subst e1; rw [if_pos rfl, if_pos rfl]; omega
    · have := h1 j hj
      rw [(hrm j hj).1, (hrm j hj).2, if_neg e1, if_neg e1] at this
      rw [if_neg e1, if_neg e1]; exact this
  · rintro ⟨x, hx, h⟩
    refine can_mono (can_shape hs h) fun j hj => ?_
    rw [hs.len] at hj
    rw [(hrm j hj).1, (hrm j hj).2]
    unfold setAt
    by_cases e1 : j = i
    · subst e1; simp only [if_true]; exact hx
    · simp only [if_neg e1]; omega
/-- What the bounds of an angle say of nets in which it is read otherwise. -/
theorem ends_read (hV : Valid l T C) {e p q : Int} (he : 0 ≤ e ∧ e ≤ 40) {i : Nat} {a : Ang} (hi : l[i]? = some a) (h : EndsAre l T C (rmLo l e [] l.length) (rmHi l e [] l.length) i p q) :
    (max 0 (a.r - e * a.w) ≤ p ∧ q ≤ min 40 (a.r + e * a.w) ∧ 0 ≤ p ∧ p ≤ q ∧ q ≤ 40) ∧ CanE (l.set i (a.put 2 (p - e * a.w))) T C e [] ∧ CanE (l.set i (a.put 2 (q + e * a.w))) T C e [] ∧ (max 0 (a.r - e * a.w) < p → ¬ CanE (l.set i (a.put 2 (p - 1 - e * a.w))) T C e []) ∧ (q < min 40 (a.r + e * a.w) → ¬ CanE (l.set i (a.put 2 (q + 1 + e * a.w))) T C e []) := by
  have hil := (List.getElem?_eq_some_iff.1 hi).1
  have hR := rm_ok (out := []) (k := l.length) hV.reads he
  have hra := hV.reads a (List.mem_of_getElem? hi)
  have hm : 0 ≤ e * a.w := Int.mul_nonneg he.1 (by have := hra.2.2.1; omega)
  have hlo : rmLo l e [] l.length i = max 0 (a.r - e * a.w) := by simp only [rmLo, hil, if_true, hi, List.not_mem_nil, if_false, rLo]
  have hhi : rmHi l e [] l.length i = min 40 (a.r + e * a.w) := by simp only [rmHi, hil, if_true, hi, List.not_mem_nil, if_false, rHi]
  have ha0 := h.a0
  have hb0 := h.b0
  rw [hlo, hhi] at ha0 hb0
  have hpq : p ≤ q := by
    by_cases e1 : q < p
    · exact absurd h.ca (h.nb p e1 (by rw [hhi]; omega))
    · omega
  have hok : ∀ z, 0 ≤ z ∧ z ≤ 40 → RoomOk (setAt (rmLo l e [] l.length) i z) (setAt (rmHi l e [] l.length) i z) := fun z hz => ⟨fun j => by
    unfold setAt; split
    · exact hz
    · exact hR.lo0 j, fun j => by
    unfold setAt; split
    · exact hz
    · exact hR.hi0 j, fun j => by
    unfold setAt; split
    · exact Int.le_refl _
    · exact hR.le j⟩
  refine ⟨by omega, (read_can hi).2 ⟨p, by omega, h.ca⟩, (read_can hi).2 ⟨q, by omega, h.cb⟩, fun hp hc => ?_, fun hq hc => ?_⟩
  · obtain ⟨x, hx, hcx⟩ := (read_can hi).1 hc
    exact h.na (p - 1) (by rw [hlo]; omega) (by omega) (can_convex hV.len.2 hV.net (hok _ (by omega)) hcx h.ca (by omega))
  · obtain ⟨x, hx, hcx⟩ := (read_can hi).1 hc
    exact h.nb (q + 1) (by omega) (by rw [hhi]; omega) (can_convex hV.len.2 hV.net (hok _ (by omega)) h.cb hcx (by omega))
end
end Go.Proofs.Ytnhbplnhhloklaa
