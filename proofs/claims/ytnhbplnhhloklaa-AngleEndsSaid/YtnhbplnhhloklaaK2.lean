/- The law on bounds: its walk. -/
import Derived.Test.YtnhbplnhhloklaaG0
import Derived.Test.YtnhbplnhhloklaaK1
import Derived.Test.YtnhbplnhhloklaaF1
namespace Go.Proofs.Ytnhbplnhhloklaa
open Go.RowKit
attribute [local go_sem ↓] eq58 guard58

theorem own_pos {w : World} {base e size n : Nat} {v : Value} {xs : List Value} (h : w.ownsRow base e size v n xs) (hn : 0 < n) : ∃ g cap, v = .slice (some ⟨g, 0, none⟩) n cap ∧ base ≤ g ∧ g < w.heap.size := by
  rcases h.2 with ⟨_, h0⟩ | ⟨g, cap, cur, rfl, hb, hh, hc, _⟩
  · omega
  · exact ⟨g, cap, rfl, hb, (Array.getElem?_eq_some_iff.1 hh).1⟩
theorem truth_list {l : List Ang} {T C : Nat} {lo hi x : Nat → Int} (hN : NetOk l T C) (h : TruthN l T C lo hi x) : TruthL l T C ((List.range l.length).map x) lo hi := by
  rw [truthL_iff hN]
  refine h.congr fun i hi' => ?_
  rw [List.getD_eq_getElem?_getD, List.getElem?_map, List.getElem?_range hi']
  rfl

end Go.Proofs.Ytnhbplnhhloklaa

/- The law on more error: its walk. -/
namespace Go.Proofs.Ytnhbplnhhloklaa
open Go.RowKit

theorem u8_in {a : Int} (h : (Lit.int .u8 a).wf = true) : 0 ≤ a ∧ a ≤ 255 := by
  simp only [Lit.wf, Bool.and_eq_true, decide_eq_true_eq] at h
  exact h
theorem asked_in {l : List Ang} {T C err : Int} (h : faultN l T C = 0) (he : 0 ≤ err ∧ err ≤ 40) : askedN l T C err = 0 := by
  unfold askedN
  rw [if_neg (by simp [h]), if_pos he]

/-- What Bounds tells of a net without fault. -/
def BoundsOut (l : List Ang) (T C : Nat) (e : Int) (w : World) (base : Nat) (v : Value) (s : Int) : Prop :=
  (s = 0 ∧ CanE l T C e [] ∧ ∃ g cap ps, v = .slice (some ⟨g, 0, none⟩) l.length cap ∧ base ≤ g ∧ g < w.heap.size ∧ (ps : List (Int × Int)).length = l.length ∧ BoundsAre l T C e ps ∧ w.ownsRow base 58 2 v l.length (pairsV ps)) ∨ (s = 9 ∧ v = .slice none 0 0 ∧ ¬ CanE l T C e [])
/-- What Leave tells of a net without fault. -/
def LeavesOut (l : List Ang) (T C : Nat) (e : Int) (v : Value) (s : Int) : Prop :=
  (s = 0 ∧ ∃ B d ys, v = .slice B (ys : List Nat).length d ∧ OutIs l T C e ys) ∨ (s = 9 ∧ v = .slice none 0 0 ∧ ∀ zs, Ext l.length 0 zs.length zs → ¬ CanE l T C e (outI zs))
/-- What Controlled tells of a net without fault. -/
def CtlOut (l : List Ang) (T C : Nat) (e : Int) (w : World) (v : Value) (s : Int) : Prop :=
  (s = 0 ∧ CanE l T C e [] ∧ ∃ B d ks, v = .slice B (outI ks).length d ∧ IntsAt w B (outI ks) ∧ (ks.length ≤ 12) ∧ ∀ i, i ∈ ks ↔ i < l.length ∧ Ctl l T C e i) ∨ (s = 9 ∧ v = .slice none 0 0 ∧ ¬ CanE l T C e [])
theorem BoundsOut.below {l : List Ang} {T C : Nat} {e : Int} {w w' : World} {base : Nat} {v : Value} {s : Int} (h : BoundsOut l T C e w base v s) (hb : Below w.heap.size w w') : BoundsOut l T C e w' base v s := by
  rcases h with ⟨h1, h2, g, cap, ps, h3, h4, h5, h6, h7, h8⟩ | h
  · exact .inl ⟨h1, h2, g, cap, ps, h3, h4, Nat.lt_of_lt_of_le h5 hb.size, h6, h7, ownsRow_below h8 hb (Nat.le_refl _)⟩
  · exact .inr h
theorem CtlOut.below {l : List Ang} {T C : Nat} {e : Int} {w w' : World} {v : Value} {s : Int} (h : CtlOut l T C e w v s) (hb : Below w.heap.size w w') : CtlOut l T C e w' v s := by
  rcases h with ⟨h1, h2, B, d, ks, h3, h4, h5⟩ | h
  · exact .inl ⟨h1, h2, B, d, ks, h3, h4.below hb, h5⟩
  · exact .inr h

section
variable {w : World} {A : Option Addr} {l : List Ang} {c : Nat} {T C : Nat} {e : Int}
theorem bounds_out (hA : AngAt w A l) (hV : Valid l T C) (he : 0 ≤ e ∧ e ≤ 40) : Calls Try.prog 35 #[.agg #[.slice A l.length c, .int .i64 T, .int .i64 C], .int .i64 e] w fun r w' => Below w.heap.size w w' ∧ ∃ v s, r = .returned (.tuple #[v, .int .i64 s]) ∧ BoundsOut l T C e w' w.heap.size v s := by
  have hz := asked_in (err := e) (faultN_valid hV) he
  have hl := hV.len
  refine (boundsAll_any w A l c T C e hA (by omega)).mono ?_
  rintro r w' ⟨hb, v, s, rfl, ⟨h, _⟩ | ⟨_, ⟨h1, h2, ps, h3, h4, h5⟩ | h1⟩⟩
  · exact absurd hz h
  · obtain ⟨g, cap, rfl, k1, k2⟩ := own_pos h5 hl.1
    exact ⟨hb, _, s, rfl, .inl ⟨h1, h2, g, cap, ps, rfl, k1, k2, h3, h4, h5⟩⟩
  · exact ⟨hb, v, s, rfl, .inr h1⟩
theorem leaves_out (hA : AngAt w A l) (hAb : ∀ b o, A = some ⟨b, o, none⟩ → b < w.heap.size) (hV : Valid l T C) (he : 0 ≤ e ∧ e ≤ 40) : Calls Try.prog 56 #[.agg #[.slice A l.length c, .int .i64 T, .int .i64 C], .int .i64 e] w fun r w' => Below w.heap.size w w' ∧ ∃ v s, r = .returned (.tuple #[v, .int .i64 s]) ∧ LeavesOut l T C e v s := by
  have hz := asked_in (err := e) (faultN_valid hV) he
  have hl := hV.len
  refine (leave_any w A l c T C e hA (by omega) hAb).mono ?_
  rintro r w' ⟨hb, v, s, rfl, ⟨h, _⟩ | ⟨_, ⟨h1, ys, h2, h3⟩ | h1⟩⟩
  · exact absurd hz h
  · obtain ⟨B, d, rfl⟩ := own_slice h3
    exact ⟨hb, _, s, rfl, .inl ⟨h1, B, d, ys, rfl, h2⟩⟩
  · exact ⟨hb, v, s, rfl, .inr h1⟩
theorem ctl_out (hA : AngAt w A l) (hV : Valid l T C) (he : 0 ≤ e ∧ e ≤ 40) : Calls Try.prog 40 #[.agg #[.slice A l.length c, .int .i64 T, .int .i64 C], .int .i64 e] w fun r w' => Below w.heap.size w w' ∧ ∃ v s, r = .returned (.tuple #[v, .int .i64 s]) ∧ CtlOut l T C e w' v s := by
  have hz := asked_in (err := e) (faultN_valid hV) he
  have hl := hV.len
  refine (controlled_any w A l c T C e hA (by omega)).mono ?_
  rintro r w' ⟨hb, v, s, rfl, ⟨h, _⟩ | ⟨_, ⟨h1, h2, ks, h3, h4, h5⟩ | h1⟩⟩
  · exact absurd hz h
  · obtain ⟨B, d, rfl, hI⟩ := own_ints h5
    have hk : ks.length ≤ l.length := by simpa using up_len (f := 0) h3 (fun y hy => ⟨Nat.zero_le _, ((h4 y).1 hy).1⟩)
    exact ⟨hb, _, s, rfl, .inl ⟨h1, h2, B, d, ks, rfl, hI, by omega, h4⟩⟩
  · exact ⟨hb, v, s, rfl, .inr h1⟩
end

end Go.Proofs.Ytnhbplnhhloklaa

/- The law on a heavier angle: its walk. -/
namespace Go.Proofs.Ytnhbplnhhloklaa
open Go.RowKit

section
variable {l l' : List Ang} {T C : Nat}
theorem valid_set {i : Nat} {a a' : Ang} (hV : Valid l T C) (hi : l[i]? = some a) (ht : a'.t = a.t) (hc : a'.c = a.c) (hr : ReadOk a') : Valid (l.set i a') T C := by
  have ha := hV.net.ok a (List.mem_of_getElem? hi)
  refine ⟨by rw [List.length_set]; exact hV.len, ⟨hV.net.hT, hV.net.hC, fun x hx => ?_⟩, fun x hx => ?_⟩
  · rcases List.mem_or_eq_of_mem_set hx with h | rfl
    · exact hV.net.ok x h
    · rw [ht, hc]; exact ha
  · rcases List.mem_or_eq_of_mem_set hx with h | rfl
    · exact hV.reads x h
    · exact hr
/-- A net of which an angle may be read with more weight. -/
structure Heavy (l l' : List Ang) (T C : Nat) : Prop where
  shape : Shape l l'
  valid : Valid l' T C
  wide : ∀ (e : Nat) i, i < l.length → rmLo l' e [] l.length i ≤ rmLo l e [] l.length i ∧ rmHi l e [] l.length i ≤ rmHi l' e [] l.length i
theorem heavy_set {i : Nat} {a : Ang} {x : Int} (hV : Valid l T C) (hi : l[i]? = some a) (hx : a.w ≤ x ∧ x ≤ 3) : Heavy l (l.set i (a.put 3 x)) T C := by
  have hr := hV.reads a (List.mem_of_getElem? hi)
  have hil := (List.getElem?_eq_some_iff.1 hi).1
  refine ⟨shape_set hi rfl rfl, valid_set hV hi rfl rfl ?_, fun e k hk => ?_⟩
  · unfold ReadOk at hr ⊢
    show 0 ≤ a.r ∧ a.r ≤ 40 ∧ 1 ≤ x ∧ x ≤ 3
    omega
  · by_cases e1 : k = i
    · subst e1
      have hm : (e : Int) * a.w ≤ (e : Int) * x := Int.mul_le_mul_of_nonneg_left hx.1 (by omega)
      simp only [rmLo, rmHi, hk, if_true, List.getElem?_set_self hil, hi, List.not_mem_nil, if_false, rLo, rHi]
      show max 0 (a.r - (e : Int) * x) ≤ max 0 (a.r - (e : Int) * a.w) ∧ min 40 (a.r + (e : Int) * a.w) ≤ min 40 (a.r + (e : Int) * x)
      generalize (e : Int) * a.w = u at *
      generalize (e : Int) * x = v at *
      omega
    · simp only [rmLo, rmHi, List.getElem?_set_ne (Ne.symm e1)]
      omega
theorem heavy_least {n s n' s' : Int} (hV : Valid l T C) (h : Heavy l l' T C) (h1 : LeastIs l T C n s) (h2 : LeastIs l' T C n' s') : (s = 0 ∧ s' = 0 ∧ n' ≤ n) ∨ (s = 9 ∧ s' = 9) := by
  have key : ∀ k : Nat, CanE l T C k [] → CanE l' T C k [] := fun k hk => can_mono (can_shape h.shape hk) fun i hi => by
    have hi2 : i < l.length := by rw [← h.shape.len]; exact hi
    have := h.wide k i hi2
    rw [h.shape.len]
    exact this
  have back : ∀ k : Nat, k ≤ 40 → CanE l' T C k [] → CanE l T C 40 [] := fun k hk hc => can40 h.valid.reads hV.reads h.shape.symm (canE_err h.valid.reads (by omega) hc)
  rcases h1 with ⟨k, hk, hc, hno, rfl, rfl⟩ | ⟨hno, rfl, rfl⟩
  · rcases h2 with ⟨j, hj, hc2, hno2, rfl, rfl⟩ | ⟨hno2, _⟩
    · refine .inl ⟨rfl, rfl, ?_⟩
      by_cases e : k < j
      · exact absurd (key k hc) (hno2 k e)
      · omega
    · exact absurd (key k hc) (hno2 k hk)
  · rcases h2 with ⟨j, hj, hc2, _⟩ | ⟨_, _, rfl⟩
    · exact absurd (back j hj hc2) (hno 40 (by omega))
    · exact .inr ⟨rfl, rfl⟩
/-- What Least tells of a net without fault. -/
theorem least_out {w : World} {A : Option Addr} {c : Nat} (hA : AngAt w A l) (hV : Valid l T C) : Calls Try.prog 32 #[.agg #[.slice A l.length c, .int .i64 T, .int .i64 C]] w fun e w' => Below w.heap.size w w' ∧ ∃ n s, e = .returned (.tuple #[.int .i64 n, .int .i64 s]) ∧ LeastIs l T C n s := by
  have hl := hV.len
  refine (least_any w A l c T C hA (by omega)).mono ?_
  rintro e w' ⟨hb, n, s, rfl, ⟨h, _⟩ | ⟨_, h⟩⟩
  · exact absurd (faultN_valid hV) h
  · exact ⟨hb, n, s, rfl, h⟩
end

end Go.Proofs.Ytnhbplnhhloklaa
