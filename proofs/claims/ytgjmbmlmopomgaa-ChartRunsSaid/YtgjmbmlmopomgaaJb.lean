/- Texts put one after the other into a rising list: the sorted list without twice. -/
import Derived.Test.YtgjmbmlmopomgaaJa
import Derived.Test.YtgjmbmlmopomgaaEg
namespace Go.Proofs.Ytgjmbmlmopomgaa
open Go.RowKit Go.Maps Lib
set_option linter.unusedSimpArgs false
set_option linter.unusedVariables false

theorem toList_inj {x y : ByteArray} (h : x.toList = y.toList) : x = y := by rw [← bk_toList x, ← bk_toList y, h]
theorem tlt_lt (x s : ByteArray) : tlt x s = decide (x.toList < s.toList) := bytesLess_lt _ _
theorem putS_spec {l : List ByteArray} {s : ByteArray} (h : (l.map ByteArray.toList).Pairwise (· < ·)) :
    ((putS l s).map ByteArray.toList).Pairwise (· < ·) ∧ ∀ x, x ∈ putS l s ↔ x ∈ l ∨ x = s := by
  have hk : (l.takeWhile (tlt · s)).length ≤ l.length := (List.takeWhile_prefix _).length_le
  have e1 : l.take (l.takeWhile (tlt · s)).length = l.takeWhile (tlt · s) := by
    have h1 : l.takeWhile (tlt · s) <+: l := List.takeWhile_prefix _
    exact (List.prefix_iff_eq_take.1 h1).symm
  have e2 : ∀ x, l[(l.takeWhile (tlt · s)).length]? = some x → tlt x s = false := by
    intro x hx
    have h1 : l.drop (l.takeWhile (tlt · s)).length = l.dropWhile (tlt · s) := by
      have := List.takeWhile_append_dropWhile (p := (tlt · s)) (l := l)
      conv => lhs; arg 2; rw [← this]
      rw [List.drop_left]
    have h2 : (l.dropWhile (tlt · s))[0]? = some x := by rw [← h1, List.getElem?_drop, Nat.add_zero]; exact hx
    cases hd : l.dropWhile (tlt · s) with
    | nil => rw [hd] at h2; simp at h2
    | cons y r =>
      rw [hd] at h2
      simp at h2
      subst h2
      have := List.head?_dropWhile_not (p := (tlt · s)) (l := l)
      rw [hd] at this
      simpa using this
  have e3 : ∀ x ∈ l.takeWhile (tlt · s), tlt x s = true := by
    intro x hx
    have := List.all_takeWhile (p := (tlt · s)) (l := l)
    exact List.all_eq_true.1 this x hx
  unfold putS
  generalize hkk : (l.takeWhile (tlt · s)).length = k at *
  rw [← e1] at e3
  simp only
  by_cases hc : ((l[k]?).any fun y => y.toList == s.toList) = true
  · rw [if_pos hc]
    refine ⟨h, fun x => ⟨.inl, fun hx => ?_⟩⟩
    rcases hx with hx | hx
    · exact hx
    · subst hx
      cases hy : l[k]? with
      | none => rw [hy] at hc; simp at hc
      | some y =>
        rw [hy] at hc
        simp at hc
        rw [← toList_inj hc]
        exact List.mem_of_getElem? hy
  · rw [if_neg hc]
    have hl : l = l.take k ++ l.drop k := (List.take_append_drop _ _).symm
    refine ⟨?_, fun x => ?_⟩
    · rw [hl, List.map_append, List.pairwise_append] at h
      rw [List.map_append, List.pairwise_append, List.map_cons, List.pairwise_cons]
      refine ⟨h.1, ⟨?_, h.2.1⟩, ?_⟩
      · intro z hz
        obtain ⟨y, hy, rfl⟩ := List.mem_map.1 hz
        cases hd : l.drop k with
        | nil => rw [hd] at hy; cases hy
        | cons x r =>
          have hx : l[k]? = some x := by
            have : (l.drop k)[0]? = some x := by rw [hd]; rfl
            rw [List.getElem?_drop, Nat.add_zero] at this
            exact this
          have h1 := e2 x hx
          rw [tlt_lt, decide_eq_false_iff_not, List.not_lt] at h1
          have h2 : s.toList ≠ x.toList := fun e => hc (by rw [hx]; simp [e])
          have h3 : s.toList < x.toList := Std.lt_of_le_of_ne h1 h2
          rw [hd] at hy
          rcases List.mem_cons.1 hy with hy | hy
          · rw [hy]; exact h3
          · have h4 := h.2.1
            rw [hd, List.map_cons, List.pairwise_cons] at h4
            exact List.lt_trans h3 (h4.1 _ (List.mem_map.2 ⟨y, hy, rfl⟩))
      · intro a ha b hb
        obtain ⟨x, hx, rfl⟩ := List.mem_map.1 ha
        have h1 := e3 x hx
        rw [tlt_lt, decide_eq_true_eq] at h1
        rcases List.mem_cons.1 hb with hb | hb
        · rw [hb]; exact h1
        · exact h.2.2 _ ha _ hb
    · conv => rhs; rw [hl]
      simp only [List.mem_append, List.mem_cons]
      constructor
      · rintro (h1 | h1 | h1)
        · exact .inl (.inl h1)
        · exact .inr h1
        · exact .inl (.inr h1)
      · rintro ((h1 | h1) | h1)
        · exact .inl h1
        · exact .inr (.inr h1)
        · exact .inr (.inl h1)
theorem putS_outS (O : List ByteArray) (s : ByteArray) : putS (outS O) s = outS (O ++ [s]) := by
  have h1 := putS_spec (s := s) (outS_pw O)
  have h2 := outS_pw (O ++ [s])
  have h3 : (putS (outS O) s).map ByteArray.toList = (outS (O ++ [s])).map ByteArray.toList := by
    refine pw_eq h1.1 h2 fun z => ?_
    simp only [List.mem_map]
    refine exists_congr fun x => and_congr_left fun _ => ?_
    rw [h1.2]
    constructor
    · rintro (h | h)
      · exact mem_outS (List.mem_append_left _ (outS_mem h))
      · exact mem_outS (by rw [h]; simp)
    · intro h
      rcases List.mem_append.1 (outS_mem h) with h | h
      · exact .inl (mem_outS h)
      · exact .inr (List.mem_singleton.1 h)
  have h4 := congrArg (List.map bk) h3
  simpa [List.map_map, Function.comp_def, bk_toList] using h4
theorem puts_outS (em : List ByteArray) : ∀ O, em.foldl putS (outS O) = outS (O ++ em) := by
  induction em with
  | nil => intro O; simp
  | cons s r ih =>
    intro O
    rw [List.foldl_cons, putS_outS, ih]
    simp
theorem outS_nil : outS [] = [] := by
  apply List.eq_nil_iff_forall_not_mem.2
  intro x hx
  cases outS_mem hx

end Go.Proofs.Ytgjmbmlmopomgaa
