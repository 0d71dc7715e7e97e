/- What the reactions that are done say. -/
import Derived.Test.YtgjmbmlmopomgaaEb
namespace Go.Proofs.Ytgjmbmlmopomgaa
open Go.RowKit Go.Maps Lib
set_option linter.unusedSimpArgs false
set_option linter.unusedVariables false

def DoneOk (l : List McV) (gS : Nat → Int) (gF : Nat → Bool) (th : ByteArray → Bool) (O : List ByteArray) (p : Nat × Nat) : Prop :=
  ∃ m v, l[p.1]? = some m ∧ m.mv.l[p.2]? = some v ∧ actv l gS p.1 = true ∧ openM (gS p.1) (gF p.1) th v = true ∧ ∀ s ∈ v.em.l, s ∈ O
theorem DoneOk.more {l : List McV} {gS : Nat → Int} {gF : Nat → Bool} {th : ByteArray → Bool} {O O' : List ByteArray} {p : Nat × Nat} (h : DoneOk l gS gF th O p) (hO : ∀ s ∈ O, s ∈ O') : DoneOk l gS gF th O' p := by
  obtain ⟨m, v, h1, h2, h3, h4, h5⟩ := h
  exact ⟨m, v, h1, h2, h3, h4, fun s hs => hO s (h5 s hs)⟩
theorem rto_done (l : List McV) (gS : Nat → Int) (gF : Nat → Bool) (th : ByteArray → Bool) (x : RS) : ∀ i, (∀ p ∈ (rto l gS gF th i ⟨x, [], []⟩).D, p.1 < i ∧ DoneOk l gS gF th (rto l gS gF th i ⟨x, [], []⟩).O p) ∧ (rto l gS gF th i ⟨x, [], []⟩).D.Pairwise (fun a b => a.1 < b.1) := by
  intro i
  induction i with
  | zero =>
    refine ⟨fun p hp => ?_, ?_⟩
    · simp [rto] at hp
    · simp [rto]
  | succ i ih =>
    show (∀ p ∈ (rstep l gS gF th i (rto l gS gF th i ⟨x, [], []⟩)).D, p.1 < i + 1 ∧ DoneOk l gS gF th (rstep l gS gF th i (rto l gS gF th i ⟨x, [], []⟩)).O p) ∧ _
    show _ ∧ (rstep l gS gF th i (rto l gS gF th i ⟨x, [], []⟩)).D.Pairwise (fun a b => a.1 < b.1)
    generalize rto l gS gF th i ⟨x, [], []⟩ = r at ih ⊢
    have same : (∀ p ∈ r.D, p.1 < i + 1 ∧ DoneOk l gS gF th r.O p) ∧ r.D.Pairwise (fun a b => a.1 < b.1) := ⟨fun p hp => ⟨by have := (ih.1 p hp).1; omega, (ih.1 p hp).2⟩, ih.2⟩
    unfold rstep
    cases hm : l[i]? with
    | none => exact same
    | some m =>
      simp only
      by_cases hc : (actv l gS i && !r.x.E i && actv l r.x.S i) = true
      · rw [if_pos hc]
        cases hk : m.mv.l.findIdx? (openM (gS i) (gF i) th) with
        | none => exact same
        | some k =>
          simp only
          cases hv : m.mv.l[k]? with
          | none => exact same
          | some v =>
            simp only
            have hop : openM (gS i) (gF i) th v = true := by
              rw [List.findIdx?_eq_some_iff_getElem] at hk
              obtain ⟨h1, h2, -⟩ := hk
              rw [List.getElem?_eq_getElem h1] at hv
              cases hv
              exact h2
            refine ⟨fun p hp => ?_, ?_⟩
            · rcases List.mem_append.1 hp with hp | hp
              · exact ⟨by have := (ih.1 p hp).1; omega, (ih.1 p hp).2.more fun s hs => List.mem_append_left _ hs⟩
              · rw [List.mem_singleton.1 hp]
                simp only [Bool.and_eq_true] at hc
                exact ⟨Nat.lt_succ_self i, m, v, hm, hv, hc.1.1, hop, fun s hs => List.mem_append_right _ hs⟩
            · rw [List.pairwise_append]
              refine ⟨ih.2, List.pairwise_singleton _ _, fun a ha b hb => ?_⟩
              rw [List.mem_singleton.1 hb]
              exact (ih.1 a ha).1
      · rw [if_neg hc]; exact same

theorem mem_compact {α : Type} [DecidableEq α] [Inhabited α] (l : List α) : ∀ x ∈ l, x ∈ Lib.compact l := by
  have h : ∀ j, j < l.length → l[j]! ∈ Lib.compact l := by
    intro j
    induction j with
    | zero =>
      intro hj
      unfold Lib.compact Lib.compactUpTo
      refine List.mem_map.2 ⟨0, List.mem_filter.2 ⟨List.mem_range.2 hj, Lib.keeps_lt_one _ 0 (by omega)⟩, by simp⟩
    | succ j ih =>
      intro hj
      by_cases hk : Lib.keeps l.toArray (j + 1) = true
      · unfold Lib.compact Lib.compactUpTo
        exact List.mem_map.2 ⟨j + 1, List.mem_filter.2 ⟨List.mem_range.2 hj, hk⟩, by simp⟩
      · have h1 := ih (by omega)
        have : l[j + 1]! = l[j]! := by
          unfold Lib.keeps at hk
          rw [decide_eq_true_eq, not_or] at hk
          have h2 := Classical.not_not.1 hk.2
          simpa using h2
        rw [this]
        exact h1
  intro x hx
  obtain ⟨j, hj, rfl⟩ := List.mem_iff_getElem.1 hx
  have := h j hj
  simpa [hj] using this
theorem mem_outS {l : List ByteArray} {x : ByteArray} (h : x ∈ l) : x ∈ outS l := by
  unfold outS
  refine List.mem_map.2 ⟨x.toList, mem_compact _ _ ?_, bk_toList x⟩
  unfold srtS
  rw [List.mem_mergeSort]
  exact List.mem_map.2 ⟨x, h, rfl⟩

end Go.Proofs.Ytgjmbmlmopomgaa
