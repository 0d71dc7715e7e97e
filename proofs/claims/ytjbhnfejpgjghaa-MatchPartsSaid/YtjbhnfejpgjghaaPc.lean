/- All perfect matchings (plain): what is listed. -/
import Derived.Test.YtjbhnfejpgjghaaPa
namespace Go.Proofs.Ytjbhnfejpgjghaa
open Go.RowKit
set_option linter.unusedSimpArgs false
set_option linter.unusedVariables false

/-- as many columns as rows are left behind row i, if k is taken too -/
def fits (E : List (List Nat)) (R C i : Nat) (used : Nat → Bool) (k : Nat) : Bool := decide (sz E (fun c => !(upd used k true) c) (fun r => decide (i < r)) R C = R - i - 1)

def perfL (E : List (List Nat)) (R C i : Nat) (used : Nat → Bool) (rec : Nat → List (List Int) → List (List Int)) : List Nat → List (List Int) → List (List Int)
  | [], out => out
  | k :: ks, out => if used k = true then perfL E R C i used rec ks out
    else if fits E R C i used k = true then perfL E R C i used rec ks (rec k out) else perfL E R C i used rec ks out

def perf (E : List (List Nat)) (R C most : Nat) : Nat → List Int → (Nat → Bool) → List (List Int) → List (List Int)
  | 0, way, _, out => if most < out.length then out else out ++ [way]
  | m + 1, way, used, out => if most < out.length then out
    else perfL E R C (R - (m + 1)) used (fun k o => perf E R C most m (way ++ [(k : Int)]) (upd used k true) o) (E.getD (R - (m + 1)) []) out

/-- columns for the last m rows -/
def Cmp (E : List (List Nat)) (R : Nat) : Nat → (Nat → Bool) → List Int → Prop
  | 0, _, s => s = []
  | m + 1, used, s => ∃ (k : Nat) (t : List Int), s = (k : Int) :: t ∧ k ∈ E.getD (R - (m + 1)) [] ∧ used k = false ∧ Cmp E R m (upd used k true) t

section
variable {E : List (List Nat)} {R C most : Nat}

theorem perfL_pre {i : Nat} {used : Nat → Bool} {rec : Nat → List (List Int) → List (List Int)} (hr : ∀ k o, ∃ x, rec k o = o ++ x) : ∀ (ks : List Nat) (out : List (List Int)), ∃ x, perfL E R C i used rec ks out = out ++ x := by
  intro ks
  induction ks with
  | nil => intro out; exact ⟨[], (List.append_nil _).symm⟩
  | cons k ks ih =>
    intro out
    unfold perfL
    split
    · exact ih out
    · split
      · obtain ⟨x, hx⟩ := hr k out
        obtain ⟨y, hy⟩ := ih (rec k out)
        exact ⟨x ++ y, by rw [hy, hx, List.append_assoc]⟩
      · exact ih out
theorem perf_pre : ∀ (m : Nat) (way : List Int) (used : Nat → Bool) (out : List (List Int)), ∃ x, perf E R C most m way used out = out ++ x := by
  intro m
  induction m with
  | zero =>
    intro way used out
    unfold perf
    split
    · exact ⟨[], (List.append_nil _).symm⟩
    · exact ⟨_, rfl⟩
  | succ m ih =>
    intro way used out
    unfold perf
    split
    · exact ⟨[], (List.append_nil _).symm⟩
    · exact perfL_pre (fun k o => ih _ _ o) _ _

theorem perfL_len {i : Nat} {used : Nat → Bool} {rec : Nat → List (List Int) → List (List Int)} (hr : ∀ k o, o.length ≤ most + 1 → (rec k o).length ≤ most + 1) : ∀ (ks : List Nat) (out : List (List Int)), out.length ≤ most + 1 → (perfL E R C i used rec ks out).length ≤ most + 1 := by
  intro ks
  induction ks with
  | nil => intro out h; exact h
  | cons k ks ih =>
    intro out h
    unfold perfL
    split
    · exact ih out h
    · split
      · exact ih _ (hr k out h)
      · exact ih out h
theorem perf_len : ∀ (m : Nat) (way : List Int) (used : Nat → Bool) (out : List (List Int)), out.length ≤ most + 1 → (perf E R C most m way used out).length ≤ most + 1 := by
  intro m
  induction m with
  | zero =>
    intro way used out h
    unfold perf
    split
    · exact h
    · simp; omega
  | succ m ih =>
    intro way used out h
    unfold perf
    split
    · exact h
    · exact perfL_len (fun k o ho => ih _ _ o ho) _ _ h

theorem perfL_sound {i : Nat} {used : Nat → Bool} {rec : Nat → List (List Int) → List (List Int)} {P : List Int → Prop} {ks0 : List Nat} (hr : ∀ k o, k ∈ ks0 → used k = false → ∀ p ∈ rec k o, p ∈ o ∨ P p) : ∀ (ks : List Nat) (out : List (List Int)), (∀ k ∈ ks, k ∈ ks0) → ∀ p ∈ perfL E R C i used rec ks out, p ∈ out ∨ P p := by
  intro ks
  induction ks with
  | nil => intro out _ p hp; exact .inl hp
  | cons k ks ih =>
    intro out hks p hp
    have hks' : ∀ x ∈ ks, x ∈ ks0 := fun x hx => hks x (List.mem_cons_of_mem _ hx)
    unfold perfL at hp
    split at hp
    · exact ih out hks' p hp
    · rename_i hu
      split at hp
      · rcases ih _ hks' p hp with h | h
        · exact hr k out (hks k (List.mem_cons_self ..)) (by simpa using hu) p h
        · exact .inr h
      · exact ih out hks' p hp
theorem perf_sound : ∀ (m : Nat) (way : List Int) (used : Nat → Bool) (out : List (List Int)), ∀ p ∈ perf E R C most m way used out, p ∈ out ∨ ∃ s, Cmp E R m used s ∧ p = way ++ s := by
  intro m
  induction m with
  | zero =>
    intro way used out p hp
    unfold perf at hp
    split at hp
    · exact .inl hp
    · rcases List.mem_append.1 hp with h | h
      · exact .inl h
      · exact .inr ⟨[], rfl, by simpa using h⟩
  | succ m ih =>
    intro way used out p hp
    unfold perf at hp
    split at hp
    · exact .inl hp
    · refine perfL_sound (P := fun p => ∃ s, Cmp E R (m + 1) used s ∧ p = way ++ s) (fun k o hk hu p hp => ?_) _ _ (fun _ h => h) p hp
      rcases ih _ _ _ p hp with h | ⟨s, h1, h2⟩
      · exact .inl h
      · exact .inr ⟨(k : Int) :: s, ⟨k, s, rfl, hk, hu, h1⟩, by rw [h2, List.append_assoc]; rfl⟩

/-- a completion is a choice for all of the last rows -/
theorem cmp_asg : ∀ (m : Nat) (used : Nat → Bool) (s : List Int), m ≤ R → Cmp E R m used s → ∃ f : Nat → Int, Asg E (fun c => !used c) (fun r => decide (R - m ≤ r)) R f ∧ (∀ r, r < R → R - m ≤ r → 0 ≤ f r) ∧ s = (List.range' (R - m) m).map f := by
  intro m
  induction m with
  | zero =>
    intro used s _ h
    exact ⟨fun _ => -1, ⟨fun r _ h => by omega, fun r r' _ _ h => by omega⟩, fun r hr h => by omega, h⟩
  | succ m ih =>
    intro used s hm ⟨k, t, hs, hk, hu, hc⟩
    obtain ⟨f, hf, hall, hft⟩ := ih _ t (by omega) hc
    have e1 : R - m = R - (m + 1) + 1 := by omega
    have hne : ∀ r, r < R → 0 ≤ f r → (f r).toNat ≠ k := fun r hr hp e => by
      have := (hf.val r hr hp).2.2
      rw [e] at this
      simp [upd_same] at this
    have hlt : ∀ r, r < R → 0 ≤ f r → R - m ≤ r := fun r hr hp => by
      have := (hf.val r hr hp).1
      simpa using this
    refine ⟨upd f (R - (m + 1)) (k : Int), ⟨fun r hr hp => ?_, fun r r' hr hr' hp e => ?_⟩, fun r hr hle => ?_, ?_⟩
    · by_cases e : r = R - (m + 1)
      · rw [e, upd_same]
        exact ⟨by simp, by simpa using hk, by simp [hu]⟩
      · rw [upd_other _ _ _ _ e] at hp ⊢
        obtain ⟨v1, v2, v3⟩ := hf.val r hr hp
        have := hlt r hr hp
        refine ⟨by simp; omega, v2, ?_⟩
        have h3 := hne r hr hp
        simp only [Bool.not_eq_true'] at v3 ⊢
        rw [upd_other _ _ _ _ h3] at v3
        exact v3
    · by_cases e1 : r = R - (m + 1)
      · by_cases e2 : r' = R - (m + 1)
        · omega
        · exfalso
          rw [e1, upd_same, upd_other _ _ _ _ e2] at e
          exact hne r' hr' (by omega) (by omega)
      · by_cases e2 : r' = R - (m + 1)
        · exfalso
          rw [e2, upd_same, upd_other _ _ _ _ e1] at e
          rw [upd_other _ _ _ _ e1] at hp
          exact hne r hr hp (by omega)
        · rw [upd_other _ _ _ _ e1] at hp e
          rw [upd_other _ _ _ _ e2] at e
          exact hf.inj r r' hr hr' hp e
    · by_cases e : r = R - (m + 1)
      · rw [e, upd_same]; omega
      · rw [upd_other _ _ _ _ e]
        exact hall r hr (by omega)
    · rw [hs, hft, List.range'_succ, List.map_cons, upd_same, e1]
      congr 1
      apply List.map_congr_left
      intro r hr
      rw [List.mem_range'_1] at hr
      rw [upd_other _ _ _ _ (by omega)]

theorem fits_of (hE : ∀ l ∈ E, ∀ k ∈ l, k < C) {m : Nat} {used : Nat → Bool} {k : Nat} {t : List Int} (hm : m + 1 ≤ R) (h : Cmp E R m (upd used k true) t) : fits E R C (R - (m + 1)) used k = true := by
  obtain ⟨f, hf, hall, -⟩ := cmp_asg m _ t (by omega) h
  have e : ∀ r, decide (R - m ≤ r) = decide (R - (m + 1) < r) := fun r => by
    rw [decide_eq_decide]; omega
  have h1 := (sz_all (ok := fun c => !(upd used k true) c) hE (show R - (m + 1) < R by omega)).2.2 ⟨f, ⟨fun r hr hp => by
    obtain ⟨v1, v2, v3⟩ := hf.val r hr hp
    exact ⟨by rw [← e]; exact v1, v2, v3⟩, hf.inj⟩, fun r hr hlt => hall r hr (by omega)⟩
  unfold fits
  rw [h1]
  simp

theorem perfL_all {i : Nat} {used : Nat → Bool} {rec : Nat → List (List Int) → List (List Int)} (hpre : ∀ k o, ∃ x, rec k o = o ++ x) {p : List Int} {k : Nat} (hu : used k = false) (hfit : fits E R C i used k = true)
    (hr : ∀ o, (rec k o).length ≤ most → p ∈ rec k o) : ∀ (ks : List Nat) (out : List (List Int)), k ∈ ks → (perfL E R C i used rec ks out).length ≤ most → p ∈ perfL E R C i used rec ks out := by
  intro ks
  induction ks with
  | nil => intro out h; cases h
  | cons a ks ih =>
    intro out hk hl
    unfold perfL at hl ⊢
    by_cases e : a = k
    · subst e
      rw [if_neg (by rw [hu]; simp), if_pos hfit] at hl ⊢
      obtain ⟨x, hx⟩ := perfL_pre (E := E) (R := R) (C := C) (i := i) (used := used) hpre ks (rec a out)
      rw [hx] at hl ⊢
      rw [List.length_append] at hl
      exact List.mem_append_left _ (hr out (by omega))
    · have hk' : k ∈ ks := by
        rcases List.mem_cons.1 hk with h | h
        · exact absurd h.symm e
        · exact h
      split
      · rename_i h1
        rw [if_pos h1] at hl
        exact ih out hk' hl
      · rename_i h1
        rw [if_neg h1] at hl
        split
        · rename_i h2
          rw [if_pos h2] at hl
          exact ih _ hk' hl
        · rename_i h2
          rw [if_neg h2] at hl
          exact ih out hk' hl
theorem perf_all (hE : ∀ l ∈ E, ∀ k ∈ l, k < C) : ∀ (m : Nat) (way : List Int) (used : Nat → Bool) (out : List (List Int)) (s : List Int), m ≤ R → (perf E R C most m way used out).length ≤ most → Cmp E R m used s → way ++ s ∈ perf E R C most m way used out := by
  intro m
  induction m with
  | zero =>
    intro way used out s _ hl h
    have h : s = [] := h
    subst h
    unfold perf at hl ⊢
    split at hl
    · omega
    · rename_i hc
      rw [if_neg hc, List.append_nil]
      simp
  | succ m ih =>
    intro way used out s hm hl ⟨k, t, hs, hk, hu, hc⟩
    unfold perf at hl ⊢
    split at hl
    · omega
    · rename_i hc'
      rw [if_neg hc']
      refine perfL_all (fun k o => perf_pre m _ _ o) hu (fits_of hE hm hc) (fun o ho => ?_) _ _ hk hl
      have := ih (way ++ [(k : Int)]) (upd used k true) o t (by omega) ho hc
      rw [hs]
      rwa [List.append_assoc] at this
end

end Go.Proofs.Ytjbhnfejpgjghaa
