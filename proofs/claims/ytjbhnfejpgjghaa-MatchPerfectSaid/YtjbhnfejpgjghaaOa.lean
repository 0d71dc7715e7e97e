/- Matchings of greatest weight (plain): walkW's choice is one, no other weighs more; sums; cyclic changes. -/
import Derived.Test.YtjbhnfejpgjghaaNu
namespace Go.Proofs.Ytjbhnfejpgjghaa
open Go.RowKit
set_option linter.unusedSimpArgs false
set_option linter.unusedVariables false

def Wt (ls : List (List Int)) (i k : Nat) : Int := (ls.getD i []).getD k 0

theorem Wt_get {ls : List (List Int)} (hT : isT ls = true) {i k : Nat} (hi : i < ls.length) (hk : k < ls.length) : (ls.getD i [])[k]? = some (Wt ls i k) ∧ -1 ≤ Wt ls i k ∧ Wt ls i k ≤ 3 := by
  obtain ⟨l, hl, hg, hll, hx⟩ := isT_row hT hi
  unfold Wt
  rw [hg]
  have e : l[k]? = some l[k] := List.getElem?_eq_getElem (by omega)
  rw [List.getD_eq_getElem?_getD, e]
  exact ⟨rfl, hx _ (List.mem_of_getElem? e)⟩

/-! ## sums -/
def sumF (f : Nat → Int) : Nat → Int
  | 0 => 0
  | n + 1 => sumF f n + f n
theorem sumF_congr {f g : Nat → Int} : ∀ {n}, (∀ i, i < n → f i = g i) → sumF f n = sumF g n := by
  intro n
  induction n with
  | zero => intro _; rfl
  | succ n ih => intro h; show sumF f n + f n = sumF g n + g n; rw [ih fun i hi => h i (by omega), h n (by omega)]
theorem sumF_sub (f g : Nat → Int) : ∀ n, sumF (fun i => f i - g i) n = sumF f n - sumF g n := by
  intro n
  induction n with
  | zero => rfl
  | succ n ih => show sumF _ n + (f n - g n) = sumF f n + f n - (sumF g n + g n); rw [ih]; omega
theorem sumF_le {f g : Nat → Int} : ∀ {n}, (∀ i, i < n → f i ≤ g i) → sumF f n ≤ sumF g n := by
  intro n
  induction n with
  | zero => intro _; exact Int.le_refl _
  | succ n ih => intro h; show sumF f n + f n ≤ sumF g n + g n; have := ih fun i hi => h i (by omega); have := h n (by omega); omega
theorem sumF_lt {f g : Nat → Int} : ∀ {n}, (∀ i, i < n → f i ≤ g i) → ∀ j, j < n → f j < g j → sumF f n < sumF g n := by
  intro n
  induction n with
  | zero => intro _ j hj; omega
  | succ n ih =>
    intro h j hj hlt
    show sumF f n + f n < sumF g n + g n
    by_cases e : j = n
    · subst e
      have := sumF_le (n := j) fun i hi => h i (by omega)
      omega
    · have := ih (fun i hi => h i (by omega)) j (by omega) hlt
      have := h n (by omega)
      omega
theorem sumF_const (c : Int) : ∀ n : Nat, sumF (fun _ => c) n = c * n := by
  intro n
  induction n with
  | zero => simp [sumF]
  | succ n ih => show sumF _ n + c = _; rw [ih, Int.natCast_succ, Int.mul_add]; omega
theorem sumF_two {h : Nat → Int} {a b : Nat} (hab : a ≠ b) (h0 : ∀ x, x ≠ a → x ≠ b → h x = 0) : ∀ n, sumF h n = (if a < n then h a else 0) + (if b < n then h b else 0) := by
  intro n
  induction n with
  | zero => simp [sumF]
  | succ n ih =>
    show sumF h n + h n = _
    rw [ih]
    by_cases e1 : a = n
    · subst e1
      rw [if_neg (Nat.lt_irrefl a), if_pos (Nat.lt_succ_self a)]
      by_cases e2 : b < a
      · rw [if_pos e2, if_pos (by omega)]; omega
      · rw [if_neg e2, if_neg (by omega)]; omega
    · by_cases e2 : b = n
      · subst e2
        rw [if_neg (Nat.lt_irrefl b), if_pos (Nat.lt_succ_self b)]
        by_cases e3 : a < b
        · rw [if_pos e3, if_pos (by omega)]; omega
        · rw [if_neg e3, if_neg (by omega)]; omega
      · rw [h0 n (by omega) (by omega)]
        have q1 : (a < n) = (a < n + 1) := propext ⟨by omega, by omega⟩
        have q2 : (b < n) = (b < n + 1) := propext ⟨by omega, by omega⟩
        simp only [q1, q2]
        omega

/-! ## exchange of two -/
def sw (f : Nat → Nat) (a b : Nat) : Nat → Nat := fun x => if x = a then f b else if x = b then f a else f x
theorem sw_a (f : Nat → Nat) (a b : Nat) : sw f a b a = f b := by simp [sw]
theorem sw_b (f : Nat → Nat) {a b : Nat} (h : a ≠ b) : sw f a b b = f a := by simp [sw, Ne.symm h]
theorem sw_o (f : Nat → Nat) {a b x : Nat} (ha : x ≠ a) (hb : x ≠ b) : sw f a b x = f x := by simp [sw, ha, hb]
theorem sw_sum (V : Nat → Nat → Int) (f : Nat → Nat) {a b n : Nat} (hab : a ≠ b) (ha : a < n) (hb : b < n) :
    sumF (fun x => V x (sw f a b x)) n = sumF (fun x => V x (f x)) n + V a (f b) + V b (f a) - V a (f a) - V b (f b) := by
  have h := sumF_two (h := fun x => V x (sw f a b x) - V x (f x)) hab (fun x h1 h2 => by show V x (sw f a b x) - V x (f x) = 0; rw [sw_o f h1 h2]; omega) n
  rw [sumF_sub, if_pos ha, if_pos hb, sw_a, sw_b f hab] at h
  omega

/-- a choice of different columns, one for each row -/
structure Cho (n : Nat) (f : Nat → Nat) : Prop where
  lt : ∀ i, i < n → f i < n
  inj : ∀ i j, i < n → j < n → f i = f j → i = j
theorem Cho.sw {n : Nat} {f : Nat → Nat} (h : Cho n f) {a b : Nat} (ha : a < n) (hb : b < n) : Cho n (sw f a b) := by
  have hv : ∀ i, i < n → ∃ i', i' < n ∧ Proofs.Ytjbhnfejpgjghaa.sw f a b i = f i' ∧ (i' = if i = a then b else if i = b then a else i) := by
    intro i hi
    unfold Proofs.Ytjbhnfejpgjghaa.sw
    by_cases e1 : i = a
    · exact ⟨b, hb, by rw [if_pos e1], by rw [if_pos e1]⟩
    · by_cases e2 : i = b
      · exact ⟨a, ha, by rw [if_neg e1, if_pos e2], by rw [if_neg e1, if_pos e2]⟩
      · exact ⟨i, hi, by rw [if_neg e1, if_neg e2], by rw [if_neg e1, if_neg e2]⟩
  refine ⟨fun i hi => ?_, fun i j hi hj e => ?_⟩
  · obtain ⟨i', hi', e, -⟩ := hv i hi
    rw [e]; exact h.lt i' hi'
  · obtain ⟨i', hi', e1, q1⟩ := hv i hi
    obtain ⟨j', hj', e2, q2⟩ := hv j hj
    rw [e1, e2] at e
    have := h.inj i' j' hi' hj' e
    rw [q1, q2] at this
    split at this <;> split at this <;> (try split at this) <;> (try split at this) <;> omega

theorem nodup_len : ∀ (n : Nat) (l : List Nat), l.Nodup → (∀ x ∈ l, x < n) → l.length ≤ n := by
  intro n
  induction n with
  | zero =>
    intro l _ h
    cases l with
    | nil => exact Nat.le_refl _
    | cons x l => have := h x (List.mem_cons_self ..); omega
  | succ n ih =>
    intro l hn h
    by_cases hm : n ∈ l
    · have h1 := ih (l.erase n) (hn.erase n) (fun x hx => by
        have h2 := h x (List.mem_of_mem_erase hx)
        have h3 : x ≠ n := fun e => by
          subst e
          exact (List.Nodup.not_mem_erase hn) hx
        omega)
      rw [List.length_erase_of_mem hm] at h1
      omega
    · have := ih l hn fun x hx => by
        have h2 := h x hx
        have h3 : x ≠ n := fun e => hm (e ▸ hx)
        omega
      omega

theorem Cho.onto {n : Nat} {f : Nat → Nat} (h : Cho (n + 1) f) : ∃ j, j < n + 1 ∧ f j = n := by
  apply Classical.byContradiction
  intro hc
  have h1 : ((List.range (n + 1)).map f).Nodup := by
    unfold List.Nodup
    rw [List.pairwise_map]
    refine List.Pairwise.imp_of_mem ?_ (List.nodup_range (n := n + 1))
    intro a b ha hb hne e
    exact hne (h.inj a b (List.mem_range.1 ha) (List.mem_range.1 hb) e)
  have h2 := nodup_len n _ h1 (fun x hx => by
    obtain ⟨i, hi, rfl⟩ := List.mem_map.1 hx
    have h3 := h.lt i (List.mem_range.1 hi)
    have h4 : f i ≠ n := fun e => hc ⟨i, List.mem_range.1 hi, e⟩
    omega)
  simp at h2
  omega
theorem sum_perm (d : Nat → Int) : ∀ (n : Nat) (f : Nat → Nat), Cho n f → sumF (fun i => d (f i)) n = sumF d n := by
  intro n
  induction n with
  | zero => intro f _; rfl
  | succ n ih =>
    intro f h
    obtain ⟨j, hj, e⟩ := h.onto
    have key : ∀ g, Cho (n + 1) g → g n = n → sumF (fun i => d (g i)) (n + 1) = sumF d (n + 1) := by
      intro g hg en
      show sumF _ n + d (g n) = sumF d n + d n
      rw [en, ih g ⟨fun i hi => ?_, fun i j hi hj e => hg.inj i j (by omega) (by omega) e⟩]
      have h1 := hg.lt i (by omega)
      have h2 : g i ≠ n := fun e => by have := hg.inj i n (by omega) (by omega) (e.trans en.symm); omega
      omega
    by_cases hjn : j = n
    · subst hjn; exact key f h e
    · rw [← key (Proofs.Ytjbhnfejpgjghaa.sw f j n) (h.sw hj (by omega)) (by rw [sw_b f hjn]; exact e)]
      rw [sw_sum (fun _ v => d v) f hjn hj (by omega)]
      omega

/-! ## no choice weighs more -/
theorem cho_pick {ls : List (List Int)} (hT : isT ls = true) {f : Nat → Nat} (h : Cho ls.length f) (h0 : ∀ i, i < ls.length → 0 ≤ Wt ls i (f i)) :
    ∀ (j s : Nat), j ≤ ls.length → (∀ b, s.testBit b = true → ∃ i, i < ls.length - j ∧ f i = b) →
      Pick ls j s ((List.range' (ls.length - j) j).map f) ∧ pickSum ls j ((List.range' (ls.length - j) j).map f) = sumF (fun i => Wt ls i (f i)) ls.length - sumF (fun i => Wt ls i (f i)) (ls.length - j) := by
  intro j
  induction j with
  | zero => intro s _ _; exact ⟨rfl, by show (0 : Int) = _; rw [Nat.sub_zero]; omega⟩
  | succ j ih =>
    intro s hj hs
    obtain ⟨i, hi⟩ : ∃ i, i = ls.length - (j + 1) := ⟨_, rfl⟩
    have hil : i < ls.length := by omega
    have e1 : ls.length - j = i + 1 := by omega
    have hfi := h.lt i hil
    obtain ⟨g1, -, -⟩ := Wt_get hT hil hfi
    have hsf : s.testBit (f i) = false := by
      cases hb : s.testBit (f i) with
      | false => rfl
      | true =>
        obtain ⟨i', hi', e⟩ := hs _ hb
        have := h.inj i' i (by omega) hil e
        omega
    obtain ⟨p1, p2⟩ := ih (s ||| 2 ^ f i) (by omega) (fun b hb => by
      rw [testBit_or] at hb
      by_cases e : b = f i
      · exact ⟨i, by omega, e.symm⟩
      · rw [if_neg e] at hb
        obtain ⟨i', h1, h2⟩ := hs b hb
        exact ⟨i', by omega, h2⟩)
    rw [← hi]
    rw [e1] at p1 p2
    rw [List.range'_succ, List.map_cons]
    refine ⟨⟨f i, Wt ls i (f i), _, rfl, by rw [← hi]; exact g1, h0 i hil, hsf, p1⟩, ?_⟩
    show (ls.getD (ls.length - (j + 1)) []).getD (f i) 0 + pickSum ls j _ = _
    rw [p2, ← hi]
    show Wt ls i (f i) + _ = _
    have : sumF (fun i => Wt ls i (f i)) (i + 1) = sumF (fun i => Wt ls i (f i)) i + Wt ls i (f i) := rfl
    omega
theorem cho_le {ls : List (List Int)} (hT : isT ls = true) {f : Nat → Nat} (h : Cho ls.length f) (h0 : ∀ i, i < ls.length → 0 ≤ Wt ls i (f i)) : sumF (fun i => Wt ls i (f i)) ls.length ≤ heavy ls ls.length 0 := by
  obtain ⟨p1, p2⟩ := cho_pick hT h h0 ls.length 0 (Nat.le_refl _) (fun b hb => by simp at hb)
  have h1 := (heavy_ge ls _ _ _ p1).2
  rw [p2, Nat.sub_self] at h1
  have : sumF (fun i => Wt ls i (f i)) 0 = 0 := rfl
  omega

end Go.Proofs.Ytjbhnfejpgjghaa
