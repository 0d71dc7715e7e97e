/- Matchings of greatest weight (plain): walkW's choice is one, no other weighs more; sums; cyclic changes. -/
import Derived.Test.YtjbhnfejpgjghaaNu
namespace Go.Proofs.Ytjbhnfejpgjghaa
open Go.RowKit
set_option linter.unusedSimpArgs false
set_option linter.unusedVariables false

def Wt (ls : List (List Int)) (i k : Nat) : Int := (ls.getD i []).getD k 0

theorem Wt_get {ls : List (List Int)} (hT : isT ls = true) {i k : Nat} (hi : i < ls.length) (hk : k < ls.length) : (ls.getD i [])[k]? = some (Wt ls i k) ∧ -1 ≤ Wt ls i k ∧ Wt ls i k ≤ 3 := by
  obtain ⟨l, hl, hg, hll, hx⟩ := isT_row hT hi
  unfold Wt
  rw [hg]
  have e : l[k]? = some l[k] := List.getElem?_eq_getElem (by omega)
  rw [List.getD_eq_getElem?_getD, e]
  exact ⟨rfl, hx _ (List.mem_of_getElem? e)⟩

/-! ## sums -/
def sumF (f : Nat → Int) : Nat → Int
  | 0 => 0
  | n + 1 => sumF f n + f n
theorem sumF_congr {f g : Nat → Int} : ∀ {n}, (∀ i, i < n → f i = g i) → sumF f n = sumF g n := by
  intro n
  induction n with
  | zero => intro _; rfl
  | succ n ih => intro h; show sumF f n + f n = sumF g n + g n; rw [ih fun i hi => h i (by omega), h n (by omega)]
theorem sumF_sub (f g : Nat → Int) : ∀ n, sumF (fun i => f i - g i) n = sumF f n - sumF g n := by
  intro n
  induction n with
  | zero => rfl
  | succ n ih => show sumF _ n + (f n - g n) = sumF f n + f n - (sumF g n + g n); rw [ih]; omega
theorem sumF_le {f g : Nat → Int} : ∀ {n}, (∀ i, i < n → f i ≤ g i) → sumF f n ≤ sumF g n := by
  intro n
  induction n with
  | zero => intro _; exact Int.le_refl _
  | succ n ih => intro h; show sumF f n + f n ≤ sumF g n + g n; have := ih fun i hi => h i (by omega); have := h n (by omega); omega
theorem sumF_lt {f g : Nat → Int} : ∀ {n}, (∀ i, i < n → f i ≤ g i) → ∀ j, j < n → f j < g j → sumF f n < sumF g n := by
  intro n
  induction n with
  | zero => intro _ j hj; omega
  | succ n ih =>
    intro h j hj hlt
    show sumF f n + f n < sumF g n + g n
    by_cases e : j = n
    · subst e
      have := sumF_le (n := j) fun i hi => h i (by omega)
      omega
    · have := ih (fun i hi => h i (by omega)) j (by omega) hlt
      have := h n (by omega)
      omega
theorem sumF_const (c : Int) : ∀ n : Nat, sumF (fun _ => c) n = c * n := by
  intro n
  induction n with
  | zero => simp [sumF]
  | succ n ih => show sumF _ n + c = _; rw [ih, Int.natCast_succ, Int.mul_add]; omega
theorem sumF_two {h : Nat → Int} {a b : Nat} (hab : a ≠ b) (h0 : ∀ x, x ≠ a → x ≠ b → h x = 0) : ∀ n, sumF h n = (if a < n then h a else 0) + (if b < n then h b else 0) := by
  intro n
  induction n with
  | zero => simp [sumF]
  | succ n ih =>
    show sumF h n + h n = _
    rw [ih]
    by_cases e1 : a = n
    · subst e1
      rw [if_neg (Nat.lt_irrefl a), if_pos (Nat.lt_succ_self a)]
      by_cases e2 : b < a
      · rw [if_pos e2, if_pos (by omega)]; omega
      · rw [if_neg e2, if_neg (by omega)]; omega
    · by_cases e2 : b = n
      · subst e2
        rw [if_neg (Nat.lt_irrefl b), if_pos (Nat.lt_succ_self b)]
        by_cases e3 : a < b
        · rw [if_pos e3, if_pos (by omega)]; omega
        · rw [if_neg e3, if_neg (by omega)]; omega
      · rw [h0 n (by omega) (by omega)]
        have q1 : (a < n) = (a < n + 1) := propext ⟨by omega, by omega⟩
        have q2 : (b < n) = (b < n + 1) := propext ⟨by omega, by omega⟩
        simp only [q1, q2]
        omega

/-! ## exchange of two -/
def sw (f : Nat → Nat) (a b : Nat) : Nat → Nat := fun x => if x = a then f b else if x = b then f a else f x
theorem sw_a (f : Nat → Nat) (a b : Nat) : sw f a b a = f b := by simp [sw]
theorem sw_b (f : Nat → Nat) {a b : Nat} (h : a ≠ b) : sw f a b b = f a := by simp [sw, Ne.symm h]
theorem sw_o (f : Nat → Nat) {a b x : Nat} (ha : x ≠ a) (hb : x ≠ b) : sw f a b x = f x := by simp [sw, ha, hb]
theorem sw_sum (V : Nat → Nat → Int) (f : Nat → Nat) {a b n : Nat} (hab : a ≠ b) (ha : a < n) (hb : b < n) :
    sumF (fun x => V x (sw f a b x)) n = sumF (fun x => V x (f x)) n + V a (f b) + V b (f a) - V a (f a) - V b (f b) := by
  have h := sumF_two (h := fun x => V x (sw f a b x) - V x (f x)) hab (fun x h1 h2 => by show V x (sw f a b x) - V x (f x) = 0; rw [sw_o f h1 h2]; omega) n
  rw [sumF_sub, if_pos ha, if_pos hb, sw_a, sw_b f hab] at h
  omega

/-- a choice of different columns, one for each row -/
structure Cho (n : Nat) (f : Nat → Nat) : Prop where
  lt : ∀ i, i < n → f i < n
  inj : ∀ i j, i < n → j < n → f i = f j → i = j
theorem Cho.sw {n : Nat} {f : Nat → Nat} (h : Cho n f) {a b : Nat} (ha : a < n) (hb : b < n) : Cho n (sw f a b) := by
  have hv : ∀ i, i < n → ∃ i', i' < n ∧ Proofs.Ytjbhnfejpgjghaa.sw f a b i = f i' ∧ (i' = if i = a then b else if i = b then a else i) := by
    intro i hi
    unfold Proofs.Ytjbhnfejpgjghaa.sw
    by_cases e1 : i = a
    · exact ⟨b, hb, by rw [if_pos e1], by rw [if_pos e1]⟩
    · by_cases e2 : i = b
      · exact ⟨a, ha, by rw [if_neg e1, if_pos e2], by rw [if_neg e1, if_pos e2]⟩
      · exact ⟨i, hi, by rw [if_neg e1, if_neg e2], by rw [if_neg e1, if_neg e2]⟩
  refine ⟨fun i hi => ?_, fun i j hi hj e => ?_⟩
  · obtain ⟨i', hi', e, -⟩ := hv i hi
    rw [e]; exact h.lt i' hi'
  · obtain ⟨i', hi', e1, q1⟩ := hv i hi
    obtain ⟨j', hj', e2, q2⟩ := hv j hj
    rw [e1, e2] at e
    have := h.inj i' j' hi' hj' e
    rw [q1, q2] at this
    split at this <;> split at this <;> (try split at this) <;> (try split at this) <;> omega

theorem nodup_len : ∀ (n : Nat) (l : List Nat), l.Nodup → (∀ x ∈ l, x < n) → l.length ≤ n := by
  intro n
  induction n with
  | zero =>
    intro l _ h
    cases l with
    | nil => exact Nat.le_refl _
    | cons x l => have := h x (List.mem_cons_self ..); omega
  | succ n ih =>
    intro l hn h
    by_cases hm : n ∈ l
    · have h1 := ih (l.erase n) (hn.erase n) (fun x hx => by
        have h2 := h x (List.mem_of_mem_erase hx)
        have h3 : x ≠ n := fun e => by
          subst e
          exact (List.Nodup.not_mem_erase hn) hx
        omega)
      rw [List.length_erase_of_mem hm] at h1
      omega
    · have := ih l hn fun x hx => by
        have h2 := h x hx
        have h3 : x ≠ n := fun e => hm (e ▸ hx)
        omega
      omega

theorem Cho.onto {n : Nat} {f : Nat → Nat} (h : Cho (n + 1) f) : ∃ j, j < n + 1 ∧ f j = n := by
  apply Classical.byContradiction
  intro hc
  have h1 : ((List.range (n + 1)).map f).Nodup := by
    unfold List.Nodup
    rw [List.pairwise_map]
    refine List.Pairwise.imp_of_mem ?_ (List.nodup_range (n := n + 1))
    intro a b ha hb hne e
    exact hne (h.inj a b (List.mem_range.1 ha) (List.mem_range.1 hb) e)
  have h2 := nodup_len n _ h1 (fun x hx => by
    obtain ⟨i, hi, rfl⟩ := List.mem_map.1 hx
    have h3 := h.lt i (List.mem_range.1 hi)
    have h4 : f i ≠ n := fun e => hc ⟨i, List.mem_range.1 hi, e⟩
    omega)
  simp at h2
  omega
theorem sum_perm (d : Nat → Int) : ∀ (n : Nat) (f : Nat → Nat), Cho n f → sumF (fun i => d (f i)) n = sumF d n := by
  intro n
  induction n with
  | zero => intro f _; rfl
  | succ n ih =>
    intro f h
    obtain ⟨j, hj, e⟩ := h.onto
    have key : ∀ g, Cho (n + 1) g → g n = n → sumF (fun i => d (g i)) (n + 1) = sumF d (n + 1) := by
      intro g hg en
      show sumF _ n + d (g n) = sumF d n + d n
      rw [en, ih g ⟨fun i hi => ?_, fun i j hi hj e => hg.inj i j (by omega) (by omega) e⟩]
      have h1 := hg.lt i (by omega)
      have h2 : g i ≠ n := fun e => by have := hg.inj i n (by omega) (by omega) (e.trans en.symm); omega
      omega
    by_cases hjn : j = n
    · subst hjn; exact key f h e
    · rw [← key (Proofs.Ytjbhnfejpgjghaa.sw f j n) (h.sw hj (by omega)) (by rw [sw_b f hjn]; exact e)]
      rw [sw_sum (fun _ v => d v) f hjn hj (by omega)]
      omega

/-! ## no choice weighs more -/
theorem cho_pick {ls : List (List Int)} (hT : isT ls = true) {f : Nat → Nat} (h : Cho ls.length f) (h0 : ∀ i, i < ls.length → 0 ≤ Wt ls i (f i)) :
    ∀ (j s : Nat), j ≤ ls.length → (∀ b, s.testBit b = true → ∃ i, i < ls.length - j ∧ f i = b) →
      Pick ls j s ((List.range' (ls.length - j) j).map f) ∧ pickSum ls j ((List.range' (ls.length - j) j).map f) = sumF (fun i => Wt ls i (f i)) ls.length - sumF (fun i => Wt ls i (f i)) (ls.length - j) := by
  intro j
  induction j with
  | zero => intro s _ _; exact ⟨rfl, by show (0 : Int) = _; rw [Nat.sub_zero]; omega⟩
  | succ j ih =>
    intro s hj hs
    obtain ⟨i, hi⟩ : ∃ i, i = ls.length - (j + 1) := ⟨_, rfl⟩
    have hil : i < ls.length := by omega
    have e1 : ls.length - j = i + 1 := by omega
    have hfi := h.lt i hil
    obtain ⟨g1, -, -⟩ := Wt_get hT hil hfi
    have hsf : s.testBit (f i) = false := by
      cases hb : s.testBit (f i) with
      | false => rfl
      | true =>
        obtain ⟨i', hi', e⟩ := hs _ hb
        have := h.inj i' i (by omega) hil e
        omega
    obtain ⟨p1, p2⟩ := ih (s ||| 2 ^ f i) (by omega) (fun b hb => by
      rw [testBit_or] at hb
      by_cases e : b = f i
      · exact ⟨i, by omega, e.symm⟩
      · rw [if_neg e] at hb
        obtain ⟨i', h1, h2⟩ := hs b hb
        exact ⟨i', by omega, h2⟩)
    rw [← hi]
    rw [e1] at p1 p2
    rw [List.range'_succ, List.map_cons]
    refine ⟨⟨f i, Wt ls i (f i), _, rfl, by rw [← hi]; exact g1, h0 i hil, hsf, p1⟩, ?_⟩
    show (ls.getD (ls.length - (j + 1)) []).getD (f i) 0 + pickSum ls j _ = _
    rw [p2, ← hi]
    show Wt ls i (f i) + _ = _
    have : sumF (fun i => Wt ls i (f i)) (i + 1) = sumF (fun i => Wt ls i (f i)) i + Wt ls i (f i) := rfl
    omega
theorem cho_le {ls : List (List Int)} (hT : isT ls = true) {f : Nat → Nat} (h : Cho ls.length f) (h0 : ∀ i, i < ls.length → 0 ≤ Wt ls i (f i)) : sumF (fun i => Wt ls i (f i)) ls.length ≤ heavy ls ls.length 0 := by
  obtain ⟨p1, p2⟩ := cho_pick hT h h0 ls.length 0 (Nat.le_refl _) (fun b hb => by simp at hb)
  have h1 := (heavy_ge ls _ _ _ p1).2
  rw [p2, Nat.sub_self] at h1
  have : sumF (fun i => Wt ls i (f i)) 0 = 0 := rfl
  omega

end Go.Proofs.Ytjbhnfejpgjghaa

/- walkW's choice is a matching of greatest weight; paths of exchanges (plain). -/
namespace Go.Proofs.Ytjbhnfejpgjghaa
open Go.RowKit
set_option linter.unusedSimpArgs false
set_option linter.unusedVariables false

def gx (xs : List Int) (j : Nat) : Nat := (xs.getD j 0).toNat
theorem gx_old {xs : List Int} {k : Int} {j : Nat} (h : j < xs.length) : gx (xs ++ [k]) j = gx xs j := by
  unfold gx
  rw [List.getD_eq_getElem?_getD, List.getElem?_append_left h, ← List.getD_eq_getElem?_getD]
theorem gx_new {xs : List Int} {k : Nat} : gx (xs ++ [(k : Int)]) xs.length = k := by
  unfold gx
  rw [List.getD_eq_getElem?_getD, List.getElem?_append_right (Nat.le_refl _)]
  simp

structure WI (ls : List (List Int)) (i : Nat) (xs : List Int) (s : Nat) (left : Int) : Prop where
  len : xs.length = i
  val : ∀ j, j < i → xs[j]? = some ((gx xs j : Nat) : Int) ∧ gx xs j < ls.length ∧ 0 ≤ Wt ls j (gx xs j)
  bit : ∀ b, s.testBit b = true ↔ ∃ j, j < i ∧ gx xs j = b
  inj : ∀ j j', j < i → j' < i → gx xs j = gx xs j' → j = j'
  lft : left = heavy ls (ls.length - i) s ∧ 0 ≤ left
  sum : sumF (fun j => Wt ls j (gx xs j)) i + left = heavy ls ls.length 0

theorem walk_inv {ls : List (List Int)} (hT : isT ls = true) (h0 : 0 ≤ heavy ls ls.length 0) : ∀ i, i ≤ ls.length → WI ls i (walkW ls i).1 (walkW ls i).2.1 (walkW ls i).2.2 := by
  intro i
  induction i with
  | zero =>
    intro _
    exact ⟨rfl, fun j hj => by omega, fun b => ⟨fun h => by simp [walkW] at h, fun ⟨j, hj, _⟩ => by omega⟩, fun j j' hj => by omega, ⟨rfl, h0⟩, by show (0 : Int) + heavy ls ls.length 0 = _; omega⟩
  | succ i ih =>
    intro hi
    have h := ih (by omega)
    have hlf := h.lft
    have e1 : ls.length - i = ls.length - (i + 1) + 1 := by omega
    have e2 : ls.length - (ls.length - (i + 1) + 1) = i := by omega
    have hf : ∃ k, leastW ls (walkW ls i).2.1 (walkW ls i).2.2 (ls.length - (i + 1)) 0 (ls.getD i []) = some k := by
      have := leastW_found (ls := ls) (s := (walkW ls i).2.1) (m := ls.length - (i + 1)) (by rw [← e1, ← hlf.1]; exact hlf.2)
      rw [e2, ← e1, ← hlf.1] at this
      exact this
    obtain ⟨k, hk⟩ := hf
    obtain ⟨p, x, e, hx, hx0, ht, h1, h2⟩ := leastW_some _ _ _ hk
    obtain ⟨l, -, hl, hll, hlx⟩ := isT_row hT (show i < ls.length by omega)
    have hp := (List.getElem?_eq_some_iff.1 hx).1
    rw [hl, hll] at hp
    have hkl : k < ls.length := by omega
    have hpk : p = k := by omega
    subst hpk
    have hxg : Wt ls i p = x := by
      unfold Wt
      rw [List.getD_eq_getElem?_getD, hx]
      rfl
    have hw : walkW ls (i + 1) = ((walkW ls i).1 ++ [(p : Int)], (walkW ls i).2.1 ||| 2 ^ p, (walkW ls i).2.2 - x) := by
      rw [walkW, hk]
      show (_, _, _ - Wt ls i p) = _
      rw [hxg]
    rw [hw]
    have hln := h.len
    have hold : ∀ j, j < i → gx ((walkW ls i).1 ++ [(p : Int)]) j = gx (walkW ls i).1 j := fun j hj => gx_old (by omega)
    have hnew : gx ((walkW ls i).1 ++ [(p : Int)]) i = p := by
      have := gx_new (xs := (walkW ls i).1) (k := p)
      rwa [hln] at this
    have hfree : ∀ j, j < i → gx (walkW ls i).1 j ≠ p := fun j hj e => by
      have := (h.bit p).2 ⟨j, hj, e⟩
      rw [ht] at this
      cases this
    refine ⟨by simp [hln], fun j hj => ?_, fun b => ?_, fun j j' hj hj' e => ?_, ⟨?_, ?_⟩, ?_⟩
    · by_cases ej : j = i
      · subst ej
        rw [hnew]
        refine ⟨?_, hkl, by rw [hxg]; exact hx0⟩
        rw [List.getElem?_append_right (by omega), hln]
        simp
      · rw [hold j (by omega)]
        obtain ⟨v1, v2, v3⟩ := h.val j (by omega)
        exact ⟨by rw [List.getElem?_append_left (by omega)]; exact v1, v2, v3⟩
    · rw [testBit_or]
      by_cases eb : b = p
      · rw [if_pos eb]
        exact ⟨fun _ => ⟨i, by omega, by rw [hnew, eb]⟩, fun _ => rfl⟩
      · rw [if_neg eb, h.bit b]
        constructor
        · rintro ⟨j, hj, e⟩
          exact ⟨j, by omega, by rw [hold j hj, e]⟩
        · rintro ⟨j, hj, e⟩
          by_cases ej : j = i
          · subst ej; rw [hnew] at e; exact absurd e.symm eb
          · exact ⟨j, by omega, by rw [hold j (by omega)] at e; exact e⟩
    · by_cases ej : j = i
      · by_cases ej' : j' = i
        · omega
        · exfalso
          subst ej
          rw [hnew, hold j' (by omega)] at e
          exact hfree j' (by omega) e.symm
      · by_cases ej' : j' = i
        · exfalso
          subst ej'
          rw [hnew, hold j (by omega)] at e
          exact hfree j (by omega) e
        · rw [hold j (by omega), hold j' (by omega)] at e
          exact h.inj j j' (by omega) (by omega) e
    · show _ - x = _
      rw [h2]
    · show 0 ≤ _ - x
      omega
    · show sumF (fun j => Wt ls j (gx ((walkW ls i).1 ++ [(p : Int)]) j)) i + Wt ls i (gx ((walkW ls i).1 ++ [(p : Int)]) i) + (_ - x) = _
      rw [hnew, hxg, sumF_congr (g := fun j => Wt ls j (gx (walkW ls i).1 j)) (fun j hj => by show Wt ls j _ = _; rw [hold j hj])]
      have := h.sum
      omega

/-- the matching that Weight tells -/
def mW (ls : List (List Int)) : Nat → Nat := gx (walkW ls ls.length).1
structure Mt (ls : List (List Int)) (m : Nat → Nat) : Prop where
  cho : Cho ls.length m
  pos : ∀ i, i < ls.length → 0 ≤ Wt ls i (m i)
  sum : sumF (fun i => Wt ls i (m i)) ls.length = heavy ls ls.length 0
theorem mW_mt {ls : List (List Int)} (hT : isT ls = true) (h0 : 0 ≤ heavy ls ls.length 0) : Mt ls (mW ls) := by
  have h := walk_inv hT h0 ls.length (Nat.le_refl _)
  refine ⟨⟨fun i hi => (h.val i hi).2.1, fun i j hi hj e => h.inj i j hi hj e⟩, fun i hi => (h.val i hi).2.2, ?_⟩
  have h1 := h.sum
  have h2 := h.lft.1
  rw [Nat.sub_self] at h2
  have h3 : heavy ls 0 (walkW ls ls.length).2.1 = 0 := rfl
  show sumF (fun j => Wt ls j (gx (walkW ls ls.length).1 j)) ls.length = _
  omega
theorem mW_list {ls : List (List Int)} (hT : isT ls = true) (h0 : 0 ≤ heavy ls ls.length 0) : (walkW ls ls.length).1 = (List.range ls.length).map fun i => ((mW ls i : Nat) : Int) := by
  have h := walk_inv hT h0 ls.length (Nat.le_refl _)
  apply List.ext_getElem?
  intro j
  by_cases hj : j < ls.length
  · rw [(h.val j hj).1]
    simp [hj, mW]
  · rw [List.getElem?_eq_none (by rw [h.len]; omega), List.getElem?_eq_none (by simp; omega)]

/-! ## round exchanges -/
section
variable (V : Nat → Nat → Int) (m : Nat → Nat)
def rot : (Nat → Nat) → Nat → List Nat → Nat → Nat
  | f, _, [] => f
  | f, a, b :: l => rot (sw f a b) a l
def lastv : Nat → List Nat → Nat
  | v, [] => v
  | _, b :: l => lastv (m b) l
def chain : Nat → List Nat → Int
  | _, [] => 0
  | v, b :: l => V b v - V b (m b) + chain (m b) l
def chainOk : Nat → List Nat → Prop
  | _, [] => True
  | v, b :: l => 0 ≤ V b v ∧ chainOk (m b) l
variable {V m}

theorem rot_other : ∀ (l : List Nat) (f : Nat → Nat) (a x : Nat), x ≠ a → x ∉ l → rot f a l x = f x := by
  intro l
  induction l with
  | nil => intro f a x _ _; rfl
  | cons b l ih =>
    intro f a x h1 h2
    show rot (sw f a b) a l x = _
    rw [ih _ _ _ h1 (fun h => h2 (List.mem_cons_of_mem _ h)), sw_o f h1 (fun e => h2 (e ▸ List.mem_cons_self ..))]
theorem rot_head : ∀ (l : List Nat) (f : Nat → Nat) (a : Nat), a ∉ l → l.Nodup → (∀ b ∈ l, f b = m b) → rot f a l a = lastv m (f a) l := by
  intro l
  induction l with
  | nil => intro f a _ _ _; rfl
  | cons b l ih =>
    intro f a ha hn hm
    have hab : a ≠ b := fun e => ha (e ▸ List.mem_cons_self ..)
    rw [List.nodup_cons] at hn
    show rot (sw f a b) a l a = lastv m (m b) l
    rw [ih _ _ (fun h => ha (List.mem_cons_of_mem _ h)) hn.2 (fun c hc => ?_), sw_a, hm b (List.mem_cons_self ..)]
    rw [sw_o f (fun (e : c = a) => ha (e ▸ List.mem_cons_of_mem _ hc)) (fun (e : c = b) => hn.1 (e ▸ hc))]
    exact hm c (List.mem_cons_of_mem _ hc)
theorem rot_sum (n : Nat) : ∀ (l : List Nat) (f : Nat → Nat) (a : Nat), a < n → (∀ b ∈ l, b < n) → a ∉ l → l.Nodup → (∀ b ∈ l, f b = m b) →
    sumF (fun x => V x (rot f a l x)) n + V a (f a) = sumF (fun x => V x (f x)) n + V a (lastv m (f a) l) + chain V m (f a) l := by
  intro l
  induction l with
  | nil => intro f a _ _ _ _ _; show _ = _ + V a (f a) + 0; rw [Int.add_zero]; rfl
  | cons b l ih =>
    intro f a ha hb hal hn hm
    have hab : a ≠ b := fun e => hal (e ▸ List.mem_cons_self ..)
    rw [List.nodup_cons] at hn
    have hfb := hm b (List.mem_cons_self ..)
    have h := ih (sw f a b) a ha (fun c hc => hb c (List.mem_cons_of_mem _ hc)) (fun h => hal (List.mem_cons_of_mem _ h)) hn.2 (fun c hc => by
      rw [sw_o f (fun (e : c = a) => hal (e ▸ List.mem_cons_of_mem _ hc)) (fun (e : c = b) => hn.1 (e ▸ hc))]
      exact hm c (List.mem_cons_of_mem _ hc))
    rw [sw_a, hfb] at h
    have hs := sw_sum V f hab ha (hb b (List.mem_cons_self ..))
    rw [hfb] at hs
    show sumF (fun x => V x (rot (sw f a b) a l x)) n + V a (f a) = _ + V a (lastv m (m b) l) + (V b (f a) - V b (m b) + chain V m (m b) l)
    omega
theorem rot_cho {n : Nat} : ∀ (l : List Nat) (f : Nat → Nat) (a : Nat), a < n → (∀ b ∈ l, b < n) → Cho n f → Cho n (rot f a l) := by
  intro l
  induction l with
  | nil => intro f a _ _ h; exact h
  | cons b l ih => intro f a ha hb h; exact ih _ _ ha (fun c hc => hb c (List.mem_cons_of_mem _ hc)) (h.sw ha (hb b (List.mem_cons_self ..)))
theorem rot_mem : ∀ (l : List Nat) (f : Nat → Nat) (a : Nat), a ∉ l → l.Nodup → (∀ b ∈ l, f b = m b) → chainOk V m (f a) l → ∀ x ∈ l, 0 ≤ V x (rot f a l x) := by
  intro l
  induction l with
  | nil => intro f a _ _ _ _ x hx; cases hx
  | cons b l ih =>
    intro f a hal hn hm hc x hx
    have hab : a ≠ b := fun e => hal (e ▸ List.mem_cons_self ..)
    rw [List.nodup_cons] at hn
    show 0 ≤ V x (rot (sw f a b) a l x)
    rcases List.mem_cons.1 hx with rfl | hx
    · rw [rot_other l _ a x (Ne.symm hab) hn.1, sw_b f hab]
      exact hc.1
    · refine ih (sw f a b) a (fun h => hal (List.mem_cons_of_mem _ h)) hn.2 (fun c hc => ?_) ?_ x hx
      · rw [sw_o f (fun (e : c = a) => hal (e ▸ List.mem_cons_of_mem _ hc)) (fun (e : c = b) => hn.1 (e ▸ hc))]
        exact hm c (List.mem_cons_of_mem _ hc)
      · rw [sw_a, hm b (List.mem_cons_self ..)]
        exact hc.2
end

/-- a round of exchanges gains nothing -/
theorem round_le {ls : List (List Int)} (hT : isT ls = true) {m : Nat → Nat} (hm : Mt ls m) {a : Nat} {l : List Nat} (ha : a < ls.length) (hl : ∀ b ∈ l, b < ls.length) (hn : (a :: l).Nodup)
    (hc : chainOk (Wt ls) m (m a) l) (h0 : 0 ≤ Wt ls a (lastv m (m a) l)) : Wt ls a (lastv m (m a) l) - Wt ls a (m a) + chain (Wt ls) m (m a) l ≤ 0 := by
  rw [List.nodup_cons] at hn
  have h1 := rot_sum (V := Wt ls) (m := m) ls.length l m a ha hl hn.1 hn.2 (fun _ _ => rfl)
  have h2 := cho_le hT (rot_cho l m a ha hl hm.cho) (fun x hx => by
    by_cases e : x = a
    · subst e
      rw [rot_head (m := m) l m x hn.1 hn.2 (fun _ _ => rfl)]
      exact h0
    · by_cases e2 : x ∈ l
      · exact rot_mem (m := m) l m a hn.1 hn.2 (fun _ _ => rfl) hc x e2
      · rw [rot_other l m a x e e2]
        exact hm.pos x hx)
  have h3 := hm.sum
  omega

end Go.Proofs.Ytjbhnfejpgjghaa

/- Offsets (plain): the passes, their bound, their end. -/
namespace Go.Proofs.Ytjbhnfejpgjghaa
open Go.RowKit
set_option linter.unusedSimpArgs false
set_option linter.unusedVariables false

section
variable (V : Nat → Nat → Int) (m : Nat → Nat)
def pw : Nat → List Nat → Int
  | _, [] => 0
  | a, b :: l => V b (m a) - V a (m a) + pw b l
variable {V m}
theorem pw_split : ∀ (q : List Nat) (a i : Nat) (r : List Nat), pw V m a (q ++ i :: r) = pw V m a (q ++ [i]) + pw V m i r := by
  intro q
  induction q with
  | nil => intro a i r; show _ + pw V m i r = _ + 0 + _; omega
  | cons b q ih => intro a i r; show _ + pw V m b (q ++ i :: r) = _ + pw V m b (q ++ [i]) + _; rw [ih]; omega
theorem pw_chain : ∀ (q : List Nat) (a i : Nat), pw V m a (q ++ [i]) = chain V m (m a) (q ++ [i]) + V i (m i) - V a (m a) := by
  intro q
  induction q with
  | nil => intro a i; show V i (m a) - V a (m a) + 0 = V i (m a) - V i (m i) + 0 + _ - _; omega
  | cons b q ih => intro a i; show _ - _ + pw V m b (q ++ [i]) = _ - _ + chain V m (m b) (q ++ [i]) + _ - _; rw [ih]; omega
theorem lastv_snoc : ∀ (q : List Nat) (v i : Nat), lastv m v (q ++ [i]) = m i := by
  intro q
  induction q with
  | nil => intro v i; rfl
  | cons b q ih => intro v i; exact ih _ _
theorem chainOk_split : ∀ (q : List Nat) (v i : Nat) (r : List Nat), chainOk V m v (q ++ i :: r) → chainOk V m v (q ++ [i]) ∧ chainOk V m (m i) r := by
  intro q
  induction q with
  | nil => intro v i r h; exact ⟨⟨h.1, trivial⟩, h.2⟩
  | cons b q ih => intro v i r h; exact ⟨⟨h.1, (ih _ _ _ h.2).1⟩, (ih _ _ _ h.2).2⟩
end

structure Pth (ls : List (List Int)) (m : Nat → Nat) (a : Nat) (l : List Nat) : Prop where
  lt : ∀ x ∈ a :: l, x < ls.length
  nd : (a :: l).Nodup
  ok : chainOk (Wt ls) m (m a) l

theorem Pth.ext {ls : List (List Int)} (hT : isT ls = true) {m : Nat → Nat} (hm : Mt ls m) {a i : Nat} {l : List Nat} (h : Pth ls m a l) (hi : i < ls.length) (h0 : 0 ≤ Wt ls a (m i)) :
    ∃ l', Pth ls m i l' ∧ pw (Wt ls) m a l + Wt ls a (m i) - Wt ls i (m i) ≤ pw (Wt ls) m i l' := by
  by_cases hmem : i ∈ a :: l
  · rcases List.mem_cons.1 hmem with rfl | hil
    · exact ⟨l, h, by omega⟩
    · obtain ⟨q, r, rfl⟩ := List.append_of_mem hil
      have hnd := h.nd
      have hsub1 : (a :: (q ++ [i])).Sublist (a :: (q ++ i :: r)) := by
        refine List.Sublist.cons_cons _ (List.Sublist.append (List.Sublist.refl q) ?_)
        exact List.Sublist.cons_cons _ (List.nil_sublist _)
      have hsub2 : (i :: r).Sublist (a :: (q ++ i :: r)) := List.Sublist.cons _ (List.sublist_append_right _ _)
      obtain ⟨k1, k2⟩ := chainOk_split q _ i r h.ok
      have hr := round_le hT hm (a := a) (l := q ++ [i]) (h.lt a (List.mem_cons_self ..)) (fun b hb => h.lt b (hsub1.subset (List.mem_cons_of_mem _ hb))) (hnd.sublist hsub1) k1 (by rw [lastv_snoc]; exact h0)
      rw [lastv_snoc] at hr
      refine ⟨r, ⟨fun x hx => h.lt x (hsub2.subset hx), hnd.sublist hsub2, k2⟩, ?_⟩
      rw [pw_split, pw_chain]
      omega
  · refine ⟨a :: l, ⟨fun x hx => ?_, List.nodup_cons.2 ⟨hmem, h.nd⟩, ⟨h0, h.ok⟩⟩, ?_⟩
    · rcases List.mem_cons.1 hx with rfl | hx
      · exact hi
      · exact h.lt x hx
    · show _ ≤ Wt ls a (m i) - Wt ls i (m i) + pw (Wt ls) m a l
      omega
theorem Pth.le {ls : List (List Int)} (hT : isT ls = true) {m : Nat → Nat} (hm : Mt ls m) : ∀ (l : List Nat) (a : Nat), Pth ls m a l → pw (Wt ls) m a l ≤ 3 * (l.length : Int) := by
  intro l
  induction l with
  | nil => intro a _; show (0 : Int) ≤ _; simp
  | cons b l ih =>
    intro a h
    have h1 := ih b ⟨fun x hx => h.lt x (List.mem_cons_of_mem _ hx), (List.nodup_cons.1 h.nd).2, h.ok.2⟩
    have ha := h.lt a (List.mem_cons_self ..)
    have hb := h.lt b (List.mem_cons_of_mem _ (List.mem_cons_self ..))
    have h2 := (Wt_get hT hb (hm.cho.lt a ha)).2.2
    have h3 := hm.pos a ha
    show Wt ls b (m a) - Wt ls a (m a) + pw (Wt ls) m b l ≤ _
    simp only [List.length_cons]
    omega
theorem Pth.bd {ls : List (List Int)} (hT : isT ls = true) {m : Nat → Nat} (hm : Mt ls m) {l : List Nat} {a : Nat} (h : Pth ls m a l) : pw (Wt ls) m a l ≤ 30 := by
  have h1 := Pth.le hT hm l a h
  have h2 := nodup_len ls.length (a :: l) h.nd h.lt
  have h3 := (isT_of hT).2.1
  simp at h2
  omega

/-! ## the passes -/
def dk (V : Nat → Nat → Int) (c : Nat → Int) (k : Nat) : Nat → Int → Int
  | 0, x => x
  | i + 1, x => if 0 ≤ V i k then max (dk V c k i x) (V i k + c i) else dk V c k i x
theorem dk_le (V : Nat → Nat → Int) (c : Nat → Int) (k : Nat) (x : Int) : ∀ i, x ≤ dk V c k i x := by
  intro i
  induction i with
  | zero => exact Int.le_refl _
  | succ i ih => unfold dk; split <;> omega
theorem dk_ge {V : Nat → Nat → Int} {c : Nat → Int} {k : Nat} {x : Int} : ∀ {n i}, i < n → 0 ≤ V i k → V i k + c i ≤ dk V c k n x := by
  intro n
  induction n with
  | zero => intro i hi; omega
  | succ n ih =>
    intro i hi h0
    unfold dk
    by_cases e : i = n
    · subst e
      rw [if_pos h0]; omega
    · have := ih (i := i) (by omega) h0
      split <;> omega
theorem dk_get {V : Nat → Nat → Int} {c : Nat → Int} {k : Nat} {x : Int} : ∀ n, dk V c k n x = x ∨ ∃ i, i < n ∧ 0 ≤ V i k ∧ dk V c k n x = V i k + c i := by
  intro n
  induction n with
  | zero => exact .inl rfl
  | succ n ih =>
    have up : (dk V c k n x = x ∨ ∃ i, i < n ∧ 0 ≤ V i k ∧ dk V c k n x = V i k + c i) → (dk V c k n x = x ∨ ∃ i, i < n + 1 ∧ 0 ≤ V i k ∧ dk V c k n x = V i k + c i) := fun h => h.imp id fun ⟨i, h1, h2, h3⟩ => ⟨i, by omega, h2, h3⟩
    unfold dk
    by_cases h0 : 0 ≤ V n k
    · rw [if_pos h0]
      by_cases h1 : dk V c k n x ≤ V n k + c n
      · exact .inr ⟨n, by omega, h0, by omega⟩
      · rw [show max (dk V c k n x) (V n k + c n) = dk V c k n x by omega]
        exact up ih
    · rw [if_neg h0]
      exact up ih
theorem dk_congr {V : Nat → Nat → Int} {c c' : Nat → Int} {k : Nat} {x : Int} : ∀ {n}, (∀ i, i < n → c i = c' i) → dk V c k n x = dk V c' k n x := by
  intro n
  induction n with
  | zero => intro _; rfl
  | succ n ih => intro h; unfold dk; rw [ih fun i hi => h i (by omega), h n (by omega)]

abbrev CD := (Nat → Int) × (Nat → Int)
def stp (V : Nat → Nat → Int) (m : Nat → Nat) (n : Nat) (s : CD) : CD :=
  (fun i => dk V s.1 (m i) n (s.2 (m i)) - V i (m i), fun k => dk V s.1 k n (s.2 k))
def orb (V : Nat → Nat → Int) (m : Nat → Nat) (n : Nat) : Nat → CD
  | 0 => (fun _ => 0, fun _ => 0)
  | t + 1 => stp V m n (orb V m n t)
def Eqn (n : Nat) (s s' : CD) : Prop := (∀ i, i < n → s.1 i = s'.1 i) ∧ ∀ k, k < n → s.2 k = s'.2 k
theorem Eqn.refl (n : Nat) (s : CD) : Eqn n s s := ⟨fun _ _ => rfl, fun _ _ => rfl⟩
theorem Eqn.symm {n : Nat} {s s' : CD} (h : Eqn n s s') : Eqn n s' s := ⟨fun i hi => (h.1 i hi).symm, fun i hi => (h.2 i hi).symm⟩
theorem Eqn.trans {n : Nat} {s s' s'' : CD} (h : Eqn n s s') (k : Eqn n s' s'') : Eqn n s s'' := ⟨fun i hi => (h.1 i hi).trans (k.1 i hi), fun i hi => (h.2 i hi).trans (k.2 i hi)⟩
theorem Eqn.stp {V : Nat → Nat → Int} {m : Nat → Nat} {n : Nat} {s s' : CD} (hm : ∀ i, i < n → m i < n) (h : Eqn n s s') : Eqn n (stp V m n s) (stp V m n s') := by
  have hd : ∀ k, k < n → dk V s.1 k n (s.2 k) = dk V s'.1 k n (s'.2 k) := fun k hk => by rw [h.2 k hk]; exact dk_congr h.1
  exact ⟨fun i hi => by show dk V s.1 (m i) n (s.2 (m i)) - _ = dk V s'.1 (m i) n (s'.2 (m i)) - _; rw [hd _ (hm i hi)], hd⟩
/-- a pass changes nothing -/
def Fixd (V : Nat → Nat → Int) (m : Nat → Nat) (n t : Nat) : Prop := Eqn n (orb V m n (t + 1)) (orb V m n t)
theorem Fixd.later {V : Nat → Nat → Int} {m : Nat → Nat} {n t : Nat} (hm : ∀ i, i < n → m i < n) (h : Fixd V m n t) : ∀ u, Eqn n (orb V m n (t + u)) (orb V m n t) := by
  intro u
  induction u with
  | zero => exact Eqn.refl _ _
  | succ u ih => exact (Eqn.stp hm ih).trans h
theorem Fixd.uniq {V : Nat → Nat → Int} {m : Nat → Nat} {n t t' : Nat} (hm : ∀ i, i < n → m i < n) (h : Fixd V m n t) (h' : Fixd V m n t') : Eqn n (orb V m n t) (orb V m n t') := by
  rcases Nat.le_total t t' with e | e
  · have := h.later hm (t' - t)
    rw [show t + (t' - t) = t' by omega] at this
    exact this.symm
  · have := h'.later hm (t - t')
    rw [show t' + (t - t') = t by omega] at this
    exact this

structure OInv (ls : List (List Int)) (m : Nat → Nat) (s : CD) : Prop where
  c0 : ∀ i, i < ls.length → 0 ≤ s.1 i
  pth : ∀ i, i < ls.length → ∃ l, Pth ls m i l ∧ s.1 i ≤ pw (Wt ls) m i l
  d0 : ∀ k, k < ls.length → 0 ≤ s.2 k
  dd : ∀ k, k < ls.length → s.2 k = 0 ∨ ∃ i, i < ls.length ∧ 0 ≤ Wt ls i k ∧ s.2 k ≤ Wt ls i k + s.1 i
theorem OInv.up {ls : List (List Int)} {m : Nat → Nat} (hm : Mt ls m) (s : CD) : ∀ i, i < ls.length → s.1 i ≤ (stp (Wt ls) m ls.length s).1 i := by
  intro i hi
  have := dk_ge (V := Wt ls) (c := s.1) (k := m i) (x := s.2 (m i)) hi (hm.pos i hi)
  show _ ≤ dk (Wt ls) s.1 (m i) ls.length (s.2 (m i)) - Wt ls i (m i)
  omega
theorem OInv.stp {ls : List (List Int)} (hT : isT ls = true) {m : Nat → Nat} (hm : Mt ls m) {s : CD} (h : OInv ls m s) : OInv ls m (stp (Wt ls) m ls.length s) := by
  have hup := OInv.up hm s
  have hd : ∀ k, k < ls.length → dk (Wt ls) s.1 k ls.length (s.2 k) = 0 ∨ ∃ i, i < ls.length ∧ 0 ≤ Wt ls i k ∧ dk (Wt ls) s.1 k ls.length (s.2 k) ≤ Wt ls i k + s.1 i := by
    intro k hk
    rcases dk_get (V := Wt ls) (c := s.1) (k := k) (x := s.2 k) ls.length with e | ⟨i, h1, h2, h3⟩
    · rw [e]; exact h.dd k hk
    · exact .inr ⟨i, h1, h2, by omega⟩
  refine ⟨fun i hi => Int.le_trans (h.c0 i hi) (hup i hi), fun i hi => ?_, fun k hk => Int.le_trans (h.d0 k hk) (dk_le _ _ _ _ _), fun k hk => ?_⟩
  · rcases hd (m i) (hm.cho.lt i hi) with e | ⟨j, h1, h2, h3⟩
    · refine ⟨[], ⟨fun x hx => by simp at hx; omega, by simp, trivial⟩, ?_⟩
      show dk (Wt ls) s.1 (m i) ls.length (s.2 (m i)) - Wt ls i (m i) ≤ 0
      have := hm.pos i hi
      omega
    · obtain ⟨l, p1, p2⟩ := h.pth j h1
      obtain ⟨l', p3, p4⟩ := p1.ext hT hm hi h2
      refine ⟨l', p3, ?_⟩
      show dk (Wt ls) s.1 (m i) ls.length (s.2 (m i)) - Wt ls i (m i) ≤ _
      omega
  · rcases hd k hk with e | ⟨j, h1, h2, h3⟩
    · exact .inl e
    · exact .inr ⟨j, h1, h2, Int.le_trans h3 (by have := hup j h1; omega)⟩
theorem OInv.orb {ls : List (List Int)} (hT : isT ls = true) {m : Nat → Nat} (hm : Mt ls m) : ∀ t, OInv ls m (orb (Wt ls) m ls.length t) := by
  intro t
  induction t with
  | zero => exact ⟨fun _ _ => Int.le_refl _, fun i hi => ⟨[], ⟨fun x hx => by simp at hx; omega, by simp, trivial⟩, Int.le_refl _⟩, fun _ _ => Int.le_refl _, fun _ _ => .inl rfl⟩
  | succ t ih => exact ih.stp hT hm
theorem OInv.bd {ls : List (List Int)} (hT : isT ls = true) {m : Nat → Nat} (hm : Mt ls m) {s : CD} (h : OInv ls m s) : (∀ i, i < ls.length → 0 ≤ s.1 i ∧ s.1 i ≤ 30) ∧ ∀ k, k < ls.length → 0 ≤ s.2 k ∧ s.2 k ≤ 33 := by
  have h1 : ∀ i, i < ls.length → 0 ≤ s.1 i ∧ s.1 i ≤ 30 := fun i hi => by
    obtain ⟨l, p1, p2⟩ := h.pth i hi
    exact ⟨h.c0 i hi, Int.le_trans p2 (p1.bd hT hm)⟩
  refine ⟨h1, fun k hk => ⟨h.d0 k hk, ?_⟩⟩
  rcases h.dd k hk with e | ⟨i, i1, i2, i3⟩
  · omega
  · have := (Wt_get hT i1 hk).2.2
    have := (h1 i i1).2
    omega

/-- the offsets, the error -/
def OffR (ls : List (List Int)) (zs ys : List Int) (er : Int) : Prop :=
  (isT ls = false ∧ zs = [] ∧ ys = [] ∧ er = 1) ∨ (isT ls = true ∧ heavy ls ls.length 0 < 0 ∧ zs = [] ∧ ys = [] ∧ er = 4) ∨
  (isT ls = true ∧ 0 ≤ heavy ls ls.length 0 ∧ er = 0 ∧ ∃ t, Fixd (Wt ls) (mW ls) ls.length t ∧ zs = (List.range ls.length).map (orb (Wt ls) (mW ls) ls.length t).1 ∧ ys = (List.range ls.length).map (orb (Wt ls) (mW ls) ls.length t).2)
theorem OffR.uniq {ls : List (List Int)} {zs ys zs' ys' : List Int} {er er' : Int} (h : OffR ls zs ys er) (h' : OffR ls zs' ys' er') : zs = zs' ∧ ys = ys' ∧ er = er' := by
  rcases h with ⟨a1, rfl, rfl, rfl⟩ | ⟨a1, a2, rfl, rfl, rfl⟩ | ⟨a1, a2, rfl, t, a3, rfl, rfl⟩ <;> rcases h' with ⟨b1, rfl, rfl, rfl⟩ | ⟨b1, b2, rfl, rfl, rfl⟩ | ⟨b1, b2, rfl, t', b3, rfl, rfl⟩ <;> (first | exact ⟨rfl, rfl, rfl⟩ | (exact absurd (a1.symm.trans b1) (by decide)) | (exfalso; omega) | skip)
  have h := a3.uniq (mW_mt a1 a2).cho.lt b3
  exact ⟨List.map_congr_left fun i hi => h.1 i (List.mem_range.1 hi), List.map_congr_left fun i hi => h.2 i (List.mem_range.1 hi), rfl⟩

end Go.Proofs.Ytjbhnfejpgjghaa
