/- walkW's choice is a matching of greatest weight; paths of exchanges (plain). -/
import Derived.Test.YtjbhnfejpgjghaaOa
namespace Go.Proofs.Ytjbhnfejpgjghaa
open Go.RowKit
set_option linter.unusedSimpArgs false
set_option linter.unusedVariables false

def gx (xs : List Int) (j : Nat) : Nat := (xs.getD j 0).toNat
theorem gx_old {xs : List Int} {k : Int} {j : Nat} (h : j < xs.length) : gx (xs ++ [k]) j = gx xs j := by
  unfold gx
  rw [List.getD_eq_getElem?_getD, List.getElem?_append_left h, ← List.getD_eq_getElem?_getD]
theorem gx_new {xs : List Int} {k : Nat} : gx (xs ++ [(k : Int)]) xs.length = k := by
  unfold gx
  rw [List.getD_eq_getElem?_getD, List.getElem?_append_right (Nat.le_refl _)]
  simp

structure WI (ls : List (List Int)) (i : Nat) (xs : List Int) (s : Nat) (left : Int) : Prop where
  len : xs.length = i
  val : ∀ j, j < i → xs[j]? = some ((gx xs j : Nat) : Int) ∧ gx xs j < ls.length ∧ 0 ≤ Wt ls j (gx xs j)
  bit : ∀ b, s.testBit b = true ↔ ∃ j, j < i ∧ gx xs j = b
  inj : ∀ j j', j < i → j' < i → gx xs j = gx xs j' → j = j'
  lft : left = heavy ls (ls.length - i) s ∧ 0 ≤ left
  sum : sumF (fun j => Wt ls j (gx xs j)) i + left = heavy ls ls.length 0

theorem walk_inv {ls : List (List Int)} (hT : isT ls = true) (h0 : 0 ≤ heavy ls ls.length 0) : ∀ i, i ≤ ls.length → WI ls i (walkW ls i).1 (walkW ls i).2.1 (walkW ls i).2.2 := by
  intro i
  induction i with
  | zero =>
    intro _
    exact ⟨rfl, fun j hj => by omega, fun b => ⟨fun h => by simp [walkW] at h, fun ⟨j, hj, _⟩ => by omega⟩, fun j j' hj => by omega, ⟨rfl, h0⟩, by show (0 : Int) + heavy ls ls.length 0 = _; omega⟩
  | succ i ih =>
    intro hi
    have h := ih (by omega)
    have hlf := h.lft
    have e1 : ls.length - i = ls.length - (i + 1) + 1 := by omega
    have e2 : ls.length - (ls.length - (i + 1) + 1) = i := by omega
    have hf : ∃ k, leastW ls (walkW ls i).2.1 (walkW ls i).2.2 (ls.length - (i + 1)) 0 (ls.getD i []) = some k := by
      have := leastW_found (ls := ls) (s := (walkW ls i).2.1) (m := ls.length - (i + 1)) (by rw [← e1, ← hlf.1]; exact hlf.2)
      rw [e2, ← e1, ← hlf.1] at this
      exact this
    obtain ⟨k, hk⟩ := hf
    obtain ⟨p, x, e, hx, hx0, ht, h1, h2⟩ := leastW_some _ _ _ hk
    obtain ⟨l, -, hl, hll, hlx⟩ := isT_row hT (show i < ls.length by omega)
    have hp := (List.getElem?_eq_some_iff.1 hx).1
    rw [hl, hll] at hp
    have hkl : k < ls.length := by omega
    have hpk : p = k := by omega
    subst hpk
    have hxg : Wt ls i p = x := by
      unfold Wt
      rw [List.getD_eq_getElem?_getD, hx]
      rfl
    have hw : walkW ls (i + 1) = ((walkW ls i).1 ++ [(p : Int)], (walkW ls i).2.1 ||| 2 ^ p, (walkW ls i).2.2 - x) := by
      rw [walkW, hk]
      show (_, _, _ - Wt ls i p) = _
      rw [hxg]
    rw [hw]
    have hln := h.len
    have hold : ∀ j, j < i → gx ((walkW ls i).1 ++ [(p : Int)]) j = gx (walkW ls i).1 j := fun j hj => gx_old (by omega)
    have hnew : gx ((walkW ls i).1 ++ [(p : Int)]) i = p := by
      have := gx_new (xs := (walkW ls i).1) (k := p)
      rwa [hln] at this
    have hfree : ∀ j, j < i → gx (walkW ls i).1 j ≠ p := fun j hj e => by
      have := (h.bit p).2 ⟨j, hj, e⟩
      rw [ht] at this
      cases this
    refine ⟨by simp [hln], fun j hj => ?_, fun b => ?_, fun j j' hj hj' e => ?_, ⟨?_, ?_⟩, ?_⟩
    · by_cases ej : j = i
      · subst ej
        rw [hnew]
        refine ⟨?_, hkl, by rw [hxg]; exact hx0⟩
        rw [List.getElem?_append_right (by omega), hln]
        simp
      · rw [hold j (by omega)]
        obtain ⟨v1, v2, v3⟩ := h.val j (by omega)
        exact ⟨by rw [List.getElem?_append_left (by omega)]; exact v1, v2, v3⟩
    · rw [testBit_or]
      by_cases eb : b = p
      · rw [if_pos eb]
        exact ⟨fun _ => ⟨i, by omega, by rw [hnew, eb]⟩, fun _ => rfl⟩
      · rw [if_neg eb, h.bit b]
        constructor
        · rintro ⟨j, hj, e⟩
          exact ⟨j, by omega, by rw [hold j hj, e]⟩
        · rintro ⟨j, hj, e⟩
          by_cases ej : j = i
          · subst ej; rw [hnew] at e; exact absurd e.symm eb
          · exact ⟨j, by omega, by rw [hold j (by omega)] at e; exact e⟩
    · by_cases ej : j = i
      · by_cases ej' : j' = i
        · omega
        · exfalso
          subst ej
          rw [hnew, hold j' (by omega)] at e
          exact hfree j' (by omega) e.symm
      · by_cases ej' : j' = i
        · exfalso
          subst ej'
          rw [hnew, hold j (by omega)] at e
          exact hfree j (by omega) e
        · rw [hold j (by omega), hold j' (by omega)] at e
          exact h.inj j j' (by omega) (by omega) e
    · show _ - x = _
      rw [h2]
    · show 0 ≤ _ - x
      omega
    · show sumF (fun j => Wt ls j (gx ((walkW ls i).1 ++ [(p : Int)]) j)) i + Wt ls i (gx ((walkW ls i).1 ++ [(p : Int)]) i) + (_ - x) = _
      rw [hnew, hxg, sumF_congr (g := fun j => Wt ls j (gx (walkW ls i).1 j)) (fun j hj => by show Wt ls j _ = _; rw [hold j hj])]
      have := h.sum
      omega

/-- the matching that Weight tells -/
def mW (ls : List (List Int)) : Nat → Nat := gx (walkW ls ls.length).1
structure Mt (ls : List (List Int)) (m : Nat → Nat) : Prop where
  cho : Cho ls.length m
  pos : ∀ i, i < ls.length → 0 ≤ Wt ls i (m i)
  sum : sumF (fun i => Wt ls i (m i)) ls.length = heavy ls ls.length 0
theorem mW_mt {ls : List (List Int)} (hT : isT ls = true) (h0 : 0 ≤ heavy ls ls.length 0) : Mt ls (mW ls) := by
  have h := walk_inv hT h0 ls.length (Nat.le_refl _)
  refine ⟨⟨fun i hi => (h.val i hi).2.1, fun i j hi hj e => h.inj i j hi hj e⟩, fun i hi => (h.val i hi).2.2, ?_⟩
  have h1 := h.sum
  have h2 := h.lft.1
  rw [Nat.sub_self] at h2
  have h3 : heavy ls 0 (walkW ls ls.length).2.1 = 0 := rfl
  show sumF (fun j => Wt ls j (gx (walkW ls ls.length).1 j)) ls.length = _
  omega
theorem mW_list {ls : List (List Int)} (hT : isT ls = true) (h0 : 0 ≤ heavy ls ls.length 0) : (walkW ls ls.length).1 = (List.range ls.length).map fun i => ((mW ls i : Nat) : Int) := by
  have h := walk_inv hT h0 ls.length (Nat.le_refl _)
  apply List.ext_getElem?
  intro j
  by_cases hj : j < ls.length
  · rw [(h.val j hj).1]
    simp [hj, mW]
  · rw [List.getElem?_eq_none (by rw [h.len]; omega), List.getElem?_eq_none (by simp; omega)]

/-! ## round exchanges -/
section
variable (V : Nat → Nat → Int) (m : Nat → Nat)
def rot : (Nat → Nat) → Nat → List Nat → Nat → Nat
  | f, _, [] => f
  | f, a, b :: l => rot (sw f a b) a l
def lastv : Nat → List Nat → Nat
  | v, [] => v
  | _, b :: l => lastv (m b) l
def chain : Nat → List Nat → Int
  | _, [] => 0
  | v, b :: l => V b v - V b (m b) + chain (m b) l
def chainOk : Nat → List Nat → Prop
  | _, [] => True
  | v, b :: l => 0 ≤ V b v ∧ chainOk (m b) l
variable {V m}

theorem rot_other : ∀ (l : List Nat) (f : Nat → Nat) (a x : Nat), x ≠ a → x ∉ l → rot f a l x = f x := by
  intro l
  induction l with
  | nil => intro f a x _ _; rfl
  | cons b l ih =>
    intro f a x h1 h2
    show rot (sw f a b) a l x = _
    rw [ih _ _ _ h1 (fun h => h2 (List.mem_cons_of_mem _ h)), sw_o f h1 (fun e => h2 (e ▸ List.mem_cons_self ..))]
theorem rot_head : ∀ (l : List Nat) (f : Nat → Nat) (a : Nat), a ∉ l → l.Nodup → (∀ b ∈ l, f b = m b) → rot f a l a = lastv m (f a) l := by
  intro l
  induction l with
  | nil => intro f a _ _ _; rfl
  | cons b l ih =>
    intro f a ha hn hm
    have hab : a ≠ b := fun e => ha (e ▸ List.mem_cons_self ..)
    rw [List.nodup_cons] at hn
    show rot (sw f a b) a l a = lastv m (m b) l
    rw [ih _ _ (fun h => ha (List.mem_cons_of_mem _ h)) hn.2 (fun c hc => ?_), sw_a, hm b (List.mem_cons_self ..)]
    rw [sw_o f (fun (e : c = a) => ha (e ▸ List.mem_cons_of_mem _ hc)) (fun (e : c = b) => hn.1 (e ▸ hc))]
    exact hm c (List.mem_cons_of_mem _ hc)
theorem rot_sum (n : Nat) : ∀ (l : List Nat) (f : Nat → Nat) (a : Nat), a < n → (∀ b ∈ l, b < n) → a ∉ l → l.Nodup → (∀ b ∈ l, f b = m b) →
    sumF (fun x => V x (rot f a l x)) n + V a (f a) = sumF (fun x => V x (f x)) n + V a (lastv m (f a) l) + chain V m (f a) l := by
  intro l
  induction l with
  | nil => intro f a _ _ _ _ _; show _ = _ + V a (f a) + 0; rw [Int.add_zero]; rfl
  | cons b l ih =>
    intro f a ha hb hal hn hm
    have hab : a ≠ b := fun e => hal (e ▸ List.mem_cons_self ..)
    rw [List.nodup_cons] at hn
    have hfb := hm b (List.mem_cons_self ..)
    have h := ih (sw f a b) a ha (fun c hc => hb c (List.mem_cons_of_mem _ hc)) (fun h => hal (List.mem_cons_of_mem _ h)) hn.2 (fun c hc => by
      rw [sw_o f (fun (e : c = a) => hal (e ▸ List.mem_cons_of_mem _ hc)) (fun (e : c = b) => hn.1 (e ▸ hc))]
      exact hm c (List.mem_cons_of_mem _ hc))
    rw [sw_a, hfb] at h
    have hs := sw_sum V f hab ha (hb b (List.mem_cons_self ..))
    rw [hfb] at hs
    show sumF (fun x => V x (rot (sw f a b) a l x)) n + V a (f a) = _ + V a (lastv m (m b) l) + (V b (f a) - V b (m b) + chain V m (m b) l)
    omega
theorem rot_cho {n : Nat} : ∀ (l : List Nat) (f : Nat → Nat) (a : Nat), a < n → (∀ b ∈ l, b < n) → Cho n f → Cho n (rot f a l) := by
  intro l
  induction l with
  | nil => intro f a _ _ h; exact h
  | cons b l ih => intro f a ha hb h; exact ih _ _ ha (fun c hc => hb c (List.mem_cons_of_mem _ hc)) (h.sw ha (hb b (List.mem_cons_self ..)))
theorem rot_mem : ∀ (l : List Nat) (f : Nat → Nat) (a : Nat), a ∉ l → l.Nodup → (∀ b ∈ l, f b = m b) → chainOk V m (f a) l → ∀ x ∈ l, 0 ≤ V x (rot f a l x) := by
  intro l
  induction l with
  | nil => intro f a _ _ _ _ x hx; cases hx
  | cons b l ih =>
    intro f a hal hn hm hc x hx
    have hab : a ≠ b := fun e => hal (e ▸ List.mem_cons_self ..)
    rw [List.nodup_cons] at hn
    show 0 ≤ V x (rot (sw f a b) a l x)
    rcases List.mem_cons.1 hx with rfl | hx
    · rw [rot_other l _ a x (Ne.symm hab) hn.1, sw_b f hab]
      exact hc.1
    · refine ih (sw f a b) a (fun h => hal (List.mem_cons_of_mem _ h)) hn.2 (fun c hc => ?_) ?_ x hx
      · rw [sw_o f (fun (e : c = a) => hal (e ▸ List.mem_cons_of_mem _ hc)) (fun (e : c = b) => hn.1 (e ▸ hc))]
        exact hm c (List.mem_cons_of_mem _ hc)
      · rw [sw_a, hm b (List.mem_cons_self ..)]
        exact hc.2
end

/-- a round of exchanges gains nothing -/
theorem round_le {ls : List (List Int)} (hT : isT ls = true) {m : Nat → Nat} (hm : Mt ls m) {a : Nat} {l : List Nat} (ha : a < ls.length) (hl : ∀ b ∈ l, b < ls.length) (hn : (a :: l).Nodup)
    (hc : chainOk (Wt ls) m (m a) l) (h0 : 0 ≤ Wt ls a (lastv m (m a) l)) : Wt ls a (lastv m (m a) l) - Wt ls a (m a) + chain (Wt ls) m (m a) l ≤ 0 := by
  rw [List.nodup_cons] at hn
  have h1 := rot_sum (V := Wt ls) (m := m) ls.length l m a ha hl hn.1 hn.2 (fun _ _ => rfl)
  have h2 := cho_le hT (rot_cho l m a ha hl hm.cho) (fun x hx => by
    by_cases e : x = a
    · subst e
      rw [rot_head (m := m) l m x hn.1 hn.2 (fun _ _ => rfl)]
      exact h0
    · by_cases e2 : x ∈ l
      · exact rot_mem (m := m) l m a hn.1 hn.2 (fun _ _ => rfl) hc x e2
      · rw [rot_other l m a x e e2]
        exact hm.pos x hx)
  have h3 := hm.sum
  omega

end Go.Proofs.Ytjbhnfejpgjghaa
