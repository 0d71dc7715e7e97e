/- Plain laws of trees that are joined: what stands for a node, how many there are, which have a root, which are told. -/
import Derived.Test.YtgoojlnfobjplaaFa
namespace Go.Proofs.Ytgoojlnfobjplaa
open Go.RowKit
set_option linter.unusedSimpArgs false
set_option linter.unusedVariables false

/-- from x, d steps up, stands r -/
inductive Top (f : Nat → Option Nat) : Nat → Nat → Nat → Prop
  | root {x : Nat} : f x = none → Top f x 0 x
  | step {x u d r : Nat} : f x = some u → Top f u d r → Top f x (d + 1) r

section
variable {f : Nat → Option Nat} {x d r d' r' : Nat}
theorem Top.none_at (h : Top f x d r) : f r = none := by
  induction h with
  | root h => exact h
  | step _ _ ih => exact ih
theorem Top.det (h : Top f x d r) : ∀ {d' r' : Nat}, Top f x d' r' → d = d' ∧ r = r' := by
  induction h with
  | root h =>
    intro d' r' h'
    cases h' with
    | root _ => exact ⟨rfl, rfl⟩
    | step h2 _ => rw [h] at h2; cases h2
  | step h1 _ ih =>
    intro d' r' h'
    cases h' with
    | root h2 => rw [h1] at h2; cases h2
    | step h2 h3 =>
      rw [h1] at h2
      injection h2 with h2
      subst h2
      obtain ⟨e1, e2⟩ := ih h3
      exact ⟨by rw [e1], e2⟩
theorem Top.ne {u : Nat} (h : Top f x d r) (hu : f x = some u) : u ≠ x := by
  rintro rfl
  cases h with
  | root h => rw [h] at hu; cases hu
  | step h1 h2 =>
    rw [hu] at h1
    injection h1 with h1
    subst h1
    have h3 := h2.det (Top.step hu h2)
    omega
theorem Top.join {a b : Nat} (h : Top f x d r) (ha : f a = none) (hb : f b = none) (hab : a ≠ b) : ∃ d', Top (upd f b (some a)) x d' (if r = b then a else r) := by
  induction h with
  | @root x h =>
    by_cases e : x = b
    · subst e
      rw [if_pos rfl]
      exact ⟨1, .step (u := a) (by simp [upd]) (.root (by simp [upd, hab, ha]))⟩
    · rw [if_neg e]
      exact ⟨0, .root (by simp [upd, e, h])⟩
  | @step x u d r h1 h2 ih =>
    obtain ⟨d', hd⟩ := ih
    have e : x ≠ b := by
      rintro rfl
      rw [h1] at hb
      cases hb
    exact ⟨d' + 1, .step (u := u) (by simp [upd, e, h1]) hd⟩
end

/-- R x stands for x -/
def UF (n : Nat) (f : Nat → Option Nat) (R : Nat → Nat) : Prop :=
  (∀ x, x < n → (∃ d, Top f x d (R x)) ∧ R x < n) ∧ ∀ x u, f x = some u → u < n

def jn (R : Nat → Nat) (x y : Nat) : Nat → Nat := fun z => if R z = R y then R x else R z

section
variable {n : Nat} {f : Nat → Option Nat} {R : Nat → Nat}
theorem UF.start (n : Nat) : UF n (fun _ => none) (fun x => x) := ⟨fun _ h => ⟨⟨0, .root rfl⟩, h⟩, fun _ _ h => by cases h⟩
theorem UF.at (h : UF n f R) {x : Nat} (hx : x < n) : ∃ d, Top f x d (R x) := (h.1 x hx).1
theorem UF.lt (h : UF n f R) {x : Nat} (hx : x < n) : R x < n := (h.1 x hx).2
theorem UF.none_at (h : UF n f R) {x : Nat} (hx : x < n) : f (R x) = none := by obtain ⟨d, hd⟩ := h.at hx; exact hd.none_at
theorem UF.idem (h : UF n f R) {x : Nat} (hx : x < n) : R (R x) = R x := by
  obtain ⟨d, hd⟩ := h.at (h.lt hx)
  exact ((Top.root (h.none_at hx)).det hd).2.symm
theorem UF.join (h : UF n f R) {x y : Nat} (hx : x < n) (hy : y < n) (hne : R x ≠ R y) : UF n (upd f (R y) (some (R x))) (jn R x y) := by
  refine ⟨fun z hz => ?_, fun z u hz => ?_⟩
  · obtain ⟨d, hd⟩ := h.at hz
    refine ⟨hd.join (h.none_at hx) (h.none_at hy) hne, ?_⟩
    unfold jn
    split
    · exact h.lt hx
    · exact h.lt hz
  · unfold upd at hz
    split at hz
    · injection hz with hz
      subst hz
      exact h.lt hx
    · exact h.2 z u hz
end

/-- how many below n are so -/
def cnt (p : Nat → Bool) : Nat → Nat
  | 0 => 0
  | n + 1 => cnt p n + if p n then 1 else 0

theorem cnt_congr {p q : Nat → Bool} : ∀ {n : Nat}, (∀ x, x < n → p x = q x) → cnt p n = cnt q n
  | 0, _ => rfl
  | n + 1, h => by
    unfold cnt
    rw [cnt_congr (fun x hx => h x (by omega)), h n (by omega)]
theorem cnt_all : ∀ n : Nat, cnt (fun _ => true) n = n
  | 0 => rfl
  | n + 1 => by unfold cnt; rw [cnt_all n]; rfl
theorem cnt_remove {p q : Nat → Bool} {y : Nat} : ∀ {n : Nat}, y < n → p y = true → (∀ x, x < n → q x = (p x && x != y)) → cnt q n + 1 = cnt p n
  | 0, h, _, _ => by omega
  | n + 1, h, hp, hq => by
    unfold cnt
    rcases Nat.lt_or_ge y n with h1 | h1
    · have := cnt_remove h1 hp (fun x hx => hq x (by omega))
      have e : q n = p n := by rw [hq n (by omega)]; simp; intro _; omega
      rw [e]
      omega
    · obtain rfl : y = n := by omega
      have e : q y = false := by rw [hq y (by omega)]; simp
      have e2 : cnt q y = cnt p y := cnt_congr (fun x hx => by rw [hq x (by omega)]; simp; omega)
      rw [e, e2, hp]
      simp
theorem cnt_inj {p : Nat → Bool} (g : Nat → Nat) {m : Nat} : ∀ {n : Nat} {q : Nat → Bool}, (∀ x, x < n → p x = true → g x < m ∧ q (g x) = true) → (∀ x y, x < n → y < n → p x = true → p y = true → g x = g y → x = y) → cnt p n ≤ cnt q m
  | 0, q, _, _ => Nat.zero_le _
  | n + 1, q, h1, h2 => by
    show cnt p n + (if p n then 1 else 0) ≤ cnt q m
    cases hp : p n
    · have := cnt_inj g (n := n) (fun x hx => h1 x (by omega)) (fun x y hx hy => h2 x y (by omega) (by omega)) (q := q)
      simpa using this
    · obtain ⟨h3, h4⟩ := h1 n (by omega) hp
      have e := cnt_remove (p := q) (q := fun x => q x && x != g n) h3 h4 (fun _ _ => rfl)
      have := cnt_inj g (n := n) (q := fun x => q x && x != g n) (fun x hx hpx => ⟨(h1 x (by omega) hpx).1, by
        simp
        exact ⟨(h1 x (by omega) hpx).2, fun e => by have := h2 x n (by omega) (by omega) hpx hp e; omega⟩⟩) (fun x y hx hy => h2 x y (by omega) (by omega))
      simp
      omega

/-- how many trees there are -/
def trees (n : Nat) (R : Nat → Nat) : Nat := cnt (fun r => R r == r) n

theorem trees_start (n : Nat) : trees n (fun x => x) = n := by
  unfold trees
  rw [show (fun r : Nat => r == r) = fun _ => true by funext r; simp]
  exact cnt_all n

theorem UF.fewer {n : Nat} {f : Nat → Option Nat} {R : Nat → Nat} (h : UF n f R) {x y : Nat} (hx : x < n) (hy : y < n) (hne : R x ≠ R y) : trees n (jn R x y) + 1 = trees n R := by
  refine cnt_remove (h.lt hy) (by simpa using h.idem hy) (fun r hr => ?_)
  unfold jn
  have e1 := h.idem hx
  have e2 := h.idem hy
  have e3 := h.idem hr
  by_cases e : R r = R y
  · rw [if_pos e]
    rw [Bool.eq_iff_iff]
    simp
    constructor
    · intro h1
      rw [← h1, e1] at e
      exact absurd e hne
    · rintro ⟨h1, h2⟩
      exact absurd (h1.symm.trans e) h2
  · rw [if_neg e]
    rw [Bool.eq_iff_iff]
    simp
    intro h1 h2
    rw [h2, e2] at e
    exact e rfl

/-- G: whether the tree of one that stands has a root; I: the roots; no tree has two -/
def RT (n : Nat) (R : Nat → Nat) (G I : Nat → Bool) : Prop :=
  (∀ r, r < n → R r = r → (G r = true ↔ ∃ k, k < n ∧ I k = true ∧ R k = r)) ∧ ∀ k k', k < n → k' < n → I k = true → I k' = true → R k = R k' → k = k'

theorem RT.start (n : Nat) (R : Nat → Nat) : RT n R (fun _ => false) (fun _ => false) := ⟨fun _ _ _ => by simp, fun _ _ _ _ h => by simp at h⟩

section
variable {n : Nat} {f : Nat → Option Nat} {R : Nat → Nat} {G I : Nat → Bool}
theorem RT.root (h : RT n R G I) (hU : UF n f R) {k : Nat} (hk : k < n) (hG : G (R k) = false) : RT n R (upd G (R k) true) (upd I k true) := by
  obtain ⟨h1, h2⟩ := h
  have h0 : ∀ j, j < n → I j = true → R j ≠ R k := fun j hj hI e => by
    have := (h1 (R k) (hU.lt hk) (hU.idem hk)).2 ⟨j, hj, hI, e⟩
    rw [hG] at this
    cases this
  refine ⟨fun r hr hrr => ?_, fun a b ha hb hIa hIb hab => ?_⟩
  · unfold upd
    by_cases e : r = R k
    · subst e
      simp
      exact ⟨k, hk, by simp, rfl⟩
    · rw [if_neg e, h1 r hr hrr]
      constructor
      · rintro ⟨j, hj, hI, hR⟩
        exact ⟨j, hj, by split <;> simp [hI], hR⟩
      · rintro ⟨j, hj, hI, hR⟩
        refine ⟨j, hj, ?_, hR⟩
        by_cases ej : j = k
        · subst ej
          exact absurd hR.symm e
        · simpa [ej] using hI
  · unfold upd at hIa hIb
    by_cases ea : a = k
    · subst ea
      by_cases eb : b = a
      · exact eb.symm
      · rw [if_neg eb] at hIb
        exact absurd hab.symm (h0 b hb hIb)
    · rw [if_neg ea] at hIa
      by_cases eb : b = k
      · subst eb
        exact absurd hab (h0 a ha hIa)
      · rw [if_neg eb] at hIb
        exact h2 a b ha hb hIa hIb hab

theorem RT.join (h : RT n R G I) (hU : UF n f R) {x y : Nat} (hx : x < n) (hy : y < n) (hxx : R x = x) (hyy : R y = y) (hne : x ≠ y) (hG : ¬ (G x = true ∧ G y = true)) : RT n (jn R x y) (upd G x (G x || G y)) I := by
  obtain ⟨h1, h2⟩ := h
  have e1 : ∀ z, jn R x y z = if R z = y then x else R z := fun z => by unfold jn; rw [hxx, hyy]
  refine ⟨fun r hr hrr => ?_, fun a b ha hb hIa hIb hab => ?_⟩
  · rw [e1] at hrr
    by_cases e : R r = y
    · rw [if_pos e] at hrr
      rw [← hrr, hxx] at e
      exact absurd e hne
    · rw [if_neg e] at hrr
      have ery : r ≠ y := fun h => e (by rw [hrr]; exact h)
      unfold upd
      by_cases erx : r = x
      · subst erx
        rw [if_pos rfl, Bool.or_eq_true, h1 r hr hxx, h1 y hy hyy]
        constructor
        · rintro (⟨j, hj, hI, hR⟩ | ⟨j, hj, hI, hR⟩)
          · exact ⟨j, hj, hI, by rw [e1, hR, if_neg ery]⟩
          · exact ⟨j, hj, hI, by rw [e1, hR, if_pos rfl]⟩
        · rintro ⟨j, hj, hI, hR⟩
          rw [e1] at hR
          by_cases ej : R j = y
          · exact .inr ⟨j, hj, hI, ej⟩
          · rw [if_neg ej] at hR
            exact .inl ⟨j, hj, hI, hR⟩
      · rw [if_neg erx, h1 r hr hrr]
        constructor
        · rintro ⟨j, hj, hI, hR⟩
          exact ⟨j, hj, hI, by rw [e1, hR, if_neg ery]⟩
        · rintro ⟨j, hj, hI, hR⟩
          rw [e1] at hR
          by_cases ej : R j = y
          · rw [if_pos ej] at hR
            exact absurd hR.symm erx
          · rw [if_neg ej] at hR
            exact ⟨j, hj, hI, hR⟩
  · rw [e1, e1] at hab
    have hGx : ∀ j, j < n → I j = true → R j = x → G x = true := fun j hj hI hR => (h1 x hx hxx).2 ⟨j, hj, hI, hR⟩
    have hGy : ∀ j, j < n → I j = true → R j = y → G y = true := fun j hj hI hR => (h1 y hy hyy).2 ⟨j, hj, hI, hR⟩
    by_cases ea : R a = y
    · by_cases eb : R b = y
      · exact h2 a b ha hb hIa hIb (ea.trans eb.symm)
      · rw [if_pos ea, if_neg eb] at hab
        exact absurd ⟨hGx b hb hIb hab.symm, hGy a ha hIa ea⟩ hG
    · by_cases eb : R b = y
      · rw [if_neg ea, if_pos eb] at hab
        exact absurd ⟨hGx a ha hIa hab, hGy b hb hIb eb⟩ hG
      · rw [if_neg ea, if_neg eb] at hab
        exact h2 a b ha hb hIa hIb hab
end

/-- whether a node is told -/
def told (R : Nat → Nat) (G I : Nat → Bool) (k : Nat) : Bool := if G (R k) then I k else (List.range k).all (fun j => R j != R k)

/-- T: the trees without a root of which a node was told -/
def TL (n : Nat) (R : Nat → Nat) (G T : Nat → Bool) (k : Nat) : Prop := ∀ r, r < n → R r = r → (T r = true ↔ G r = false ∧ ∃ j, j < k ∧ R j = r)

section
variable {n : Nat} {f : Nat → Option Nat} {R : Nat → Nat} {G I T : Nat → Bool}
theorem TL.start (n : Nat) (R : Nat → Nat) (G : Nat → Bool) : TL n R G (fun _ => false) 0 := fun _ _ _ => by simp
theorem TL.skip {k : Nat} (h : TL n R G T k) (hG : G (R k) = true) : TL n R G T (k + 1) := fun r hr hrr => by
  rw [h r hr hrr]
  constructor
  · rintro ⟨h1, j, hj, hR⟩
    exact ⟨h1, j, by omega, hR⟩
  · rintro ⟨h1, j, hj, hR⟩
    refine ⟨h1, j, ?_, hR⟩
    rcases Nat.lt_or_ge j k with h2 | h2
    · exact h2
    · obtain rfl : j = k := by omega
      rw [hR, h1] at hG
      cases hG
theorem TL.again {k : Nat} (h : TL n R G T k) (hU : UF n f R) (hk : k < n) (hT : T (R k) = true) : TL n R G T (k + 1) := fun r hr hrr => by
  rw [h r hr hrr]
  constructor
  · rintro ⟨h1, j, hj, hR⟩
    exact ⟨h1, j, by omega, hR⟩
  · rintro ⟨h1, j, hj, hR⟩
    rcases Nat.lt_or_ge j k with h2 | h2
    · exact ⟨h1, j, h2, hR⟩
    · obtain rfl : j = k := by omega
      obtain ⟨-, i, hi, hRi⟩ := (h (R j) (hU.lt hk) (hU.idem hk)).1 hT
      exact ⟨h1, i, hi, hRi.trans hR⟩
theorem TL.tell {k : Nat} (h : TL n R G T k) (hG : G (R k) = false) : TL n R G (upd T (R k) true) (k + 1) := fun r hr hrr => by
  unfold upd
  by_cases e : r = R k
  · subst e
    simp
    exact ⟨hG, k, by omega, rfl⟩
  · rw [if_neg e, h r hr hrr]
    constructor
    · rintro ⟨h1, j, hj, hR⟩
      exact ⟨h1, j, by omega, hR⟩
    · rintro ⟨h1, j, hj, hR⟩
      refine ⟨h1, j, ?_, hR⟩
      rcases Nat.lt_or_ge j k with h2 | h2
      · exact h2
      · obtain rfl : j = k := by omega
        exact absurd hR.symm e
theorem TL.told_iff {k : Nat} (h : TL n R G T k) (hU : UF n f R) (hk : k < n) (hG : G (R k) = false) : told R G I k = !T (R k) := by
  unfold told
  rw [hG]
  simp only [Bool.false_eq_true, if_false]
  rw [Bool.eq_iff_iff]
  simp only [List.all_eq_true, List.mem_range, bne_iff_ne, Bool.not_eq_true', ← Bool.not_eq_true]
  rw [h (R k) (hU.lt hk) (hU.idem hk)]
  constructor
  · rintro h1 ⟨-, j, hj, hR⟩
    exact h1 j hj hR
  · intro h1 j hj hR
    exact h1 ⟨hG, j, hj, hR⟩

theorem first_at {R : Nat → Nat} {r : Nat} : ∀ k, R k = r → ∃ j, j ≤ k ∧ R j = r ∧ ∀ i, i < j → R i ≠ r := by
  intro k
  induction k using Nat.strongRecOn with
  | ind k ih =>
    intro hk
    by_cases h : ∃ i, i < k ∧ R i = r
    · obtain ⟨i, hi, hR⟩ := h
      obtain ⟨j, hj, h1, h2⟩ := ih i hi hR
      exact ⟨j, by omega, h1, h2⟩
    · exact ⟨k, Nat.le_refl _, hk, fun i hi hR => h ⟨i, hi, hR⟩⟩

/-- as many nodes are told as there are trees -/
theorem told_count (hU : UF n f R) (hR : RT n R G I) : cnt (told R G I) n = trees n R := by
  apply Nat.le_antisymm
  · refine cnt_inj R (fun x hx _ => ⟨hU.lt hx, by simpa using hU.idem hx⟩) ?_
    have key : ∀ x y, x < n → y < n → told R G I x = true → told R G I y = true → R x = R y → ¬ x < y := by
      intro x y hx hy h1 h2 e hlt
      unfold told at h1 h2
      cases hG : G (R y)
      · rw [hG] at h2
        simp at h2
        exact h2 x hlt e
      · rw [e, hG] at h1
        rw [hG] at h2
        simp at h1 h2
        have := hR.2 x y hx hy h1 h2 e
        omega
    intro x y hx hy h1 h2 e
    rcases Nat.lt_trichotomy x y with h | h | h
    · exact absurd h (key x y hx hy h1 h2 e)
    · exact h
    · exact absurd h (key y x hy hx h2 h1 e.symm)
  · have ex : ∀ r, ∃ k, r < n → R r = r → k < n ∧ told R G I k = true ∧ R k = r := by
      intro r
      by_cases hr : r < n ∧ R r = r
      · obtain ⟨h1, h2⟩ := hr
        cases hG : G r
        · obtain ⟨j, hj, h3, h4⟩ := first_at r h2
          refine ⟨j, fun _ _ => ⟨by omega, ?_, h3⟩⟩
          unfold told
          rw [h3, hG]
          simp
          exact h4
        · obtain ⟨k, hk, hI, hRk⟩ := (hR.1 r h1 h2).1 hG
          refine ⟨k, fun _ _ => ⟨hk, ?_, hRk⟩⟩
          unfold told
          rw [hRk, hG]
          simpa using hI
      · exact ⟨0, fun h1 h2 => absurd ⟨h1, h2⟩ hr⟩
    obtain ⟨g, hg⟩ := Classical.axiomOfChoice ex
    refine cnt_inj g (fun r hr hrr => ⟨(hg r hr (by simpa using hrr)).1, (hg r hr (by simpa using hrr)).2.1⟩) (fun x y hx hy h1 h2 e => ?_)
    have e1 := (hg x hx (by simpa using h1)).2.2
    have e2 := (hg y hy (by simpa using h2)).2.2
    rw [← e1, ← e2, e]
end

end Go.Proofs.Ytgoojlnfobjplaa
