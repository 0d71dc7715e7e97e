/- Matchings (plain): what is reached from columns without a pair does not hang on the matching. -/
import Derived.Test.YtjbhnfejpgjghaaPa
namespace Go.Proofs.Ytjbhnfejpgjghaa
open Go.RowKit
set_option linter.unusedSimpArgs false
set_option linter.unusedVariables false

/-- a list without repetition that has as many members as one that holds it has all its members -/
theorem nodup_all {l1 l2 : List Nat} (h1 : l1.Nodup) (hs : ∀ x ∈ l1, x ∈ l2) (hl : l2.length ≤ l1.length) : ∀ y ∈ l2, y ∈ l1 := by
  intro y hy
  apply Classical.byContradiction
  intro hc
  have h := nodup_sub l1 (l2.erase y) h1 (fun x hx => (List.mem_erase_of_ne (fun (e : x = y) => hc (by rw [← e]; exact hx))).2 (hs x hx))
  rw [List.length_erase_of_mem hy] at h
  have := List.length_pos_of_mem hy
  omega

/-- the members of a property below n -/
noncomputable def mem' (n : Nat) (p : Nat → Prop) : List Nat := by
  classical
  exact (List.range n).filter fun i => decide (p i)
theorem mem_mem' {n : Nat} {p : Nat → Prop} {x : Nat} : x ∈ mem' n p ↔ x < n ∧ p x := by
  unfold mem'
  simp
theorem mem'_nodup (n : Nat) (p : Nat → Prop) : (mem' n p).Nodup := by
  unfold mem'
  exact List.Nodup.sublist List.filter_sublist List.nodup_range
theorem mem'_split (n : Nat) (p q : Nat → Prop) : (mem' n p).length = (mem' n fun x => p x ∧ q x).length + (mem' n fun x => p x ∧ ¬ q x).length := by
  classical
  unfold mem'
  induction n with
  | zero => rfl
  | succ n ih =>
    rw [List.range_succ, List.filter_append, List.filter_append, List.filter_append, List.length_append, List.length_append, List.length_append, ih]
    by_cases h1 : p n
    · by_cases h2 : q n
      · simp [h1, h2]; omega
      · simp [h1, h2]; omega
    · simp [h1]
theorem mem'_le {n m : Nat} {p q : Nat → Prop} (f : Nat → Nat) (hf : ∀ x, x < n → p x → f x < m ∧ q (f x)) (hi : ∀ x y, x < n → y < n → p x → p y → f x = f y → x = y) : (mem' n p).length ≤ (mem' m q).length := by
  have h1 : ((mem' n p).map f).Nodup := map_nodup (mem'_nodup n p) fun a ha b hb e => by
    rw [mem_mem'] at ha hb
    exact hi a b ha.1 hb.1 ha.2 hb.2 e
  have := nodup_sub _ (mem' m q) h1 (fun x hx => by
    obtain ⟨a, ha, rfl⟩ := List.mem_map.1 hx
    rw [mem_mem'] at ha ⊢
    exact hf a ha.1 ha.2)
  simpa using this

/-- a matching that no other one excels -/
structure Mx (E : List (List Nat)) (R C : Nat) (row col : Nat → Int) : Prop where
  co : Co E (fun _ => true) R C (-1) row col
  rlt : ∀ r, 0 ≤ row r → r < R
  wit : ∃ X S : Nat → Prop, (∀ r, X r → ∀ k ∈ E.getD r [], S k) ∧ (∀ k, S k → k < C ∧ 0 ≤ col k ∧ X (col k).toNat) ∧ (∀ r, r < R → row r < 0 → X r)

inductive Rch (E : List (List Nat)) (R C : Nat) (row col : Nat → Int) : Bool → Nat → Prop
  | free (k : Nat) : k < C → col k < 0 → Rch E R C row col false k
  | down (k r : Nat) : Rch E R C row col false k → r < R → k ∈ E.getD r [] → Rch E R C row col true r
  | back (r : Nat) : Rch E R C row col true r → 0 ≤ row r → Rch E R C row col false (row r).toNat

section
variable {E : List (List Nat)} {R C : Nat} {row col : Nat → Int}

theorem Rch.lt (h : Mx E R C row col) {b : Bool} {x : Nat} (hr : Rch E R C row col b x) : x < if b = true then R else C := by
  induction hr with
  | free k hk _ => exact hk
  | down k r _ hr _ _ => exact hr
  | back r hr h0 ih =>
    have := (h.co.ra r (by simpa using ih) h0).1
    simpa using this
theorem Rch.out (h : Mx E R C row col) {X S : Nat → Prop} (h1 : ∀ r, X r → ∀ k ∈ E.getD r [], S k) (h2 : ∀ k, S k → k < C ∧ 0 ≤ col k ∧ X (col k).toNat) {b : Bool} {x : Nat} (hr : Rch E R C row col b x) : if b = true then ¬ X x else ¬ S x := by
  induction hr with
  | free k hk h0 => show ¬ S k; intro hs; have := (h2 k hs).2.1; omega
  | down k r _ hr hk ih => show ¬ X r; intro hx; exact ih (h1 r hx k hk)
  | back r hr h0 ih =>
    show ¬ S (row r).toNat
    intro hs
    have hlt := Rch.lt h hr
    have := (h.co.ra r (by simpa using hlt) h0).2.1
    have h3 := (h2 _ hs).2.2
    rw [this] at h3
    exact ih (by simpa using h3)
/-- all rows that are reached have a pair -/
theorem Rch.paired (h : Mx E R C row col) {r : Nat} (hr : Rch E R C row col true r) : 0 ≤ row r := by
  obtain ⟨X, S, h1, h2, h3⟩ := h.wit
  have h4 := Rch.out h h1 h2 hr
  have h5 := Rch.lt h hr
  apply Classical.byContradiction
  intro hc
  exact h4 (h3 r (by simpa using h5) (by omega))
theorem Rch.col_of (h : Mx E R C row col) {k : Nat} (hk : Rch E R C row col false k) (h0 : 0 ≤ col k) : Rch E R C row col true (col k).toNat := by
  cases hk with
  | free k hk hf => omega
  | back r hr hp =>
    have hlt := Rch.lt h hr
    have := (h.co.ra r (by simpa using hlt) hp).2.1
    rw [this]
    simpa using hr

/-- as many columns are reached as rows and columns without a pair -/
theorem Rch.count (h : Mx E R C row col) : (mem' C (Rch E R C row col false)).length = (mem' R (Rch E R C row col true)).length + (mem' C fun k => col k < 0).length := by
  rw [mem'_split C (Rch E R C row col false) (fun k => 0 ≤ col k)]
  have e1 : (mem' C fun x => Rch E R C row col false x ∧ 0 ≤ col x).length = (mem' R (Rch E R C row col true)).length := by
    refine Nat.le_antisymm (mem'_le (fun k => (col k).toNat) (fun k hk hp => ?_) (fun x y hx hy px py e => ?_)) (mem'_le (fun r => (row r).toNat) (fun r hr hp => ?_) (fun x y hx hy px py e => ?_))
    · exact ⟨(h.co.ca k hk hp.2).1, hp.1.col_of h hp.2⟩
    · have a := (h.co.ca x hx px.2).2 (by omega)
      have b := (h.co.ca y hy py.2).2 (by omega)
      rw [show (col x).toNat = (col y).toNat from e] at a
      omega
    · have h0 := Rch.paired h hp
      obtain ⟨a1, a2, -⟩ := h.co.ra r hr h0
      exact ⟨a1, Rch.back r hp h0, by omega⟩
    · have h0 := Rch.paired h px
      have h1 := Rch.paired h py
      have a := (h.co.ra x hx h0).2.1
      have b := (h.co.ra y hy h1).2.1
      rw [show (row x).toNat = (row y).toNat from e] at a
      omega
  have e2 : (mem' C fun x => Rch E R C row col false x ∧ ¬ 0 ≤ col x).length = (mem' C fun k => col k < 0).length := by
    refine Nat.le_antisymm (mem'_le (fun k => k) (fun k hk hp => ⟨hk, by omega⟩) (fun x y _ _ _ _ e => e)) (mem'_le (fun k => k) (fun k hk hp => ⟨hk, .free k hk hp, by omega⟩) (fun x y _ _ _ _ e => e))
  rw [e1, e2]

/-- as many rows have a pair in all matchings that none excels -/
theorem Mx.rows_le (hE : ∀ l ∈ E, ∀ k ∈ l, k < C) {row' col' : Nat → Int} (h : Mx E R C row col) (h' : Co E (fun _ => true) R C (-1) row' col') : (mem' R fun r => 0 ≤ row' r).length ≤ (mem' R fun r => 0 ≤ row r).length := by
  classical
  obtain ⟨X, S, h1, h2, h3⟩ := h.wit
  refine mem'_le (fun r => if X r then (col (row' r).toNat).toNat else r) (fun r hr hp => ?_) (fun x y hx hy px py e => ?_)
  · show (if X r then _ else _) < R ∧ 0 ≤ row (if X r then _ else _)
    by_cases hx : X r
    · rw [if_pos hx]
      obtain ⟨q1, q2, q3⟩ := h2 _ (h1 r hx _ (h'.ra r hr hp).2.2.1)
      obtain ⟨c1, c2⟩ := h.co.ca _ q1 q2
      exact ⟨c1, by have := c2 (by omega); omega⟩
    · rw [if_neg hx]
      refine ⟨hr, ?_⟩
      apply Classical.byContradiction
      intro hc
      exact hx (h3 r hr (by omega))
  · have e : (if X x then (col (row' x).toNat).toNat else x) = (if X y then (col (row' y).toNat).toNat else y) := e
    have q : ∀ r, r < R → 0 ≤ row' r → X r → X (col (row' r).toNat).toNat ∧ row (col (row' r).toNat).toNat = row' r := fun r hr hp hx => by
      obtain ⟨q1, q2, q3⟩ := h2 _ (h1 r hx _ (h'.ra r hr hp).2.2.1)
      exact ⟨q3, by have := (h.co.ca _ q1 q2).2 (by omega); omega⟩
    by_cases hx' : X x
    · obtain ⟨p1, p2⟩ := q x hx px hx'
      by_cases hy' : X y
      · obtain ⟨r1, r2⟩ := q y hy py hy'
        rw [if_pos hx', if_pos hy'] at e
        rw [e, r2] at p2
        have a := (h'.ra x hx px).2.1
        have b := (h'.ra y hy py).2.1
        rw [← p2, b] at a
        omega
      · rw [if_pos hx', if_neg hy'] at e
        rw [e] at p1
        exact absurd p1 hy'
    · by_cases hy' : X y
      · obtain ⟨r1, r2⟩ := q y hy py hy'
        rw [if_neg hx', if_pos hy'] at e
        rw [← e] at r1
        exact absurd r1 hx'
      · rw [if_neg hx', if_neg hy'] at e
        exact e
theorem Co.count (h : Co E (fun _ => true) R C (-1) row col) : (mem' R fun r => 0 ≤ row r).length = (mem' C fun k => 0 ≤ col k).length := by
  refine Nat.le_antisymm (mem'_le (fun r => (row r).toNat) (fun r hr hp => ?_) (fun x y hx hy px py e => ?_)) (mem'_le (fun k => (col k).toNat) (fun k hk hp => ?_) (fun x y hx hy px py e => ?_))
  · obtain ⟨a1, a2, -⟩ := h.ra r hr hp
    exact ⟨a1, by omega⟩
  · have a := (h.ra x hx px).2.1
    have b := (h.ra y hy py).2.1
    rw [show (row x).toNat = (row y).toNat from e] at a
    omega
  · obtain ⟨a1, a2⟩ := h.ca k hk hp
    exact ⟨a1, by have := a2 (by omega); omega⟩
  · have a := (h.ca x hx px).2 (by omega)
    have b := (h.ca y hy py).2 (by omega)
    rw [show (col x).toNat = (col y).toNat from e] at a
    omega
theorem free_count (C : Nat) (col : Nat → Int) : (mem' C fun k => 0 ≤ col k).length + (mem' C fun k => col k < 0).length = C := by
  have h := mem'_split C (fun _ => True) (fun k => 0 ≤ col k)
  have e0 : (mem' C fun _ => True).length = C := by
    classical
    unfold mem'
    rw [List.filter_eq_self.2 (by simp)]
    simp
  have e1 : (mem' C fun x => True ∧ 0 ≤ col x).length = (mem' C fun k => 0 ≤ col k).length := Nat.le_antisymm (mem'_le (fun k => k) (fun k hk hp => ⟨hk, hp.2⟩) (fun x y _ _ _ _ e => e)) (mem'_le (fun k => k) (fun k hk hp => ⟨hk, trivial, hp⟩) (fun x y _ _ _ _ e => e))
  have e2 : (mem' C fun x => True ∧ ¬ 0 ≤ col x).length = (mem' C fun k => col k < 0).length := Nat.le_antisymm (mem'_le (fun k => k) (fun k hk hp => ⟨hk, by omega⟩) (fun x y _ _ _ _ e => e)) (mem'_le (fun k => k) (fun k hk hp => ⟨hk, trivial, by omega⟩) (fun x y _ _ _ _ e => e))
  omega

/-- what is reached by one is reached by the other -/
theorem Rch.same (hE : ∀ l ∈ E, ∀ k ∈ l, k < C) {row' col' : Nat → Int} (h : Mx E R C row col) (h' : Co E (fun _ => true) R C (-1) row' col') (hr' : ∀ r, 0 ≤ row' r → r < R) (heq : (mem' R fun r => 0 ≤ row' r).length = (mem' R fun r => 0 ≤ row r).length) {b : Bool} {x : Nat} (hx : Rch E R C row' col' b x) : Rch E R C row col b x := by
  have hcnt := Rch.count h
  have hf : (mem' C fun k => col' k < 0).length = (mem' C fun k => col k < 0).length := by
    have a := free_count C col
    have b := free_count C col'
    have c := Co.count h.co
    have d := Co.count h'
    omega
  have hsp := mem'_split C (Rch E R C row col false) (fun k => 0 ≤ col' k)
  -- columns that are reached and have a pair there: their rows are reached
  have hrow : ∀ k, k < C → Rch E R C row col false k → 0 ≤ col' k → Rch E R C row col true (col' k).toNat := fun k hk hr h0 => by
    obtain ⟨a1, a2⟩ := h'.ca k hk h0
    have a2 := a2 (by omega)
    have a3 := (h'.ra _ a1 (by omega)).2.2.1
    rw [a2] at a3
    exact .down k _ hr a1 (by simpa using a3)
  have hm : (mem' C fun k => Rch E R C row col false k ∧ 0 ≤ col' k).length ≤ (mem' R (Rch E R C row col true)).length := mem'_le (fun k => (col' k).toNat) (fun k hk hp => ⟨(h'.ca k hk hp.2).1, hrow k hk hp.1 hp.2⟩) (fun x y hx hy px py e => by
    have a := (h'.ca x hx px.2).2 (by omega)
    have b := (h'.ca y hy py.2).2 (by omega)
    rw [show (col' x).toNat = (col' y).toNat from e] at a
    omega)
  have hfr : (mem' C fun k => Rch E R C row col false k ∧ ¬ 0 ≤ col' k).length ≤ (mem' C fun k => col' k < 0).length := mem'_le (fun k => k) (fun k hk hp => ⟨hk, by omega⟩) (fun x y _ _ _ _ e => e)
  -- so all columns without a pair there are reached, and all rows that are reached have pairs there that are reached
  have hfree : ∀ k, k < C → col' k < 0 → Rch E R C row col false k := fun k hk h0 => by
    have := nodup_all (mem'_nodup C fun k => Rch E R C row col false k ∧ ¬ 0 ≤ col' k) (l2 := mem' C fun k => col' k < 0) (fun x hx => by
      rw [mem_mem'] at hx ⊢
      exact ⟨hx.1, by omega⟩) (by omega) k (mem_mem'.2 ⟨hk, h0⟩)
    exact (mem_mem'.1 this).2.1
  have hback : ∀ r, r < R → Rch E R C row col true r → 0 ≤ row' r → Rch E R C row col false (row' r).toNat := fun r hr hp h0 => by
    have hnd : ((mem' C fun k => Rch E R C row col false k ∧ 0 ≤ col' k).map fun k => (col' k).toNat).Nodup := map_nodup (mem'_nodup _ _) fun a ha b hb e => by
      rw [mem_mem'] at ha hb
      have x := (h'.ca a ha.1 ha.2.2).2 (by omega)
      have y := (h'.ca b hb.1 hb.2.2).2 (by omega)
      rw [e] at x
      omega
    have := nodup_all hnd (l2 := mem' R (Rch E R C row col true)) (fun x hx => by
      obtain ⟨k, hk, rfl⟩ := List.mem_map.1 hx
      rw [mem_mem'] at hk ⊢
      exact ⟨(h'.ca k hk.1 hk.2.2).1, hrow k hk.1 hk.2.1 hk.2.2⟩) (by rw [List.length_map]; omega) r (mem_mem'.2 ⟨hr, hp⟩)
    obtain ⟨k, hk, e⟩ := List.mem_map.1 this
    rw [mem_mem'] at hk
    have a := (h'.ca k hk.1 hk.2.2).2 (by omega)
    rw [e] at a
    rw [a]
    simpa using hk.2.1
  induction hx with
  | free k hk h0 => exact hfree k hk h0
  | down k r _ hr hk ih => exact .down k r ih hr hk
  | back r _ h0 ih => exact hback r (hr' r h0) ih h0
end

/-- the plain search's matching is one that none excels -/
theorem fill_mx {E : List (List Nat)} {R C : Nat} (hE : ∀ l ∈ E, ∀ k ∈ l, k < C) : Mx E R C (fill E (fun _ => true) (fun _ => true) C R).1 (fill E (fun _ => true) (fun _ => true) C R).2 := by
  obtain ⟨h1, h2, X, S, hw⟩ := fill_fi (E := E) (ok := fun _ => true) (rows := fun _ => true) (R := R) hE R (Nat.le_refl _)
  exact ⟨h1, fun r h => (h2 r h).2, X, S, fun r hx k hk => hw.out r hx k hk rfl, hw.back, fun r hr h => hw.left r hr rfl h⟩

end Go.Proofs.Ytjbhnfejpgjghaa

/- The rows that are reached, as the program searches them (plain). -/
namespace Go.Proofs.Ytjbhnfejpgjghaa
open Go.RowKit
set_option linter.unusedSimpArgs false
set_option linter.unusedVariables false

structure CR where
  cs : Nat → Bool
  rs : Nat → Bool
def CR.markC (st : CR) (k : Nat) : CR := ⟨upd st.cs k true, st.rs⟩
def CR.markR (st : CR) (r : Nat) : CR := ⟨st.cs, upd st.rs r true⟩

/-- the rows from the i-th on that have the column k -/
def goL (row : Nat → Int) (rec : Nat → CR → CR) (k : Nat) : List (List Nat) → Nat → CR → CR
  | [], _, st => st
  | e :: es, i, st => if (!st.rs i && e.contains k) = true then (if 0 ≤ row i then goL row rec k es (i + 1) (rec (row i).toNat (st.markR i)) else goL row rec k es (i + 1) (st.markR i)) else goL row rec k es (i + 1) st
def goC (E : List (List Nat)) (row : Nat → Int) : Nat → Nat → CR → CR
  | 0, _, st => st
  | f + 1, k, st => if st.cs k = true then st else goL row (goC E row f) k E 0 (st.markC k)

/-- more was seen -/
structure CR.le (st st' : CR) : Prop where
  c : ∀ k, st.cs k = true → st'.cs k = true
  r : ∀ r, st.rs r = true → st'.rs r = true
theorem CR.le.refl (st : CR) : CR.le st st := ⟨fun _ h => h, fun _ h => h⟩
theorem CR.le.trans {a b c : CR} (h : CR.le a b) (k : CR.le b c) : CR.le a c := ⟨fun x hx => k.c x (h.c x hx), fun x hx => k.r x (h.r x hx)⟩
theorem upd_true {f : Nat → Bool} {i x : Nat} (h : f x = true) : upd f i true x = true := by
  unfold upd
  split
  · rfl
  · exact h
theorem CR.le.markC (st : CR) (k : Nat) : CR.le st (st.markC k) := ⟨fun _ h => upd_true h, fun _ h => h⟩
theorem CR.le.markR (st : CR) (r : Nat) : CR.le st (st.markR r) := ⟨fun _ h => h, fun _ h => upd_true h⟩
theorem goL_le {row : Nat → Int} {rec : Nat → CR → CR} {k : Nat} (hr : ∀ j st, CR.le st (rec j st)) : ∀ (es : List (List Nat)) (i : Nat) (st : CR), CR.le st (goL row rec k es i st) := by
  intro es
  induction es with
  | nil => intro i st; exact .refl _
  | cons e es ih =>
    intro i st
    unfold goL
    split
    · split
      · exact ((CR.le.markR st i).trans (hr _ _)).trans (ih _ _)
      · exact (CR.le.markR st i).trans (ih _ _)
    · exact ih _ _
theorem goC_le (E : List (List Nat)) (row : Nat → Int) : ∀ (f k : Nat) (st : CR), CR.le st (goC E row f k st) := by
  intro f
  induction f with
  | zero => intro k st; exact .refl _
  | succ f ih =>
    intro k st
    unfold goC
    split
    · exact .refl _
    · exact (CR.le.markC st k).trans (goL_le ih _ _ _)

/-- sound -/
structure Snd (E : List (List Nat)) (R C : Nat) (row col : Nat → Int) (st : CR) : Prop where
  c : ∀ k, st.cs k = true → Rch E R C row col false k
  r : ∀ r, st.rs r = true → Rch E R C row col true r
theorem goL_snd {E : List (List Nat)} {R C : Nat} {row col : Nat → Int} {rec : Nat → CR → CR} {k : Nat} (hk : Rch E R C row col false k) (hr : ∀ j st, Rch E R C row col false j → Snd E R C row col st → Snd E R C row col (rec j st)) (hER : E.length = R) :
    ∀ (es : List (List Nat)) (i : Nat) (st : CR), (∀ j e, es[j]? = some e → E[i + j]? = some e) → Snd E R C row col st → Snd E R C row col (goL row rec k es i st) := by
  intro es
  induction es with
  | nil => intro i st _ h; exact h
  | cons e es ih =>
    intro i st hes h
    have h0 := hes 0 e rfl
    rw [Nat.add_zero] at h0
    have hes' : ∀ j x, es[j]? = some x → E[i + 1 + j]? = some x := fun j x hx => by
      have := hes (j + 1) x (by simpa using hx)
      rwa [show i + (j + 1) = i + 1 + j by omega] at this
    unfold goL
    split
    · rename_i hc
      simp only [Bool.and_eq_true, Bool.not_eq_true'] at hc
      have hil := (List.getElem?_eq_some_iff.1 h0).1
      have hi : Rch E R C row col true i := .down k i hk (by omega) (by
        rw [List.getD_eq_getElem?_getD, h0]
        simpa using hc.2)
      have hm : Snd E R C row col (st.markR i) := ⟨h.c, fun r hr => by
        by_cases e1 : r = i
        · rw [e1]; exact hi
        · exact h.r r (by have : upd st.rs i true r = true := hr; rwa [upd_other _ _ _ _ e1] at this)⟩
      split
      · rename_i hp
        exact ih _ _ hes' (hr _ _ (.back i hi hp) hm)
      · exact ih _ _ hes' hm
    · exact ih _ _ hes' h
theorem goC_snd {E : List (List Nat)} {R C : Nat} {row col : Nat → Int} (hER : E.length = R) : ∀ (f k : Nat) (st : CR), Rch E R C row col false k → Snd E R C row col st → Snd E R C row col (goC E row f k st) := by
  intro f
  induction f with
  | zero => intro k st _ h; exact h
  | succ f ih =>
    intro k st hk h
    unfold goC
    split
    · exact h
    · refine goL_snd hk ih hER E 0 _ (fun j e he => by rwa [Nat.zero_add]) ⟨fun c hc => ?_, h.r⟩
      by_cases e1 : c = k
      · rw [e1]; exact hk
      · exact h.c c (by have : upd st.cs k true c = true := hc; rwa [upd_other _ _ _ _ e1] at this)

/-- what is new from st to st' is closed in st'' -/
structure Clo (E : List (List Nat)) (R : Nat) (row : Nat → Int) (st st' : CR) : Prop where
  c : ∀ k, st'.cs k = true → st.cs k = false → ∀ r, r < R → k ∈ E.getD r [] → st'.rs r = true
  r : ∀ r, st'.rs r = true → st.rs r = false → 0 ≤ row r → st'.cs (row r).toNat = true
theorem Clo.refl (E : List (List Nat)) (R : Nat) (row : Nat → Int) (st : CR) : Clo E R row st st := ⟨fun k h h' => by (rw [h] at h'; cases h'), fun k h h' => by (rw [h] at h'; cases h')⟩
theorem Clo.trans {E : List (List Nat)} {R : Nat} {row : Nat → Int} {a b c : CR} (h1 : Clo E R row a b) (h2 : Clo E R row b c) (l : CR.le b c) : Clo E R row a c := by
  refine ⟨fun k hk hk' r hr hkr => ?_, fun r hr hr' hp => ?_⟩
  · by_cases e : b.cs k = true
    · exact l.r _ (h1.c k e hk' r hr hkr)
    · exact h2.c k hk (by simpa using e) r hr hkr
  · by_cases e : b.rs r = true
    · exact l.c _ (h1.r r e hr' hp)
    · exact h2.r r hr (by simpa using e) hp
theorem goL_clo {E : List (List Nat)} {R C f : Nat} {row : Nat → Int} {rec : Nat → CR → CR} {k : Nat} (hrl : ∀ r, r < R → 0 ≤ row r → (row r).toNat < C) (hER : E.length = R) (hle : ∀ j st, CR.le st (rec j st))
    (hr : ∀ j st, j < C → uns C st.cs < f → (rec j st).cs j = true ∧ Clo E R row st (rec j st)) :
    ∀ (es : List (List Nat)) (i : Nat) (st : CR), (∀ j e, es[j]? = some e → E[i + j]? = some e) → i + es.length = R → uns C st.cs < f → Clo E R row st (goL row rec k es i st) ∧ ∀ r, i ≤ r → r < R → k ∈ E.getD r [] → (goL row rec k es i st).rs r = true := by
  intro es
  induction es with
  | nil => intro i st _ hi _; exact ⟨.refl _ _ _ _, fun r h1 h2 => by simp at hi; omega⟩
  | cons e es ih =>
    intro i st hes hi hu
    have h0 := hes 0 e rfl
    rw [Nat.add_zero] at h0
    have hes' : ∀ j x, es[j]? = some x → E[i + 1 + j]? = some x := fun j x hx => by
      have := hes (j + 1) x (by simpa using hx)
      rwa [show i + (j + 1) = i + 1 + j by omega] at this
    have hi' : i + 1 + es.length = R := by simp at hi; omega
    have hgi : E.getD i [] = e := by rw [List.getD_eq_getElem?_getD, h0]; rfl
    unfold goL
    split
    · rename_i hc
      simp only [Bool.and_eq_true, Bool.not_eq_true'] at hc
      split
      · rename_i hp
        have hjl := hrl i (by omega) hp
        obtain ⟨q1, q2⟩ := hr (row i).toNat (st.markR i) hjl hu
        have hl1 := (CR.le.markR st i).trans (hle (row i).toNat (st.markR i))
        have hu2 : uns C (rec (row i).toNat (st.markR i)).cs < f := by have := uns_le (C := C) hl1.c; omega
        obtain ⟨r1, r2⟩ := ih (i + 1) _ hes' hi' hu2
        have hl2 := goL_le (row := row) (k := k) hle es (i + 1) (rec (row i).toNat (st.markR i))
        have hA : Clo E R row st (rec (row i).toNat (st.markR i)) := ⟨q2.c, fun r hr' hr0 hp' => by
          by_cases e1 : r = i
          · rw [e1]; exact q1
          · exact q2.r r hr' (by show upd st.rs i true r = false; rw [upd_other _ _ _ _ e1]; exact hr0) hp'⟩
        refine ⟨hA.trans r1 hl2, fun r h1 h2 h3 => ?_⟩
        by_cases e1 : r = i
        · rw [e1]
          exact hl2.r i ((hle _ _).r i (upd_same _ _ _))
        · exact r2 r (by omega) h2 h3
      · rename_i hp
        obtain ⟨r1, r2⟩ := ih (i + 1) (st.markR i) hes' hi' hu
        have hl2 := goL_le (row := row) (k := k) hle es (i + 1) (st.markR i)
        have hA : Clo E R row st (st.markR i) := ⟨fun c h h' => (by rw [show (st.markR i).cs c = st.cs c from rfl, h'] at h; cases h), fun r hr' hr0 hp' => by
          by_cases e1 : r = i
          · rw [e1] at hp'; exact absurd hp' hp
          · rw [show (st.markR i).rs r = upd st.rs i true r from rfl, upd_other _ _ _ _ e1, hr0] at hr'
            cases hr'⟩
        refine ⟨hA.trans r1 hl2, fun r h1 h2 h3 => ?_⟩
        by_cases e1 : r = i
        · rw [e1]
          exact hl2.r i (upd_same _ _ _)
        · exact r2 r (by omega) h2 h3
    · rename_i hc
      obtain ⟨r1, r2⟩ := ih (i + 1) st hes' hi' hu
      refine ⟨r1, fun r h1 h2 h3 => ?_⟩
      by_cases e1 : r = i
      · subst e1
        rw [hgi] at h3
        have : st.rs r = true := by
          cases hrs : st.rs r with
          | true => rfl
          | false =>
            exfalso
            apply hc
            rw [hrs]
            simpa using h3
        exact (goL_le hle es (r + 1) st).r r this
      · exact r2 r (by omega) h2 h3
theorem goC_clo {E : List (List Nat)} {R C : Nat} {row : Nat → Int} (hrl : ∀ r, r < R → 0 ≤ row r → (row r).toNat < C) (hER : E.length = R) : ∀ (f k : Nat) (st : CR), k < C → uns C st.cs < f → (goC E row f k st).cs k = true ∧ Clo E R row st (goC E row f k st) := by
  intro f
  induction f with
  | zero => intro k st _ h; omega
  | succ f ih =>
    intro k st hk hu
    unfold goC
    split
    · rename_i h; exact ⟨h, .refl _ _ _ _⟩
    · rename_i h
      have h : st.cs k = false := by simpa using h
      have hu2 : uns C (st.markC k).cs < f := by
        have := uns_lt (C := C) (s := st.cs) (s' := (st.markC k).cs) (fun x hx => upd_true hx) hk h (upd_same _ _ _)
        omega
      obtain ⟨r1, r2⟩ := goL_clo (k := k) hrl hER (goC_le E row f) ih E 0 (st.markC k) (fun j e he => by rwa [Nat.zero_add]) (by omega) hu2
      have hl := goL_le (row := row) (k := k) (goC_le E row f) E 0 (st.markC k)
      refine ⟨hl.c k (upd_same _ _ _), ⟨fun c hc hc0 r hr hcr => ?_, r1.r⟩⟩
      by_cases e1 : c = k
      · subst e1; exact r2 r (Nat.zero_le _) hr hcr
      · exact r1.c c hc (by show upd st.cs k true c = false; rw [upd_other _ _ _ _ e1]; exact hc0) r hr hcr

/-- from all columns without a pair, of the first n -/
def goA (E : List (List Nat)) (C : Nat) (row col : Nat → Int) : Nat → CR
  | 0 => ⟨fun _ => false, fun _ => false⟩
  | n + 1 => if col n < 0 then goC E row (C + 1) n (goA E C row col n) else goA E C row col n
theorem goA_spec {E : List (List Nat)} {R C : Nat} {row col : Nat → Int} (h : Mx E R C row col) (hER : E.length = R) : (∀ r, (goA E C row col C).rs r = true ↔ Rch E R C row col true r) := by
  have hrl : ∀ r, r < R → 0 ≤ row r → (row r).toNat < C := fun r hr hp => (h.co.ra r hr hp).1
  have key : ∀ n, n ≤ C → Snd E R C row col (goA E C row col n) ∧ Clo E R row ⟨fun _ => false, fun _ => false⟩ (goA E C row col n) ∧ ∀ k, k < n → col k < 0 → (goA E C row col n).cs k = true := by
    intro n
    induction n with
    | zero => intro _; exact ⟨⟨(fun k hk => by cases hk), (fun r hr => by cases hr)⟩, .refl _ _ _ _, (fun k hk => by omega)⟩
    | succ n ih =>
      intro hn
      obtain ⟨i1, i2, i3⟩ := ih (by omega)
      unfold goA
      split
      · rename_i hc
        obtain ⟨q1, q2⟩ := goC_clo hrl hER (C + 1) n (goA E C row col n) (by omega) (by have := uns_all C (goA E C row col n).cs; omega)
        have hl := goC_le E row (C + 1) n (goA E C row col n)
        refine ⟨goC_snd hER _ _ _ (.free n (by omega) hc) i1, i2.trans q2 hl, fun k hk hk0 => ?_⟩
        by_cases e : k = n
        · rw [e]; exact q1
        · exact hl.c k (i3 k (by omega) hk0)
      · rename_i hc
        refine ⟨i1, i2, fun k hk hk0 => i3 k ?_ hk0⟩
        have : k ≠ n := fun e => hc (e ▸ hk0)
        omega
  obtain ⟨k1, k2, k3⟩ := key C (Nat.le_refl _)
  have full : ∀ b x, Rch E R C row col b x → if b = true then (goA E C row col C).rs x = true else (goA E C row col C).cs x = true := by
    intro b x hx
    induction hx with
    | free k hk h0 => exact k3 k hk h0
    | down k r _ hr hk ih => exact k2.c k ih rfl r hr hk
    | back r _ h0 ih => exact k2.r r ih rfl h0
  intro r
  exact ⟨k1.r r, fun hr => full true r hr⟩
theorem goA_none {E : List (List Nat)} {C : Nat} {row col : Nat → Int} : ∀ n, (∀ k, k < n → ¬ col k < 0) → goA E C row col n = ⟨fun _ => false, fun _ => false⟩ := by
  intro n
  induction n with
  | zero => intro _; rfl
  | succ n ih =>
    intro h
    unfold goA
    rw [if_neg (h n (by omega))]
    exact ih fun k hk => h k (by omega)

end Go.Proofs.Ytjbhnfejpgjghaa
