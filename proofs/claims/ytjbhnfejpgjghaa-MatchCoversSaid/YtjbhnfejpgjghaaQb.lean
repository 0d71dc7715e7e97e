/- The rows that are reached, as the program searches them (plain). -/
import Derived.Test.YtjbhnfejpgjghaaQa
namespace Go.Proofs.Ytjbhnfejpgjghaa
open Go.RowKit
set_option linter.unusedSimpArgs false
set_option linter.unusedVariables false

structure CR where
  cs : Nat → Bool
  rs : Nat → Bool
def CR.markC (st : CR) (k : Nat) : CR := ⟨upd st.cs k true, st.rs⟩
def CR.markR (st : CR) (r : Nat) : CR := ⟨st.cs, upd st.rs r true⟩

/-- the rows from the i-th on that have the column k -/
def goL (row : Nat → Int) (rec : Nat → CR → CR) (k : Nat) : List (List Nat) → Nat → CR → CR
  | [], _, st => st
  | e :: es, i, st => if (!st.rs i && e.contains k) = true then (if 0 ≤ row i then goL row rec k es (i + 1) (rec (row i).toNat (st.markR i)) else goL row rec k es (i + 1) (st.markR i)) else goL row rec k es (i + 1) st
def goC (E : List (List Nat)) (row : Nat → Int) : Nat → Nat → CR → CR
  | 0, _, st => st
  | f + 1, k, st => if st.cs k = true then st else goL row (goC E row f) k E 0 (st.markC k)

/-- more was seen -/
structure CR.le (st st' : CR) : Prop where
  c : ∀ k, st.cs k = true → st'.cs k = true
  r : ∀ r, st.rs r = true → st'.rs r = true
theorem CR.le.refl (st : CR) : CR.le st st := ⟨fun _ h => h, fun _ h => h⟩
theorem CR.le.trans {a b c : CR} (h : CR.le a b) (k : CR.le b c) : CR.le a c := ⟨fun x hx => k.c x (h.c x hx), fun x hx => k.r x (h.r x hx)⟩
theorem upd_true {f : Nat → Bool} {i x : Nat} (h : f x = true) : upd f i true x = true := by
  unfold upd
  split
  · rfl
  · exact h
theorem CR.le.markC (st : CR) (k : Nat) : CR.le st (st.markC k) := ⟨fun _ h => upd_true h, fun _ h => h⟩
theorem CR.le.markR (st : CR) (r : Nat) : CR.le st (st.markR r) := ⟨fun _ h => h, fun _ h => upd_true h⟩
theorem goL_le {row : Nat → Int} {rec : Nat → CR → CR} {k : Nat} (hr : ∀ j st, CR.le st (rec j st)) : ∀ (es : List (List Nat)) (i : Nat) (st : CR), CR.le st (goL row rec k es i st) := by
  intro es
  induction es with
  | nil => intro i st; exact .refl _
  | cons e es ih =>
    intro i st
    unfold goL
    split
    · split
      · exact ((CR.le.markR st i).trans (hr _ _)).trans (ih _ _)
      · exact (CR.le.markR st i).trans (ih _ _)
    · exact ih _ _
theorem goC_le (E : List (List Nat)) (row : Nat → Int) : ∀ (f k : Nat) (st : CR), CR.le st (goC E row f k st) := by
  intro f
  induction f with
  | zero => intro k st; exact .refl _
  | succ f ih =>
    intro k st
    unfold goC
    split
    · exact .refl _
    · exact (CR.le.markC st k).trans (goL_le ih _ _ _)

/-- sound -/
structure Snd (E : List (List Nat)) (R C : Nat) (row col : Nat → Int) (st : CR) : Prop where
  c : ∀ k, st.cs k = true → Rch E R C row col false k
  r : ∀ r, st.rs r = true → Rch E R C row col true r
theorem goL_snd {E : List (List Nat)} {R C : Nat} {row col : Nat → Int} {rec : Nat → CR → CR} {k : Nat} (hk : Rch E R C row col false k) (hr : ∀ j st, Rch E R C row col false j → Snd E R C row col st → Snd E R C row col (rec j st)) (hER : E.length = R) :
    ∀ (es : List (List Nat)) (i : Nat) (st : CR), (∀ j e, es[j]? = some e → E[i + j]? = some e) → Snd E R C row col st → Snd E R C row col (goL row rec k es i st) := by
  intro es
  induction es with
  | nil => intro i st _ h; exact h
  | cons e es ih =>
    intro i st hes h
    have h0 := hes 0 e rfl
    rw [Nat.add_zero] at h0
    have hes' : ∀ j x, es[j]? = some x → E[i + 1 + j]? = some x := fun j x hx => by
      have := hes (j + 1) x (by simpa using hx)
      rwa [show i + (j + 1) = i + 1 + j by omega] at this
    unfold goL
    split
    · rename_i hc
      simp only [Bool.and_eq_true, Bool.not_eq_true'] at hc
      have hil := (List.getElem?_eq_some_iff.1 h0).1
      have hi : Rch E R C row col true i := .down k i hk (by omega) (by
        rw [List.getD_eq_getElem?_getD, h0]
        simpa using hc.2)
      have hm : Snd E R C row col (st.markR i) := ⟨h.c, fun r hr => by
        by_cases e1 : r = i
        · rw [e1]; exact hi
        · exact h.r r (by have : upd st.rs i true r = true := hr; rwa [upd_other _ _ _ _ e1] at this)⟩
      split
      · rename_i hp
        exact ih _ _ hes' (hr _ _ (.back i hi hp) hm)
      · exact ih _ _ hes' hm
    · exact ih _ _ hes' h
theorem goC_snd {E : List (List Nat)} {R C : Nat} {row col : Nat → Int} (hER : E.length = R) : ∀ (f k : Nat) (st : CR), Rch E R C row col false k → Snd E R C row col st → Snd E R C row col (goC E row f k st) := by
  intro f
  induction f with
  | zero => intro k st _ h; exact h
  | succ f ih =>
    intro k st hk h
    unfold goC
    split
    · exact h
    · refine goL_snd hk ih hER E 0 _ (fun j e he => by rwa [Nat.zero_add]) ⟨fun c hc => ?_, h.r⟩
      by_cases e1 : c = k
      · rw [e1]; exact hk
      · exact h.c c (by have : upd st.cs k true c = true := hc; rwa [upd_other _ _ _ _ e1] at this)

/-- what is new from st to st' is closed in st'' -/
structure Clo (E : List (List Nat)) (R : Nat) (row : Nat → Int) (st st' : CR) : Prop where
  c : ∀ k, st'.cs k = true → st.cs k = false → ∀ r, r < R → k ∈ E.getD r [] → st'.rs r = true
  r : ∀ r, st'.rs r = true → st.rs r = false → 0 ≤ row r → st'.cs (row r).toNat = true
theorem Clo.refl (E : List (List Nat)) (R : Nat) (row : Nat → Int) (st : CR) : Clo E R row st st := ⟨fun k h h' => by (rw [h] at h'; cases h'), fun k h h' => by (rw [h] at h'; cases h')⟩
theorem Clo.trans {E : List (List Nat)} {R : Nat} {row : Nat → Int} {a b c : CR} (h1 : Clo E R row a b) (h2 : Clo E R row b c) (l : CR.le b c) : Clo E R row a c := by
  refine ⟨fun k hk hk' r hr hkr => ?_, fun r hr hr' hp => ?_⟩
  · by_cases e : b.cs k = true
    · exact l.r _ (h1.c k e hk' r hr hkr)
    · exact h2.c k hk (by simpa using e) r hr hkr
  · by_cases e : b.rs r = true
    · exact l.c _ (h1.r r e hr' hp)
    · exact h2.r r hr (by simpa using e) hp
theorem goL_clo {E : List (List Nat)} {R C f : Nat} {row : Nat → Int} {rec : Nat → CR → CR} {k : Nat} (hrl : ∀ r, r < R → 0 ≤ row r → (row r).toNat < C) (hER : E.length = R) (hle : ∀ j st, CR.le st (rec j st))
    (hr : ∀ j st, j < C → uns C st.cs < f → (rec j st).cs j = true ∧ Clo E R row st (rec j st)) :
    ∀ (es : List (List Nat)) (i : Nat) (st : CR), (∀ j e, es[j]? = some e → E[i + j]? = some e) → i + es.length = R → uns C st.cs < f → Clo E R row st (goL row rec k es i st) ∧ ∀ r, i ≤ r → r < R → k ∈ E.getD r [] → (goL row rec k es i st).rs r = true := by
  intro es
  induction es with
  | nil => intro i st _ hi _; exact ⟨.refl _ _ _ _, fun r h1 h2 => by simp at hi; omega⟩
  | cons e es ih =>
    intro i st hes hi hu
    have h0 := hes 0 e rfl
    rw [Nat.add_zero] at h0
    have hes' : ∀ j x, es[j]? = some x → E[i + 1 + j]? = some x := fun j x hx => by
      have := hes (j + 1) x (by simpa using hx)
      rwa [show i + (j + 1) = i + 1 + j by omega] at this
    have hi' : i + 1 + es.length = R := by simp at hi; omega
    have hgi : E.getD i [] = e := by rw [List.getD_eq_getElem?_getD, h0]; rfl
    unfold goL
    split
    · rename_i hc
      simp only [Bool.and_eq_true, Bool.not_eq_true'] at hc
      split
      · rename_i hp
        have hjl := hrl i (by omega) hp
        obtain ⟨q1, q2⟩ := hr (row i).toNat (st.markR i) hjl hu
        have hl1 := (CR.le.markR st i).trans (hle (row i).toNat (st.markR i))
        have hu2 : uns C (rec (row i).toNat (st.markR i)).cs < f := by have := uns_le (C := C) hl1.c; omega
        obtain ⟨r1, r2⟩ := ih (i + 1) _ hes' hi' hu2
        have hl2 := goL_le (row := row) (k := k) hle es (i + 1) (rec (row i).toNat (st.markR i))
        have hA : Clo E R row st (rec (row i).toNat (st.markR i)) := ⟨q2.c, fun r hr' hr0 hp' => by
          by_cases e1 : r = i
          · rw [e1]; exact q1
          · exact q2.r r hr' (by show upd st.rs i true r = false; rw [upd_other _ _ _ _ e1]; exact hr0) hp'⟩
        refine ⟨hA.trans r1 hl2, fun r h1 h2 h3 => ?_⟩
        by_cases e1 : r = i
        · rw [e1]
          exact hl2.r i ((hle _ _).r i (upd_same _ _ _))
        · exact r2 r (by omega) h2 h3
      · rename_i hp
        obtain ⟨r1, r2⟩ := ih (i + 1) (st.markR i) hes' hi' hu
        have hl2 := goL_le (row := row) (k := k) hle es (i + 1) (st.markR i)
        have hA : Clo E R row st (st.markR i) := ⟨fun c h h' => (by rw [show (st.markR i).cs c = st.cs c from rfl, h'] at h; cases h), fun r hr' hr0 hp' => by
          by_cases e1 : r = i
          · rw [e1] at hp'; exact absurd hp' hp
          · rw [show (st.markR i).rs r = upd st.rs i true r from rfl, upd_other _ _ _ _ e1, hr0] at hr'
            cases hr'⟩
        refine ⟨hA.trans r1 hl2, fun r h1 h2 h3 => ?_⟩
        by_cases e1 : r = i
        · rw [e1]
          exact hl2.r i (upd_same _ _ _)
        · exact r2 r (by omega) h2 h3
    · rename_i hc
      obtain ⟨r1, r2⟩ := ih (i + 1) st hes' hi' hu
      refine ⟨r1, fun r h1 h2 h3 => ?_⟩
      by_cases e1 : r = i
      · subst e1
        rw [hgi] at h3
        have : st.rs r = true := by
          cases hrs : st.rs r with
          | true => rfl
          | false =>
            exfalso
            apply hc
            rw [hrs]
            simpa using h3
        exact (goL_le hle es (r + 1) st).r r this
      · exact r2 r (by omega) h2 h3
theorem goC_clo {E : List (List Nat)} {R C : Nat} {row : Nat → Int} (hrl : ∀ r, r < R → 0 ≤ row r → (row r).toNat < C) (hER : E.length = R) : ∀ (f k : Nat) (st : CR), k < C → uns C st.cs < f → (goC E row f k st).cs k = true ∧ Clo E R row st (goC E row f k st) := by
  intro f
  induction f with
  | zero => intro k st _ h; omega
  | succ f ih =>
    intro k st hk hu
    unfold goC
    split
    · rename_i h; exact ⟨h, .refl _ _ _ _⟩
    · rename_i h
      have h : st.cs k = false := by simpa using h
      have hu2 : uns C (st.markC k).cs < f := by
        have := uns_lt (C := C) (s := st.cs) (s' := (st.markC k).cs) (fun x hx => upd_true hx) hk h (upd_same _ _ _)
        omega
      obtain ⟨r1, r2⟩ := goL_clo (k := k) hrl hER (goC_le E row f) ih E 0 (st.markC k) (fun j e he => by rwa [Nat.zero_add]) (by omega) hu2
      have hl := goL_le (row := row) (k := k) (goC_le E row f) E 0 (st.markC k)
      refine ⟨hl.c k (upd_same _ _ _), ⟨fun c hc hc0 r hr hcr => ?_, r1.r⟩⟩
      by_cases e1 : c = k
      · subst e1; exact r2 r (Nat.zero_le _) hr hcr
      · exact r1.c c hc (by show upd st.cs k true c = false; rw [upd_other _ _ _ _ e1]; exact hc0) r hr hcr

/-- from all columns without a pair, of the first n -/
def goA (E : List (List Nat)) (C : Nat) (row col : Nat → Int) : Nat → CR
  | 0 => ⟨fun _ => false, fun _ => false⟩
  | n + 1 => if col n < 0 then goC E row (C + 1) n (goA E C row col n) else goA E C row col n
theorem goA_spec {E : List (List Nat)} {R C : Nat} {row col : Nat → Int} (h : Mx E R C row col) (hER : E.length = R) : (∀ r, (goA E C row col C).rs r = true ↔ Rch E R C row col true r) := by
  have hrl : ∀ r, r < R → 0 ≤ row r → (row r).toNat < C := fun r hr hp => (h.co.ra r hr hp).1
  have key : ∀ n, n ≤ C → Snd E R C row col (goA E C row col n) ∧ Clo E R row ⟨fun _ => false, fun _ => false⟩ (goA E C row col n) ∧ ∀ k, k < n → col k < 0 → (goA E C row col n).cs k = true := by
    intro n
    induction n with
    | zero => intro _; exact ⟨⟨(fun k hk => by cases hk), (fun r hr => by cases hr)⟩, .refl _ _ _ _, (fun k hk => by omega)⟩
    | succ n ih =>
      intro hn
      obtain ⟨i1, i2, i3⟩ := ih (by omega)
      unfold goA
      split
      · rename_i hc
        obtain ⟨q1, q2⟩ := goC_clo hrl hER (C + 1) n (goA E C row col n) (by omega) (by have := uns_all C (goA E C row col n).cs; omega)
        have hl := goC_le E row (C + 1) n (goA E C row col n)
        refine ⟨goC_snd hER _ _ _ (.free n (by omega) hc) i1, i2.trans q2 hl, fun k hk hk0 => ?_⟩
        by_cases e : k = n
        · rw [e]; exact q1
        · exact hl.c k (i3 k (by omega) hk0)
      · rename_i hc
        refine ⟨i1, i2, fun k hk hk0 => i3 k ?_ hk0⟩
        have : k ≠ n := fun e => hc (e ▸ hk0)
        omega
  obtain ⟨k1, k2, k3⟩ := key C (Nat.le_refl _)
  have full : ∀ b x, Rch E R C row col b x → if b = true then (goA E C row col C).rs x = true else (goA E C row col C).cs x = true := by
    intro b x hx
    induction hx with
    | free k hk h0 => exact k3 k hk h0
    | down k r _ hr hk ih => exact k2.c k ih rfl r hr hk
    | back r _ h0 ih => exact k2.r r ih rfl h0
  intro r
  exact ⟨k1.r r, fun hr => full true r hr⟩
theorem goA_none {E : List (List Nat)} {C : Nat} {row col : Nat → Int} : ∀ n, (∀ k, k < n → ¬ col k < 0) → goA E C row col n = ⟨fun _ => false, fun _ => false⟩ := by
  intro n
  induction n with
  | zero => intro _; rfl
  | succ n ih =>
    intro h
    unfold goA
    rw [if_neg (h n (by omega))]
    exact ih fun k hk => h k (by omega)

end Go.Proofs.Ytjbhnfejpgjghaa
