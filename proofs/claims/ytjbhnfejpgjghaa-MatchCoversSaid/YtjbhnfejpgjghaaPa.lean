/- Matchings (plain): the search keeps a matching one, fails only where nothing can be gained; fill is as large as any. -/
import Derived.Test.YtjbhnfejpgjghaaMi
namespace Go.Proofs.Ytjbhnfejpgjghaa
open Go.RowKit
set_option linter.unusedSimpArgs false
set_option linter.unusedVariables false

section
variable {E : List (List Nat)} {ok : Nat → Bool}

/-! ## a search that fails changes nothing but what was seen -/
theorem scan_same {rec : Nat → MS → Bool × MS} (hr : ∀ j st, (rec j st).1 = false → (rec j st).2.row = st.row ∧ (rec j st).2.col = st.col) (i : Nat) :
    ∀ (ks : List Nat) (st : MS), (scan ok rec i ks st).1 = false → (scan ok rec i ks st).2.row = st.row ∧ (scan ok rec i ks st).2.col = st.col := by
  intro ks
  induction ks with
  | nil => intro st _; exact ⟨rfl, rfl⟩
  | cons k ks ih =>
    intro st h
    unfold scan at h ⊢
    split at h
    · rename_i h1; rw [if_pos h1]; exact ih st h
    · rename_i h1
      rw [if_neg h1]
      split at h
      · cases h
      · rename_i h2
        rw [if_neg h2]
        split at h
        · cases h
        · rename_i h3
          rw [if_neg h3]
          have h4 := ih _ h
          have h5 := hr _ _ (by simpa using h3)
          exact ⟨h4.1.trans h5.1, h4.2.trans h5.2⟩
theorem tries_same : ∀ (f i : Nat) (st : MS), (tries E ok f i st).1 = false → (tries E ok f i st).2.row = st.row ∧ (tries E ok f i st).2.col = st.col := by
  intro f
  induction f with
  | zero => intro i st _; exact ⟨rfl, rfl⟩
  | succ f ih => intro i st h; exact scan_same ih i _ st h

/-! ## what a failed search has seen is closed -/
theorem scan_closed {C f : Nat} {rec : Nat → MS → Bool × MS} (hm : ∀ j st k, st.seen k = true → (rec j st).2.seen k = true) (hs : ∀ j st, (rec j st).1 = false → (rec j st).2.row = st.row ∧ (rec j st).2.col = st.col)
    (hr : ∀ j st, uns C st.seen < f → (rec j st).1 = false → (∀ k ∈ E.getD j [], ok k = true → (rec j st).2.seen k = true) ∧
      ∀ k, (rec j st).2.seen k = true → st.seen k = false → 0 ≤ st.col k ∧ ok k = true ∧ ∀ k' ∈ E.getD (st.col k).toNat [], ok k' = true → (rec j st).2.seen k' = true) (i : Nat) :
    ∀ (ks : List Nat) (st : MS), (∀ k ∈ ks, k < C) → uns C st.seen ≤ f → (scan ok rec i ks st).1 = false → (∀ k ∈ ks, ok k = true → (scan ok rec i ks st).2.seen k = true) ∧
      ∀ k, (scan ok rec i ks st).2.seen k = true → st.seen k = false → 0 ≤ st.col k ∧ ok k = true ∧ ∀ k' ∈ E.getD (st.col k).toNat [], ok k' = true → (scan ok rec i ks st).2.seen k' = true := by
  intro ks
  induction ks with
  | nil => intro st _ _ _; exact ⟨fun k hk => by (cases hk), fun k h1 h2 => by rw [show (scan ok rec i [] st).2.seen k = st.seen k from rfl, h2] at h1; cases h1⟩
  | cons a ks ih =>
    intro st hC hu h
    have hC' : ∀ k ∈ ks, k < C := fun k hk => hC k (List.mem_cons_of_mem _ hk)
    have hmono : ∀ s k, s.seen k = true → (scan ok rec i ks s).2.seen k = true := fun s k hk => scan_mono ok rec i hm ks s k hk
    unfold scan at h ⊢
    split at h
    · rename_i h1
      rw [if_pos h1]
      obtain ⟨c1, c2⟩ := ih st hC' hu h
      refine ⟨fun k hk hok => ?_, c2⟩
      rcases List.mem_cons.1 hk with rfl | hk
      · rw [hok] at h1
        exact hmono _ _ (by simpa using h1)
      · exact c1 k hk hok
    · rename_i h1
      rw [if_neg h1]
      simp only [Bool.or_eq_true, Bool.not_eq_true', not_or, Bool.not_eq_true, Bool.not_eq_false] at h1
      split at h
      · cases h
      · rename_i h2
        rw [if_neg h2]
        split at h
        · cases h
        · rename_i h3
          rw [if_neg h3]
          have h3 : (rec (st.col a).toNat (st.mark a)).1 = false := by simpa using h3
          have hua := uns_mark (st := st) (hC a (List.mem_cons_self ..)) h1.1
          obtain ⟨r1, r2⟩ := hr _ _ (Nat.lt_of_lt_of_le hua hu) h3
          have hsm := hs _ _ h3
          have hge : ∀ k, (st.mark a).seen k = true → (rec (st.col a).toNat (st.mark a)).2.seen k = true := fun k hk => hm _ _ k hk
          have hu2 : uns C (rec (st.col a).toNat (st.mark a)).2.seen ≤ f := by
            have := uns_le (C := C) hge
            omega
          obtain ⟨c1, c2⟩ := ih _ hC' hu2 h
          refine ⟨fun k hk hok => ?_, fun k hk hk0 => ?_⟩
          · rcases List.mem_cons.1 hk with rfl | hk
            · exact hmono _ _ (hge _ (upd_same _ _ _))
            · exact c1 k hk hok
          · by_cases e1 : (rec (st.col a).toNat (st.mark a)).2.seen k = true
            · by_cases e2 : k = a
              · subst e2
                exact ⟨by omega, h1.2, fun k' hk' hok => hmono _ _ (r1 k' hk' hok)⟩
              · obtain ⟨q1, q2, q3⟩ := r2 k e1 (by show upd st.seen a true k = false; rw [upd_other _ _ _ _ e2]; exact hk0)
                exact ⟨q1, q2, fun k' hk' hok => hmono _ _ (q3 k' hk' hok)⟩
            · obtain ⟨q1, q2, q3⟩ := c2 k hk (by simpa using e1)
              rw [hsm.2] at q1 q3
              exact ⟨q1, q2, q3⟩
theorem tries_closed {C : Nat} (hE : ∀ l ∈ E, ∀ k ∈ l, k < C) : ∀ (f i : Nat) (st : MS), uns C st.seen < f → (tries E ok f i st).1 = false → (∀ k ∈ E.getD i [], ok k = true → (tries E ok f i st).2.seen k = true) ∧
      ∀ k, (tries E ok f i st).2.seen k = true → st.seen k = false → 0 ≤ st.col k ∧ ok k = true ∧ ∀ k' ∈ E.getD (st.col k).toNat [], ok k' = true → (tries E ok f i st).2.seen k' = true := by
  intro f
  induction f with
  | zero => intro i st h; omega
  | succ f ih =>
    intro i st hu h
    refine scan_closed (C := C) (f := f) (tries_mono E ok f) (tries_same f) ih i _ st (fun k hk => ?_) (by omega) h
    rw [List.getD_eq_getElem?_getD] at hk
    cases hg : E[i]? with
    | none => rw [hg] at hk; cases hk
    | some l => rw [hg] at hk; exact hE l (List.mem_of_getElem? hg) k hk

/-! ## a set without a way out -/
theorem tries_stuck {X S : Nat → Prop} (h1 : ∀ r, X r → ∀ k ∈ E.getD r [], ok k = true → S k) : ∀ (f i : Nat) (st : MS), (∀ k, S k → 0 ≤ st.col k ∧ X (st.col k).toNat) → X i → (tries E ok f i st).1 = false := by
  intro f
  induction f with
  | zero => intro i st _ _; rfl
  | succ f ih =>
    intro i st h2 hi
    show (scan ok (tries E ok f) i (E.getD i []) st).1 = false
    have key : ∀ (ks : List Nat) (st : MS), (∀ k ∈ ks, ok k = true → S k) → (∀ k, S k → 0 ≤ st.col k ∧ X (st.col k).toNat) → (scan ok (tries E ok f) i ks st).1 = false := by
      intro ks
      induction ks with
      | nil => intro st _ _; rfl
      | cons k ks ihk =>
        intro st hks h2
        unfold scan
        split
        · exact ihk st (fun k' hk' => hks k' (List.mem_cons_of_mem _ hk')) h2
        · rename_i hc
          simp only [Bool.or_eq_true, Bool.not_eq_true', not_or, Bool.not_eq_true, Bool.not_eq_false] at hc
          have hS := hks k (List.mem_cons_self ..) hc.2
          obtain ⟨c1, c2⟩ := h2 k hS
          rw [if_neg (by omega)]
          have hf := ih (st.col k).toNat (st.mark k) h2 c2
          rw [if_neg (by rw [hf]; simp)]
          have hs := tries_same (E := E) (ok := ok) f _ _ hf
          refine ihk _ (fun k' hk' => hks k' (List.mem_cons_of_mem _ hk')) (fun k' hk' => ?_)
          rw [hs.2]
          exact h2 k' hk'
    exact key _ st (h1 i hi) h2
theorem tries_keep {X S : Nat → Prop} (h1 : ∀ r, X r → ∀ k ∈ E.getD r [], ok k = true → S k) : ∀ (f i : Nat) (st : MS), (∀ k, S k → 0 ≤ st.col k ∧ X (st.col k).toNat) → ∀ k, S k → (tries E ok f i st).2.col k = st.col k := by
  intro f
  induction f with
  | zero => intro i st _ k _; rfl
  | succ f ih =>
    intro i st h2
    show ∀ k, S k → (scan ok (tries E ok f) i (E.getD i []) st).2.col k = st.col k
    have key : ∀ (ks : List Nat) (st : MS), (∀ k, S k → 0 ≤ st.col k ∧ X (st.col k).toNat) → ∀ k, S k → (scan ok (tries E ok f) i ks st).2.col k = st.col k := by
      intro ks
      induction ks with
      | nil => intro st _ k _; rfl
      | cons a ks ihk =>
        intro st h2 k hk
        unfold scan
        split
        · exact ihk st h2 k hk
        · by_cases hS : S a
          · obtain ⟨c1, c2⟩ := h2 a hS
            have hf := tries_stuck h1 f (st.col a).toNat (st.mark a) h2 c2
            have hs := tries_same (E := E) (ok := ok) f _ _ hf
            rw [if_neg (by omega), if_neg (by rw [hf]; simp)]
            rw [ihk _ (fun k' hk' => by rw [hs.2]; exact h2 k' hk') k hk, hs.2]
            rfl
          · have hka : k ≠ a := fun e => hS (e ▸ hk)
            split
            · show upd st.col a (i : Int) k = _
              rw [upd_other _ _ _ _ hka]
            · split
              · show upd (tries E ok f (st.col a).toNat (st.mark a)).2.col a (i : Int) k = _
                rw [upd_other _ _ _ _ hka]
                exact ih (st.col a).toNat (st.mark a) h2 k hk
              · rename_i hf
                have hs := tries_same (E := E) (ok := ok) f (st.col a).toNat (st.mark a) (by simpa using hf)
                rw [ihk _ (fun k' hk' => by rw [hs.2]; exact h2 k' hk') k hk, hs.2]
                rfl
    exact key _ st h2

/-! ## a search that succeeds leaves a matching -/
/-- rows and columns tell the same pairs, but that column h (if any) may still tell a row that has another column -/
structure Co (E : List (List Nat)) (ok : Nat → Bool) (R C : Nat) (h : Int) (row col : Nat → Int) : Prop where
  rn : ∀ r, -1 ≤ row r
  cn : ∀ k, -1 ≤ col k
  ra : ∀ r, r < R → 0 ≤ row r → (row r).toNat < C ∧ col (row r).toNat = (r : Int) ∧ (row r).toNat ∈ E.getD r [] ∧ ok (row r).toNat = true
  ca : ∀ k, k < C → 0 ≤ col k → (col k).toNat < R ∧ ((k : Int) ≠ h → row (col k).toNat = (k : Int))

structure Ups (R C : Nat) (i : Nat) (st st' : MS) : Prop where
  got : 0 ≤ st'.row i ∧ st.seen (st'.row i).toNat = false
  oth : ∀ r, r ≠ i → (st.row r < 0 ∨ st.seen (st.row r).toNat = true) → st'.row r = st.row r
  pos : ∀ r, r ≠ i → (0 ≤ st'.row r ↔ 0 ≤ st.row r)
  new : ∀ r, st'.row r = st.row r ∨ (0 ≤ st'.row r ∧ st.seen (st'.row r).toNat = false)
  cpos : ∀ k, 0 ≤ st.col k → 0 ≤ st'.col k

theorem Co.free {R C i k : Nat} {st : MS} (h : Co E ok R C (-1) st.row st.col) (hi : i < R) (hk : k < C) (hkE : k ∈ E.getD i []) (hok : ok k = true) (h0 : st.col k < 0) (hsk : st.seen k = false) (hri : st.row i < 0 ∨ st.seen (st.row i).toNat = true) :
    Co E ok R C (st.row i) ((st.mark k).pair i k).row ((st.mark k).pair i k).col ∧ Ups R C i st ((st.mark k).pair i k) := by
  have er : ∀ r, ((st.mark k).pair i k).row r = if r = i then (k : Int) else st.row r := fun r => rfl
  have ec : ∀ j, ((st.mark k).pair i k).col j = if j = k then (i : Int) else st.col j := fun j => rfl
  refine ⟨⟨fun r => ?_, fun j => ?_, fun r hr hp => ?_, fun j hj hp => ?_⟩, ⟨?_, fun r hr _ => ?_, fun r hr => ?_, fun r => ?_, fun j hj => ?_⟩⟩
  · rw [er]; split
    · omega
    · exact h.rn r
  · rw [ec]; split
    · omega
    · exact h.cn j
  · rw [er] at hp ⊢
    by_cases e : r = i
    · rw [if_pos e, ec, if_pos (by omega), e]
      exact ⟨by simpa using hk, rfl, by simpa using hkE, by simpa using hok⟩
    · rw [if_neg e] at hp ⊢
      obtain ⟨a1, a2, a3, a4⟩ := h.ra r hr hp
      rw [ec, if_neg (fun e2 => by rw [e2] at a2; omega)]
      exact ⟨a1, a2, a3, a4⟩
  · rw [ec] at hp ⊢
    by_cases e : j = k
    · rw [if_pos e]
      refine ⟨by simpa using hi, fun _ => ?_⟩
      rw [er, if_pos (by omega), e]
    · rw [if_neg e] at hp ⊢
      obtain ⟨a1, a2⟩ := h.ca j hj hp
      have a2 := a2 (by omega)
      refine ⟨a1, fun hne => ?_⟩
      rw [er, if_neg (fun e2 => by rw [e2] at a2; omega)]
      exact a2
  · rw [er, if_pos rfl]
    exact ⟨by omega, by simpa using hsk⟩
  · rw [er, if_neg hr]
  · rw [er, if_neg hr]
  · rw [er]
    by_cases e : r = i
    · right; rw [if_pos e]; exact ⟨by omega, by simpa using hsk⟩
    · left; rw [if_neg e]
  · rw [ec]; split
    · omega
    · exact hj

theorem Co.over {R C i k : Nat} {st st1 : MS} (h : Co E ok R C (-1) st.row st.col) (hi : i < R) (hk : k < C) (hkE : k ∈ E.getD i []) (hok : ok k = true) (h0 : 0 ≤ st.col k) (hsk : st.seen k = false) (hri : st.row i < 0 ∨ st.seen (st.row i).toNat = true)
    (h1 : Co E ok R C ((st.mark k).row (st.col k).toNat) st1.row st1.col) (hu : Ups R C (st.col k).toNat (st.mark k) st1) (hck : st1.col k = st.col k) :
    Co E ok R C (st.row i) (st1.pair i k).row (st1.pair i k).col ∧ Ups R C i st (st1.pair i k) := by
  obtain ⟨j, hj⟩ : ∃ j, j = (st.col k).toNat := ⟨_, rfl⟩
  obtain ⟨hjR, hjk⟩ := h.ca k hk h0
  have hjk := hjk (by omega)
  rw [← hj] at hjR hjk hu h1
  have hmr : (st.mark k).row = st.row := rfl
  have hms : ∀ x, (st.mark k).seen x = if x = k then true else st.seen x := fun x => rfl
  rw [hmr, hjk] at h1
  have hji : j ≠ i := fun e => by
    rw [e] at hjk
    rw [hjk] at hri
    simp [hsk] at hri
    omega
  have hkj : st.col k = (j : Int) := by omega
  have hri1 : st1.row i = st.row i := hu.oth i (Ne.symm hji) (by
    rw [hmr]
    rcases hri with h | h
    · exact .inl h
    · right; rw [hms]; split
      · rfl
      · exact h)
  have er : ∀ r, (st1.pair i k).row r = if r = i then (k : Int) else st1.row r := fun r => rfl
  have ec : ∀ x, (st1.pair i k).col x = if x = k then (i : Int) else st1.col x := fun x => rfl
  have hjnew : st1.row j ≠ (k : Int) := fun e => by
    have := hu.got.2
    rw [e, hms] at this
    simp at this
  have hseen : ∀ x, (st.mark k).seen x = false → st.seen x = false := fun x hx => by
    rw [hms] at hx
    split at hx
    · cases hx
    · exact hx
  refine ⟨⟨fun r => ?_, fun x => ?_, fun r hr hp => ?_, fun x hx hp => ?_⟩, ⟨?_, fun r hr hc => ?_, fun r hr => ?_, fun r => ?_, fun x hx => ?_⟩⟩
  · rw [er]; split
    · omega
    · exact h1.rn r
  · rw [ec]; split
    · omega
    · exact h1.cn x
  · rw [er] at hp ⊢
    by_cases e : r = i
    · rw [if_pos e, ec, if_pos (by omega), e]
      exact ⟨by simpa using hk, rfl, by simpa using hkE, by simpa using hok⟩
    · rw [if_neg e] at hp ⊢
      obtain ⟨a1, a2, a3, a4⟩ := h1.ra r hr hp
      rw [ec, if_neg (fun e2 => by
        rw [e2, hck, hkj] at a2
        have : r = j := by omega
        subst this
        exact hjnew (by omega))]
      exact ⟨a1, a2, a3, a4⟩
  · rw [ec] at hp ⊢
    by_cases e : x = k
    · rw [if_pos e]
      refine ⟨by simpa using hi, fun _ => ?_⟩
      rw [er, if_pos (by omega), e]
    · rw [if_neg e] at hp ⊢
      obtain ⟨a1, a2⟩ := h1.ca x hx hp
      have a2 := a2 (by omega)
      refine ⟨a1, fun hne => ?_⟩
      rw [er, if_neg (fun e2 => by rw [e2, hri1] at a2; omega)]
      exact a2
  · rw [er, if_pos rfl]
    exact ⟨by omega, by simpa using hsk⟩
  · rw [er, if_neg hr]
    by_cases e : r = j
    · exfalso
      subst e
      rw [hjk] at hc
      simp [hsk] at hc
      omega
    · exact hu.oth r e (by
        rw [hmr]
        rcases hc with h | h
        · exact .inl h
        · right; rw [hms]; split
          · rfl
          · exact h)
  · rw [er, if_neg hr]
    by_cases e : r = j
    · subst e
      have := hu.got.1
      rw [hjk]
      omega
    · exact hu.pos r e
  · rw [er]
    by_cases e : r = i
    · right; rw [if_pos e]; exact ⟨by omega, by simpa using hsk⟩
    · rw [if_neg e]
      rcases hu.new r with h | ⟨h, h'⟩
      · exact .inl h
      · exact .inr ⟨h, hseen _ h'⟩
  · rw [ec]; split
    · omega
    · exact hu.cpos x hx

theorem tries_co {R C : Nat} (hE : ∀ l ∈ E, ∀ k ∈ l, k < C) : ∀ (f i : Nat) (st : MS), Co E ok R C (-1) st.row st.col → i < R → (st.row i < 0 ∨ st.seen (st.row i).toNat = true) → (tries E ok f i st).1 = true →
    Co E ok R C (st.row i) (tries E ok f i st).2.row (tries E ok f i st).2.col ∧ Ups R C i st (tries E ok f i st).2 := by
  intro f
  induction f with
  | zero => intro i st _ _ _ h; cases h
  | succ f ih =>
    intro i st h hi hri hs
    have key : ∀ (ks : List Nat) (st2 : MS), (∀ k ∈ ks, k ∈ E.getD i []) → st2.row = st.row → st2.col = st.col → (∀ k, st.seen k = true → st2.seen k = true) → (scan ok (tries E ok f) i ks st2).1 = true →
        Co E ok R C (st.row i) (scan ok (tries E ok f) i ks st2).2.row (scan ok (tries E ok f) i ks st2).2.col ∧ Ups R C i st2 (scan ok (tries E ok f) i ks st2).2 := by
      intro ks
      induction ks with
      | nil => intro st2 _ _ _ _ h; cases h
      | cons k ks ihk =>
        intro st2 hks hr hc hse hs
        have hks' : ∀ x ∈ ks, x ∈ E.getD i [] := fun x hx => hks x (List.mem_cons_of_mem _ hx)
        have hkE := hks k (List.mem_cons_self ..)
        have hkC : k < C := by
          rw [List.getD_eq_getElem?_getD] at hkE
          cases hg : E[i]? with
          | none => rw [hg] at hkE; cases hkE
          | some l => rw [hg] at hkE; exact hE l (List.mem_of_getElem? hg) k hkE
        have h2 : Co E ok R C (-1) st2.row st2.col := by rw [hr, hc]; exact h
        have hri2 : st2.row i < 0 ∨ st2.seen (st2.row i).toNat = true := by
          rw [hr]
          exact hri.imp id (hse _)
        have hri2' : st2.row i = st.row i := by rw [hr]
        unfold scan at hs ⊢
        split at hs
        · rename_i c1
          rw [if_pos c1]
          exact ihk st2 hks' hr hc hse hs
        · rename_i c1
          rw [if_neg c1]
          simp only [Bool.or_eq_true, Bool.not_eq_true', not_or, Bool.not_eq_true, Bool.not_eq_false] at c1
          split at hs
          · rename_i c2
            rw [if_pos c2]
            have := Co.free h2 hi hkC hkE c1.2 c2 c1.1 hri2
            rw [hri2'] at this
            exact this
          · rename_i c2
            rw [if_neg c2]
            have hc0 : 0 ≤ st2.col k := by omega
            obtain ⟨hjR, hjk⟩ := h2.ca k hkC hc0
            have hjk := hjk (by omega)
            split at hs
            · rename_i c3
              rw [if_pos c3]
              have hmk : (st2.mark k).seen k = true := upd_same _ _ _
              have hjs : (st2.mark k).row (st2.col k).toNat < 0 ∨ (st2.mark k).seen ((st2.mark k).row (st2.col k).toNat).toNat = true := by
                right
                show (st2.mark k).seen (st2.row (st2.col k).toNat).toNat = true
                rw [hjk]
                simpa using hmk
              obtain ⟨r1, r2⟩ := ih (st2.col k).toNat (st2.mark k) h2 hjR hjs c3
              have := Co.over h2 hi hkC hkE c1.2 hc0 c1.1 hri2 r1 r2 (tries_col E ok f _ _ k hmk)
              rw [hri2'] at this
              exact this
            · rename_i c3
              rw [if_neg c3]
              have hsm := tries_same (E := E) (ok := ok) f (st2.col k).toNat (st2.mark k) (by simpa using c3)
              have hgrow : ∀ x, st2.seen x = true → (tries E ok f (st2.col k).toNat (st2.mark k)).2.seen x = true := fun x hx => tries_mono E ok f _ _ x (by
                show upd st2.seen k true x = true
                unfold upd
                split
                · rfl
                · exact hx)
              obtain ⟨q1, q2⟩ := ihk _ hks' (hsm.1.trans hr) (hsm.2.trans hc) (fun x hx => hgrow x (hse x hx)) hs
              refine ⟨q1, ⟨⟨q2.got.1, ?_⟩, fun r hr' hc' => ?_, fun r hr' => ?_, fun r => ?_, fun x hx => ?_⟩⟩
              · have := q2.got.2
                cases hx : st2.seen ((scan ok (tries E ok f) i ks (tries E ok f (st2.col k).toNat (st2.mark k)).2).2.row i).toNat with
                | false => rfl
                | true => rw [hgrow _ hx] at this; cases this
              · rw [q2.oth r hr' (by rw [hsm.1]; exact hc'.imp id (hgrow _)), hsm.1]
                rfl
              · rw [q2.pos r hr', hsm.1]
                exact Iff.rfl
              · rcases q2.new r with h | ⟨h, h'⟩
                · left; rw [h, hsm.1]; rfl
                · refine .inr ⟨h, ?_⟩
                  cases hx : st2.seen ((scan ok (tries E ok f) i ks (tries E ok f (st2.col k).toNat (st2.mark k)).2).2.row r).toNat with
                  | false => rfl
                  | true => rw [hgrow _ hx] at h'; cases h'
              · exact q2.cpos x (by rw [hsm.2]; exact hx)
    exact key (E.getD i []) st (fun k hk => hk) rfl rfl (fun k hk => hk) hs
end

end Go.Proofs.Ytjbhnfejpgjghaa
