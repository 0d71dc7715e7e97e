/- Matchings (plain): the search keeps a matching one, fails only where nothing can be gained; fill is as large as any. -/
import Derived.Test.YtjbhnfejpgjghaaMi
namespace Go.Proofs.Ytjbhnfejpgjghaa
open Go.RowKit
set_option linter.unusedSimpArgs false
set_option linter.unusedVariables false

section
variable {E : List (List Nat)} {ok : Nat → Bool}

/-! ## a search that fails changes nothing but what was seen -/
theorem scan_same {rec : Nat → MS → Bool × MS} (hr : ∀ j st, (rec j st).1 = false → (rec j st).2.row = st.row ∧ (rec j st).2.col = st.col) (i : Nat) :
    ∀ (ks : List Nat) (st : MS), (scan ok rec i ks st).1 = false → (scan ok rec i ks st).2.row = st.row ∧ (scan ok rec i ks st).2.col = st.col := by
  intro ks
  induction ks with
  | nil => intro st _; exact ⟨rfl, rfl⟩
  | cons k ks ih =>
    intro st h
    unfold scan at h ⊢
    split at h
    · rename_i h1; rw [if_pos h1]; exact ih st h
    · rename_i h1
      rw [if_neg h1]
      split at h
      · cases h
      · rename_i h2
        rw [if_neg h2]
        split at h
        · cases h
        · rename_i h3
          rw [if_neg h3]
          have h4 := ih _ h
          have h5 := hr _ _ (by simpa using h3)
          exact ⟨h4.1.trans h5.1, h4.2.trans h5.2⟩
theorem tries_same : ∀ (f i : Nat) (st : MS), (tries E ok f i st).1 = false → (tries E ok f i st).2.row = st.row ∧ (tries E ok f i st).2.col = st.col := by
  intro f
  induction f with
  | zero => intro i st _; exact ⟨rfl, rfl⟩
  | succ f ih => intro i st h; exact scan_same ih i _ st h

/-! ## what a failed search has seen is closed -/
theorem scan_closed {C f : Nat} {rec : Nat → MS → Bool × MS} (hm : ∀ j st k, st.seen k = true → (rec j st).2.seen k = true) (hs : ∀ j st, (rec j st).1 = false → (rec j st).2.row = st.row ∧ (rec j st).2.col = st.col)
    (hr : ∀ j st, uns C st.seen < f → (rec j st).1 = false → (∀ k ∈ E.getD j [], ok k = true → (rec j st).2.seen k = true) ∧
      ∀ k, (rec j st).2.seen k = true → st.seen k = false → 0 ≤ st.col k ∧ ok k = true ∧ ∀ k' ∈ E.getD (st.col k).toNat [], ok k' = true → (rec j st).2.seen k' = true) (i : Nat) :
    ∀ (ks : List Nat) (st : MS), (∀ k ∈ ks, k < C) → uns C st.seen ≤ f → (scan ok rec i ks st).1 = false → (∀ k ∈ ks, ok k = true → (scan ok rec i ks st).2.seen k = true) ∧
      ∀ k, (scan ok rec i ks st).2.seen k = true → st.seen k = false → 0 ≤ st.col k ∧ ok k = true ∧ ∀ k' ∈ E.getD (st.col k).toNat [], ok k' = true → (scan ok rec i ks st).2.seen k' = true := by
  intro ks
  induction ks with
  | nil => intro st _ _ _; exact ⟨fun k hk => by (cases hk), fun k h1 h2 => by rw [show (scan ok rec i [] st).2.seen k = st.seen k from rfl, h2] at h1; cases h1⟩
  | cons a ks ih =>
    intro st hC hu h
    have hC' : ∀ k ∈ ks, k < C := fun k hk => hC k (List.mem_cons_of_mem _ hk)
    have hmono : ∀ s k, s.seen k = true → (scan ok rec i ks s).2.seen k = true := fun s k hk => scan_mono ok rec i hm ks s k hk
    unfold scan at h ⊢
    split at h
    · rename_i h1
      rw [if_pos h1]
      obtain ⟨c1, c2⟩ := ih st hC' hu h
      refine ⟨fun k hk hok => ?_, c2⟩
      rcases List.mem_cons.1 hk with rfl | hk
      · rw [hok] at h1
        exact hmono _ _ (by simpa using h1)
      · exact c1 k hk hok
    · rename_i h1
      rw [if_neg h1]
      simp only [Bool.or_eq_true, Bool.not_eq_true', not_or, Bool.not_eq_true, Bool.not_eq_false] at h1
      split at h
      · cases h
      · rename_i h2
        rw [if_neg h2]
        split at h
        · cases h
        · rename_i h3
          rw [if_neg h3]
          have h3 : (rec (st.col a).toNat (st.mark a)).1 = false := by simpa using h3
          have hua := uns_mark (st := st) (hC a (List.mem_cons_self ..)) h1.1
          obtain ⟨r1, r2⟩ := hr _ _ (Nat.lt_of_lt_of_le hua hu) h3
          have hsm := hs _ _ h3
          have hge : ∀ k, (st.mark a).seen k = true → (rec (st.col a).toNat (st.mark a)).2.seen k = true := fun k hk => hm _ _ k hk
          have hu2 : uns C (rec (st.col a).toNat (st.mark a)).2.seen ≤ f := by
            have := uns_le (C := C) hge
            omega
          obtain ⟨c1, c2⟩ := ih _ hC' hu2 h
          refine ⟨fun k hk hok => ?_, fun k hk hk0 => ?_⟩
          · rcases List.mem_cons.1 hk with rfl | hk
            · exact hmono _ _ (hge _ (upd_same _ _ _))
            · exact c1 k hk hok
          · by_cases e1 : (rec (st.col a).toNat (st.mark a)).2.seen k = true
            · by_cases e2 : k = a
              · subst e2
                exact ⟨by omega, h1.2, fun k' hk' hok => hmono _ _ (r1 k' hk' hok)⟩
              · obtain ⟨q1, q2, q3⟩ := r2 k e1 (by show upd st.seen a true k = false; rw [upd_other _ _ _ _ e2]; exact hk0)
                exact ⟨q1, q2, fun k' hk' hok => hmono _ _ (q3 k' hk' hok)⟩
            · obtain ⟨q1, q2, q3⟩ := c2 k hk (by simpa using e1)
              rw [hsm.2] at q1 q3
              exact ⟨q1, q2, q3⟩
theorem tries_closed {C : Nat} (hE : ∀ l ∈ E, ∀ k ∈ l, k < C) : ∀ (f i : Nat) (st : MS), uns C st.seen < f → (tries E ok f i st).1 = false → (∀ k ∈ E.getD i [], ok k = true → (tries E ok f i st).2.seen k = true) ∧
      ∀ k, (tries E ok f i st).2.seen k = true → st.seen k = false → 0 ≤ st.col k ∧ ok k = true ∧ ∀ k' ∈ E.getD (st.col k).toNat [], ok k' = true → (tries E ok f i st).2.seen k' = true := by
  intro f
  induction f with
  | zero => intro i st h; omega
  | succ f ih =>
    intro i st hu h
    refine scan_closed (C := C) (f := f) (tries_mono E ok f) (tries_same f) ih i _ st (fun k hk => ?_) (by omega) h
    rw [List.getD_eq_getElem?_getD] at hk
    cases hg : E[i]? with
    | none => rw [hg] at hk; cases hk
    | some l => rw [hg] at hk; exact hE l (List.mem_of_getElem? hg) k hk

/-! ## a set without a way out -/
theorem tries_stuck {X S : Nat → Prop} (h1 : ∀ r, X r → ∀ k ∈ E.getD r [], ok k = true → S k) : ∀ (f i : Nat) (st : MS), (∀ k, S k → 0 ≤ st.col k ∧ X (st.col k).toNat) → X i → (tries E ok f i st).1 = false := by
  intro f
  induction f with
  | zero => intro i st _ _; rfl
  | succ f ih =>
    intro i st h2 hi
    show (scan ok (tries E ok f) i (E.getD i []) st).1 = false
    have key : ∀ (ks : List Nat) (st : MS), (∀ k ∈ ks, ok k = true → S k) → (∀ k, S k → 0 ≤ st.col k ∧ X (st.col k).toNat) → (scan ok (tries E ok f) i ks st).1 = false := by
      intro ks
      induction ks with
      | nil => intro st _ _; rfl
      | cons k ks ihk =>
        intro st hks h2
        unfold scan
        split
        · exact ihk st (fun k' hk' => hks k' (List.mem_cons_of_mem _ hk')) h2
        · rename_i hc
          simp only [Bool.or_eq_true, Bool.not_eq_true', not_or, Bool.not_eq_true, Bool.not_eq_false] at hc
          have hS := hks k (List.mem_cons_self ..) hc.2
          obtain ⟨c1, c2⟩ := h2 k hS
          rw [if_neg (by omega)]
          have hf := ih (st.col k).toNat (st.mark k) h2 c2
          rw [if_neg (by rw [hf]; simp)]
          have hs := tries_same (E := E) (ok := ok) f _ _ hf
          refine ihk _ (fun k' hk' => hks k' (List.mem_cons_of_mem _ hk')) (fun k' hk' => ?_)
          rw [hs.2]
          exact h2 k' hk'
    exact key _ st (h1 i hi) h2
theorem tries_keep {X S : Nat → Prop} (h1 : ∀ r, X r → ∀ k ∈ E.getD r [], ok k = true → S k) : ∀ (f i : Nat) (st : MS), (∀ k, S k → 0 ≤ st.col k ∧ X (st.col k).toNat) → ∀ k, S k → (tries E ok f i st).2.col k = st.col k := by
  intro f
  induction f with
  | zero => intro i st _ k _; rfl
  | succ f ih =>
    intro i st h2
    show ∀ k, S k → (scan ok (tries E ok f) i (E.getD i []) st).2.col k = st.col k
    have key : ∀ (ks : List Nat) (st : MS), (∀ k, S k → 0 ≤ st.col k ∧ X (st.col k).toNat) → ∀ k, S k → (scan ok (tries E ok f) i ks st).2.col k = st.col k := by
      intro ks
      induction ks with
      | nil => intro st _ k _; rfl
      | cons a ks ihk =>
        intro st h2 k hk
        unfold scan
        split
        · exact ihk st h2 k hk
        · by_cases hS : S a
          · obtain ⟨c1, c2⟩ := h2 a hS
            have hf := tries_stuck h1 f (st.col a).toNat (st.mark a) h2 c2
            have hs := tries_same (E := E) (ok := ok) f _ _ hf
            rw [if_neg (by omega), if_neg (by rw [hf]; simp)]
            rw [ihk _ (fun k' hk' => by rw [hs.2]; exact h2 k' hk') k hk, hs.2]
            rfl
          · have hka : k ≠ a := fun e => hS (e ▸ hk)
            split
            · show upd st.col a (i : Int) k = _
              rw [upd_other _ _ _ _ hka]
            · split
              · show upd (tries E ok f (st.col a).toNat (st.mark a)).2.col a (i : Int) k = _
                rw [upd_other _ _ _ _ hka]
                exact ih (st.col a).toNat (st.mark a) h2 k hk
              · rename_i hf
                have hs := tries_same (E := E) (ok := ok) f (st.col a).toNat (st.mark a) (by simpa using hf)
                rw [ihk _ (fun k' hk' => by rw [hs.2]; exact h2 k' hk') k hk, hs.2]
                rfl
    exact key _ st h2

/-! ## a search that succeeds leaves a matching -/
/-- rows and columns tell the same pairs, but that column h (if any) may still tell a row that has another column -/
structure Co (E : List (List Nat)) (ok : Nat → Bool) (R C : Nat) (h : Int) (row col : Nat → Int) : Prop where
  rn : ∀ r, -1 ≤ row r
  cn : ∀ k, -1 ≤ col k
  ra : ∀ r, r < R → 0 ≤ row r → (row r).toNat < C ∧ col (row r).toNat = (r : Int) ∧ (row r).toNat ∈ E.getD r [] ∧ ok (row r).toNat = true
  ca : ∀ k, k < C → 0 ≤ col k → (col k).toNat < R ∧ ((k : Int) ≠ h → row (col k).toNat = (k : Int))

structure Ups (R C : Nat) (i : Nat) (st st' : MS) : Prop where
  got : 0 ≤ st'.row i ∧ st.seen (st'.row i).toNat = false
  oth : ∀ r, r ≠ i → (st.row r < 0 ∨ st.seen (st.row r).toNat = true) → st'.row r = st.row r
  pos : ∀ r, r ≠ i → (0 ≤ st'.row r ↔ 0 ≤ st.row r)
  new : ∀ r, st'.row r = st.row r ∨ (0 ≤ st'.row r ∧ st.seen (st'.row r).toNat = false)
  cpos : ∀ k, 0 ≤ st.col k → 0 ≤ st'.col k

theorem Co.free {R C i k : Nat} {st : MS} (h : Co E ok R C (-1) st.row st.col) (hi : i < R) (hk : k < C) (hkE : k ∈ E.getD i []) (hok : ok k = true) (h0 : st.col k < 0) (hsk : st.seen k = false) (hri : st.row i < 0 ∨ st.seen (st.row i).toNat = true) :
    Co E ok R C (st.row i) ((st.mark k).pair i k).row ((st.mark k).pair i k).col ∧ Ups R C i st ((st.mark k).pair i k) := by
  have er : ∀ r, ((st.mark k).pair i k).row r = if r = i then (k : Int) else st.row r := fun r => rfl
  have ec : ∀ j, ((st.mark k).pair i k).col j = if j = k then (i : Int) else st.col j := fun j => rfl
  refine ⟨⟨fun r => ?_, fun j => ?_, fun r hr hp => ?_, fun j hj hp => ?_⟩, ⟨?_, fun r hr _ => ?_, fun r hr => ?_, fun r => ?_, fun j hj => ?_⟩⟩
  · rw [er]; split
    · omega
    · exact h.rn r
  · rw [ec]; split
    · omega
    · exact h.cn j
  · rw [er] at hp ⊢
    by_cases e : r = i
    · rw [if_pos e, ec, if_pos (by omega), e]
      exact ⟨by simpa using hk, rfl, by simpa using hkE, by simpa using hok⟩
    · rw [if_neg e] at hp ⊢
      obtain ⟨a1, a2, a3, a4⟩ := h.ra r hr hp
      rw [ec, if_neg (fun e2 => by rw [e2] at a2; omega)]
      exact ⟨a1, a2, a3, a4⟩
  · rw [ec] at hp ⊢
    by_cases e : j = k
    · rw [if_pos e]
      refine ⟨by simpa using hi, fun _ => ?_⟩
      rw [er, if_pos (by omega), e]
    · rw [if_neg e] at hp ⊢
      obtain ⟨a1, a2⟩ := h.ca j hj hp
      have a2 := a2 (by omega)
      refine ⟨a1, fun hne => ?_⟩
      rw [er, if_neg (fun e2 => by rw [e2] at a2; omega)]
      exact a2
  · rw [er, if_pos rfl]
    exact ⟨by omega, by simpa using hsk⟩
  · rw [er, if_neg hr]
  · rw [er, if_neg hr]
  · rw [er]
    by_cases e : r = i
    · right; rw [if_pos e]; exact ⟨by omega, by simpa using hsk⟩
    · left; rw [if_neg e]
  · rw [ec]; split
    · omega
    · exact hj

theorem Co.over {R C i k : Nat} {st st1 : MS} (h : Co E ok R C (-1) st.row st.col) (hi : i < R) (hk : k < C) (hkE : k ∈ E.getD i []) (hok : ok k = true) (h0 : 0 ≤ st.col k) (hsk : st.seen k = false) (hri : st.row i < 0 ∨ st.seen (st.row i).toNat = true)
    (h1 : Co E ok R C ((st.mark k).row (st.col k).toNat) st1.row st1.col) (hu : Ups R C (st.col k).toNat (st.mark k) st1) (hck : st1.col k = st.col k) :
    Co E ok R C (st.row i) (st1.pair i k).row (st1.pair i k).col ∧ Ups R C i st (st1.pair i k) := by
  obtain ⟨j, hj⟩ : ∃ j, j = (st.col k).toNat := ⟨_, rfl⟩
  obtain ⟨hjR, hjk⟩ := h.ca k hk h0
  have hjk := hjk (by omega)
  rw [← hj] at hjR hjk hu h1
  have hmr : (st.mark k).row = st.row := rfl
  have hms : ∀ x, (st.mark k).seen x = if x = k then true else st.seen x := fun x => rfl
  rw [hmr, hjk] at h1
  have hji : j ≠ i := fun e => by
    rw [e] at hjk
    rw [hjk] at hri
    simp [hsk] at hri
    omega
  have hkj : st.col k = (j : Int) := by omega
  have hri1 : st1.row i = st.row i := hu.oth i (Ne.symm hji) (by
    rw [hmr]
    rcases hri with h | h
    · exact .inl h
    · right; rw [hms]; split
      · rfl
      · exact h)
  have er : ∀ r, (st1.pair i k).row r = if r = i then (k : Int) else st1.row r := fun r => rfl
  have ec : ∀ x, (st1.pair i k).col x = if x = k then (i : Int) else st1.col x := fun x => rfl
  have hjnew : st1.row j ≠ (k : Int) := fun e => by
    have := hu.got.2
    rw [e, hms] at this
    simp at this
  have hseen : ∀ x, (st.mark k).seen x = false → st.seen x = false := fun x hx => by
    rw [hms] at hx
    split at hx
    · cases hx
    · exact hx
  refine ⟨⟨fun r => ?_, fun x => ?_, fun r hr hp => ?_, fun x hx hp => ?_⟩, ⟨?_, fun r hr hc => ?_, fun r hr => ?_, fun r => ?_, fun x hx => ?_⟩⟩
  · rw [er]; split
    · omega
    · exact h1.rn r
  · rw [ec]; split
    · omega
    · exact h1.cn x
  · rw [er] at hp ⊢
    by_cases e : r = i
    · rw [if_pos e, ec, if_pos (by omega), e]
      exact ⟨by simpa using hk, rfl, by simpa using hkE, by simpa using hok⟩
    · rw [if_neg e] at hp ⊢
      obtain ⟨a1, a2, a3, a4⟩ := h1.ra r hr hp
      rw [ec, if_neg (fun e2 => by
        rw [e2, hck, hkj] at a2
        have : r = j := by omega
        subst this
        exact hjnew (by omega))]
      exact ⟨a1, a2, a3, a4⟩
  · rw [ec] at hp ⊢
    by_cases e : x = k
    · rw [if_pos e]
      refine ⟨by simpa using hi, fun _ => ?_⟩
      rw [er, if_pos (by omega), e]
    · rw [if_neg e] at hp ⊢
      obtain ⟨a1, a2⟩ := h1.ca x hx hp
      have a2 := a2 (by omega)
      refine ⟨a1, fun hne => ?_⟩
      rw [er, if_neg (fun e2 => by rw [e2, hri1] at a2; omega)]
      exact a2
  · rw [er, if_pos rfl]
    exact ⟨by omega, by simpa using hsk⟩
  · rw [er, if_neg hr]
    by_cases e : r = j
    · exfalso
      subst e
      rw [hjk] at hc
      simp [hsk] at hc
      omega
    · exact hu.oth r e (by
        rw [hmr]
        rcases hc with h | h
        · exact .inl h
        · right; rw [hms]; split
          · rfl
          · exact h)
  · rw [er, if_neg hr]
    by_cases e : r = j
    · subst e
      have := hu.got.1
      rw [hjk]
      omega
    · exact hu.pos r e
  · rw [er]
    by_cases e : r = i
    · right; rw [if_pos e]; exact ⟨by omega, by simpa using hsk⟩
    · rw [if_neg e]
      rcases hu.new r with h | ⟨h, h'⟩
      · exact .inl h
      · exact .inr ⟨h, hseen _ h'⟩
  · rw [ec]; split
    · omega
    · exact hu.cpos x hx

theorem tries_co {R C : Nat} (hE : ∀ l ∈ E, ∀ k ∈ l, k < C) : ∀ (f i : Nat) (st : MS), Co E ok R C (-1) st.row st.col → i < R → (st.row i < 0 ∨ st.seen (st.row i).toNat = true) → (tries E ok f i st).1 = true →
    Co E ok R C (st.row i) (tries E ok f i st).2.row (tries E ok f i st).2.col ∧ Ups R C i st (tries E ok f i st).2 := by
  intro f
  induction f with
  | zero => intro i st _ _ _ h; cases h
  | succ f ih =>
    intro i st h hi hri hs
    have key : ∀ (ks : List Nat) (st2 : MS), (∀ k ∈ ks, k ∈ E.getD i []) → st2.row = st.row → st2.col = st.col → (∀ k, st.seen k = true → st2.seen k = true) → (scan ok (tries E ok f) i ks st2).1 = true →
        Co E ok R C (st.row i) (scan ok (tries E ok f) i ks st2).2.row (scan ok (tries E ok f) i ks st2).2.col ∧ Ups R C i st2 (scan ok (tries E ok f) i ks st2).2 := by
      intro ks
      induction ks with
      | nil => intro st2 _ _ _ _ h; cases h
      | cons k ks ihk =>
        intro st2 hks hr hc hse hs
        have hks' : ∀ x ∈ ks, x ∈ E.getD i [] := fun x hx => hks x (List.mem_cons_of_mem _ hx)
        have hkE := hks k (List.mem_cons_self ..)
        have hkC : k < C := by
          rw [List.getD_eq_getElem?_getD] at hkE
          cases hg : E[i]? with
          | none => rw [hg] at hkE; cases hkE
          | some l => rw [hg] at hkE; exact hE l (List.mem_of_getElem? hg) k hkE
        have h2 : Co E ok R C (-1) st2.row st2.col := by rw [hr, hc]; exact h
        have hri2 : st2.row i < 0 ∨ st2.seen (st2.row i).toNat = true := by
          rw [hr]
          exact hri.imp id (hse _)
        have hri2' : st2.row i = st.row i := by rw [hr]
        unfold scan at hs ⊢
        split at hs
        · rename_i c1
          rw [if_pos c1]
          exact ihk st2 hks' hr hc hse hs
        · rename_i c1
          rw [if_neg c1]
          simp only [Bool.or_eq_true, Bool.not_eq_true', not_or, Bool.not_eq_true, Bool.not_eq_false] at c1
          split at hs
          · rename_i c2
            rw [if_pos c2]
            have := Co.free h2 hi hkC hkE c1.2 c2 c1.1 hri2
            rw [hri2'] at this
            exact this
          · rename_i c2
            rw [if_neg c2]
            have hc0 : 0 ≤ st2.col k := by omega
            obtain ⟨hjR, hjk⟩ := h2.ca k hkC hc0
            have hjk := hjk (by omega)
            split at hs
            · rename_i c3
              rw [if_pos c3]
              have hmk : (st2.mark k).seen k = true := upd_same _ _ _
              have hjs : (st2.mark k).row (st2.col k).toNat < 0 ∨ (st2.mark k).seen ((st2.mark k).row (st2.col k).toNat).toNat = true := by
                right
                show (st2.mark k).seen (st2.row (st2.col k).toNat).toNat = true
                rw [hjk]
                simpa using hmk
              obtain ⟨r1, r2⟩ := ih (st2.col k).toNat (st2.mark k) h2 hjR hjs c3
              have := Co.over h2 hi hkC hkE c1.2 hc0 c1.1 hri2 r1 r2 (tries_col E ok f _ _ k hmk)
              rw [hri2'] at this
              exact this
            · rename_i c3
              rw [if_neg c3]
              have hsm := tries_same (E := E) (ok := ok) f (st2.col k).toNat (st2.mark k) (by simpa using c3)
              have hgrow : ∀ x, st2.seen x = true → (tries E ok f (st2.col k).toNat (st2.mark k)).2.seen x = true := fun x hx => tries_mono E ok f _ _ x (by
                show upd st2.seen k true x = true
                unfold upd
                split
                · rfl
                · exact hx)
              obtain ⟨q1, q2⟩ := ihk _ hks' (hsm.1.trans hr) (hsm.2.trans hc) (fun x hx => hgrow x (hse x hx)) hs
              refine ⟨q1, ⟨⟨q2.got.1, ?_⟩, fun r hr' hc' => ?_, fun r hr' => ?_, fun r => ?_, fun x hx => ?_⟩⟩
              · have := q2.got.2
                cases hx : st2.seen ((scan ok (tries E ok f) i ks (tries E ok f (st2.col k).toNat (st2.mark k)).2).2.row i).toNat with
                | false => rfl
                | true => rw [hgrow _ hx] at this; cases this
              · rw [q2.oth r hr' (by rw [hsm.1]; exact hc'.imp id (hgrow _)), hsm.1]
                rfl
              · rw [q2.pos r hr', hsm.1]
                exact Iff.rfl
              · rcases q2.new r with h | ⟨h, h'⟩
                · left; rw [h, hsm.1]; rfl
                · refine .inr ⟨h, ?_⟩
                  cases hx : st2.seen ((scan ok (tries E ok f) i ks (tries E ok f (st2.col k).toNat (st2.mark k)).2).2.row r).toNat with
                  | false => rfl
                  | true => rw [hgrow _ hx] at h'; cases h'
              · exact q2.cpos x (by rw [hsm.2]; exact hx)
    exact key (E.getD i []) st (fun k hk => hk) rfl rfl (fun k hk => hk) hs
end

end Go.Proofs.Ytjbhnfejpgjghaa

/- fill (plain): it is a matching, as large as any. -/
namespace Go.Proofs.Ytjbhnfejpgjghaa
open Go.RowKit
set_option linter.unusedSimpArgs false
set_option linter.unusedVariables false

theorem nodup_sub : ∀ (l1 l2 : List Nat), l1.Nodup → (∀ x ∈ l1, x ∈ l2) → l1.length ≤ l2.length := by
  intro l1
  induction l1 with
  | nil => intro l2 _ _; exact Nat.zero_le _
  | cons a l1 ih =>
    intro l2 hn hs
    rw [List.nodup_cons] at hn
    have ha := hs a (List.mem_cons_self ..)
    have h1 := ih (l2.erase a) hn.2 (fun x hx => by
      have : x ≠ a := fun e => hn.1 (e ▸ hx)
      exact (List.mem_erase_of_ne this).2 (hs x (List.mem_cons_of_mem _ hx)))
    rw [List.length_erase_of_mem ha] at h1
    have := List.length_pos_of_mem ha
    simp only [List.length_cons]
    omega

theorem cnt_len (row : Nat → Int) : ∀ n, cnt row n = ((List.range n).filter fun r => decide (0 ≤ row r)).length := by
  intro n
  induction n with
  | zero => rfl
  | succ n ih =>
    rw [List.range_succ, List.filter_append, List.length_append, ← ih]
    show cnt row n + _ = _
    by_cases h : 0 ≤ row n
    · simp [h]
    · simp [h]
theorem range_filter_nodup (n : Nat) (p : Nat → Bool) : ((List.range n).filter p).Nodup := List.Nodup.sublist List.filter_sublist List.nodup_range
theorem map_nodup {l : List Nat} {h : Nat → Nat} (hl : l.Nodup) (hi : ∀ a ∈ l, ∀ b ∈ l, h a = h b → a = b) : (l.map h).Nodup := by
  unfold List.Nodup
  rw [List.pairwise_map]
  exact List.Pairwise.imp_of_mem (fun {a b} ha hb hne e => hne (hi a ha b hb e)) hl

/-- a choice of different columns for some rows -/
structure Asg (E : List (List Nat)) (ok rows : Nat → Bool) (R : Nat) (f : Nat → Int) : Prop where
  val : ∀ r, r < R → 0 ≤ f r → rows r = true ∧ (f r).toNat ∈ E.getD r [] ∧ ok (f r).toNat = true
  inj : ∀ r r', r < R → r' < R → 0 ≤ f r → f r = f r' → r = r'

structure Wit (E : List (List Nat)) (ok rows : Nat → Bool) (C n : Nat) (row col : Nat → Int) (X S : Nat → Prop) : Prop where
  out : ∀ r, X r → ∀ k ∈ E.getD r [], ok k = true → S k
  back : ∀ k, S k → k < C ∧ 0 ≤ col k ∧ X (col k).toNat
  left : ∀ r, r < n → rows r = true → row r < 0 → X r

structure FI (E : List (List Nat)) (ok rows : Nat → Bool) (R C n : Nat) (row col : Nat → Int) : Prop where
  co : Co E ok R C (-1) row col
  own : ∀ r, 0 ≤ row r → rows r = true ∧ r < n
  wit : ∃ X S : Nat → Prop, Wit E ok rows C n row col X S

theorem getD_lt {E : List (List Nat)} {C : Nat} (hE : ∀ l ∈ E, ∀ k ∈ l, k < C) {r k : Nat} (h : k ∈ E.getD r []) : k < C := by
  rw [List.getD_eq_getElem?_getD] at h
  cases hg : E[r]? with
  | none => rw [hg] at h; cases h
  | some l => rw [hg] at h; exact hE l (List.mem_of_getElem? hg) k h

theorem fill_fi {E : List (List Nat)} {ok rows : Nat → Bool} {R C : Nat} (hE : ∀ l ∈ E, ∀ k ∈ l, k < C) : ∀ n, n ≤ R → FI E ok rows R C n (fill E ok rows C n).1 (fill E ok rows C n).2 := by
  intro n
  induction n with
  | zero =>
    intro _
    have h1 : ∀ r, (fill E ok rows C 0).1 r = -1 := fun _ => rfl
    have h2 : ∀ r, (fill E ok rows C 0).2 r = -1 := fun _ => rfl
    refine ⟨⟨fun r => by rw [h1]; omega, fun k => by rw [h2]; omega, fun r _ h => by rw [h1] at h; omega, fun k _ h => by rw [h2] at h; omega⟩, fun r h => by rw [h1] at h; omega, fun _ => False, fun _ => False, fun r h => h.elim, fun k h => h.elim, fun r hr => by omega⟩
  | succ n ih =>
    intro hn
    obtain ⟨hco, hown, X, S, hw⟩ := ih (by omega)
    by_cases hr : rows n = true
    · have hfl : fill E ok rows C (n + 1) = ((tries E ok (C + 1) n (MS0 (fill E ok rows C n).1 (fill E ok rows C n).2)).2.row, (tries E ok (C + 1) n (MS0 (fill E ok rows C n).1 (fill E ok rows C n).2)).2.col) := by
        show (if _ then _ else _) = _
        rw [if_pos hr]
      rw [hfl]
      have hrn : (fill E ok rows C n).1 n < 0 := by
        apply Classical.byContradiction
        intro hc
        have := (hown n (by omega)).2
        omega
      obtain ⟨st, hst⟩ : ∃ st, st = MS0 (fill E ok rows C n).1 (fill E ok rows C n).2 := ⟨_, rfl⟩
      have e1 : st.row = (fill E ok rows C n).1 := by rw [hst]; rfl
      have e2 : st.col = (fill E ok rows C n).2 := by rw [hst]; rfl
      have e3 : ∀ k, st.seen k = false := fun k => by rw [hst]; rfl
      rw [← hst]
      rw [← e1, ← e2] at hco
      rw [← e1] at hown hrn
      rw [← e1, ← e2] at hw
      cases hs : (tries E ok (C + 1) n st).1 with
      | true =>
        obtain ⟨c1, c2⟩ := tries_co hE (C + 1) n st hco (by omega) (.inl hrn) hs
        have hm1 : st.row n = -1 := by have := hco.rn n; omega
        rw [hm1] at c1
        refine ⟨c1, fun r h => ?_, X, S, hw.out, fun k hk => ?_, fun r hr' hrr h => ?_⟩
        · by_cases e : r = n
          · subst e; exact ⟨hr, by omega⟩
          · have := hown r ((c2.pos r e).1 h)
            exact ⟨this.1, by omega⟩
        · have hk2 := tries_keep hw.out (C + 1) n st (fun k hk => (hw.back k hk).2) k hk
          show k < C ∧ 0 ≤ (tries E ok (C + 1) n st).2.col k ∧ X ((tries E ok (C + 1) n st).2.col k).toNat
          rw [hk2]
          exact hw.back k hk
        · by_cases e : r = n
          · subst e
            have := c2.got.1
            exfalso
            have h' : (tries E ok (C + 1) r st).2.row r < 0 := h
            omega
          · refine hw.left r (by omega) hrr ?_
            have h' : (tries E ok (C + 1) n st).2.row r < 0 := h
            apply Classical.byContradiction
            intro hc
            have := (c2.pos r e).2 (by omega)
            omega
      | false =>
        obtain ⟨s1, s2⟩ := tries_same (C + 1) n st hs
        obtain ⟨d1, d2⟩ := tries_closed hE (C + 1) n st (by have := uns_all C st.seen; omega) hs
        rw [s1, s2]
        refine ⟨hco, fun r h => ⟨(hown r h).1, by have := (hown r h).2; omega⟩, fun r => X r ∨ r = n ∨ ∃ k, k < C ∧ (tries E ok (C + 1) n st).2.seen k = true ∧ (st.col k).toNat = r, fun k => S k ∨ (k < C ∧ (tries E ok (C + 1) n st).2.seen k = true), fun r h k hk hok => ?_, fun k hk => ?_, fun r hr' hrr h => ?_⟩
        · rcases h with h | rfl | ⟨k', hk', hs', rfl⟩
          · exact .inl (hw.out r h k hk hok)
          · exact .inr ⟨getD_lt hE hk, d1 k hk hok⟩
          · exact .inr ⟨getD_lt hE hk, (d2 k' hs' (e3 k')).2.2 k hk hok⟩
        · rcases hk with hk | ⟨hk, hs'⟩
          · obtain ⟨b1, b2, b3⟩ := hw.back k hk
            exact ⟨b1, b2, .inl b3⟩
          · exact ⟨hk, (d2 k hs' (e3 k)).1, .inr (.inr ⟨k, hk, hs', rfl⟩)⟩
        · by_cases e : r = n
          · exact .inr (.inl e)
          · exact .inl (hw.left r (by omega) hrr h)
    · have hfl : fill E ok rows C (n + 1) = fill E ok rows C n := by
        show (if _ then _ else _) = _
        rw [if_neg hr]
      rw [hfl]
      refine ⟨hco, fun r h => ⟨(hown r h).1, by have := (hown r h).2; omega⟩, X, S, hw.out, hw.back, fun r hr' hrr h => ?_⟩
      by_cases e : r = n
      · subst e; exact absurd hrr hr
      · exact hw.left r (by omega) hrr h

theorem fill_asg {E : List (List Nat)} {ok rows : Nat → Bool} {R C : Nat} {row col : Nat → Int} (h : FI E ok rows R C R row col) : Asg E ok rows R row := by
  refine ⟨fun r hr hp => ?_, fun r r' hr hr' hp e => ?_⟩
  · obtain ⟨a1, a2, a3, a4⟩ := h.co.ra r hr hp
    exact ⟨(h.own r hp).1, a3, a4⟩
  · have a2 := (h.co.ra r hr hp).2.1
    have b2 := (h.co.ra r' hr' (by omega)).2.1
    rw [e] at a2
    omega

/-- no choice has more -/
theorem asg_le {E : List (List Nat)} {ok rows : Nat → Bool} {R C : Nat} {row col : Nat → Int} (hE : ∀ l ∈ E, ∀ k ∈ l, k < C) (h : FI E ok rows R C R row col) {f : Nat → Int} (hf : Asg E ok rows R f) : cnt f R ≤ cnt row R := by
  classical
  obtain ⟨X, S, hw⟩ := h.wit
  rw [cnt_len, cnt_len]
  have hin : ∀ r, r < R → 0 ≤ f r → X r → S (f r).toNat := fun r hr hp hx => by
    obtain ⟨v1, v2, v3⟩ := hf.val r hr hp
    exact hw.out r hx _ v2 v3
  have hcol : ∀ k, S k → (col k).toNat < R ∧ row (col k).toNat = (k : Int) ∧ X (col k).toNat := fun k hk => by
    obtain ⟨b1, b2, b3⟩ := hw.back k hk
    obtain ⟨c1, c2⟩ := h.co.ca k b1 b2
    exact ⟨c1, c2 (by omega), b3⟩
  have key : (((List.range R).filter fun r => decide (0 ≤ f r)).map fun r => if X r then (col (f r).toNat).toNat else r).Nodup := by
    refine map_nodup (range_filter_nodup _ _) fun a ha b hb e => ?_
    simp only [List.mem_filter, List.mem_range, decide_eq_true_eq] at ha hb
    by_cases xa : X a
    · obtain ⟨p1, p2, p3⟩ := hcol _ (hin a ha.1 ha.2 xa)
      by_cases xb : X b
      · obtain ⟨q1, q2, q3⟩ := hcol _ (hin b hb.1 hb.2 xb)
        rw [if_pos xa, if_pos xb] at e
        rw [e, q2] at p2
        exact hf.inj a b ha.1 hb.1 ha.2 (by omega)
      · rw [if_pos xa, if_neg xb] at e
        rw [e] at p3
        exact absurd p3 xb
    · by_cases xb : X b
      · obtain ⟨q1, q2, q3⟩ := hcol _ (hin b hb.1 hb.2 xb)
        rw [if_neg xa, if_pos xb] at e
        rw [← e] at q3
        exact absurd q3 xa
      · rw [if_neg xa, if_neg xb] at e
        exact e
  have h2 := nodup_sub _ ((List.range R).filter fun r => decide (0 ≤ row r)) key (fun x hx => by
    obtain ⟨r, hr, rfl⟩ := List.mem_map.1 hx
    simp only [List.mem_filter, List.mem_range, decide_eq_true_eq] at hr ⊢
    by_cases xr : X r
    · obtain ⟨p1, p2, p3⟩ := hcol _ (hin r hr.1 hr.2 xr)
      rw [if_pos xr]
      exact ⟨p1, by omega⟩
    · rw [if_neg xr]
      refine ⟨hr.1, ?_⟩
      apply Classical.byContradiction
      intro hc
      exact xr (hw.left r hr.1 (hf.val r hr.1 hr.2).1 (by omega)))
  simpa using h2

/-- how many pairs the rows from one on have, is all just if all can have one -/
theorem sz_all {E : List (List Nat)} {ok : Nat → Bool} {R C i : Nat} (hE : ∀ l ∈ E, ∀ k ∈ l, k < C) (hi : i < R) :
    sz E ok (fun r => decide (i < r)) R C ≤ R - i - 1 ∧ (sz E ok (fun r => decide (i < r)) R C = R - i - 1 ↔ ∃ f : Nat → Int, Asg E ok (fun r => decide (i < r)) R f ∧ ∀ r, r < R → i < r → 0 ≤ f r) := by
  have h := fill_fi (E := E) (ok := ok) (rows := fun r => decide (i < r)) (R := R) hE R (Nat.le_refl _)
  unfold sz
  obtain ⟨row, hrow⟩ : ∃ row, row = (fill E ok (fun r => decide (i < r)) C R).1 := ⟨_, rfl⟩
  obtain ⟨col, hcol⟩ : ∃ col, col = (fill E ok (fun r => decide (i < r)) C R).2 := ⟨_, rfl⟩
  rw [← hrow, ← hcol] at h
  rw [← hrow]
  have hle : ∀ f : Nat → Int, Asg E ok (fun r => decide (i < r)) R f → cnt f R ≤ R - i - 1 := fun f hf => by
    rw [cnt_len]
    have := nodup_sub _ (List.range' (i + 1) (R - i - 1)) (range_filter_nodup R fun r => decide (0 ≤ f r)) (fun x hx => by
      simp only [List.mem_filter, List.mem_range, decide_eq_true_eq] at hx
      have := (hf.val x hx.1 hx.2).1
      simp at this
      rw [List.mem_range'_1]
      omega)
    simpa using this
  have h1 := hle row (fill_asg h)
  refine ⟨h1, fun e => ⟨row, fill_asg h, fun r hr hir => ?_⟩, fun ⟨f, hf, hall⟩ => ?_⟩
  · apply Classical.byContradiction
    intro hc
    rw [cnt_len] at e
    have h2 := nodup_sub _ ((List.range' (i + 1) (R - i - 1)).erase r) (range_filter_nodup R fun r => decide (0 ≤ row r)) (fun x hx => by
      simp only [List.mem_filter, List.mem_range, decide_eq_true_eq] at hx
      have h3 := (h.own x hx.2).1
      simp at h3
      refine (List.mem_erase_of_ne (fun (e : x = r) => hc (by rw [← e]; exact hx.2))).2 ?_
      rw [List.mem_range'_1]
      omega)
    rw [List.length_erase_of_mem (by rw [List.mem_range'_1]; omega)] at h2
    simp only [List.length_range'] at h2
    omega
  · have h2 := asg_le hE h hf
    have h3 : R - i - 1 ≤ cnt f R := by
      rw [cnt_len]
      have := nodup_sub (List.range' (i + 1) (R - i - 1)) ((List.range R).filter fun r => decide (0 ≤ f r)) (List.nodup_range' ..) (fun x hx => by
        rw [List.mem_range'_1] at hx
        simp only [List.mem_filter, List.mem_range, decide_eq_true_eq]
        exact ⟨by omega, hall x (by omega) (by omega)⟩)
      simpa using this
    omega

end Go.Proofs.Ytjbhnfejpgjghaa
