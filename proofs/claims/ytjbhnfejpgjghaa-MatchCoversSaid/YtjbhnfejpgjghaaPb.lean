/- fill (plain): it is a matching, as large as any. -/
import Derived.Test.YtjbhnfejpgjghaaPa
namespace Go.Proofs.Ytjbhnfejpgjghaa
open Go.RowKit
set_option linter.unusedSimpArgs false
set_option linter.unusedVariables false

theorem nodup_sub : ∀ (l1 l2 : List Nat), l1.Nodup → (∀ x ∈ l1, x ∈ l2) → l1.length ≤ l2.length := by
  intro l1
  induction l1 with
  | nil => intro l2 _ _; exact Nat.zero_le _
  | cons a l1 ih =>
    intro l2 hn hs
    rw [List.nodup_cons] at hn
    have ha := hs a (List.mem_cons_self ..)
    have h1 := ih (l2.erase a) hn.2 (fun x hx => by
      have : x ≠ a := fun e => hn.1 (e ▸ hx)
      exact (List.mem_erase_of_ne this).2 (hs x (List.mem_cons_of_mem _ hx)))
    rw [List.length_erase_of_mem ha] at h1
    have := List.length_pos_of_mem ha
    simp only [List.length_cons]
    omega

theorem cnt_len (row : Nat → Int) : ∀ n, cnt row n = ((List.range n).filter fun r => decide (0 ≤ row r)).length := by
  intro n
  induction n with
  | zero => rfl
  | succ n ih =>
    rw [List.range_succ, List.filter_append, List.length_append, ← ih]
    show cnt row n + _ = _
    by_cases h : 0 ≤ row n
    · simp [h]
    · simp [h]
theorem range_filter_nodup (n : Nat) (p : Nat → Bool) : ((List.range n).filter p).Nodup := List.Nodup.sublist List.filter_sublist List.nodup_range
theorem map_nodup {l : List Nat} {h : Nat → Nat} (hl : l.Nodup) (hi : ∀ a ∈ l, ∀ b ∈ l, h a = h b → a = b) : (l.map h).Nodup := by
  unfold List.Nodup
  rw [List.pairwise_map]
  exact List.Pairwise.imp_of_mem (fun {a b} ha hb hne e => hne (hi a ha b hb e)) hl

/-- a choice of different columns for some rows -/
structure Asg (E : List (List Nat)) (ok rows : Nat → Bool) (R : Nat) (f : Nat → Int) : Prop where
  val : ∀ r, r < R → 0 ≤ f r → rows r = true ∧ (f r).toNat ∈ E.getD r [] ∧ ok (f r).toNat = true
  inj : ∀ r r', r < R → r' < R → 0 ≤ f r → f r = f r' → r = r'

structure Wit (E : List (List Nat)) (ok rows : Nat → Bool) (C n : Nat) (row col : Nat → Int) (X S : Nat → Prop) : Prop where
  out : ∀ r, X r → ∀ k ∈ E.getD r [], ok k = true → S k
  back : ∀ k, S k → k < C ∧ 0 ≤ col k ∧ X (col k).toNat
  left : ∀ r, r < n → rows r = true → row r < 0 → X r

structure FI (E : List (List Nat)) (ok rows : Nat → Bool) (R C n : Nat) (row col : Nat → Int) : Prop where
  co : Co E ok R C (-1) row col
  own : ∀ r, 0 ≤ row r → rows r = true ∧ r < n
  wit : ∃ X S : Nat → Prop, Wit E ok rows C n row col X S

theorem getD_lt {E : List (List Nat)} {C : Nat} (hE : ∀ l ∈ E, ∀ k ∈ l, k < C) {r k : Nat} (h : k ∈ E.getD r []) : k < C := by
  rw [List.getD_eq_getElem?_getD] at h
  cases hg : E[r]? with
  | none => rw [hg] at h; cases h
  | some l => rw [hg] at h; exact hE l (List.mem_of_getElem? hg) k h

theorem fill_fi {E : List (List Nat)} {ok rows : Nat → Bool} {R C : Nat} (hE : ∀ l ∈ E, ∀ k ∈ l, k < C) : ∀ n, n ≤ R → FI E ok rows R C n (fill E ok rows C n).1 (fill E ok rows C n).2 := by
  intro n
  induction n with
  | zero =>
    intro _
    have h1 : ∀ r, (fill E ok rows C 0).1 r = -1 := fun _ => rfl
    have h2 : ∀ r, (fill E ok rows C 0).2 r = -1 := fun _ => rfl
    refine ⟨⟨fun r => by rw [h1]; omega, fun k => by rw [h2]; omega, fun r _ h => by rw [h1] at h; omega, fun k _ h => by rw [h2] at h; omega⟩, fun r h => by rw [h1] at h; omega, fun _ => False, fun _ => False, fun r h => h.elim, fun k h => h.elim, fun r hr => by omega⟩
  | succ n ih =>
    intro hn
    obtain ⟨hco, hown, X, S, hw⟩ := ih (by omega)
    by_cases hr : rows n = true
    · have hfl : fill E ok rows C (n + 1) = ((tries E ok (C + 1) n (MS0 (fill E ok rows C n).1 (fill E ok rows C n).2)).2.row, (tries E ok (C + 1) n (MS0 (fill E ok rows C n).1 (fill E ok rows C n).2)).2.col) := by
        show (if _ then _ else _) = _
        rw [if_pos hr]
      rw [hfl]
      have hrn : (fill E ok rows C n).1 n < 0 := by
        apply Classical.byContradiction
        intro hc
        have := (hown n (by omega)).2
        omega
      obtain ⟨st, hst⟩ : ∃ st, st = MS0 (fill E ok rows C n).1 (fill E ok rows C n).2 := ⟨_, rfl⟩
      have e1 : st.row = (fill E ok rows C n).1 := by rw [hst]; rfl
      have e2 : st.col = (fill E ok rows C n).2 := by rw [hst]; rfl
      have e3 : ∀ k, st.seen k = false := fun k => by rw [hst]; rfl
      rw [← hst]
      rw [← e1, ← e2] at hco
      rw [← e1] at hown hrn
      rw [← e1, ← e2] at hw
      cases hs : (tries E ok (C + 1) n st).1 with
      | true =>
        obtain ⟨c1, c2⟩ := tries_co hE (C + 1) n st hco (by omega) (.inl hrn) hs
        have hm1 : st.row n = -1 := by have := hco.rn n; omega
        rw [hm1] at c1
        refine ⟨c1, fun r h => ?_, X, S, hw.out, fun k hk => ?_, fun r hr' hrr h => ?_⟩
        · by_cases e : r = n
          · subst e; exact ⟨hr, by omega⟩
          · have := hown r ((c2.pos r e).1 h)
            exact ⟨this.1, by omega⟩
        · have hk2 := tries_keep hw.out (C + 1) n st (fun k hk => (hw.back k hk).2) k hk
          show k < C ∧ 0 ≤ (tries E ok (C + 1) n st).2.col k ∧ X ((tries E ok (C + 1) n st).2.col k).toNat
          rw [hk2]
          exact hw.back k hk
        · by_cases e : r = n
          · subst e
            have := c2.got.1
            exfalso
            have h' : (tries E ok (C + 1) r st).2.row r < 0 := h
            omega
          · refine hw.left r (by omega) hrr ?_
            have h' : (tries E ok (C + 1) n st).2.row r < 0 := h
            apply Classical.byContradiction
            intro hc
            have := (c2.pos r e).2 (by omega)
            omega
      | false =>
        obtain ⟨s1, s2⟩ := tries_same (C + 1) n st hs
        obtain ⟨d1, d2⟩ := tries_closed hE (C + 1) n st (by have := uns_all C st.seen; omega) hs
        rw [s1, s2]
        refine ⟨hco, fun r h => ⟨(hown r h).1, by have := (hown r h).2; omega⟩, fun r => X r ∨ r = n ∨ ∃ k, k < C ∧ (tries E ok (C + 1) n st).2.seen k = true ∧ (st.col k).toNat = r, fun k => S k ∨ (k < C ∧ (tries E ok (C + 1) n st).2.seen k = true), fun r h k hk hok => ?_, fun k hk => ?_, fun r hr' hrr h => ?_⟩
        · rcases h with h | rfl | ⟨k', hk', hs', rfl⟩
          · exact .inl (hw.out r h k hk hok)
          · exact .inr ⟨getD_lt hE hk, d1 k hk hok⟩
          · exact .inr ⟨getD_lt hE hk, (d2 k' hs' (e3 k')).2.2 k hk hok⟩
        · rcases hk with hk | ⟨hk, hs'⟩
          · obtain ⟨b1, b2, b3⟩ := hw.back k hk
            exact ⟨b1, b2, .inl b3⟩
          · exact ⟨hk, (d2 k hs' (e3 k)).1, .inr (.inr ⟨k, hk, hs', rfl⟩)⟩
        · by_cases e : r = n
          · exact .inr (.inl e)
          · exact .inl (hw.left r (by omega) hrr h)
    · have hfl : fill E ok rows C (n + 1) = fill E ok rows C n := by
        show (if _ then _ else _) = _
        rw [if_neg hr]
      rw [hfl]
      refine ⟨hco, fun r h => ⟨(hown r h).1, by have := (hown r h).2; omega⟩, X, S, hw.out, hw.back, fun r hr' hrr h => ?_⟩
      by_cases e : r = n
      · subst e; exact absurd hrr hr
      · exact hw.left r (by omega) hrr h

theorem fill_asg {E : List (List Nat)} {ok rows : Nat → Bool} {R C : Nat} {row col : Nat → Int} (h : FI E ok rows R C R row col) : Asg E ok rows R row := by
  refine ⟨fun r hr hp => ?_, fun r r' hr hr' hp e => ?_⟩
  · obtain ⟨a1, a2, a3, a4⟩ := h.co.ra r hr hp
    exact ⟨(h.own r hp).1, a3, a4⟩
  · have a2 := (h.co.ra r hr hp).2.1
    have b2 := (h.co.ra r' hr' (by omega)).2.1
    rw [e] at a2
    omega

/-- no choice has more -/
theorem asg_le {E : List (List Nat)} {ok rows : Nat → Bool} {R C : Nat} {row col : Nat → Int} (hE : ∀ l ∈ E, ∀ k ∈ l, k < C) (h : FI E ok rows R C R row col) {f : Nat → Int} (hf : Asg E ok rows R f) : cnt f R ≤ cnt row R := by
  classical
  obtain ⟨X, S, hw⟩ := h.wit
  rw [cnt_len, cnt_len]
  have hin : ∀ r, r < R → 0 ≤ f r → X r → S (f r).toNat := fun r hr hp hx => by
    obtain ⟨v1, v2, v3⟩ := hf.val r hr hp
    exact hw.out r hx _ v2 v3
  have hcol : ∀ k, S k → (col k).toNat < R ∧ row (col k).toNat = (k : Int) ∧ X (col k).toNat := fun k hk => by
    obtain ⟨b1, b2, b3⟩ := hw.back k hk
    obtain ⟨c1, c2⟩ := h.co.ca k b1 b2
    exact ⟨c1, c2 (by omega), b3⟩
  have key : (((List.range R).filter fun r => decide (0 ≤ f r)).map fun r => if X r then (col (f r).toNat).toNat else r).Nodup := by
    refine map_nodup (range_filter_nodup _ _) fun a ha b hb e => ?_
    simp only [List.mem_filter, List.mem_range, decide_eq_true_eq] at ha hb
    by_cases xa : X a
    · obtain ⟨p1, p2, p3⟩ := hcol _ (hin a ha.1 ha.2 xa)
      by_cases xb : X b
      · obtain ⟨q1, q2, q3⟩ := hcol _ (hin b hb.1 hb.2 xb)
        rw [if_pos xa, if_pos xb] at e
        rw [e, q2] at p2
        exact hf.inj a b ha.1 hb.1 ha.2 (by omega)
      · rw [if_pos xa, if_neg xb] at e
        rw [e] at p3
        exact absurd p3 xb
    · by_cases xb : X b
      · obtain ⟨q1, q2, q3⟩ := hcol _ (hin b hb.1 hb.2 xb)
        rw [if_neg xa, if_pos xb] at e
        rw [← e] at q3
        exact absurd q3 xa
      · rw [if_neg xa, if_neg xb] at e
        exact e
  have h2 := nodup_sub _ ((List.range R).filter fun r => decide (0 ≤ row r)) key (fun x hx => by
    obtain ⟨r, hr, rfl⟩ := List.mem_map.1 hx
    simp only [List.mem_filter, List.mem_range, decide_eq_true_eq] at hr ⊢
    by_cases xr : X r
    · obtain ⟨p1, p2, p3⟩ := hcol _ (hin r hr.1 hr.2 xr)
      rw [if_pos xr]
      exact ⟨p1, by omega⟩
    · rw [if_neg xr]
      refine ⟨hr.1, ?_⟩
      apply Classical.byContradiction
      intro hc
      exact xr (hw.left r hr.1 (hf.val r hr.1 hr.2).1 (by omega)))
  simpa using h2

/-- how many pairs the rows from one on have, is all just if all can have one -/
theorem sz_all {E : List (List Nat)} {ok : Nat → Bool} {R C i : Nat} (hE : ∀ l ∈ E, ∀ k ∈ l, k < C) (hi : i < R) :
    sz E ok (fun r => decide (i < r)) R C ≤ R - i - 1 ∧ (sz E ok (fun r => decide (i < r)) R C = R - i - 1 ↔ ∃ f : Nat → Int, Asg E ok (fun r => decide (i < r)) R f ∧ ∀ r, r < R → i < r → 0 ≤ f r) := by
  have h := fill_fi (E := E) (ok := ok) (rows := fun r => decide (i < r)) (R := R) hE R (Nat.le_refl _)
  unfold sz
  obtain ⟨row, hrow⟩ : ∃ row, row = (fill E ok (fun r => decide (i < r)) C R).1 := ⟨_, rfl⟩
  obtain ⟨col, hcol⟩ : ∃ col, col = (fill E ok (fun r => decide (i < r)) C R).2 := ⟨_, rfl⟩
  rw [← hrow, ← hcol] at h
  rw [← hrow]
  have hle : ∀ f : Nat → Int, Asg E ok (fun r => decide (i < r)) R f → cnt f R ≤ R - i - 1 := fun f hf => by
    rw [cnt_len]
    have := nodup_sub _ (List.range' (i + 1) (R - i - 1)) (range_filter_nodup R fun r => decide (0 ≤ f r)) (fun x hx => by
      simp only [List.mem_filter, List.mem_range, decide_eq_true_eq] at hx
      have := (hf.val x hx.1 hx.2).1
      simp at this
      rw [List.mem_range'_1]
      omega)
    simpa using this
  have h1 := hle row (fill_asg h)
  refine ⟨h1, fun e => ⟨row, fill_asg h, fun r hr hir => ?_⟩, fun ⟨f, hf, hall⟩ => ?_⟩
  · apply Classical.byContradiction
    intro hc
    rw [cnt_len] at e
    have h2 := nodup_sub _ ((List.range' (i + 1) (R - i - 1)).erase r) (range_filter_nodup R fun r => decide (0 ≤ row r)) (fun x hx => by
      simp only [List.mem_filter, List.mem_range, decide_eq_true_eq] at hx
      have h3 := (h.own x hx.2).1
      simp at h3
      refine (List.mem_erase_of_ne (fun (e : x = r) => hc (by rw [← e]; exact hx.2))).2 ?_
      rw [List.mem_range'_1]
      omega)
    rw [List.length_erase_of_mem (by rw [List.mem_range'_1]; omega)] at h2
    simp only [List.length_range'] at h2
    omega
  · have h2 := asg_le hE h hf
    have h3 : R - i - 1 ≤ cnt f R := by
      rw [cnt_len]
      have := nodup_sub (List.range' (i + 1) (R - i - 1)) ((List.range R).filter fun r => decide (0 ≤ f r)) (List.nodup_range' ..) (fun x hx => by
        rw [List.mem_range'_1] at hx
        simp only [List.mem_filter, List.mem_range, decide_eq_true_eq]
        exact ⟨by omega, hall x (by omega) (by omega)⟩)
      simpa using this
    omega

end Go.Proofs.Ytjbhnfejpgjghaa
