/- The least maximum matching is a maximum one; Koenig's cover; Hall's set (plain). -/
import Derived.Test.YtjbhnfejpgjghaaQg
namespace Go.Proofs.Ytjbhnfejpgjghaa
open Go.RowKit
set_option linter.unusedSimpArgs false
set_option linter.unusedVariables false

theorem cnt_congr {f g : Nat → Int} : ∀ n, (∀ r, r < n → f r = g r) → cnt f n = cnt g n := by
  intro n
  induction n with
  | zero => intro _; rfl
  | succ n ih => intro h; unfold cnt; rw [ih (fun r hr => h r (by omega)), h n (by omega)]
theorem cnt_upd (f : Nat → Int) (i : Nat) (v : Int) : ∀ n, i < n → cnt (upd f i v) n + (if 0 ≤ f i then 1 else 0) = cnt f n + (if 0 ≤ v then 1 else 0) := by
  intro n
  induction n with
  | zero => intro h; omega
  | succ n ih =>
    intro h
    unfold cnt
    by_cases e : i = n
    · subst e
      rw [cnt_congr i (fun r hr => upd_other f i r v (by omega)), upd_same]
      omega
    · rw [upd_other f i n v (fun e2 => e e2.symm)]
      have := ih (by omega)
      omega
theorem sz_ge {E : List (List Nat)} {ok rows : Nat → Bool} {R C : Nat} (hE : ∀ l ∈ E, ∀ k ∈ l, k < C) {f : Nat → Int} (hf : Asg E ok rows R f) : cnt f R ≤ sz E ok rows R C := asg_le hE (fill_fi hE R (Nat.le_refl _)) hf
theorem sz_ex {E : List (List Nat)} (ok rows : Nat → Bool) {R C : Nat} (hE : ∀ l ∈ E, ∀ k ∈ l, k < C) : ∃ f : Nat → Int, Asg E ok rows R f ∧ cnt f R = sz E ok rows R C := ⟨_, fill_asg (fill_fi hE R (Nat.le_refl _)), rfl⟩

section
variable {E : List (List Nat)} {R C : Nat}
/-- the rows from n on: the row n is left out, or has a column -/
theorem sz_step (hE : ∀ l ∈ E, ∀ k ∈ l, k < C) (used : Nat → Bool) {n : Nat} (hn : n < R) :
    sz E (fun c => !used c) (fun r => decide (n < r)) R C ≤ sz E (fun c => !used c) (fun r => decide (n ≤ r)) R C ∧
    (∀ k ∈ E.getD n [], used k = false → sz E (fun c => !(upd used k true) c) (fun r => decide (n < r)) R C + 1 ≤ sz E (fun c => !used c) (fun r => decide (n ≤ r)) R C) ∧
    (sz E (fun c => !used c) (fun r => decide (n ≤ r)) R C ≤ sz E (fun c => !used c) (fun r => decide (n < r)) R C ∨
      ∃ k ∈ E.getD n [], used k = false ∧ sz E (fun c => !used c) (fun r => decide (n ≤ r)) R C = sz E (fun c => !(upd used k true) c) (fun r => decide (n < r)) R C + 1) := by
  have h2 : ∀ k ∈ E.getD n [], used k = false → sz E (fun c => !(upd used k true) c) (fun r => decide (n < r)) R C + 1 ≤ sz E (fun c => !used c) (fun r => decide (n ≤ r)) R C := by
    intro k hk hu
    obtain ⟨f, hf, hc⟩ := sz_ex (fun c => !(upd used k true) c) (fun r => decide (n < r)) (R := R) hE
    have hfn : ¬ 0 ≤ f n := fun hp => by have := (hf.val n hn hp).1; simp at this
    have hg : Asg E (fun c => !used c) (fun r => decide (n ≤ r)) R (upd f n (k : Int)) := by
      refine ⟨fun r hr hp => ?_, fun r r' hr hr' hp e => ?_⟩
      · by_cases e : r = n
        · subst e
          rw [upd_same]
          exact ⟨by simp, by simpa using hk, by simpa using hu⟩
        · rw [upd_other _ _ _ _ e] at hp ⊢
          obtain ⟨v1, v2, v3⟩ := hf.val r hr hp
          refine ⟨by simp at v1 ⊢; omega, v2, ?_⟩
          by_cases e2 : (f r).toNat = k
          · rw [e2, upd_same] at v3; simp at v3
          · rwa [upd_other _ _ _ _ e2] at v3
      · have key : ∀ x, x < R → x ≠ n → 0 ≤ f x → f x ≠ (k : Int) := fun x hx hxn hp e => by
          have := (hf.val x hx hp).2.2
          rw [e, Int.toNat_natCast, upd_same] at this
          simp at this
        by_cases e1 : r = n
        · by_cases e2 : r' = n
          · omega
          · rw [e1, upd_same, upd_other _ _ _ _ e2] at e
            exact absurd e.symm (key r' hr' e2 (by rw [← e]; omega))
        · by_cases e2 : r' = n
          · rw [e2, upd_same, upd_other _ _ _ _ e1] at e
            exact absurd e (key r hr e1 (by rw [e]; omega))
          · rw [upd_other _ _ _ _ e1] at hp e
            rw [upd_other _ _ _ _ e2] at e
            exact hf.inj r r' hr hr' hp e
    have h1 := sz_ge (C := C) hE hg
    have h3 := cnt_upd f n (k : Int) R hn
    rw [if_neg hfn, if_pos (by omega)] at h3
    omega
  refine ⟨?_, h2, ?_⟩
  · obtain ⟨f, hf, hc⟩ := sz_ex (fun c => !used c) (fun r => decide (n < r)) (R := R) hE
    rw [← hc]
    exact sz_ge hE ⟨fun r hr hp => ⟨by have := (hf.val r hr hp).1; simp at this ⊢; omega, (hf.val r hr hp).2⟩, hf.inj⟩
  · obtain ⟨f, hf, hc⟩ := sz_ex (fun c => !used c) (fun r => decide (n ≤ r)) (R := R) hE
    by_cases hp : 0 ≤ f n
    · obtain ⟨v1, v2, v3⟩ := hf.val n hn hp
      have hu : used (f n).toNat = false := by simpa using v3
      refine .inr ⟨(f n).toNat, v2, hu, Nat.le_antisymm ?_ (h2 _ v2 hu)⟩
      have hg : Asg E (fun c => !(upd used (f n).toNat true) c) (fun r => decide (n < r)) R (upd f n (-1)) := by
        have hne : ∀ r, 0 ≤ upd f n (-1) r → r ≠ n := fun r h e => by rw [e, upd_same] at h; omega
        refine ⟨fun r hr h => ?_, fun r r' hr hr' h e => ?_⟩
        · have hrn := hne r h
          rw [upd_other _ _ _ _ hrn] at h ⊢
          obtain ⟨u1, u2, u3⟩ := hf.val r hr h
          refine ⟨by simp at u1 ⊢; omega, u2, ?_⟩
          rw [upd_other _ _ _ _ (fun e => hrn (hf.inj r n hr hn h (by omega)))]
          exact u3
        · have hrn := hne r h
          have hrn' := hne r' (by rw [← e]; exact h)
          rw [upd_other _ _ _ _ hrn] at h e
          rw [upd_other _ _ _ _ hrn'] at e
          exact hf.inj r r' hr hr' h e
      have h1 := sz_ge (C := C) hE hg
      have h3 := cnt_upd f n (-1) R hn
      rw [if_pos hp, if_neg (by omega)] at h3
      omega
    · refine .inl ?_
      rw [← hc]
      refine sz_ge hE ⟨fun r hr h => ⟨?_, (hf.val r hr h).2⟩, hf.inj⟩
      have := (hf.val r hr h).1
      have hrn : r ≠ n := fun e => hp (e ▸ h)
      simp at this ⊢
      omega

theorem lrow_is {i : Nat} {used : Nat → Bool} {left : Int} : ∀ {l : List Nat} {k : Nat}, lrow E R C i used left l = some k → (sz E (fun c => !(upd used k true) c) (fun r => decide (i < r)) R C : Int) = left - 1 := by
  intro l
  induction l with
  | nil => intro k h; cases h
  | cons a l ih =>
    intro k h
    unfold lrow at h
    split at h
    · exact ih h
    · split at h
      · rename_i he
        injection h with h
        subst h
        exact he
      · exact ih h
theorem lrow_no {i : Nat} {used : Nat → Bool} {left : Int} : ∀ {l : List Nat}, lrow E R C i used left l = none → ∀ k ∈ l, used k = false → (sz E (fun c => !(upd used k true) c) (fun r => decide (i < r)) R C : Int) ≠ left - 1 := by
  intro l
  induction l with
  | nil => intro _ k hk; cases hk
  | cons a l ih =>
    intro h k hk hu
    unfold lrow at h
    split at h
    · rename_i hua
      rcases List.mem_cons.1 hk with e | hk
      · rw [e, hua] at hu; cases hu
      · exact ih h k hk hu
    · split at h
      · cases h
      · rename_i he
        rcases List.mem_cons.1 hk with e | hk
        · rw [e]; exact he
        · exact ih h k hk hu

structure LI (E : List (List Nat)) (R C n : Nat) (st : LS) : Prop where
  rn : ∀ r, -1 ≤ st.out r
  mem : ∀ r, 0 ≤ st.out r → r < n ∧ (st.out r).toNat ∈ E.getD r []
  inj : ∀ r r', 0 ≤ st.out r → st.out r = st.out r' → r = r'
  us : ∀ r, 0 ≤ st.out r → st.used (st.out r).toNat = true
  lf : st.left = (sz E (fun c => !st.used c) (fun r => decide (n ≤ r)) R C : Int)
  ct : (cnt st.out R : Int) + st.left = (sz E (fun _ => true) (fun _ => true) R C : Int)
theorem lst_li (hE : ∀ l ∈ E, ∀ k ∈ l, k < C) : ∀ n, n ≤ R → LI E R C n (lst E R C n) := by
  intro n
  induction n with
  | zero =>
    intro _
    refine ⟨fun r => by show (-1 : Int) ≤ -1; omega, fun r h => absurd h (by show ¬ (0 : Int) ≤ -1; omega), fun r r' h => absurd h (by show ¬ (0 : Int) ≤ -1; omega), fun r h => absurd h (by show ¬ (0 : Int) ≤ -1; omega), ?_, ?_⟩
    · show (sz E (fun _ => true) (fun _ => true) R C : Int) = (sz E (fun c => !false) (fun r => decide (0 ≤ r)) R C : Int)
      have : (fun r => decide (0 ≤ r)) = fun _ : Nat => true := by funext r; simp
      rw [this]
      rfl
    · have h0 : ∀ n, cnt (fun _ => -1) n = 0 := by
        intro n
        induction n with
        | zero => rfl
        | succ n ih => unfold cnt; rw [ih]; rfl
      show ((cnt (fun _ => -1) R : Nat) : Int) + (sz E (fun _ => true) (fun _ => true) R C : Int) = _
      rw [h0]; simp
  | succ n ih =>
    intro hn
    have h := ih (by omega)
    obtain ⟨s1, s2, s3⟩ := sz_step (R := R) hE (lst E R C n).used (n := n) (by omega)
    unfold lst
    split
    · rename_i hno
      refine ⟨h.rn, fun r hp => ⟨by have := (h.mem r hp).1; omega, (h.mem r hp).2⟩, h.inj, h.us, ?_, h.ct⟩
      show (lst E R C n).left = (sz E (fun c => !(lst E R C n).used c) (fun r => decide (n < r)) R C : Int)
      have hlf := h.lf
      rcases s3 with s3 | ⟨k, hk, hu, he⟩
      · omega
      · have := lrow_no hno k hk hu
        omega
    · rename_i k hk
      obtain ⟨k1, k2, k3⟩ := lrow_some hk
      have hsz := lrow_is hk
      have hfr : ¬ 0 ≤ (lst E R C n).out n := fun hp => by have := (h.mem n hp).1; omega
      have hnk : ∀ r, 0 ≤ (lst E R C n).out r → (lst E R C n).out r ≠ (k : Int) := fun r hp e => by
        have := h.us r hp
        rw [e, Int.toNat_natCast, k2] at this
        cases this
      refine ⟨fun r => ?_, fun r hp => ?_, fun r r' hp e => ?_, fun r hp => ?_, ?_, ?_⟩
      · show -1 ≤ upd (lst E R C n).out n (k : Int) r
        unfold upd
        split
        · omega
        · exact h.rn r
      · have hp : 0 ≤ upd (lst E R C n).out n (k : Int) r := hp
        show r < n + 1 ∧ (upd (lst E R C n).out n (k : Int) r).toNat ∈ _
        by_cases e : r = n
        · subst e; rw [upd_same]; exact ⟨by omega, by simpa using k1⟩
        · rw [upd_other _ _ _ _ e] at hp ⊢
          exact ⟨by have := (h.mem r hp).1; omega, (h.mem r hp).2⟩
      · have hp : 0 ≤ upd (lst E R C n).out n (k : Int) r := hp
        have e : upd (lst E R C n).out n (k : Int) r = upd (lst E R C n).out n (k : Int) r' := e
        by_cases e1 : r = n
        · by_cases e2 : r' = n
          · omega
          · rw [e1, upd_same, upd_other _ _ _ _ e2] at e
            exact absurd e.symm (hnk r' (by rw [← e]; omega))
        · by_cases e2 : r' = n
          · rw [e2, upd_same, upd_other _ _ _ _ e1] at e
            exact absurd e (hnk r (by rw [e]; omega))
          · rw [upd_other _ _ _ _ e1] at hp e
            rw [upd_other _ _ _ _ e2] at e
            exact h.inj r r' hp e
      · have hp : 0 ≤ upd (lst E R C n).out n (k : Int) r := hp
        show upd (lst E R C n).used k true (upd (lst E R C n).out n (k : Int) r).toNat = true
        by_cases e : r = n
        · subst e; rw [upd_same, Int.toNat_natCast, upd_same]
        · rw [upd_other _ _ _ _ e] at hp ⊢
          exact upd_true (h.us r hp)
      · show (lst E R C n).left - 1 = (sz E (fun c => !(upd (lst E R C n).used k true) c) (fun r => decide (n < r)) R C : Int)
        omega
      · show ((cnt (upd (lst E R C n).out n (k : Int)) R : Nat) : Int) + ((lst E R C n).left - 1) = _
        have h3 := cnt_upd (lst E R C n).out n (k : Int) R (by omega)
        rw [if_neg hfr, if_pos (by omega)] at h3
        have := h.ct
        omega

/-- as many as any -/
theorem lst_cnt (hE : ∀ l ∈ E, ∀ k ∈ l, k < C) : cnt (lst E R C R).out R = sz E (fun _ => true) (fun _ => true) R C := by
  have h := lst_li (R := R) hE R (Nat.le_refl _)
  obtain ⟨f, hf, hc⟩ := sz_ex (fun c => !(lst E R C R).used c) (fun r => decide (R ≤ r)) (R := R) hE
  have h0 : cnt f R = 0 := by
    rw [cnt_len, List.length_eq_zero_iff, List.filter_eq_nil_iff]
    intro r hr hp
    have hr := List.mem_range.1 hr
    have := (hf.val r hr (by simpa using hp)).1
    simp at this
    omega
  have h1 := h.lf
  have h2 := h.ct
  omega

/-- the rows and columns that stand against more pairs -/
theorem lst_wit (hE : ∀ l ∈ E, ∀ k ∈ l, k < C) : ∃ X S : Nat → Prop, (∀ r, X r → ∀ k ∈ E.getD r [], S k) ∧ (∀ k, S k → ∃ r, r < R ∧ (lst E R C R).out r = (k : Int) ∧ X r) ∧ (∀ r, r < R → (lst E R C R).out r < 0 → X r) := by
  classical
  have hm := fill_mx (E := E) (R := R) (C := C) hE
  have hc := lst_cnt (R := R) hE
  have hl := lst_li (R := R) hE R (Nat.le_refl _)
  obtain ⟨row, hrow⟩ : ∃ row, row = (fill E (fun _ => true) (fun _ => true) C R).1 := ⟨_, rfl⟩
  obtain ⟨col, hcol⟩ : ∃ col, col = (fill E (fun _ => true) (fun _ => true) C R).2 := ⟨_, rfl⟩
  have hc : cnt (lst E R C R).out R = cnt row R := by rw [hc, hrow]; rfl
  rw [← hrow, ← hcol] at hm
  obtain ⟨f, hf⟩ : ∃ f, f = (lst E R C R).out := ⟨_, rfl⟩
  have hinj := hl.inj
  have hmem := hl.mem
  rw [← hf] at hc hinj hmem ⊢
  obtain ⟨X, S, w1, w2, w3⟩ := hm.wit
  have hcl : ∀ k, S k → (col k).toNat < R ∧ row (col k).toNat = (k : Int) ∧ X (col k).toNat := fun k hk => by
    obtain ⟨b1, b2, b3⟩ := w2 k hk
    obtain ⟨c1, c2⟩ := hm.co.ca k b1 b2
    exact ⟨c1, c2 (by omega), b3⟩
  have hin : ∀ r, 0 ≤ f r → X r → S (f r).toNat := fun r hp hx => w1 r hx _ (hmem r hp).2
  rw [cnt_len, cnt_len] at hc
  have key : (((List.range R).filter fun r => decide (0 ≤ f r)).map fun r => if X r then (col (f r).toNat).toNat else r).Nodup := by
    refine map_nodup (range_filter_nodup _ _) fun a ha b hb e => ?_
    simp only [List.mem_filter, List.mem_range, decide_eq_true_eq] at ha hb
    by_cases xa : X a
    · obtain ⟨p1, p2, p3⟩ := hcl _ (hin a ha.2 xa)
      by_cases xb : X b
      · obtain ⟨q1, q2, q3⟩ := hcl _ (hin b hb.2 xb)
        rw [if_pos xa, if_pos xb] at e
        rw [e, q2] at p2
        exact hinj a b ha.2 (by omega)
      · rw [if_pos xa, if_neg xb] at e
        rw [e] at p3
        exact absurd p3 xb
    · by_cases xb : X b
      · obtain ⟨q1, q2, q3⟩ := hcl _ (hin b hb.2 xb)
        rw [if_neg xa, if_pos xb] at e
        rw [← e] at q3
        exact absurd q3 xa
      · rw [if_neg xa, if_neg xb] at e
        exact e
  have hall := nodup_all (l2 := (List.range R).filter fun r => decide (0 ≤ row r)) key (fun x hx => by
    obtain ⟨r, hr, rfl⟩ := List.mem_map.1 hx
    simp only [List.mem_filter, List.mem_range, decide_eq_true_eq] at hr ⊢
    by_cases xr : X r
    · obtain ⟨p1, p2, p3⟩ := hcl _ (hin r hr.2 xr)
      rw [if_pos xr]
      exact ⟨p1, by omega⟩
    · rw [if_neg xr]
      refine ⟨hr.1, ?_⟩
      apply Classical.byContradiction
      intro hc
      exact xr (w3 r hr.1 (by omega))) (by rw [List.length_map]; omega)
  have hback : ∀ x, x < R → 0 ≤ row x → ∃ r, r < R ∧ 0 ≤ f r ∧ (if X r then (col (f r).toNat).toNat else r) = x := fun x hx hp => by
    obtain ⟨r, hr, e⟩ := List.mem_map.1 (hall x (by simp; exact ⟨hx, hp⟩))
    simp only [List.mem_filter, List.mem_range, decide_eq_true_eq] at hr
    exact ⟨r, hr.1, hr.2, e⟩
  refine ⟨X, S, w1, fun k hk => ?_, fun r hr hp => ?_⟩
  · obtain ⟨p1, p2, p3⟩ := hcl k hk
    obtain ⟨r, hr, h0, e⟩ := hback _ p1 (by omega)
    by_cases xr : X r
    · rw [if_pos xr] at e
      obtain ⟨q1, q2, q3⟩ := hcl _ (hin r h0 xr)
      rw [e, p2] at q2
      exact ⟨r, hr, by omega, xr⟩
    · rw [if_neg xr] at e
      rw [e] at xr
      exact absurd p3 xr
  · apply Classical.byContradiction
    intro hx
    obtain ⟨r', hr', h0, e⟩ := hback r hr (by
      apply Classical.byContradiction
      intro hc
      exact hx (w3 r hr (by omega)))
    by_cases xr : X r'
    · rw [if_pos xr] at e
      obtain ⟨q1, q2, q3⟩ := hcl _ (hin r' h0 xr)
      rw [e] at q3
      exact hx q3
    · rw [if_neg xr] at e
      rw [e] at h0
      omega
end

end Go.Proofs.Ytjbhnfejpgjghaa

/- MatchCovers (plain): Short is safe; Koenig; Hall. -/
namespace Go.Proofs.Ytjbhnfejpgjghaa
open Go.RowKit
set_option linter.unusedSimpArgs false
set_option linter.unusedVariables false

theorem mem_shl {s : Nat → Bool} {n : Nat} {x : Int} : x ∈ shl s n ↔ ∃ i : Nat, i < n ∧ s i = true ∧ x = (i : Int) := by
  unfold shl
  simp only [List.mem_map, List.mem_filter, List.mem_range]
  constructor
  · rintro ⟨i, ⟨h1, h2⟩, rfl⟩; exact ⟨i, h1, h2, rfl⟩
  · rintro ⟨i, h1, h2, rfl⟩; exact ⟨i, ⟨h1, h2⟩, rfl⟩
theorem mem_cov {rs : Nat → Bool} {row : Nat → Int} {x : Int} : ∀ n, x ∈ cov rs row n ↔ ∃ r, r < n ∧ rs r = false ∧ 0 ≤ row r ∧ row r = x := by
  intro n
  induction n with
  | zero => exact ⟨fun h => (by cases h), fun ⟨r, h, _⟩ => (by omega)⟩
  | succ n ih =>
    unfold cov
    rw [List.mem_append, ih]
    constructor
    · rintro (⟨r, h1, h2⟩ | h)
      · exact ⟨r, by omega, h2⟩
      · split at h
        · cases h
        · rename_i hr
          split at h
          · rename_i hp
            have : x = row n := by simpa using h
            exact ⟨n, by omega, by simpa using hr, hp, this.symm⟩
          · cases h
    · rintro ⟨r, h1, h2, h3, h4⟩
      by_cases e : r = n
      · right
        subst e
        rw [if_neg (by rw [h2]; simp), if_pos h3, h4]
        simp
      · exact .inl ⟨r, by omega, h2, h3, h4⟩
theorem mem_srt {x : Int} {l : List Int} : x ∈ srt l ↔ x ∈ l := by unfold srt; exact List.mem_mergeSort

/-- the cover has as many as the matching -/
theorem cov_cnt {rs : Nat → Bool} {row : Nat → Int} : ∀ n, (∀ r, r < n → rs r = true → 0 ≤ row r) → (shl rs n).length + (cov rs row n).length = cnt row n := by
  intro n
  induction n with
  | zero => intro _; rfl
  | succ n ih =>
    intro h
    have h1 := ih (fun r hr => h r (by omega))
    rw [shl_succ, List.length_append]
    unfold cov cnt
    rw [List.length_append]
    cases hs : rs n
    · by_cases hp : 0 ≤ row n
      · simp [hp]; omega
      · simp [hp]; omega
    · have := h n (by omega) hs
      simp [this]; omega

theorem cnt_full {f : Nat → Int} : ∀ n, cnt f n < n ↔ ∃ r, r < n ∧ f r < 0 := by
  intro n
  induction n with
  | zero => exact ⟨fun h => (by omega), fun ⟨r, h, _⟩ => (by omega)⟩
  | succ n ih =>
    unfold cnt
    have hl := cnt_le f n
    by_cases hp : 0 ≤ f n
    · rw [if_pos hp]
      constructor
      · intro h
        obtain ⟨r, h1, h2⟩ := ih.1 (by omega)
        exact ⟨r, by omega, h2⟩
      · rintro ⟨r, h1, h2⟩
        have : r ≠ n := fun e => by rw [e] at h2; omega
        have := ih.2 ⟨r, by omega, h2⟩
        omega
    · rw [if_neg hp]
      exact ⟨fun _ => ⟨n, by omega, by omega⟩, fun _ => by omega⟩

/-- where a number stands -/
theorem idx_cases (out : Nat → Int) (R : Nat) (x : Int) : (∃ k, k < R ∧ out k = x ∧ Lib.idxOf ((List.range R).map out) x = (k : Int)) ∨ ((∀ k, k < R → out k ≠ x) ∧ Lib.idxOf ((List.range R).map out) x = -1) := by
  classical
  have hg : ∀ j, j < R → ((List.range R).map out).getD j 0 = out j := fun j hj => by simp [List.getD_eq_getElem?_getD, hj]
  have ht : ((List.range R).map out).take R = (List.range R).map out := List.take_of_length_le (by simp)
  by_cases h : ∃ k, k < R ∧ out k = x
  · left
    have key : ∀ n, (∃ k, k < n ∧ k < R ∧ out k = x) → ∃ k, k < R ∧ out k = x ∧ ∀ j, j < k → out j ≠ x := by
      intro n
      induction n with
      | zero => rintro ⟨k, h, _⟩; omega
      | succ n ih =>
        rintro ⟨k, h1, h2, h3⟩
        by_cases h4 : ∃ k, k < n ∧ k < R ∧ out k = x
        · exact ih h4
        · exact ⟨k, h2, h3, fun j hj e => h4 ⟨j, by omega, by omega, e⟩⟩
    obtain ⟨k0, h0, h1⟩ := h
    obtain ⟨k, hk, hx, hn⟩ := key (k0 + 1) ⟨k0, by omega, h0, h1⟩
    refine ⟨k, hk, hx, ?_⟩
    have := Lib.idxOf_hit ((List.range R).map out) R k x hk (by simp) (by rw [hg k hk]; exact hx) (fun j hj => by rw [hg j (by omega)]; exact hn j hj)
    rwa [ht] at this
  · right
    refine ⟨fun k hk e => h ⟨k, hk, e⟩, ?_⟩
    have := Lib.idxOf_miss ((List.range R).map out) R x (fun j hj => by rw [hg j hj]; exact fun e => h ⟨j, hj, e⟩)
    rwa [ht] at this

section
variable {E : List (List Nat)} {R C : Nat}
/-- the region that Short goes through -/
theorem short_reg (hE : ∀ l ∈ E, ∀ k ∈ l, k < C) : ∃ X : Nat → Prop, (∀ r, r < R → (lst E R C R).out r < 0 → X r) ∧ ∀ r, X r → r < R ∧ ∀ k ∈ E.getD r [], 0 ≤ Lib.idxOf ((List.range R).map (lst E R C R).out) (k : Int) ∧ (nxt (lst E R C R).out R k < R ∧ (lst E R C R).out (nxt (lst E R C R).out R k) = (k : Int)) ∧ X (nxt (lst E R C R).out R k) := by
  obtain ⟨X, S, h1, h2, h3⟩ := lst_wit (R := R) hE
  have hl := lst_li (R := R) hE R (Nat.le_refl _)
  refine ⟨fun r => r < R ∧ X r, fun r hr hp => ⟨hr, h3 r hr hp⟩, fun r hx => ⟨hx.1, fun k hk => ?_⟩⟩
  obtain ⟨r', hr', e, hx'⟩ := h2 k (h1 r hx.2 k hk)
  rcases idx_cases (lst E R C R).out R (k : Int) with ⟨j, hj, ej, hi⟩ | ⟨hn, -⟩
  · have hjr : j = r' := hl.inj j r' (by omega) (by rw [ej, e])
    have hnx : nxt (lst E R C R).out R k = j := by unfold nxt; rw [hi]; rfl
    rw [hnx]
    exact ⟨by omega, ⟨hj, ej⟩, hj, by rw [hjr]; exact hx'⟩
  · exact absurd e (hn r' hr')
theorem short_ok (hI : Inc R C E) : ShortOk E R (lst E R C R).out := by
  intro i0 hi
  obtain ⟨X, h1, h2⟩ := short_reg (R := R) hI.2.2.2
  rcases idx_cases (lst E R C R).out R (-1) with ⟨j, hj, ej, he⟩ | ⟨-, he⟩
  · have : i0 = j := by omega
    subst this
    exact ⟨X, h1 i0 hj (by omega), fun r hx => ⟨(h2 r hx).1, fun k hk => ⟨((h2 r hx).2 k hk).1, ((h2 r hx).2 k hk).2.2⟩⟩⟩
  · omega

/-- the rows that Short tells -/
def shS (E : List (List Nat)) (R : Nat) (out : Nat → Int) : Nat → Bool := goS E (nxt out R) (R + 1) (Lib.idxOf ((List.range R).map out) (-1)).toNat (fun _ => false)
/-- some column that is met -/
def met (E : List (List Nat)) (s : Nat → Bool) (n k : Nat) : Bool := (List.range n).any fun i => s i && (E.getD i []).contains k
theorem met_iff {s : Nat → Bool} {n k : Nat} : met E s n k = true ↔ ∃ i, i < n ∧ s i = true ∧ k ∈ E.getD i [] := by
  unfold met
  simp only [List.any_eq_true, List.mem_range, Bool.and_eq_true, List.contains_iff_mem]

/-- one unknown less than equations -/
theorem short_cnt (hI : Inc R C E) (hs : ∃ r, r < R ∧ (lst E R C R).out r < 0) : ((List.range C).filter (met E (shS E R (lst E R C R).out) R)).length + 1 = (shl (shS E R (lst E R C R).out) R).length := by
  have hE := hI.2.2.2
  have hl := lst_li (R := R) hE R (Nat.le_refl _)
  obtain ⟨X, h1, h2⟩ := short_reg (R := R) hE
  obtain ⟨out, hout⟩ : ∃ out, out = (lst E R C R).out := ⟨_, rfl⟩
  have hmem := hl.mem
  have hinj := hl.inj
  have hrn := hl.rn
  rw [← hout] at h1 h2 hmem hinj hrn hs ⊢
  rcases idx_cases out R (-1) with ⟨i0, hi0, e0, he⟩ | ⟨hno, -⟩
  · have hX0 := h1 i0 hi0 (by omega)
    have hspec : ∀ r, shS E R out r = true ↔ Rr E (nxt out R) i0 r := fun r => by
      unfold shS
      rw [he, Int.toNat_natCast]
      exact goS_spec (X := X) (fun r hx => ⟨(h2 r hx).1, fun k hk => ((h2 r hx).2 k hk).2.2⟩) i0 hX0 r
    obtain ⟨s, hs'⟩ : ∃ s, s = shS E R out := ⟨_, rfl⟩
    rw [← hs'] at hspec ⊢
    have hRX : ∀ r, Rr E (nxt out R) i0 r → X r := fun r h => by
      induction h with
      | start => exact hX0
      | step i k _ hk ih => exact ((h2 i ih).2 k hk).2.2
    have hlen : (shl s R).length = ((List.range R).filter s).length := by unfold shl; rw [List.length_map]
    rw [hlen]
    have hi0m : i0 ∈ (List.range R).filter s := by simp [hi0, (hspec i0).2 .start]
    have hpos := List.length_pos_of_mem hi0m
    have hnd := range_filter_nodup R s
    -- from the columns to the rows
    have a1 : ((List.range C).filter (met E s R)).length ≤ (((List.range R).filter s).erase i0).length := by
      have hmn : (((List.range C).filter (met E s R)).map (nxt out R)).Nodup := map_nodup (range_filter_nodup C _) fun a ha b hb e => by
        simp only [List.mem_filter, List.mem_range] at ha hb
        obtain ⟨i, hi, hsi, hk⟩ := met_iff.1 ha.2
        obtain ⟨j, hj, hsj, hk'⟩ := met_iff.1 hb.2
        have q1 := ((h2 i (hRX i ((hspec i).1 hsi))).2 a hk).2.1.2
        have q2 := ((h2 j (hRX j ((hspec j).1 hsj))).2 b hk').2.1.2
        rw [e, q2] at q1
        omega
      have := nodup_sub _ (((List.range R).filter s).erase i0) hmn (fun x hx => by
        obtain ⟨k, hk, rfl⟩ := List.mem_map.1 hx
        simp only [List.mem_filter, List.mem_range] at hk
        obtain ⟨i, hi, hsi, hki⟩ := met_iff.1 hk.2
        have hri := (hspec i).1 hsi
        have q1 := ((h2 i (hRX i hri)).2 k hki).2.1
        refine (List.mem_erase_of_ne (fun e => ?_)).2 ?_
        · rw [e, e0] at q1; omega
        · simp only [List.mem_filter, List.mem_range]
          exact ⟨q1.1, (hspec _).2 (.step i k hri hki)⟩)
      simpa using this
    -- and back
    have a2 : (((List.range R).filter s).erase i0).length ≤ ((List.range C).filter (met E s R)).length := by
      have hst : ∀ r, Rr E (nxt out R) i0 r → r ≠ i0 → ∃ i k, Rr E (nxt out R) i0 i ∧ k ∈ E.getD i [] ∧ out r = (k : Int) := fun r h hne => by
        cases h with
        | start => exact absurd rfl hne
        | step i k hi hk => exact ⟨i, k, hi, hk, ((h2 i (hRX i hi)).2 k hk).2.1.2⟩
      have hm : ∀ a, a ∈ ((List.range R).filter s).erase i0 → a < R ∧ s a = true ∧ a ≠ i0 := fun a ha => by
        have hne : a ≠ i0 := fun e => by
          rw [e] at ha
          exact absurd ha (by rw [List.Nodup.mem_erase_iff hnd]; simp)
        have := List.mem_of_mem_erase ha
        simp only [List.mem_filter, List.mem_range] at this
        exact ⟨this.1, this.2, hne⟩
      have hmn : ((((List.range R).filter s).erase i0).map fun r => (out r).toNat).Nodup := map_nodup (List.Nodup.erase i0 hnd) fun a ha b hb e => by
        obtain ⟨b1, b2, b3⟩ := hm a ha
        obtain ⟨c1, c2, c3⟩ := hm b hb
        obtain ⟨i, k, -, -, q1⟩ := hst a ((hspec a).1 b2) b3
        obtain ⟨j, k', -, -, q2⟩ := hst b ((hspec b).1 c2) c3
        exact hinj a b (by omega) (by omega)
      have := nodup_sub _ ((List.range C).filter (met E s R)) hmn (fun x hx => by
        obtain ⟨a, ha, rfl⟩ := List.mem_map.1 hx
        obtain ⟨b1, b2, b3⟩ := hm a ha
        obtain ⟨i, k, hi, hk, q1⟩ := hst a ((hspec a).1 b2) b3
        rw [q1, Int.toNat_natCast]
        simp only [List.mem_filter, List.mem_range]
        exact ⟨getD_lt hE hk, met_iff.2 ⟨i, (h2 i (hRX i hi)).1, (hspec i).2 hi, hk⟩⟩)
      simpa using this
    rw [List.length_erase_of_mem hi0m] at a1 a2
    omega
  · obtain ⟨r, hr, hn⟩ := hs
    have := hrn r
    exact absurd (by omega) (hno r hr)

/-- what the law asks of the cover -/
theorem cover_law (hI : Inc R C E) : (coverT E R C).1.length + (coverT E R C).2.1.length = cnt (lst E R C R).out R ∧ ∀ i k, i < R → k ∈ E.getD i [] → (i : Int) ∈ (coverT E R C).1 ∨ (k : Int) ∈ (coverT E R C).2.1 := by
  have hE := hI.2.2.2
  have hm := fill_mx (E := E) (R := R) (C := C) hE
  have hc := lst_cnt (R := R) hE
  obtain ⟨row, hrow⟩ : ∃ row, row = (fill E (fun _ => true) (fun _ => true) C R).1 := ⟨_, rfl⟩
  obtain ⟨col, hcol⟩ : ∃ col, col = (fill E (fun _ => true) (fun _ => true) C R).2 := ⟨_, rfl⟩
  have hc : cnt (lst E R C R).out R = cnt row R := by rw [hc, hrow]; rfl
  unfold coverT
  rw [← hrow, ← hcol] at hm ⊢
  have hsp := goA_spec hm hI.2.2.1
  obtain ⟨rs, hrs⟩ : ∃ rs, rs = (goA E C row col C).rs := ⟨_, rfl⟩
  rw [← hrs] at hsp ⊢
  refine ⟨?_, fun i k hi hk => ?_⟩
  · show (shl rs R).length + (srt (cov rs row R)).length = _
    rw [srt_len, cov_cnt R (fun r hr h => Rch.paired hm ((hsp r).1 h)), hc]
  · show (i : Int) ∈ shl rs R ∨ (k : Int) ∈ srt (cov rs row R)
    cases hri : rs i with
    | true => exact .inl (mem_shl.2 ⟨i, hi, hri, rfl⟩)
    | false =>
      right
      rw [mem_srt, mem_cov]
      have hnk : ¬ Rch E R C row col false k := fun h => by
        have := (hsp i).2 (.down k i h hi hk)
        rw [hri] at this
        cases this
      have hkC := getD_lt hE hk
      have hp : 0 ≤ col k := by
        apply Classical.byContradiction
        intro hc
        exact hnk (.free k hkC (by omega))
      obtain ⟨c1, c2⟩ := hm.co.ca k hkC hp
      have c2 := c2 (by omega)
      refine ⟨(col k).toNat, c1, ?_, by omega, c2⟩
      cases hrc : rs (col k).toNat with
      | false => rfl
      | true =>
        exfalso
        have := Rch.back _ ((hsp _).1 hrc) (by omega)
        rw [c2, Int.toNat_natCast] at this
        exact hnk this
end

end Go.Proofs.Ytjbhnfejpgjghaa
