/- MatchCovers (plain): Short is safe; Koenig; Hall. -/
import Derived.Test.YtjbhnfejpgjghaaQh
namespace Go.Proofs.Ytjbhnfejpgjghaa
open Go.RowKit
set_option linter.unusedSimpArgs false
set_option linter.unusedVariables false

theorem mem_shl {s : Nat → Bool} {n : Nat} {x : Int} : x ∈ shl s n ↔ ∃ i : Nat, i < n ∧ s i = true ∧ x = (i : Int) := by
  unfold shl
  simp only [List.mem_map, List.mem_filter, List.mem_range]
  constructor
  · rintro ⟨i, ⟨h1, h2⟩, rfl⟩; exact ⟨i, h1, h2, rfl⟩
  · rintro ⟨i, h1, h2, rfl⟩; exact ⟨i, ⟨h1, h2⟩, rfl⟩
theorem mem_cov {rs : Nat → Bool} {row : Nat → Int} {x : Int} : ∀ n, x ∈ cov rs row n ↔ ∃ r, r < n ∧ rs r = false ∧ 0 ≤ row r ∧ row r = x := by
  intro n
  induction n with
  | zero => exact ⟨fun h => (by cases h), fun ⟨r, h, _⟩ => (by omega)⟩
  | succ n ih =>
    unfold cov
    rw [List.mem_append, ih]
    constructor
    · rintro (⟨r, h1, h2⟩ | h)
      · exact ⟨r, by omega, h2⟩
      · split at h
        · cases h
        · rename_i hr
          split at h
          · rename_i hp
            have : x = row n := by simpa using h
            exact ⟨n, by omega, by simpa using hr, hp, this.symm⟩
          · cases h
    · rintro ⟨r, h1, h2, h3, h4⟩
      by_cases e : r = n
      · right
        subst e
        rw [if_neg (by rw [h2]; simp), if_pos h3, h4]
        simp
      · exact .inl ⟨r, by omega, h2, h3, h4⟩
theorem mem_srt {x : Int} {l : List Int} : x ∈ srt l ↔ x ∈ l := by unfold srt; exact List.mem_mergeSort

/-- the cover has as many as the matching -/
theorem cov_cnt {rs : Nat → Bool} {row : Nat → Int} : ∀ n, (∀ r, r < n → rs r = true → 0 ≤ row r) → (shl rs n).length + (cov rs row n).length = cnt row n := by
  intro n
  induction n with
  | zero => intro _; rfl
  | succ n ih =>
    intro h
    have h1 := ih (fun r hr => h r (by omega))
    rw [shl_succ, List.length_append]
    unfold cov cnt
    rw [List.length_append]
    cases hs : rs n
    · by_cases hp : 0 ≤ row n
      · simp [hp]; omega
      · simp [hp]; omega
    · have := h n (by omega) hs
      simp [this]; omega

theorem cnt_full {f : Nat → Int} : ∀ n, cnt f n < n ↔ ∃ r, r < n ∧ f r < 0 := by
  intro n
  induction n with
  | zero => exact ⟨fun h => (by omega), fun ⟨r, h, _⟩ => (by omega)⟩
  | succ n ih =>
    unfold cnt
    have hl := cnt_le f n
    by_cases hp : 0 ≤ f n
    · rw [if_pos hp]
      constructor
      · intro h
        obtain ⟨r, h1, h2⟩ := ih.1 (by omega)
        exact ⟨r, by omega, h2⟩
      · rintro ⟨r, h1, h2⟩
        have : r ≠ n := fun e => by rw [e] at h2; omega
        have := ih.2 ⟨r, by omega, h2⟩
        omega
    · rw [if_neg hp]
      exact ⟨fun _ => ⟨n, by omega, by omega⟩, fun _ => by omega⟩

/-- where a number stands -/
theorem idx_cases (out : Nat → Int) (R : Nat) (x : Int) : (∃ k, k < R ∧ out k = x ∧ Lib.idxOf ((List.range R).map out) x = (k : Int)) ∨ ((∀ k, k < R → out k ≠ x) ∧ Lib.idxOf ((List.range R).map out) x = -1) := by
  classical
  have hg : ∀ j, j < R → ((List.range R).map out).getD j 0 = out j := fun j hj => by simp [List.getD_eq_getElem?_getD, hj]
  have ht : ((List.range R).map out).take R = (List.range R).map out := List.take_of_length_le (by simp)
  by_cases h : ∃ k, k < R ∧ out k = x
  · left
    have key : ∀ n, (∃ k, k < n ∧ k < R ∧ out k = x) → ∃ k, k < R ∧ out k = x ∧ ∀ j, j < k → out j ≠ x := by
      intro n
      induction n with
      | zero => rintro ⟨k, h, _⟩; omega
      | succ n ih =>
        rintro ⟨k, h1, h2, h3⟩
        by_cases h4 : ∃ k, k < n ∧ k < R ∧ out k = x
        · exact ih h4
        · exact ⟨k, h2, h3, fun j hj e => h4 ⟨j, by omega, by omega, e⟩⟩
    obtain ⟨k0, h0, h1⟩ := h
    obtain ⟨k, hk, hx, hn⟩ := key (k0 + 1) ⟨k0, by omega, h0, h1⟩
    refine ⟨k, hk, hx, ?_⟩
    have := Lib.idxOf_hit ((List.range R).map out) R k x hk (by simp) (by rw [hg k hk]; exact hx) (fun j hj => by rw [hg j (by omega)]; exact hn j hj)
    rwa [ht] at this
  · right
    refine ⟨fun k hk e => h ⟨k, hk, e⟩, ?_⟩
    have := Lib.idxOf_miss ((List.range R).map out) R x (fun j hj => by rw [hg j hj]; exact fun e => h ⟨j, hj, e⟩)
    rwa [ht] at this

section
variable {E : List (List Nat)} {R C : Nat}
/-- the region that Short goes through -/
theorem short_reg (hE : ∀ l ∈ E, ∀ k ∈ l, k < C) : ∃ X : Nat → Prop, (∀ r, r < R → (lst E R C R).out r < 0 → X r) ∧ ∀ r, X r → r < R ∧ ∀ k ∈ E.getD r [], 0 ≤ Lib.idxOf ((List.range R).map (lst E R C R).out) (k : Int) ∧ (nxt (lst E R C R).out R k < R ∧ (lst E R C R).out (nxt (lst E R C R).out R k) = (k : Int)) ∧ X (nxt (lst E R C R).out R k) := by
  obtain ⟨X, S, h1, h2, h3⟩ := lst_wit (R := R) hE
  have hl := lst_li (R := R) hE R (Nat.le_refl _)
  refine ⟨fun r => r < R ∧ X r, fun r hr hp => ⟨hr, h3 r hr hp⟩, fun r hx => ⟨hx.1, fun k hk => ?_⟩⟩
  obtain ⟨r', hr', e, hx'⟩ := h2 k (h1 r hx.2 k hk)
  rcases idx_cases (lst E R C R).out R (k : Int) with ⟨j, hj, ej, hi⟩ | ⟨hn, -⟩
  · have hjr : j = r' := hl.inj j r' (by omega) (by rw [ej, e])
    have hnx : nxt (lst E R C R).out R k = j := by unfold nxt; rw [hi]; rfl
    rw [hnx]
    exact ⟨by omega, ⟨hj, ej⟩, hj, by rw [hjr]; exact hx'⟩
  · exact absurd e (hn r' hr')
theorem short_ok (hI : Inc R C E) : ShortOk E R (lst E R C R).out := by
  intro i0 hi
  obtain ⟨X, h1, h2⟩ := short_reg (R := R) hI.2.2.2
  rcases idx_cases (lst E R C R).out R (-1) with ⟨j, hj, ej, he⟩ | ⟨-, he⟩
  · have : i0 = j := by omega
    subst this
    exact ⟨X, h1 i0 hj (by omega), fun r hx => ⟨(h2 r hx).1, fun k hk => ⟨((h2 r hx).2 k hk).1, ((h2 r hx).2 k hk).2.2⟩⟩⟩
  · omega

/-- the rows that Short tells -/
def shS (E : List (List Nat)) (R : Nat) (out : Nat → Int) : Nat → Bool := goS E (nxt out R) (R + 1) (Lib.idxOf ((List.range R).map out) (-1)).toNat (fun _ => false)
/-- some column that is met -/
def met (E : List (List Nat)) (s : Nat → Bool) (n k : Nat) : Bool := (List.range n).any fun i => s i && (E.getD i []).contains k
theorem met_iff {s : Nat → Bool} {n k : Nat} : met E s n k = true ↔ ∃ i, i < n ∧ s i = true ∧ k ∈ E.getD i [] := by
  unfold met
  simp only [List.any_eq_true, List.mem_range, Bool.and_eq_true, List.contains_iff_mem]

/-- one unknown less than equations -/
theorem short_cnt (hI : Inc R C E) (hs : ∃ r, r < R ∧ (lst E R C R).out r < 0) : ((List.range C).filter (met E (shS E R (lst E R C R).out) R)).length + 1 = (shl (shS E R (lst E R C R).out) R).length := by
  have hE := hI.2.2.2
  have hl := lst_li (R := R) hE R (Nat.le_refl _)
  obtain ⟨X, h1, h2⟩ := short_reg (R := R) hE
  obtain ⟨out, hout⟩ : ∃ out, out = (lst E R C R).out := ⟨_, rfl⟩
  have hmem := hl.mem
  have hinj := hl.inj
  have hrn := hl.rn
  rw [← hout] at h1 h2 hmem hinj hrn hs ⊢
  rcases idx_cases out R (-1) with ⟨i0, hi0, e0, he⟩ | ⟨hno, -⟩
  · have hX0 := h1 i0 hi0 (by omega)
    have hspec : ∀ r, shS E R out r = true ↔ Rr E (nxt out R) i0 r := fun r => by
      unfold shS
      rw [he, Int.toNat_natCast]
      exact goS_spec (X := X) (fun r hx => ⟨(h2 r hx).1, fun k hk => ((h2 r hx).2 k hk).2.2⟩) i0 hX0 r
    obtain ⟨s, hs'⟩ : ∃ s, s = shS E R out := ⟨_, rfl⟩
    rw [← hs'] at hspec ⊢
    have hRX : ∀ r, Rr E (nxt out R) i0 r → X r := fun r h => by
      induction h with
      | start => exact hX0
      | step i k _ hk ih => exact ((h2 i ih).2 k hk).2.2
    have hlen : (shl s R).length = ((List.range R).filter s).length := by unfold shl; rw [List.length_map]
    rw [hlen]
    have hi0m : i0 ∈ (List.range R).filter s := by simp [hi0, (hspec i0).2 .start]
    have hpos := List.length_pos_of_mem hi0m
    have hnd := range_filter_nodup R s
    -- from the columns to the rows
    have a1 : ((List.range C).filter (met E s R)).length ≤ (((List.range R).filter s).erase i0).length := by
      have hmn : (((List.range C).filter (met E s R)).map (nxt out R)).Nodup := map_nodup (range_filter_nodup C _) fun a ha b hb e => by
        simp only [List.mem_filter, List.mem_range] at ha hb
        obtain ⟨i, hi, hsi, hk⟩ := met_iff.1 ha.2
        obtain ⟨j, hj, hsj, hk'⟩ := met_iff.1 hb.2
        have q1 := ((h2 i (hRX i ((hspec i).1 hsi))).2 a hk).2.1.2
        have q2 := ((h2 j (hRX j ((hspec j).1 hsj))).2 b hk').2.1.2
        rw [e, q2] at q1
        omega
      have := nodup_sub _ (((List.range R).filter s).erase i0) hmn (fun x hx => by
        obtain ⟨k, hk, rfl⟩ := List.mem_map.1 hx
        simp only [List.mem_filter, List.mem_range] at hk
        obtain ⟨i, hi, hsi, hki⟩ := met_iff.1 hk.2
        have hri := (hspec i).1 hsi
        have q1 := ((h2 i (hRX i hri)).2 k hki).2.1
        refine (List.mem_erase_of_ne (fun e => ?_)).2 ?_
        · rw [e, e0] at q1; omega
        · simp only [List.mem_filter, List.mem_range]
          exact ⟨q1.1, (hspec _).2 (.step i k hri hki)⟩)
      simpa using this
    -- and back
    have a2 : (((List.range R).filter s).erase i0).length ≤ ((List.range C).filter (met E s R)).length := by
      have hst : ∀ r, Rr E (nxt out R) i0 r → r ≠ i0 → ∃ i k, Rr E (nxt out R) i0 i ∧ k ∈ E.getD i [] ∧ out r = (k : Int) := fun r h hne => by
        cases h with
        | start => exact absurd rfl hne
        | step i k hi hk => exact ⟨i, k, hi, hk, ((h2 i (hRX i hi)).2 k hk).2.1.2⟩
      have hm : ∀ a, a ∈ ((List.range R).filter s).erase i0 → a < R ∧ s a = true ∧ a ≠ i0 := fun a ha => by
        have hne : a ≠ i0 := fun e => by
          rw [e] at ha
          exact absurd ha (by rw [List.Nodup.mem_erase_iff hnd]; simp)
        have := List.mem_of_mem_erase ha
        simp only [List.mem_filter, List.mem_range] at this
        exact ⟨this.1, this.2, hne⟩
      have hmn : ((((List.range R).filter s).erase i0).map fun r => (out r).toNat).Nodup := map_nodup (List.Nodup.erase i0 hnd) fun a ha b hb e => by
        obtain ⟨b1, b2, b3⟩ := hm a ha
        obtain ⟨c1, c2, c3⟩ := hm b hb
        obtain ⟨i, k, -, -, q1⟩ := hst a ((hspec a).1 b2) b3
        obtain ⟨j, k', -, -, q2⟩ := hst b ((hspec b).1 c2) c3
        exact hinj a b (by omega) (by omega)
      have := nodup_sub _ ((List.range C).filter (met E s R)) hmn (fun x hx => by
        obtain ⟨a, ha, rfl⟩ := List.mem_map.1 hx
        obtain ⟨b1, b2, b3⟩ := hm a ha
        obtain ⟨i, k, hi, hk, q1⟩ := hst a ((hspec a).1 b2) b3
        rw [q1, Int.toNat_natCast]
        simp only [List.mem_filter, List.mem_range]
        exact ⟨getD_lt hE hk, met_iff.2 ⟨i, (h2 i (hRX i hi)).1, (hspec i).2 hi, hk⟩⟩)
      simpa using this
    rw [List.length_erase_of_mem hi0m] at a1 a2
    omega
  · obtain ⟨r, hr, hn⟩ := hs
    have := hrn r
    exact absurd (by omega) (hno r hr)

/-- what the law asks of the cover -/
theorem cover_law (hI : Inc R C E) : (coverT E R C).1.length + (coverT E R C).2.1.length = cnt (lst E R C R).out R ∧ ∀ i k, i < R → k ∈ E.getD i [] → (i : Int) ∈ (coverT E R C).1 ∨ (k : Int) ∈ (coverT E R C).2.1 := by
  have hE := hI.2.2.2
  have hm := fill_mx (E := E) (R := R) (C := C) hE
  have hc := lst_cnt (R := R) hE
  obtain ⟨row, hrow⟩ : ∃ row, row = (fill E (fun _ => true) (fun _ => true) C R).1 := ⟨_, rfl⟩
  obtain ⟨col, hcol⟩ : ∃ col, col = (fill E (fun _ => true) (fun _ => true) C R).2 := ⟨_, rfl⟩
  have hc : cnt (lst E R C R).out R = cnt row R := by rw [hc, hrow]; rfl
  unfold coverT
  rw [← hrow, ← hcol] at hm ⊢
  have hsp := goA_spec hm hI.2.2.1
  obtain ⟨rs, hrs⟩ : ∃ rs, rs = (goA E C row col C).rs := ⟨_, rfl⟩
  rw [← hrs] at hsp ⊢
  refine ⟨?_, fun i k hi hk => ?_⟩
  · show (shl rs R).length + (srt (cov rs row R)).length = _
    rw [srt_len, cov_cnt R (fun r hr h => Rch.paired hm ((hsp r).1 h)), hc]
  · show (i : Int) ∈ shl rs R ∨ (k : Int) ∈ srt (cov rs row R)
    cases hri : rs i with
    | true => exact .inl (mem_shl.2 ⟨i, hi, hri, rfl⟩)
    | false =>
      right
      rw [mem_srt, mem_cov]
      have hnk : ¬ Rch E R C row col false k := fun h => by
        have := (hsp i).2 (.down k i h hi hk)
        rw [hri] at this
        cases this
      have hkC := getD_lt hE hk
      have hp : 0 ≤ col k := by
        apply Classical.byContradiction
        intro hc
        exact hnk (.free k hkC (by omega))
      obtain ⟨c1, c2⟩ := hm.co.ca k hkC hp
      have c2 := c2 (by omega)
      refine ⟨(col k).toNat, c1, ?_, by omega, c2⟩
      cases hrc : rs (col k).toNat with
      | false => rfl
      | true =>
        exfalso
        have := Rch.back _ ((hsp _).1 hrc) (by omega)
        rw [c2, Int.toNat_natCast] at this
        exact hnk this
end

end Go.Proofs.Ytjbhnfejpgjghaa
