/- MatchPerfect (plain): tables, perfect matchings, sums. -/
import Derived.Test.YtjbhnfejpgjghaaPf
import Derived.Test.YtjbhnfejpgjghaaOd
namespace Go.Proofs.Ytjbhnfejpgjghaa
open Go.RowKit
set_option linter.unusedSimpArgs false
set_option linter.unusedVariables false

/-- the columns of a row that have an order, of the first k -/
def pcN (l : List Int) (k : Nat) : List Nat := (List.range k).filter fun j => decide (0 ≤ l.getD j 0)
def pc (l : List Int) (k : Nat) : List Int := (pcN l k).map fun (j : Nat) => (j : Int)
theorem pc_succ (l : List Int) (k : Nat) : pc l (k + 1) = pc l k ++ (if 0 ≤ l.getD k 0 then [(k : Int)] else []) := by
  unfold pc pcN
  rw [List.range_succ, List.filter_append, List.map_append]
  congr 1
  by_cases h : 0 ≤ l.getD k 0
  · rw [if_pos h, List.filter_cons_of_pos (p := fun j => decide (0 ≤ l.getD j 0)) (decide_eq_true h)]; rfl
  · rw [if_neg h, List.filter_cons_of_neg (p := fun j => decide (0 ≤ l.getD j 0)) (by rw [decide_eq_false h]; simp)]; rfl
theorem pcN_mem {l : List Int} {k j : Nat} : j ∈ pcN l k ↔ j < k ∧ 0 ≤ l.getD j 0 := by
  unfold pcN
  simp
theorem pc_len (l : List Int) (k : Nat) : (pc l k).length ≤ k := by
  unfold pc pcN
  rw [List.length_map]
  have := List.length_filter_le (fun j => decide (0 ≤ l.getD j 0)) (List.range k)
  simpa using this
/-- the incidence of a table -/
def mE (ls : List (List Int)) (n : Nat) : List (List Int) := (List.range n).map fun i => pc (ls.getD i []) n
theorem mE_len (ls : List (List Int)) (n : Nat) : (mE ls n).length = n := by simp [mE]
theorem mE_get {ls : List (List Int)} {n i : Nat} (h : i < n) : (mE ls n)[i]? = some (pc (ls.getD i []) n) := by simp [mE, h]
theorem nE_get {ls : List (List Int)} {n i : Nat} (h : i < n) : (nE (mE ls n)).getD i [] = pcN (ls.getD i []) n := by
  unfold nE
  rw [List.getD_eq_getElem?_getD, List.getElem?_map, mE_get h]
  show (pc _ _).map Int.toNat = _
  unfold pc
  rw [List.map_map]
  have : (Int.toNat ∘ fun j : Nat => (j : Int)) = id := by funext j; simp
  rw [this, List.map_id]
theorem mE_ok (ls : List (List Int)) {n : Nat} (hn : n ≤ 64) : vErr (n : Int) (n : Int) (mE ls n) = 0 := by
  refine v_good ?_ ?_
  · rw [mE_len]; omega
  · rw [List.all_eq_true]
    intro l hl
    obtain ⟨i, hi, rfl⟩ := List.mem_map.1 hl
    generalize ls.getD i [] = row
    unfold goodL
    rw [List.all_eq_true]
    intro j hj
    have hjl := List.mem_range.1 hj
    have hpw : (pcN row n).Pairwise (· < ·) := List.Pairwise.sublist List.filter_sublist List.pairwise_lt_range
    have hjl' : j < (pcN row n).length := by unfold pc at hjl; simpa using hjl
    have hg : ∀ x (hx : x < (pcN row n).length), (pc row n).getD x 0 = (((pcN row n)[x] : Nat) : Int) := fun x hx => by
      unfold pc
      rw [List.getD_eq_getElem?_getD, List.getElem?_map, List.getElem?_eq_getElem hx]
      rfl
    unfold goodE
    rw [hg j hjl']
    have hm := (pcN_mem.1 (List.getElem_mem hjl')).1
    by_cases h0 : 0 < j
    · rw [hg (j - 1) (by omega)]
      have := List.pairwise_iff_getElem.1 hpw (j - 1) j (by omega) hjl' (by omega)
      simp
      omega
    · have : j = 0 := by omega
      subst this
      simp
      omega

theorem mE_inc (ls : List (List Int)) {n : Nat} (hn : n ≤ 64) : Inc n n (nE (mE ls n)) := by
  have := (inc_of (mE_ok ls hn)).2.2.1
  simpa using this
theorem mem_E {ls : List (List Int)} {n i k : Nat} (hi : i < n) : k ∈ (nE (mE ls n)).getD i [] ↔ k < n ∧ 0 ≤ Wt ls i k := by
  rw [nE_get hi, pcN_mem]
  rfl

/-- what stands in the list is a choice for all rows -/
theorem cmp_cho {ls : List (List Int)} {n : Nat} {s : List Int} (h : Cmp (nE (mE ls n)) n n (fun _ => false) s) : ∃ m : Nat → Nat, Cho n m ∧ (∀ i, i < n → 0 ≤ Wt ls i (m i)) ∧ s = (List.range n).map fun i => ((m i : Nat) : Int) := by
  obtain ⟨f, hf, hall, hs⟩ := cmp_asg n _ s (Nat.le_refl _) h
  have h0 : ∀ r, r < n → 0 ≤ f r := fun r hr => hall r hr (by omega)
  have hv : ∀ r, r < n → (f r).toNat < n ∧ 0 ≤ Wt ls r (f r).toNat := fun r hr => (mem_E hr).1 (hf.val r hr (h0 r hr)).2.1
  refine ⟨fun r => (f r).toNat, ⟨fun r hr => (hv r hr).1, fun i j hi hj e => hf.inj i j hi hj (h0 i hi) (by have := h0 i hi; have := h0 j hj; have e : (f i).toNat = (f j).toNat := e; omega)⟩, fun r hr => (hv r hr).2, ?_⟩
  rw [hs, Nat.sub_self, ← List.range_eq_range']
  apply List.map_congr_left
  intro r hr
  have := h0 r (List.mem_range.1 hr)
  show f r = (((f r).toNat : Nat) : Int)
  omega
theorem cho_cmp {ls : List (List Int)} {n : Nat} {m : Nat → Nat} (hm : Cho n m) (h0 : ∀ i, i < n → 0 ≤ Wt ls i (m i)) : ∀ (j : Nat) (used : Nat → Bool), j ≤ n → (∀ k, used k = true → ∃ i, i < n - j ∧ m i = k) → Cmp (nE (mE ls n)) n j used ((List.range' (n - j) j).map fun i => ((m i : Nat) : Int)) := by
  intro j
  induction j with
  | zero => intro used _ _; rfl
  | succ j ih =>
    intro used hj hu
    have e1 : n - j = n - (j + 1) + 1 := by omega
    have hi : n - (j + 1) < n := by omega
    rw [List.range'_succ, List.map_cons, ← e1]
    refine ⟨m (n - (j + 1)), _, rfl, (mem_E hi).2 ⟨hm.lt _ hi, h0 _ hi⟩, ?_, ih _ (by omega) (fun k hk => ?_)⟩
    · cases hb : used (m (n - (j + 1))) with
      | false => rfl
      | true =>
        obtain ⟨i, h1, h2⟩ := hu _ hb
        have := hm.inj i _ (by omega) hi h2
        omega
    · by_cases e : k = m (n - (j + 1))
      · exact ⟨n - (j + 1), by omega, e.symm⟩
      · rw [upd_other _ _ _ _ e] at hk
        obtain ⟨i, h1, h2⟩ := hu k hk
        exact ⟨i, by omega, h2⟩
theorem cho_cmp0 {ls : List (List Int)} {n : Nat} {m : Nat → Nat} (hm : Cho n m) (h0 : ∀ i, i < n → 0 ≤ Wt ls i (m i)) : Cmp (nE (mE ls n)) n n (fun _ => false) ((List.range n).map fun i => ((m i : Nat) : Int)) := by
  have := cho_cmp hm h0 n (fun _ => false) (Nat.le_refl _) (fun k hk => by cases hk)
  rwa [Nat.sub_self, ← List.range_eq_range'] at this

/-- the weight of a list of columns, the first i rows -/
def sumP (ls : List (List Int)) (p : List Int) : Nat → Int := sumF fun j => Wt ls j (p.getD j 0).toNat
/-- a list that is a perfect matching -/
structure PM1 (ls : List (List Int)) (n : Nat) (p : List Int) : Prop where
  len : p.length = n
  val : ∀ j, j < n → ∃ k : Nat, p[j]? = some (k : Int) ∧ k < n ∧ 0 ≤ Wt ls j k ∧ Wt ls j k ≤ 3
  sum : sumP ls p n ≤ heavy ls n 0
theorem pm1_of {ls : List (List Int)} (hT : isT ls = true) {p : List Int} (h : Cmp (nE (mE ls ls.length)) ls.length ls.length (fun _ => false) p) : PM1 ls ls.length p := by
  obtain ⟨m, hm, h0, rfl⟩ := cmp_cho h
  have hg : ∀ j, j < ls.length → (((List.range ls.length).map fun i => ((m i : Nat) : Int)).getD j 0).toNat = m j := fun j hj => by
    rw [List.getD_eq_getElem?_getD]
    simp [hj]
  refine ⟨by simp, fun j hj => ⟨m j, by simp [hj], hm.lt j hj, h0 j hj, (Wt_get hT hj (hm.lt j hj)).2.2⟩, ?_⟩
  have : sumP ls ((List.range ls.length).map fun i => ((m i : Nat) : Int)) ls.length = sumF (fun i => Wt ls i (m i)) ls.length := sumF_congr fun j hj => by
    show Wt ls j _ = _
    rw [hg j hj]
  rw [this]
  exact cho_le hT hm h0
theorem PM1.bd {ls : List (List Int)} {n : Nat} {p : List Int} (h : PM1 ls n p) : ∀ i, i ≤ n → 0 ≤ sumP ls p i ∧ sumP ls p i ≤ 3 * (i : Int) := by
  intro i
  induction i with
  | zero => intro _; show (0 : Int) ≤ 0 ∧ (0 : Int) ≤ _; omega
  | succ i ih =>
    intro hi
    obtain ⟨k, h1, h2, h3, h4⟩ := h.val i (by omega)
    have := ih (by omega)
    have e : (p.getD i 0).toNat = k := by rw [List.getD_eq_getElem?_getD, h1]; rfl
    show 0 ≤ sumP ls p i + Wt ls i (p.getD i 0).toNat ∧ sumP ls p i + Wt ls i (p.getD i 0).toNat ≤ _
    rw [e]
    omega

def topF (f : Nat → Int) : Nat → Int
  | 0 => -1
  | j + 1 => max (topF f j) (f j)
theorem topF_le {f : Nat → Int} {b : Int} (hb : -1 ≤ b) : ∀ {n}, (∀ j, j < n → f j ≤ b) → -1 ≤ topF f n ∧ topF f n ≤ b := by
  intro n
  induction n with
  | zero => intro _; exact ⟨Int.le_refl _, hb⟩
  | succ n ih =>
    intro h
    have h1 := ih fun j hj => h j (by omega)
    have h2 := h n (by omega)
    show -1 ≤ max _ _ ∧ max _ _ ≤ b
    omega
theorem topF_ge {f : Nat → Int} : ∀ {n j}, j < n → f j ≤ topF f n := by
  intro n
  induction n with
  | zero => intro j h; omega
  | succ n ih =>
    intro j h
    show _ ≤ max _ _
    by_cases e : j = n
    · subst e; omega
    · have := ih (j := j) (by omega); omega

/-- what the law asks of the list -/
structure LawP (ls : List (List Int)) (mo : Nat) (out : List (List Int)) (more : Bool) : Prop where
  all : ∀ p ∈ out, PM1 ls ls.length p
  none : heavy ls ls.length 0 < 0 → out = []
  some : 0 ≤ heavy ls ls.length 0 → out ≠ []
  top : 0 ≤ heavy ls ls.length 0 → more = false → topF (fun j => sumP ls (out.getD j []) ls.length) out.length = heavy ls ls.length 0
  len : out.length ≤ 1000

theorem perf_law {ls : List (List Int)} (hT : isT ls = true) {most : Int} {out : List (List Int)} {more : Bool} (h : perfS (ls.length : Int) (ls.length : Int) (mE ls ls.length) most = (out, more, 0)) : LawP ls most.toNat out more := by
  have hn10 := (isT_of hT).2.1
  have hI := mE_inc ls (n := ls.length) (by omega)
  unfold perfS at h
  rw [if_pos (mE_ok ls (by omega))] at h
  split at h
  · simp at h
  · rename_i hm
    rw [if_pos rfl] at h
    simp only [Int.toNat_natCast] at h
    obtain ⟨o, ho⟩ : ∃ o, o = perf (nE (mE ls ls.length)) ls.length ls.length most.toNat ls.length [] (fun _ => false) [] := ⟨_, rfl⟩
    rw [← ho] at h
    have hsound : ∀ p ∈ o, Cmp (nE (mE ls ls.length)) ls.length ls.length (fun _ => false) p := fun p hp => by
      rw [ho] at hp
      rcases perf_sound _ _ _ _ p hp with h1 | ⟨s, h1, h2⟩
      · cases h1
      · rw [h2]; exact h1
    have hlen : o.length ≤ most.toNat + 1 := by rw [ho]; exact perf_len _ _ _ _ (by simp)
    have hall : ∀ p ∈ o, PM1 ls ls.length p := fun p hp => pm1_of hT (hsound p hp)
    have hnone : heavy ls ls.length 0 < 0 → o = [] := fun hneg => by
      cases ho' : o with
      | nil => rfl
      | cons p o' =>
        have h1 := hall p (by rw [ho']; exact List.mem_cons_self ..)
        have h2 := (h1.bd ls.length (Nat.le_refl _)).1
        have h3 := h1.sum
        omega
    have hin : 0 ≤ heavy ls ls.length 0 → o.length ≤ most.toNat → ((List.range ls.length).map fun i => ((mW ls i : Nat) : Int)) ∈ o := fun h0 hl => by
      have hM := mW_mt hT h0
      have hc := cho_cmp0 hM.cho hM.pos
      have := perf_all (E := nE (mE ls ls.length)) (R := ls.length) (C := ls.length) (most := most.toNat) hI.2.2.2 ls.length [] (fun _ => false) [] _ (Nat.le_refl _) (by rw [← ho]; exact hl) hc
      rw [← ho] at this
      exact this
    split at h
    · rename_i hgt
      simp at h
      obtain ⟨rfl, rfl⟩ := h
      refine ⟨fun p hp => hall p (List.mem_of_mem_take hp), fun hneg => by rw [hnone hneg]; simp, fun _ e => ?_, (fun _ h => by cases h), by rw [List.length_take]; omega⟩
      have := congrArg List.length e
      rw [List.length_take] at this
      have h' : min most.toNat o.length = 0 := this
      omega
    · rename_i hle
      simp at h
      obtain ⟨rfl, rfl⟩ := h
      refine ⟨hall, hnone, fun h0 e => ?_, fun h0 _ => ?_, by omega⟩
      · have := hin h0 (by omega)
        rw [e] at this
        cases this
      · have hM := mW_mt hT h0
        have hmem := hin h0 (by omega)
        obtain ⟨j, hj, e⟩ := List.getElem_of_mem hmem
        have hup := topF_le (f := fun j => sumP ls (o.getD j []) ls.length) (b := heavy ls ls.length 0) (by omega) (n := o.length) (fun x hx => by
          show sumP ls (o.getD x []) ls.length ≤ _
          rw [List.getD_eq_getElem?_getD, List.getElem?_eq_getElem hx]
          exact (hall _ (List.getElem_mem hx)).sum)
        have hdn := topF_ge (f := fun j => sumP ls (o.getD j []) ls.length) (n := o.length) hj
        have hs : sumP ls (o.getD j []) ls.length = heavy ls ls.length 0 := by
          rw [List.getD_eq_getElem?_getD, List.getElem?_eq_getElem hj, e, ← hM.sum]
          exact sumF_congr fun i hi => by
            show Wt ls i _ = _
            congr 1
            rw [Option.getD_some, List.getD_eq_getElem?_getD]
            simp [hi]
        have hdn : sumP ls (o.getD j []) ls.length ≤ topF (fun j => sumP ls (o.getD j []) ls.length) o.length := hdn
        omega

end Go.Proofs.Ytjbhnfejpgjghaa
