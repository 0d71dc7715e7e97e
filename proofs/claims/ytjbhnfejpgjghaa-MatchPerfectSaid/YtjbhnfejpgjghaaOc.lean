/- Offsets (plain): the passes, their bound, their end. -/
import Derived.Test.YtjbhnfejpgjghaaOb
namespace Go.Proofs.Ytjbhnfejpgjghaa
open Go.RowKit
set_option linter.unusedSimpArgs false
set_option linter.unusedVariables false

section
variable (V : Nat → Nat → Int) (m : Nat → Nat)
def pw : Nat → List Nat → Int
  | _, [] => 0
  | a, b :: l => V b (m a) - V a (m a) + pw b l
variable {V m}
theorem pw_split : ∀ (q : List Nat) (a i : Nat) (r : List Nat), pw V m a (q ++ i :: r) = pw V m a (q ++ [i]) + pw V m i r := by
  intro q
  induction q with
  | nil => intro a i r; show _ + pw V m i r = _ + 0 + _; omega
  | cons b q ih => intro a i r; show _ + pw V m b (q ++ i :: r) = _ + pw V m b (q ++ [i]) + _; rw [ih]; omega
theorem pw_chain : ∀ (q : List Nat) (a i : Nat), pw V m a (q ++ [i]) = chain V m (m a) (q ++ [i]) + V i (m i) - V a (m a) := by
  intro q
  induction q with
  | nil => intro a i; show V i (m a) - V a (m a) + 0 = V i (m a) - V i (m i) + 0 + _ - _; omega
  | cons b q ih => intro a i; show _ - _ + pw V m b (q ++ [i]) = _ - _ + chain V m (m b) (q ++ [i]) + _ - _; rw [ih]; omega
theorem lastv_snoc : ∀ (q : List Nat) (v i : Nat), lastv m v (q ++ [i]) = m i := by
  intro q
  induction q with
  | nil => intro v i; rfl
  | cons b q ih => intro v i; exact ih _ _
theorem chainOk_split : ∀ (q : List Nat) (v i : Nat) (r : List Nat), chainOk V m v (q ++ i :: r) → chainOk V m v (q ++ [i]) ∧ chainOk V m (m i) r := by
  intro q
  induction q with
  | nil => intro v i r h; exact ⟨⟨h.1, trivial⟩, h.2⟩
  | cons b q ih => intro v i r h; exact ⟨⟨h.1, (ih _ _ _ h.2).1⟩, (ih _ _ _ h.2).2⟩
end

structure Pth (ls : List (List Int)) (m : Nat → Nat) (a : Nat) (l : List Nat) : Prop where
  lt : ∀ x ∈ a :: l, x < ls.length
  nd : (a :: l).Nodup
  ok : chainOk (Wt ls) m (m a) l

theorem Pth.ext {ls : List (List Int)} (hT : isT ls = true) {m : Nat → Nat} (hm : Mt ls m) {a i : Nat} {l : List Nat} (h : Pth ls m a l) (hi : i < ls.length) (h0 : 0 ≤ Wt ls a (m i)) :
    ∃ l', Pth ls m i l' ∧ pw (Wt ls) m a l + Wt ls a (m i) - Wt ls i (m i) ≤ pw (Wt ls) m i l' := by
  by_cases hmem : i ∈ a :: l
  · rcases List.mem_cons.1 hmem with rfl | hil
    · exact ⟨l, h, by omega⟩
    · obtain ⟨q, r, rfl⟩ := List.append_of_mem hil
      have hnd := h.nd
      have hsub1 : (a :: (q ++ [i])).Sublist (a :: (q ++ i :: r)) := by
        refine List.Sublist.cons_cons _ (List.Sublist.append (List.Sublist.refl q) ?_)
        exact List.Sublist.cons_cons _ (List.nil_sublist _)
      have hsub2 : (i :: r).Sublist (a :: (q ++ i :: r)) := List.Sublist.cons _ (List.sublist_append_right _ _)
      obtain ⟨k1, k2⟩ := chainOk_split q _ i r h.ok
      have hr := round_le hT hm (a := a) (l := q ++ [i]) (h.lt a (List.mem_cons_self ..)) (fun b hb => h.lt b (hsub1.subset (List.mem_cons_of_mem _ hb))) (hnd.sublist hsub1) k1 (by rw [lastv_snoc]; exact h0)
      rw [lastv_snoc] at hr
      refine ⟨r, ⟨fun x hx => h.lt x (hsub2.subset hx), hnd.sublist hsub2, k2⟩, ?_⟩
      rw [pw_split, pw_chain]
      omega
  · refine ⟨a :: l, ⟨fun x hx => ?_, List.nodup_cons.2 ⟨hmem, h.nd⟩, ⟨h0, h.ok⟩⟩, ?_⟩
    · rcases List.mem_cons.1 hx with rfl | hx
      · exact hi
      · exact h.lt x hx
    · show _ ≤ Wt ls a (m i) - Wt ls i (m i) + pw (Wt ls) m a l
      omega
theorem Pth.le {ls : List (List Int)} (hT : isT ls = true) {m : Nat → Nat} (hm : Mt ls m) : ∀ (l : List Nat) (a : Nat), Pth ls m a l → pw (Wt ls) m a l ≤ 3 * (l.length : Int) := by
  intro l
  induction l with
  | nil => intro a _; show (0 : Int) ≤ _; simp
  | cons b l ih =>
    intro a h
    have h1 := ih b ⟨fun x hx => h.lt x (List.mem_cons_of_mem _ hx), (List.nodup_cons.1 h.nd).2, h.ok.2⟩
    have ha := h.lt a (List.mem_cons_self ..)
    have hb := h.lt b (List.mem_cons_of_mem _ (List.mem_cons_self ..))
    have h2 := (Wt_get hT hb (hm.cho.lt a ha)).2.2
    have h3 := hm.pos a ha
    show Wt ls b (m a) - Wt ls a (m a) + pw (Wt ls) m b l ≤ _
    simp only [List.length_cons]
    omega
theorem Pth.bd {ls : List (List Int)} (hT : isT ls = true) {m : Nat → Nat} (hm : Mt ls m) {l : List Nat} {a : Nat} (h : Pth ls m a l) : pw (Wt ls) m a l ≤ 30 := by
  have h1 := Pth.le hT hm l a h
  have h2 := nodup_len ls.length (a :: l) h.nd h.lt
  have h3 := (isT_of hT).2.1
  simp at h2
  omega

/-! ## the passes -/
def dk (V : Nat → Nat → Int) (c : Nat → Int) (k : Nat) : Nat → Int → Int
  | 0, x => x
  | i + 1, x => if 0 ≤ V i k then max (dk V c k i x) (V i k + c i) else dk V c k i x
theorem dk_le (V : Nat → Nat → Int) (c : Nat → Int) (k : Nat) (x : Int) : ∀ i, x ≤ dk V c k i x := by
  intro i
  induction i with
  | zero => exact Int.le_refl _
  | succ i ih => unfold dk; split <;> omega
theorem dk_ge {V : Nat → Nat → Int} {c : Nat → Int} {k : Nat} {x : Int} : ∀ {n i}, i < n → 0 ≤ V i k → V i k + c i ≤ dk V c k n x := by
  intro n
  induction n with
  | zero => intro i hi; omega
  | succ n ih =>
    intro i hi h0
    unfold dk
    by_cases e : i = n
    · subst e
      rw [if_pos h0]; omega
    · have := ih (i := i) (by omega) h0
      split <;> omega
theorem dk_get {V : Nat → Nat → Int} {c : Nat → Int} {k : Nat} {x : Int} : ∀ n, dk V c k n x = x ∨ ∃ i, i < n ∧ 0 ≤ V i k ∧ dk V c k n x = V i k + c i := by
  intro n
  induction n with
  | zero => exact .inl rfl
  | succ n ih =>
    have up : (dk V c k n x = x ∨ ∃ i, i < n ∧ 0 ≤ V i k ∧ dk V c k n x = V i k + c i) → (dk V c k n x = x ∨ ∃ i, i < n + 1 ∧ 0 ≤ V i k ∧ dk V c k n x = V i k + c i) := fun h => h.imp id fun ⟨i, h1, h2, h3⟩ => ⟨i, by omega, h2, h3⟩
    unfold dk
    by_cases h0 : 0 ≤ V n k
    · rw [if_pos h0]
      by_cases h1 : dk V c k n x ≤ V n k + c n
      · exact .inr ⟨n, by omega, h0, by omega⟩
      · rw [show max (dk V c k n x) (V n k + c n) = dk V c k n x by omega]
        exact up ih
    · rw [if_neg h0]
      exact up ih
theorem dk_congr {V : Nat → Nat → Int} {c c' : Nat → Int} {k : Nat} {x : Int} : ∀ {n}, (∀ i, i < n → c i = c' i) → dk V c k n x = dk V c' k n x := by
  intro n
  induction n with
  | zero => intro _; rfl
  | succ n ih => intro h; unfold dk; rw [ih fun i hi => h i (by omega), h n (by omega)]

abbrev CD := (Nat → Int) × (Nat → Int)
def stp (V : Nat → Nat → Int) (m : Nat → Nat) (n : Nat) (s : CD) : CD :=
  (fun i => dk V s.1 (m i) n (s.2 (m i)) - V i (m i), fun k => dk V s.1 k n (s.2 k))
def orb (V : Nat → Nat → Int) (m : Nat → Nat) (n : Nat) : Nat → CD
  | 0 => (fun _ => 0, fun _ => 0)
  | t + 1 => stp V m n (orb V m n t)
def Eqn (n : Nat) (s s' : CD) : Prop := (∀ i, i < n → s.1 i = s'.1 i) ∧ ∀ k, k < n → s.2 k = s'.2 k
theorem Eqn.refl (n : Nat) (s : CD) : Eqn n s s := ⟨fun _ _ => rfl, fun _ _ => rfl⟩
theorem Eqn.symm {n : Nat} {s s' : CD} (h : Eqn n s s') : Eqn n s' s := ⟨fun i hi => (h.1 i hi).symm, fun i hi => (h.2 i hi).symm⟩
theorem Eqn.trans {n : Nat} {s s' s'' : CD} (h : Eqn n s s') (k : Eqn n s' s'') : Eqn n s s'' := ⟨fun i hi => (h.1 i hi).trans (k.1 i hi), fun i hi => (h.2 i hi).trans (k.2 i hi)⟩
theorem Eqn.stp {V : Nat → Nat → Int} {m : Nat → Nat} {n : Nat} {s s' : CD} (hm : ∀ i, i < n → m i < n) (h : Eqn n s s') : Eqn n (stp V m n s) (stp V m n s') := by
  have hd : ∀ k, k < n → dk V s.1 k n (s.2 k) = dk V s'.1 k n (s'.2 k) := fun k hk => by rw [h.2 k hk]; exact dk_congr h.1
  exact ⟨fun i hi => by show dk V s.1 (m i) n (s.2 (m i)) - _ = dk V s'.1 (m i) n (s'.2 (m i)) - _; rw [hd _ (hm i hi)], hd⟩
/-- a pass changes nothing -/
def Fixd (V : Nat → Nat → Int) (m : Nat → Nat) (n t : Nat) : Prop := Eqn n (orb V m n (t + 1)) (orb V m n t)
theorem Fixd.later {V : Nat → Nat → Int} {m : Nat → Nat} {n t : Nat} (hm : ∀ i, i < n → m i < n) (h : Fixd V m n t) : ∀ u, Eqn n (orb V m n (t + u)) (orb V m n t) := by
  intro u
  induction u with
  | zero => exact Eqn.refl _ _
  | succ u ih => exact (Eqn.stp hm ih).trans h
theorem Fixd.uniq {V : Nat → Nat → Int} {m : Nat → Nat} {n t t' : Nat} (hm : ∀ i, i < n → m i < n) (h : Fixd V m n t) (h' : Fixd V m n t') : Eqn n (orb V m n t) (orb V m n t') := by
  rcases Nat.le_total t t' with e | e
  · have := h.later hm (t' - t)
    rw [show t + (t' - t) = t' by omega] at this
    exact this.symm
  · have := h'.later hm (t - t')
    rw [show t' + (t - t') = t by omega] at this
    exact this

structure OInv (ls : List (List Int)) (m : Nat → Nat) (s : CD) : Prop where
  c0 : ∀ i, i < ls.length → 0 ≤ s.1 i
  pth : ∀ i, i < ls.length → ∃ l, Pth ls m i l ∧ s.1 i ≤ pw (Wt ls) m i l
  d0 : ∀ k, k < ls.length → 0 ≤ s.2 k
  dd : ∀ k, k < ls.length → s.2 k = 0 ∨ ∃ i, i < ls.length ∧ 0 ≤ Wt ls i k ∧ s.2 k ≤ Wt ls i k + s.1 i
theorem OInv.up {ls : List (List Int)} {m : Nat → Nat} (hm : Mt ls m) (s : CD) : ∀ i, i < ls.length → s.1 i ≤ (stp (Wt ls) m ls.length s).1 i := by
  intro i hi
  have := dk_ge (V := Wt ls) (c := s.1) (k := m i) (x := s.2 (m i)) hi (hm.pos i hi)
  show _ ≤ dk (Wt ls) s.1 (m i) ls.length (s.2 (m i)) - Wt ls i (m i)
  omega
theorem OInv.stp {ls : List (List Int)} (hT : isT ls = true) {m : Nat → Nat} (hm : Mt ls m) {s : CD} (h : OInv ls m s) : OInv ls m (stp (Wt ls) m ls.length s) := by
  have hup := OInv.up hm s
  have hd : ∀ k, k < ls.length → dk (Wt ls) s.1 k ls.length (s.2 k) = 0 ∨ ∃ i, i < ls.length ∧ 0 ≤ Wt ls i k ∧ dk (Wt ls) s.1 k ls.length (s.2 k) ≤ Wt ls i k + s.1 i := by
    intro k hk
    rcases dk_get (V := Wt ls) (c := s.1) (k := k) (x := s.2 k) ls.length with e | ⟨i, h1, h2, h3⟩
    · rw [e]; exact h.dd k hk
    · exact .inr ⟨i, h1, h2, by omega⟩
  refine ⟨fun i hi => Int.le_trans (h.c0 i hi) (hup i hi), fun i hi => ?_, fun k hk => Int.le_trans (h.d0 k hk) (dk_le _ _ _ _ _), fun k hk => ?_⟩
  · rcases hd (m i) (hm.cho.lt i hi) with e | ⟨j, h1, h2, h3⟩
    · refine ⟨[], ⟨fun x hx => by simp at hx; omega, by simp, trivial⟩, ?_⟩
      show dk (Wt ls) s.1 (m i) ls.length (s.2 (m i)) - Wt ls i (m i) ≤ 0
      have := hm.pos i hi
      omega
    · obtain ⟨l, p1, p2⟩ := h.pth j h1
      obtain ⟨l', p3, p4⟩ := p1.ext hT hm hi h2
      refine ⟨l', p3, ?_⟩
      show dk (Wt ls) s.1 (m i) ls.length (s.2 (m i)) - Wt ls i (m i) ≤ _
      omega
  · rcases hd k hk with e | ⟨j, h1, h2, h3⟩
    · exact .inl e
    · exact .inr ⟨j, h1, h2, Int.le_trans h3 (by have := hup j h1; omega)⟩
theorem OInv.orb {ls : List (List Int)} (hT : isT ls = true) {m : Nat → Nat} (hm : Mt ls m) : ∀ t, OInv ls m (orb (Wt ls) m ls.length t) := by
  intro t
  induction t with
  | zero => exact ⟨fun _ _ => Int.le_refl _, fun i hi => ⟨[], ⟨fun x hx => by simp at hx; omega, by simp, trivial⟩, Int.le_refl _⟩, fun _ _ => Int.le_refl _, fun _ _ => .inl rfl⟩
  | succ t ih => exact ih.stp hT hm
theorem OInv.bd {ls : List (List Int)} (hT : isT ls = true) {m : Nat → Nat} (hm : Mt ls m) {s : CD} (h : OInv ls m s) : (∀ i, i < ls.length → 0 ≤ s.1 i ∧ s.1 i ≤ 30) ∧ ∀ k, k < ls.length → 0 ≤ s.2 k ∧ s.2 k ≤ 33 := by
  have h1 : ∀ i, i < ls.length → 0 ≤ s.1 i ∧ s.1 i ≤ 30 := fun i hi => by
    obtain ⟨l, p1, p2⟩ := h.pth i hi
    exact ⟨h.c0 i hi, Int.le_trans p2 (p1.bd hT hm)⟩
  refine ⟨h1, fun k hk => ⟨h.d0 k hk, ?_⟩⟩
  rcases h.dd k hk with e | ⟨i, i1, i2, i3⟩
  · omega
  · have := (Wt_get hT i1 hk).2.2
    have := (h1 i i1).2
    omega

/-- the offsets, the error -/
def OffR (ls : List (List Int)) (zs ys : List Int) (er : Int) : Prop :=
  (isT ls = false ∧ zs = [] ∧ ys = [] ∧ er = 1) ∨ (isT ls = true ∧ heavy ls ls.length 0 < 0 ∧ zs = [] ∧ ys = [] ∧ er = 4) ∨
  (isT ls = true ∧ 0 ≤ heavy ls ls.length 0 ∧ er = 0 ∧ ∃ t, Fixd (Wt ls) (mW ls) ls.length t ∧ zs = (List.range ls.length).map (orb (Wt ls) (mW ls) ls.length t).1 ∧ ys = (List.range ls.length).map (orb (Wt ls) (mW ls) ls.length t).2)
theorem OffR.uniq {ls : List (List Int)} {zs ys zs' ys' : List Int} {er er' : Int} (h : OffR ls zs ys er) (h' : OffR ls zs' ys' er') : zs = zs' ∧ ys = ys' ∧ er = er' := by
  rcases h with ⟨a1, rfl, rfl, rfl⟩ | ⟨a1, a2, rfl, rfl, rfl⟩ | ⟨a1, a2, rfl, t, a3, rfl, rfl⟩ <;> rcases h' with ⟨b1, rfl, rfl, rfl⟩ | ⟨b1, b2, rfl, rfl, rfl⟩ | ⟨b1, b2, rfl, t', b3, rfl, rfl⟩ <;> (first | exact ⟨rfl, rfl, rfl⟩ | (exact absurd (a1.symm.trans b1) (by decide)) | (exfalso; omega) | skip)
  have h := a3.uniq (mW_mt a1 a2).cho.lt b3
  exact ⟨List.map_congr_left fun i hi => h.1 i (List.mem_range.1 hi), List.map_congr_left fun i hi => h.2 i (List.mem_range.1 hi), rfl⟩

end Go.Proofs.Ytjbhnfejpgjghaa
