/- Maximum; the law's example. -/
import Derived.Test.YtjbhnfejpgjghaaMl
namespace Go.Proofs.Ytjbhnfejpgjghaa
open Go.RowKit
set_option linter.unusedSimpArgs false
set_option linter.unusedVariables false

def nE (ls : List (List Int)) : List (List Nat) := ls.map fun l => l.map Int.toNat

theorem inc_of {rows cols : Int} {ls : List (List Int)} (h : vErr rows cols ls = 0) : rows = (rows.toNat : Int) ∧ cols = (cols.toNat : Int) ∧ Inc rows.toNat cols.toNat (nE ls) ∧ ∀ l ∈ ls, ∀ x ∈ l, 0 ≤ x := by
  have hv : valid rows cols ls = true := by
    unfold vErr at h
    split at h
    · assumption
    · omega
  unfold valid at hv
  simp only [Bool.and_eq_true, Bool.not_eq_true', Bool.or_eq_false_iff, decide_eq_false_iff_not, bne_eq_false_iff_eq] at hv
  obtain ⟨⟨⟨⟨⟨h1, h2⟩, h3⟩, h4⟩, h5⟩, h6⟩ := hv
  have h7 : ∀ l ∈ ls, ∀ x ∈ l, 0 ≤ x ∧ x < cols := by
    intro l hl x hx
    have h8 := List.all_eq_true.1 h6 l hl
    unfold goodL at h8
    obtain ⟨j, hj, rfl⟩ := List.getElem_of_mem hx
    have h9 := List.all_eq_true.1 h8 j (List.mem_range.2 hj)
    unfold goodE at h9
    simp only [Bool.not_eq_true', Bool.or_eq_false_iff, decide_eq_false_iff_not] at h9
    have e : l.getD j 0 = l[j] := by rw [List.getD_eq_getElem?_getD, List.getElem?_eq_getElem hj]; rfl
    rw [e] at h9
    omega
  refine ⟨by omega, by omega, ⟨by omega, by omega, by unfold nE; rw [List.length_map]; omega, ?_⟩, fun l hl x hx => (h7 l hl x hx).1⟩
  intro l hl k hk
  unfold nE at hl
  obtain ⟨l', hl', rfl⟩ := List.mem_map.1 hl
  obtain ⟨x, hx, rfl⟩ := List.mem_map.1 hk
  have := h7 l' hl' x hx
  omega

theorem n2_of {w : World} {A : Option Addr} {n c : Nat} {ls : List (List Int)} (h : L2 w A n c ls) (h0 : ∀ l ∈ ls, ∀ x ∈ l, 0 ≤ x) : N2 w.heap.size w A n c (nE ls) := by
  obtain ⟨h1, h2, h4⟩ := h
  refine ⟨by unfold nE; rw [List.length_map]; exact h1, h2, ?_⟩
  rcases h4 with h4 | ⟨g, o, rfl, hg, hc⟩
  · exact .inl h4
  · refine .inr ⟨g, o, rfl, hg, fun j zs hj => ?_⟩
    unfold nE at hj
    rw [List.getElem?_map] at hj
    obtain ⟨l, hl, rfl⟩ := Option.map_eq_some_iff.1 hj
    obtain ⟨A', n', c', h5, k1, k2, k3, k4⟩ := hc j l hl
    refine ⟨A', n', c', h5, by rw [List.length_map]; exact k1, k2, ?_⟩
    rcases k4 with k4 | ⟨g', o', rfl, hg', hc'⟩
    · exact .inl k4
    · refine .inr ⟨g', o', rfl, hg', fun i z hi => ?_⟩
      rw [List.getElem?_map] at hi
      obtain ⟨x, hx, rfl⟩ := Option.map_eq_some_iff.1 hi
      have hx0 := h0 l (List.mem_of_getElem? hl) x (List.mem_of_getElem? hx)
      rw [hc' i x hx, Int.toNat_of_nonneg hx0]

/-- the least maximum matching -/
def maxS (rows cols : Int) (ls : List (List Int)) : List Int × Int := if vErr rows cols ls = 0 then ((List.range rows.toNat).map (lst (nE ls) rows.toNat cols.toNat rows.toNat).out, 0) else ([], 1)

def PMax (rows cols : Int) (ls : List (List Int)) (w : World) (e : Ending) (w' : World) : Prop :=
  ∃ (A : Option Addr) (n c : Nat) (zs : List Int) (er : Int), e = .returned (.tuple #[.slice A n c, .int .i64 er]) ∧ IL w' A n c zs ∧ Hid (maxS rows cols ls = (zs, er)) ∧ Below w.heap.size w w'

theorem vErr_two (rows cols : Int) (ls : List (List Int)) : vErr rows cols ls = 0 ∨ vErr rows cols ls = 1 := by
  unfold vErr
  split
  · exact .inl rfl
  · exact .inr rfl

set_option maxRecDepth 100000 in
theorem m_maximum (rows cols : Int) (A : Option Addr) (n c : Nat) (ls : List (List Int)) (w : World) (hL : L2 w A n c ls) (hr : In64 rows) (hc : In64 cols) :
    Calls Try.prog 20 #[.agg #[.int .i64 rows, .int .i64 cols, .slice A n c]] w (PMax rows cols ls w) := by
  have hO := Own.one w 33 #[.int .i64 rows, .int .i64 cols, .slice A n c]
  have hV := m_validate rows cols A n c ls _ (hL.below hO.1 (Nat.le_refl _)) hr hc
  have hO' := Lib.hid hO
  rcases vErr_two rows cols ls with h0 | h1
  · rw [h0] at hV
    have hV' := Lib.hid hV
    obtain ⟨e1, e2, hI, hnn⟩ := inc_of h0
    have hN := n2_of hL hnn
    have hS : Hid (maxS rows cols ls = ((List.range rows.toNat).map (lst (nE ls) rows.toNat cols.toNat rows.toNat).out, 0)) := if_pos h0
    unfold PMax
    obtain ⟨S, hS2⟩ : ∃ S, S = maxS rows cols ls := ⟨_, rfl⟩
    rw [← hS2] at hS ⊢
    obtain ⟨R, hR⟩ : ∃ R, R = rows.toNat := ⟨_, rfl⟩
    obtain ⟨C, hC⟩ : ∃ C, C = cols.toNat := ⟨_, rfl⟩
    rw [← hR, ← hC] at hS hI
    rw [← hR] at e1
    rw [← hC] at e2
    have hI' := Lib.hid hI
    have hR64 := hI.1
    clear hV hI hS2 hR hC h0
    subst e1 e2
    go_enter Try.func20, Try.ntmps20
    go_wp2_with (first
      | (go_at_call 27; (with_reducible refine hV'.out.mono ?_); rintro e w2 ⟨rfl, hb2⟩; have hO2 := Lib.hid (hO'.out.call hb2); obtain ⟨m0, m1, m2⟩ := cells3 hO2.out.b0)
      | (go_at_call 50; refine (m_least hI'.out w.heap.size A n c _ hO2.out.1.size (hN.below hO2.out.1)).mono ?_; rintro e w3 ⟨g, hg, rfl, hrf, hb3⟩))
    go_ret2
    exact ⟨_, _, _, _, _, rfl, hrf.il (by omega), hS, (hO2.out.call hb3).1⟩
  · rw [h1] at hV
    have hV' := Lib.hid hV
    have hS : Hid (maxS rows cols ls = ([], 1)) := if_neg (by rw [h1]; omega)
    clear hV h1
    unfold PMax
    obtain ⟨S, hS2⟩ : ∃ S, S = maxS rows cols ls := ⟨_, rfl⟩
    rw [← hS2] at hS ⊢
    clear hS2
    go_enter Try.func20, Try.ntmps20
    go_wp2_with (first
      | (go_at_call 27; (with_reducible refine hV'.out.mono ?_); rintro e w2 ⟨rfl, hb2⟩; have hO2 := Lib.hid (hO'.out.call hb2)))
    go_ret2
    exact ⟨_, _, _, _, _, rfl, IL.nil _, hS, hO2.out.1⟩

theorem max_known : maxS 3 2 [[0, 1], [0], [0]] = ([1, 0, -1], 0) := by kernel_rfl

end Go.Proofs.Ytjbhnfejpgjghaa
