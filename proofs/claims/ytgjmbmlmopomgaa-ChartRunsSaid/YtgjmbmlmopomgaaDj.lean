/- Sorting and compacting a row of texts of the call's own. -/
import Derived.Sort.OwnSorted
import Derived.Test.YtgjmbmlmopomgaaDi
namespace Go.Proofs.Ytgjmbmlmopomgaa
open Go.RowKit Go.Maps Lib
set_option linter.unusedSimpArgs false
set_option linter.unusedVariables false

def bk (s : List UInt8) : ByteArray := ⟨s.toArray⟩
theorem bk_toList (x : ByteArray) : bk x.toList = x := by
  unfold bk
  rw [ByteArray.toList_eq]
theorem toList_bk (s : List UInt8) : (bk s).toList = s := by
  unfold bk
  rw [ByteArray.toList_eq]
theorem vS_enc (l : List ByteArray) : vS l = (l.map ByteArray.toList).map encStr := by
  unfold vS
  rw [List.map_map]
  apply List.map_congr_left
  intro x _
  show Value.string x = .string (bk x.toList)
  rw [bk_toList]
theorem enc_vS (l : List (List UInt8)) : l.map encStr = vS (l.map bk) := by
  unfold vS
  rw [List.map_map]
  rfl
def srtS (l : List ByteArray) : List (List UInt8) := (l.map ByteArray.toList).mergeSort fun x y => decide (x ≤ y)
def outS (l : List ByteArray) : List ByteArray := (Lib.compact (srtS l)).map bk
theorem srtS_len (l : List ByteArray) : (srtS l).length = l.length := by
  unfold srtS
  rw [List.length_mergeSort, List.length_map]
theorem OR.form {w : World} {B sz n : Nat} {e : TypeId} {v : Value} {xs : List Value} (h : w.ownsRow B e sz v n xs) : ∃ A c, v = .slice A n c := by
  rcases h.2 with ⟨rfl, rfl⟩ | ⟨g, cap, cur, rfl, -⟩
  · exact ⟨none, 0, rfl⟩
  · exact ⟨_, _, rfl⟩

theorem sort_rowS {w : World} {B n c : Nat} {A : Option Addr} {l : List ByteArray} (h : w.ownsRow B 9 1 (.slice A n c) n (vS l)) (hl : l.length = n) (hn : n ≤ 1000000) :
    Calls Try.prog 53 #[.slice A n c] w fun e w' => e = .returned (.tuple #[]) ∧ w'.ownsRow B 9 1 (.slice A n c) n ((srtS l).map encStr) ∧ w.grownBy w' (Value.slice A n c).ownBlock := by
  have h0 := h
  rcases h.2 with ⟨e1, h2⟩ | ⟨g, cap, cur, e1, h3, h4, h5, h6, h7, h8⟩
  · cases e1
    have : l = [] := List.eq_nil_of_length_eq_zero hl
    subst this
    refine (Try.slices_Sort_string_none none 0 w).mono ?_
    rintro e w' ⟨rfl, rfl⟩
    exact ⟨rfl, by rw [show srtS [] = [] from by unfold srtS; simp]; exact World.ownsRow_nil _ _ _ _, gbr _ _⟩
  · cases e1
    rw [Nat.mul_one, vS_enc] at h8
    have hsl : (l.map ByteArray.toList).length = n := by rw [List.length_map]; exact hl
    have hc := Try.slices_Sort_string g 0 c (l.map ByteArray.toList) w (holds_of_block h4 (by rw [hsl]; exact h8)) (Array.getElem?_eq_some_iff.1 h4).1 (by omega)
    rw [hsl] at hc
    refine hc.mono ?_
    rintro e w' ⟨rfl, k, os, rfl⟩
    refine ⟨rfl, ?_, grownBy_sorted _⟩
    have := ownsRow_sorted (n := k) (os := os) (ss := l.map ByteArray.toList) (ts := srtS l) (by rw [srtS_len, List.length_map]) h3 h4 (by omega) h6 h7
    rw [hsl] at this
    exact this
theorem comp_rowS {w : World} {B n c : Nat} {A : Option Addr} {ss : List (List UInt8)} (h : w.ownsRow B 9 1 (.slice A n c) n (ss.map encStr)) (hl : ss.length = n) (hn : n ≤ 1000000) :
    Calls Try.prog 54 #[.slice A n c] w fun e w' => e = .returned (.slice A (Lib.compact ss).length c) ∧ w'.ownsRow B 9 1 (.slice A (Lib.compact ss).length c) (Lib.compact ss).length ((Lib.compact ss).map encStr) ∧ w.grownBy w' (Value.slice A n c).ownBlock := by
  have h0 := h
  rcases h.2 with ⟨e1, h2⟩ | ⟨g, cap, cur, e1, h3, h4, h5, h6, h7, h8⟩
  · cases e1
    have : ss = [] := List.eq_nil_of_length_eq_zero hl
    subst this
    refine (Try.slices_Compact_string_empty none 0 w).mono ?_
    rintro e w' ⟨rfl, rfl⟩
    exact ⟨rfl, World.ownsRow_nil _ _ _ _, gbr _ _⟩
  · cases e1
    rw [Nat.mul_one] at h8
    have hcl : (Lib.compact ss).length ≤ ss.length := by
      unfold Lib.compact Lib.compactUpTo
      rw [List.length_map]
      exact Nat.le_trans (List.length_filter_le _ _) (by simp)
    have hc := Try.slices_Compact_string g 0 c ss w (holds_of_block h4 (by rw [hl]; exact h8)) (by omega) (by omega)
    rw [hl] at hc
    refine hc.mono ?_
    rintro e w' ⟨rfl, q, rfl⟩
    have hts : (Lib.compact ss ++ List.replicate (ss.length - (Lib.compact ss).length) []).length = ss.length := by simp; omega
    have hg : w.grownBy (Sort.grow (Sort.putRow encStr (Sort.ahead w q) g 0 (Lib.compact ss ++ List.replicate (ss.length - (Lib.compact ss).length) []).toArray) #[]) (some g) := grownBy_sorted _
    have hr := ownsRow_sorted (n := q) (os := #[]) (ss := ss) hts h3 h4 (by omega) h6 h7
    rw [Sort.grow_empty] at hg hr
    rw [hl] at hg hr
    refine ⟨rfl, ⟨by simp, ?_⟩, hg⟩
    rcases hr.2 with ⟨e2, -⟩ | ⟨g', cap', cur', e2, k3, k4, k5, k6, k7, k8⟩
    · cases e2
    · cases e2
      refine .inr ⟨g, c, cur', rfl, k3, k4, by omega, k6, k7, ?_⟩
      rw [Nat.mul_one] at k8 ⊢
      have : (cur'.toList.take n).take (Lib.compact ss).length = (Lib.compact ss).map encStr := by
        rw [k8, List.map_append, List.take_append_of_le_length (by simp), List.take_of_length_le (by simp)]
      rw [List.take_take, Nat.min_eq_left (by omega)] at this
      exact this

theorem compact_mem {α : Type} [DecidableEq α] [Inhabited α] {l : List α} {x : α} (h : x ∈ Lib.compact l) : x ∈ l := by
  unfold Lib.compact Lib.compactUpTo at h
  obtain ⟨j, hj, rfl⟩ := List.mem_map.1 h
  have h1 := List.mem_range.1 (List.mem_filter.1 hj).1
  simp [h1]
theorem outS_mem {l : List ByteArray} {x : ByteArray} (h : x ∈ outS l) : x ∈ l := by
  unfold outS at h
  obtain ⟨s, hs, rfl⟩ := List.mem_map.1 h
  have h2 := compact_mem hs
  unfold srtS at h2
  rw [List.mem_mergeSort] at h2
  obtain ⟨y, hy, rfl⟩ := List.mem_map.1 h2
  rw [bk_toList]
  exact hy
theorem OR.mono {w : World} {B B' sz n : Nat} {e : TypeId} {v : Value} {xs : List Value} (h : w.ownsRow B e sz v n xs) (hb : B' ≤ B) : w.ownsRow B' e sz v n xs := by
  obtain ⟨h1, h2⟩ := h
  refine ⟨h1, ?_⟩
  rcases h2 with h2 | ⟨g, cap, cur, rfl, h3, h4, h5⟩
  · exact .inl h2
  · exact .inr ⟨g, cap, cur, rfl, Nat.le_trans hb h3, h4, h5⟩

end Go.Proofs.Ytgjmbmlmopomgaa
