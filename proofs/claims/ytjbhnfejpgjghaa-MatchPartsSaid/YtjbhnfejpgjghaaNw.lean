/- The reference's Weight: the kept numbers' rows. -/
import Derived.Test.YtjbhnfejpgjghaaNv
import Derived.Test.YtjbhnfejpgjghaaNp
import Derived.Test.YtjbhnfejpgjghaaMf
namespace Go.Proofs.Ytjbhnfejpgjghaa
open Go.RowKit Go.Maps
set_option linter.unusedSimpArgs false
set_option linter.unusedVariables false

theorem infoS : (Try.prog.info? 23).map (fun i => (i.zero, i.size, i.bytes)) = some (some (.slice none 0 0), 1, 24) := by kernel_rfl

theorem own_full {w : World} {B g n : Nat} {t : TypeId} {xs : List Value} (h : w.ownsRow B t 1 (.slice (some ⟨g, 0, none⟩) n n) n xs) : Blk w g t xs.toArray := by
  obtain ⟨h1, h2⟩ := h
  rcases h2 with ⟨h2, -⟩ | ⟨g', cap, cur, h2, h3, h4, h5, h6, h7, h8⟩
  · cases h2
  · obtain ⟨e1, e2⟩ : g = g' ∧ n = cap := by simpa using h2
    subst e1 e2
    have : cur.toList = xs := by
      rw [← h8, List.take_of_length_le]
      simp; omega
    rw [← this]
    exact h4

theorem made_slices (N : Nat) : (madeCells (Value.slice none 0 0).cells (N * 1)).toList = (List.range N).map fun _ => Value.slice none 0 0 := by
  rw [Nat.mul_one]
  show (madeCells #[Value.slice none 0 0] N).toList = _
  rw [toList_madeCells_one]
  symm
  rw [List.eq_replicate_iff]
  simp

theorem map_set {n : Nat} (f : Nat → Value) (i : Nat) (u : Value) : (((List.range n).map f).toArray).setIfInBounds i u = ((List.range n).map (upd f i u)).toArray := by
  simp only [List.setIfInBounds_toArray]
  congr 1
  apply List.ext_getElem?
  intro j
  rw [List.getElem?_set]
  by_cases hj : j < n
  · by_cases e : i = j
    · subst e; simp [hj, upd_same]
    · simp [hj, e, upd_other _ _ _ _ (Ne.symm e)]
  · by_cases e : i = j
    · subst e; simp [hj]
    · simp [hj, e]

theorem made_rf {w : World} {B g n : Nat} (h : w.ownsRow B 3 1 (.slice (some ⟨g, 0, none⟩) n n) n (vz (List.replicate n 0))) : RF w g n (fun _ => 0) := by
  have h0 := own_full h
  obtain ⟨h1, h2⟩ := h
  have e : (List.range n).map (fun _ => (0 : Int)) = List.replicate n 0 := by rw [List.eq_replicate_iff]; simp
  show RI _ _ _ _
  unfold RI
  rw [e]
  refine ⟨h1, .inr ?_⟩
  rcases h2 with ⟨h2, -⟩ | ⟨g', cap, cur, h2, h3, h4⟩
  · cases h2
  · obtain ⟨e1, e2⟩ : g = g' ∧ n = cap := by simpa using h2
    subst e1 e2
    exact ⟨g, n, cur, rfl, Nat.le_refl _, h4⟩

/-- i rows are done -/
structure KH (w0 : World) (gK n p i : Nat) (gr : Nat → Nat) (wr : World) : Prop where
  lo : Below w0.heap.size w0 wr
  gk : w0.heap.size ≤ gK
  bk : Blk wr gK 23 ((List.range n).map fun j => if j < i then Value.slice (some ⟨gr j, 0, none⟩) p p else .slice none 0 0).toArray
  row : ∀ j, j < i → gK < gr j ∧ RF wr (gr j) p (fun _ => -2)
  up : ∀ j k, j < k → k < i → gr j < gr k
/-- .. and k cells of the next one -/
structure KI (w0 : World) (gK n p i : Nat) (gr : Nat → Nat) (k : Nat) (wr : World) : Prop where
  lo : Below w0.heap.size w0 wr
  gk : w0.heap.size ≤ gK
  bk : Blk wr gK 23 ((List.range n).map fun j => if j < i + 1 then Value.slice (some ⟨gr j, 0, none⟩) p p else .slice none 0 0).toArray
  row : ∀ j, j < i → gK < gr j ∧ RF wr (gr j) p (fun _ => -2)
  up : ∀ j k, j < k → k < i + 1 → gr j < gr k
  gi : gK < gr i
  last : RF wr (gr i) p (fun z => if z < k then -2 else 0)

theorem KI.done {w0 wr : World} {gK n p i : Nat} {gr : Nat → Nat} (h : KI w0 gK n p i gr p wr) : KH w0 gK n p (i + 1) gr wr := by
  refine ⟨h.lo, h.gk, h.bk, fun j hj => ?_, h.up⟩
  by_cases e : j = i
  · subst e
    exact ⟨h.gi, RF.congr h.last fun z hz => if_pos hz⟩
  · exact h.row j (by omega)
theorem KI.set {w0 wr : World} {gK n p i k : Nat} {gr : Nat → Nat} (h : KI w0 gK n p i gr k wr) : KI w0 gK n p i gr (k + 1) (wr.setCell ⟨gr i, k, none⟩ (.int .i64 (-2))) := by
  have hgi := h.gi
  have hgk := h.gk
  refine ⟨h.lo.setCell (by show _ ≤ gr i; omega) _, h.gk, h.bk.far (by show gK ≠ gr i; omega) _, fun j hj => ⟨(h.row j hj).1, (h.row j hj).2.other (by have := h.up j i hj (by omega); omega) _ _⟩, h.up, h.gi, ?_⟩
  refine RF.congr (h.last.set k (-2)) (fun j hj => ?_)
  unfold upd
  by_cases e : j = k
  · rw [if_pos e, if_pos (by omega)]
  · rw [if_neg e]
    show (if j < k then (-2 : Int) else 0) = _
    by_cases e2 : j < k
    · rw [if_pos e2, if_pos (by omega)]
    · rw [if_neg e2, if_neg (by omega)]
theorem KH.next {w0 wr w2 : World} {gK n p i : Nat} {gr : Nat → Nat} (h : KH w0 gK n p i gr wr) (hi : i < n) (hg : wr.grownBy w2 none) (hr : RF w2 wr.heap.size p (fun _ => 0)) :
    KI w0 gK n p i (upd gr i wr.heap.size) 0 (w2.setCell ⟨gK, i, none⟩ (.slice (some ⟨wr.heap.size, 0, none⟩) p p)) := by
  have hb : Below wr.heap.size wr w2 := (Below.refl _ _).grown hg (Nat.le_refl _) (by intro k hk; cases hk)
  have hgl := h.bk.lt
  have hrl : ∀ j, j < i → gr j < wr.heap.size := fun j hj => (h.row j hj).2.lt
  refine ⟨(h.lo.trans (hb.mono h.lo.size)).setCell h.gk _, h.gk, ?_, fun j hj => ?_, fun j k hjk hk => ?_, ?_, ?_⟩
  · have h1 := (h.bk.call hb).set i (.slice (some ⟨wr.heap.size, 0, none⟩) p p)
    rw [map_set] at h1
    have e : (List.range n).map (upd (fun j => if j < i then Value.slice (some ⟨gr j, 0, none⟩) p p else .slice none 0 0) i (.slice (some ⟨wr.heap.size, 0, none⟩) p p)) = (List.range n).map fun j => if j < i + 1 then Value.slice (some ⟨upd gr i wr.heap.size j, 0, none⟩) p p else .slice none 0 0 := by
      apply List.map_congr_left
      intro j hj
      by_cases e : j = i
      · subst e; rw [upd_same, if_pos (by omega), upd_same]
      · rw [upd_other _ _ _ _ e]
        by_cases e2 : j < i
        · rw [if_pos e2, if_pos (by omega), upd_other _ _ _ _ e]
        · rw [if_neg e2, if_neg (by omega)]
    rw [e] at h1
    exact h1
  · rw [upd_other _ _ _ _ (by omega)]
    exact ⟨(h.row j hj).1, ((h.row j hj).2.call hb).other (by have := (h.row j hj).1; omega) _ _⟩
  · by_cases e : k = i
    · subst e
      rw [upd_same, upd_other _ _ _ _ (by omega)]
      exact hrl j hjk
    · rw [upd_other _ _ _ _ e, upd_other _ _ _ _ (by omega)]
      exact h.up j k hjk (by omega)
  · rw [upd_same]; exact hgl
  · rw [upd_same]
    exact RF.congr (hr.other (by omega) _ _) fun z hz => by simp

theorem KH.at {w0 wr w3 : World} {gK n p i : Nat} {gr : Nat → Nat} (h : KH w0 gK n p i gr wr) (hg : wr.grownBy w3 none) (hi : i < n) : w3.cell? ⟨gK, i, none⟩ = some (.slice none 0 0) ∧ w3.frozen? ⟨gK, i, none⟩ = false := by
  have hb : Below wr.heap.size wr w3 := (Below.refl _ _).grown hg (Nat.le_refl _) (by intro k hk; cases hk)
  have h1 := h.bk.call hb
  refine ⟨?_, h1.frozen i⟩
  rw [h1.cell i]
  simp [hi]
theorem KI.cell {w0 wr : World} {gK n p i k : Nat} {gr : Nat → Nat} (h : KI w0 gK n p i gr k wr) (hi : i < n) : wr.cell? ⟨gK, i, none⟩ = some (.slice (some ⟨gr i, 0, none⟩) p p) := by
  rw [h.bk.cell i]
  simp [hi]
theorem KH.start {w0 w2 : World} {n p : Nat} {gr : Nat → Nat} (hg : w0.grownBy w2 none) (hr : w2.ownsRow w0.heap.size 23 1 (.slice (some ⟨w0.heap.size, 0, none⟩) n n) n ((List.range n).map fun _ => Value.slice none 0 0)) : KH w0 w0.heap.size n p 0 gr w2 :=
  ⟨(Below.refl _ _).grown hg (Nat.le_refl _) (by intro k hk; cases hk), Nat.le_refl _, own_full hr, fun j hj => by omega, fun j k _ hk => by omega⟩
theorem KH.hk {w0 wr : World} {gK n : Nat} {gr : Nat → Nat} {A : Option Addr} {c : Nat} {ls : List (List Int)} (hn : ls.length = n) (hL : L2 w0 A n c ls) (hT : isT ls = true) (h : KH w0 gK n (2 ^ n) n gr wr) : (HT.mk w0 A c ls gK gr).Fine ∧ HK (HT.mk w0 A c ls gK gr) (fun _ _ => -2) wr := by
  subst hn
  have hup : ∀ i j, i < ls.length → j < ls.length → gr i = gr j → i = j := fun i j hi hj e => by
    rcases Nat.lt_trichotomy i j with h1 | h1 | h1
    · have := h.up i j h1 hj; omega
    · exact h1
    · have := h.up j i h1 hi; omega
  refine ⟨⟨hL, hT, h.gk, fun i hi => ?_, hup⟩, h.lo, ?_, fun i hi => (h.row i hi).2, fun i s _ _ => .inl rfl⟩
  · have := (h.row i hi).1; have := h.gk
    show w0.heap.size ≤ gr i ∧ gr i ≠ gK
    omega
  · have e : ((List.range ls.length).map fun j => if j < ls.length then Value.slice (some ⟨gr j, 0, none⟩) (2 ^ ls.length) (2 ^ ls.length) else .slice none 0 0) = (List.range ls.length).map fun i => Value.slice (some ⟨gr i, 0, none⟩) (2 ^ ls.length) (2 ^ ls.length) := by
      apply List.map_congr_left
      intro j hj
      rw [if_pos (List.mem_range.1 hj)]
    have := h.bk
    rw [e] at this
    exact this

end Go.Proofs.Ytjbhnfejpgjghaa
