/- The reference's turned: the walk. -/
import Derived.Test.YtjbhnfejpgjghaaSk
namespace Go.Proofs.Ytjbhnfejpgjghaa
open Go.RowKit
set_option linter.unusedSimpArgs false
set_option linter.unusedVariables false

theorem infoS_parts : ∃ i0, Try.prog.info? 23 = some i0 ∧ i0.zero = some (.slice none 0 0) ∧ i0.size = 1 ∧ i0.bytes = 24 := by
  have h := infoS
  match hi : Try.prog.info? 23 with
  | none => rw [hi] at h; cases h
  | some i0 =>
    rw [hi] at h
    simp at h
    exact ⟨i0, rfl, h.1, h.2.1, h.2.2⟩

/-- the new incidence's box and its rows lie there -/
def CutT (w1 : World) (R C : Nat) (v3 : Value) (wc : World) : Prop :=
  ∃ gO gE : Nat, v3 = .pointer (some ⟨gO, 0, none⟩) ∧ w1.heap.size ≤ gO ∧ w1.heap.size ≤ gE ∧ gO ≠ gE ∧ Blk wc gO 33 #[.int .i64 (C : Int), .int .i64 (R : Int), .slice (some ⟨gE, 0, none⟩) C C] ∧ Blk wc gE 23 ((List.range C).map fun _ => Value.slice none 0 0).toArray ∧ Below w1.heap.size w1 wc

/-! ## plain: what is turned so far -/
def TS (E : List (List Nat)) (i : Nat) (T : Nat → List Nat) : Prop := (∀ k x, x ∈ T k ↔ x < i ∧ k ∈ E.getD x []) ∧ ∀ k, (T k).Nodup
def TSj (E : List (List Nat)) (i : Nat) (l : List Nat) (j : Nat) (T : Nat → List Nat) : Prop := (∀ k x, x ∈ T k ↔ (x < i ∧ k ∈ E.getD x []) ∨ (x = i ∧ k ∈ l.take j)) ∧ ∀ k, (T k).Nodup
theorem TS.nil (E : List (List Nat)) : TS E 0 (fun _ => []) := ⟨fun k x => ⟨fun h => (by cases h), fun h => (by omega)⟩, fun _ => List.nodup_nil⟩
theorem TS.start {E : List (List Nat)} {i : Nat} {T : Nat → List Nat} (h : TS E i T) (l : List Nat) : TSj E i l 0 T := ⟨fun k x => by rw [h.1]; simp, h.2⟩
theorem TSj.done {E : List (List Nat)} {i j : Nat} {l : List Nat} {T : Nat → List Nat} (h : TSj E i l j T) (hl : E.getD i [] = l) (hj : l.length ≤ j) : TS E (i + 1) T := by
  refine ⟨fun k x => ?_, h.2⟩
  rw [h.1, List.take_of_length_le hj, ← hl]
  constructor
  · rintro (⟨a, b⟩ | ⟨a, b⟩)
    · exact ⟨by omega, b⟩
    · exact ⟨by omega, by rw [a]; exact b⟩
  · rintro ⟨a, b⟩
    by_cases e : x = i
    · right; rw [e] at b; exact ⟨e, b⟩
    · left; exact ⟨by omega, b⟩
theorem TSj.next {E : List (List Nat)} {i j k : Nat} {l : List Nat} {T : Nat → List Nat} (h : TSj E i l j T) (hk : l[j]? = some k) (hn : l.Nodup) : TSj E i l (j + 1) (upd T k (T k ++ [i])) := by
  have hkn : k ∉ l.take j := by
    intro hm
    obtain ⟨p, hp⟩ := List.getElem?_of_mem hm
    have hpl := (List.getElem?_eq_some_iff.1 hp).1
    rw [List.length_take] at hpl
    rw [List.getElem?_take_of_lt (by omega)] at hp
    have hp2 := List.getElem?_eq_some_iff.1 hp
    have hk2 := List.getElem?_eq_some_iff.1 hk
    have := (List.getElem_inj (h₀ := hp2.1) (h₁ := hk2.1) hn).1 (by rw [hp2.2, hk2.2])
    omega
  have hin : i ∉ T k := by
    rw [h.1]
    rintro (⟨a, -⟩ | ⟨-, b⟩)
    · omega
    · exact hkn b
  refine ⟨fun k' x => ?_, fun k' => ?_⟩
  · rw [List.take_add_one, hk]
    by_cases e : k' = k
    · subst e
      rw [upd_same, List.mem_append, h.1]
      rw [show (some k').toList = [k'] from rfl, List.mem_append, List.mem_singleton, List.mem_singleton]
      constructor
      · rintro ((a | ⟨a, b⟩) | a)
        · exact .inl a
        · exact .inr ⟨a, .inl b⟩
        · exact .inr ⟨a, .inr rfl⟩
      · rintro (a | ⟨a, b⟩)
        · exact .inl (.inl a)
        · exact .inr a
    · rw [upd_other _ _ _ _ e, h.1]
      simp only [Option.toList_some, List.mem_append, List.mem_singleton]
      constructor
      · rintro (a | ⟨a, b⟩)
        · exact .inl a
        · exact .inr ⟨a, .inl b⟩
      · rintro (a | ⟨a, b | b⟩)
        · exact .inl a
        · exact .inr ⟨a, b⟩
        · exact absurd b e
  · by_cases e : k' = k
    · subst e
      rw [upd_same]
      exact nodup_snoc (h.2 _) hin
    · rw [upd_other _ _ _ _ e]
      exact h.2 _
theorem TSj.len {E : List (List Nat)} {i j k : Nat} {l : List Nat} {T : Nat → List Nat} (h : TSj E i l j T) : (T k).length ≤ i + 1 := by
  have := nodup_sub (T k) (List.range (i + 1)) (h.2 k) (fun x hx => by
    rw [h.1] at hx
    rw [List.mem_range]
    omega)
  simpa using this
theorem TS.len {E : List (List Nat)} {i k : Nat} {T : Nat → List Nat} (h : TS E i T) : (T k).length ≤ i := by
  have := nodup_sub (T k) (List.range i) (h.2 k) (fun x hx => by
    rw [h.1] at hx
    exact List.mem_range.2 hx.1)
  simpa using this

/-- the world of it -/
structure TZ (w : World) (m : Array Value) (gO gE C R B9 : Nat) (vs : Nat → Value) (T : Nat → List Nat) (wr : World) : Prop where
  own : Own w [(33, m), (33, #[.int .i64 0, .int .i64 0, .slice none 0 0])] wr
  bO : Blk wr gO 33 #[.int .i64 (C : Int), .int .i64 (R : Int), .slice (some ⟨gE, 0, none⟩) C C]
  bE : Blk wr gE 23 ((List.range C).map vs).toArray
  rows : ∀ k, k < C → RowI wr B9 (vs k) (ti (T k))
  sep : ∀ j k g, j < C → k < C → j ≠ k → (vs j).ownBlock = some g → (vs k).ownBlock ≠ some g
  b9 : gO < B9 ∧ gE < B9 ∧ w.heap.size + 2 ≤ gO ∧ w.heap.size + 2 ≤ gE ∧ gO ≠ gE ∧ B9 ≤ wr.heap.size
section
variable {w : World} {m : Array Value} {gO gE C R B9 : Nat} {vs : Nat → Value} {T : Nat → List Nat} {wr w9 : World}
theorem TZ.call (h : TZ w m gO gE C R B9 vs T wr) (hb : Below wr.heap.size wr w9) : TZ w m gO gE C R B9 vs T w9 :=
  ⟨h.own.call hb, h.bO.call hb, h.bE.call hb, fun k hk => (h.rows k hk).call hb, h.sep, ⟨h.b9.1, h.b9.2.1, h.b9.2.2.1, h.b9.2.2.2.1, h.b9.2.2.2.2.1, Nat.le_trans h.b9.2.2.2.2.2 hb.size⟩⟩
theorem TZ.push (h : TZ w m gO gE C R B9 vs T wr) {k i : Nat} (hk : k < C) {v' : Value} (hr : RowI w9 B9 v' (ti (T k) ++ [(i : Int)])) (hg : wr.grownBy w9 (vs k).ownBlock) (hat : v'.ownBlock = (vs k).ownBlock ∨ v'.ownBlock = some wr.heap.size) :
    TZ w m gO gE C R B9 (upd vs k v') (upd T k (T k ++ [i])) (w9.setCell ⟨gE, k, none⟩ v') := by
  obtain ⟨b1, b2, b3, b4, b5, b6⟩ := h.b9
  have hf1 : Fr (obs (vs k)) wr w9 := Fr.grown hg
  have hat1 : ∀ x ∈ obs (vs k), B9 ≤ x := fun x hx => ((h.rows k hk).at (mem_obs.1 hx)).1
  have hf2 : Fr [gE] w9 (w9.setCell ⟨gE, k, none⟩ v') := (Fr.refl _ _).set (by simp) _
  have hlt : ∀ j g, j < C → (vs j).ownBlock = some g → g < wr.heap.size := fun j g hj e => ((h.rows j hj).at e).2
  refine ⟨(h.own.fr hf1 (fun x hx => by have := hat1 x hx; simp only [List.length_cons, List.length_nil]; omega)).fr hf2 (by simp; omega), ?_, ?_, fun j hj => ?_, fun j l g hj hl hne e => ?_, ⟨b1, b2, b3, b4, b5, Nat.le_trans b6 (Nat.le_trans hf1.size hf2.size)⟩⟩
  · exact (hf1.blk h.bO (fun hm => by have := hat1 _ hm; omega)).far (by show gO ≠ gE; exact b5) _
  · have h1 := (hf1.blk h.bE (fun hm => by have := hat1 _ hm; omega)).set k v'
    rw [map_set] at h1
    exact h1
  · by_cases e : j = k
    · subst e
      rw [upd_same, upd_same, ti_snoc]
      exact hr.far b2 _ _
    · rw [upd_other _ _ _ _ e, upd_other _ _ _ _ e]
      refine RowI.far (row_kept (h.rows j hj) hg (fun g e1 e2 => ?_)) b2 _ _
      exact h.sep j k g hj hk e e1 e2.symm
  · by_cases ej : j = k
    · subst ej
      rw [upd_same] at e
      rw [upd_other _ _ _ _ (Ne.symm hne)]
      intro e2
      rcases hat with h1 | h1
      · rw [h1] at e
        exact h.sep j l g hj hl hne e e2
      · rw [h1] at e
        injection e with e
        have := hlt l g hl e2
        omega
    · rw [upd_other _ _ _ _ ej] at e
      by_cases el : l = k
      · subst el
        rw [upd_same]
        intro e2
        rcases hat with h1 | h1
        · rw [h1] at e2
          exact h.sep j l g hj hl hne e e2
        · rw [h1] at e2
          injection e2 with e2
          have := hlt j g hj e
          omega
      · rw [upd_other _ _ _ _ el]
        exact h.sep j l g hj hl hne e
/-- as an incidence -/
theorem TZ.n2 (hbE : Blk wr gE 23 ((List.range C).map vs).toArray) (hrows : ∀ k, k < C → RowI wr B9 (vs k) (ti (T k))) (hC : C ≤ 64) (hT : ∀ k, (T k).length ≤ 64) : N2 wr.heap.size wr (some ⟨gE, 0, none⟩) C C ((List.range C).map T) := by
  refine ⟨by simp, by omega, .inr ⟨gE, 0, rfl, hbE.lt, fun j zs hj => ?_⟩⟩
  have hjl := (List.getElem?_eq_some_iff.1 hj).1
  simp at hjl
  have hzs : zs = T j := by simp [hjl] at hj; exact hj.symm
  subst hzs
  obtain ⟨A, n, c, hv, hil⟩ := (hrows j hjl).il (by have := hT j; have := ti_len (T j); omega)
  refine ⟨A, n, c, ?_, ?_⟩
  · have h1 := hbE.cell j
    rw [Nat.zero_add, h1]
    simp [hjl, hv]
  · have hn := hil.1
    rw [ti_len] at hn
    refine ⟨hn, by have := hT j; omega, ?_⟩
    by_cases h0 : n = 0
    · exact .inl h0
    · obtain ⟨g, o, x, hA, hg, -, -⟩ := hil.cell (j := 0) (by omega)
      refine .inr ⟨g, o, hA, hg, fun p q hp => ?_⟩
      have hpl := (List.getElem?_eq_some_iff.1 hp).1
      obtain ⟨g2, o2, x2, hA2, -, hx2, hc2⟩ := hil.cell (j := p) (by omega)
      rw [hA] at hA2
      injection hA2 with hA2
      injection hA2 with e1 e2 _
      subst e1 e2
      rw [ti_get hp] at hx2
      injection hx2 with hx2
      rw [hc2, hx2]
end

/-- what turned answers -/
def PTu (R C : Nat) (E : List (List Nat)) (w : World) (e : Ending) (w' : World) : Prop :=
  ∃ (gE : Nat) (T : Nat → List Nat), e = .returned (.agg #[.int .i64 (C : Int), .int .i64 (R : Int), .slice (some ⟨gE, 0, none⟩) C C]) ∧ TS E R T ∧ N2 w'.heap.size w' (some ⟨gE, 0, none⟩) C C ((List.range C).map T) ∧ Below w.heap.size w w'

set_option maxRecDepth 100000 in
set_option maxHeartbeats 4000000 in
theorem ref_turned (R C : Nat) (E : List (List Nat)) (hI : Inc R C E) (hnd : ∀ l ∈ E, l.Nodup) (B : Nat) (AE : Option Addr) (cE : Nat) (w : World) (hB : B ≤ w.heap.size) (hN : N2 B w AE R cE E) :
    Calls Try.prog 47 #[.agg #[.int .i64 (R : Int), .int .i64 (C : Int), .slice AE R cE]] w (PTu R C E w) := by
  have hR := hI.1
  have hC := hI.2.1
  have hI' := Lib.hid hI
  have hnd' := Lib.hid hnd
  have hu2 := Try.underlying33
  obtain ⟨i0, hi0, hz0, hz1, hz2⟩ := info_parts infoI
  obtain ⟨j0, hj0, yz0, yz1, yz2⟩ := infoS_parts
  obtain ⟨w1, hw1⟩ : ∃ w1, w1 = (w.alloc (.cells #[.int .i64 (R : Int), .int .i64 (C : Int), .slice AE R cE] 33)).alloc (.cells #[.int .i64 0, .int .i64 0, .slice none 0 0] 33) := ⟨_, rfl⟩
  have hO1 : Hid (Own w [(33, #[.int .i64 (R : Int), .int .i64 (C : Int), .slice AE R cE]), (33, #[.int .i64 0, .int .i64 0, .slice none 0 0])] w1) := by rw [hw1]; exact Own.two _ _ _ _ _
  obtain ⟨m0, m1, m2⟩ := cells3 hO1.out.b0
  have hw1s : Hid (w1.heap.size = w.heap.size + 2) := by show _ = _; rw [hw1]; simp
  clear hI hnd
  go_enter Try.func47, Try.ntmps47
  go_upto_region 1 with fail
  rw [← hw1]
  clear hw1
  go_cut [3] from 8 to 15 (fun v3 wc => CutT w1 R C v3 wc)
  case first =>
    have hSS : (fun w' : World => w'.cell? ⟨w.heap.size, 0, none⟩ = some (.int .i64 (R : Int)) ∧ w'.cell? ⟨w.heap.size, 1, none⟩ = some (.int .i64 (C : Int))) w1.drew := ⟨m0, m1⟩
    have hSW : ∀ wx, Below w1.heap.size w1 wx → (fun w' : World => w'.cell? ⟨w.heap.size, 0, none⟩ = some (.int .i64 (R : Int)) ∧ w'.cell? ⟨w.heap.size, 1, none⟩ = some (.int .i64 (C : Int))) wx := fun wx hb => by
      obtain ⟨q0, q1, -⟩ := cells3 (hO1.out.call hb).b0
      exact ⟨q0, q1⟩
    refine wp_region_K (S := (fun w' : World => w'.cell? ⟨w.heap.size, 0, none⟩ = some (.int .i64 (R : Int)) ∧ w'.cell? ⟨w.heap.size, 1, none⟩ = some (.int .i64 (C : Int)))) (K := [9]) (by kernel_rfl) ?_
    refine AnyK.takeFree (i := 0) (v := .pointer (some ⟨w.heap.size, 1, none⟩)) rfl (by kernel_rfl) (by kernel_rfl) (by kernel_rfl) (by kernel_rfl) (fun _ _ _ h => h) (Or.inl ⟨by rfl, ?_⟩) hSS ?_
    · rintro w' -
      go_simp
    (try simp only [Act.put, List.setIfInBounds_toArray, List.set_cons_zero, List.set_cons_succ])
    refine AnyK.take (i := 1) (v := .int .i64 (C : Int)) rfl (by kernel_rfl) (by kernel_rfl) (by kernel_rfl) (by kernel_rfl) (by kernel_rfl) (by kernel_rfl) (fun _ _ _ h => h) (Or.inl ⟨by rfl, ?_⟩) hSS ?_
    · rintro w' ⟨a0, a1⟩
      go_simp
    (try simp only [Act.put, List.setIfInBounds_toArray, List.set_cons_zero, List.set_cons_succ])
    refine AnyK.takeFree (i := 2) (v := .pointer (some ⟨w.heap.size, 0, none⟩)) rfl (by kernel_rfl) (by kernel_rfl) (by kernel_rfl) (by kernel_rfl) (fun _ _ _ h => h) (Or.inl ⟨by rfl, ?_⟩) hSS ?_
    · rintro w' -
      go_simp
    (try simp only [Act.put, List.setIfInBounds_toArray, List.set_cons_zero, List.set_cons_succ])
    refine AnyK.take (i := 3) (v := .int .i64 (R : Int)) rfl (by kernel_rfl) (by kernel_rfl) (by kernel_rfl) (by kernel_rfl) (by kernel_rfl) (by kernel_rfl) (fun _ _ _ h => h) (Or.inl ⟨by rfl, ?_⟩) hSS ?_
    · rintro w' ⟨a0, a1⟩
      go_simp
    (try simp only [Act.put, List.setIfInBounds_toArray, List.set_cons_zero, List.set_cons_succ])
    refine AnyK.takeFree (i := 4) (v := .pointer (some ⟨w.heap.size, 1, none⟩)) rfl (by kernel_rfl) (by kernel_rfl) (by kernel_rfl) (by kernel_rfl) (fun _ _ _ h => h) (Or.inl ⟨by rfl, ?_⟩) hSS ?_
    · rintro w' -
      go_simp
    (try simp only [Act.put, List.setIfInBounds_toArray, List.set_cons_zero, List.set_cons_succ])
    refine AnyK.take (i := 5) (v := .int .i64 (C : Int)) rfl (by kernel_rfl) (by kernel_rfl) (by kernel_rfl) (by kernel_rfl) (by kernel_rfl) (by kernel_rfl) (fun _ _ _ h => h) (Or.inl ⟨by rfl, ?_⟩) hSS ?_
    · rintro w' ⟨a0, a1⟩
      go_simp
    (try simp only [Act.put, List.setIfInBounds_toArray, List.set_cons_zero, List.set_cons_succ])
    refine AnyK.two (i := 6) (j := 8) (by kernel_rfl) rfl rfl (fun K' hK => ?_) (fun K' hK => ?_)
    · refine step_make_full (by rfl) _ _ 22 (by rfl) w1.heap.size 23 j0 (.slice none 0 0) 1 Try.underlying22 hj0 yz0 yz1 C (by rfl) (by rfl) (by rw [yz2]; omega) (by unfold maxLen; omega) (Nat.le_refl _) ?_
      intro wa hown_wa hg_wa
      go_simp
      have hbwa : Below w1.heap.size w1 wa := (Below.refl _ _).drew.grown hg_wa (Nat.le_refl _) (by intro k hk; cases hk)
      have hSwa := hSW _ hbwa
      have hrwa := own_full hown_wa
      rw [made_slices] at hrwa
      refine hK.out _ _ (fun _ => hSwa) ?_
      clear hK
      (try simp only [Act.put, List.setIfInBounds_toArray, List.set_cons_zero, List.set_cons_succ])
      refine AnyK.takeFree (i := 7) (v := .agg #[.int .i64 (C : Int), .int .i64 (R : Int), .slice (some ⟨w1.heap.size, 0, none⟩) C C]) rfl (by kernel_rfl) (by kernel_rfl) (by kernel_rfl) (by kernel_rfl) (fun _ _ _ h => h) (Or.inl ⟨by rfl, ?_⟩) hSwa ?_
      · rintro w' -
        go_simp
      (try simp only [Act.put, List.setIfInBounds_toArray, List.set_cons_zero, List.set_cons_succ])
      refine AnyK.one (i := 8) (by kernel_rfl) rfl (fun K' hK => ?_)
      go_simp
      have hbwb : Below wa.heap.size wa (wa.alloc (.cells #[.int .i64 0, .int .i64 0, .slice none 0 0] 33)) := (Below.refl _ _).alloc (Nat.le_refl _) _
      have hbw2 := hbwa.trans (hbwb.mono hbwa.size)
      have hSwb := hSW _ hbw2
      have hbO := Blk.new wa 33 #[.int .i64 0, .int .i64 0, .slice none 0 0]
      refine hK.out _ _ (fun _ => hSwb) ?_
      clear hK
      (try simp only [Act.put, List.setIfInBounds_toArray, List.set_cons_zero, List.set_cons_succ])
      have hd0 := hbO.cell 0
      have hd1 := hbO.cell 1
      have hd2 := hbO.cell 2
      have he0 := hbO.frozen 0
      have he1 := hbO.frozen 1
      have he2 := hbO.frozen 2
      refine AnyK.one (i := 9) (by kernel_rfl) rfl (fun K' hK => ?_)
      go_simp
      refine hK.out _ _ (fun h => absurd h (Bool.eq_false_iff.1 (by kernel_rfl))) ?_
      clear hK
      (try simp only [Act.put, List.setIfInBounds_toArray, List.set_cons_zero, List.set_cons_succ])
      have hbE : Below wa.heap.size wa (wa.alloc (.cells #[.int .i64 (C : Int), .int .i64 (R : Int), .slice (some ⟨w1.heap.size, 0, none⟩) C C] 33)) := (Below.refl _ _).alloc (Nat.le_refl _) _
      refine AnyK.done (by kernel_rfl) ?_ _
      go_wp2_with fail
      go_meet
      exact ⟨wa.heap.size, w1.heap.size, rfl, hbwa.size, Nat.le_refl _, by have h : w1.heap.size < wa.heap.size := hrwa.lt; omega, Blk.new _ _ _, hrwa.call hbE, hbwa.trans (hbE.mono hbwa.size)⟩
    · go_simp
      obtain ⟨wa, hwa⟩ : ∃ wa, wa = (w1.alloc (.cells #[.int .i64 0, .int .i64 0, .slice none 0 0] 33)).drew := ⟨_, rfl⟩
      have hbO : Blk wa w1.heap.size 33 #[.int .i64 0, .int .i64 0, .slice none 0 0] := by rw [hwa]; exact (Blk.new w1 _ _).drew
      have hbwa : Below w1.heap.size w1 wa := by rw [hwa]; exact ((Below.refl _ _).alloc (Nat.le_refl _) _).drew
      rw [← hwa]
      clear hwa
      have hSwa := hSW _ hbwa
      refine hK.out _ _ (fun _ => hSwa) ?_
      clear hK
      (try simp only [Act.put, List.setIfInBounds_toArray, List.set_cons_zero, List.set_cons_succ])
      refine AnyK.one (i := 6) (by kernel_rfl) rfl (fun K' hK => ?_)
      refine step_make_full (by rfl) _ _ 22 (by rfl) wa.heap.size 23 j0 (.slice none 0 0) 1 Try.underlying22 hj0 yz0 yz1 C (by rfl) (by rfl) (by rw [yz2]; omega) (by unfold maxLen; omega) (Nat.le_refl _) ?_
      intro wb hown_wb hg_wb
      go_simp
      have hbwb : Below wa.heap.size wa wb := (Below.refl _ _).grown hg_wb (Nat.le_refl _) (by intro k hk; cases hk)
      have hbw2 := hbwa.trans (hbwb.mono hbwa.size)
      have hSwb := hSW _ hbw2
      have hrwb := own_full hown_wb
      rw [made_slices] at hrwb
      have hbO2 := hbO.call hbwb
      refine hK.out _ _ (fun _ => hSwb) ?_
      clear hK
      (try simp only [Act.put, List.setIfInBounds_toArray, List.set_cons_zero, List.set_cons_succ])
      refine AnyK.one (i := 7) (by kernel_rfl) rfl (fun K' hK => ?_)
      go_simp
      refine hK.out _ _ (fun _ => hSwb) ?_
      clear hK
      (try simp only [Act.put, List.setIfInBounds_toArray, List.set_cons_zero, List.set_cons_succ])
      have hd0 := hbO2.cell 0
      have hd1 := hbO2.cell 1
      have hd2 := hbO2.cell 2
      have he0 := hbO2.frozen 0
      have he1 := hbO2.frozen 1
      have he2 := hbO2.frozen 2
      have hf1 : ∀ u, ((wb.setCell ⟨w1.heap.size, 0, none⟩ u)).cell? ⟨w1.heap.size, 1, none⟩ = some (.int .i64 0) := fun u => (hbO2.set 0 u).cell 1
      have hf2 : ∀ u v, ((wb.setCell ⟨w1.heap.size, 0, none⟩ u).setCell ⟨w1.heap.size, 1, none⟩ v).cell? ⟨w1.heap.size, 2, none⟩ = some (.slice none 0 0) := fun u v => ((hbO2.set 0 u).set 1 v).cell 2
      have hf3 : ∀ u, ((wb.setCell ⟨w1.heap.size, 0, none⟩ u)).frozen? ⟨w1.heap.size, 1, none⟩ = false := fun u => (hbO2.set 0 u).frozen 1
      have hf4 : ∀ u v, ((wb.setCell ⟨w1.heap.size, 0, none⟩ u).setCell ⟨w1.heap.size, 1, none⟩ v).frozen? ⟨w1.heap.size, 2, none⟩ = false := fun u v => ((hbO2.set 0 u).set 1 v).frozen 2
      refine AnyK.one (i := 9) (by kernel_rfl) rfl (fun K' hK => ?_)
      go_simp
      refine hK.out _ _ (fun h => absurd h (Bool.eq_false_iff.1 (by kernel_rfl))) ?_
      clear hK
      (try simp only [Act.put, List.setIfInBounds_toArray, List.set_cons_zero, List.set_cons_succ])
      have hgO : w1.heap.size < wa.heap.size := hbO.lt
      refine AnyK.done (by kernel_rfl) ?_ _
      go_wp2_with fail
      go_meet
      exact ⟨w1.heap.size, wa.heap.size, rfl, Nat.le_refl _, hbwa.size, by omega, ((hbO2.set 0 _).set 1 _).set 2 _, ((hrwb.far (by show wa.heap.size ≠ w1.heap.size; omega) _).far (by show wa.heap.size ≠ w1.heap.size; omega) _).far (by show wa.heap.size ≠ w1.heap.size; omega) _, ((hbw2.setCell (by show _ ≤ w1.heap.size; omega) _).setCell (by show _ ≤ w1.heap.size; omega) _).setCell (by show _ ≤ w1.heap.size; omega) _⟩
  case rest =>
    obtain ⟨gO, gE, rfl, hgO, hgE, hne, hbO, hbE, hb5⟩ := hcut
    obtain ⟨B9, hB9⟩ : ∃ B9, B9 = wc.heap.size := ⟨_, rfl⟩
    have hw1s' := hw1s.out
    have hT0 : Hid (TZ w #[.int .i64 (R : Int), .int .i64 (C : Int), .slice AE R cE] gO gE C R B9 (fun _ => .slice none 0 0) (fun _ => []) wc) :=
      ⟨hO1.out.call hb5, hbO, hbE, fun k hk => RowI.nil _ _, (fun j k g hj hk hne e => by cases e), by rw [hB9]; exact ⟨hbO.lt, hbE.lt, by omega, by omega, hne, Nat.le_refl _⟩⟩
    have hS0 : Hid (TS E 0 (fun _ => [])) := TS.nil E
    obtain ⟨m0, m1, m2⟩ := cells3 hT0.out.own.b0
    clear hw1s hw1s' hB9 hbO hbE hb5 hO1 hgO hgE
    go_wp2_with fail
    clear m0 m1 m2
    go_loopw [19] (fun v19 wr => ∃ (i : Nat) (vs : Nat → Value) (T : Nat → List Nat), i ≤ R ∧ v19 = .int .i64 (i : Int) ∧ Hid (TZ w #[.int .i64 (R : Int), .int .i64 (C : Int), .slice AE R cE] gO gE C R B9 vs T wr) ∧ Hid (TS E i T)) (fun i _ => R - (intOf i).toNat)
    case atStart => exact ⟨0, _, _, by omega, rfl, hT0, hS0⟩
    case round =>
      clear hT0 hS0
      obtain ⟨i, vs, T, hi, rfl, hT, hS⟩ := hrel
      by_cases hiR : i < R
      · have hNi : N2 B wr AE R cE E := hN.below (hT.out.own.1.mono hB)
        obtain ⟨gL, oL, l, A', n', c', hAE, hl, hcE, hl1⟩ := hNi.cell (j := i) hiR
        subst hAE
        have hEi : E.getD i [] = l := by rw [List.getD_eq_getElem?_getD, hl]; rfl
        have hll : ∀ k ∈ l, k < C := hI'.out.2.2.2 l (List.mem_of_getElem? hl)
        have hln : Hid l.Nodup := hnd'.out l (List.mem_of_getElem? hl)
        have hbw : Hid (∀ wx : World, Own w [(33, #[.int .i64 (R : Int), .int .i64 (C : Int), .slice (some ⟨gL, oL, none⟩) R cE]), (33, #[.int .i64 0, .int .i64 0, .slice none 0 0])] wx → N1 B wx A' n' c' l) := by
          have h0 := hT.out.own
          exact fun wx h => hl1.same fun k hk => (h.1.block k (by omega)).trans (h0.1.block k (by omega)).symm
        have hlen := hl1.1
        have hlen2 := hl1.2.1
        have hlen' := Lib.hid hlen
        have hEi' := Lib.hid hEi
        have hiRi : (i : Int) < (R : Int) := by omega
        have hSj : Hid (TSj E i l 0 T) := hS.out.start l
        clear hNi hl hl1 hEi hlen hS
        go_wp2_with fail
        clear hcE
        go_loopw [26] (fun v26 wr => ∃ (j : Nat) (vs : Nat → Value) (T : Nat → List Nat), j ≤ n' ∧ v26 = .int .i64 (j : Int) ∧ Hid (TZ w #[.int .i64 (R : Int), .int .i64 (C : Int), .slice (some ⟨gL, oL, none⟩) R cE] gO gE C R B9 vs T wr) ∧ Hid (TSj E i l j T)) (fun j _ => n' - (intOf j).toNat)
        case atStart => exact ⟨0, vs, T, by omega, rfl, hT, hSj⟩
        case round =>
          clear hT hSj
          obtain ⟨j, vs, T, hj, rfl, hT, hS⟩ := hrel
          by_cases hjl : j < n'
          · obtain ⟨gl, ol, k, hA', hk, hck⟩ := (hbw.out _ hT.out.own).cell hjl
            subst hA'
            have hkC : k < C := hll k (List.mem_of_getElem? hk)
            have hkCi : (k : Int) < C := by omega
            have hS2 : Hid (TSj E i l (j + 1) (upd T k (T k ++ [i]))) := hS.out.next hk hln.out
            have hTl : (T k).length ≤ i + 1 := hS.out.len
            go_upto_region 8 with fail
            obtain ⟨Ak, ck, hvk⟩ := (hT.out.rows k hkC).form
            rw [ti_len] at hvk
            have hvk' := Lib.hid hvk
            have cO2 : wr.cell? ⟨gO, 2, none⟩ = some (.slice (some ⟨gE, 0, none⟩) C C) := hT.out.bO.cell 2
            have cEk : wr.cell? ⟨gE, k, none⟩ = some (.slice Ak (T k).length ck) := by have h := hT.out.bE.cell k; rw [h]; simp [hkC, hvk]
            clear hvk hck
            have hSS : (fun w' : World => w'.cell? ⟨gO, 2, none⟩ = some (.slice (some ⟨gE, 0, none⟩) C C) ∧ w'.cell? ⟨gE, k, none⟩ = some (.slice Ak (T k).length ck)) wr.drew := ⟨cO2, cEk⟩
            refine wp_region_K (S := (fun w' : World => w'.cell? ⟨gO, 2, none⟩ = some (.slice (some ⟨gE, 0, none⟩) C C) ∧ w'.cell? ⟨gE, k, none⟩ = some (.slice Ak (T k).length ck))) (K := [12]) (by kernel_rfl) ?_
            refine AnyK.takeFree (i := 0) (v := .pointer (some ⟨gO, 2, none⟩)) rfl (by kernel_rfl) (by kernel_rfl) (by kernel_rfl) (by kernel_rfl) (fun _ _ _ h => h) (Or.inl ⟨by rfl, ?_⟩) hSS ?_
            · rintro w' -
              go_simp
            (try simp only [Act.put, List.setIfInBounds_toArray, List.set_cons_zero, List.set_cons_succ])
            refine AnyK.take (i := 1) (v := .slice (some ⟨gE, 0, none⟩) C C) rfl (by kernel_rfl) (by kernel_rfl) (by kernel_rfl) (by kernel_rfl) (by kernel_rfl) (by kernel_rfl) (fun _ _ _ h => h) (Or.inl ⟨by rfl, ?_⟩) hSS ?_
            · rintro w' ⟨a0, a1⟩
              go_simp
            (try simp only [Act.put, List.setIfInBounds_toArray, List.set_cons_zero, List.set_cons_succ])
            refine AnyK.takeFree (i := 2) (v := .int .i64 (k : Int)) rfl (by kernel_rfl) (by kernel_rfl) (by kernel_rfl) (by kernel_rfl) (fun _ _ _ h => h) (Or.inl ⟨by rfl, ?_⟩) hSS ?_
            · rintro w' -
              go_simp
            (try simp only [Act.put, List.setIfInBounds_toArray, List.set_cons_zero, List.set_cons_succ])
            refine AnyK.takeFree (i := 3) (v := .pointer (some ⟨gO, 2, none⟩)) rfl (by kernel_rfl) (by kernel_rfl) (by kernel_rfl) (by kernel_rfl) (fun _ _ _ h => h) (Or.inl ⟨by rfl, ?_⟩) hSS ?_
            · rintro w' -
              go_simp
            (try simp only [Act.put, List.setIfInBounds_toArray, List.set_cons_zero, List.set_cons_succ])
            refine AnyK.take (i := 4) (v := .slice (some ⟨gE, 0, none⟩) C C) rfl (by kernel_rfl) (by kernel_rfl) (by kernel_rfl) (by kernel_rfl) (by kernel_rfl) (by kernel_rfl) (fun _ _ _ h => h) (Or.inl ⟨by rfl, ?_⟩) hSS ?_
            · rintro w' ⟨a0, a1⟩
              go_simp
            (try simp only [Act.put, List.setIfInBounds_toArray, List.set_cons_zero, List.set_cons_succ])
            refine AnyK.takeFree (i := 5) (v := .int .i64 (k : Int)) rfl (by kernel_rfl) (by kernel_rfl) (by kernel_rfl) (by kernel_rfl) (fun _ _ _ h => h) (Or.inl ⟨by rfl, ?_⟩) hSS ?_
            · rintro w' -
              go_simp
            (try simp only [Act.put, List.setIfInBounds_toArray, List.set_cons_zero, List.set_cons_succ])
            refine AnyK.takeFree (i := 6) (v := .pointer (some ⟨gE, k, none⟩)) rfl (by kernel_rfl) (by kernel_rfl) (by kernel_rfl) (by kernel_rfl) (fun _ _ _ h => h) (Or.inl ⟨by rfl, ?_⟩) hSS ?_
            · rintro w' -
              go_simp
            (try simp only [Act.put, List.setIfInBounds_toArray, List.set_cons_zero, List.set_cons_succ])
            refine AnyK.take (i := 7) (v := .slice Ak (T k).length ck) rfl (by kernel_rfl) (by kernel_rfl) (by kernel_rfl) (by kernel_rfl) (by kernel_rfl) (by kernel_rfl) (fun _ _ _ h => h) (Or.inl ⟨by rfl, ?_⟩) hSS ?_
            · rintro w' ⟨a0, a1⟩
              go_simp
            (try simp only [Act.put, List.setIfInBounds_toArray, List.set_cons_zero, List.set_cons_succ])
            refine AnyK.takeFree (i := 8) (v := .int .i64 (i : Int)) rfl (by kernel_rfl) (by kernel_rfl) (by kernel_rfl) (by kernel_rfl) (fun _ _ _ h => h) (Or.inl ⟨by rfl, ?_⟩) hSS ?_
            · rintro w' -
              go_simp
            (try simp only [Act.put, List.setIfInBounds_toArray, List.set_cons_zero, List.set_cons_succ])
            refine AnyK.one (i := 9) (by kernel_rfl) rfl (fun K' hK => ?_)
            go_simp
            have hb12 : Below wr.heap.size wr (wr.alloc (.cells #[.int .i64 (i : Int)] 3)).drew := ((Below.refl _ _).alloc (Nat.le_refl _) _).drew
            have hT12 := Lib.hid (hT.out.call hb12)
            have cO12 : (wr.alloc (.cells #[.int .i64 (i : Int)] 3)).drew.cell? ⟨gO, 2, none⟩ = some (.slice (some ⟨gE, 0, none⟩) C C) := hT12.out.bO.cell 2
            have cE12 : (wr.alloc (.cells #[.int .i64 (i : Int)] 3)).drew.cell? ⟨gE, k, none⟩ = some (.slice Ak (T k).length ck) := by have h := hT12.out.bE.cell k; rw [h]; simp [hkC, hvk'.out]
            refine hK.out _ _ (fun _ => ⟨cO12, cE12⟩) ?_
            clear hK hSS cO2 cEk
            (try simp only [Act.put, List.setIfInBounds_toArray, List.set_cons_zero, List.set_cons_succ])
            refine AnyK.one (i := 10) (by kernel_rfl) rfl (fun K' hK => ?_)
            have hR12 : RowI (wr.alloc (.cells #[.int .i64 (i : Int)] 3)).drew B9 (.slice Ak (T k).length ck) (ti (T k)) := by rw [← hvk'.out]; exact hT12.out.rows k hkC
            have htl := ti_len (T k)
            refine step_append_way (by rfl) _ _ (by rfl) hi0 hz0 hz1 hz2 (by rfl) hR12 (by omega) hT12.out.b9.2.2.2.2.2 ⟨wr.heap.size, 0, none⟩ 1 (i : Int) (by rfl) (cell_one_new _ _ _ 0 _ rfl) ?_
            intro g cap w13 hr13 hg13 hat hr13w
            go_simp
            rw [← hvk'.out] at hg13 hat
            have hat2 : (Value.slice (some ⟨g, 0, none⟩) ((ti (T k)).length + 1) cap).ownBlock = (vs k).ownBlock ∨ (Value.slice (some ⟨g, 0, none⟩) ((ti (T k)).length + 1) cap).ownBlock = some ((wr.alloc (.cells #[.int .i64 (i : Int)] 3)).drew).heap.size := by
              rcases hat with h | h
              · left; rw [h]; rfl
              · right; rw [h]; rfl
            have hfE : Fr (obs (vs k)) (wr.alloc (.cells #[.int .i64 (i : Int)] 3)).drew w13 := Fr.grown hg13
            have hatB : ∀ x ∈ obs (vs k), B9 ≤ x := fun x hx => ((hT12.out.rows k hkC).at (mem_obs.1 hx)).1
            have hb9 := hT12.out.b9
            have bO13 := hfE.blk hT12.out.bO (fun hm => by have := hatB _ hm; omega)
            have bE13 := hfE.blk hT12.out.bE (fun hm => by have := hatB _ hm; omega)
            have cO13 : w13.cell? ⟨gO, 2, none⟩ = some (.slice (some ⟨gE, 0, none⟩) C C) := bO13.cell 2
            have cE13 : w13.cell? ⟨gE, k, none⟩ = some (.slice Ak (T k).length ck) := by have h := bE13.cell k; rw [h]; simp [hkC, hvk'.out]
            have fE13 := bE13.frozen k
            have hT14 := Lib.hid (hT12.out.push hkC hr13 hg13 hat2)
            rw [htl] at hT14
            refine hK.out _ _ (fun _ => ⟨cO13, cE13⟩) ?_
            clear hK
            (try simp only [Act.put, List.setIfInBounds_toArray, List.set_cons_zero, List.set_cons_succ])
            refine AnyK.one (i := 11) (by kernel_rfl) rfl (fun K' hK => ?_)
            go_simp
            refine hK.out _ _ (fun _ => ⟨cO13, cE13⟩) ?_
            clear hK
            (try simp only [Act.put, List.setIfInBounds_toArray, List.set_cons_zero, List.set_cons_succ])
            refine AnyK.one (i := 12) (by kernel_rfl) rfl (fun K' hK => ?_)
            go_simp
            refine hK.out _ _ (fun h => absurd h (Bool.eq_false_iff.1 (by kernel_rfl))) ?_
            clear hK
            (try simp only [Act.put, List.setIfInBounds_toArray, List.set_cons_zero, List.set_cons_succ])
            refine AnyK.done (by kernel_rfl) ?_ _
            clear hr13 hg13 hat hr13w hat2 hfE hatB bO13 bE13 cO13 cE13 fE13 hT12 hT cO12 cE12 hR12
            go_wp2_with fail
            exact ⟨⟨j + 1, _, _, by omega, by go_num, hT14, hS2⟩, by simp [intOf]; omega⟩
          · have hS2 : Hid (TS E (i + 1) T) := hS.out.done hEi'.out (by have := hlen'.out; omega)
            have hjn : j = n' := by omega
            go_wp2_with fail
            exact ⟨⟨i + 1, vs, T, by omega, by go_num, hT, hS2⟩, by simp [intOf]; omega⟩
      · have hin : i = R := by omega
        subst hin
        have hS2 := hS.out
        obtain ⟨r0, r1, r2⟩ := cells3 hT.out.own.b1
        obtain ⟨c0, c1, c2⟩ := cells3 hT.out.bO
        obtain ⟨b1, b2, b3, b4, b5, b6⟩ := hT.out.b9
        have hRb := hT.out.own.b1
        have hfr0 := hRb.frozen 0
        have hfr1 := hRb.frozen 1
        have hfr2 := hRb.frozen 2
        have k1 : ∀ u, (wr.setCell ⟨w.heap.size + 1, 0, none⟩ u).cell? ⟨w.heap.size + 1, 1, none⟩ = some (.int .i64 0) := fun u => (hRb.set 0 u).cell 1
        have k2 : ∀ u v, ((wr.setCell ⟨w.heap.size + 1, 0, none⟩ u).setCell ⟨w.heap.size + 1, 1, none⟩ v).cell? ⟨w.heap.size + 1, 2, none⟩ = some (.slice none 0 0) := fun u v => ((hRb.set 0 u).set 1 v).cell 2
        have k3 : ∀ u, (wr.setCell ⟨w.heap.size + 1, 0, none⟩ u).frozen? ⟨w.heap.size + 1, 1, none⟩ = false := fun u => (hRb.set 0 u).frozen 1
        have k4 : ∀ u v, ((wr.setCell ⟨w.heap.size + 1, 0, none⟩ u).setCell ⟨w.heap.size + 1, 1, none⟩ v).frozen? ⟨w.heap.size + 1, 2, none⟩ = false := fun u v => ((hRb.set 0 u).set 1 v).frozen 2
        have hTl : ∀ k, (T k).length ≤ 64 := fun k => by have h := hS.out.len (k := k); omega
        have hfr : Fr [w.heap.size + 1] wr (((wr.setCell ⟨w.heap.size + 1, 0, none⟩ (.int .i64 (C : Int))).setCell ⟨w.heap.size + 1, 1, none⟩ (.int .i64 (i : Int))).setCell ⟨w.heap.size + 1, 2, none⟩ (.slice (some ⟨gE, 0, none⟩) C C)) := (((Fr.refl _ _).set (by simp) _).set (by simp) _).set (by simp) _
        have hfin : Hid (PTu i C E w (.returned (.agg #[.int .i64 (C : Int), .int .i64 (i : Int), .slice (some ⟨gE, 0, none⟩) C C])) (((wr.setCell ⟨w.heap.size + 1, 0, none⟩ (.int .i64 (C : Int))).setCell ⟨w.heap.size + 1, 1, none⟩ (.int .i64 (i : Int))).setCell ⟨w.heap.size + 1, 2, none⟩ (.slice (some ⟨gE, 0, none⟩) C C))) := by
          refine ⟨gE, T, rfl, hS.out, TZ.n2 (vs := vs) (B9 := B9) ?_ ?_ hC hTl, ?_⟩
          · exact hfr.blk hT.out.bE (by simp; omega)
          · exact fun k hk => (hT.out.rows k hk).fr hfr (by simp; omega)
          · exact hT.out.own.1.trans (hfr.below hT.out.own.1.size (by simp))
        have hF := ((hRb.set 0 (.int .i64 (C : Int))).set 1 (.int .i64 (i : Int))).set 2 (.slice (some ⟨gE, 0, none⟩) C C)
        obtain ⟨q0, q1, q2⟩ := cells3 hF
        go_wp2_with fail
        exact bodyPost_ret (v := .agg #[.int .i64 (C : Int), .int .i64 (i : Int), .slice (some ⟨gE, 0, none⟩) C C]) (by simp [results, Try.results47, go_sem, q0, q1, q2]) rfl hfin.out

end Go.Proofs.Ytjbhnfejpgjghaa
