/- The reference's cover, out of the turned incidence, is the program's: plain. -/
import Derived.Test.YtjbhnfejpgjghaaSp
import Derived.Test.YtjbhnfejpgjghaaQj
namespace Go.Proofs.Ytjbhnfejpgjghaa
set_option linter.unusedSimpArgs false
set_option linter.unusedVariables false

/-- the turned matching, as one of the incidence itself -/
def tcol (R : Nat) (col' : Nat → Int) : Nat → Int := fun r => if r < R then col' r else -1

section
variable {E : List (List Nat)} {R C : Nat} {T : Nat → List Nat}
theorem getT (k : Nat) : ((List.range C).map T).getD k [] = if k < C then T k else [] := by
  rw [List.getD_eq_getElem?_getD]
  by_cases h : k < C
  · simp [h]
  · simp [h]

theorem turn_mx (hI : Inc R C E) (hT : TS E R T) {row' col' : Nat → Int} (h : Mx ((List.range C).map T) C R row' col') : Mx E R C (tcol R col') row' := by
  have hm : ∀ k r, k < C → (r ∈ ((List.range C).map T).getD k [] ↔ r < R ∧ k ∈ E.getD r []) := fun k r hk => by rw [getT, if_pos hk, hT.1]
  have hkC : ∀ r k, k ∈ E.getD r [] → k < C := fun r k hk => by
    by_cases hr : r < E.length
    · rw [List.getD_eq_getElem?_getD, List.getElem?_eq_getElem hr] at hk
      exact hI.2.2.2 _ (List.getElem_mem hr) k hk
    · rw [List.getD_eq_getElem?_getD, List.getElem?_eq_none (by omega)] at hk
      cases hk
  have e1 : ∀ r, r < R → tcol R col' r = col' r := fun r hr => if_pos hr
  obtain ⟨X, S, h1, h2, h3⟩ := h.wit
  refine ⟨⟨fun r => ?_, h.co.rn, fun r hr h0 => ?_, fun k hk h0 => ?_⟩, fun r h0 => ?_, ⟨fun r => ¬ S r, fun k => k < C ∧ ¬ X k, fun r hr k hk => ?_, fun k hk => ?_, fun r hr h0 hs => ?_⟩⟩
  · unfold tcol
    split
    · exact h.co.cn r
    · omega
  · rw [e1 r hr] at h0 ⊢
    obtain ⟨a1, a2⟩ := h.co.ca r hr h0
    have a2 := a2 (by omega)
    have a3 := (h.co.ra _ a1 (by omega)).2.2.1
    rw [a2, Int.toNat_natCast, hm _ _ a1] at a3
    exact ⟨a1, a2, a3.2, rfl⟩
  · obtain ⟨a1, a2, a3, -⟩ := h.co.ra k hk h0
    exact ⟨a1, fun _ => by rw [e1 _ a1]; exact a2⟩
  · unfold tcol at h0
    split at h0
    · assumption
    · omega
  · refine ⟨hkC r k hk, fun hx => hr ?_⟩
    by_cases hrR : r < R
    · exact h1 k hx r ((hm k r (hkC r k hk)).2 ⟨hrR, hk⟩)
    · have : r ≥ E.length := by rw [hI.2.2.1]; omega
      rw [List.getD_eq_getElem?_getD, List.getElem?_eq_none this] at hk
      cases hk
  · obtain ⟨hkC', hx⟩ := hk
    have h0 : 0 ≤ row' k := by
      by_cases h0 : row' k < 0
      · exact absurd (h3 k hkC' h0) hx
      · omega
    refine ⟨hkC', h0, fun hs => hx ?_⟩
    have := (h2 _ hs).2.2
    rw [(h.co.ra k hkC' h0).2.1] at this
    simpa using this
  · have := (h2 r hs).2.1
    rw [e1 r hr] at h0
    omega

theorem rx_rch (hI : Inc R C E) (hT : TS E R T) {row' col' : Nat → Int} : ∀ b x, RX ((List.range C).map T) C row' col' b x ↔ Rch E R C (tcol R col') row' (!b) x := by
  have hm : ∀ k r, k < C → (r ∈ ((List.range C).map T).getD k [] ↔ r < R ∧ k ∈ E.getD r []) := fun k r hk => by rw [getT, if_pos hk, hT.1]
  have hkC : ∀ r k, k ∈ E.getD r [] → k < C := fun r k hk => by
    by_cases hr : r < E.length
    · rw [List.getD_eq_getElem?_getD, List.getElem?_eq_getElem hr] at hk
      exact hI.2.2.2 _ (List.getElem_mem hr) k hk
    · rw [List.getD_eq_getElem?_getD, List.getElem?_eq_none (by omega)] at hk
      cases hk
  have a : ∀ b x, RX ((List.range C).map T) C row' col' b x → Rch E R C (tcol R col') row' (!b) x := by
    intro b x h
    induction h with
    | free k hk h0 => exact .free k hk h0
    | down k r _ hr ih =>
      by_cases hk : k < C
      · have h1 := (hm k r hk).1 hr
        exact .down k r ih h1.1 h1.2
      · rw [getT, if_neg hk] at hr
        cases hr
    | back r _ h0 ih =>
      have hr : r < R := by
        cases ih with
        | down k r _ hr _ => exact hr
      have e : tcol R col' r = col' r := if_pos hr
      have := Rch.back r ih (by rw [e]; exact h0)
      rw [e] at this
      exact this
  have b : ∀ b x, Rch E R C (tcol R col') row' b x → RX ((List.range C).map T) C row' col' (!b) x := by
    intro b x h
    induction h with
    | free k hk h0 => exact .free k hk h0
    | down k r _ hr hk ih => exact .down k r ih ((hm k r (hkC r k hk)).2 ⟨hr, hk⟩)
    | back r hr h0 ih =>
      unfold tcol at h0 ⊢
      split at h0
      · rename_i hlt
        rw [if_pos hlt]
        exact .back r ih h0
      · omega
  intro c x
  refine ⟨a c x, fun h => ?_⟩
  have := b _ _ h
  rwa [Bool.not_not] at this

theorem rx_same (hI : Inc R C E) (hT : TS E R T) (b : Bool) (x : Nat) :
    RX ((List.range C).map T) C (fill ((List.range C).map T) (fun _ => true) (fun _ => true) R C).1 (fill ((List.range C).map T) (fun _ => true) (fun _ => true) R C).2 b x ↔
      Rch E R C (fill E (fun _ => true) (fun _ => true) C R).1 (fill E (fun _ => true) (fun _ => true) C R).2 (!b) x := by
  have hE := hI.2.2.2
  have m1 := fill_mx (R := R) hE
  have m2 := turn_mx hI hT (fill_mx (R := C) (hT.inc hI).2.2.2)
  have c1 := Mx.rows_le hE m1 m2.co
  have c2 := Mx.rows_le hE m2 m1.co
  rw [rx_rch hI hT]
  exact ⟨Rch.same hE m1 m2.co m2.rlt (by omega), Rch.same hE m2 m1.co m1.rlt (by omega)⟩

theorem asc_eq : ∀ (l1 l2 : List Int), l1.Pairwise (· < ·) → l2.Pairwise (· < ·) → (∀ x, x ∈ l1 ↔ x ∈ l2) → l1 = l2 := by
  intro l1
  induction l1 with
  | nil =>
    intro l2 _ _ h
    cases l2 with
    | nil => rfl
    | cons b l2 => have := (h b).2 (List.mem_cons_self ..); cases this
  | cons a l1 ih =>
    intro l2 h1 h2 h
    cases l2 with
    | nil => have := (h a).1 (List.mem_cons_self ..); cases this
    | cons b l2 =>
      rw [List.pairwise_cons] at h1 h2
      have hab : a = b := by
        rcases List.mem_cons.1 ((h a).1 (List.mem_cons_self ..)) with e | ha
        · exact e
        · rcases List.mem_cons.1 ((h b).2 (List.mem_cons_self ..)) with e | hb
          · exact e.symm
          · have := h1.1 b hb
            have := h2.1 a ha
            omega
      subst hab
      congr 1
      refine ih l2 h1.2 h2.2 fun x => ⟨fun hx => ?_, fun hx => ?_⟩
      · rcases List.mem_cons.1 ((h x).1 (List.mem_cons_of_mem _ hx)) with e | hx'
        · have := h1.1 x hx; omega
        · exact hx'
      · rcases List.mem_cons.1 ((h x).2 (List.mem_cons_of_mem _ hx)) with e | hx'
        · have := h2.1 x hx; omega
        · exact hx'
theorem shl_asc (s : Nat → Bool) (n : Nat) : (shl s n).Pairwise (· < ·) := by
  unfold shl
  rw [List.pairwise_map]
  refine List.Pairwise.imp (fun h => ?_) (List.Pairwise.filter _ (List.pairwise_lt_range (n := n)))
  omega
theorem srt_asc {l : List Int} (h : l.Nodup) : (srt l).Pairwise (· < ·) := by
  have h1 : (srt l).Pairwise (fun a b => decide (a ≤ b) = true) := List.pairwise_mergeSort (fun a b c h1 h2 => by simp at h1 h2 ⊢; omega) (fun a b => by simp; omega) l
  have h2 : (srt l).Nodup := (List.Perm.nodup_iff (List.mergeSort_perm l _)).2 h
  rw [List.Nodup] at h2
  refine List.Pairwise.imp ?_ (List.Pairwise.and h1 h2)
  intro a b ⟨p, q⟩
  have p : a ≤ b := by simpa using p
  have q : a ≠ b := q
  omega
theorem cov_nodup {rs : Nat → Bool} {row : Nat → Int} (hinj : ∀ r r', 0 ≤ row r → row r = row r' → r = r') : ∀ n, (cov rs row n).Nodup := by
  intro n
  induction n with
  | zero => exact List.nodup_nil
  | succ n ih =>
    unfold cov
    split
    · rw [List.append_nil]; exact ih
    · split
      · rename_i h0
        rw [List.nodup_append]
        refine ⟨ih, by simp, fun a ha b hb => ?_⟩
        have hb : b = row n := by simpa using hb
        obtain ⟨r, hr, -, h1, rfl⟩ := (mem_cov n).1 ha
        rintro e
        have := hinj r n h1 (by rw [e, hb])
        omega
      · rw [List.append_nil]; exact ih

/-- both covers are one -/
theorem cover_same (hI : Inc R C E) (hT : TS E R T) {f g : Nat → Bool}
    (hf : ∀ k, f k = true ↔ RX ((List.range C).map T) C (fill ((List.range C).map T) (fun _ => true) (fun _ => true) R C).1 (fill ((List.range C).map T) (fun _ => true) (fun _ => true) R C).2 true k)
    (hg : ∀ r, g r = true ↔ RX ((List.range C).map T) C (fill ((List.range C).map T) (fun _ => true) (fun _ => true) R C).1 (fill ((List.range C).map T) (fun _ => true) (fun _ => true) R C).2 false r) :
    coverT E R C = (shl (fun i => g i == true) R, shl (fun k => f k == false) C, 0) := by
  have hE := hI.2.2.2
  have mx := fill_mx (R := R) hE
  obtain ⟨row, hrow⟩ : ∃ row, row = (fill E (fun _ => true) (fun _ => true) C R).1 := ⟨_, rfl⟩
  obtain ⟨col, hcol⟩ : ∃ col, col = (fill E (fun _ => true) (fun _ => true) C R).2 := ⟨_, rfl⟩
  have hf' : ∀ k, f k = true ↔ Rch E R C row col false k := fun k => by rw [hf, rx_same hI hT, hrow, hcol]; rfl
  have hg' : ∀ r, g r = true ↔ Rch E R C row col true r := fun r => by rw [hg, rx_same hI hT, hrow, hcol]; rfl
  unfold coverT
  rw [← hrow, ← hcol] at mx ⊢
  have hgo := goA_spec mx hI.2.2.1
  have e1 : (goA E C row col C).rs = fun i => g i == true := by
    funext r
    rw [beq_true, Bool.eq_iff_iff, hgo, hg']
  rw [e1]
  congr 1
  congr 1
  have hinj : ∀ r r', 0 ≤ row r → row r = row r' → r = r' := fun r r' h0 e => by
    have a := (mx.co.ra r (mx.rlt r h0) h0).2.1
    have b := (mx.co.ra r' (mx.rlt r' (by omega)) (by omega)).2.1
    rw [e, b] at a
    omega
  refine asc_eq _ _ (srt_asc (cov_nodup hinj R)) (shl_asc _ _) fun x => ?_
  rw [mem_srt, mem_cov, mem_shl]
  constructor
  · rintro ⟨r, hr, hs, h0, rfl⟩
    obtain ⟨a1, a2, -⟩ := mx.co.ra r hr h0
    refine ⟨(row r).toNat, a1, ?_, by omega⟩
    show (f (row r).toNat == false) = true
    rw [beq_iff_eq, Bool.eq_false_iff]
    intro hc
    have h1 := (hf' _).1 hc
    have h2 := Rch.col_of mx h1 (by omega)
    rw [a2, Int.toNat_natCast] at h2
    rw [(hg' r).2 h2] at hs
    cases hs
  · rintro ⟨k, hk, hs, rfl⟩
    have hs : (f k == false) = true := hs
    rw [beq_iff_eq, Bool.eq_false_iff] at hs
    have hn : ¬ Rch E R C row col false k := fun h => hs ((hf' k).2 h)
    have h0 : 0 ≤ col k := by
      by_cases h0 : col k < 0
      · exact absurd (.free k hk h0) hn
      · omega
    obtain ⟨a1, a2⟩ := mx.co.ca k hk h0
    have a2 := a2 (by omega)
    refine ⟨(col k).toNat, a1, ?_, by omega, a2⟩
    rw [beq_true, Bool.eq_false_iff]
    intro hc
    have h1 := (hg' _).1 hc
    have := Rch.back _ h1 (by omega)
    rw [a2, Int.toNat_natCast] at this
    exact hn this
end

end Go.Proofs.Ytjbhnfejpgjghaa

/- The reference's Cover with its whole answer; law13.MatchMaximum answers true. -/
namespace Go.Proofs.Ytjbhnfejpgjghaa
open Go.RowKit
set_option linter.unusedSimpArgs false
set_option linter.unusedVariables false

theorem ref_cover (rows cols : Int) (A : Option Addr) (n c : Nat) (ls : List (List Int)) (w : World) (hL : L2 w A n c ls) (hr : In64 rows) (hc : In64 cols) :
    Calls Try.prog 29 #[.agg #[.int .i64 rows, .int .i64 cols, .slice A n c]] w (PCv rows cols ls w) := by
  rcases vErr_two rows cols ls with h0 | h1
  · refine (ref_cover0 rows cols A n c ls w hL hr hc h0).mono ?_
    rintro e w' ⟨A1, n1, c1, A2, n2, c2, T, f, g, rfl, h1, h2, hT, hf, hg, hb⟩
    refine ⟨A1, n1, c1, _, A2, n2, c2, _, 0, rfl, h1, h2, ?_, hb⟩
    show coverS rows cols ls = _
    unfold coverS
    rw [if_pos h0]
    exact cover_same (inc_of h0).2.2.1 hT hf hg
  · have hO := Own.one w 33 #[.int .i64 rows, .int .i64 cols, .slice A n c]
    have hV := ref_validate rows cols A n c ls _ (hL.below hO.1 (Nat.le_refl _)) hr hc
    have hO' := Lib.hid hO
    rw [h1] at hV
    have hV' := Lib.hid hV
    have hS : Hid (coverS rows cols ls = ([], [], 1)) := if_neg (by rw [h1]; omega)
    clear hV h1
    unfold PCv
    obtain ⟨S, hS2⟩ : ∃ S, S = coverS rows cols ls := ⟨_, rfl⟩
    rw [← hS2] at hS ⊢
    clear hS2 hO
    go_enter Try.func29, Try.ntmps29
    go_wp2_with (first
      | (go_at_call 28; (with_reducible refine hV'.out.mono ?_); rintro e w2 ⟨rfl, hb2⟩; have hO2 := Lib.hid (hO'.out.call hb2)))
    go_ret3
    exact ⟨_, _, _, _, _, _, _, _, _, rfl, IL.nil _, IL.nil _, hS, hO2.out.1⟩

theorem pair_eq {α β : Type} {S : α × β} {a a' : α} {b b' : β} (h : Hid (S = (a, b))) (h' : Hid (S = (a', b'))) : a = a' ∧ b = b' := by
  have h : S = (a, b) := h
  have h' : S = (a', b') := h'
  rw [h] at h'
  injection h' with p q
  exact ⟨p, q⟩
theorem trip_eq {α β γ : Type} {S : α × β × γ} {a a' : α} {b b' : β} {c c' : γ} (h : Hid (S = (a, b, c))) (h' : Hid (S = (a', b', c'))) : a = a' ∧ b = b' ∧ c = c' := by
  have h : S = (a, b, c) := h
  have h' : S = (a', b', c') := h'
  rw [h] at h'
  injection h' with p q
  injection q with q r
  exact ⟨p, q, r⟩

set_option maxRecDepth 100000 in
set_option maxHeartbeats 4000000 in
theorem law13_MatchMaximum (rows cols : Int) (A : Option Addr) (n c : Nat) (ls : List (List Int)) (w : World) (hL : L2 w A n c ls) (hr : In64 rows) (hc : In64 cols) :
    Calls Try.prog 8 #[.agg #[.int .i64 rows, .int .i64 cols, .slice A n c]] w fun e w' => e = .returned (.bool true) ∧ Below w.heap.size w w' := by
  have hO := Own.one w 33 #[.int .i64 rows, .int .i64 cols, .slice A n c]
  obtain ⟨m0, m1, m2⟩ := cells3 hO.b0
  have hO1 := Lib.hid hO
  clear hO
  have hL' : Hid (∀ wx, Own w [(33, #[.int .i64 rows, .int .i64 cols, .slice A n c])] wx → L2 wx A n c ls) := fun wx h => hL.below h.1 (Nat.le_refl _)
  go_enter Try.func8, Try.ntmps8
  go_upto_region 5 with (first
    | (go_at_call 20; refine (m_maximum rows cols A n c ls _ (hL'.out _ hO1.out) hr hc).mono ?_; rintro e w2 ⟨A1, n1, c1, zs, er, rfl, hil1, hs1, hb2⟩; have hO2 := Lib.hid (hO1.out.call hb2); obtain ⟨m0, m1, m2⟩ := cells3 hO2.out.b0)
    | (go_at_call 24; refine (ref_maximum rows cols A n c ls _ (hL'.out _ hO2.out) hr hc).mono ?_; rintro e w3 ⟨A2, n2, c2, zs', er', rfl, hil2, hs2, hb3⟩; obtain ⟨rfl, rfl⟩ := pair_eq hs1 hs2; clear hs2; have hO3 := Lib.hid (hO2.out.call hb3); obtain ⟨m0, m1, m2⟩ := cells3 hO3.out.b0)
    | (go_at_call 25; refine (m_sizeOf rows cols A n c ls _ (hL'.out _ hO3.out) hr hc).mono ?_; rintro e w4 ⟨sv, se, rfl, hs3, hb4⟩; have hO4 := Lib.hid (hO3.out.call hb4); obtain ⟨m0, m1, m2⟩ := cells3 hO4.out.b0)
    | (go_at_call 26; refine (ref_size rows cols A n c ls _ (hL'.out _ hO4.out) hr hc).mono ?_; rintro e w5 ⟨sv', se', rfl, hs4, hb5⟩; obtain ⟨rfl, rfl⟩ := pair_eq hs3 hs4; clear hs4; have hO5 := Lib.hid (hO4.out.call hb5)))
  clear m0 m1 m2 hs1 hs3
  have hA1 := Lib.hid (((hil1.below hb3).below hb4).below hb5)
  have hA2 := Lib.hid ((hil2.below hb4).below hb5)
  clear hil1 hil2 hb2 hb3 hb4 hb5 hO1 hO2 hO3 hO4
  obtain ⟨m0, m1, m2⟩ := cells3 hO5.out.b0
  have hO5d := Lib.hid hO5.out.drew
  have hS : w5.drew.cell? ⟨w.heap.size, 0, none⟩ = some (.int .i64 rows) ∧ w5.drew.cell? ⟨w.heap.size, 1, none⟩ = some (.int .i64 cols) ∧ w5.drew.cell? ⟨w.heap.size, 2, none⟩ = some (.slice A n c) := ⟨m0, m1, m2⟩
  have q0 : (vErr rows cols ls != vErr rows cols ls) = false := by simp
  have q1 : (er != er) = false := by simp
  have q2 : (sv != sv) = false := by simp
  have q3 : (se != se) = false := by simp
  clear m0 m1 m2
  go_region_held3 (fun w' => w'.cell? ⟨w.heap.size, 0, none⟩ = some (.int .i64 rows) ∧ w'.cell? ⟨w.heap.size, 1, none⟩ = some (.int .i64 cols) ∧ w'.cell? ⟨w.heap.size, 2, none⟩ = some (.slice A n c))
    (first | (with_reducible exact hS))
    (first
      | (go_at_call 27; refine (m_validate rows cols A n c ls _ (hL'.out _ hO5d.out) hr hc).mono ?_; rintro e w6 ⟨rfl, hb6⟩; have hO6 := Lib.hid (hO5d.out.call hb6); clear hS; have hS := cells3 hO6.out.b0)
      | (go_at_call 28; refine (ref_validate rows cols A n c ls _ (hL'.out _ hO6.out) hr hc).mono ?_; rintro e w7 ⟨rfl, hb7⟩; have hO7 := Lib.hid (hO6.out.call hb7); clear hS; have hS := cells3 hO7.out.b0)
      | (go_at_call 11; refine (law13_same A1 A2 n1 n2 c1 c2 zs _ (((hA1.out.below ((Below.refl _ _).drew)).below hb6).below hb7) (((hA2.out.below ((Below.refl _ _).drew)).below hb6).below hb7)).mono ?_; rintro e w8 ⟨rfl, hb8⟩; have hO8 := Lib.hid (hO7.out.call hb8); clear hS; have hS := cells3 hO8.out.b0))
  clear hA1 hA2 hb6 hb7 hb8 hO5 hO5d hO6 hO7 q0 q1 q2 q3 hS
  obtain ⟨m0, m1, m2⟩ := cells3 hO8.out.b0
  go_upto_region 9 with (first
    | (go_at_call 21; refine (m_cover rows cols A n c ls _ (hL'.out _ hO8.out) hr hc).mono ?_; rintro e w9 ⟨A3, n3, c3, zr, A4, n4, c4, cs, ce, rfl, hil3, hil4, hs3, hb9⟩; have hO9 := Lib.hid (hO8.out.call hb9); obtain ⟨m0, m1, m2⟩ := cells3 hO9.out.b0)
    | (go_at_call 29; refine (ref_cover rows cols A n c ls _ (hL'.out _ hO9.out) hr hc).mono ?_; rintro e w10 ⟨A5, n5, c5, zr', A6, n6, c6, cs', ce', rfl, hil5, hil6, hs4, hb10⟩; obtain ⟨rfl, rfl, rfl⟩ := trip_eq hs3 hs4; have hO10 := Lib.hid (hO9.out.call hb10)))
  have hA3 := Lib.hid (hil3.below hb10)
  have hA4 := Lib.hid (hil4.below hb10)
  have hA5 := Lib.hid hil5
  have hA6 := Lib.hid hil6
  have q4 : (ce != ce) = false := by simp
  have mk1 : True := trivial
  clear m0 m1 m2 hs3 hs4 hil3 hil4 hil5 hil6 hb9 hb10 hO8 hO9
  obtain ⟨m0, m1, m2⟩ := cells3 hO10.out.b0
  go_upto_region 11 with (first
    | (clear mk1; go_at_call 11; refine (law13_same A3 A5 n3 n5 c3 c5 zr _ hA3.out hA5.out).mono ?_; rintro e w11 ⟨rfl, hb11⟩; have hA4 := Lib.hid (hA4.out.below hb11); have hA6 := Lib.hid (hA6.out.below hb11); have hO11 := Lib.hid (hO10.out.call hb11))
    | (go_at_call 11; refine (law13_same A4 A6 n4 n6 c4 c6 cs _ hA4.out hA6.out).mono ?_; rintro e w12 ⟨rfl, hb12⟩; have hO12 := Lib.hid (hO11.out.call hb12)))
  clear m0 m1 m2 hA3 hA4 hA5 hA6 hb11 hb12 hO10 hO11 q4
  obtain ⟨m0, m1, m2⟩ := cells3 hO12.out.b0
  go_upto_region 13 with (first
    | (go_at_call 22; refine (m_short rows cols A n c ls _ (hL'.out _ hO12.out) hr hc (fun R C h => short_ok h)).mono ?_; rintro e w13 ⟨A7, n7, c7, ss, si, se, rfl, hil7, hs7, hb13⟩; have hO13 := Lib.hid (hO12.out.call hb13); obtain ⟨m0, m1, m2⟩ := cells3 hO13.out.b0)
    | (go_at_call 30; refine (ref_short rows cols A n c ls _ (hL'.out _ hO13.out) hr hc).mono ?_; rintro e w14 ⟨A8, n8, c8, ss', si', se', rfl, hil8, hs8, hb14⟩; obtain ⟨rfl, rfl, rfl⟩ := trip_eq hs7 hs8; have hO14 := Lib.hid (hO13.out.call hb14)))
  have hA7 := Lib.hid (hil7.below hb14)
  have hA8 := Lib.hid hil8
  have q5 : (se == se) = true := by simp
  have q6 : (si == si) = true := by simp
  clear m0 m1 m2 hs7 hs8 hil7 hil8 hb13 hb14 hO12 hO13
  go_wp2_with (first
    | (go_at_call 11; refine (law13_same A7 A8 n7 n8 c7 c8 ss _ hA7.out hA8.out).mono ?_; rintro e w15 ⟨rfl, hb15⟩; have hO15 := Lib.hid (hO14.out.call hb15))
    | (go_at_call 14; refine (law13_known _).mono ?_; rintro e w16 ⟨rfl, hb16⟩; have hO16 := Lib.hid (hO15.out.call hb16)))
  go_ret
  exact ⟨rfl, hO16.out.1⟩

end Go.Proofs.Ytjbhnfejpgjghaa
