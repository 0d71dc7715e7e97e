/- The reference's Cover; the rows of an incidence that is right have no number twice. -/
import Derived.ArgAppend
import Derived.Test.YtjbhnfejpgjghaaSm
namespace Go.Proofs.Ytjbhnfejpgjghaa
open Go.RowKit
set_option linter.unusedSimpArgs false
set_option linter.unusedVariables false

theorem asc_nodup {l : List Int} (h : ∀ j, 0 < j → j < l.length → l.getD (j - 1) 0 < l.getD j 0) (h0 : ∀ x ∈ l, 0 ≤ x) : (l.map Int.toNat).Nodup := by
  have key : ∀ d i, i + d + 1 < l.length → l.getD i 0 < l.getD (i + d + 1) 0 := by
    intro d
    induction d with
    | zero => intro i hi; exact h (i + 1) (by omega) (by omega)
    | succ d ih =>
      intro i hi
      have h1 := ih i (by omega)
      have h2 := h (i + (d + 1) + 1) (by omega) (by omega)
      rw [show i + (d + 1) + 1 - 1 = i + d + 1 by omega] at h2
      omega
  rw [List.Nodup, List.pairwise_map, List.pairwise_iff_getElem]
  intro i j hi hj hij
  have h1 := key (j - i - 1) i (by omega)
  rw [show i + (j - i - 1) + 1 = j by omega, List.getD_eq_getElem?_getD, List.getD_eq_getElem?_getD, List.getElem?_eq_getElem hi, List.getElem?_eq_getElem hj] at h1
  have h1 : l[i] < l[j] := h1
  have h2 := h0 _ (List.getElem_mem hi)
  have h3 := h0 _ (List.getElem_mem hj)
  omega
theorem nd_of {rows cols : Int} {ls : List (List Int)} (h : vErr rows cols ls = 0) : ∀ l ∈ nE ls, l.Nodup := by
  intro l hl
  obtain ⟨-, -, -, hnn⟩ := inc_of h
  unfold nE at hl
  obtain ⟨l', hl', rfl⟩ := List.mem_map.1 hl
  refine asc_nodup (fun j hj hjl => ?_) (hnn l' hl')
  have hv : valid rows cols ls = true := by
    unfold vErr at h
    split at h
    · assumption
    · omega
  unfold valid at hv
  simp only [Bool.and_eq_true] at hv
  have h8 := List.all_eq_true.1 hv.2 l' hl'
  unfold goodL at h8
  have h9 := List.all_eq_true.1 h8 j (List.mem_range.2 hjl)
  unfold goodE at h9
  simp only [Bool.not_eq_true', Bool.or_eq_false_iff, Bool.and_eq_false_iff, decide_eq_false_iff_not] at h9
  omega

/-- the turned incidence is one -/
theorem TS.inc {E : List (List Nat)} {R C : Nat} {T : Nat → List Nat} (h : TS E R T) (hI : Inc R C E) : Inc C R ((List.range C).map T) := by
  refine ⟨hI.2.1, hI.1, by simp, fun l hl k hk => ?_⟩
  obtain ⟨j, -, rfl⟩ := List.mem_map.1 hl
  exact ((h.1 j k).1 hk).1

def PCr (R C : Nat) (E : List (List Nat)) (w : World) (e : Ending) (w' : World) : Prop :=
  ∃ (A : Option Addr) (n c : Nat) (A2 : Option Addr) (n2 c2 : Nat) (T : Nat → List Nat) (f g : Nat → Bool), e = .returned (.tuple #[.slice A n c, .slice A2 n2 c2, .int .i64 0]) ∧
    IL w' A n c (shl (fun i => g i == true) R) ∧ IL w' A2 n2 c2 (shl (fun k => f k == false) C) ∧ TS E R T ∧
    (∀ k, f k = true ↔ RX ((List.range C).map T) C (fill ((List.range C).map T) (fun _ => true) (fun _ => true) R C).1 (fill ((List.range C).map T) (fun _ => true) (fun _ => true) R C).2 true k) ∧
    (∀ r, g r = true ↔ RX ((List.range C).map T) C (fill ((List.range C).map T) (fun _ => true) (fun _ => true) R C).1 (fill ((List.range C).map T) (fun _ => true) (fun _ => true) R C).2 false r) ∧ Below w.heap.size w w'

set_option maxRecDepth 100000 in
set_option maxHeartbeats 1000000 in
theorem ref_cover0 (rows cols : Int) (A : Option Addr) (n c : Nat) (ls : List (List Int)) (w : World) (hL : L2 w A n c ls) (hr : In64 rows) (hc : In64 cols) (h0 : vErr rows cols ls = 0) :
    Calls Try.prog 29 #[.agg #[.int .i64 rows, .int .i64 cols, .slice A n c]] w (PCr rows.toNat cols.toNat (nE ls) w) := by
  have hO := Own.one w 33 #[.int .i64 rows, .int .i64 cols, .slice A n c]
  have hV := ref_validate rows cols A n c ls _ (hL.below hO.1 (Nat.le_refl _)) hr hc
  have hO' := Lib.hid hO
  have hnd := nd_of h0
  rw [h0] at hV
  have hV' := Lib.hid hV
  obtain ⟨e1, e2, hI, hnn⟩ := inc_of h0
  have hN := n2_of hL hnn
  obtain ⟨R, hR⟩ : ∃ R, R = rows.toNat := ⟨_, rfl⟩
  obtain ⟨C, hC⟩ : ∃ C, C = cols.toNat := ⟨_, rfl⟩
  obtain ⟨E, hE⟩ : ∃ E, E = nE ls := ⟨_, rfl⟩
  rw [← hR, ← hC, ← hE] at hI
  rw [← hR] at e1
  rw [← hC] at e2
  rw [← hE] at hnd hN
  rw [← hR, ← hC, ← hE]
  have hI' := Lib.hid hI
  have hnd' := Lib.hid hnd
  have hR64 := hI.1
  have hC64 := hI.2.1
  have hnR : n = R := by have := hN.1; have := hI.2.2.1; omega
  clear hV hI hnd hR hC hE h0
  subst e1 e2 hnR
  go_enter Try.func29, Try.ntmps29
  go_wp2_with (first
    | (go_at_call 28; (with_reducible refine hV'.out.mono ?_); rintro e w2 ⟨rfl, hb2⟩; have hO2 := Lib.hid (hO'.out.call hb2); obtain ⟨m0, m1, m2⟩ := cells3 hO2.out.b0)
    | (go_at_call 47; refine (ref_turned n C E hI'.out hnd'.out w.heap.size A c _ hO2.out.1.size (hN.below hO2.out.1)).mono ?_; rintro e w3 ⟨gT, T, rfl, hT, hNT, hb3⟩; have hIT := Lib.hid (hT.inc hI'.out))
    | (go_at_call 46; refine (ref_reached C n ((List.range C).map T) hIT.out w3.heap.size (some ⟨gT, 0, none⟩) C w3 (Nat.le_refl _) hNT).mono ?_; rintro e w4 ⟨gF, gG, f, g, rfl, hrf, hrg, hf, hg, hb4⟩; have mk1 : True := trivial)
    | (clear mk1; go_at_call 56; refine (ref_numbers gG n hR64 g true _ hrg).mono ?_; rintro e w5 ⟨A5, n5, c5, rfl, hil5, hb5⟩)
    | (go_at_call 56; refine (ref_numbers gF C hC64 f false _ (hrf.call hb5)).mono ?_; rintro e w6 ⟨A6, n6, c6, rfl, hil6, hb6⟩))
  go_ret3
  refine ⟨_, _, _, _, _, _, T, f, g, rfl, hil5.below hb6, hil6, hT, hf, hg, ?_⟩
  have h2 := hO2.out.1
  have h3 := h2.trans (hb3.mono h2.size)
  have h4 := h3.trans (hb4.mono h3.size)
  have h5 := h4.trans (hb5.mono h4.size)
  exact h5.trans (hb6.mono h5.size)

end Go.Proofs.Ytjbhnfejpgjghaa

/- A queue of ints of the call's own: a slice that is taken from at its head and appended to; the plain law of the reference's Short. -/
namespace Go.Proofs.Ytjbhnfejpgjghaa
open Go.RowKit
set_option linter.unusedSimpArgs false
set_option linter.unusedVariables false

def QRow (w : World) (B : Nat) (v : Value) (l : List Int) : Prop :=
  ∃ (g o cap : Nat) (cur : Array Value), v = .slice (some ⟨g, o, none⟩) l.length cap ∧ B ≤ g ∧ w.heap[g]? = some (.cells cur 3 (0, 0)) ∧ o + cap ≤ cur.size ∧ l.length ≤ cap ∧ ∀ j x, l[j]? = some x → cur[o + j]? = some (.int .i64 x)
section
variable {w w' : World} {B : Nat} {v : Value} {l : List Int}
theorem QRow.same (h : QRow w B v l) (e : ∀ g, v.ownBlock = some g → w'.heap[g]? = w.heap[g]?) : QRow w' B v l := by
  obtain ⟨g, o, cap, cur, rfl, h1, h2, h3, h4, h5⟩ := h
  exact ⟨g, o, cap, cur, rfl, h1, (e g rfl).trans h2, h3, h4, h5⟩
theorem QRow.at (h : QRow w B v l) {g : Nat} (e : v.ownBlock = some g) : B ≤ g ∧ g < w.heap.size := by
  obtain ⟨g', o, cap, cur, rfl, h1, h2, h3, h4, h5⟩ := h
  have e2 : g' = g := by injection e
  subst e2
  exact ⟨h1, (Array.getElem?_eq_some_iff.1 h2).1⟩
theorem QRow.call (h : QRow w B v l) (hb : Below w.heap.size w w') : QRow w' B v l := h.same fun g e => hb.block g (h.at e).2
theorem QRow.fr {xs : List Nat} (h : QRow w B v l) (hf : Fr xs w w') (hx : ∀ x ∈ xs, x < B) : QRow w' B v l :=
  h.same fun g e => hf.block g (h.at e).2 fun hm => by have := hx g hm; have := (h.at e).1; omega
theorem QRow.far {g : Nat} (h : QRow w B v l) (hg : g < B) (i : Nat) (u : Value) : QRow (w.setCell ⟨g, i, none⟩ u) B v l :=
  h.same fun g' e => Below.heap_setCell w ⟨g, i, none⟩ u g' (by have := (h.at e).1; show g' ≠ g; omega)
theorem QRow.cell (h : QRow w B v l) {x : Int} {r : List Int} (e : l = x :: r) : ∃ g o cap, v = .slice (some ⟨g, o, none⟩) (r.length + 1) cap ∧ 1 ≤ cap ∧ r.length + 1 ≤ cap ∧ w.cell? ⟨g, o, none⟩ = some (.int .i64 x) ∧
    (cap = 1 → QRow w B (.slice (some ⟨g, o, none⟩) r.length 0) r) ∧ (cap ≠ 1 → QRow w B (.slice (some ⟨g, o + 1, none⟩) r.length (cap - 1)) r) := by
  obtain ⟨g, o, cap, cur, rfl, h1, h2, h3, h4, h5⟩ := h
  subst e
  simp only [List.length_cons] at h4
  refine ⟨g, o, cap, by simp, by omega, by omega, ?_, fun hc => ?_, fun hc => ?_⟩
  · rw [cell_of_row w g o cur 3 (0, 0) h2]
    exact h5 0 x rfl
  · have hr : r = [] := List.eq_nil_of_length_eq_zero (by omega)
    subst hr
    exact ⟨g, o, 0, cur, rfl, h1, h2, by omega, by simp, fun j x hj => by simp at hj⟩
  · refine ⟨g, o + 1, cap - 1, cur, rfl, h1, h2, by omega, by omega, fun j y hj => ?_⟩
    have := h5 (j + 1) y (by simpa using hj)
    rw [show o + 1 + j = o + (j + 1) by omega]
    exact this
theorem QRow.of_row (h : RowI w B v l) (hl : l ≠ []) : QRow w B v l := by
  obtain ⟨h1, h2⟩ := h
  rcases h2 with ⟨rfl, h2⟩ | ⟨g, cap, cur, rfl, h3, h4, h5, h6, h7, h8⟩
  · exact absurd (List.eq_nil_of_length_eq_zero h2) hl
  · refine ⟨g, 0, cap, cur, rfl, h3, h4, ?_, h5, fun j x hj => ?_⟩
    · rw [Nat.zero_add]
      have : cur.size = cap * 1 := h7
      omega
    · have hv := vz_get l j x hj
      rw [← h8] at hv
      rw [List.getElem?_take] at hv
      split at hv
      · rw [Nat.zero_add]
        simpa using hv
      · cases hv
end

set_option maxRecDepth 100000 in
theorem wpList_qapp {ops : Array Oper} {rest : List Oper} {o : Oper} {a : Act} {Q : Exit → Act → World → Prop} {w : World} (hgd : o.guard = none) (s x : Operand)
    (ho : o.op = .call { callee := .builtin .append, args := #[s, x], argTypes := #[23, 23] })
    (B : Nat) (v : Value) (l : List Int) (hs : a.eval s = v) (h : QRow w B v l) (hl : l.length ≤ 1000) (hB : B ≤ w.heap.size)
    (ad : Addr) (c : Nat) (y : Int) (hx : a.eval x = .slice (some ad) 1 c) (hy : ∀ j u, [Value.int .i64 y][j]? = some u → w.cell? (ad.add j) = some u)
    (hK : ∀ v' w', QRow w' B v' (l ++ [y]) → w.grownBy w' v.ownBlock → wpList Try.prog ops Q rest (a.put o.dst v') w') :
    wpList Try.prog ops Q (o :: rest) a w := by
  obtain ⟨i0, hi0, hz0, hz1, hz2⟩ := info_parts infoI
  obtain ⟨g, off, cap, cur, rfl, h1, h2, h3, h4, h5⟩ := h
  refine wpList_append_arg w hgd s x 23 ho 3 i0 (.int .i64 0) 1 8 Try.underlying23 hi0 hz0 hz1 hz2 rfl (by decide) g off l.length cap (vz l) hs (by rw [vz_len, Nat.mul_one]) (fun j u hj => ?_) ad 1 c [.int .i64 y] hx rfl hy (by intro u hu; simp at hu; subst hu; rfl) (fun hr j hj => ?_) (by unfold maxLen; omega) (by omega) (fun hr => ?_) (fun hg v' w' ho' hgr => ?_)
  · have hjl := (List.getElem?_eq_some_iff.1 hj).1
    rw [vz_len] at hjl
    have hv := vz_get l j l[j] (List.getElem?_eq_getElem hjl)
    rw [hv] at hj
    injection hj with hj
    rw [cell_of_row w g _ cur 3 (0, 0) h2, ← hj]
    exact h5 j _ (List.getElem?_eq_getElem hjl)
  · simp at hj
    subst hj
    have hlt : off + l.length * 1 + 0 < cur.size := by omega
    rw [cell_of_row w g _ cur 3 (0, 0) h2]
    exact ⟨by rw [Array.getElem?_eq_getElem hlt]; rfl, by simp [World.frozen?, h2]⟩
  · have hw : w.setCells g (off + l.length * 1) [Value.int .i64 y] = w.setCell ⟨g, off + l.length, none⟩ (.int .i64 y) := by simp [World.setCells]
    rw [hw]
    refine hK _ _ ⟨g, off, cap, cur.setIfInBounds (off + l.length) (.int .i64 y), by simp, h1, Blk.set (t := 3) h2 (off + l.length) (.int .i64 y), by simpa using h3, by simp; omega, fun j z hj => ?_⟩ (gbs (gbr w (some g)) _ _)
    rw [Array.getElem?_setIfInBounds]
    by_cases e : j = l.length
    · subst e
      have e2 : y = z := by simpa using hj
      rw [if_pos rfl, if_pos (by omega), e2]
    · have hjl := (List.getElem?_eq_some_iff.1 hj).1
      simp at hjl
      rw [List.getElem?_append_left (by omega)] at hj
      rw [if_neg (by omega)]
      exact h5 j z hj
  · have hr : RowI w' w.heap.size v' (l ++ [y]) := by
      unfold RowI
      rw [vz_snoc]
      simpa using ho'
    have hq := QRow.of_row hr (by simp)
    obtain ⟨g', o', cap', cur', e, q1, q2⟩ := hq
    exact hK v' w' ⟨g', o', cap', cur', e, by omega, q2⟩ ⟨hgr.os, hgr.tape, hgr.output, hgr.size, fun j hj _ => hgr.block j hj (by simp)⟩

/-! ## plain: the queue of Short -/
structure SQ (E : List (List Nat)) (nx : Nat → Nat) (R i0 : Nat) (d q : List Nat) (f : Nat → Bool) : Prop where
  nd : (d ++ q).Nodup
  lt : ∀ i ∈ d ++ q, i < R
  ft : ∀ i, f i = true ↔ i ∈ d ++ q
  rs : ∀ i ∈ d ++ q, Rr E nx i0 i
  dn : ∀ i ∈ d, ∀ k ∈ E.getD i [], f (nx k) = true
  st : i0 ∈ d ++ q
section
variable {E : List (List Nat)} {nx : Nat → Nat} {R i0 : Nat} {d q : List Nat} {f : Nat → Bool}
theorem SQ.start (h : i0 < R) : SQ E nx R i0 [] [i0] (upd (fun _ => false) i0 true) :=
  ⟨by simp, fun i hi => by simp at hi; omega, fun i => by rw [upd_iff]; simp, fun i hi => by (have : i = i0 := by simpa using hi); rw [this]; exact .start, fun i hi => (by cases hi), by simp⟩
theorem SQ.push (h : SQ E nx R i0 d q f) {i k : Nat} (hi : i ∈ d ++ q) (hk : k ∈ E.getD i []) (hlt : nx k < R) (hn : f (nx k) = false) : SQ E nx R i0 d (q ++ [nx k]) (upd f (nx k) true) := by
  have hni : nx k ∉ d ++ q := fun hm => by rw [(h.ft _).2 hm] at hn; cases hn
  refine ⟨by rw [← List.append_assoc]; exact nodup_snoc h.nd hni, fun x hx => ?_, fun x => ?_, fun x hx => ?_, fun x hx y hy => upd_iff.2 (.inr (h.dn x hx y hy)), by rw [← List.append_assoc]; exact List.mem_append_left _ h.st⟩
  · rw [← List.append_assoc] at hx
    rcases List.mem_append.1 hx with hx | hx
    · exact h.lt x hx
    · have : x = nx k := by simpa using hx
      omega
  · rw [upd_iff, h.ft, ← List.append_assoc, List.mem_append (s := d ++ q), List.mem_singleton]
    exact or_comm
  · rw [← List.append_assoc] at hx
    rcases List.mem_append.1 hx with hx | hx
    · exact h.rs x hx
    · have : x = nx k := by simpa using hx
      rw [this]; exact .step i k (h.rs i hi) hk
theorem SQ.pop {i : Nat} (h : SQ E nx R i0 d (i :: q) f) (hk : ∀ k ∈ E.getD i [], f (nx k) = true) : SQ E nx R i0 (d ++ [i]) q f := by
  have e : d ++ [i] ++ q = d ++ i :: q := by simp
  refine ⟨by rw [e]; exact h.nd, by rw [e]; exact h.lt, by rw [e]; exact h.ft, by rw [e]; exact h.rs, fun x hx => ?_, by rw [e]; exact h.st⟩
  rcases List.mem_append.1 hx with hx | hx
  · exact h.dn x hx
  · have : x = i := by simpa using hx
    rw [this]; exact hk
theorem SQ.len (h : SQ E nx R i0 d q f) : d.length + q.length ≤ R := by
  have := nodup_sub (d ++ q) (List.range R) h.nd (fun x hx => List.mem_range.2 (h.lt x hx))
  simpa using this
theorem SQ.done (h : SQ E nx R i0 d [] f) (r : Nat) : f r = true ↔ Rr E nx i0 r := by
  constructor
  · intro hr
    exact h.rs r ((h.ft r).1 hr)
  · intro hr
    induction hr with
    | start => exact (h.ft _).2 h.st
    | step i k _ hk ih =>
      have hi := (h.ft i).1 ih
      rw [List.append_nil] at hi
      exact h.dn i hi k hk
end

end Go.Proofs.Ytjbhnfejpgjghaa

/- The turned matching as one of the incidence itself; what is reached does not hang on it. -/
namespace Go.Proofs.Ytjbhnfejpgjghaa
set_option linter.unusedSimpArgs false
set_option linter.unusedVariables false

/-- the turned matching, as one of the incidence itself -/
def tcol (R : Nat) (col' : Nat → Int) : Nat → Int := fun r => if r < R then col' r else -1

section
variable {E : List (List Nat)} {R C : Nat} {T : Nat → List Nat}
theorem getT (k : Nat) : ((List.range C).map T).getD k [] = if k < C then T k else [] := by
  rw [List.getD_eq_getElem?_getD]
  by_cases h : k < C
  · simp [h]
  · simp [h]

theorem turn_mx (hI : Inc R C E) (hT : TS E R T) {row' col' : Nat → Int} (h : Mx ((List.range C).map T) C R row' col') : Mx E R C (tcol R col') row' := by
  have hm : ∀ k r, k < C → (r ∈ ((List.range C).map T).getD k [] ↔ r < R ∧ k ∈ E.getD r []) := fun k r hk => by rw [getT, if_pos hk, hT.1]
  have hkC : ∀ r k, k ∈ E.getD r [] → k < C := fun r k hk => by
    by_cases hr : r < E.length
    · rw [List.getD_eq_getElem?_getD, List.getElem?_eq_getElem hr] at hk
      exact hI.2.2.2 _ (List.getElem_mem hr) k hk
    · rw [List.getD_eq_getElem?_getD, List.getElem?_eq_none (by omega)] at hk
      cases hk
  have e1 : ∀ r, r < R → tcol R col' r = col' r := fun r hr => if_pos hr
  obtain ⟨X, S, h1, h2, h3⟩ := h.wit
  refine ⟨⟨fun r => ?_, h.co.rn, fun r hr h0 => ?_, fun k hk h0 => ?_⟩, fun r h0 => ?_, ⟨fun r => ¬ S r, fun k => k < C ∧ ¬ X k, fun r hr k hk => ?_, fun k hk => ?_, fun r hr h0 hs => ?_⟩⟩
  · unfold tcol
    split
    · exact h.co.cn r
    · omega
  · rw [e1 r hr] at h0 ⊢
    obtain ⟨a1, a2⟩ := h.co.ca r hr h0
    have a2 := a2 (by omega)
    have a3 := (h.co.ra _ a1 (by omega)).2.2.1
    rw [a2, Int.toNat_natCast, hm _ _ a1] at a3
    exact ⟨a1, a2, a3.2, rfl⟩
  · obtain ⟨a1, a2, a3, -⟩ := h.co.ra k hk h0
    exact ⟨a1, fun _ => by rw [e1 _ a1]; exact a2⟩
  · unfold tcol at h0
    split at h0
    · assumption
    · omega
  · refine ⟨hkC r k hk, fun hx => hr ?_⟩
    by_cases hrR : r < R
    · exact h1 k hx r ((hm k r (hkC r k hk)).2 ⟨hrR, hk⟩)
    · have : r ≥ E.length := by rw [hI.2.2.1]; omega
      rw [List.getD_eq_getElem?_getD, List.getElem?_eq_none this] at hk
      cases hk
  · obtain ⟨hkC', hx⟩ := hk
    have h0 : 0 ≤ row' k := by
      by_cases h0 : row' k < 0
      · exact absurd (h3 k hkC' h0) hx
      · omega
    refine ⟨hkC', h0, fun hs => hx ?_⟩
    have := (h2 _ hs).2.2
    rw [(h.co.ra k hkC' h0).2.1] at this
    simpa using this
  · have := (h2 r hs).2.1
    rw [e1 r hr] at h0
    omega

theorem rx_rch (hI : Inc R C E) (hT : TS E R T) {row' col' : Nat → Int} : ∀ b x, RX ((List.range C).map T) C row' col' b x ↔ Rch E R C (tcol R col') row' (!b) x := by
  have hm : ∀ k r, k < C → (r ∈ ((List.range C).map T).getD k [] ↔ r < R ∧ k ∈ E.getD r []) := fun k r hk => by rw [getT, if_pos hk, hT.1]
  have hkC : ∀ r k, k ∈ E.getD r [] → k < C := fun r k hk => by
    by_cases hr : r < E.length
    · rw [List.getD_eq_getElem?_getD, List.getElem?_eq_getElem hr] at hk
      exact hI.2.2.2 _ (List.getElem_mem hr) k hk
    · rw [List.getD_eq_getElem?_getD, List.getElem?_eq_none (by omega)] at hk
      cases hk
  have a : ∀ b x, RX ((List.range C).map T) C row' col' b x → Rch E R C (tcol R col') row' (!b) x := by
    intro b x h
    induction h with
    | free k hk h0 => exact .free k hk h0
    | down k r _ hr ih =>
      by_cases hk : k < C
      · have h1 := (hm k r hk).1 hr
        exact .down k r ih h1.1 h1.2
      · rw [getT, if_neg hk] at hr
        cases hr
    | back r _ h0 ih =>
      have hr : r < R := by
        cases ih with
        | down k r _ hr _ => exact hr
      have e : tcol R col' r = col' r := if_pos hr
      have := Rch.back r ih (by rw [e]; exact h0)
      rw [e] at this
      exact this
  have b : ∀ b x, Rch E R C (tcol R col') row' b x → RX ((List.range C).map T) C row' col' (!b) x := by
    intro b x h
    induction h with
    | free k hk h0 => exact .free k hk h0
    | down k r _ hr hk ih => exact .down k r ih ((hm k r (hkC r k hk)).2 ⟨hr, hk⟩)
    | back r hr h0 ih =>
      unfold tcol at h0 ⊢
      split at h0
      · rename_i hlt
        rw [if_pos hlt]
        exact .back r ih h0
      · omega
  intro c x
  refine ⟨a c x, fun h => ?_⟩
  have := b _ _ h
  rwa [Bool.not_not] at this

theorem rx_same (hI : Inc R C E) (hT : TS E R T) (b : Bool) (x : Nat) :
    RX ((List.range C).map T) C (fill ((List.range C).map T) (fun _ => true) (fun _ => true) R C).1 (fill ((List.range C).map T) (fun _ => true) (fun _ => true) R C).2 b x ↔
      Rch E R C (fill E (fun _ => true) (fun _ => true) C R).1 (fill E (fun _ => true) (fun _ => true) C R).2 (!b) x := by
  have hE := hI.2.2.2
  have m1 := fill_mx (R := R) hE
  have m2 := turn_mx hI hT (fill_mx (R := C) (hT.inc hI).2.2.2)
  have c1 := Mx.rows_le hE m1 m2.co
  have c2 := Mx.rows_le hE m2 m1.co
  rw [rx_rch hI hT]
  exact ⟨Rch.same hE m1 m2.co m2.rlt (by omega), Rch.same hE m2 m1.co m1.rlt (by omega)⟩
end

end Go.Proofs.Ytjbhnfejpgjghaa
