/- MatchCovers: what the walk wants (plain). -/
import Derived.Test.YtjbhnfejpgjghaaQh
import Derived.Test.YtjbhnfejpgjghaaQm
import Derived.Test.YtjbhnfejpgjghaaMr
namespace Go.Proofs.Ytjbhnfejpgjghaa
open Go.RowKit
set_option linter.unusedSimpArgs false
set_option linter.unusedVariables false

theorem row_len {rows cols : Int} {ls : List (List Int)} (h : vErr rows cols ls = 0) : ∀ l ∈ nE ls, l.length ≤ 64 := by
  have hv : valid rows cols ls = true := by
    unfold vErr at h
    split at h
    · assumption
    · omega
  unfold valid at hv
  simp only [Bool.and_eq_true, Bool.not_eq_true', Bool.or_eq_false_iff, decide_eq_false_iff_not, bne_eq_false_iff_eq] at hv
  obtain ⟨⟨⟨⟨⟨h1, h2⟩, h3⟩, h4⟩, h5⟩, h6⟩ := hv
  intro l hl
  unfold nE at hl
  obtain ⟨l', hl', rfl⟩ := List.mem_map.1 hl
  rw [List.length_map]
  have h8 := List.all_eq_true.1 h6 l' hl'
  unfold goodL at h8
  have h9 : ∀ j, j < l'.length → (j : Int) ≤ l'.getD j 0 ∧ l'.getD j 0 < cols := by
    intro j
    induction j with
    | zero =>
      intro hj
      have h9 := List.all_eq_true.1 h8 0 (List.mem_range.2 hj)
      unfold goodE at h9
      simp only [Bool.not_eq_true', Bool.or_eq_false_iff, decide_eq_false_iff_not] at h9
      omega
    | succ j ih =>
      intro hj
      have h0 := ih (by omega)
      have h9 := List.all_eq_true.1 h8 (j + 1) (List.mem_range.2 hj)
      unfold goodE at h9
      simp at h9
      simp only [List.getD_eq_getElem?_getD] at h0 ⊢
      omega
  rcases Nat.eq_zero_or_pos l'.length with h0 | h0
  · omega
  · have := h9 (l'.length - 1) (by omega)
    omega

theorem N1.il {B : Nat} {w : World} {A : Option Addr} {n c : Nat} {zs : List Nat} (h : N1 B w A n c zs) (hB : B ≤ w.heap.size) (hl : zs.length ≤ 64) : IL w A n c (zs.map fun (k : Nat) => (k : Int)) := by
  obtain ⟨h1, h2, h3⟩ := h
  refine ⟨by rw [List.length_map]; exact h1, by omega, ?_⟩
  rcases h3 with h3 | ⟨g, o, rfl, hg, hc⟩
  · exact .inl h3
  · refine .inr ⟨g, o, rfl, by omega, fun j x hj => ?_⟩
    rw [List.getElem?_map] at hj
    obtain ⟨k, hk, rfl⟩ := Option.map_eq_some_iff.1 hj
    exact hc j k hk
theorem contains_map (l : List Nat) (k : Nat) : (l.map fun (k : Nat) => (k : Int)).contains (k : Int) = l.contains k := contains_nat l k

theorem pr_eq {α β : Type} {x : α × β} {a c : α} {b d : β} (h : x = (a, b)) (k : x = (c, d)) : c = a ∧ d = b := by
  rw [h] at k
  injection k with k1 k2
  exact ⟨k1.symm, k2.symm⟩
theorem tr_eq {α β γ : Type} {x : α × β × γ} {a c : α} {b d : β} {e f : γ} (h : x = (a, b, e)) (k : x = (c, d, f)) : c = a ∧ d = b ∧ f = e := by
  rw [h] at k
  injection k with k1 k2
  injection k2 with k2 k3
  exact ⟨k1.symm, k2.symm, k3.symm⟩

/-- what Short tells, at a right incidence -/
theorem short_is {E : List (List Nat)} {R C : Nat} (hI : Inc R C E) : ∃ sh is, shortT E R (lst E R C R).out = (sh, is, 0) ∧ is = decide (cnt (lst E R C R).out R < R) ∧ (is = true → sh = shl (shS E R (lst E R C R).out) R ∧ ((List.range C).filter (met E (shS E R (lst E R C R).out) R)).length + 1 = sh.length) := by
  have hl := lst_li (R := R) hI.2.2.2 R (Nat.le_refl _)
  unfold shortT
  rcases idx_cases (lst E R C R).out R (-1) with ⟨j, hj, ej, he⟩ | ⟨hno, he⟩
  · have hs : ∃ r, r < R ∧ (lst E R C R).out r < 0 := ⟨j, hj, by omega⟩
    refine ⟨_, true, if_neg (by omega), ?_, fun _ => ⟨rfl, short_cnt hI hs⟩⟩
    rw [eq_comm, decide_eq_true_iff]
    exact (cnt_full R).2 hs
  · refine ⟨[], false, if_pos (by omega), ?_, fun h => by cases h⟩
    rw [eq_comm, decide_eq_false_iff_not]
    intro h
    obtain ⟨r, hr, hn⟩ := (cnt_full R).1 h
    have := hl.rn r
    exact hno r hr (by omega)

/-- the columns that were met so far -/
def usd (out : Nat → Int) (i k : Nat) : Bool := (List.range i).any fun r => out r == (k : Int)
theorem usd_succ (out : Nat → Int) (i k : Nat) : usd out (i + 1) k = (usd out i k || (out i == (k : Int))) := by
  unfold usd
  rw [List.range_succ, List.any_append]
  simp
theorem usd_step {out : Nat → Int} {i x : Nat} (hx : out i = (x : Int)) : usd out (i + 1) = upd (usd out i) x true := by
  funext k
  rw [usd_succ, hx]
  unfold upd
  by_cases e : k = x
  · rw [if_pos e, e]; simp
  · rw [if_neg e]
    have : ((x : Int) == (k : Int)) = false := by simp; omega
    rw [this, Bool.or_false]
theorem usd_skip {out : Nat → Int} {i : Nat} (hx : out i < 0) : usd out (i + 1) = usd out i := by
  funext k
  rw [usd_succ]
  have : (out i == (k : Int)) = false := by simp; omega
  rw [this, Bool.or_false]
theorem usd_new {E : List (List Nat)} {R C : Nat} {st : LS} (h : LI E R C R st) {i x : Nat} (hx : st.out i = (x : Int)) : usd st.out i x = false := by
  unfold usd
  rw [List.any_eq_false]
  intro r hr e
  have hr := List.mem_range.1 hr
  have e : st.out r = (x : Int) := by simpa using e
  have := h.inj r i (by omega) (by omega)
  omega

/-- counting a set below C -/
def cs' (C : Nat) (g : Nat → Bool) : Nat := ((List.range C).filter g).length
theorem cs_upd {C x : Nat} (g : Nat → Bool) (hx : x < C) : cs' C (upd g x true) = if g x = true then cs' C g else cs' C g + 1 := by
  have key : ∀ n, ((List.range n).filter (upd g x true)).length = ((List.range n).filter g).length + (if x < n ∧ g x = false then 1 else 0) := by
    intro n
    induction n with
    | zero => rfl
    | succ n ih =>
      rw [List.range_succ, List.filter_append, List.filter_append, List.length_append, List.length_append, ih]
      by_cases e : n = x
      · subst e
        cases hg : g n <;> simp [upd, hg]
      · have h1 : upd g x true n = g n := upd_other _ _ _ _ e
        cases hg : g x <;> cases hn : g n <;> simp [h1, hn]
        · by_cases h2 : x < n
          · rw [if_pos h2, if_pos (by omega)]
          · rw [if_neg h2, if_neg (by omega)]
        · by_cases h2 : x < n
          · rw [if_pos h2, if_pos (by omega)]
          · rw [if_neg h2, if_neg (by omega)]
  unfold cs'
  rw [key C]
  cases hg : g x <;> simp [hx]
theorem cs_congr {C : Nat} {g g' : Nat → Bool} (h : ∀ k, k < C → g k = g' k) : cs' C g = cs' C g' := by
  unfold cs'
  congr 1
  apply List.filter_congr
  intro k hk
  exact h k (List.mem_range.1 hk)

end Go.Proofs.Ytjbhnfejpgjghaa

/- law13.MatchCovers answers true. -/
namespace Go.Proofs.Ytjbhnfejpgjghaa
open Go.RowKit
set_option linter.unusedSimpArgs false
set_option linter.unusedVariables false

/-- the pairs so far -/
def K1 (w5 : World) (gU : Nat) (out : Nat → Int) (i : Nat) (wr : World) : Prop := Below w5.heap.size w5 wr ∧ w5.heap.size ≤ gU ∧ ∃ k c, k ≤ i ∧ BS wr gU k (usd out i) c

/-- the columns that the law has marked -/
def acc (E : List (List Nat)) (zs : List Int) (j : Nat) (l : List Nat) (m : Nat) : Nat → Bool := fun k => (zs.take j).any (fun x => (E.getD x.toNat []).contains k) || (l.take m).contains k
theorem acc_in (E : List (List Nat)) (zs : List Int) (j : Nat) (l : List Nat) : acc E zs j l 0 = acc E zs j [] 0 := by
  funext k
  simp [acc]
theorem acc_step {E : List (List Nat)} {zs : List Int} {j m x : Nat} {l : List Nat} (h : l[m]? = some x) : acc E zs j l (m + 1) = upd (acc E zs j l m) x true := by
  funext k
  unfold acc upd
  rw [List.take_add_one, h]
  by_cases e : k = x
  · rw [if_pos e, e]; simp
  · rw [if_neg e]
    have : ((l.take m ++ (some x).toList).contains k) = (l.take m).contains k := by
      rw [Bool.eq_iff_iff]
      simp [e]
    rw [this]
theorem acc_out {E : List (List Nat)} {zs : List Int} {j i : Nat} {l : List Nat} (h : zs[j]? = some (i : Int)) (hl : E.getD i [] = l) {m : Nat} (hm : l.length ≤ m) : acc E zs j l m = acc E zs (j + 1) [] 0 := by
  funext k
  unfold acc
  rw [List.take_of_length_le hm, List.take_add_one, h]
  subst hl
  simp
theorem acc_end {E : List (List Nat)} {s : Nat → Bool} {n k : Nat} : acc E (shl s n) (shl s n).length [] 0 k = met E s n k := by
  unfold acc
  rw [List.take_of_length_le (Nat.le_refl _)]
  rw [Bool.eq_iff_iff]
  simp only [List.take_zero, Bool.or_eq_true, List.any_eq_true, List.contains_iff_mem, List.not_mem_nil, or_false]
  rw [met_iff]
  constructor
  · rintro ⟨x, hx, hk⟩
    obtain ⟨i, h1, h2, rfl⟩ := mem_shl.1 hx
    exact ⟨i, h1, h2, by simpa using hk⟩
  · rintro ⟨i, h1, h2, hk⟩
    exact ⟨(i : Int), mem_shl.2 ⟨i, h1, h2, rfl⟩, by simpa using hk⟩
def K3 (w7 : World) (gA C : Nat) (g : Nat → Bool) (b : Nat) (wr : World) : Prop := Below w7.heap.size w7 wr ∧ w7.heap.size ≤ gA ∧ ∃ k, k ≤ b ∧ BS wr gA k g (cs' C g)
theorem cs_none (C : Nat) : cs' C (fun _ => false) = 0 := by
  unfold cs'
  rw [List.length_eq_zero_iff, List.filter_eq_nil_iff]
  intro a _ h
  cases h
def K2 (w7 : World) (n : Nat) (v : Value) (wr : World) : Prop := w7 = wr ∧ ∃ i : Nat, i ≤ n ∧ v = .int .i64 (i : Int)

set_option maxRecDepth 100000 in
set_option maxHeartbeats 4000000 in
theorem law13_MatchCovers (rows cols : Int) (A : Option Addr) (n c : Nat) (ls : List (List Int)) (w : World) (hL : L2 w A n c ls) (hr : In64 rows) (hc : In64 cols) :
    Calls Try.prog 7 #[.agg #[.int .i64 rows, .int .i64 cols, .slice A n c]] w fun e w' => e = .returned (.bool true) ∧ Below w.heap.size w w' := by
  have hmm := @run_makeMap Try.prog
  have hO := Own.one w 33 #[.int .i64 rows, .int .i64 cols, .slice A n c]
  have hX := Lib.hid (m_maximum rows cols A n c ls _ (hL.below hO.1 (Nat.le_refl _)) hr hc)
  have hO' := Lib.hid hO
  obtain ⟨m0, m1, m2⟩ := cells3 hO.b0
  rcases vErr_two rows cols ls with h0 | h1
  · obtain ⟨e1, e2, hI, hnn⟩ := inc_of h0
    have hN := n2_of hL hnn
    have hrl := Lib.hid (row_len h0)
    have hmx : Hid (maxS rows cols ls = ((List.range rows.toNat).map (lst (nE ls) rows.toNat cols.toNat rows.toNat).out, 0)) := if_pos h0
    have hcv : Hid (coverS rows cols ls = coverT (nE ls) rows.toNat cols.toNat) := if_pos h0
    have hsh : Hid (shortS rows cols ls = shortT (nE ls) rows.toNat (lst (nE ls) rows.toNat cols.toNat rows.toNat).out) := if_pos h0
    obtain ⟨R, hR⟩ : ∃ R, R = rows.toNat := ⟨_, rfl⟩
    obtain ⟨C, hC⟩ : ∃ C, C = cols.toNat := ⟨_, rfl⟩
    rw [← hR, ← hC] at hmx hcv hI
    rw [← hR, ← hC] at hsh
    rw [← hR] at e1
    rw [← hC] at e2
    have hR64 := hI.1
    have hC64 := hI.2.1
    have hnR : n = R := by have := hN.1; have := hI.2.2.1; omega
    have hli := Lib.hid (lst_li (R := R) (C := C) hI.2.2.2 R (Nat.le_refl _))
    obtain ⟨sh, is, hs1, hs2, hs3⟩ := short_is hI
    obtain ⟨hc1, hc2⟩ := cover_law hI
    obtain ⟨cr, hcr⟩ : ∃ cr, cr = (coverT (nE ls) R C).1 := ⟨_, rfl⟩
    obtain ⟨cc, hcc⟩ : ∃ cc, cc = (coverT (nE ls) R C).2.1 := ⟨_, rfl⟩
    have hct : coverT (nE ls) R C = (cr, cc, 0) := by rw [hcr, hcc]; rfl
    rw [← hcr, ← hcc] at hc1 hc2
    have hcv' : Hid (coverS rows cols ls = (cr, cc, 0)) := by show _ = _; rw [hcv.out, hct]
    have hsh' : Hid (shortS rows cols ls = (sh, is, 0)) := by show _ = _; rw [hsh.out, hs1]
    obtain ⟨st, hst⟩ : ∃ st, st = lst (nE ls) R C R := ⟨_, rfl⟩
    rw [← hst] at hmx hli hs2 hs3 hc1
    have hI' := Lib.hid hI
    have hc1' := Lib.hid hc1
    have hc2' := Lib.hid hc2
    have hs2' := Lib.hid hs2
    have hs3' := Lib.hid hs3
    clear hcv hsh hs1 hct hR hC h0 hI hc1 hc2 hs2 hs3 hst hcr hcc hnn
    subst e1 e2 hnR
    have hL' := Lib.hid hL
    clear hL hO
    go_enter Try.func7, Try.ntmps7
    go_upto_region 4 with (go_at_call 20; (with_reducible refine hX.out.mono ?_); rintro e w2 ⟨A1, n1, c1, zs1, er1, rfl, hil1, hm, hb2⟩; obtain ⟨rfl, rfl⟩ := pr_eq hmx.out hm.out; have hO2 := Lib.hid (hO'.out.call hb2); clear m0 m1 m2; obtain ⟨m0, m1, m2⟩ := cells3 hO2.out.b0)
    have hn1 : n1 = n := by have := hil1.1; simp at this; omega
    subst hn1
    have hV2 := Lib.hid (m_cover (n1 : Int) (C : Int) A n1 c ls w2 (hL'.out.below hO2.out.1 (Nat.le_refl _)) hr hc)
    clear hm hX
    go_upto_region 5 with (go_at_call 21; (with_reducible refine hV2.out.mono ?_); rintro e w3 ⟨A2, n2, c2, zs2, A3, n3, c3, zs3, er2, rfl, hil2, hil3, hm, hb3⟩; obtain ⟨rfl, rfl, rfl⟩ := tr_eq hcv'.out hm.out; have hO3 := Lib.hid (hO2.out.call hb3); clear m0 m1 m2; obtain ⟨m0, m1, m2⟩ := cells3 hO3.out.b0)
    have hV3 := Lib.hid (m_short (n1 : Int) (C : Int) A n1 c ls w3 (hL'.out.below hO3.out.1 (Nat.le_refl _)) hr hc (fun R C h => short_ok h))
    clear hm hV2
    go_upto_region 6 with (go_at_call 22; (with_reducible refine hV3.out.mono ?_); rintro e w5 ⟨A4, n4, c4, zs4, is4, er3, rfl, hil4, hm, hb5⟩; obtain ⟨rfl, rfl, rfl⟩ := tr_eq hsh'.out hm.out; have hO5 := Lib.hid (hO3.out.call hb5); clear m0 m1 m2)
    clear hm hV3
    have hi1 := Lib.hid ((hil1.below hb3).below hb5)
    have hi2 := Lib.hid (hil2.below hb5)
    have hi3 := Lib.hid (hil3.below hb5)
    have hi4 := Lib.hid hil4
    have hw5 := Lib.hid hO5.out.1.size
    have hN5 := Lib.hid (hN.below hO5.out.1)
    have hbM5 := Lib.hid hO5.out.b0
    have hlo5 := Lib.hid hO5.out.1
    have hK : Hid (K1 w5 w5.heap.size st.out 0 (w5.alloc (.map #[] 0))) := ⟨(Below.refl _ _).alloc (Nat.le_refl _) _, Nat.le_refl _, 0, 0, Nat.le_refl _, BS.new w5⟩
    clear hil1 hil2 hil3 hil4 hb2 hb3 hb5 hO2 hO3 hO5 hL' hN hO'
    go_upto_region 8 with fail
    obtain ⟨gU, hgU⟩ : ∃ gU, gU = w5.heap.size := ⟨_, rfl⟩
    obtain ⟨w6, hw6⟩ : ∃ w6, w6 = w5.alloc (.map #[] 0) := ⟨_, rfl⟩
    rw [← hw6]
    rw [← hw6, ← hgU] at hK
    rw [← hgU]
    clear hw6 hgU
    go_wp2_with fail
    go_loopw [11, 47] (fun v11 v47 wr => ∃ i : Nat, i ≤ n1 ∧ v47 = .int .i64 (i : Int) ∧ v11 = .int .i64 (cnt st.out i : Int) ∧ Hid (K1 w5 gU st.out i wr)) (fun _ i _ => n1 - (intOf i).toNat)
    case atStart => exact ⟨0, by omega, rfl, rfl, hK⟩
    case round =>
      clear hK
      obtain ⟨i, hi, rfl, rfl, hk⟩ := hrel
      obtain ⟨hlo, hgU, k, cn, hki, hB⟩ := hk.out
      by_cases hlt : i < n1
      · obtain ⟨g1, o1, y, rfl, hg1, hy, hcy⟩ := (hi1.out.below hlo).cell hlt
        have hyo : y = st.out i := by simp [hlt] at hy; exact hy.symm
        subst hyo
        have hcl := cnt_le st.out i
        have hcs : cnt st.out (i + 1) = cnt st.out i + (if 0 ≤ st.out i then 1 else 0) := rfl
        by_cases hneg : st.out i < 0
        · have hneg' : decide (st.out i < 0) = true := by simpa using hneg
          rw [if_neg (by omega)] at hcs
          have hcs' := Lib.hid hcs
          have hk2 : Hid (K1 w5 gU st.out (i + 1) wr) := ⟨hlo, hgU, k, cn, by omega, by rw [usd_skip hneg]; exact hB⟩
          clear hy hcs hneg hB
          go_wp2_with fail
          go_roundw
          case rel => exact ⟨i + 1, by omega, by go_num, by rw [hcs'.out]; go_num, hk2⟩
          case measure => simp [intOf]; omega
        · obtain ⟨x, hx⟩ : ∃ x : Nat, st.out i = (x : Int) := ⟨(st.out i).toNat, by omega⟩
          have hmem := (hli.out.mem i (by omega)).2
          have hus := usd_new hli.out hx
          have hstep := Lib.hid (usd_step hx)
          rw [if_pos (by omega)] at hcs
          rw [hx] at hcy hmem
          rw [Int.toNat_natCast] at hmem
          have hxC := getD_lt hI'.out.2.2.2 hmem
          have hneg' : decide ((x : Int) < 0) = false := by simp
          obtain ⟨gE, oE, l, A', n', c', rfl, hl, hcE, hl1⟩ := (hN5.out.below (hlo.mono hw5.out)).cell hlt
          have hEi : (nE ls).getD i [] = l := by rw [List.getD_eq_getElem?_getD, hl]; rfl
          rw [hEi] at hmem
          have hin := Lib.hid (law13_in A' n' c' _ (x : Int) wr (hl1.il (Nat.le_trans hw5.out hlo.size) (hrl.out l (List.mem_of_getElem? hl))))
          have hct : (l.map fun (k : Nat) => (k : Int)).contains (x : Int) = true := by rw [contains_map]; simpa using hmem
          rw [hct] at hin
          have hlk := hB.look (x := x) (by have := hI'.out.2.1; omega)
          rw [hus] at hlk
          have cM2 : wr.cell? ⟨w.heap.size, 2, none⟩ = some (.slice (some ⟨gE, oE, none⟩) n1 c) := (hbM5.out.call hlo).cell 2
          have hiR : (i : Int) < (n1 : Int) := by omega
          have hcs' := Lib.hid hcs
          have hx' := Lib.hid hx
          clear hy hcs hneg hmem hx hct hus hl hEi hl1
          go_upto_region 14 with (go_at_call 23; (with_reducible refine hin.out.mono ?_); rintro e w7 ⟨rfl, rfl⟩)
          go_wp2_with (at_mapUpdate; refine wpList_upS _ rfl _ _ _ rfl gU k (usd st.out i) cn rfl hB (by unfold maxLen; omega) x rfl rfl (by have := hI'.out.2.1; omega) ?_; intro w8 hB8 hg8)
          rw [← hstep.out] at hB8
          have hk2 : Hid (K1 w5 gU st.out (i + 1) w8) := ⟨hlo.grown hg8 hlo.size (fun b hb => by injection hb with hb; omega), hgU, k + 1, _, by omega, hB8⟩
          go_roundw
          case rel => exact ⟨i + 1, by omega, by go_num, by rw [hcs'.out]; go_num, hk2⟩
          case measure => simp [intOf]; omega
      · have hin : n1 = i := by omega
        subst hin
        have hn2 := hi2.out.2.1
        have hn3 := hi3.out.2.1
        have hP := cnt_le st.out n1
        obtain ⟨P, hPe⟩ : ∃ P, P = cnt st.out n1 := ⟨_, rfl⟩
        have hsum : P = n2 + n3 := by
          have h1 := hc1'.out
          rw [hi2.out.1, hi3.out.1] at h1
          omega
        have hs4 := hs2'.out
        rw [← hPe] at hs4 hP ⊢
        have hne : (is4 == decide (P < n1)) = true := by rw [hs4]; simp
        have hne2 : ((P : Int) != (n2 : Int) + (n3 : Int)) = false := by rw [hsum]; simp
        have cM0 : wr.cell? ⟨w.heap.size, 0, none⟩ = some (.int .i64 (n1 : Int)) := (hbM5.out.call hlo).cell 0
        have cM2 : wr.cell? ⟨w.heap.size, 2, none⟩ = some (.slice A n1 c) := (hbM5.out.call hlo).cell 2
        have hlo' := Lib.hid hlo
        have hsum' := Lib.hid hsum
        have hs4' := Lib.hid hs4
        have hPe' := Lib.hid hPe
        clear hB hk hsum hs4 hPe
        go_upto_region 19 with fail
        obtain ⟨w7, hw7⟩ : ∃ w7, w7 = wr := ⟨wr, rfl⟩
        subst hw7
        have hN7 := Lib.hid (hN5.out.below (hlo'.out.mono hw5.out))
        have hj2 := Lib.hid (hi2.out.below hlo'.out)
        have hj3 := Lib.hid (hi3.out.below hlo'.out)
        have hj4 := Lib.hid (hi4.out.below hlo'.out)
        have hbM7 := Lib.hid (hbM5.out.call hlo'.out)
        have hw7 := Lib.hid (Nat.le_trans hw5.out hlo'.out.size)
        have hlo7 := Lib.hid (hlo5.out.trans (hlo'.out.mono hw5.out))
        clear hlo hgU hki hlt hi1 hi2 hi3 hi4 hN5 hbM5 hlo5 hw5 hlo' hne hne2 cM0
        go_wp2_with fail
        go_loopw [90] (fun v90 w8 => K2 w7 n1 v90 w8) (fun i _ => n1 - (intOf i).toNat)
        case atStart => exact ⟨rfl, 0, by omega, rfl⟩
        case round =>
          obtain ⟨rfl, i, hi, rfl⟩ := hrel
          by_cases hlt : i < n1
          · obtain ⟨gE, oE, l, A', n', c', rfl, hl, hcE, hl1⟩ := hN7.out.cell hlt
            have hEi : (nE ls).getD i [] = l := by rw [List.getD_eq_getElem?_getD, hl]; rfl
            have hlen := Lib.hid hl1.1
            have hln := hl1.2.1
            have hcov : Hid (∀ k, k ∈ l → (i : Int) ∈ zs2 ∨ (k : Int) ∈ zs3) := fun k hk => hc2'.out i k hlt (by rw [hEi]; exact hk)
            clear hl hEi
            go_wp2_with fail
            go_loopw [97] (fun v97 w8 => K2 w7 n' v97 w8) (fun i _ => n' - (intOf i).toNat)
            case atStart => exact ⟨rfl, 0, by omega, rfl⟩
            case round =>
              obtain ⟨rfl, j, hj, rfl⟩ := hrel
              by_cases hjl : j < n'
              · obtain ⟨gl, ol, k, hA', hk, hck⟩ := hl1.cell hjl
                subst hA'
                have hin2 := Lib.hid (law13_in A2 n2 c2 zs2 (i : Int) w7 hj2.out)
                have hin3 := Lib.hid (law13_in A3 n3 c3 zs3 (k : Int) w7 hj3.out)
                have hor := hcov.out k (List.mem_of_getElem? hk)
                clear hk
                cases hc2 : zs2.contains (i : Int)
                · have hc3 : zs3.contains (k : Int) = true := by
                    rcases hor with h | h
                    · rw [← List.contains_iff_mem, hc2] at h; cases h
                    · exact List.contains_iff_mem.2 h
                  rw [hc2] at hin2
                  rw [hc3] at hin3
                  clear hc2 hc3 hor
                  go_wp2_with (first
                    | (go_at_call 23; (with_reducible refine hin2.out.mono ?_); rintro e w9 ⟨rfl, rfl⟩)
                    | (go_at_call 23; (with_reducible refine hin3.out.mono ?_); rintro e w9 ⟨rfl, rfl⟩))
                  go_roundw
                  case rel => exact ⟨rfl, j + 1, by omega, by go_num⟩
                  case measure => simp [intOf]; omega
                · rw [hc2] at hin2
                  clear hc2 hor
                  go_wp2_with (first
                    | (go_at_call 23; (with_reducible refine hin2.out.mono ?_); rintro e w9 ⟨rfl, rfl⟩))
                  go_roundw
                  case rel => exact ⟨rfl, j + 1, by omega, by go_num⟩
                  case measure => simp [intOf]; omega
              · go_wp2_with fail
                go_roundw
                case rel => exact ⟨rfl, i + 1, by omega, by go_num⟩
                case measure => simp [intOf]; omega
          · have hin : i = n1 := by omega
            clear hin
            cases is4
            · go_wp2_with (go_at_call 14; refine (law13_known _).mono ?_; rintro e w9 ⟨rfl, hb9⟩)
              go_ret
              exact ⟨rfl, hlo7.out.trans (hb9.mono hlo7.out.size)⟩
            · obtain ⟨hz4, hcnt⟩ := hs3'.out rfl
              have hn4 : zs4.length = n4 := hj4.out.1
              have hn4b : n4 ≤ 64 := by
                have := shl_len (shS (nE ls) n1 st.out) n1
                rw [← hz4, hn4] at this
                omega
              have hcnt' : cs' C (met (nE ls) (shS (nE ls) n1 st.out) n1) + 1 = n4 := by rw [← hn4]; exact hcnt
              have hz4' := Lib.hid hz4
              have hcnt2 := Lib.hid hcnt'
              have hn4' := Lib.hid hn4
              have hK : Hid (K3 w7 w7.heap.size C (acc (nE ls) zs4 0 [] 0) 0 (w7.alloc (.map #[] 0))) := ⟨(Below.refl _ _).alloc (Nat.le_refl _) _, Nat.le_refl _, 0, Nat.le_refl _, by
                have e : acc (nE ls) zs4 0 [] 0 = fun _ => false := by funext k; simp [acc]
                rw [e, cs_none]
                exact BS.new w7⟩
              clear hz4 hcnt hcnt' hn4 cM2
              go_upto_region 31 with fail
              obtain ⟨gA, hgA⟩ : ∃ gA, gA = w7.heap.size := ⟨_, rfl⟩
              obtain ⟨w8, hw8⟩ : ∃ w8, w8 = w7.alloc (.map #[] 0) := ⟨_, rfl⟩
              rw [← hw8]
              rw [← hw8, ← hgA] at hK
              rw [← hgA]
              clear hw8 hgA
              go_wp2_with fail
              go_loopw [117] (fun v117 w9 => ∃ j : Nat, j ≤ n4 ∧ v117 = .int .i64 (j : Int) ∧ Hid (K3 w7 gA C (acc (nE ls) zs4 j [] 0) (64 * j) w9)) (fun j _ => n4 - (intOf j).toNat)
              case atStart => exact ⟨0, by omega, rfl, hK⟩
              case round =>
                clear hK
                obtain ⟨j, hj, rfl, hk⟩ := hrel
                obtain ⟨hlo, hgA, kk, hkk, hB⟩ := hk.out
                by_cases hjl : j < n4
                · obtain ⟨g4, o4, y, rfl, hg4, hy, hcy⟩ := (hj4.out.below hlo).cell hjl
                  obtain ⟨ii, hii, -, rfl⟩ := mem_shl.1 (by rw [← hz4'.out]; exact List.mem_of_getElem? hy)
                  obtain ⟨gE, oE, l, A', n', c', rfl, hl, hcE, hl1⟩ := (hN7.out.below (hlo.mono hw7.out)).cell hii
                  have hEi : (nE ls).getD ii [] = l := by rw [List.getD_eq_getElem?_getD, hl]; rfl
                  have hll : Hid (∀ k ∈ l, k < C) := hI'.out.2.2.2 l (List.mem_of_getElem? hl)
                  have hl64 := hrl.out l (List.mem_of_getElem? hl)
                  have hlen := Lib.hid hl1.1
                  have hln := hl1.2.1
                  have hn64 : n' ≤ 64 := by have := hl1.1; omega
                  have cM2 : wr.cell? ⟨w.heap.size, 2, none⟩ = some (.slice (some ⟨gE, oE, none⟩) n1 c) := (hbM7.out.call hlo).cell 2
                  have hiR : (ii : Int) < (n1 : Int) := by omega
                  have hl1' := Lib.hid hl1
                  have hout : Hid (∀ m, l.length ≤ m → acc (nE ls) zs4 j l m = acc (nE ls) zs4 (j + 1) [] 0) := fun m hm => acc_out hy hEi hm
                  have hK : Hid (K3 w7 gA C (acc (nE ls) zs4 j l 0) (64 * j + 0) wr) := ⟨hlo, hgA, kk, by omega, by rw [acc_in]; exact hB⟩
                  have hl2 : Hid (∀ wx, Below w7.heap.size w7 wx → N1 w.heap.size wx A' n' c' l) := fun wx hb => by
                    obtain ⟨g5, o5, l5, A5, n5, c5, h5, hl5, hcE5, hl15⟩ := (hN7.out).cell hii
                    have e1 : l5 = l := by rw [hl] at hl5; exact (Option.some.inj hl5).symm
                    have e2 : g5 = gE ∧ o5 = oE := by simp at h5; exact ⟨h5.1.symm, h5.2.symm⟩
                    have h6 := ((hlo.mono hw7.out).cell (p := ⟨g5, o5 + ii, none⟩) (by
                      rcases hN7.out.2.2 with h0 | ⟨g, o, h0, h1, -⟩
                      · omega
                      · rw [h5] at h0
                        have e : g5 = g := by simp at h0; exact h0.1
                        show g5 < w.heap.size
                        omega)).trans hcE5
                    rw [e2.1, e2.2, hcE] at h6
                    injection h6 with h6
                    injection h6 with f1 f2 f3
                    rw [f1, f2, f3, ← e1]
                    exact hl15.below (hb.mono hw7.out)
                  clear hl hEi hy hB hk hl1
                  go_wp2_with fail
                  go_loopw [127] (fun v127 w9 => ∃ m : Nat, m ≤ n' ∧ v127 = .int .i64 (m : Int) ∧ Hid (K3 w7 gA C (acc (nE ls) zs4 j l m) (64 * j + m) w9)) (fun m _ => n' - (intOf m).toNat)
                  case atStart => exact ⟨0, by omega, rfl, hK⟩
                  case round =>
                    clear hK cM2 hcy hcE
                    obtain ⟨m, hm, rfl, hk⟩ := hrel
                    obtain ⟨hlo, hgA, kk, hkk, hB⟩ := hk.out
                    by_cases hml : m < n'
                    · obtain ⟨gl, ol, x, hA', hx, hcx⟩ := (hl2.out _ hlo).cell hml
                      subst hA'
                      have hxC := hll.out x (List.mem_of_getElem? hx)
                      have hst := Lib.hid (acc_step (E := nE ls) (zs := zs4) (j := j) hx)
                      clear hx
                      go_wp2_with (at_mapUpdate; refine wpList_upS _ rfl _ _ _ rfl gA kk (acc (nE ls) zs4 j l m) (cs' C (acc (nE ls) zs4 j l m)) rfl hB (by unfold maxLen; omega) x rfl rfl (by omega) ?_; intro w10 hB10 hg10)
                      rw [← cs_upd _ hxC, ← hst.out] at hB10
                      have hk2 : Hid (K3 w7 gA C (acc (nE ls) zs4 j l (m + 1)) (64 * j + (m + 1)) w10) := ⟨hlo.grown hg10 hlo.size (fun b hb => by injection hb with hb; omega), hgA, kk + 1, by omega, hB10⟩
                      go_roundw
                      case rel => exact ⟨m + 1, by omega, by go_num, hk2⟩
                      case measure => simp [intOf]; omega
                    · have hmn : l.length ≤ m := by have := hlen.out; omega
                      have hk2 : Hid (K3 w7 gA C (acc (nE ls) zs4 (j + 1) [] 0) (64 * (j + 1)) wr) := ⟨hlo, hgA, kk, by omega, by rw [← hout.out _ hmn]; exact hB⟩
                      go_wp2_with fail
                      go_roundw
                      case rel => exact ⟨j + 1, by omega, by go_num, hk2⟩
                      case measure => simp [intOf]; omega
                · have hjn : j = n4 := by omega
                  have hce : cs' C (acc (nE ls) zs4 j [] 0) = cs' C (met (nE ls) (shS (nE ls) n1 st.out) n1) := cs_congr fun k _ => by
                    have h1 := acc_end (E := nE ls) (s := shS (nE ls) n1 st.out) (n := n1) (k := k)
                    rw [← hz4'.out, hn4'.out, ← hjn] at h1
                    exact h1
                  obtain ⟨cn, hcn⟩ : ∃ cn, cn = cs' C (acc (nE ls) zs4 j [] 0) := ⟨_, rfl⟩
                  have hml := fun ty => hB.len ty
                  rw [← hcn] at hml
                  have hc4 : n4 = cn + 1 := by have := hcnt2.out; omega
                  have hwr : IntKind.i64.wrap ((n4 : Int) - 1) = (cn : Int) := by rw [IntKind.wrap_i64]; omega
                  have hwr2 : (n4 : Int) - 1 = (cn : Int) := by omega
                  have hlo8 := Lib.hid (hlo7.out.trans (hlo.mono hw7.out))
                  clear hcn hce hB hk
                  have hc4' := Lib.hid hc4
                  clear hc4
                  go_wp2_with (go_at_call 14; refine (law13_known _).mono ?_; rintro e w11 ⟨rfl, hb11⟩)
                  go_ret
                  exact ⟨rfl, hlo8.out.trans (hb11.mono hlo8.out.size)⟩
  · have hmx : Hid (maxS rows cols ls = ([], 1)) := if_neg (by rw [h1]; omega)
    clear h1 hO
    go_enter Try.func7, Try.ntmps7
    go_wp2_with (first
      | (go_at_call 20; (with_reducible refine hX.out.mono ?_); rintro e w2 ⟨A1, n1, c1, zs1, er1, rfl, hil1, hm, hb2⟩; obtain ⟨rfl, rfl⟩ := pr_eq hmx.out hm.out; have hO2 := Lib.hid (hO'.out.call hb2))
      | (go_at_call 14; refine (law13_known _).mono ?_; rintro e w9 ⟨rfl, hb9⟩))
    go_ret
    exact ⟨rfl, (hO2.out.call hb9).1⟩

end Go.Proofs.Ytjbhnfejpgjghaa
