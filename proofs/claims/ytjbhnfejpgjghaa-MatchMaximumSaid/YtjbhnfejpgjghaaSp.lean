/- The reference's Short: the walk. -/
import Derived.Test.YtjbhnfejpgjghaaSn
import Derived.Test.YtjbhnfejpgjghaaQh
namespace Go.Proofs.Ytjbhnfejpgjghaa
open Go.RowKit
set_option linter.unusedSimpArgs false
set_option linter.unusedVariables false

structure SZ (w : World) (m : Array Value) (gL gR R C : Nat) (out rw : Nat → Int) (wr : World) : Prop where
  own : Own w [(33, m)] wr
  rl : RF wr gL R out
  rr : RF wr gR C rw
  ge : w.heap.size + 1 ≤ gL ∧ w.heap.size + 1 ≤ gR ∧ gL ≠ gR
section
variable {w : World} {m : Array Value} {gL gR R C : Nat} {out rw : Nat → Int} {wr w9 : World}
theorem SZ.call (h : SZ w m gL gR R C out rw wr) (hb : Below wr.heap.size wr w9) : SZ w m gL gR R C out rw w9 := ⟨h.own.call hb, h.rl.call hb, h.rr.call hb, h.ge⟩
theorem SZ.fr (h : SZ w m gL gR R C out rw wr) {xs : List Nat} (hf : Fr xs wr w9) (hx : ∀ x ∈ xs, w.heap.size + 1 ≤ x ∧ x ≠ gL ∧ x ≠ gR) : SZ w m gL gR R C out rw w9 :=
  ⟨h.own.fr hf (fun x hm => by have := hx x hm; simp only [List.length_cons, List.length_nil]; omega), h.rl.fr hf (fun hm => (hx _ hm).2.1 rfl), h.rr.fr hf (fun hm => (hx _ hm).2.2 rfl), h.ge⟩
theorem SZ.setR (h : SZ w m gL gR R C out rw wr) (k : Nat) (x : Int) : SZ w m gL gR R C out (upd rw k x) (wr.setCell ⟨gR, k, none⟩ (.int .i64 x)) := by
  have hf : Fr [gR] wr (wr.setCell ⟨gR, k, none⟩ (.int .i64 x)) := (Fr.refl _ _).set (by simp) _
  have := h.ge
  exact ⟨h.own.fr hf (by simp; omega), h.rl.other h.ge.2.2 _ _, h.rr.set k x, h.ge⟩
end

theorem idx_first {out : Nat → Int} {R i0 : Nat} {x : Int} (h : i0 < R) (e : out i0 = x) (hn : ∀ j, j < i0 → out j ≠ x) : Lib.idxOf ((List.range R).map out) x = (i0 : Int) := by
  have hg : ∀ j, j < R → ((List.range R).map out).getD j 0 = out j := fun j hj => by simp [List.getD_eq_getElem?_getD, hj]
  have ht : ((List.range R).map out).take R = (List.range R).map out := List.take_of_length_le (by simp)
  have := Lib.idxOf_hit ((List.range R).map out) R i0 x h (by simp) (by rw [hg i0 h]; exact e) (fun j hj => by rw [hg j (by omega)]; exact hn j hj)
  rwa [ht] at this
theorem qrow_one (w : World) (x : Int) : QRow (w.alloc (.cells #[.int .i64 x] 3)) w.heap.size (.slice (some ⟨w.heap.size, 0, none⟩) 1 1) [x] :=
  ⟨w.heap.size, 0, 1, #[.int .i64 x], rfl, Nat.le_refl _, heap_alloc_new w _, by simp, by simp, fun j y hj => by
    cases j with
    | zero => have e : x = y := by simpa using hj
              rw [e]; rfl
    | succ j => simp at hj⟩

/-- the first row without a column, from n on -/
def Fst (out : Nat → Int) (R n : Nat) (v : Value) : Prop := (v = .int .i64 (-1) ∧ ∀ r, n ≤ r → r < R → 0 ≤ out r) ∨ ∃ i0 : Nat, v = .int .i64 (i0 : Int) ∧ n ≤ i0 ∧ i0 < R ∧ out i0 < 0 ∧ ∀ r, n ≤ r → r < i0 → 0 ≤ out r
theorem Fst.none {out : Nat → Int} {R n : Nat} {v : Value} (h : Fst out R (n + 1) v) (hp : 0 ≤ out n) : Fst out R n v := by
  rcases h with ⟨h1, h2⟩ | ⟨i0, h1, h2, h3, h4, h5⟩
  · refine .inl ⟨h1, fun r hr hR => ?_⟩
    by_cases e : r = n
    · rw [e]; exact hp
    · exact h2 r (by omega) hR
  · refine .inr ⟨i0, h1, by omega, h3, h4, fun r hr hlt => ?_⟩
    by_cases e : r = n
    · rw [e]; exact hp
    · exact h5 r (by omega) hlt
theorem Fst.at {out : Nat → Int} {R n : Nat} (hn : n < R) (hp : out n < 0) : Fst out R n (.int .i64 (n : Int)) := .inr ⟨n, rfl, Nat.le_refl _, hn, hp, fun r h1 h2 => by omega⟩
/-- the rows of the columns, from n on -/
def Rws (out rw : Nat → Int) (R n : Nat) : Prop := ∀ r, n ≤ r → r < R → 0 ≤ out r → rw (out r).toNat = (r : Int)
theorem Rws.none {out rw : Nat → Int} {R n : Nat} (h : Rws out rw R (n + 1)) (hp : out n < 0) : Rws out rw R n := fun r hr hR h0 => by
  by_cases e : r = n
  · subst e; omega
  · exact h r (by omega) hR h0
theorem Rws.at {out rw : Nat → Int} {R n : Nat} (h : Rws out rw R (n + 1)) (hinj : ∀ r r', 0 ≤ out r → out r = out r' → r = r') (hp : 0 ≤ out n) : Rws out (upd rw (out n).toNat (n : Int)) R n := fun r hr hR h0 => by
  by_cases e : r = n
  · rw [e, upd_same]
  · rw [upd_other _ _ _ _ (fun e2 => e (hinj r n h0 (by omega)))]
    exact h r (by omega) hR h0

structure SY (w : World) (m : Array Value) (gL gR gI B7 R C : Nat) (out rw : Nat → Int) (f : Nat → Bool) (v : Value) (q : List Nat) (wr : World) : Prop where
  sz : SZ w m gL gR R C out rw wr
  ri : RO wr gI R f
  td : QRow wr B7 v (ti q)
  lt : gL < B7 ∧ gR < B7 ∧ gI < B7 ∧ gI ≠ gL ∧ gI ≠ gR ∧ w.heap.size + 1 ≤ gI ∧ w.heap.size + 1 ≤ B7
  b7 : B7 ≤ wr.heap.size
section
variable {w : World} {m : Array Value} {gL gR gI B7 R C : Nat} {out rw : Nat → Int} {f : Nat → Bool} {v : Value} {q : List Nat} {wr w9 : World}
theorem SY.call (h : SY w m gL gR gI B7 R C out rw f v q wr) (hb : Below wr.heap.size wr w9) : SY w m gL gR gI B7 R C out rw f v q w9 := ⟨h.sz.call hb, h.ri.call hb, h.td.call hb, h.lt, Nat.le_trans h.b7 hb.size⟩
theorem SY.setI (h : SY w m gL gR gI B7 R C out rw f v q wr) (i : Nat) (b : Bool) : SY w m gL gR gI B7 R C out rw (upd f i b) v q (wr.setCell ⟨gI, i, none⟩ (.bool b)) := by
  have hf : Fr [gI] wr (wr.setCell ⟨gI, i, none⟩ (.bool b)) := (Fr.refl _ _).set (by simp) _
  have hl := h.lt
  refine ⟨h.sz.fr hf (fun x hx => ?_), h.ri.set i b, h.td.far hl.2.2.1 _ _, hl, Nat.le_trans h.b7 hf.size⟩
  obtain rfl : x = gI := by simpa using hx
  omega
theorem SY.push (h : SY w m gL gR gI B7 R C out rw f v q wr) {i : Nat} {v' : Value} (hr : QRow w9 B7 v' (ti q ++ [(i : Int)])) (hg : wr.grownBy w9 v.ownBlock) : SY w m gL gR gI B7 R C out rw f v' (q ++ [i]) w9 := by
  have hf : Fr (obs v) wr w9 := Fr.grown hg
  have hat : ∀ x ∈ obs v, B7 ≤ x := fun x hx => (h.td.at (mem_obs.1 hx)).1
  have hl := h.lt
  exact ⟨h.sz.fr hf (fun x hx => by have := hat x hx; omega), h.ri.fr hf (fun hm => by have := hat _ hm; omega), by rw [ti_snoc]; exact hr, hl, Nat.le_trans h.b7 hf.size⟩
end

set_option maxRecDepth 100000 in
set_option maxHeartbeats 4000000 in
theorem ref_short (rows cols : Int) (A : Option Addr) (n c : Nat) (ls : List (List Int)) (w : World) (hL : L2 w A n c ls) (hr : In64 rows) (hc : In64 cols) :
    Calls Try.prog 30 #[.agg #[.int .i64 rows, .int .i64 cols, .slice A n c]] w (PSt rows cols ls w) := by
  have hO := Own.one w 33 #[.int .i64 rows, .int .i64 cols, .slice A n c]
  have hV := ref_validate rows cols A n c ls _ (hL.below hO.1 (Nat.le_refl _)) hr hc
  have hO' := Lib.hid hO
  rcases vErr_two rows cols ls with h0 | h1
  · rw [h0] at hV
    have hV' := Lib.hid hV
    obtain ⟨i0, hi0, hz0, hz1, hz2⟩ := info_parts infoI
    obtain ⟨j0, hj0, yz0, yz1, yz2⟩ := infoB_parts
    obtain ⟨e1, e2, hI, hnn⟩ := inc_of h0
    have hN := n2_of hL hnn
    have hS : Hid (shortS rows cols ls = shortT (nE ls) rows.toNat (lst (nE ls) rows.toNat cols.toNat rows.toNat).out) := if_pos h0
    unfold PSt
    obtain ⟨S, hS2⟩ : ∃ S, S = shortS rows cols ls := ⟨_, rfl⟩
    rw [← hS2] at hS ⊢
    obtain ⟨R, hR⟩ : ∃ R, R = rows.toNat := ⟨_, rfl⟩
    obtain ⟨C, hC⟩ : ∃ C, C = cols.toNat := ⟨_, rfl⟩
    obtain ⟨E, hE⟩ : ∃ E, E = nE ls := ⟨_, rfl⟩
    rw [← hR, ← hC, ← hE] at hS hI
    rw [← hR] at e1
    rw [← hC] at e2
    rw [← hE] at hN
    obtain ⟨X, hX1, hX2⟩ := short_reg (R := R) hI.2.2.2
    have hli := lst_li (R := R) hI.2.2.2 R (Nat.le_refl _)
    have hinj := Lib.hid hli.inj
    have hrn := Lib.hid hli.rn
    have hmem := Lib.hid hli.mem
    obtain ⟨out, hout⟩ : ∃ out, out = (lst E R C R).out := ⟨_, rfl⟩
    rw [← hout] at hX1 hX2 hinj hrn hmem hS
    have hX1' := Lib.hid hX1
    have hX2' := Lib.hid hX2
    have hout' := Lib.hid hout
    have hI' := Lib.hid hI
    have hR64 := hI.1
    have hC64 := hI.2.1
    have hnR : n = R := by have := hN.1; have := hI.2.2.1; omega
    clear hV hI hS2 hR hC hE h0 hX1 hX2 hout hli
    subst e1 e2 hnR
    go_enter Try.func30, Try.ntmps30
    go_upto_region 5 with (first
      | (go_at_call 28; (with_reducible refine hV'.out.mono ?_); rintro e w2 ⟨rfl, hb2⟩; have hO2 := Lib.hid (hO'.out.call hb2); obtain ⟨m0, m1, m2⟩ := cells3 hO2.out.b0)
      | (go_at_call 54; refine (ref_least n C E hI'.out w.heap.size A c _ hO2.out.1.size (hN.below hO2.out.1)).mono ?_; rintro e w3 ⟨gL, hgL, rfl, hrf, hb3⟩; rw [← hout'.out] at hrf; have hO3 := Lib.hid (hO2.out.call hb3)))
    clear m0 m1 m2
    obtain ⟨m0, m1, m2⟩ := cells3 hO3.out.b0
    go_upto_region 6 with (at_make; refine wpList_make_full _ rfl _ _ 23 rfl w3.heap.size 3 i0 (.int .i64 0) 1 Try.underlying23 hi0 hz0 hz1 .i64 .i64 _ _ C rfl rfl (by rfl) (by rfl) (by rw [hz2]; omega) (by simp [maxLen]; omega) (Nat.le_refl _) ?_; intro w4 hown4 hg4)
    have hb4 : Below w3.heap.size w3 w4 := (Below.refl _ _).grown hg4 (Nat.le_refl _) (by intro k hk; cases hk)
    obtain ⟨gR, hgR⟩ : ∃ gR, gR = w3.heap.size := ⟨_, rfl⟩
    have hZ4 : Hid (SZ w #[.int .i64 (n : Int), .int .i64 (C : Int), .slice A n c] gL gR n C out (fun _ => 0) w4) := by
      have h1 : w.heap.size + 1 ≤ w2.heap.size := hO2.out.2.1
      have h2 := hb3.size
      exact ⟨hO3.out.call hb4, hrf.call hb4, by rw [hgR]; exact raw_rf hown4, ⟨by omega, by omega, by have := hrf.lt; omega⟩⟩
    rw [← hgR]
    clear m0 m1 m2 hgR hown4 hg4 hb4 hrf hb3 hgL hO2 hO3 hb2
    obtain ⟨m0, m1, m2⟩ := cells3 hZ4.out.own.b0
    go_wp2_with fail
    clear m0 m1 m2
    go_loopw [8, 9] (fun v8 v9 wr => ∃ (p : Nat) (rw : Nat → Int), p ≤ n ∧ v9 = .int .i64 ((p : Int) - 1) ∧ Hid (SZ w #[.int .i64 (n : Int), .int .i64 (C : Int), .slice A n c] gL gR n C out rw wr) ∧ Hid (Fst out n p v8) ∧ Hid (Rws out rw n p)) (fun _ i _ => (intOf i + 1).toNat)
    case atStart => exact ⟨n, _, by omega, rfl, hZ4, .inl ⟨rfl, fun r h1 h2 => by omega⟩, fun r h1 h2 => by omega⟩
    case round =>
      clear hZ4
      obtain ⟨p, rw, hp, rfl, hZ, hF, hW⟩ := hrel
      by_cases hp0 : 0 < p
      · obtain ⟨i, rfl⟩ : ∃ i, p = i + 1 := ⟨p - 1, by omega⟩
        have hin : i < n := by omega
        have hii : ((i + 1 : Nat) : Int) - 1 = (i : Int) := by omega
        rw [hii]
        have hini : (i : Int) < (n : Int) := by omega
        have hge : decide (0 ≤ (i : Int)) = true := by simp
        have cLi := hZ.out.rl.cell hin
        clear hii
        by_cases ho : out i < 0
        · have ho' : decide (out i < 0) = true := by simpa using ho
          have hF2 : Hid (Fst out n i (.int .i64 (i : Int))) := Fst.at hin ho
          have hW2 : Hid (Rws out rw n i) := hW.out.none ho
          go_wp2_with fail
          go_roundw
          case rel => exact ⟨i, rw, by omega, rfl, hZ, hF2, hW2⟩
          case measure => simp [intOf] <;> omega
        · have ho' : decide (out i < 0) = false := by simpa using ho
          obtain ⟨k, hk⟩ : ∃ k : Nat, out i = (k : Int) := ⟨(out i).toNat, by omega⟩
          have hkC : k < C := by
            have h := (hmem.out i (by omega)).2
            rw [hk, Int.toNat_natCast, List.getD_eq_getElem?_getD, List.getElem?_eq_getElem (show i < E.length by rw [hI'.out.2.2.1]; omega)] at h
            exact hI'.out.2.2.2 _ (List.getElem_mem _) k h
          have hkCi : (k : Int) < (C : Int) := by omega
          have hF2 : Hid (Fst out n i u8) := hF.out.none (by omega)
          have hW2 : Hid (Rws out (upd rw k (i : Int)) n i) := by
            have h := hW.out.at hinj.out (by omega)
            rw [hk, Int.toNat_natCast] at h
            exact h
          rw [hk] at cLi ho'
          have cRk := hZ.out.rr.cell hkC
          have fRk := hZ.out.rr.frozen k
          have hZ2 := Lib.hid (hZ.out.setR k (i : Int))
          clear hk ho
          go_wp2_with fail
          go_roundw
          case rel => exact ⟨i, _, by omega, rfl, hZ2, hF2, hW2⟩
          case measure => simp [intOf] <;> omega
      · obtain rfl : p = 0 := by omega
        rw [show ((0 : Nat) : Int) - 1 = -1 from rfl]
        rcases hF.out with ⟨rfl, hno⟩ | ⟨i0, rfl, -, hin, hon, hfi⟩
        · have hS2 : Hid (S = ([], false, 0)) := by
            show _ = _
            rw [hS.out, shortT, if_pos]
            rcases idx_cases out n (-1) with ⟨k, hk, ek, -⟩ | ⟨-, e⟩
            · have := hno k (by omega) hk
              omega
            · omega
          clear hno hF
          go_wp2_with fail
          go_ret3
          exact ⟨_, _, _, _, _, _, rfl, IL.nil _, hS2, hZ.out.own.1⟩
        · have hix : Hid (Lib.idxOf ((List.range n).map out) (-1) = (i0 : Int)) := idx_first hin (by have := hrn.out i0; omega) (fun j hj e => by have := hfi j (by omega) hj; omega)
          have hX0 : Hid (X i0) := hX1'.out i0 hin hon
          have hnx : Hid (∀ i, X i → ∀ k ∈ E.getD i [], rw k = (nxt out n k : Int) ∧ nxt out n k < n) := fun i hx k hk => by
            obtain ⟨-, ⟨q1, q2⟩, -⟩ := (hX2'.out i hx).2 k hk
            refine ⟨?_, q1⟩
            have := hW.out (nxt out n k) (by omega) q1 (by omega)
            rw [q2, Int.toNat_natCast] at this
            exact this
          have hrx : Hid (∀ r, Rr E (nxt out n) i0 r → X r) := fun r h => by
            induction h with
            | start => exact hX0.out
            | step i k _ hk ih => exact ((hX2'.out i ih).2 k hk).2.2
          have hS2 : Hid (S = (shl (goS E (nxt out n) (n + 1) i0 (fun _ => false)) n, true, 0)) := by
            show _ = _
            rw [hS.out, shortT, if_neg (by rw [hix.out]; omega), hix.out, Int.toNat_natCast]
          have hgs : Hid (∀ r, goS E (nxt out n) (n + 1) i0 (fun _ => false) r = true ↔ Rr E (nxt out n) i0 r) := fun r => goS_spec (X := X) (fun r hx => ⟨(hX2'.out r hx).1, fun k hk => ((hX2'.out r hx).2 k hk).2.2⟩) i0 hX0.out r
          have hlt0 : decide ((i0 : Int) < 0) = false := by simp
          have hini : (i0 : Int) < (n : Int) := by omega
          obtain ⟨m0, m1, m2⟩ := cells3 hZ.out.own.b0
          clear hon hfi hF hW hS
          go_upto_region 16 with (at_make; refine wpList_make_full _ rfl _ _ 67 rfl wr.heap.size 4 j0 (.bool false) 1 Try.underlying67 hj0 yz0 yz1 .i64 .i64 _ _ n rfl rfl (by rfl) (by rfl) (by rw [yz2]; omega) (by simp [maxLen]; omega) (Nat.le_refl _) ?_; intro w5 hown5 hg5)
          have hb5 : Below wr.heap.size wr w5 := (Below.refl _ _).grown hg5 (Nat.le_refl _) (by intro k hk; cases hk)
          have hZ5 := hZ.out.call hb5
          have hrI5 := raw_ro hown5
          obtain ⟨gI, hgI⟩ : ∃ gI, gI = wr.heap.size := ⟨_, rfl⟩
          have hlo : Hid (w.heap.size + 1 ≤ gI ∧ gI ≠ gL ∧ gI ≠ gR) := by
            show _ ∧ _
            have h1 : w.heap.size + 1 ≤ wr.heap.size := hZ.out.own.2.1
            have h2 := hZ.out.rl.lt
            have h3 := hZ.out.rr.lt
            omega
          rw [← hgI] at hrI5 ⊢
          clear hgI
          have cI0 := hrI5.cell hin
          have fI0 := hrI5.frozen i0
          clear m0 m1 m2 hown5 hg5
          go_upto_region 17 with fail
          obtain ⟨w6, hw6⟩ : ∃ w6, w6 = w5.setCell ⟨gI, i0, none⟩ (.bool true) := ⟨_, rfl⟩
          have hf6 : Fr [gI] w5 w6 := by rw [hw6]; exact (Fr.refl _ _).set (by simp) _
          have hrI6 : RO w6 gI n (upd (fun _ => false) i0 true) := by rw [hw6]; exact hrI5.set i0 true
          have hZ6 := hZ5.fr hf6 (fun x hx => by (have e : x = gI := by simpa using hx); (have := hlo.out); omega)
          have hba : Below w6.heap.size w6 (w6.alloc (.cells #[.int .i64 (i0 : Int)] 3)) := (Below.refl _ _).alloc (Nat.le_refl _) _
          have hQ0 := qrow_one w6 (i0 : Int)
          have hY : Hid (SY w #[.int .i64 (n : Int), .int .i64 (C : Int), .slice A n c] gL gR gI w6.heap.size n C out rw (upd (fun _ => false) i0 true) (.slice (some ⟨w6.heap.size, 0, none⟩) 1 1) [i0] (w6.alloc (.cells #[.int .i64 (i0 : Int)] 3))) := by
            have h1 := hZ6.rl.lt
            have h2 := hZ6.rr.lt
            have h3 := hrI6.lt
            exact ⟨hZ6.call hba, hrI6.call hba, hQ0, ⟨h1, h2, h3, hlo.out.2.1, hlo.out.2.2, hlo.out.1, by have := hlo.out.1; omega⟩, by simp⟩
          have hQ : Hid (SQ E (nxt out n) n i0 [] [i0] (upd (fun _ => false) i0 true)) := SQ.start hin
          rw [← hw6]
          clear hw6 cI0 fI0 hZ5 hrI5 hf6 hrI6 hZ6 hba hQ0 hZ hb5 hlo
          go_upto_region 18 with fail
          obtain ⟨B7, hB7⟩ : ∃ B7, B7 = w6.heap.size := ⟨_, rfl⟩
          rw [← hB7] at hY ⊢
          clear hB7
          go_loopg [11] n (fun gk v11 wr => ∃ (d q : List Nat) (f : Nat → Bool), Hid (SY w #[.int .i64 (n : Int), .int .i64 (C : Int), .slice A n c] gL gR gI B7 n C out rw f v11 q wr) ∧ Hid (SQ E (nxt out n) n i0 d q f) ∧ gk = n - d.length)
          case atStart => exact ⟨[], [i0], _, hY, hQ, by simp⟩
          case round =>
            clear hY hQ
            obtain ⟨d, q, f, hY, hQ, hgk⟩ := hrel
            cases q with
            | nil =>
              obtain ⟨gq, oq, capq, curq, hv, -⟩ := hY.out.td
              have hv : u11 = .slice (some ⟨gq, oq, none⟩) 0 capq := hv
              subst hv
              have hfg : Hid ((fun i => f i == true) = goS E (nxt out n) (n + 1) i0 (fun _ => false)) := by
                show _ = _
                funext r
                rw [beq_true, Bool.eq_iff_iff, hgs.out, hQ.out.done]
              go_wp2_with (go_at_call 56; refine (ref_numbers gI n hR64 f true _ hY.out.ri).mono ?_; rintro e w9 ⟨A9, n9, c9, rfl, hil9, hb9⟩; rw [hfg.out] at hil9)
              go_ret3
              exact ⟨_, _, _, _, _, _, rfl, hil9, hS2, hY.out.sz.own.1.trans (hb9.mono hY.out.sz.own.1.size)⟩
            | cons i q =>
              have hlen := hQ.out.len
              simp only [List.length_cons] at hlen
              have hir : i < n := hQ.out.lt i (by simp)
              have hiri : (i : Int) < (n : Int) := by omega
              have hXi : Hid (X i) := hrx.out i (hQ.out.rs i (by simp))
              obtain ⟨gq, oq, capq, hv, hc1, hc2, cq, -, -⟩ := hY.out.td.cell (x := (i : Int)) (r := ti q) rfl
              rw [ti_len] at hv hc2
              obtain ⟨L, hLq⟩ : ∃ L, L = q.length + 1 := ⟨_, rfl⟩
              rw [← hLq] at hv hc2
              have hLp : 0 < L := by omega
              have hLi : (0 : Int) < (L : Int) := by omega
              subst hv
              have hNi : N2 w.heap.size wr A n c E := hN.below hY.out.sz.own.1
              obtain ⟨gE, oE, l, A', n', c', hAE, hl, hcE, hl1⟩ := hNi.cell (j := i) hir
              subst hAE
              have hEi : E.getD i [] = l := by rw [List.getD_eq_getElem?_getD, hl]; rfl
              have hll : ∀ k ∈ l, k < C := hI'.out.2.2.2 l (List.mem_of_getElem? hl)
              have hbw : Hid (∀ wx : World, Own w [(33, #[.int .i64 (n : Int), .int .i64 (C : Int), .slice (some ⟨gE, oE, none⟩) n c])] wx → N1 w.heap.size wx A' n' c' l) := by
                have h0 := hY.out.sz.own
                exact fun wx h => hl1.same fun k hk => (h.1.block k (by omega)).trans (h0.1.block k (by omega)).symm
              have hlen1 := hl1.1
              have hln := hl1.2.1
              have hlen' := Lib.hid hlen1
              have hEi' := Lib.hid hEi
              obtain ⟨m0, m1, m2⟩ := cells3 hY.out.sz.own.b0
              have hYd := Lib.hid (hY.out.call ((Below.refl _ _).drew))
              have hgk' := Lib.hid hgk
              clear hNi hl hl1 hEi hlen1 hLq hgk
              go_upto_region 20 with fail
              go_region
              clear m0 m1 m2 hcE cq hY
              go_wp2_with fail
              go_loopw [11, 67] (fun v11 v67 wr => ∃ (j : Nat) (q : List Nat) (f : Nat → Bool), j ≤ n' ∧ v67 = .int .i64 (j : Int) ∧ Hid (SY w #[.int .i64 (n : Int), .int .i64 (C : Int), .slice (some ⟨gE, oE, none⟩) n c] gL gR gI B7 n C out rw f v11 (i :: q) wr) ∧ Hid (SQ E (nxt out n) n i0 d (i :: q) f) ∧ Hid (∀ k ∈ l.take j, f (nxt out n k) = true)) (fun _ j _ => n' - (intOf j).toNat)
              case atStart => exact ⟨0, q, f, by omega, rfl, hYd, hQ, (fun k hk => by simp at hk)⟩
              case round =>
                clear hYd hQ hlen hLp hLi hc1 hc2
                obtain ⟨j, q, f, hj, rfl, hY, hQ, hg⟩ := hrel
                have hlen := hQ.out.len
                simp only [List.length_cons] at hlen
                by_cases hjl : j < n'
                · obtain ⟨gl, ol, k, hA', hk, hck⟩ := (hbw.out _ hY.out.sz.own).cell hjl
                  have hkC : k < C := hll k (List.mem_of_getElem? hk)
                  have hkCi : (k : Int) < C := by omega
                  have hkl : Hid (k ∈ E.getD i []) := by show _ ∈ _; rw [hEi'.out]; exact List.mem_of_getElem? hk
                  have hd : Hid (∀ x ∈ l.take (j + 1), x = k ∨ x ∈ l.take j) := fun x hx => by
                    rw [List.take_add_one, hk] at hx
                    rcases List.mem_append.1 hx with hx | hx
                    · exact .inr hx
                    · exact .inl (by simpa using hx)
                  subst hA'
                  obtain ⟨hrk, hyn⟩ := hnx.out i hXi.out k hkl.out
                  have cRk := hY.out.sz.rr.cell hkC
                  rw [hrk] at cRk
                  obtain ⟨y, hy⟩ : ∃ y, y = nxt out n k := ⟨_, rfl⟩
                  rw [← hy] at cRk hyn
                  have hy' := Lib.hid hy
                  have hyni : (y : Int) < (n : Int) := by omega
                  have cIy := hY.out.ri.cell hyn
                  have fIy := hY.out.ri.frozen y
                  clear hk hrk hy
                  cases hfy : f y with
                  | true =>
                    rw [hfy] at cIy
                    have hg2 : Hid (∀ x ∈ l.take (j + 1), f (nxt out n x) = true) := fun x hx => by
                      rcases hd.out x hx with e | hx
                      · rw [e, ← hy'.out]; exact hfy
                      · exact hg.out x hx
                    clear hfy hg
                    go_wp2_with fail
                    exact ⟨⟨j + 1, q, f, by omega, by go_num, hY, hQ, hg2⟩, by simp [intOf]; omega⟩
                  | false =>
                    rw [hfy] at cIy
                    have hg2 : Hid (∀ x ∈ l.take (j + 1), upd f y true (nxt out n x) = true) := fun x hx => by
                      rcases hd.out x hx with e | hx
                      · rw [e, ← hy'.out]; exact upd_same _ _ _
                      · exact upd_iff.2 (.inr (hg.out x hx))
                    have hQ2 : Hid (SQ E (nxt out n) n i0 d (i :: (q ++ [y])) (upd f y true)) := by
                      have h := hQ.out.push (i := i) (k := k) (by simp) hkl.out (by rw [← hy'.out]; exact hyn) (by rw [← hy'.out]; exact hfy)
                      rw [← hy'.out] at h
                      exact h
                    have hY6 := Lib.hid (hY.out.setI y true)
                    clear hfy hg hQ
                    go_upto_region 25 with fail
                    obtain ⟨w6, hw6⟩ : ∃ w6, w6 = wr.setCell ⟨gI, y, none⟩ (.bool true) := ⟨_, rfl⟩
                    rw [← hw6] at hY6 ⊢
                    clear hw6 cIy fIy hck hY cRk
                    have cRk := hY6.out.sz.rr.cell hkC
                    rw [(hnx.out i hXi.out k hkl.out).1, ← hy'.out] at cRk
                    have hba : Below w6.heap.size w6 (w6.alloc (.cells #[.int .i64 (y : Int)] 3)) := (Below.refl _ _).alloc (Nat.le_refl _) _
                    have hb7 := hY6.out.b7
                    have htl := ti_len (i :: q)
                    simp only [List.length_cons] at htl
                    go_wp2_with (at_builtin; refine wpList_qapp rfl _ _ rfl B7 _ _ rfl (hY6.out.td.call hba) (by omega) (by simp; omega) ⟨w6.heap.size, 0, none⟩ 1 (y : Int) rfl (cell_one_new _ _ _) ?_; intro v' w9 hr9 hg9)
                    have hY9 := Lib.hid (SY.push (hY6.out.call hba) hr9 hg9)
                    go_roundw
                    case rel => exact ⟨j + 1, q ++ [y], upd f y true, by omega, by go_num, hY9, hQ2, hg2⟩
                    case measure => simp [intOf]; omega
                · have hQ2 : Hid (SQ E (nxt out n) n i0 (d ++ [i]) q f) := hQ.out.pop (fun k hk => hg.out k (by
                    rw [hEi'.out] at hk
                    rw [List.take_of_length_le (by have := hlen'.out; omega)]
                    exact hk))
                  obtain ⟨gq, oq, capq, hv, hc1, hc2, -, hp1, hp2⟩ := hY.out.td.cell (x := (i : Int)) (r := ti q) rfl
                  rw [ti_len] at hv hc2 hp1 hp2
                  obtain ⟨L, hLq⟩ : ∃ L, L = q.length + 1 := ⟨_, rfl⟩
                  rw [← hLq] at hv hc2
                  have hLp : 0 < L := by omega
                  have hL1 : q.length = L - 1 := by omega
                  rw [hL1] at hp1 hp2
                  subst hv
                  have hjn : j = n' := by omega
                  have hYq : ∀ v', QRow wr B7 v' (ti q) → SY w #[.int .i64 (n : Int), .int .i64 (C : Int), .slice (some ⟨gE, oE, none⟩) n c] gL gR gI B7 n C out rw f v' q wr := fun v' h => ⟨hY.out.sz, hY.out.ri, h, hY.out.lt, hY.out.b7⟩
                  have hYq' := Lib.hid hYq
                  have hp1' := Lib.hid hp1
                  have hp2' := Lib.hid hp2
                  have hmm : n - (d ++ [i]).length < n - d.length := by simp; omega
                  have hmm' := Lib.hid hmm
                  clear hLq hL1 hYq hp1 hp2 hg hQ hY hmm
                  by_cases hcap : capq = 1
                  · have hYn := Lib.hid (hYq'.out _ (hp1'.out hcap))
                    subst hcap
                    obtain rfl : L = 1 := by omega
                    go_wp2_with fail
                    go_roundg (n - (d ++ [i]).length)
                    case rel => exact ⟨d ++ [i], q, f, hYn, hQ2, rfl⟩
                    case measure => rw [hgk'.out]; exact hmm'.out
                  · have hYn := Lib.hid (hYq'.out _ (hp2'.out hcap))
                    go_wp2_with fail
                    go_roundg (n - (d ++ [i]).length)
                    case rel => exact ⟨d ++ [i], q, f, hYn, hQ2, rfl⟩
                    case measure => rw [hgk'.out]; exact hmm'.out
  · rw [h1] at hV
    have hV' := Lib.hid hV
    have hS : Hid (shortS rows cols ls = ([], false, 1)) := if_neg (by rw [h1]; omega)
    clear hV h1
    unfold PSt
    obtain ⟨S, hS2⟩ : ∃ S, S = shortS rows cols ls := ⟨_, rfl⟩
    rw [← hS2] at hS ⊢
    clear hS2 hO
    go_enter Try.func30, Try.ntmps30
    go_wp2_with (first
      | (go_at_call 28; (with_reducible refine hV'.out.mono ?_); rintro e w2 ⟨rfl, hb2⟩; have hO2 := Lib.hid (hO'.out.call hb2)))
    go_ret3
    exact ⟨_, _, _, _, _, _, rfl, IL.nil _, hS, hO2.out.1⟩

end Go.Proofs.Ytjbhnfejpgjghaa
