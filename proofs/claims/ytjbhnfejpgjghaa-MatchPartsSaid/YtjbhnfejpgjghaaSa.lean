/- Rows of truths of the call's own, full length. -/
import Derived.Test.YtjbhnfejpgjghaaOd
import Derived.Test.YtjbhnfejpgjghaaPd
namespace Go.Proofs.Ytjbhnfejpgjghaa
open Go.RowKit
set_option linter.unusedSimpArgs false
set_option linter.unusedVariables false

theorem infoB : (Try.prog.info? 4).map (fun i => (i.zero, i.size, i.bytes)) = some (some (.bool false), 1, 1) := by kernel_rfl
theorem infoB_parts : ∃ i0, Try.prog.info? 4 = some i0 ∧ i0.zero = some (.bool false) ∧ i0.size = 1 ∧ i0.bytes = 1 := by
  have h := infoB
  match hi : Try.prog.info? 4 with
  | none => rw [hi] at h; cases h
  | some i0 =>
    rw [hi] at h
    simp at h
    exact ⟨i0, rfl, h.1, h.2.1, h.2.2⟩

def vb (N : Nat) (f : Nat → Bool) : List Value := (List.range N).map fun i => .bool (f i)
/-- a row of truths -/
def RO (w : World) (g N : Nat) (f : Nat → Bool) : Prop := w.ownsRow g 4 1 (.slice (some ⟨g, 0, none⟩) N N) N (vb N f)
section
variable {w w' : World} {g N : Nat} {f : Nat → Bool}
theorem RO.lt (h : RO w g N f) : g < w.heap.size := (World.ownsRow.lt h g rfl).2
theorem RO.cell (h : RO w g N f) {i : Nat} (hi : i < N) : w.cell? ⟨g, i, none⟩ = some (.bool (f i)) := by
  rw [World.ownsRow.cellAt h i (by omega)]
  simp [vb, hi]
theorem RO.frozen (h : RO w g N f) (i : Nat) : w.frozen? ⟨g, i, none⟩ = false := World.ownsRow.frozenAt h i
theorem RO.same (h : RO w g N f) (e : w'.heap[g]? = w.heap[g]?) : RO w' g N f := by
  obtain ⟨h1, h2⟩ := h
  refine ⟨h1, ?_⟩
  rcases h2 with ⟨e', -⟩ | ⟨g', cap, cur, e', h3, h4, h5⟩
  · cases e'
  · have e2 : g = g' := by injection e' with e' _ _; injection e' with e'; injection e'
    exact .inr ⟨g', cap, cur, e', h3, by rw [← e2, e, e2]; exact h4, h5⟩
theorem RO.call (h : RO w g N f) (hb : Below w.heap.size w w') : RO w' g N f := h.same (hb.block g h.lt)
theorem RO.fr {xs : List Nat} (h : RO w g N f) (hf : Fr xs w w') (hx : g ∉ xs) : RO w' g N f := h.same (hf.block g h.lt hx)
theorem RO.drew (h : RO w g N f) : RO w.drew g N f := h
theorem RO.drewN (h : RO w g N f) (k : Nat) : RO (w.drewN k) g N f := h
theorem vb_set (i : Nat) (v : Bool) : (vb N f).set i (.bool v) = vb N (upd f i v) := by
  apply List.ext_getElem?
  intro j
  unfold vb
  rw [List.getElem?_set]
  by_cases hj : j < N
  · by_cases e : i = j
    · subst e
      simp [hj, upd]
    · rw [if_neg e]
      simp [hj, upd, Ne.symm e]
  · by_cases e : i = j
    · subst e
      simp [hj]
    · rw [if_neg e]
      simp [hj]
theorem RO.set (h : RO w g N f) (i : Nat) (v : Bool) : RO (w.setCell ⟨g, i, none⟩ (.bool v)) g N (upd f i v) := by
  have h1 := (World.ownsRow.stored h i (.bool v)).1
  rw [vb_set] at h1
  exact h1
theorem RO.other {g' : Nat} (h : RO w g N f) (hne : g ≠ g') (i : Nat) (u : Value) : RO (w.setCell ⟨g', i, none⟩ u) g N f := h.same (Below.heap_setCell _ _ _ _ hne)
theorem RO.congr {f' : Nat → Bool} (h : RO w g N f) (e : ∀ i, i < N → f i = f' i) : RO w g N f' := by
  unfold RO at *
  have : vb N f' = vb N f := by
    unfold vb
    apply List.map_congr_left
    intro i hi
    rw [e i (List.mem_range.1 hi)]
  rw [this]
  exact h
end
theorem made_vb (N : Nat) : (madeCells (Value.bool false).cells (N * 1)).toList = vb N (fun _ => false) := by
  rw [Nat.mul_one]
  show (madeCells #[Value.bool false] N).toList = _
  rw [toList_madeCells_one]
  unfold vb
  apply List.ext_getElem?
  intro j
  by_cases hj : j < N
  · simp [hj, List.getElem?_replicate]
  · simp [hj, List.getElem?_replicate]
theorem RO.made {w w' : World} {B N : Nat} (h : w'.ownsRow B 4 1 (.slice (some ⟨w.heap.size, 0, none⟩) N N) N (madeCells (Value.bool false).cells (N * 1)).toList) : RO w' w.heap.size N (fun _ => false) := by
  rw [made_vb] at h
  obtain ⟨h1, h2⟩ := h
  refine ⟨h1, ?_⟩
  rcases h2 with ⟨e, -⟩ | ⟨g', cap, cur, e, h3, h4⟩
  · cases e
  · have e2 : w.heap.size = g' := by injection e with e _ _; injection e with e; injection e
    exact .inr ⟨g', cap, cur, e, by omega, h4⟩

end Go.Proofs.Ytjbhnfejpgjghaa

/- The reference's search for a way: the method grows. -/
namespace Go.Proofs.Ytjbhnfejpgjghaa
open Go.RowKit
set_option linter.unusedSimpArgs false
set_option linter.unusedVariables false

/-- where a pairing lies -/
structure QT where
  gP : Nat
  gRow : Nat
  gCol : Nat
  gOR : Nat
  gOC : Nat
  B : Nat
  AE : Option Addr
  cE : Nat
  R : Nat
  C : Nat
  E : List (List Nat)
  ok : Nat → Bool
  rows : Nat → Bool
structure QT.Fine (z : QT) : Prop where
  inc : Inc z.R z.C z.E
  b : z.B ≤ z.gRow ∧ z.B ≤ z.gCol ∧ z.B ≤ z.gP ∧ z.B ≤ z.gOR ∧ z.B ≤ z.gOC
  rc : z.gRow ≠ z.gCol
  no : ∀ g ∈ [z.gP, z.gOR, z.gOC], g ≠ z.gRow ∧ g ≠ z.gCol
/-- a pairing under way -/
structure QS (z : QT) (row col : Nat → Int) (w : World) : Prop where
  bP : Blk w z.gP 86 #[.slice z.AE z.R z.cE, .slice (some ⟨z.gRow, 0, none⟩) z.R z.R, .slice (some ⟨z.gCol, 0, none⟩) z.C z.C, .slice (some ⟨z.gOR, 0, none⟩) z.R z.R, .slice (some ⟨z.gOC, 0, none⟩) z.C z.C]
  en : N2 z.B w z.AE z.R z.cE z.E
  row : RF w z.gRow z.R row
  col : RF w z.gCol z.C col
  oR : RO w z.gOR z.R (fun i => !z.rows i)
  oC : RO w z.gOC z.C (fun k => !z.ok k)
  sz : z.B ≤ w.heap.size
theorem QS.call {z : QT} {row col : Nat → Int} {w w' : World} (h : QS z row col w) (hb : Below w.heap.size w w') : QS z row col w' :=
  ⟨h.bP.call hb, h.en.below (hb.mono h.sz), h.row.call hb, h.col.call hb, h.oR.call hb, h.oC.call hb, Nat.le_trans h.sz hb.size⟩
theorem QS.drewN {z : QT} {row col : Nat → Int} {w : World} (h : QS z row col w) (n : Nat) : QS z row col (w.drewN n) := h.call (bdN (Below.refl _ _) n)
/-- a store elsewhere -/
theorem QS.far {z : QT} {row col : Nat → Int} {w : World} (h : QS z row col w) {g : Nat} (hg : z.B ≤ g) (hn : g ∉ [z.gP, z.gRow, z.gCol, z.gOR, z.gOC]) (i : Nat) (u : Value) : QS z row col (w.setCell ⟨g, i, none⟩ u) := by
  simp at hn
  obtain ⟨n1, n2, n3, n4, n5⟩ := hn
  exact ⟨h.bP.far (fun e => n1 e.symm) u, h.en.below ((Below.refl _ _).setCell hg _), h.row.other (Ne.symm n2) _ _, h.col.other (Ne.symm n3) _ _, h.oR.other (Ne.symm n4) _ _, h.oC.other (Ne.symm n5) _ _, by simpa [World.setCell] using h.sz⟩
/-- the pair is stored -/
theorem QS.pair {z : QT} (hz : z.Fine) {row col : Nat → Int} {w : World} (h : QS z row col w) (i k : Nat) :
    QS z (upd row i (k : Int)) (upd col k (i : Int)) ((w.setCell ⟨z.gRow, i, none⟩ (.int .i64 (k : Int))).setCell ⟨z.gCol, k, none⟩ (.int .i64 (i : Int))) ∧
    Fr [z.gRow, z.gCol] w ((w.setCell ⟨z.gRow, i, none⟩ (.int .i64 (k : Int))).setCell ⟨z.gCol, k, none⟩ (.int .i64 (i : Int))) := by
  have hf : Fr [z.gRow, z.gCol] w ((w.setCell ⟨z.gRow, i, none⟩ (.int .i64 (k : Int))).setCell ⟨z.gCol, k, none⟩ (.int .i64 (i : Int))) := ((Fr.refl _ _).set (by simp) _).set (by simp) _
  have hx : ∀ g ∈ [z.gP, z.gOR, z.gOC], g ∉ [z.gRow, z.gCol] := fun g hg hm => by
    obtain ⟨a, b⟩ := hz.no g hg
    simp at hm
    omega
  exact ⟨⟨hf.blk h.bP (hx _ (by simp)), h.en.below (hf.below h.sz (by have := hz.b; simp; omega)), (h.row.set i (k : Int)).other hz.rc _ _, (h.col.other hz.rc.symm _ _).set k (i : Int), h.oR.fr hf (hx _ (by simp)), h.oC.fr hf (hx _ (by simp)), Nat.le_trans h.sz hf.size⟩, hf⟩

/-- with what was seen -/
structure QG (z : QT) (gS : Nat) (st : MS) (w : World) : Prop where
  q : QS z st.row st.col w
  s : RO w gS z.C st.seen
theorem QG.call {z : QT} {gS : Nat} {st : MS} {w w' : World} (h : QG z gS st w) (hb : Below w.heap.size w w') : QG z gS st w' := ⟨h.q.call hb, h.s.call hb⟩
theorem QG.drewN {z : QT} {gS : Nat} {st : MS} {w : World} (h : QG z gS st w) (n : Nat) : QG z gS st (w.drewN n) := ⟨h.q.drewN n, h.s.drewN n⟩
theorem QG.mark {z : QT} {gS : Nat} {st : MS} {w : World} (h : QG z gS st w) (hg : z.B ≤ gS) (hn : gS ∉ [z.gP, z.gRow, z.gCol, z.gOR, z.gOC]) (k : Nat) : QG z gS (st.mark k) (w.setCell ⟨gS, k, none⟩ (.bool true)) :=
  ⟨h.q.far hg hn k _, h.s.set k true⟩
theorem QG.pair {z : QT} (hz : z.Fine) {gS : Nat} {st : MS} {w : World} (h : QG z gS st w) (hn : gS ∉ [z.gP, z.gRow, z.gCol, z.gOR, z.gOC]) (i k : Nat) :
    QG z gS (st.pair i k) ((w.setCell ⟨z.gRow, i, none⟩ (.int .i64 (k : Int))).setCell ⟨z.gCol, k, none⟩ (.int .i64 (i : Int))) ∧
    Fr [gS, z.gRow, z.gCol] w ((w.setCell ⟨z.gRow, i, none⟩ (.int .i64 (k : Int))).setCell ⟨z.gCol, k, none⟩ (.int .i64 (i : Int))) := by
  simp at hn
  obtain ⟨q1, q2⟩ := h.q.pair hz i k
  exact ⟨⟨q1, (h.s.other hn.2.1 _ _).other hn.2.2.1 _ _⟩, q2.more (fun x hx => List.mem_cons_of_mem _ hx)⟩

/-- what the two stores want -/
theorem QS.stores {z : QT} (hz : z.Fine) {row col : Nat → Int} {w : World} {i k : Nat} (hg : QS z row col w) (hi : i < z.R) (hkC : k < z.C) :
    (w.cell? ⟨z.gP, 1, none⟩ = some (.slice (some ⟨z.gRow, 0, none⟩) z.R z.R) ∧ w.cell? ⟨z.gP, 2, none⟩ = some (.slice (some ⟨z.gCol, 0, none⟩) z.C z.C) ∧
      w.cell? ⟨z.gRow, i, none⟩ = some (.int .i64 (row i)) ∧ w.frozen? ⟨z.gRow, i, none⟩ = false ∧ w.cell? ⟨z.gCol, k, none⟩ = some (.int .i64 (col k)) ∧ w.frozen? ⟨z.gCol, k, none⟩ = false) ∧
    (∀ n, ((w.drewN n).setCell ⟨z.gRow, i, none⟩ (.int .i64 (k : Int))).cell? ⟨z.gCol, k, none⟩ = some (.int .i64 (col k))) ∧
    (∀ n, ((w.drewN n).setCell ⟨z.gRow, i, none⟩ (.int .i64 (k : Int))).frozen? ⟨z.gCol, k, none⟩ = false) ∧
    ((w.setCell ⟨z.gRow, i, none⟩ (.int .i64 (k : Int))).cell? ⟨z.gCol, k, none⟩ = some (.int .i64 (col k)) ∧ (w.setCell ⟨z.gRow, i, none⟩ (.int .i64 (k : Int))).frozen? ⟨z.gCol, k, none⟩ = false) := by
  have hRC : ∀ n, RF ((w.drewN n).setCell ⟨z.gRow, i, none⟩ (.int .i64 (k : Int))) z.gCol z.C col := fun n => RF.other (RF.drewN hg.col n) hz.rc.symm i _
  have hR0 : RF (w.setCell ⟨z.gRow, i, none⟩ (.int .i64 (k : Int))) z.gCol z.C col := RF.other hg.col hz.rc.symm i _
  exact ⟨⟨hg.bP.cell 1, hg.bP.cell 2, hg.row.cell hi, hg.row.frozen i, hg.col.cell hkC, hg.col.frozen k⟩, fun n => (hRC n).cell hkC, fun n => (hRC n).frozen k, hR0.cell hkC, hR0.frozen k⟩

def PQ (z : QT) (gS : Nat) (w : World) (r : Bool × MS) (e : Ending) (w' : World) : Prop := e = .returned (.bool r.1) ∧ QG z gS r.2 w' ∧ ColOk z.R z.C r.2 ∧ Fr [gS, z.gRow, z.gCol] w w'
def T2 (z : QT) (gS f i : Nat) (l : List Nat) (st0 : MS) (w0 : World) (j : Nat) (wr : World) : Prop :=
  ∃ st, scan z.ok (tries z.E z.ok f) i l st0 = scan z.ok (tries z.E z.ok f) i (l.drop j) st ∧ ColOk z.R z.C st ∧ uns z.C st.seen < f + 1 ∧ QG z gS st wr ∧ Fr [gS, z.gRow, z.gCol] w0 wr

set_option maxRecDepth 100000 in
set_option maxHeartbeats 1000000 in
theorem ref_grows (z : QT) (hz : z.Fine) (gS : Nat) (hgS : z.B ≤ gS) (hnS : gS ∉ [z.gP, z.gRow, z.gCol, z.gOR, z.gOC]) : ∀ (f i : Nat) (st : MS) (w : World), i < z.R → ColOk z.R z.C st → uns z.C st.seen < f → QG z gS st w →
    Calls Try.prog 69 #[.pointer (some ⟨z.gP, 0, none⟩), .int .i64 (i : Int), .slice (some ⟨gS, 0, none⟩) z.C z.C] w (PQ z gS w (tries z.E z.ok f i st)) := by
  intro f
  induction f with
  | zero => intro i st w _ _ h _; omega
  | succ f ih =>
  intro i st w hi hco hun hg
  have hu := Try.underlying86
  have hR := hz.inc.1
  have hC := hz.inc.2.1
  obtain ⟨gE, oE, l, A', n', c', hAE, hl, hcE, hl1⟩ := hg.q.en.cell (j := i) hi
  have hEi : z.E.getD i [] = l := by rw [List.getD_eq_getElem?_getD, hl]; rfl
  have hll : ∀ k ∈ l, k < z.C := hz.inc.2.2.2 l (List.mem_of_getElem? hl)
  have hst : tries z.E z.ok (f + 1) i st = scan z.ok (tries z.E z.ok f) i l st := by show scan _ _ _ _ _ = _; rw [hEi]
  rw [hst]
  clear hst hEi
  have hT : T2 z gS f i l st w 0 w := ⟨st, rfl, hco, hun, hg, Fr.refl _ _⟩
  have hun' := Lib.hid hun
  have ih' := Lib.hid ih
  clear hun ih
  have hln := hl1.2.1
  have hlen := Lib.hid hl1.1
  have hiE : (i : Int) < z.R := by omega
  have hP0 : w.cell? ⟨z.gP, 0, none⟩ = some (.slice z.AE z.R z.cE) := hg.q.bP.cell 0
  rw [hAE] at hP0
  have hsz := hg.q.sz
  have hbz : ∀ x ∈ [gS, z.gRow, z.gCol], z.B ≤ x := by have := hz.b; simp; omega
  have hbz' := Lib.hid hbz
  clear hbz
  go_enter Try.func69, Try.ntmps69
  go_wp2_with fail
  go_loopw [17] (fun v17 wr => ∃ j : Nat, j ≤ n' ∧ v17 = .int .i64 j ∧ T2 z gS f i l st w j wr) (fun i _ => n' - (intOf i).toNat)
  case atStart => exact ⟨0, by omega, rfl, hT⟩
  case round =>
    clear hT hP0 hcE
    obtain ⟨j, hj, rfl, st1, he, hco1, hun1, hg1, hf1⟩ := hrel
    by_cases hjl : j < n'
    · obtain ⟨gl, ol, k, hA', hk, hck⟩ := (hl1.below (hf1.below hsz hbz'.out)).cell hjl
      subst hA'
      have hkC : k < z.C := hll k (List.mem_of_getElem? hk)
      have hd : l.drop j = k :: l.drop (j + 1) := by
        have h1 := (List.getElem?_eq_some_iff.1 hk).1
        rw [List.drop_eq_getElem_cons h1]
        congr 1
        exact (List.getElem?_eq_some_iff.1 hk).2
      rw [hd] at he
      have cP4 : wr.cell? ⟨z.gP, 4, none⟩ = some (.slice (some ⟨z.gOC, 0, none⟩) z.C z.C) := hg1.q.bP.cell 4
      have cOk := hg1.q.oC.cell hkC
      have cSk := hg1.s.cell hkC
      have fSk := hg1.s.frozen k
      have hkCi : (k : Int) < z.C := by omega
      by_cases hskip : (st1.seen k || !z.ok k) = true
      · have hT' : T2 z gS f i l st w (j + 1) wr := ⟨st1, by rw [he, scan, if_pos hskip], hco1, hun1, hg1, hf1⟩
        have hT'' := Lib.hid hT'
        clear he hT'
        cases hok : z.ok k
        · rw [hok] at cOk
          clear hskip hok
          go_wp2_with fail
          exact round_next hjl hT''.out
        · rw [hok] at cOk hskip
          have hsk : st1.seen k = true := by simpa using hskip
          rw [hsk] at cSk
          clear hskip hok hsk
          go_wp2_with fail
          exact round_next hjl hT''.out
      · have hsk : st1.seen k = false := by cases h : st1.seen k <;> simp [h] at hskip ⊢
        have hok : z.ok k = true := by cases h : z.ok k <;> simp [h] at hskip ⊢
        rw [hok] at cOk
        rw [hsk] at cSk
        have hgm := hg1.mark hgS hnS k
        have hfm : Fr [gS, z.gRow, z.gCol] w (wr.setCell ⟨gS, k, none⟩ (.bool true)) := hf1.set (by simp) _
        by_cases hcn : st1.col k < 0
        · have hcn' : decide (st1.col k < 0) = true := by simpa using hcn
          have hre : scan z.ok (tries z.E z.ok f) i l st = (true, (st1.mark k).pair i k) := by
            rw [he, scan, if_neg hskip, if_pos hcn]
          rw [hre]
          clear hre he hskip hok hsk
          go_upto_region 6 with fail
          obtain ⟨w5, hw5⟩ : ∃ w5, w5 = wr.setCell ⟨gS, k, none⟩ (.bool true) := ⟨_, rfl⟩
          rw [← hw5] at hgm hfm ⊢
          clear hw5 cP4 cOk cSk fSk
          have hii : (i : Int) < z.R := by omega
          obtain ⟨⟨cP1, cP2, cRi, fRi, cCk, fCk⟩, cQC, fQC, cQ0, fQ0⟩ := QS.stores hz hgm.q hi hkC
          have cCk' : w5.cell? ⟨z.gCol, k, none⟩ = some (.int .i64 (st1.col k)) := cCk
          clear cCk
          go_upto_region 7 with fail
          go_region
          all_goals (try go_wp2_with fail)
          go_ret
          exact ⟨rfl, (QG.pair hz (QG.drewN hgm _) hnS i k).1, hco1.mark.pair hi, (hfm.drewN _).trans (QG.pair hz (QG.drewN hgm _) hnS i k).2⟩
        · obtain ⟨cn, hcn1⟩ : ∃ cn : Nat, st1.col k = (cn : Int) := ⟨(st1.col k).toNat, by omega⟩
          have hcn' : decide ((cn : Int) < 0) = false := by simp
          have hcR : cn < z.R := by have := (hco1 k hkC).1; omega
          have hunm : uns z.C (st1.mark k).seen < f := by have := uns_mark hkC hsk; omega
          have hsm : (st1.mark k).seen k = true := upd_same _ _ _
          have hcol := tries_col z.E z.ok f cn (st1.mark k) k hsm
          have hcol' : (tries z.E z.ok f cn (st1.mark k)).2.col k = (cn : Int) := hcol.trans hcn1
          obtain ⟨rr, hrr⟩ : ∃ rr, rr = tries z.E z.ok f cn (st1.mark k) := ⟨_, rfl⟩
          have hih := ih'.out cn (st1.mark k)
          rw [← hrr] at hcol' hih
          have hih' := Lib.hid hih
          have hunr : uns z.C rr.2.seen < f + 1 := by
            have := uns_le (C := z.C) (fun j hj => tries_mono z.E z.ok f cn (st1.mark k) j hj)
            rw [← hrr] at this
            omega
          have hsc : scan z.ok (tries z.E z.ok f) i l st = if rr.1 = true then (true, rr.2.pair i k) else scan z.ok (tries z.E z.ok f) i (l.drop (j + 1)) rr.2 := by
            rw [he, scan, if_neg hskip, if_neg hcn, hcn1, Int.toNat_natCast, ← hrr]
          have hsc' := Lib.hid hsc
          have hunr' := Lib.hid hunr
          have hcol'' := Lib.hid hcol'
          have hcn1' := Lib.hid hcn1
          have hunm' := Lib.hid hunm
          clear he hsc hih hcol hcol' hrr hunr hcn hcn1 hunm hskip hok hsk
          cases hrb : rr.1
          · go_upto_region 6 with fail
            obtain ⟨w5, hw5⟩ : ∃ w5, w5 = wr.setCell ⟨gS, k, none⟩ (.bool true) := ⟨_, rfl⟩
            rw [← hw5] at hgm hfm ⊢
            clear hw5 cP4 cOk cSk fSk
            have cP2 := hgm.q.bP.cell 2
            have cCk : w5.cell? ⟨z.gCol, k, none⟩ = some (.int .i64 (cn : Int)) := by rw [← hcn1'.out]; exact hgm.q.col.cell hkC
            go_wp2_with (go_at_call 69; refine (hih'.out _ hcR hco1.mark hunm'.out hgm).mono ?_; rintro e w6 ⟨rfl, hg6, hco6, hf6⟩; rw [hrb])
            exact round_next hjl ⟨rr.2, by rw [hsc'.out, if_neg (by rw [hrb]; simp)], hco6, hunr'.out, hg6, hfm.trans hf6⟩
          · have hre : scan z.ok (tries z.E z.ok f) i l st = (true, rr.2.pair i k) := by rw [hsc'.out, if_pos hrb]
            rw [hre]
            clear hre
            go_upto_region 6 with fail
            obtain ⟨w5, hw5⟩ : ∃ w5, w5 = wr.setCell ⟨gS, k, none⟩ (.bool true) := ⟨_, rfl⟩
            rw [← hw5] at hgm hfm ⊢
            clear hw5 cP4 cOk cSk fSk
            have cP2 := hgm.q.bP.cell 2
            have cCk : w5.cell? ⟨z.gCol, k, none⟩ = some (.int .i64 (cn : Int)) := by rw [← hcn1'.out]; exact hgm.q.col.cell hkC
            go_upto_region 7 with (go_at_call 69; refine (hih'.out _ hcR hco1.mark hunm'.out hgm).mono ?_; rintro e w6 ⟨rfl, hg6, hco6, hf6⟩; rw [hrb])
            have hf7 := hfm.trans hf6
            have hii : (i : Int) < z.R := by omega
            clear cP2 cCk
            obtain ⟨⟨cP1, cP2, cRi, fRi, cCk, fCk⟩, cQC, fQC, cQ0, fQ0⟩ := QS.stores hz hg6.q hi hkC
            go_region
            all_goals (try go_wp2_with fail)
            go_ret
            exact ⟨rfl, (QG.pair hz (QG.drewN hg6 _) hnS i k).1, hco6.pair hi, (hf7.drewN _).trans (QG.pair hz (QG.drewN hg6 _) hnS i k).2⟩
    · have hdn : l.drop j = [] := List.drop_eq_nil_of_le (by have := hlen.out; omega)
      rw [hdn, scan] at he
      have hfin : PQ z gS w (scan z.ok (tries z.E z.ok f) i l st) (.returned (.bool false)) wr := by
        rw [he]
        exact ⟨rfl, hg1, hco1, hf1⟩
      have hfin' := Lib.hid hfin
      clear hfin he hg1 hf1
      go_wp2_with fail
      go_ret
      exact hfin'.out

end Go.Proofs.Ytjbhnfejpgjghaa
