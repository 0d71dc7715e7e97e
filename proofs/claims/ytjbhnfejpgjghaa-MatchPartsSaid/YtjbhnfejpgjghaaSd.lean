/- The reference's fill: as many pairs as can be, counted. -/
import Derived.Test.YtjbhnfejpgjghaaSa
import Derived.Test.YtjbhnfejpgjghaaQh
namespace Go.Proofs.Ytjbhnfejpgjghaa
open Go.RowKit
set_option linter.unusedSimpArgs false
set_option linter.unusedVariables false

theorem cnt_sign {f g : Nat → Int} : ∀ n, (∀ r, r < n → (0 ≤ f r ↔ 0 ≤ g r)) → cnt f n = cnt g n := by
  intro n
  induction n with
  | zero => intro _; rfl
  | succ n ih =>
    intro h
    unfold cnt
    rw [ih (fun r hr => h r (by omega))]
    have := h n (by omega)
    by_cases hp : 0 ≤ f n
    · rw [if_pos hp, if_pos (this.1 hp)]
    · rw [if_neg hp, if_neg (fun h => hp (this.2 h))]
/-- one row more -/
theorem fill_step {E : List (List Nat)} {ok rows : Nat → Bool} {R C n : Nat} (hE : ∀ l ∈ E, ∀ k ∈ l, k < C) (hn : n < R) (hr : rows n = true) :
    (fill E ok rows C n).1 n < 0 ∧ fill E ok rows C (n + 1) = ((tries E ok (C + 1) n (MS0 (fill E ok rows C n).1 (fill E ok rows C n).2)).2.row, (tries E ok (C + 1) n (MS0 (fill E ok rows C n).1 (fill E ok rows C n).2)).2.col) ∧
    cnt (fill E ok rows C (n + 1)).1 R = cnt (fill E ok rows C n).1 R + (if (tries E ok (C + 1) n (MS0 (fill E ok rows C n).1 (fill E ok rows C n).2)).1 = true then 1 else 0) := by
  have h := fill_fi (E := E) (ok := ok) (rows := rows) (R := R) hE n (by omega)
  have hneg : (fill E ok rows C n).1 n < 0 := by
    apply Classical.byContradiction
    intro hc
    have := (h.own n (by omega)).2
    omega
  have hf : fill E ok rows C (n + 1) = ((tries E ok (C + 1) n (MS0 (fill E ok rows C n).1 (fill E ok rows C n).2)).2.row, (tries E ok (C + 1) n (MS0 (fill E ok rows C n).1 (fill E ok rows C n).2)).2.col) := by
    show (if rows n = true then _ else _) = _
    rw [if_pos hr]
  refine ⟨hneg, hf, ?_⟩
  rw [hf]
  obtain ⟨row, hrow⟩ : ∃ row, row = (fill E ok rows C n).1 := ⟨_, rfl⟩
  obtain ⟨col, hcol⟩ : ∃ col, col = (fill E ok rows C n).2 := ⟨_, rfl⟩
  rw [← hrow, ← hcol] at h
  rw [← hrow] at hneg
  rw [← hrow, ← hcol]
  cases ht : (tries E ok (C + 1) n (MS0 row col)).1 with
  | false =>
    have := (tries_same (E := E) (ok := ok) (C + 1) n (MS0 row col) ht).1
    show cnt (tries E ok (C + 1) n (MS0 row col)).2.row R = _
    rw [this]
    simp [MS0]
  | true =>
    have hu := (tries_co (ok := ok) hE (C + 1) n (MS0 row col) h.co hn (.inl hneg) ht).2
    have h1 := cnt_sign (f := (tries E ok (C + 1) n (MS0 row col)).2.row) (g := upd row n 0) R (fun r hr => by
      by_cases e : r = n
      · subst e
        rw [upd_same]
        exact ⟨fun _ => by omega, fun _ => hu.got.1⟩
      · rw [upd_other _ _ _ _ e]
        exact hu.pos r e)
    have h2 := cnt_upd row n 0 R hn
    rw [if_neg (by omega), if_pos (by omega)] at h2
    show cnt (tries E ok (C + 1) n (MS0 row col)).2.row R = _
    rw [if_pos rfl]
    omega
theorem fill_colok {E : List (List Nat)} {ok rows : Nat → Bool} {R C n : Nat} (hE : ∀ l ∈ E, ∀ k ∈ l, k < C) (hn : n ≤ R) : ColOk R C (MS0 (fill E ok rows C n).1 (fill E ok rows C n).2) := by
  have h := fill_fi (E := E) (ok := ok) (rows := rows) (R := R) hE n hn
  intro k hk
  refine ⟨?_, h.co.cn k⟩
  show (fill E ok rows C n).2 k < (R : Int)
  by_cases hp : 0 ≤ (fill E ok rows C n).2 k
  · have := (h.co.ca k hk hp).1; omega
  · omega

/-- make, behind a guard that says yes -/
theorem wpList_make_want {P : Program} (w : World) {ops : Array Oper} {rest : List Oper} {o : Oper} {a : Act} {Q : Exit → Act → World → Prop}
    (hw : Region.wanted o (yielded ops a.tmps) = true) (l c : Operand) (t : TypeId) (hop : o.op = Op.makeSlice t l c)
    (base : Nat) (e : TypeId) (i : TypeInfo) (z : Value) (size : Nat) (h1 : P.underlying t = some (.slice e)) (h2 : P.info? e = some i) (h3 : i.zero = some z) (h4 : i.size = size)
    (n : Nat) (hl : a.eval l = .int .i64 (n : Int)) (hc : a.eval c = .int .i64 (n : Int)) (b2 : i.bytes * n ≤ 281474976710656) (b3 : n ≤ maxLen) (b4 : base ≤ w.heap.size)
    (hK : ∀ w', w'.ownsRow base e size (.slice (some ⟨w.heap.size, 0, none⟩) n n) n (madeCells z.cells (n * size)).toList → w.grownBy w' none → wpList P ops Q rest (a.put o.dst (.slice (some ⟨w.heap.size, 0, none⟩) n n)) w') :
    wpList P ops Q (o :: rest) a w := by
  refine BigFrame.wpList_want hw fun K hK' => ?_
  obtain ⟨w', hrun, r1, r2⟩ := run_make_full (P := P) w base t e i z size h1 h2 h3 h4 .i64 .i64 n b2 b3 b4
  unfold Oper.wp
  simp [execOp, hop, hl, hc, hrun, Result.andThen]
  exact hK' _ _ (hK w' r1 r2)

def PF3 (z : QT) (w : World) (e : Ending) (w' : World) : Prop := e = .returned (.int .i64 (cnt (fill z.E z.ok z.rows z.C z.R).1 z.R : Int)) ∧ QS z (fill z.E z.ok z.rows z.C z.R).1 (fill z.E z.ok z.rows z.C z.R).2 w' ∧ Fr [z.gRow, z.gCol] w w'
def F3 (z : QT) (w : World) (i : Nat) (wr : World) : Prop := QS z (fill z.E z.ok z.rows z.C i).1 (fill z.E z.ok z.rows z.C i).2 wr ∧ Fr [z.gRow, z.gCol] w wr

set_option maxRecDepth 100000 in
set_option maxHeartbeats 1000000 in
theorem ref_fill (z : QT) (hz : z.Fine) (w : World) (hq : QS z (fun _ => -1) (fun _ => -1) w) (hlt : ∀ g ∈ [z.gP, z.gRow, z.gCol, z.gOR, z.gOC], g < w.heap.size) :
    Calls Try.prog 62 #[.pointer (some ⟨z.gP, 0, none⟩)] w (PF3 z w) := by
  have hu := Try.underlying86
  have hR := hz.inc.1
  have hC := hz.inc.2.1
  have hE := hz.inc.2.2.2
  obtain ⟨i0, hi0, hz0, hz1, hz2⟩ := infoB_parts
  have cP1 := hq.bP.cell 1
  have hF0 : Hid (F3 z w 0 w) := ⟨hq, Fr.refl _ _⟩
  have hE' := Lib.hid hE
  have hlt' := Lib.hid hlt
  clear hE hq hlt
  go_enter Try.func62, Try.ntmps62
  go_wp2_with fail
  go_loopw [3, 10] (fun v3 v10 wr => ∃ i : Nat, i ≤ z.R ∧ v10 = .int .i64 (i : Int) ∧ v3 = .int .i64 (cnt (fill z.E z.ok z.rows z.C i).1 z.R : Int) ∧ Hid (F3 z w i wr)) (fun _ i _ => z.R - (intOf i).toNat)
  case atStart =>
    refine ⟨0, by omega, rfl, ?_, hF0⟩
    have h0 : ∀ n, cnt (fun _ => -1) n = 0 := by
      intro n
      induction n with
      | zero => rfl
      | succ n ih => unfold cnt; rw [ih]; rfl
    show _ = Value.int .i64 ((cnt (fun _ => -1) z.R : Nat) : Int)
    rw [h0]
    rfl
  case round =>
    clear hF0 cP1
    obtain ⟨i, hi, rfl, rfl, hF⟩ := hrel
    obtain ⟨hq, hf⟩ := hF.out
    by_cases hin : i < z.R
    · have cP3 := hq.bP.cell 3
      have cOi := hq.oR.cell hin
      have hiR : (i : Int) < z.R := by omega
      have hcl := cnt_le (fill z.E z.ok z.rows z.C i).1 z.R
      cases hrow : z.rows i with
      | false =>
        rw [hrow] at cOi
        have hfe : fill z.E z.ok z.rows z.C (i + 1) = fill z.E z.ok z.rows z.C i := by
          show (if z.rows i = true then _ else _) = _
          rw [if_neg (by simp [hrow])]
        have hF2 : Hid (F3 z w (i + 1) wr) := by show F3 z w (i + 1) wr; unfold F3; rw [hfe]; exact ⟨hq, hf⟩
        have hfe' := Lib.hid hfe
        clear hfe hrow
        go_wp2_with fail
        go_roundw
        case rel => exact ⟨i + 1, by omega, by go_num, by rw [hfe'.out], hF2⟩
        case measure => simp [intOf]; omega
      | true =>
        rw [hrow] at cOi
        obtain ⟨hneg, hst, hcn⟩ := fill_step (ok := z.ok) hE'.out hin hrow
        have hco := fill_colok (ok := z.ok) (rows := z.rows) hE'.out (show i ≤ z.R by omega)
        have cP1 := hq.bP.cell 1
        have cP2 := hq.bP.cell 2
        have cRi := hq.row.cell hin
        have hnn : decide (0 ≤ (fill z.E z.ok z.rows z.C i).1 i) = false := by simpa using hneg
        have hst' := Lib.hid hst
        have hcn' := Lib.hid hcn
        have hgr : Hid (∀ w4, w4.ownsRow wr.heap.size 4 1 (.slice (some ⟨wr.heap.size, 0, none⟩) z.C z.C) z.C (madeCells (Value.bool false).cells (z.C * 1)).toList → wr.grownBy w4 none → Calls Try.prog 69 #[.pointer (some ⟨z.gP, 0, none⟩), .int .i64 (i : Int), .slice (some ⟨wr.heap.size, 0, none⟩) z.C z.C] w4 (PQ z wr.heap.size w4 (tries z.E z.ok (z.C + 1) i (MS0 (fill z.E z.ok z.rows z.C i).1 (fill z.E z.ok z.rows z.C i).2)))) := fun w4 hown hg4 => by
          have hb4 : Below wr.heap.size wr w4 := (Below.refl _ _).grown hg4 (Nat.le_refl _) (by intro b hb; cases hb)
          refine ref_grows z hz wr.heap.size hq.sz ?_ (z.C + 1) i _ w4 hin hco (by have := uns_all z.C (MS0 (fill z.E z.ok z.rows z.C i).1 (fill z.E z.ok z.rows z.C i).2).seen; omega) ⟨hq.call hb4, RO.made hown⟩
          intro hm
          have h1 := hlt'.out wr.heap.size hm
          have h2 := hf.size
          omega
        obtain ⟨bb, hbb⟩ : ∃ bb, (tries z.E z.ok (z.C + 1) i (MS0 (fill z.E z.ok z.rows z.C i).1 (fill z.E z.ok z.rows z.C i).2)).1 = bb := ⟨_, rfl⟩
        rw [hbb] at hcn
        have hbb' := Lib.hid hbb
        have hcn3 := Lib.hid hcn
        clear hneg hrow hst hcn hco hbb hcn'
        cases bb
        · have hcn3 : Hid (cnt (fill z.E z.ok z.rows z.C (i + 1)).1 z.R = cnt (fill z.E z.ok z.rows z.C i).1 z.R) := by show _ = _; rw [hcn3.out]; simp
          go_upto_region 6 with fail
          go_wp2_with (first
            | (at_make; refine wpList_make_want _ (by simp [Region.wanted, yielded]) _ _ 67 rfl wr.heap.size 4 i0 (.bool false) 1 Try.underlying67 hi0 hz0 hz1 z.C rfl rfl (by rw [hz2]; omega) (by unfold maxLen; omega) (Nat.le_refl _) ?_; intro w4 hown hg4)
            | (go_at_call 69; (with_reducible refine (hgr.out w4 hown hg4).mono ?_); rintro e w5 ⟨rfl, hq5, hco5, hf5⟩; rw [hbb'.out]))
          have hF2 : Hid (F3 z w (i + 1) w5) := by
            show F3 z w (i + 1) w5
            unfold F3
            rw [hst'.out]
            refine ⟨hq5.q, (hf.call ((Below.refl _ _).grown hg4 (Nat.le_refl _) (by intro b hb; cases hb))).via hf5 (fun y hy => ?_)⟩
            simp at hy
            rcases hy with rfl | rfl | rfl
            · right; exact hf.size
            · left; simp
            · left; simp
          go_roundw
          case rel => exact ⟨i + 1, by omega, by go_num, by rw [hcn3.out], hF2⟩
          case measure => simp [intOf]; omega
        · have hcn3 : Hid (cnt (fill z.E z.ok z.rows z.C (i + 1)).1 z.R = cnt (fill z.E z.ok z.rows z.C i).1 z.R + 1) := by show _ = _; rw [hcn3.out]; simp
          go_upto_region 6 with fail
          go_wp2_with (first
            | (at_make; refine wpList_make_want _ (by simp [Region.wanted, yielded]) _ _ 67 rfl wr.heap.size 4 i0 (.bool false) 1 Try.underlying67 hi0 hz0 hz1 z.C rfl rfl (by rw [hz2]; omega) (by unfold maxLen; omega) (Nat.le_refl _) ?_; intro w4 hown hg4)
            | (go_at_call 69; (with_reducible refine (hgr.out w4 hown hg4).mono ?_); rintro e w5 ⟨rfl, hq5, hco5, hf5⟩; rw [hbb'.out]))
          have hF2 : Hid (F3 z w (i + 1) w5) := by
            show F3 z w (i + 1) w5
            unfold F3
            rw [hst'.out]
            refine ⟨hq5.q, (hf.call ((Below.refl _ _).grown hg4 (Nat.le_refl _) (by intro b hb; cases hb))).via hf5 (fun y hy => ?_)⟩
            simp at hy
            rcases hy with rfl | rfl | rfl
            · right; exact hf.size
            · left; simp
            · left; simp
          go_roundw
          case rel => exact ⟨i + 1, by omega, by go_num, by rw [hcn3.out]; go_num, hF2⟩
          case measure => simp [intOf]; omega
    · have hin' : z.R = i := by omega
      subst hin'
      have hfin : PF3 z w (.returned (.int .i64 (cnt (fill z.E z.ok z.rows z.C z.R).1 z.R : Int))) wr := ⟨rfl, hq, hf⟩
      have hfin' := Lib.hid hfin
      clear hfin hq hf hF
      go_wp2_with fail
      go_ret
      exact hfin'.out

end Go.Proofs.Ytjbhnfejpgjghaa
