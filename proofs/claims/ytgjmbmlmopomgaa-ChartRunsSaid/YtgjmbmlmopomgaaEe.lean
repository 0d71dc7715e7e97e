/- known: the document's example is answered. -/
import Derived.Test.YtgjmbmlmopomgaaEd
namespace Go.Proofs.Ytgjmbmlmopomgaa
open Go.RowKit Go.Maps Lib
set_option linter.unusedSimpArgs false
set_option linter.unusedVariables false

section
variable {A A1 A2 A3 A4 : Option Addr} {g : GV} {i : SL}
theorem lamp_known (hs : g.st.l = [0]) (hn : g.st.n = 1) (hfn : g.fr.n = 1) (ho : g.out.l = []) : g.known ⟨A, 1, 1, [lampM A1 A2 A3 A4]⟩ = 0 := by
  unfold GV.known
  rw [if_pos (lamp_valid A A1 A2 A3 A4), if_pos]
  simp [GV.fine, hn, hfn, ho, SL.names, rises, statesOk, hs, lampM, okIdx, List.range_succ]
theorem lamp_low : Low [lampM A1 A2 A3 A4] := CV.low (c := ⟨none, 1, 1, [lampM A1 A2 A3 A4]⟩) (lamp_valid none A1 A2 A3 A4)
theorem lamp_react (hs : g.st.l = [0]) (hi : i.l = [bA]) : (reacted ⟨A, 1, 1, [lampM A1 A2 A3 A4]⟩ g i).x.S 0 = 1 ∧ (reacted ⟨A, 1, 1, [lampM A1 A2 A3 A4]⟩ g i).O = [bUp] := by
  have hth : pres i g.out bA = true := by
    unfold pres inS
    rw [hi]
    simp
  have hS0 : fnI g.st.l 0 = 0 := by rw [hs]; rfl
  have hact : actv [lampM A1 A2 A3 A4] (fnI g.st.l) 0 = true := actv_root (m := lampM A1 A2 A3 A4) _ rfl rfl
  have ho : openM (fnI g.st.l 0) (fnB g.fr.l 0) (pres i g.out) ⟨0, 1, ⟨A3, 1, 1, [bA]⟩, ⟨none, 0, 0, []⟩, ⟨A4, 1, 1, [bUp]⟩, false, false⟩ = true := by
    rw [open_eq, hS0]
    simp [hth]
  have hr : reacted ⟨A, 1, 1, [lampM A1 A2 A3 A4]⟩ g i = ⟨ent [lampM A1 A2 A3 A4] false 1 0 (RS.mv ⟨fnI g.st.l, fnB g.fr.l, fun _ => false⟩ 0 1), [(0, 0)], [bUp]⟩ := by
    show rstep [lampM A1 A2 A3 A4] (fnI g.st.l) (fnB g.fr.l) (pres i g.out) 0 ⟨⟨fnI g.st.l, fnB g.fr.l, fun _ => false⟩, [], []⟩ = _
    exact rstep_some (m := lampM A1 A2 A3 A4) (k := 0) (v := ⟨0, 1, ⟨A3, 1, 1, [bA]⟩, ⟨none, 0, 0, []⟩, ⟨A4, 1, 1, [bUp]⟩, false, false⟩) rfl (by rw [hact]; rfl) (findIdx_some (x := ⟨0, 1, ⟨A3, 1, 1, [bA]⟩, ⟨none, 0, 0, []⟩, ⟨A4, 1, 1, [bUp]⟩, false, false⟩) rfl ho (fun j hj => absurd hj (Nat.not_lt_zero _))) rfl
  rw [hr]
  refine ⟨?_, rfl⟩
  have h := (ent_low (keep := false) (lamp_low (A1 := A1) (A2 := A2) (A3 := A3) (A4 := A4)) 1 0 (RS.mv ⟨fnI g.st.l, fnB g.fr.l, fun _ => false⟩ 0 1) 0 (Nat.le_refl _)).1
  exact h.trans (by simp [RS.mv, upd])
theorem out_up : outS [bUp] = [bUp] := by
  have h : srtS [bUp] = [bUp.toList] := by unfold srtS; simp
  unfold outS
  rw [h, Lib.compact_all _ (fun j hj => Lib.keeps_lt_one _ j (by simpa using hj))]
  simp [bk_toList]
theorem in_a (hi : i.l = [bA]) (hn : i.n = 1) : inErr [i] = 0 := by
  simp [inErr, hn, SL.names, hi, s_a]
end

theorem CV.ok.drew {c : CV} {w : World} (h : c.ok w) : c.ok w.drew := h.below (Below.refl w.heap.size w).drew (Nat.le_refl _)
theorem CV.ok.more {c : CV} {w : World} (h : c.ok w) (o : Obj) : c.ok (w.alloc o) := h.below ((Below.refl w.heap.size w).alloc (Nat.le_refl _) o) (Nat.le_refl _)
theorem Below.moreB {w w' : World} (h : Below w.heap.size w w') (o : Obj) : Below w.heap.size w (w'.alloc o) := h.alloc h.size o
theorem Below.callB {w w' w2 : World} (h : Below w.heap.size w w') (k : Below w'.heap.size w' w2) : Below w.heap.size w w2 := h.trans (k.mono h.size)
theorem SL.ofBlk {w : World} {b : Nat} {x : ByteArray} (h : Blk w b 9 #[.string x]) (hx : x.size ≤ maxLen) : SL.ok w ⟨some ⟨b, 0, Option.none⟩, 1, 1, [x]⟩ :=
  ⟨rfl, Nat.le_refl _, Nat.le_of_ble_eq_true rfl, fun y hy => by rw [List.mem_singleton.1 hy]; exact hx, .inr ⟨b, 0, rfl, h.lt, fun j y hj => by
    match j, hj with
    | 0, hj => cases hj; exact h.cell 0⟩⟩
theorem keep3 {w : World} {g : Nat} {t : TypeId} {a b c : Value} (h : Blk w g t #[a, b, c]) : w.cell? ⟨g, 0, none⟩ = some a ∧ w.cell? ⟨g, 1, none⟩ = some b ∧ w.cell? ⟨g, 2, none⟩ = some c := ⟨h.cell 0, h.cell 1, h.cell 2⟩
theorem lamp_re {A A1 A2 A3 A4 : Option Addr} {g : GV} {i : SL} {w w' : World} {e : Ending} (hs : Hid (g.st.l = [0])) (ho : Hid (g.out.l = [])) (hn : Hid (g.st.n = 1)) (hfn : Hid (g.fr.n = 1))
    (h : Reacted ⟨A, 1, 1, [lampM A1 A2 A3 A4]⟩ g i w e w') (hi : i.l = [bA] := by rfl) (hin : i.n = 1 := by rfl) :
    ∃ (g' : GV) (dA : Option Addr) (dc : Nat), e = .returned (.tuple #[.agg #[.slice g'.st.A g'.st.n g'.st.c, .slice g'.fr.A g'.fr.n g'.fr.c, .slice g'.out.A g'.out.n g'.out.c], .slice dA (reD ⟨A, 1, 1, [lampM A1 A2 A3 A4]⟩ g i).length dc, .int .i64 0]) ∧ g'.ok w' ∧ g'.new w.heap.size ∧ g'.st.l = [1] ∧ True ∧ g'.out.l = [bUp] ∧ True ∧ Below w.heap.size w w' := by
  obtain ⟨g', dA, dc, h1, h2, h3, h4, h5, h6, h7, h8⟩ := h
  have he : rErr ⟨A, 1, 1, [lampM A1 A2 A3 A4]⟩ g i = 0 := by
    unfold rErr
    rw [if_pos (lamp_known hs.out hn.out hfn.out ho.out)]
    exact in_a hi hin
  obtain ⟨r1, r2⟩ := lamp_react (A := A) (A1 := A1) (A2 := A2) (A3 := A3) (A4 := A4) hs.out hi
  rw [he] at h1
  refine ⟨g', dA, dc, h1, h2, h3, ?_, trivial, ?_, trivial, h8⟩
  · rw [h4]
    unfold reS
    rw [if_pos he]
    simp [List.range_succ, r1]
  · rw [h6]
    unfold reO
    rw [if_pos he, r2, out_up]
theorem GV.ok.more {g : GV} {w : World} (h : g.ok w) (o : Obj) : g.ok (w.alloc o) := h.below ((Below.refl w.heap.size w).alloc (Nat.le_refl _) o) (Nat.le_refl _)
theorem GV.ok.drew {g : GV} {w : World} (h : g.ok w) : g.ok w.drew := h.below (Below.refl w.heap.size w).drew (Nat.le_refl _)
theorem Below.set3B {w w' : World} (h : Below w.heap.size w w') {p : Nat} (hp : w.heap.size ≤ p) (u v x : Value) : Below w.heap.size w (((w'.setCell ⟨p, 0, none⟩ u).setCell ⟨p, 1, none⟩ v).setCell ⟨p, 2, none⟩ x) :=
  ((h.setCell (p := ⟨p, 0, none⟩) hp u).setCell (p := ⟨p, 1, none⟩) hp v).setCell (p := ⟨p, 2, none⟩) hp x
theorem Blk.far3 {w : World} {g p : Nat} {t : TypeId} {cs : Array Value} (h : Blk w g t cs) (hp : g ≠ p) (u v x : Value) : Blk (((w.setCell ⟨p, 0, none⟩ u).setCell ⟨p, 1, none⟩ v).setCell ⟨p, 2, none⟩ x) g t cs := ((h.far hp u).far hp v).far hp x
/-- what the reaction of the example leaves -/
def CutK (w : World) (v3 v5 : Value) (wc : World) : Prop :=
  ∃ (gX : Nat) (x : GV), v3 = .pointer (some ⟨gX, 0, none⟩) ∧ v5 = .int .i64 0 ∧ Blk wc gX 29 #[.slice x.st.A x.st.n x.st.c, .slice x.fr.A x.fr.n x.fr.c, .slice x.out.A x.out.n x.out.c] ∧ x.ok wc ∧ x.st.l = [1] ∧ x.out.l = [bUp] ∧ Below w.heap.size w wc

set_option maxRecDepth 100000 in
set_option maxHeartbeats 4000000 in
theorem l_known (w : World) : Calls Try.prog 17 #[] w fun e w' => e = .returned (.bool true) ∧ Below w.heap.size w w' := by
  have hb0 := Below.refl w.heap.size w
  go_enter Try.func17, Try.ntmps17
  go_upto_region 2 with (first
    | (go_at_call 39; refine (m_lamp _).mono ?_; rintro e w1 ⟨A, A1, A2, A3, A4, rfl, hc1, hb1⟩; have hst := m_Start _ w1 hc1; simp only at hst; rw [lamp_valid] at hst)
    | (go_at_call 7; refine hst.mono ?_; rintro e w2 ⟨⟨⟨gA, gn, gc, gl⟩, ⟨fA, fn, fc, fl⟩, ⟨oA, on, oc, ol⟩⟩, rfl, hok, hnew, q1, q2, q3, hb2⟩))
  have hq1 : gl = [0] := by rw [show gl = _ from q1]; unfold begS; rw [if_pos (lamp_valid A A1 A2 A3 A4)]; rfl
  have hq3 : gn = 1 := by have h := hok.1.1; simp only [hq1] at h; exact h.symm
  have hq4 : fn = 1 := by
    have h := hok.2.1.1
    have h2 : fl = List.replicate 1 true := by rw [show fl = _ from q2]; unfold begF; rw [if_pos (lamp_valid A A1 A2 A3 A4)]
    simp only [h2] at h
    exact h.symm
  have hq2 : ol = [] := q3
  obtain ⟨wb, hwb⟩ : ∃ wb, wb = w2.alloc (.cells #[.slice gA gn gc, .slice fA fn fc, .slice oA on oc] 29) := ⟨_, rfl⟩
  obtain ⟨gB, hgB⟩ : ∃ gB, gB = w2.heap.size := ⟨_, rfl⟩
  have hG0 : Blk wb gB 29 #[.slice gA gn gc, .slice fA fn fc, .slice oA on oc] := by rw [hwb]; exact Blk.newE hgB
  have hQ0 : Below w2.heap.size w2 wb := by rw [hwb]; exact Below.moreB (Below.refl _ _) _
  have hL0 : Below w.heap.size w wb := Below.callB (Below.callB hb1 hb2) hQ0
  have hlB : gB < wb.heap.size := hG0.lt
  rw [← hwb, ← hgB]
  replace hq1 := Lib.hid hq1
  replace hq2 := Lib.hid hq2
  replace hq3 := Lib.hid hq3
  replace hq4 := Lib.hid hq4
  clear hwb hgB q1 q2 q3 hb2 hb1 hc1 hst hnew
  have hu := Try.underlying29
  go_cut [2, 3, 5] from 11 to 18 (fun v2 v3 v5 wc => v2 = .int .i64 0 ∧ CutK w v3 v5 wc)
  case first =>
    have hS := keep3 hG0.drew
    go_region_held3 (fun w' : World => w'.cell? ⟨gB, 0, none⟩ = some (.slice gA gn gc) ∧ w'.cell? ⟨gB, 1, none⟩ = some (.slice fA fn fc) ∧ w'.cell? ⟨gB, 2, none⟩ = some (.slice oA on oc))
      (exact keep3 (t := 29) (by (repeat (first | (with_reducible exact hG5) | (with_reducible exact hG3) | (with_reducible exact hG0) | (with_reducible refine Blk.drew ?_) | (with_reducible refine Blk.alloc ?_ _) | (with_reducible refine Blk.far3 ?_ ?_ _ _ _) | omega))))
      (first
        | (go_at_call 39; refine (m_lamp _).mono ?_; rintro e w3 ⟨A', A1', A2', A3', A4', rfl, hc3, hb3⟩; have hG3 : Blk w3 gB 29 #[.slice gA gn gc, .slice fA fn fc, .slice oA on oc] := Blk.call (by (repeat (first | (with_reducible exact hG5) | (with_reducible exact hG3) | (with_reducible exact hG0) | (with_reducible refine Blk.drew ?_) | (with_reducible refine Blk.alloc ?_ _) | (with_reducible refine Blk.far3 ?_ ?_ _ _ _) | omega))) hb3; have hL3 : Below w.heap.size w w3 := Below.callB (by (repeat (first | (with_reducible exact hL3) | (with_reducible exact hL0) | (with_reducible refine Below.drew ?_) | (with_reducible refine Below.moreB ?_ _)))) hb3; have hQ3 : Below w2.heap.size w2 w3 := Below.callB (by (repeat (first | (with_reducible exact hQ3) | (with_reducible exact hQ0) | (with_reducible refine Below.drew ?_) | (with_reducible refine Below.moreB ?_ _)))) hb3; (try (refine (have hxa : Blk w3 (wb.heap.size) 29 #[.slice none 0 0, .slice none 0 0, .slice none 0 0] := Blk.call ?_ hb3; ?_); (focus ((repeat (first  | (with_reducible refine Blk.drew ?_) | (refine Blk.newE ?_; (focus ((try simp); all_goals fail))) | (with_reducible refine Blk.alloc ?_ _))); all_goals fail)))); (try (refine (have hxb : Blk w3 (wb.heap.size + 1) 29 #[.slice none 0 0, .slice none 0 0, .slice none 0 0] := Blk.call ?_ hb3; ?_); (focus ((repeat (first  | (with_reducible refine Blk.drew ?_) | (refine Blk.newE ?_; (focus ((try simp); all_goals fail))) | (with_reducible refine Blk.alloc ?_ _))); all_goals fail)))); (try (refine (have hsa : Blk w3 (wb.heap.size) 9 #[.string bA] := Blk.call ?_ hb3; ?_); (focus ((repeat (first  | (with_reducible refine Blk.drew ?_) | (refine Blk.newE ?_; (focus ((try simp); all_goals fail))) | (with_reducible refine Blk.alloc ?_ _))); all_goals fail)))); (try (refine (have hsb : Blk w3 (wb.heap.size + 1) 9 #[.string bA] := Blk.call ?_ hb3; ?_); (focus ((repeat (first  | (with_reducible refine Blk.drew ?_) | (refine Blk.newE ?_; (focus ((try simp); all_goals fail))) | (with_reducible refine Blk.alloc ?_ _))); all_goals fail)))); have hs3 : wb.heap.size ≤ w3.heap.size := (by have h3 := hb3.size; (try simp at h3); omega); clear hS; have hS := keep3 hG3)
        | (go_at_call 15; refine (m_React ⟨A', 1, 1, [lampM A1' A2' A3' A4']⟩ ⟨⟨gA, gn, gc, gl⟩, ⟨fA, fn, fc, fl⟩, ⟨oA, on, oc, ol⟩⟩ ⟨some ⟨_, 0, none⟩, 1, 1, [bA]⟩ _ ?_ (GV.ok.below hok (B := w2.heap.size) ?_ (Nat.le_refl _)) (SL.ofBlk ?_ (by decide))).mono ?_; (focus (repeat (first | (with_reducible exact hc3) | (with_reducible refine CV.ok.drew ?_) | (with_reducible refine CV.ok.more ?_ _)))); (focus (repeat (first | (with_reducible exact hQ3) | (with_reducible exact hQ0) | (with_reducible refine Below.drew ?_) | (with_reducible refine Below.moreB ?_ _)))); (focus (repeat (first | (with_reducible exact hsa) | (with_reducible exact hsb) | (with_reducible refine Blk.drew ?_) | (refine Blk.newE ?_; (focus ((try simp); all_goals fail))) | (with_reducible refine Blk.alloc ?_ _)))); rintro e w5 hre; obtain ⟨⟨⟨xA, xn, xc, xl⟩, ⟨yA, yn, yc, yl⟩, ⟨zA, zn, zc, zl⟩⟩, dA, dc, rfl, hxok, hxnew, e1, -, e3, -, hb5⟩ := lamp_re hq1 hq2 hq3 hq4 hre; have hL5 : Below w.heap.size w w5 := Below.callB (by (repeat (first | (with_reducible exact hL3) | (with_reducible exact hL0) | (with_reducible refine Below.drew ?_) | (with_reducible refine Below.moreB ?_ _)))) hb5; (try (refine (have hya : Blk w5 (wb.heap.size) 29 #[.slice none 0 0, .slice none 0 0, .slice none 0 0] := Blk.call ?_ hb5; ?_); (focus ((repeat (first | (with_reducible exact hxa) | (with_reducible exact hxb) | (with_reducible refine Blk.drew ?_) | (refine Blk.newE ?_; (focus ((try simp); all_goals fail))) | (with_reducible refine Blk.alloc ?_ _))); all_goals fail)); obtain ⟨xa0, xa1, xa2, xa3, xa4, xa5⟩ := blkT hya)); (try (refine (have hyb : Blk w5 (wb.heap.size + 1) 29 #[.slice none 0 0, .slice none 0 0, .slice none 0 0] := Blk.call ?_ hb5; ?_); (focus ((repeat (first | (with_reducible exact hxa) | (with_reducible exact hxb) | (with_reducible refine Blk.drew ?_) | (refine Blk.newE ?_; (focus ((try simp); all_goals fail))) | (with_reducible refine Blk.alloc ?_ _))); all_goals fail)); obtain ⟨xb0, xb1, xb2, xb3, xb4, xb5⟩ := blkT hyb)); (try (refine (have hyc : Blk w5 (w3.heap.size) 29 #[.slice none 0 0, .slice none 0 0, .slice none 0 0] := Blk.call ?_ hb5; ?_); (focus ((repeat (first  | (with_reducible refine Blk.drew ?_) | (refine Blk.newE ?_; (focus ((try simp); all_goals fail))) | (with_reducible refine Blk.alloc ?_ _))); all_goals fail)); obtain ⟨xc0, xc1, xc2, xc3, xc4, xc5⟩ := blkT hyc)); (try (refine (have hyd : Blk w5 (w3.heap.size + 1) 29 #[.slice none 0 0, .slice none 0 0, .slice none 0 0] := Blk.call ?_ hb5; ?_); (focus ((repeat (first  | (with_reducible refine Blk.drew ?_) | (refine Blk.newE ?_; (focus ((try simp); all_goals fail))) | (with_reducible refine Blk.alloc ?_ _))); all_goals fail)); obtain ⟨xd0, xd1, xd2, xd3, xd4, xd5⟩ := blkT hyd)); have hG5 : Blk w5 gB 29 #[.slice gA gn gc, .slice fA fn fc, .slice oA on oc] := Blk.call (by (repeat (first | (with_reducible exact hG5) | (with_reducible exact hG3) | (with_reducible exact hG0) | (with_reducible refine Blk.drew ?_) | (with_reducible refine Blk.alloc ?_ _) | (with_reducible refine Blk.far3 ?_ ?_ _ _ _) | omega))) hb5; have hs5 : w3.heap.size ≤ w5.heap.size := (by have h3 := hb5.size; (try simp at h3); omega); clear hS; have hS := keep3 hG5))
    all_goals (go_wp2_with fail; go_meet)
    all_goals have hlw := hL0.size
    all_goals refine ⟨rfl, _, ⟨⟨xA, xn, xc, xl⟩, ⟨yA, yn, yc, yl⟩, ⟨zA, zn, zc, zl⟩⟩, rfl, rfl, ?_, ?_, e1, e3, ?_⟩
    all_goals (repeat (first | omega | (with_reducible exact hxb.lt) | (with_reducible exact hxa.lt) | (with_reducible exact hya.set3 _ _ _) | (with_reducible exact hyb.set3 _ _ _) | (with_reducible exact hyc.set3 _ _ _) | (with_reducible exact hyd.set3 _ _ _) | (with_reducible exact Blk.new _ _ _) | (with_reducible exact hxok) | (with_reducible refine GV.ok.set3 hxok hxnew ?_ _ _ _) | (with_reducible refine GV.ok.more ?_ _) | (with_reducible refine GV.ok.drew ?_) | (with_reducible exact hL5) | (with_reducible refine Below.set3B ?_ ?_ _ _ _) | (with_reducible refine Below.moreB ?_ _) | (with_reducible refine Below.drew ?_) | (focus (simp; done)) | (focus (simp; omega))))
  case rest =>
    obtain ⟨rfl, gX, ⟨⟨xA, xn, xc, xl⟩, ⟨yA, yn, yc, yl⟩, ⟨zA, zn, zc, zl⟩⟩, rfl, rfl, hBX, hxok, e1, e3, hbX⟩ := hcut
    simp only at e1 e3 hBX
    have c0 := hBX.cell 0
    have c2 := hBX.cell 2
    simp only [List.getElem?_toArray, List.getElem?_cons_zero, List.getElem?_cons_succ] at c0 c2
    have hxn : xn = 1 := by have h := hxok.1.1; simp only [e1] at h; exact h.symm
    subst hxn
    obtain ⟨gx, ox, x, hA, hgx, hx, -, cx⟩ := hxok.1.cell (j := 0) (by show 0 < 1; omega)
    simp only [Nat.add_zero] at hA hx cx
    rw [e1] at hx
    cases hx
    subst hA
    have hsm : Calls Try.prog 23 #[.slice zA zn zc, .slice (some ⟨wc.heap.size, 0, none⟩) 1 1] (wc.alloc (.cells #[.string ⟨#[117, 112]⟩] 9)) (fun e w'' => e = .returned (.bool true) ∧ Below (wc.alloc (.cells #[.string ⟨#[117, 112]⟩] 9)).heap.size (wc.alloc (.cells #[.string ⟨#[117, 112]⟩] 9)) w'') := l_same ⟨zA, zn, zc, zl⟩ ⟨some ⟨wc.heap.size, 0, none⟩, 1, 1, [bUp]⟩ (wc.alloc (.cells #[.string bUp] 9)) (SL.ok.below hxok.2.2 ((Below.refl _ _).alloc (Nat.le_refl _) _) (Nat.le_refl _)) (SL.ofBlk (Blk.new _ _ _) (by decide)) e3
    have hb9 := Lib.hid (Below.moreB hbX (.cells #[.string ⟨#[117, 112]⟩] 9))
    go_wp2_with (go_at_call 23; refine hsm.mono ?_; rintro e w9 ⟨rfl, hb10⟩)
    go_ret
    exact ⟨rfl, Below.callB hb9.out hb10⟩

end Go.Proofs.Ytgjmbmlmopomgaa
