/- The reference's react. (printed by gen_jf.py) -/
import Derived.Deep.MidRow
import Derived.Test.YtgjmbmlmopomgaaJe
import Derived.Test.YtgjmbmlmopomgaaEe
namespace Go.Proofs.Ytgjmbmlmopomgaa
open Go.RowKit Go.Maps Lib
set_option linter.unusedSimpArgs false
set_option linter.unusedVariables false

theorem step_app_S2 {w : World} {ops : Array Oper} {o : Oper} {a : Act} {K : Act → World → Prop} {Q : Exit → Act → World → Prop} {F : Prop} (hgd : o.guard = none) (s x : Operand) (ho : o.op = .call { callee := .builtin .append, args := #[s, x], argTypes := #[27, 27] })
    (B n : Nat) (v : Value) (l : List ByteArray) (hs : a.eval s = v) (h : w.ownsRow B 9 1 v n (vS l)) (hl : l.length = n) (hB : B ≤ w.heap.size)
    (y : SL) (hx : a.eval x = .slice y.A y.n y.c) (hy : y.ok w) (hyn : (n + y.n) * 16 ≤ 140737488355328)
    (hK : ∀ A' c' w', w'.ownsRow B 9 1 (.slice A' (n + y.n) c') (n + y.n) (vS (l ++ y.l)) → w.grownBy w' v.ownBlock → K (a.put o.dst (.slice A' (n + y.n) c')) w') :
    if Region.wanted o (yielded ops a.tmps) = true then Oper.wp Try.prog o a w K Q else F := by
  have hw : Region.wanted o (yielded ops a.tmps) = true := by simp [Region.wanted, hgd]
  rw [if_pos hw]
  obtain ⟨A', c', w', hr, h1, h2⟩ := run_app_S h hl y hy hyn hB o.type
  unfold Oper.wp execOp
  simp only [ho, resolve, invoke, builtin, Sem.run_bind, Sem.run_pure, Result.andThen_ok, List.map_toArray, List.map_cons, List.map_nil, hs, hx, hr]
  exact hK A' c' w' h1 h2
theorem range7 {w : World} {b : Nat} {v0 v1 v2 v3 v4 v5 v6 : Value} (h0 : w.cell? ⟨b, 0, none⟩ = some v0) (h1 : w.cell? ⟨b, 1, none⟩ = some v1) (h2 : w.cell? ⟨b, 2, none⟩ = some v2) (h3 : w.cell? ⟨b, 3, none⟩ = some v3) (h4 : w.cell? ⟨b, 4, none⟩ = some v4) (h5 : w.cell? ⟨b, 5, none⟩ = some v5) (h6 : w.cell? ⟨b, 6, none⟩ = some v6) : w.rangeAt b 0 [v0, v1, v2, v3, v4, v5, v6] := by
  intro j v hj
  rw [Nat.zero_add]
  match j, hj with
  | 0, hj => cases hj; exact h0
  | 1, hj => cases hj; exact h1
  | 2, hj => cases hj; exact h2
  | 3, hj => cases hj; exact h3
  | 4, hj => cases hj; exact h4
  | 5, hj => cases hj; exact h5
  | 6, hj => cases hj; exact h6
  | j + 7, hj => simp at hj
section
variable {P : Program} {ops : Array Oper} {Q : Exit → Act → World → Prop}
theorem step_make_b {o : Oper} {a : Act} {w : World} {K : Act → World → Prop} {E : Prop} (hgd : o.guard = none) (l c : Operand) (t : TypeId) (hop : o.op = Op.makeSlice t l c)
    (base : Nat) (e : TypeId) (i : TypeInfo) (z : Value) (size : Nat) (h1 : P.underlying t = some (.slice e)) (h2 : P.info? e = some i) (h3 : i.zero = some z) (h4 : i.size = size)
    (n : Nat) (hl : a.eval l = .int .i64 (n : Int)) (hc : a.eval c = .int .i64 (n : Int)) (b2 : i.bytes * n ≤ 281474976710656) (b3 : n ≤ maxLen) (b4 : base ≤ w.heap.size)
    (hK : ∀ w', w'.ownsRow base e size (.slice (some ⟨w.heap.size, 0, none⟩) n n) n (madeCells z.cells (n * size)).toList → w.grownBy w' none → K (a.put o.dst (.slice (some ⟨w.heap.size, 0, none⟩) n n)) w') :
    if Region.wanted o (yielded ops a.tmps) = true then Oper.wp P o a w K Q else E := by
  have hw : Region.wanted o (yielded ops a.tmps) = true := by simp [Region.wanted, hgd]
  rw [if_pos hw]
  obtain ⟨w', hrun, r1, r2⟩ := run_make_full (P := P) w base t e i z size h1 h2 h3 h4 .i64 .i64 n b2 b3 b4
  unfold Oper.wp
  simp [execOp, hop, hl, hc, hrun, Result.andThen]
  exact hK w' r1 r2
end

set_option maxRecDepth 100000 in
set_option maxHeartbeats 8000000 in
theorem r_react (c : CV) (g : GV) (i : SL) (w : World) (hc : c.ok w) (hg : g.ok w) (hi : i.ok w) (hv : c.valid = 0) (hgn : g.st.n = c.n) (hfn : g.fr.n = c.n) (hgo : g.out.n ≤ 8796093021952) (hi64 : i.n ≤ 64) :
    Calls Try.prog 38 #[.agg #[.slice c.A c.n c.c], .agg #[.slice g.st.A g.st.n g.st.c, .slice g.fr.A g.fr.n g.fr.c, .slice g.out.A g.out.n g.out.c], .slice i.A i.n i.c] w (Reacts c g (reacted c g i) w) := by
  obtain ⟨A, n, cc, l⟩ := c
  obtain ⟨⟨gA, gn, gc, gl⟩, ⟨fA, fn, fc, fl⟩, ⟨oA, on, oc, ol⟩⟩ := g
  obtain ⟨iA, iN, ic, il⟩ := i
  have h6 := CV.six hv
  have hlow := CV.low hv
  have hn0 : 0 < n := Nat.pos_of_ne_zero (CV.fineOf hv).2.1
  have hbd := rto_bound hc hv (fnI gl) (fnB fl) (pres ⟨iA, iN, ic, il⟩ ⟨oA, on, oc, ol⟩) (fnI_in64 hg.1.2.2.2.1)
  have hem64 := fun k j m v => @CV.em64 ⟨A, n, cc, l⟩ hv k j m v
  have hfresh := rto_fresh hlow (fnI gl) (fnB fl) (pres ⟨iA, iN, ic, il⟩ ⟨oA, on, oc, ol⟩)
  have hopr := fun s f v => open_ref s f ⟨iA, iN, ic, il⟩ ⟨oA, on, oc, ol⟩ v
  simp only at h6 hlow hn0 hgn hfn hgo hi64 hopr ⊢
  subst gn
  subst fn
  have hl := hc.1
  have hil := hi.1
  simp only at hl hil
  have hO0 := Own.three w 24 29 29 #[.slice A n cc] #[.slice gA n gc, .slice fA n fc, .slice oA on oc] #[.slice none 0 0, .slice none 0 0, .slice none 0 0]
  replace hc := Lib.hid hc
  replace hg := Lib.hid hg
  replace hi := Lib.hid hi
  replace hlow := Lib.hid hlow
  replace hbd := Lib.hid hbd
  replace hem64 := Lib.hid hem64
  replace hfresh := Lib.hid hfresh
  replace hopr := Lib.hid hopr
  have hrd : Hid (reacted ⟨A, n, cc, l⟩ ⟨⟨gA, n, gc, gl⟩, ⟨fA, n, fc, fl⟩, ⟨oA, on, oc, ol⟩⟩ ⟨iA, iN, ic, il⟩ = rto l (fnI gl) (fnB fl) (pres ⟨iA, iN, ic, il⟩ ⟨oA, on, oc, ol⟩) l.length ⟨⟨fnI gl, fnB fl, fun _ => false⟩, [], []⟩) := rfl
  generalize reacted ⟨A, n, cc, l⟩ ⟨⟨gA, n, gc, gl⟩, ⟨fA, n, fc, fl⟩, ⟨oA, on, oc, ol⟩⟩ ⟨iA, iN, ic, il⟩ = R at hrd ⊢
  obtain ⟨w3, hw3⟩ : ∃ w3, w3 = ((w.alloc (.cells #[.slice A n cc] 24)).alloc (.cells #[.slice gA n gc, .slice fA n fc, .slice oA on oc] 29)).alloc (.cells #[.slice none 0 0, .slice none 0 0, .slice none 0 0] 29) := ⟨_, rfl⟩
  rw [← hw3] at hO0
  have hO3 := Lib.hid hO0
  clear hO0
  obtain ⟨j0, hj0, yz0, yz1, yz2⟩ := infoB_parts
  go_enter Try.func38, Try.ntmps38
  go_upto_region 1 with fail
  rw [← hw3]
  clear hw3
  go_cut [8] from 18 to 22 (fun v8 wc => ∃ A' c', v8 = .slice A' (iN + on) c' ∧ SL.ok wc ⟨A', iN + on, c', il ++ ol⟩ ∧ Below w3.heap.size w3 wc)
  case first =>
     have hS : (fun w' : World => w'.cell? ⟨w.heap.size + 1, 2, none⟩ = some (.slice oA on oc)) w3.drew := hO3.out.b1.cell 2
     have hSb : Hid (∀ w', Below w3.heap.size w3 w' → (fun w' : World => w'.cell? ⟨w.heap.size + 1, 2, none⟩ = some (.slice oA on oc)) w') := fun w' hb => (hb.cell (p := ⟨w.heap.size + 1, 2, none⟩) (hO3.out.b1.lt)).trans (hO3.out.b1.cell 2)
     refine wp_region_K (S := (fun w' : World => w'.cell? ⟨w.heap.size + 1, 2, none⟩ = some (.slice oA on oc))) (K := []) (by kernel_rfl) ?_
     simp only at hS
     refine AnyK.take (i := 0) (v := .slice iA iN ic) rfl (by kernel_rfl) (by kernel_rfl) (by kernel_rfl) (by kernel_rfl) (by kernel_rfl) (by kernel_rfl) (fun _ _ _ h => h) (Or.inl ⟨by kernel_rfl, ?_⟩) hS ?_
     · rintro w' z0
       go_simp
     (try simp only [Act.put, List.setIfInBounds_toArray, List.set_cons_zero, List.set_cons_succ])
     refine AnyK.take (i := 2) (v := .pointer (some ⟨w.heap.size + 1, 2, none⟩)) rfl (by kernel_rfl) (by kernel_rfl) (by kernel_rfl) (by kernel_rfl) (by kernel_rfl) (by kernel_rfl) (fun _ _ _ h => h) (Or.inl ⟨by kernel_rfl, ?_⟩) hS ?_
     · rintro w' z0
       go_simp
     (try simp only [Act.put, List.setIfInBounds_toArray, List.set_cons_zero, List.set_cons_succ])
     refine AnyK.take (i := 3) (v := .slice oA on oc) rfl (by kernel_rfl) (by kernel_rfl) (by kernel_rfl) (by kernel_rfl) (by kernel_rfl) (by kernel_rfl) (fun _ _ _ h => h) (Or.inl ⟨by kernel_rfl, ?_⟩) hS ?_
     · rintro w' z0
       go_simp
     (try simp only [Act.put, List.setIfInBounds_toArray, List.set_cons_zero, List.set_cons_succ])
     refine AnyK.one (i := 1) (by kernel_rfl) rfl (fun K' hK => ?_)
     refine step_app_S2 (by rfl) (.const (.slice none 0 0)) (.tmp 18) (by rfl) w3.heap.size 0 (.slice none 0 0) [] (by rfl) (World.ownsRow_nil _ _ _ _) rfl (Nat.le_refl _) ⟨iA, iN, ic, il⟩ (by kernel_rfl) (hi.out.below hO3.out.drew.1 (Nat.le_refl _)) (by show (0 + iN) * 16 ≤ _; omega) ?_
     intro A1 c1 w6 hr6 hg6
     rw [List.nil_append] at hr6
     simp only [Nat.zero_add] at hr6
     go_simp
     have hb6 : Below w3.heap.size w3 w6 := (Below.refl _ _).drew.grown hg6 (Nat.le_refl _) (fun b hb => by cases hb)
     have hO6 := Lib.hid (hO3.out.call hb6)
     replace hS := hSb.out w6 hb6
     refine hK.out _ _ (fun _ => hS) ?_
     clear hK
     (try simp only [Act.put, List.setIfInBounds_toArray, List.set_cons_zero, List.set_cons_succ])
     refine AnyK.one (i := 4) (by kernel_rfl) rfl (fun K' hK => ?_)
     refine step_app_S2 (by rfl) (.tmp 19) (.tmp 21) (by rfl) w3.heap.size iN (.slice A1 iN c1) il (by kernel_rfl) hr6 hil hb6.size ⟨oA, on, oc, ol⟩ (by kernel_rfl) (hg.out.2.2.below hO6.out.1 (Nat.le_refl _)) (by show (iN + on) * 16 ≤ _; omega) ?_
     intro A2 c2 w7 hr7 hg7
     go_simp
     have hb7 : Below w3.heap.size w3 w7 := hb6.grown hg7 hb6.size (fun b hb => (OR.at hr6 hb).1)
     have hO7 := Lib.hid (hO3.out.call hb7)
     replace hS := hSb.out w7 hb7
     refine hK.out _ _ (fun _ => hS) ?_
     clear hK
     (try simp only [Act.put, List.setIfInBounds_toArray, List.set_cons_zero, List.set_cons_succ])
     refine AnyK.one (i := 5) (by kernel_rfl) rfl (fun K' hK => ?_)
     go_simp
     replace hS := hSb.out w7 hb7
     refine hK.out _ _ (fun _ => hS) ?_
     clear hK
     (try simp only [Act.put, List.setIfInBounds_toArray, List.set_cons_zero, List.set_cons_succ])
     refine AnyK.done (by kernel_rfl) ?_ _
     clear hS hSb
     have hfin : SL.ok w7 ⟨A2, iN + on, c2, il ++ ol⟩ := SL.row hr7 (by have h2 := hg.out.2.2.1; simp only at h2; simp [hil, h2]) (fun x hx => by
       rcases List.mem_append.1 hx with h3 | h3
       · exact hi.out.2.2.2.1 x h3
       · exact hg.out.2.2.2.2.2.1 x h3) (by show iN + on ≤ _; omega)
     replace hfin := Lib.hid hfin
     go_wp2_with fail
     go_meet
     exact ⟨A2, c2, rfl, hfin.out, hb7⟩
  case rest =>
    obtain ⟨tA, tc, rfl, htok, hbt⟩ := hcut
    have hO4 := Lib.hid (hO3.out.call hbt)
    obtain ⟨w4, hw4⟩ : ∃ w4, w4 = wc := ⟨_, rfl⟩
    subst hw4
    replace htok := Lib.hid htok
    clear hO3 hbt
    go_upto_region 2 with fail
    go_cut [9] from 23 to 29 (fun v9 wc => ∃ gE gR, v9 = .pointer (some ⟨gR, 0, none⟩) ∧ w4.heap.size ≤ gE ∧ gE < gR ∧ Blk wc gR 90 #[.slice A n cc, .slice none 0 0, .slice none 0 0, .slice none 0 0, .slice (some ⟨gE, 0, none⟩) n n] ∧ RW wc 4 gE n n (bv (fun _ => false)) ∧ Below w4.heap.size w4 wc)
    case first =>
      have hS : (fun w' : World => w'.cell? ⟨w.heap.size, 0, none⟩ = some (.slice A n cc)) w4.drew := hO4.out.b0.cell 0
      have hSb : Hid (∀ w', Below w4.heap.size w4 w' → (fun w' : World => w'.cell? ⟨w.heap.size, 0, none⟩ = some (.slice A n cc)) w') := fun w' hb => (hb.cell (p := ⟨w.heap.size, 0, none⟩) (hO4.out.b0.lt)).trans (hO4.out.b0.cell 0)
      refine wp_region_K (S := (fun w' : World => w'.cell? ⟨w.heap.size, 0, none⟩ = some (.slice A n cc))) (K := []) (by kernel_rfl) ?_
      simp only at hS
      refine AnyK.take (i := 0) (v := .agg #[.slice A n cc]) rfl (by kernel_rfl) (by kernel_rfl) (by kernel_rfl) (by kernel_rfl) (by kernel_rfl) (by kernel_rfl) (fun _ _ _ h => h) (Or.inl ⟨by kernel_rfl, ?_⟩) hS ?_
      · rintro w' z0
        go_simp
      (try simp only [Act.put, List.setIfInBounds_toArray, List.set_cons_zero, List.set_cons_succ])
      refine AnyK.take (i := 1) (v := .pointer (some ⟨w.heap.size, 0, none⟩)) rfl (by kernel_rfl) (by kernel_rfl) (by kernel_rfl) (by kernel_rfl) (by kernel_rfl) (by kernel_rfl) (fun _ _ _ h => h) (Or.inl ⟨by kernel_rfl, ?_⟩) hS ?_
      · rintro w' z0
        go_simp
      (try simp only [Act.put, List.setIfInBounds_toArray, List.set_cons_zero, List.set_cons_succ])
      refine AnyK.take (i := 2) (v := .slice A n cc) rfl (by kernel_rfl) (by kernel_rfl) (by kernel_rfl) (by kernel_rfl) (by kernel_rfl) (by kernel_rfl) (fun _ _ _ h => h) (Or.inl ⟨by kernel_rfl, ?_⟩) hS ?_
      · rintro w' z0
        go_simp
      (try simp only [Act.put, List.setIfInBounds_toArray, List.set_cons_zero, List.set_cons_succ])
      refine AnyK.take (i := 3) (v := .int .i64 (n : Int)) rfl (by kernel_rfl) (by kernel_rfl) (by kernel_rfl) (by kernel_rfl) (by kernel_rfl) (by kernel_rfl) (fun _ _ _ h => h) (Or.inl ⟨by kernel_rfl, ?_⟩) hS ?_
      · rintro w' z0
        go_simp
      (try simp only [Act.put, List.setIfInBounds_toArray, List.set_cons_zero, List.set_cons_succ])
      refine AnyK.one (i := 4) (by kernel_rfl) rfl (fun K' hK => ?_)
      refine step_make_b (by kernel_rfl) (.tmp 26) (.tmp 26) 26 (by kernel_rfl) w4.heap.size 4 j0 (.bool false) 1 Try.underlying26 hj0 yz0 yz1 n (by kernel_rfl) (by kernel_rfl) (by rw [yz2]; omega) (by unfold maxLen; omega) (Nat.le_refl _) ?_
      intro w6 hown6 hg6
      go_simp
      have hb6 : Below w4.heap.size w4 w6 := (Below.refl _ _).drew.grown hg6 (Nat.le_refl _) (fun b hb => by cases hb)
      replace hS := hSb.out w6 hb6
      refine hK.out _ _ (fun _ => hS) ?_
      clear hK
      (try simp only [Act.put, List.setIfInBounds_toArray, List.set_cons_zero, List.set_cons_succ])
      refine AnyK.take (i := 5) (v := .agg #[.slice A n cc, .slice none 0 0, .slice none 0 0, .slice none 0 0, .slice (some ⟨w4.heap.size, 0, none⟩) n n]) rfl (by kernel_rfl) (by kernel_rfl) (by kernel_rfl) (by kernel_rfl) (by kernel_rfl) (by kernel_rfl) (fun _ _ _ h => h) (Or.inl ⟨by kernel_rfl, ?_⟩) hS ?_
      · rintro w' z0
        go_simp
      (try simp only [Act.put, List.setIfInBounds_toArray, List.set_cons_zero, List.set_cons_succ])
      refine AnyK.one (i := 6) (by kernel_rfl) rfl (fun K' hK => ?_)
      go_simp
      have hb7 : Below w4.heap.size w4 (w6.alloc (.cells #[.slice A n cc, .slice none 0 0, .slice none 0 0, .slice none 0 0, .slice (some ⟨w4.heap.size, 0, none⟩) n n] 90)) := hb6.alloc hb6.size _
      replace hS := hSb.out _ hb7
      refine hK.out _ _ (fun _ => hS) ?_
      clear hK
      (try simp only [Act.put, List.setIfInBounds_toArray, List.set_cons_zero, List.set_cons_succ])
      refine AnyK.one (i := 7) (by kernel_rfl) rfl (fun K' hK => ?_)
      go_simp
      replace hS := hSb.out _ hb7
      refine hK.out _ _ (fun _ => hS) ?_
      clear hK
      (try simp only [Act.put, List.setIfInBounds_toArray, List.set_cons_zero, List.set_cons_succ])
      refine AnyK.done (by kernel_rfl) ?_ _
      clear hS hSb
      have hE6 : RW w6 4 w4.heap.size n n (bv (fun _ => false)) := RW.of_row (B := w4.heap.size) hown6 (made_vb n) hn0
      have hfin := Lib.hid (And.intro (RW.more hE6 (.cells #[.slice A n cc, .slice none 0 0, .slice none 0 0, .slice none 0 0, .slice (some ⟨w4.heap.size, 0, none⟩) n n] 90)) (And.intro hb7 hE6.lt))
      go_wp2_with fail
      go_meet
      exact ⟨w4.heap.size, w6.heap.size, rfl, Nat.le_refl _, hfin.out.2.2, Blk.new _ _ _, hfin.out.1, hfin.out.2.1⟩
    case rest =>
      obtain ⟨gE, gR, rfl, hgE, hgR, hbR, hrE, hb5⟩ := hcut
      have hO5 := hO4.out.call hb5
      have htok5 := htok.out.below hb5 (Nat.le_refl _)
      have htO : Hid (∀ q, w4.heap.size ≤ q → Off q (iN + on) tA) := fun q hq => htok.out.off hq
      obtain ⟨w5, hw5⟩ : ∃ w5, w5 = wc := ⟨_, rfl⟩
      subst hw5
      have b0 := hO5.b1.cell 0
      have b1 := hO5.b1.cell 1
      simp only [List.getElem?_toArray, List.getElem?_cons_zero, List.getElem?_cons_succ] at b0 b1
      obtain ⟨-, x1, -, -, -⟩ := blk5 hbR
      have y1 := hbR.frozen 1
      have hgok5 := hg.out.1.below hO5.1 (Nat.le_refl _)
      have hfok5 := hg.out.2.1.below hO5.1 (Nat.le_refl _)
      have hO5w := hO4.out.2.1
      replace hO5 := Lib.hid hO5
      replace hbR := Lib.hid hbR
      replace hrE := Lib.hid hrE
      replace htok5 := Lib.hid htok5
      replace hfok5 := Lib.hid hfok5
      clear htok hO4
      have hsz5 : Hid (w4.heap.size ≤ w5.heap.size) := hb5.size
      clear hb5
      have hw4s : w.heap.size + 3 ≤ w4.heap.size := by have := hO5w; simp only [List.length_cons, List.length_nil] at this; omega
      have hRlt : gR < w5.heap.size := hbR.out.lt
      go_upto_region 4 with (at_builtin; refine app_Nn rfl _ _ rfl rfl ⟨gA, n, gc, gl⟩ rfl hgok5 hn0 h6 ?_
                             intro gS capS w6 hgS hrS hb6
                             obtain ⟨-, x1, -, -, -⟩ := blk5 (hbR.out.call hb6)
                             have y1 := (hbR.out.call hb6).frozen 1)
      have hf6 : Fr [gR] w6 (w6.setCell ⟨gR, 1, none⟩ (.slice (some ⟨gS, 0, none⟩) n capS)) := Fr.one (p := ⟨gR, 1, none⟩) _
      have hO6 := (hO5.out.call hb6).fr hf6 (fun x hx => by simp at hx; subst hx; simp only [List.length_cons, List.length_nil]; omega)
      have hbR6 := (hbR.out.call hb6).set 1 (.slice (some ⟨gS, 0, none⟩) n capS)
      have hrS6 := hrS.other (g' := gR) (by omega) 1 (.slice (some ⟨gS, 0, none⟩) n capS)
      have hrE6 := (hrE.out.call hb6).other (g' := gR) (by omega) 1 (.slice (some ⟨gS, 0, none⟩) n capS)
      have htok6 := (htok5.out.below hb6 (Nat.le_refl _)).fr hf6 (fun x hx => by simp at hx; subst hx; exact htO.out _ (by omega))
      have hsz6 : w5.heap.size ≤ (w6.setCell ⟨gR, 1, none⟩ (.slice (some ⟨gS, 0, none⟩) n capS)).heap.size := Nat.le_trans hb6.size hf6.size
      have hSlt := hrS6.lt
      obtain ⟨wa, hwa⟩ : ∃ wa, wa = w6.setCell ⟨gR, 1, none⟩ (.slice (some ⟨gS, 0, none⟩) n capS) := ⟨_, rfl⟩
      rw [← hwa] at hO6 hbR6 hrS6 hrE6 htok6 hsz6 hSlt ⊢
      simp only [List.setIfInBounds_toArray, List.set_cons_zero, List.set_cons_succ] at hbR6
      clear hwa hf6 hb6 hrS hbR hrE htok5 hO5 b0 b1 x1 y1
      have b1 := hO6.b1.cell 1
      simp only [List.getElem?_toArray, List.getElem?_cons_zero, List.getElem?_cons_succ] at b1
      obtain ⟨-, -, x2, -, -⟩ := blk5 hbR6
      have y2 := hbR6.frozen 2
      have hfok6 := hg.out.2.1.below hO6.1 (Nat.le_refl _)
      replace hO6 := Lib.hid hO6
      replace hbR6 := Lib.hid hbR6
      replace hrS6 := Lib.hid hrS6
      replace hrE6 := Lib.hid hrE6
      replace htok6 := Lib.hid htok6
      go_upto_region 6 with (at_builtin; refine app_Bn rfl _ _ rfl rfl ⟨fA, n, fc, fl⟩ rfl hfok6 hn0 h6 ?_
                             intro gF capF w7 hgF hrF hb7
                             obtain ⟨-, -, x2, -, -⟩ := blk5 (hbR6.out.call hb7)
                             have y2 := (hbR6.out.call hb7).frozen 2)
      have hf7 : Fr [gR] w7 (w7.setCell ⟨gR, 2, none⟩ (.slice (some ⟨gF, 0, none⟩) n capF)) := Fr.one (p := ⟨gR, 2, none⟩) _
      have hO7 := (hO6.out.call hb7).fr hf7 (fun x hx => by simp at hx; subst hx; simp only [List.length_cons, List.length_nil]; omega)
      have hbR7 := (hbR6.out.call hb7).set 2 (.slice (some ⟨gF, 0, none⟩) n capF)
      have hrS7 := (hrS6.out.call hb7).other (g' := gR) (by omega) 2 (.slice (some ⟨gF, 0, none⟩) n capF)
      have hrE7 := (hrE6.out.call hb7).other (g' := gR) (by omega) 2 (.slice (some ⟨gF, 0, none⟩) n capF)
      have hrF7 := hrF.other (g' := gR) (by omega) 2 (.slice (some ⟨gF, 0, none⟩) n capF)
      have htok7 := (htok6.out.below hb7 (Nat.le_refl _)).fr hf7 (fun x hx => by simp at hx; subst hx; exact htO.out _ (by omega))
      have hsz7 : wa.heap.size ≤ (w7.setCell ⟨gR, 2, none⟩ (.slice (some ⟨gF, 0, none⟩) n capF)).heap.size := Nat.le_trans hb7.size hf7.size
      have hFlt := hrF7.lt
      obtain ⟨wb, hwb⟩ : ∃ wb, wb = w7.setCell ⟨gR, 2, none⟩ (.slice (some ⟨gF, 0, none⟩) n capF) := ⟨_, rfl⟩
      rw [← hwb] at hO7 hbR7 hrS7 hrE7 hrF7 htok7 hsz7 hFlt ⊢
      simp only [List.setIfInBounds_toArray, List.set_cons_zero, List.set_cons_succ] at hbR7
      clear hwb hf7 hb7 hrF hbR6 hrS6 hrE6 htok6 hO6 b1 x2 y2 hfok6
      obtain ⟨z, hz⟩ : ∃ z : QP, z = ⟨⟨A, n, cc, l⟩, w, gR, gS, gF, gE, capS, capF⟩ := ⟨_, rfl⟩
      obtain ⟨tS, htS⟩ : ∃ tS : SL, tS = ⟨tA, iN + on, tc, il ++ ol⟩ := ⟨_, rfl⟩
      obtain ⟨B, hB⟩ : ∃ B, B = wb.heap.size := ⟨_, rfl⟩
      have hzf : z.Fine := by
        rw [hz]
        exact ⟨h6, hlow.out, hc.out, ⟨by show w.heap.size ≤ gS; omega, by show w.heap.size ≤ gF; omega, by show w.heap.size ≤ gE; omega⟩, by show gS ≠ gF; omega, by show gS ≠ gE; omega, by show gF ≠ gE; omega, by show gR ≠ gS; omega, by show gR ≠ gF; omega, by show gR ≠ gE; omega⟩
      have hp : QB z w [(24, #[.slice A n cc]), (29, #[.slice gA n gc, .slice fA n fc, .slice oA on oc]), (29, #[.slice none 0 0, .slice none 0 0, .slice none 0 0])] tS B := by
        refine ⟨hzf, by rw [hz], ?_, ?_, ?_, fun q hq => ?_⟩
        · rw [hz]; exact ⟨by show gR < B; omega, by show gS < B; omega, by show gF < B; omega, by show gE < B; omega⟩
        · simp only [List.length_cons, List.length_nil]; omega
        · rw [hz]; simp only [List.length_cons, List.length_nil]; exact ⟨by show w.heap.size + 3 ≤ gR; omega, by show w.heap.size + 3 ≤ gS; omega, by show w.heap.size + 3 ≤ gF; omega, by show w.heap.size + 3 ≤ gE; omega⟩
        · rw [htS]
          rw [hz] at hq
          simp only at hq
          exact htO.out q (by omega)
      have hQ : QM z w [(24, #[.slice A n cc]), (29, #[.slice gA n gc, .slice fA n fc, .slice oA on oc]), (29, #[.slice none 0 0, .slice none 0 0, .slice none 0 0])] tS B ⟨fnI gl, fnB fl, fun _ => false⟩ [] [] (.slice none 0 0) ⟨none, 0, 0, []⟩ wb := by
        refine ⟨?_, hO7, by rw [htS]; exact htok7, World.ownsRow_nil _ _ _ _, World.ownsRow_nil _ _ _ _, SL.none _, outS_nil.symm, by omega⟩
        rw [hz]
        exact ⟨hO7.1, hbR7, hrS7, hrF7, hrE7⟩
      have htSe : tS.A = tA ∧ tS.n = iN + on ∧ tS.c = tc ∧ tS.l = il ++ ol := by rw [htS]; exact ⟨rfl, rfl, rfl, rfl⟩
      obtain ⟨th, hth⟩ : ∃ th, th = pres ⟨iA, iN, ic, il⟩ ⟨oA, on, oc, ol⟩ := ⟨_, rfl⟩
      rw [← hth] at hrd
      simp only [← hth] at hbd hfresh hopr
      have hQ0 : Hid (RLp z w [(24, #[.slice A n cc]), (29, #[.slice gA n gc, .slice fA n fc, .slice oA on oc]), (29, #[.slice none 0 0, .slice none 0 0, .slice none 0 0])] tS B n l (fnI gl) (fnB fl) th (.slice none 0 0) (.int .i64 0) wb) := ⟨0, ⟨fnI gl, fnB fl, fun _ => false⟩, ⟨none, 0, 0, []⟩, Nat.zero_le _, rfl, hQ, rfl, rfl, fun _ _ => rfl⟩
      replace hp := Lib.hid hp
      replace hz := Lib.hid hz
      replace htSe := Lib.hid htSe
      have a0 := hO7.b0.cell 0
      simp only [List.getElem?_toArray, List.getElem?_cons_zero, List.getElem?_cons_succ] at a0
      have hR3 : Hid (w.heap.size + 3 ≤ gR) := by show _ ≤ _; omega
      have hB3 : Hid (w.heap.size + 3 ≤ B ∧ w.heap.size + 3 ≤ gS ∧ w.heap.size + 3 ≤ gF) := by refine ⟨?_, ?_, ?_⟩ <;> omega
      clear hO7 hbR7 hrS7 hrE7 hrF7 htok7 htO hzf htS hB hsz6 hsz7 hSlt hFlt hgS hgF hgE hgR hRlt hw4s hsz5 hO5w hQ hth
      go_wp2_with fail
      clear a0
      go_loopw [10, 47] (fun v10 v47 wr => RLp z w [(24, #[.slice A n cc]), (29, #[.slice gA n gc, .slice fA n fc, .slice oA on oc]), (29, #[.slice none 0 0, .slice none 0 0, .slice none 0 0])] tS B n l (fnI gl) (fnB fl) th v10 v47 wr) (fun _ i _ => n - (intOf i).toNat)
      case atStart => exact hQ0.out
      case round =>
        clear hQ0
        obtain ⟨k, y, out, hk, rfl, hM, hlk⟩ := hrel
        have hbk := hbd.out k
        have hfr := hfresh.out k k (Nat.le_refl _)
        have hnext : Hid (rto l (fnI gl) (fnB fl) th (k + 1) ⟨⟨fnI gl, fnB fl, fun _ => false⟩, [], []⟩ = rstep l (fnI gl) (fnB fl) th k (rto l (fnI gl) (fnB fl) th k ⟨⟨fnI gl, fnB fl, fun _ => false⟩, [], []⟩)) := rfl
        obtain ⟨r, hr⟩ : ∃ r, r = rto l (fnI gl) (fnB fl) th k ⟨⟨fnI gl, fnB fl, fun _ => false⟩, [], []⟩ := ⟨_, rfl⟩
        rw [← hr] at hM hlk hbk hfr hnext
        by_cases hlt : k < n
        · clear hr
          obtain ⟨gm, om_, ⟨om, os, ⟨sA, sn, sc, sl⟩, fst, ⟨mA, mn, mc, ml⟩⟩, hA, hgm, hm, hmo, c0, c1, c2, c3, c4⟩ := (hc.out.below hM.own.1 (Nat.le_refl _)).cell (j := k) hlt
          simp only at hA hm c0 c1 c2 c3 c4
          subst hA
          have hmv := hmo.2.2.2.2
          have hba := (Below.refl wr.heap.size wr).alloc (Nat.le_refl _) (.cells #[.int .i64 om, .int .i64 os, .slice sA sn sc, .int .i64 fst, .slice mA mn mc] 50)
          have hMA := hM.call hba
          have hBm := Blk.new wr 50 #[.int .i64 om, .int .i64 os, .slice sA sn sc, .int .i64 fst, .slice mA mn mc]
          have hmvA := hmv.below hba (Nat.le_refl _)
          have hBgB := hM.sz
          replace hlk := Lib.hid hlk
          replace hM := Lib.hid hM
          replace hm := Lib.hid hm
          replace hbk := Lib.hid hbk
          replace hfr := Lib.hid hfr
          go_upto_region 9 with fail
          obtain ⟨wA, hwA⟩ : ∃ wA, wA = wr.alloc (.cells #[.int .i64 om, .int .i64 os, .slice sA sn sc, .int .i64 fst, .slice mA mn mc] 50) := ⟨_, rfl⟩
          obtain ⟨gB, hgB⟩ : ∃ gB, gB = wr.heap.size := ⟨_, rfl⟩
          rw [← hwA] at hMA hBm hmvA ⊢
          rw [← hgB] at hBm hBgB ⊢
          clear hwA hgB hba hmv hmo c0 c1 c2 c3 c4 hM
          have hOA := Lib.hid hMA.own
          have hFA := Lib.hid (hMA.facts hz.out)
          have hSn := hFA.out.rS.nl h6 (fun j _ => by rw [hlk.out.1]; exact hbk.out.i64 j)
          have hq1 : Hid (∀ W, Below wA.heap.size wA W → Calls Try.prog 34 #[.agg #[.slice (some ⟨gm, om_, none⟩) n cc], .slice gA n gc, .int .i64 (k : Int)] W fun e w' => e = .returned (.bool (actv l (fnI gl) k)) ∧ Below W.heap.size W w') := fun W hb => r_isActive ⟨some ⟨gm, om_, none⟩, n, cc, l⟩ ⟨gA, n, gc, gl⟩ rfl h6 hlow.out k hlt W ((hc.out.below hOA.out.1 (Nat.le_refl _)).below hb (Nat.le_refl _)) ((hg.out.1.below hOA.out.1 (Nat.le_refl _)).below hb (Nat.le_refl _))
          have hq2 : Hid (∀ W, Below wA.heap.size wA W → Calls Try.prog 34 #[.agg #[.slice (some ⟨gm, om_, none⟩) n cc], .slice (some ⟨gS, 0, none⟩) n capS, .int .i64 (k : Int)] W fun e w' => e = .returned (.bool (actv l y.S k)) ∧ Below W.heap.size W w') := fun W hb => by
            have h := r_isActive ⟨some ⟨gm, om_, none⟩, n, cc, l⟩ ⟨some ⟨gS, 0, none⟩, n, capS, (List.range n).map y.S⟩ rfl h6 hlow.out k hlt W ((hc.out.below hOA.out.1 (Nat.le_refl _)).below hb (Nat.le_refl _)) (hSn.below hb (Nat.le_refl _))
            rw [show actv l (fnI ((List.range n).map y.S)) k = actv l y.S k from actv_congr hlow.out (fun j hj => fnI_range hj) hlt] at h
            exact h
          have hec := hFA.out.rE.cell hlt
          unfold bv at hec
          replace hMA := Lib.hid hMA
          replace hBm := Lib.hid hBm
          replace hmvA := Lib.hid hmvA
          clear hSn
          go_cut [77] from 52 to 77 (fun v77 wc => v77 = .bool (!(actv l (fnI gl) k && actv l y.S k && !y.E k)) ∧ Below wA.heap.size wA wc)
          case first =>
            cases ha1 : actv l (fnI gl) k with
            | false =>
              simp only [ha1] at hq1
              have hS : (fun w' : World => w'.cell? ⟨w.heap.size, 0, none⟩ = some (.slice (some ⟨gm, om_, none⟩) n cc) ∧ w'.cell? ⟨w.heap.size + 1, 0, none⟩ = some (.slice gA n gc) ∧ w'.cell? ⟨gR, 1, none⟩ = some (.slice (some ⟨gS, 0, none⟩) n capS) ∧ w'.cell? ⟨gR, 4, none⟩ = some (.slice (some ⟨gE, 0, none⟩) n n)) wA.drew := ⟨hOA.out.b0.cell 0, hOA.out.b1.cell 0, hFA.out.bR.cell 1, hFA.out.bR.cell 4⟩
              have hSb : Hid (∀ w', Below wA.heap.size wA w' → (fun w' : World => w'.cell? ⟨w.heap.size, 0, none⟩ = some (.slice (some ⟨gm, om_, none⟩) n cc) ∧ w'.cell? ⟨w.heap.size + 1, 0, none⟩ = some (.slice gA n gc) ∧ w'.cell? ⟨gR, 1, none⟩ = some (.slice (some ⟨gS, 0, none⟩) n capS) ∧ w'.cell? ⟨gR, 4, none⟩ = some (.slice (some ⟨gE, 0, none⟩) n n)) w') := fun w' hb => ⟨(hb.cell (p := ⟨w.heap.size, 0, none⟩) (hOA.out.b0.lt)).trans (hOA.out.b0.cell 0), (hb.cell (p := ⟨w.heap.size + 1, 0, none⟩) (hOA.out.b1.lt)).trans (hOA.out.b1.cell 0), (hb.cell (p := ⟨gR, 1, none⟩) (hFA.out.bR.lt)).trans (hFA.out.bR.cell 1), (hb.cell (p := ⟨gR, 4, none⟩) (hFA.out.bR.lt)).trans (hFA.out.bR.cell 4)⟩
              refine wp_region_K (S := (fun w' : World => w'.cell? ⟨w.heap.size, 0, none⟩ = some (.slice (some ⟨gm, om_, none⟩) n cc) ∧ w'.cell? ⟨w.heap.size + 1, 0, none⟩ = some (.slice gA n gc) ∧ w'.cell? ⟨gR, 1, none⟩ = some (.slice (some ⟨gS, 0, none⟩) n capS) ∧ w'.cell? ⟨gR, 4, none⟩ = some (.slice (some ⟨gE, 0, none⟩) n n))) (K := []) (by kernel_rfl) ?_
              simp only at hS
              refine AnyK.take (i := 0) (v := .agg #[.slice (some ⟨gm, om_, none⟩) n cc]) rfl (by kernel_rfl) (by kernel_rfl) (by kernel_rfl) (by kernel_rfl) (by kernel_rfl) (by kernel_rfl) (fun _ _ _ h => h) (Or.inl ⟨by kernel_rfl, ?_⟩) hS ?_
              · rintro w' ⟨z0, z1, z2, z3⟩
                go_simp
              (try simp only [Act.put, List.setIfInBounds_toArray, List.set_cons_zero, List.set_cons_succ])
              refine AnyK.take (i := 1) (v := .pointer (some ⟨w.heap.size + 1, 0, none⟩)) rfl (by kernel_rfl) (by kernel_rfl) (by kernel_rfl) (by kernel_rfl) (by kernel_rfl) (by kernel_rfl) (fun _ _ _ h => h) (Or.inl ⟨by kernel_rfl, ?_⟩) hS ?_
              · rintro w' ⟨z0, z1, z2, z3⟩
                go_simp
              (try simp only [Act.put, List.setIfInBounds_toArray, List.set_cons_zero, List.set_cons_succ])
              refine AnyK.take (i := 2) (v := .slice gA n gc) rfl (by kernel_rfl) (by kernel_rfl) (by kernel_rfl) (by kernel_rfl) (by kernel_rfl) (by kernel_rfl) (fun _ _ _ h => h) (Or.inl ⟨by kernel_rfl, ?_⟩) hS ?_
              · rintro w' ⟨z0, z1, z2, z3⟩
                go_simp
              (try simp only [Act.put, List.setIfInBounds_toArray, List.set_cons_zero, List.set_cons_succ])
              refine AnyK.take (i := 3) (v := .int .i64 (k : Int)) rfl (by kernel_rfl) (by kernel_rfl) (by kernel_rfl) (by kernel_rfl) (by kernel_rfl) (by kernel_rfl) (fun _ _ _ h => h) (Or.inl ⟨by kernel_rfl, ?_⟩) hS ?_
              · rintro w' ⟨z0, z1, z2, z3⟩
                go_simp
              (try simp only [Act.put, List.setIfInBounds_toArray, List.set_cons_zero, List.set_cons_succ])
              refine AnyK.one (i := 4) (by kernel_rfl) rfl (fun K' hK => ?_)
              go_simp
              refine (hq1.out wA.drew (Below.refl _ _).drew).mono ?_
              rintro e w9 ⟨rfl, hb9⟩
              have hb9' : Below wA.heap.size wA w9 := Below.callB (Below.refl _ _).drew hb9
              replace hS := hSb.out w9 (hb9')
              refine hK.out _ _ (fun _ => hS) ?_
              clear hK
              (try simp only [Act.put, List.setIfInBounds_toArray, List.set_cons_zero, List.set_cons_succ])
              refine AnyK.take (i := 5) (v := .bool true) rfl (by kernel_rfl) (by kernel_rfl) (by kernel_rfl) (by kernel_rfl) (by kernel_rfl) (by kernel_rfl) (fun _ _ _ h => h) (Or.inl ⟨by kernel_rfl, ?_⟩) hS ?_
              · rintro w' ⟨z0, z1, z2, z3⟩
                go_simp
              (try simp only [Act.put, List.setIfInBounds_toArray, List.set_cons_zero, List.set_cons_succ])
              refine AnyK.take (i := 6) (v := .bool true) rfl (by kernel_rfl) (by kernel_rfl) (by kernel_rfl) (by kernel_rfl) (by kernel_rfl) (by kernel_rfl) (fun _ _ _ h => h) (Or.inl ⟨by kernel_rfl, ?_⟩) hS ?_
              · rintro w' ⟨z0, z1, z2, z3⟩
                go_simp
              (try simp only [Act.put, List.setIfInBounds_toArray, List.set_cons_zero, List.set_cons_succ])
              refine AnyK.take (i := 7) (v := undef) rfl (by kernel_rfl) (by kernel_rfl) (by kernel_rfl) (by kernel_rfl) (by kernel_rfl) (by kernel_rfl) (fun _ _ _ h => h) (Or.inr ⟨by kernel_rfl, rfl⟩) hS ?_
              (try simp only [Act.put, List.setIfInBounds_toArray, List.set_cons_zero, List.set_cons_succ])
              refine AnyK.take (i := 8) (v := undef) rfl (by kernel_rfl) (by kernel_rfl) (by kernel_rfl) (by kernel_rfl) (by kernel_rfl) (by kernel_rfl) (fun _ _ _ h => h) (Or.inr ⟨by kernel_rfl, rfl⟩) hS ?_
              (try simp only [Act.put, List.setIfInBounds_toArray, List.set_cons_zero, List.set_cons_succ])
              refine AnyK.take (i := 9) (v := undef) rfl (by kernel_rfl) (by kernel_rfl) (by kernel_rfl) (by kernel_rfl) (by kernel_rfl) (by kernel_rfl) (fun _ _ _ h => h) (Or.inr ⟨by kernel_rfl, rfl⟩) hS ?_
              (try simp only [Act.put, List.setIfInBounds_toArray, List.set_cons_zero, List.set_cons_succ])
              refine AnyK.take (i := 10) (v := undef) rfl (by kernel_rfl) (by kernel_rfl) (by kernel_rfl) (by kernel_rfl) (by kernel_rfl) (by kernel_rfl) (fun _ _ _ h => h) (Or.inr ⟨by kernel_rfl, rfl⟩) hS ?_
              (try simp only [Act.put, List.setIfInBounds_toArray, List.set_cons_zero, List.set_cons_succ])
              refine AnyK.take (i := 11) (v := undef) rfl (by kernel_rfl) (by kernel_rfl) (by kernel_rfl) (by kernel_rfl) (by kernel_rfl) (by kernel_rfl) (fun _ _ _ h => h) (Or.inr ⟨by kernel_rfl, rfl⟩) hS ?_
              (try simp only [Act.put, List.setIfInBounds_toArray, List.set_cons_zero, List.set_cons_succ])
              refine AnyK.take (i := 12) (v := undef) rfl (by kernel_rfl) (by kernel_rfl) (by kernel_rfl) (by kernel_rfl) (by kernel_rfl) (by kernel_rfl) (fun _ _ _ h => h) (Or.inr ⟨by kernel_rfl, rfl⟩) hS ?_
              (try simp only [Act.put, List.setIfInBounds_toArray, List.set_cons_zero, List.set_cons_succ])
              refine AnyK.take (i := 13) (v := undef) rfl (by kernel_rfl) (by kernel_rfl) (by kernel_rfl) (by kernel_rfl) (by kernel_rfl) (by kernel_rfl) (fun _ _ _ h => h) (Or.inr ⟨by kernel_rfl, rfl⟩) hS ?_
              (try simp only [Act.put, List.setIfInBounds_toArray, List.set_cons_zero, List.set_cons_succ])
              refine AnyK.take (i := 14) (v := undef) rfl (by kernel_rfl) (by kernel_rfl) (by kernel_rfl) (by kernel_rfl) (by kernel_rfl) (by kernel_rfl) (fun _ _ _ h => h) (Or.inr ⟨by kernel_rfl, rfl⟩) hS ?_
              (try simp only [Act.put, List.setIfInBounds_toArray, List.set_cons_zero, List.set_cons_succ])
              refine AnyK.take (i := 15) (v := undef) rfl (by kernel_rfl) (by kernel_rfl) (by kernel_rfl) (by kernel_rfl) (by kernel_rfl) (by kernel_rfl) (fun _ _ _ h => h) (Or.inr ⟨by kernel_rfl, rfl⟩) hS ?_
              (try simp only [Act.put, List.setIfInBounds_toArray, List.set_cons_zero, List.set_cons_succ])
              refine AnyK.take (i := 16) (v := .bool true) rfl (by kernel_rfl) (by kernel_rfl) (by kernel_rfl) (by kernel_rfl) (by kernel_rfl) (by kernel_rfl) (fun _ _ _ h => h) (Or.inl ⟨by kernel_rfl, ?_⟩) hS ?_
              · rintro w' ⟨z0, z1, z2, z3⟩
                go_simp
              (try simp only [Act.put, List.setIfInBounds_toArray, List.set_cons_zero, List.set_cons_succ])
              refine AnyK.take (i := 17) (v := .bool true) rfl (by kernel_rfl) (by kernel_rfl) (by kernel_rfl) (by kernel_rfl) (by kernel_rfl) (by kernel_rfl) (fun _ _ _ h => h) (Or.inl ⟨by kernel_rfl, ?_⟩) hS ?_
              · rintro w' ⟨z0, z1, z2, z3⟩
                go_simp
              (try simp only [Act.put, List.setIfInBounds_toArray, List.set_cons_zero, List.set_cons_succ])
              refine AnyK.take (i := 18) (v := undef) rfl (by kernel_rfl) (by kernel_rfl) (by kernel_rfl) (by kernel_rfl) (by kernel_rfl) (by kernel_rfl) (fun _ _ _ h => h) (Or.inr ⟨by kernel_rfl, rfl⟩) hS ?_
              (try simp only [Act.put, List.setIfInBounds_toArray, List.set_cons_zero, List.set_cons_succ])
              refine AnyK.take (i := 19) (v := undef) rfl (by kernel_rfl) (by kernel_rfl) (by kernel_rfl) (by kernel_rfl) (by kernel_rfl) (by kernel_rfl) (fun _ _ _ h => h) (Or.inr ⟨by kernel_rfl, rfl⟩) hS ?_
              (try simp only [Act.put, List.setIfInBounds_toArray, List.set_cons_zero, List.set_cons_succ])
              refine AnyK.take (i := 20) (v := undef) rfl (by kernel_rfl) (by kernel_rfl) (by kernel_rfl) (by kernel_rfl) (by kernel_rfl) (by kernel_rfl) (fun _ _ _ h => h) (Or.inr ⟨by kernel_rfl, rfl⟩) hS ?_
              (try simp only [Act.put, List.setIfInBounds_toArray, List.set_cons_zero, List.set_cons_succ])
              refine AnyK.take (i := 21) (v := undef) rfl (by kernel_rfl) (by kernel_rfl) (by kernel_rfl) (by kernel_rfl) (by kernel_rfl) (by kernel_rfl) (fun _ _ _ h => h) (Or.inr ⟨by kernel_rfl, rfl⟩) hS ?_
              (try simp only [Act.put, List.setIfInBounds_toArray, List.set_cons_zero, List.set_cons_succ])
              refine AnyK.take (i := 22) (v := undef) rfl (by kernel_rfl) (by kernel_rfl) (by kernel_rfl) (by kernel_rfl) (by kernel_rfl) (by kernel_rfl) (fun _ _ _ h => h) (Or.inr ⟨by kernel_rfl, rfl⟩) hS ?_
              (try simp only [Act.put, List.setIfInBounds_toArray, List.set_cons_zero, List.set_cons_succ])
              refine AnyK.take (i := 23) (v := undef) rfl (by kernel_rfl) (by kernel_rfl) (by kernel_rfl) (by kernel_rfl) (by kernel_rfl) (by kernel_rfl) (fun _ _ _ h => h) (Or.inr ⟨by kernel_rfl, rfl⟩) hS ?_
              (try simp only [Act.put, List.setIfInBounds_toArray, List.set_cons_zero, List.set_cons_succ])
              refine AnyK.take (i := 24) (v := undef) rfl (by kernel_rfl) (by kernel_rfl) (by kernel_rfl) (by kernel_rfl) (by kernel_rfl) (by kernel_rfl) (fun _ _ _ h => h) (Or.inr ⟨by kernel_rfl, rfl⟩) hS ?_
              (try simp only [Act.put, List.setIfInBounds_toArray, List.set_cons_zero, List.set_cons_succ])
              refine AnyK.take (i := 25) (v := .bool true) rfl (by kernel_rfl) (by kernel_rfl) (by kernel_rfl) (by kernel_rfl) (by kernel_rfl) (by kernel_rfl) (fun _ _ _ h => h) (Or.inl ⟨by kernel_rfl, ?_⟩) hS ?_
              · rintro w' ⟨z0, z1, z2, z3⟩
                go_simp
              (try simp only [Act.put, List.setIfInBounds_toArray, List.set_cons_zero, List.set_cons_succ])
              refine AnyK.done (by kernel_rfl) ?_ _
              clear hS hSb
              go_wp2_with fail
              go_meet
              exact ⟨by rw [ha1]; rfl, hb9'⟩
            | true =>
              simp only [ha1] at hq1
              cases ha2 : actv l y.S k with
              | false =>
                simp only [ha2] at hq2
                have hS : (fun w' : World => w'.cell? ⟨w.heap.size, 0, none⟩ = some (.slice (some ⟨gm, om_, none⟩) n cc) ∧ w'.cell? ⟨w.heap.size + 1, 0, none⟩ = some (.slice gA n gc) ∧ w'.cell? ⟨gR, 1, none⟩ = some (.slice (some ⟨gS, 0, none⟩) n capS) ∧ w'.cell? ⟨gR, 4, none⟩ = some (.slice (some ⟨gE, 0, none⟩) n n)) wA.drew := ⟨hOA.out.b0.cell 0, hOA.out.b1.cell 0, hFA.out.bR.cell 1, hFA.out.bR.cell 4⟩
                have hSb : Hid (∀ w', Below wA.heap.size wA w' → (fun w' : World => w'.cell? ⟨w.heap.size, 0, none⟩ = some (.slice (some ⟨gm, om_, none⟩) n cc) ∧ w'.cell? ⟨w.heap.size + 1, 0, none⟩ = some (.slice gA n gc) ∧ w'.cell? ⟨gR, 1, none⟩ = some (.slice (some ⟨gS, 0, none⟩) n capS) ∧ w'.cell? ⟨gR, 4, none⟩ = some (.slice (some ⟨gE, 0, none⟩) n n)) w') := fun w' hb => ⟨(hb.cell (p := ⟨w.heap.size, 0, none⟩) (hOA.out.b0.lt)).trans (hOA.out.b0.cell 0), (hb.cell (p := ⟨w.heap.size + 1, 0, none⟩) (hOA.out.b1.lt)).trans (hOA.out.b1.cell 0), (hb.cell (p := ⟨gR, 1, none⟩) (hFA.out.bR.lt)).trans (hFA.out.bR.cell 1), (hb.cell (p := ⟨gR, 4, none⟩) (hFA.out.bR.lt)).trans (hFA.out.bR.cell 4)⟩
                refine wp_region_K (S := (fun w' : World => w'.cell? ⟨w.heap.size, 0, none⟩ = some (.slice (some ⟨gm, om_, none⟩) n cc) ∧ w'.cell? ⟨w.heap.size + 1, 0, none⟩ = some (.slice gA n gc) ∧ w'.cell? ⟨gR, 1, none⟩ = some (.slice (some ⟨gS, 0, none⟩) n capS) ∧ w'.cell? ⟨gR, 4, none⟩ = some (.slice (some ⟨gE, 0, none⟩) n n))) (K := []) (by kernel_rfl) ?_
                simp only at hS
                refine AnyK.take (i := 0) (v := .agg #[.slice (some ⟨gm, om_, none⟩) n cc]) rfl (by kernel_rfl) (by kernel_rfl) (by kernel_rfl) (by kernel_rfl) (by kernel_rfl) (by kernel_rfl) (fun _ _ _ h => h) (Or.inl ⟨by kernel_rfl, ?_⟩) hS ?_
                · rintro w' ⟨z0, z1, z2, z3⟩
                  go_simp
                (try simp only [Act.put, List.setIfInBounds_toArray, List.set_cons_zero, List.set_cons_succ])
                refine AnyK.take (i := 1) (v := .pointer (some ⟨w.heap.size + 1, 0, none⟩)) rfl (by kernel_rfl) (by kernel_rfl) (by kernel_rfl) (by kernel_rfl) (by kernel_rfl) (by kernel_rfl) (fun _ _ _ h => h) (Or.inl ⟨by kernel_rfl, ?_⟩) hS ?_
                · rintro w' ⟨z0, z1, z2, z3⟩
                  go_simp
                (try simp only [Act.put, List.setIfInBounds_toArray, List.set_cons_zero, List.set_cons_succ])
                refine AnyK.take (i := 2) (v := .slice gA n gc) rfl (by kernel_rfl) (by kernel_rfl) (by kernel_rfl) (by kernel_rfl) (by kernel_rfl) (by kernel_rfl) (fun _ _ _ h => h) (Or.inl ⟨by kernel_rfl, ?_⟩) hS ?_
                · rintro w' ⟨z0, z1, z2, z3⟩
                  go_simp
                (try simp only [Act.put, List.setIfInBounds_toArray, List.set_cons_zero, List.set_cons_succ])
                refine AnyK.take (i := 3) (v := .int .i64 (k : Int)) rfl (by kernel_rfl) (by kernel_rfl) (by kernel_rfl) (by kernel_rfl) (by kernel_rfl) (by kernel_rfl) (fun _ _ _ h => h) (Or.inl ⟨by kernel_rfl, ?_⟩) hS ?_
                · rintro w' ⟨z0, z1, z2, z3⟩
                  go_simp
                (try simp only [Act.put, List.setIfInBounds_toArray, List.set_cons_zero, List.set_cons_succ])
                refine AnyK.one (i := 4) (by kernel_rfl) rfl (fun K' hK => ?_)
                go_simp
                refine (hq1.out wA.drew (Below.refl _ _).drew).mono ?_
                rintro e w9 ⟨rfl, hb9⟩
                have hb9' : Below wA.heap.size wA w9 := Below.callB (Below.refl _ _).drew hb9
                replace hS := hSb.out w9 (hb9')
                refine hK.out _ _ (fun _ => hS) ?_
                clear hK
                (try simp only [Act.put, List.setIfInBounds_toArray, List.set_cons_zero, List.set_cons_succ])
                refine AnyK.take (i := 5) (v := .bool false) rfl (by kernel_rfl) (by kernel_rfl) (by kernel_rfl) (by kernel_rfl) (by kernel_rfl) (by kernel_rfl) (fun _ _ _ h => h) (Or.inl ⟨by kernel_rfl, ?_⟩) hS ?_
                · rintro w' ⟨z0, z1, z2, z3⟩
                  go_simp
                (try simp only [Act.put, List.setIfInBounds_toArray, List.set_cons_zero, List.set_cons_succ])
                refine AnyK.take (i := 6) (v := .bool false) rfl (by kernel_rfl) (by kernel_rfl) (by kernel_rfl) (by kernel_rfl) (by kernel_rfl) (by kernel_rfl) (fun _ _ _ h => h) (Or.inl ⟨by kernel_rfl, ?_⟩) hS ?_
                · rintro w' ⟨z0, z1, z2, z3⟩
                  go_simp
                (try simp only [Act.put, List.setIfInBounds_toArray, List.set_cons_zero, List.set_cons_succ])
                refine AnyK.take (i := 7) (v := .agg #[.slice (some ⟨gm, om_, none⟩) n cc]) rfl (by kernel_rfl) (by kernel_rfl) (by kernel_rfl) (by kernel_rfl) (by kernel_rfl) (by kernel_rfl) (fun _ _ _ h => h) (Or.inl ⟨by kernel_rfl, ?_⟩) hS ?_
                · rintro w' ⟨z0, z1, z2, z3⟩
                  go_simp
                (try simp only [Act.put, List.setIfInBounds_toArray, List.set_cons_zero, List.set_cons_succ])
                refine AnyK.take (i := 8) (v := .pointer (some ⟨gR, 0, none⟩)) rfl (by kernel_rfl) (by kernel_rfl) (by kernel_rfl) (by kernel_rfl) (by kernel_rfl) (by kernel_rfl) (fun _ _ _ h => h) (Or.inl ⟨by kernel_rfl, ?_⟩) hS ?_
                · rintro w' ⟨z0, z1, z2, z3⟩
                  go_simp
                (try simp only [Act.put, List.setIfInBounds_toArray, List.set_cons_zero, List.set_cons_succ])
                refine AnyK.take (i := 9) (v := .pointer (some ⟨gR, 0, none⟩)) rfl (by kernel_rfl) (by kernel_rfl) (by kernel_rfl) (by kernel_rfl) (by kernel_rfl) (by kernel_rfl) (fun _ _ _ h => h) (Or.inl ⟨by kernel_rfl, ?_⟩) hS ?_
                · rintro w' ⟨z0, z1, z2, z3⟩
                  go_simp
                (try simp only [Act.put, List.setIfInBounds_toArray, List.set_cons_zero, List.set_cons_succ])
                refine AnyK.take (i := 10) (v := .pointer (some ⟨gR, 1, none⟩)) rfl (by kernel_rfl) (by kernel_rfl) (by kernel_rfl) (by kernel_rfl) (by kernel_rfl) (by kernel_rfl) (fun _ _ _ h => h) (Or.inl ⟨by kernel_rfl, ?_⟩) hS ?_
                · rintro w' ⟨z0, z1, z2, z3⟩
                  go_simp
                (try simp only [Act.put, List.setIfInBounds_toArray, List.set_cons_zero, List.set_cons_succ])
                refine AnyK.take (i := 11) (v := .pointer (some ⟨gR, 1, none⟩)) rfl (by kernel_rfl) (by kernel_rfl) (by kernel_rfl) (by kernel_rfl) (by kernel_rfl) (by kernel_rfl) (fun _ _ _ h => h) (Or.inl ⟨by kernel_rfl, ?_⟩) hS ?_
                · rintro w' ⟨z0, z1, z2, z3⟩
                  go_simp
                (try simp only [Act.put, List.setIfInBounds_toArray, List.set_cons_zero, List.set_cons_succ])
                refine AnyK.take (i := 12) (v := .slice (some ⟨gS, 0, none⟩) n capS) rfl (by kernel_rfl) (by kernel_rfl) (by kernel_rfl) (by kernel_rfl) (by kernel_rfl) (by kernel_rfl) (fun _ _ _ h => h) (Or.inl ⟨by kernel_rfl, ?_⟩) hS ?_
                · rintro w' ⟨z0, z1, z2, z3⟩
                  go_simp
                (try simp only [Act.put, List.setIfInBounds_toArray, List.set_cons_zero, List.set_cons_succ])
                refine AnyK.take (i := 13) (v := .int .i64 (k : Int)) rfl (by kernel_rfl) (by kernel_rfl) (by kernel_rfl) (by kernel_rfl) (by kernel_rfl) (by kernel_rfl) (fun _ _ _ h => h) (Or.inl ⟨by kernel_rfl, ?_⟩) hS ?_
                · rintro w' ⟨z0, z1, z2, z3⟩
                  go_simp
                (try simp only [Act.put, List.setIfInBounds_toArray, List.set_cons_zero, List.set_cons_succ])
                refine AnyK.one (i := 14) (by kernel_rfl) rfl (fun K' hK => ?_)
                go_simp
                refine (hq2.out w9 hb9').mono ?_
                rintro e w10 ⟨rfl, hb10⟩
                have hb10' : Below wA.heap.size wA w10 := Below.callB hb9' hb10
                replace hS := hSb.out w10 (hb10')
                refine hK.out _ _ (fun _ => hS) ?_
                clear hK
                (try simp only [Act.put, List.setIfInBounds_toArray, List.set_cons_zero, List.set_cons_succ])
                refine AnyK.take (i := 15) (v := .bool true) rfl (by kernel_rfl) (by kernel_rfl) (by kernel_rfl) (by kernel_rfl) (by kernel_rfl) (by kernel_rfl) (fun _ _ _ h => h) (Or.inl ⟨by kernel_rfl, ?_⟩) hS ?_
                · rintro w' ⟨z0, z1, z2, z3⟩
                  go_simp
                (try simp only [Act.put, List.setIfInBounds_toArray, List.set_cons_zero, List.set_cons_succ])
                refine AnyK.take (i := 16) (v := .bool true) rfl (by kernel_rfl) (by kernel_rfl) (by kernel_rfl) (by kernel_rfl) (by kernel_rfl) (by kernel_rfl) (fun _ _ _ h => h) (Or.inl ⟨by kernel_rfl, ?_⟩) hS ?_
                · rintro w' ⟨z0, z1, z2, z3⟩
                  go_simp
                (try simp only [Act.put, List.setIfInBounds_toArray, List.set_cons_zero, List.set_cons_succ])
                refine AnyK.take (i := 17) (v := .bool true) rfl (by kernel_rfl) (by kernel_rfl) (by kernel_rfl) (by kernel_rfl) (by kernel_rfl) (by kernel_rfl) (fun _ _ _ h => h) (Or.inl ⟨by kernel_rfl, ?_⟩) hS ?_
                · rintro w' ⟨z0, z1, z2, z3⟩
                  go_simp
                (try simp only [Act.put, List.setIfInBounds_toArray, List.set_cons_zero, List.set_cons_succ])
                refine AnyK.take (i := 18) (v := undef) rfl (by kernel_rfl) (by kernel_rfl) (by kernel_rfl) (by kernel_rfl) (by kernel_rfl) (by kernel_rfl) (fun _ _ _ h => h) (Or.inr ⟨by kernel_rfl, rfl⟩) hS ?_
                (try simp only [Act.put, List.setIfInBounds_toArray, List.set_cons_zero, List.set_cons_succ])
                refine AnyK.take (i := 19) (v := undef) rfl (by kernel_rfl) (by kernel_rfl) (by kernel_rfl) (by kernel_rfl) (by kernel_rfl) (by kernel_rfl) (fun _ _ _ h => h) (Or.inr ⟨by kernel_rfl, rfl⟩) hS ?_
                (try simp only [Act.put, List.setIfInBounds_toArray, List.set_cons_zero, List.set_cons_succ])
                refine AnyK.take (i := 20) (v := undef) rfl (by kernel_rfl) (by kernel_rfl) (by kernel_rfl) (by kernel_rfl) (by kernel_rfl) (by kernel_rfl) (fun _ _ _ h => h) (Or.inr ⟨by kernel_rfl, rfl⟩) hS ?_
                (try simp only [Act.put, List.setIfInBounds_toArray, List.set_cons_zero, List.set_cons_succ])
                refine AnyK.take (i := 21) (v := undef) rfl (by kernel_rfl) (by kernel_rfl) (by kernel_rfl) (by kernel_rfl) (by kernel_rfl) (by kernel_rfl) (fun _ _ _ h => h) (Or.inr ⟨by kernel_rfl, rfl⟩) hS ?_
                (try simp only [Act.put, List.setIfInBounds_toArray, List.set_cons_zero, List.set_cons_succ])
                refine AnyK.take (i := 22) (v := undef) rfl (by kernel_rfl) (by kernel_rfl) (by kernel_rfl) (by kernel_rfl) (by kernel_rfl) (by kernel_rfl) (fun _ _ _ h => h) (Or.inr ⟨by kernel_rfl, rfl⟩) hS ?_
                (try simp only [Act.put, List.setIfInBounds_toArray, List.set_cons_zero, List.set_cons_succ])
                refine AnyK.take (i := 23) (v := undef) rfl (by kernel_rfl) (by kernel_rfl) (by kernel_rfl) (by kernel_rfl) (by kernel_rfl) (by kernel_rfl) (fun _ _ _ h => h) (Or.inr ⟨by kernel_rfl, rfl⟩) hS ?_
                (try simp only [Act.put, List.setIfInBounds_toArray, List.set_cons_zero, List.set_cons_succ])
                refine AnyK.take (i := 24) (v := undef) rfl (by kernel_rfl) (by kernel_rfl) (by kernel_rfl) (by kernel_rfl) (by kernel_rfl) (by kernel_rfl) (fun _ _ _ h => h) (Or.inr ⟨by kernel_rfl, rfl⟩) hS ?_
                (try simp only [Act.put, List.setIfInBounds_toArray, List.set_cons_zero, List.set_cons_succ])
                refine AnyK.take (i := 25) (v := .bool true) rfl (by kernel_rfl) (by kernel_rfl) (by kernel_rfl) (by kernel_rfl) (by kernel_rfl) (by kernel_rfl) (fun _ _ _ h => h) (Or.inl ⟨by kernel_rfl, ?_⟩) hS ?_
                · rintro w' ⟨z0, z1, z2, z3⟩
                  go_simp
                (try simp only [Act.put, List.setIfInBounds_toArray, List.set_cons_zero, List.set_cons_succ])
                refine AnyK.done (by kernel_rfl) ?_ _
                clear hS hSb
                go_wp2_with fail
                go_meet
                exact ⟨by rw [ha1, ha2]; rfl, hb10'⟩
              | true =>
                simp only [ha2] at hq2
                cases he1 : y.E k with
                | true =>
                  rw [he1] at hec
                  have hS : (fun w' : World => w'.cell? ⟨w.heap.size, 0, none⟩ = some (.slice (some ⟨gm, om_, none⟩) n cc) ∧ w'.cell? ⟨w.heap.size + 1, 0, none⟩ = some (.slice gA n gc) ∧ w'.cell? ⟨gR, 1, none⟩ = some (.slice (some ⟨gS, 0, none⟩) n capS) ∧ w'.cell? ⟨gR, 4, none⟩ = some (.slice (some ⟨gE, 0, none⟩) n n) ∧ w'.cell? ⟨gE, k, none⟩ = some (.bool true)) wA.drew := ⟨hOA.out.b0.cell 0, hOA.out.b1.cell 0, hFA.out.bR.cell 1, hFA.out.bR.cell 4, hec⟩
                  have hSb : Hid (∀ w', Below wA.heap.size wA w' → (fun w' : World => w'.cell? ⟨w.heap.size, 0, none⟩ = some (.slice (some ⟨gm, om_, none⟩) n cc) ∧ w'.cell? ⟨w.heap.size + 1, 0, none⟩ = some (.slice gA n gc) ∧ w'.cell? ⟨gR, 1, none⟩ = some (.slice (some ⟨gS, 0, none⟩) n capS) ∧ w'.cell? ⟨gR, 4, none⟩ = some (.slice (some ⟨gE, 0, none⟩) n n) ∧ w'.cell? ⟨gE, k, none⟩ = some (.bool true)) w') := fun w' hb => ⟨(hb.cell (p := ⟨w.heap.size, 0, none⟩) (hOA.out.b0.lt)).trans (hOA.out.b0.cell 0), (hb.cell (p := ⟨w.heap.size + 1, 0, none⟩) (hOA.out.b1.lt)).trans (hOA.out.b1.cell 0), (hb.cell (p := ⟨gR, 1, none⟩) (hFA.out.bR.lt)).trans (hFA.out.bR.cell 1), (hb.cell (p := ⟨gR, 4, none⟩) (hFA.out.bR.lt)).trans (hFA.out.bR.cell 4), (hb.cell (p := ⟨gE, k, none⟩) (hFA.out.rE.lt)).trans (hec)⟩
                  refine wp_region_K (S := (fun w' : World => w'.cell? ⟨w.heap.size, 0, none⟩ = some (.slice (some ⟨gm, om_, none⟩) n cc) ∧ w'.cell? ⟨w.heap.size + 1, 0, none⟩ = some (.slice gA n gc) ∧ w'.cell? ⟨gR, 1, none⟩ = some (.slice (some ⟨gS, 0, none⟩) n capS) ∧ w'.cell? ⟨gR, 4, none⟩ = some (.slice (some ⟨gE, 0, none⟩) n n) ∧ w'.cell? ⟨gE, k, none⟩ = some (.bool true))) (K := []) (by kernel_rfl) ?_
                  simp only at hS
                  refine AnyK.take (i := 0) (v := .agg #[.slice (some ⟨gm, om_, none⟩) n cc]) rfl (by kernel_rfl) (by kernel_rfl) (by kernel_rfl) (by kernel_rfl) (by kernel_rfl) (by kernel_rfl) (fun _ _ _ h => h) (Or.inl ⟨by kernel_rfl, ?_⟩) hS ?_
                  · rintro w' ⟨z0, z1, z2, z3, z4⟩
                    go_simp
                  (try simp only [Act.put, List.setIfInBounds_toArray, List.set_cons_zero, List.set_cons_succ])
                  refine AnyK.take (i := 1) (v := .pointer (some ⟨w.heap.size + 1, 0, none⟩)) rfl (by kernel_rfl) (by kernel_rfl) (by kernel_rfl) (by kernel_rfl) (by kernel_rfl) (by kernel_rfl) (fun _ _ _ h => h) (Or.inl ⟨by kernel_rfl, ?_⟩) hS ?_
                  · rintro w' ⟨z0, z1, z2, z3, z4⟩
                    go_simp
                  (try simp only [Act.put, List.setIfInBounds_toArray, List.set_cons_zero, List.set_cons_succ])
                  refine AnyK.take (i := 2) (v := .slice gA n gc) rfl (by kernel_rfl) (by kernel_rfl) (by kernel_rfl) (by kernel_rfl) (by kernel_rfl) (by kernel_rfl) (fun _ _ _ h => h) (Or.inl ⟨by kernel_rfl, ?_⟩) hS ?_
                  · rintro w' ⟨z0, z1, z2, z3, z4⟩
                    go_simp
                  (try simp only [Act.put, List.setIfInBounds_toArray, List.set_cons_zero, List.set_cons_succ])
                  refine AnyK.take (i := 3) (v := .int .i64 (k : Int)) rfl (by kernel_rfl) (by kernel_rfl) (by kernel_rfl) (by kernel_rfl) (by kernel_rfl) (by kernel_rfl) (fun _ _ _ h => h) (Or.inl ⟨by kernel_rfl, ?_⟩) hS ?_
                  · rintro w' ⟨z0, z1, z2, z3, z4⟩
                    go_simp
                  (try simp only [Act.put, List.setIfInBounds_toArray, List.set_cons_zero, List.set_cons_succ])
                  refine AnyK.one (i := 4) (by kernel_rfl) rfl (fun K' hK => ?_)
                  go_simp
                  refine (hq1.out wA.drew (Below.refl _ _).drew).mono ?_
                  rintro e w9 ⟨rfl, hb9⟩
                  have hb9' : Below wA.heap.size wA w9 := Below.callB (Below.refl _ _).drew hb9
                  replace hS := hSb.out w9 (hb9')
                  refine hK.out _ _ (fun _ => hS) ?_
                  clear hK
                  (try simp only [Act.put, List.setIfInBounds_toArray, List.set_cons_zero, List.set_cons_succ])
                  refine AnyK.take (i := 5) (v := .bool false) rfl (by kernel_rfl) (by kernel_rfl) (by kernel_rfl) (by kernel_rfl) (by kernel_rfl) (by kernel_rfl) (fun _ _ _ h => h) (Or.inl ⟨by kernel_rfl, ?_⟩) hS ?_
                  · rintro w' ⟨z0, z1, z2, z3, z4⟩
                    go_simp
                  (try simp only [Act.put, List.setIfInBounds_toArray, List.set_cons_zero, List.set_cons_succ])
                  refine AnyK.take (i := 6) (v := .bool false) rfl (by kernel_rfl) (by kernel_rfl) (by kernel_rfl) (by kernel_rfl) (by kernel_rfl) (by kernel_rfl) (fun _ _ _ h => h) (Or.inl ⟨by kernel_rfl, ?_⟩) hS ?_
                  · rintro w' ⟨z0, z1, z2, z3, z4⟩
                    go_simp
                  (try simp only [Act.put, List.setIfInBounds_toArray, List.set_cons_zero, List.set_cons_succ])
                  refine AnyK.take (i := 7) (v := .agg #[.slice (some ⟨gm, om_, none⟩) n cc]) rfl (by kernel_rfl) (by kernel_rfl) (by kernel_rfl) (by kernel_rfl) (by kernel_rfl) (by kernel_rfl) (fun _ _ _ h => h) (Or.inl ⟨by kernel_rfl, ?_⟩) hS ?_
                  · rintro w' ⟨z0, z1, z2, z3, z4⟩
                    go_simp
                  (try simp only [Act.put, List.setIfInBounds_toArray, List.set_cons_zero, List.set_cons_succ])
                  refine AnyK.take (i := 8) (v := .pointer (some ⟨gR, 0, none⟩)) rfl (by kernel_rfl) (by kernel_rfl) (by kernel_rfl) (by kernel_rfl) (by kernel_rfl) (by kernel_rfl) (fun _ _ _ h => h) (Or.inl ⟨by kernel_rfl, ?_⟩) hS ?_
                  · rintro w' ⟨z0, z1, z2, z3, z4⟩
                    go_simp
                  (try simp only [Act.put, List.setIfInBounds_toArray, List.set_cons_zero, List.set_cons_succ])
                  refine AnyK.take (i := 9) (v := .pointer (some ⟨gR, 0, none⟩)) rfl (by kernel_rfl) (by kernel_rfl) (by kernel_rfl) (by kernel_rfl) (by kernel_rfl) (by kernel_rfl) (fun _ _ _ h => h) (Or.inl ⟨by kernel_rfl, ?_⟩) hS ?_
                  · rintro w' ⟨z0, z1, z2, z3, z4⟩
                    go_simp
                  (try simp only [Act.put, List.setIfInBounds_toArray, List.set_cons_zero, List.set_cons_succ])
                  refine AnyK.take (i := 10) (v := .pointer (some ⟨gR, 1, none⟩)) rfl (by kernel_rfl) (by kernel_rfl) (by kernel_rfl) (by kernel_rfl) (by kernel_rfl) (by kernel_rfl) (fun _ _ _ h => h) (Or.inl ⟨by kernel_rfl, ?_⟩) hS ?_
                  · rintro w' ⟨z0, z1, z2, z3, z4⟩
                    go_simp
                  (try simp only [Act.put, List.setIfInBounds_toArray, List.set_cons_zero, List.set_cons_succ])
                  refine AnyK.take (i := 11) (v := .pointer (some ⟨gR, 1, none⟩)) rfl (by kernel_rfl) (by kernel_rfl) (by kernel_rfl) (by kernel_rfl) (by kernel_rfl) (by kernel_rfl) (fun _ _ _ h => h) (Or.inl ⟨by kernel_rfl, ?_⟩) hS ?_
                  · rintro w' ⟨z0, z1, z2, z3, z4⟩
                    go_simp
                  (try simp only [Act.put, List.setIfInBounds_toArray, List.set_cons_zero, List.set_cons_succ])
                  refine AnyK.take (i := 12) (v := .slice (some ⟨gS, 0, none⟩) n capS) rfl (by kernel_rfl) (by kernel_rfl) (by kernel_rfl) (by kernel_rfl) (by kernel_rfl) (by kernel_rfl) (fun _ _ _ h => h) (Or.inl ⟨by kernel_rfl, ?_⟩) hS ?_
                  · rintro w' ⟨z0, z1, z2, z3, z4⟩
                    go_simp
                  (try simp only [Act.put, List.setIfInBounds_toArray, List.set_cons_zero, List.set_cons_succ])
                  refine AnyK.take (i := 13) (v := .int .i64 (k : Int)) rfl (by kernel_rfl) (by kernel_rfl) (by kernel_rfl) (by kernel_rfl) (by kernel_rfl) (by kernel_rfl) (fun _ _ _ h => h) (Or.inl ⟨by kernel_rfl, ?_⟩) hS ?_
                  · rintro w' ⟨z0, z1, z2, z3, z4⟩
                    go_simp
                  (try simp only [Act.put, List.setIfInBounds_toArray, List.set_cons_zero, List.set_cons_succ])
                  refine AnyK.one (i := 14) (by kernel_rfl) rfl (fun K' hK => ?_)
                  go_simp
                  refine (hq2.out w9 hb9').mono ?_
                  rintro e w10 ⟨rfl, hb10⟩
                  have hb10' : Below wA.heap.size wA w10 := Below.callB hb9' hb10
                  replace hS := hSb.out w10 (hb10')
                  refine hK.out _ _ (fun _ => hS) ?_
                  clear hK
                  (try simp only [Act.put, List.setIfInBounds_toArray, List.set_cons_zero, List.set_cons_succ])
                  refine AnyK.take (i := 15) (v := .bool false) rfl (by kernel_rfl) (by kernel_rfl) (by kernel_rfl) (by kernel_rfl) (by kernel_rfl) (by kernel_rfl) (fun _ _ _ h => h) (Or.inl ⟨by kernel_rfl, ?_⟩) hS ?_
                  · rintro w' ⟨z0, z1, z2, z3, z4⟩
                    go_simp
                  (try simp only [Act.put, List.setIfInBounds_toArray, List.set_cons_zero, List.set_cons_succ])
                  refine AnyK.take (i := 16) (v := .bool false) rfl (by kernel_rfl) (by kernel_rfl) (by kernel_rfl) (by kernel_rfl) (by kernel_rfl) (by kernel_rfl) (fun _ _ _ h => h) (Or.inl ⟨by kernel_rfl, ?_⟩) hS ?_
                  · rintro w' ⟨z0, z1, z2, z3, z4⟩
                    go_simp
                  (try simp only [Act.put, List.setIfInBounds_toArray, List.set_cons_zero, List.set_cons_succ])
                  refine AnyK.take (i := 17) (v := .bool false) rfl (by kernel_rfl) (by kernel_rfl) (by kernel_rfl) (by kernel_rfl) (by kernel_rfl) (by kernel_rfl) (fun _ _ _ h => h) (Or.inl ⟨by kernel_rfl, ?_⟩) hS ?_
                  · rintro w' ⟨z0, z1, z2, z3, z4⟩
                    go_simp
                  (try simp only [Act.put, List.setIfInBounds_toArray, List.set_cons_zero, List.set_cons_succ])
                  refine AnyK.take (i := 18) (v := .pointer (some ⟨gR, 0, none⟩)) rfl (by kernel_rfl) (by kernel_rfl) (by kernel_rfl) (by kernel_rfl) (by kernel_rfl) (by kernel_rfl) (fun _ _ _ h => h) (Or.inl ⟨by kernel_rfl, ?_⟩) hS ?_
                  · rintro w' ⟨z0, z1, z2, z3, z4⟩
                    go_simp
                  (try simp only [Act.put, List.setIfInBounds_toArray, List.set_cons_zero, List.set_cons_succ])
                  refine AnyK.take (i := 19) (v := .pointer (some ⟨gR, 0, none⟩)) rfl (by kernel_rfl) (by kernel_rfl) (by kernel_rfl) (by kernel_rfl) (by kernel_rfl) (by kernel_rfl) (fun _ _ _ h => h) (Or.inl ⟨by kernel_rfl, ?_⟩) hS ?_
                  · rintro w' ⟨z0, z1, z2, z3, z4⟩
                    go_simp
                  (try simp only [Act.put, List.setIfInBounds_toArray, List.set_cons_zero, List.set_cons_succ])
                  refine AnyK.take (i := 20) (v := .pointer (some ⟨gR, 4, none⟩)) rfl (by kernel_rfl) (by kernel_rfl) (by kernel_rfl) (by kernel_rfl) (by kernel_rfl) (by kernel_rfl) (fun _ _ _ h => h) (Or.inl ⟨by kernel_rfl, ?_⟩) hS ?_
                  · rintro w' ⟨z0, z1, z2, z3, z4⟩
                    go_simp
                  (try simp only [Act.put, List.setIfInBounds_toArray, List.set_cons_zero, List.set_cons_succ])
                  refine AnyK.take (i := 21) (v := .slice (some ⟨gE, 0, none⟩) n n) rfl (by kernel_rfl) (by kernel_rfl) (by kernel_rfl) (by kernel_rfl) (by kernel_rfl) (by kernel_rfl) (fun _ _ _ h => h) (Or.inl ⟨by kernel_rfl, ?_⟩) hS ?_
                  · rintro w' ⟨z0, z1, z2, z3, z4⟩
                    go_simp
                  (try simp only [Act.put, List.setIfInBounds_toArray, List.set_cons_zero, List.set_cons_succ])
                  refine AnyK.take (i := 22) (v := .int .i64 (k : Int)) rfl (by kernel_rfl) (by kernel_rfl) (by kernel_rfl) (by kernel_rfl) (by kernel_rfl) (by kernel_rfl) (fun _ _ _ h => h) (Or.inl ⟨by kernel_rfl, ?_⟩) hS ?_
                  · rintro w' ⟨z0, z1, z2, z3, z4⟩
                    go_simp
                  (try simp only [Act.put, List.setIfInBounds_toArray, List.set_cons_zero, List.set_cons_succ])
                  refine AnyK.take (i := 23) (v := .pointer (some ⟨gE, k, none⟩)) rfl (by kernel_rfl) (by kernel_rfl) (by kernel_rfl) (by kernel_rfl) (by kernel_rfl) (by kernel_rfl) (fun _ _ _ h => h) (Or.inl ⟨by kernel_rfl, ?_⟩) hS ?_
                  · rintro w' ⟨z0, z1, z2, z3, z4⟩
                    go_simp
                  (try simp only [Act.put, List.setIfInBounds_toArray, List.set_cons_zero, List.set_cons_succ])
                  refine AnyK.take (i := 24) (v := .bool true) rfl (by kernel_rfl) (by kernel_rfl) (by kernel_rfl) (by kernel_rfl) (by kernel_rfl) (by kernel_rfl) (fun _ _ _ h => h) (Or.inl ⟨by kernel_rfl, ?_⟩) hS ?_
                  · rintro w' ⟨z0, z1, z2, z3, z4⟩
                    go_simp
                  (try simp only [Act.put, List.setIfInBounds_toArray, List.set_cons_zero, List.set_cons_succ])
                  refine AnyK.take (i := 25) (v := .bool true) rfl (by kernel_rfl) (by kernel_rfl) (by kernel_rfl) (by kernel_rfl) (by kernel_rfl) (by kernel_rfl) (fun _ _ _ h => h) (Or.inl ⟨by kernel_rfl, ?_⟩) hS ?_
                  · rintro w' ⟨z0, z1, z2, z3, z4⟩
                    go_simp
                  (try simp only [Act.put, List.setIfInBounds_toArray, List.set_cons_zero, List.set_cons_succ])
                  refine AnyK.done (by kernel_rfl) ?_ _
                  clear hS hSb
                  go_wp2_with fail
                  go_meet
                  exact ⟨by rw [ha1, ha2, he1]; rfl, hb10'⟩
                | false =>
                  rw [he1] at hec
                  have hS : (fun w' : World => w'.cell? ⟨w.heap.size, 0, none⟩ = some (.slice (some ⟨gm, om_, none⟩) n cc) ∧ w'.cell? ⟨w.heap.size + 1, 0, none⟩ = some (.slice gA n gc) ∧ w'.cell? ⟨gR, 1, none⟩ = some (.slice (some ⟨gS, 0, none⟩) n capS) ∧ w'.cell? ⟨gR, 4, none⟩ = some (.slice (some ⟨gE, 0, none⟩) n n) ∧ w'.cell? ⟨gE, k, none⟩ = some (.bool false)) wA.drew := ⟨hOA.out.b0.cell 0, hOA.out.b1.cell 0, hFA.out.bR.cell 1, hFA.out.bR.cell 4, hec⟩
                  have hSb : Hid (∀ w', Below wA.heap.size wA w' → (fun w' : World => w'.cell? ⟨w.heap.size, 0, none⟩ = some (.slice (some ⟨gm, om_, none⟩) n cc) ∧ w'.cell? ⟨w.heap.size + 1, 0, none⟩ = some (.slice gA n gc) ∧ w'.cell? ⟨gR, 1, none⟩ = some (.slice (some ⟨gS, 0, none⟩) n capS) ∧ w'.cell? ⟨gR, 4, none⟩ = some (.slice (some ⟨gE, 0, none⟩) n n) ∧ w'.cell? ⟨gE, k, none⟩ = some (.bool false)) w') := fun w' hb => ⟨(hb.cell (p := ⟨w.heap.size, 0, none⟩) (hOA.out.b0.lt)).trans (hOA.out.b0.cell 0), (hb.cell (p := ⟨w.heap.size + 1, 0, none⟩) (hOA.out.b1.lt)).trans (hOA.out.b1.cell 0), (hb.cell (p := ⟨gR, 1, none⟩) (hFA.out.bR.lt)).trans (hFA.out.bR.cell 1), (hb.cell (p := ⟨gR, 4, none⟩) (hFA.out.bR.lt)).trans (hFA.out.bR.cell 4), (hb.cell (p := ⟨gE, k, none⟩) (hFA.out.rE.lt)).trans (hec)⟩
                  refine wp_region_K (S := (fun w' : World => w'.cell? ⟨w.heap.size, 0, none⟩ = some (.slice (some ⟨gm, om_, none⟩) n cc) ∧ w'.cell? ⟨w.heap.size + 1, 0, none⟩ = some (.slice gA n gc) ∧ w'.cell? ⟨gR, 1, none⟩ = some (.slice (some ⟨gS, 0, none⟩) n capS) ∧ w'.cell? ⟨gR, 4, none⟩ = some (.slice (some ⟨gE, 0, none⟩) n n) ∧ w'.cell? ⟨gE, k, none⟩ = some (.bool false))) (K := []) (by kernel_rfl) ?_
                  simp only at hS
                  refine AnyK.take (i := 0) (v := .agg #[.slice (some ⟨gm, om_, none⟩) n cc]) rfl (by kernel_rfl) (by kernel_rfl) (by kernel_rfl) (by kernel_rfl) (by kernel_rfl) (by kernel_rfl) (fun _ _ _ h => h) (Or.inl ⟨by kernel_rfl, ?_⟩) hS ?_
                  · rintro w' ⟨z0, z1, z2, z3, z4⟩
                    go_simp
                  (try simp only [Act.put, List.setIfInBounds_toArray, List.set_cons_zero, List.set_cons_succ])
                  refine AnyK.take (i := 1) (v := .pointer (some ⟨w.heap.size + 1, 0, none⟩)) rfl (by kernel_rfl) (by kernel_rfl) (by kernel_rfl) (by kernel_rfl) (by kernel_rfl) (by kernel_rfl) (fun _ _ _ h => h) (Or.inl ⟨by kernel_rfl, ?_⟩) hS ?_
                  · rintro w' ⟨z0, z1, z2, z3, z4⟩
                    go_simp
                  (try simp only [Act.put, List.setIfInBounds_toArray, List.set_cons_zero, List.set_cons_succ])
                  refine AnyK.take (i := 2) (v := .slice gA n gc) rfl (by kernel_rfl) (by kernel_rfl) (by kernel_rfl) (by kernel_rfl) (by kernel_rfl) (by kernel_rfl) (fun _ _ _ h => h) (Or.inl ⟨by kernel_rfl, ?_⟩) hS ?_
                  · rintro w' ⟨z0, z1, z2, z3, z4⟩
                    go_simp
                  (try simp only [Act.put, List.setIfInBounds_toArray, List.set_cons_zero, List.set_cons_succ])
                  refine AnyK.take (i := 3) (v := .int .i64 (k : Int)) rfl (by kernel_rfl) (by kernel_rfl) (by kernel_rfl) (by kernel_rfl) (by kernel_rfl) (by kernel_rfl) (fun _ _ _ h => h) (Or.inl ⟨by kernel_rfl, ?_⟩) hS ?_
                  · rintro w' ⟨z0, z1, z2, z3, z4⟩
                    go_simp
                  (try simp only [Act.put, List.setIfInBounds_toArray, List.set_cons_zero, List.set_cons_succ])
                  refine AnyK.one (i := 4) (by kernel_rfl) rfl (fun K' hK => ?_)
                  go_simp
                  refine (hq1.out wA.drew (Below.refl _ _).drew).mono ?_
                  rintro e w9 ⟨rfl, hb9⟩
                  have hb9' : Below wA.heap.size wA w9 := Below.callB (Below.refl _ _).drew hb9
                  replace hS := hSb.out w9 (hb9')
                  refine hK.out _ _ (fun _ => hS) ?_
                  clear hK
                  (try simp only [Act.put, List.setIfInBounds_toArray, List.set_cons_zero, List.set_cons_succ])
                  refine AnyK.take (i := 5) (v := .bool false) rfl (by kernel_rfl) (by kernel_rfl) (by kernel_rfl) (by kernel_rfl) (by kernel_rfl) (by kernel_rfl) (fun _ _ _ h => h) (Or.inl ⟨by kernel_rfl, ?_⟩) hS ?_
                  · rintro w' ⟨z0, z1, z2, z3, z4⟩
                    go_simp
                  (try simp only [Act.put, List.setIfInBounds_toArray, List.set_cons_zero, List.set_cons_succ])
                  refine AnyK.take (i := 6) (v := .bool false) rfl (by kernel_rfl) (by kernel_rfl) (by kernel_rfl) (by kernel_rfl) (by kernel_rfl) (by kernel_rfl) (fun _ _ _ h => h) (Or.inl ⟨by kernel_rfl, ?_⟩) hS ?_
                  · rintro w' ⟨z0, z1, z2, z3, z4⟩
                    go_simp
                  (try simp only [Act.put, List.setIfInBounds_toArray, List.set_cons_zero, List.set_cons_succ])
                  refine AnyK.take (i := 7) (v := .agg #[.slice (some ⟨gm, om_, none⟩) n cc]) rfl (by kernel_rfl) (by kernel_rfl) (by kernel_rfl) (by kernel_rfl) (by kernel_rfl) (by kernel_rfl) (fun _ _ _ h => h) (Or.inl ⟨by kernel_rfl, ?_⟩) hS ?_
                  · rintro w' ⟨z0, z1, z2, z3, z4⟩
                    go_simp
                  (try simp only [Act.put, List.setIfInBounds_toArray, List.set_cons_zero, List.set_cons_succ])
                  refine AnyK.take (i := 8) (v := .pointer (some ⟨gR, 0, none⟩)) rfl (by kernel_rfl) (by kernel_rfl) (by kernel_rfl) (by kernel_rfl) (by kernel_rfl) (by kernel_rfl) (fun _ _ _ h => h) (Or.inl ⟨by kernel_rfl, ?_⟩) hS ?_
                  · rintro w' ⟨z0, z1, z2, z3, z4⟩
                    go_simp
                  (try simp only [Act.put, List.setIfInBounds_toArray, List.set_cons_zero, List.set_cons_succ])
                  refine AnyK.take (i := 9) (v := .pointer (some ⟨gR, 0, none⟩)) rfl (by kernel_rfl) (by kernel_rfl) (by kernel_rfl) (by kernel_rfl) (by kernel_rfl) (by kernel_rfl) (fun _ _ _ h => h) (Or.inl ⟨by kernel_rfl, ?_⟩) hS ?_
                  · rintro w' ⟨z0, z1, z2, z3, z4⟩
                    go_simp
                  (try simp only [Act.put, List.setIfInBounds_toArray, List.set_cons_zero, List.set_cons_succ])
                  refine AnyK.take (i := 10) (v := .pointer (some ⟨gR, 1, none⟩)) rfl (by kernel_rfl) (by kernel_rfl) (by kernel_rfl) (by kernel_rfl) (by kernel_rfl) (by kernel_rfl) (fun _ _ _ h => h) (Or.inl ⟨by kernel_rfl, ?_⟩) hS ?_
                  · rintro w' ⟨z0, z1, z2, z3, z4⟩
                    go_simp
                  (try simp only [Act.put, List.setIfInBounds_toArray, List.set_cons_zero, List.set_cons_succ])
                  refine AnyK.take (i := 11) (v := .pointer (some ⟨gR, 1, none⟩)) rfl (by kernel_rfl) (by kernel_rfl) (by kernel_rfl) (by kernel_rfl) (by kernel_rfl) (by kernel_rfl) (fun _ _ _ h => h) (Or.inl ⟨by kernel_rfl, ?_⟩) hS ?_
                  · rintro w' ⟨z0, z1, z2, z3, z4⟩
                    go_simp
                  (try simp only [Act.put, List.setIfInBounds_toArray, List.set_cons_zero, List.set_cons_succ])
                  refine AnyK.take (i := 12) (v := .slice (some ⟨gS, 0, none⟩) n capS) rfl (by kernel_rfl) (by kernel_rfl) (by kernel_rfl) (by kernel_rfl) (by kernel_rfl) (by kernel_rfl) (fun _ _ _ h => h) (Or.inl ⟨by kernel_rfl, ?_⟩) hS ?_
                  · rintro w' ⟨z0, z1, z2, z3, z4⟩
                    go_simp
                  (try simp only [Act.put, List.setIfInBounds_toArray, List.set_cons_zero, List.set_cons_succ])
                  refine AnyK.take (i := 13) (v := .int .i64 (k : Int)) rfl (by kernel_rfl) (by kernel_rfl) (by kernel_rfl) (by kernel_rfl) (by kernel_rfl) (by kernel_rfl) (fun _ _ _ h => h) (Or.inl ⟨by kernel_rfl, ?_⟩) hS ?_
                  · rintro w' ⟨z0, z1, z2, z3, z4⟩
                    go_simp
                  (try simp only [Act.put, List.setIfInBounds_toArray, List.set_cons_zero, List.set_cons_succ])
                  refine AnyK.one (i := 14) (by kernel_rfl) rfl (fun K' hK => ?_)
                  go_simp
                  refine (hq2.out w9 hb9').mono ?_
                  rintro e w10 ⟨rfl, hb10⟩
                  have hb10' : Below wA.heap.size wA w10 := Below.callB hb9' hb10
                  replace hS := hSb.out w10 (hb10')
                  refine hK.out _ _ (fun _ => hS) ?_
                  clear hK
                  (try simp only [Act.put, List.setIfInBounds_toArray, List.set_cons_zero, List.set_cons_succ])
                  refine AnyK.take (i := 15) (v := .bool false) rfl (by kernel_rfl) (by kernel_rfl) (by kernel_rfl) (by kernel_rfl) (by kernel_rfl) (by kernel_rfl) (fun _ _ _ h => h) (Or.inl ⟨by kernel_rfl, ?_⟩) hS ?_
                  · rintro w' ⟨z0, z1, z2, z3, z4⟩
                    go_simp
                  (try simp only [Act.put, List.setIfInBounds_toArray, List.set_cons_zero, List.set_cons_succ])
                  refine AnyK.take (i := 16) (v := .bool false) rfl (by kernel_rfl) (by kernel_rfl) (by kernel_rfl) (by kernel_rfl) (by kernel_rfl) (by kernel_rfl) (fun _ _ _ h => h) (Or.inl ⟨by kernel_rfl, ?_⟩) hS ?_
                  · rintro w' ⟨z0, z1, z2, z3, z4⟩
                    go_simp
                  (try simp only [Act.put, List.setIfInBounds_toArray, List.set_cons_zero, List.set_cons_succ])
                  refine AnyK.take (i := 17) (v := .bool false) rfl (by kernel_rfl) (by kernel_rfl) (by kernel_rfl) (by kernel_rfl) (by kernel_rfl) (by kernel_rfl) (fun _ _ _ h => h) (Or.inl ⟨by kernel_rfl, ?_⟩) hS ?_
                  · rintro w' ⟨z0, z1, z2, z3, z4⟩
                    go_simp
                  (try simp only [Act.put, List.setIfInBounds_toArray, List.set_cons_zero, List.set_cons_succ])
                  refine AnyK.take (i := 18) (v := .pointer (some ⟨gR, 0, none⟩)) rfl (by kernel_rfl) (by kernel_rfl) (by kernel_rfl) (by kernel_rfl) (by kernel_rfl) (by kernel_rfl) (fun _ _ _ h => h) (Or.inl ⟨by kernel_rfl, ?_⟩) hS ?_
                  · rintro w' ⟨z0, z1, z2, z3, z4⟩
                    go_simp
                  (try simp only [Act.put, List.setIfInBounds_toArray, List.set_cons_zero, List.set_cons_succ])
                  refine AnyK.take (i := 19) (v := .pointer (some ⟨gR, 0, none⟩)) rfl (by kernel_rfl) (by kernel_rfl) (by kernel_rfl) (by kernel_rfl) (by kernel_rfl) (by kernel_rfl) (fun _ _ _ h => h) (Or.inl ⟨by kernel_rfl, ?_⟩) hS ?_
                  · rintro w' ⟨z0, z1, z2, z3, z4⟩
                    go_simp
                  (try simp only [Act.put, List.setIfInBounds_toArray, List.set_cons_zero, List.set_cons_succ])
                  refine AnyK.take (i := 20) (v := .pointer (some ⟨gR, 4, none⟩)) rfl (by kernel_rfl) (by kernel_rfl) (by kernel_rfl) (by kernel_rfl) (by kernel_rfl) (by kernel_rfl) (fun _ _ _ h => h) (Or.inl ⟨by kernel_rfl, ?_⟩) hS ?_
                  · rintro w' ⟨z0, z1, z2, z3, z4⟩
                    go_simp
                  (try simp only [Act.put, List.setIfInBounds_toArray, List.set_cons_zero, List.set_cons_succ])
                  refine AnyK.take (i := 21) (v := .slice (some ⟨gE, 0, none⟩) n n) rfl (by kernel_rfl) (by kernel_rfl) (by kernel_rfl) (by kernel_rfl) (by kernel_rfl) (by kernel_rfl) (fun _ _ _ h => h) (Or.inl ⟨by kernel_rfl, ?_⟩) hS ?_
                  · rintro w' ⟨z0, z1, z2, z3, z4⟩
                    go_simp
                  (try simp only [Act.put, List.setIfInBounds_toArray, List.set_cons_zero, List.set_cons_succ])
                  refine AnyK.take (i := 22) (v := .int .i64 (k : Int)) rfl (by kernel_rfl) (by kernel_rfl) (by kernel_rfl) (by kernel_rfl) (by kernel_rfl) (by kernel_rfl) (fun _ _ _ h => h) (Or.inl ⟨by kernel_rfl, ?_⟩) hS ?_
                  · rintro w' ⟨z0, z1, z2, z3, z4⟩
                    go_simp
                  (try simp only [Act.put, List.setIfInBounds_toArray, List.set_cons_zero, List.set_cons_succ])
                  refine AnyK.take (i := 23) (v := .pointer (some ⟨gE, k, none⟩)) rfl (by kernel_rfl) (by kernel_rfl) (by kernel_rfl) (by kernel_rfl) (by kernel_rfl) (by kernel_rfl) (fun _ _ _ h => h) (Or.inl ⟨by kernel_rfl, ?_⟩) hS ?_
                  · rintro w' ⟨z0, z1, z2, z3, z4⟩
                    go_simp
                  (try simp only [Act.put, List.setIfInBounds_toArray, List.set_cons_zero, List.set_cons_succ])
                  refine AnyK.take (i := 24) (v := .bool false) rfl (by kernel_rfl) (by kernel_rfl) (by kernel_rfl) (by kernel_rfl) (by kernel_rfl) (by kernel_rfl) (fun _ _ _ h => h) (Or.inl ⟨by kernel_rfl, ?_⟩) hS ?_
                  · rintro w' ⟨z0, z1, z2, z3, z4⟩
                    go_simp
                  (try simp only [Act.put, List.setIfInBounds_toArray, List.set_cons_zero, List.set_cons_succ])
                  refine AnyK.take (i := 25) (v := .bool false) rfl (by kernel_rfl) (by kernel_rfl) (by kernel_rfl) (by kernel_rfl) (by kernel_rfl) (by kernel_rfl) (fun _ _ _ h => h) (Or.inl ⟨by kernel_rfl, ?_⟩) hS ?_
                  · rintro w' ⟨z0, z1, z2, z3, z4⟩
                    go_simp
                  (try simp only [Act.put, List.setIfInBounds_toArray, List.set_cons_zero, List.set_cons_succ])
                  refine AnyK.done (by kernel_rfl) ?_ _
                  clear hS hSb
                  go_wp2_with fail
                  go_meet
                  exact ⟨by rw [ha1, ha2, he1]; rfl, hb10'⟩
          case rest =>
            obtain ⟨rfl, hb9⟩ := hcut
            clear hq1 hq2 hec
            have hrc : (actv l (fnI gl) k && !r.x.E k && actv l r.x.S k) = (actv l (fnI gl) k && actv l y.S k && !y.E k) := by
              rw [← hlk.out.1, ← hlk.out.2.2 k (Nat.le_refl _)]
              cases actv l (fnI gl) k <;> cases actv l y.S k <;> cases y.E k <;> rfl
            have hM9 := Lib.hid (hMA.out.call hb9)
            have hBm9 := Lib.hid (hBm.out.call hb9)
            have hmv9 := Lib.hid (hmvA.out.below hb9 (Nat.le_refl _))
            obtain ⟨w9, hw9⟩ : ∃ w9, w9 = wc := ⟨_, rfl⟩
            subst hw9
            clear hMA hBm hmvA hOA hFA hb9
            cases hcnd : (actv l (fnI gl) k && actv l y.S k && !y.E k) with
            | false =>
              rw [hcnd] at hrc
              have hst : Hid (RLp z w [(24, #[.slice (some ⟨gm, om_, none⟩) n cc]), (29, #[.slice gA n gc, .slice fA n fc, .slice oA on oc]), (29, #[.slice none 0 0, .slice none 0 0, .slice none 0 0])] tS B n l (fnI gl) (fnB fl) th u10 (.int .i64 ((k + 1 : Nat) : Int)) w9) := ⟨k + 1, y, out, hlt, rfl, by rw [hnext.out, rstep_off hrc]; exact hM9.out, by rw [hnext.out, rstep_off hrc]; exact hlk.out.next⟩
              clear hM9 hBm9 hmv9 hcnd hrc
              simp only [Bool.not_false]
              go_wp2_with fail
              go_roundw
              case rel => have h := hst.out; simpa using h
              case measure => simp [intOf]; omega
            | true =>
              rw [hcnd] at hrc
              have hE0 : r.x.E k = false := by
                cases he : r.x.E k with
                | false => rfl
                | true => rw [he] at hrc; simp at hrc
              obtain ⟨hfS, hfF⟩ := hfr.out hE0
              have hyS : y.S k = fnI gl k := by rw [hlk.out.1]; exact hfS
              have hyF : y.F k = fnB fl k := by rw [hlk.out.2.1]; exact hfF
              obtain ⟨zS, hzS⟩ : ∃ zS, zS = fnI gl k := ⟨_, rfl⟩
              obtain ⟨zF, hzF⟩ : ∃ zF, zF = fnB fl k := ⟨_, rfl⟩
              rw [← hzS] at hyS
              rw [← hzF] at hyF
              have hml : ml.length = mn := hmv9.out.1
              have hmn : mn ≤ 17592186044416 := hmv9.out.2.2.1
              have m4 := hBm9.out.cell 4
              simp only [List.getElem?_toArray, List.getElem?_cons_zero, List.getElem?_cons_succ] at m4
              replace hzS := Lib.hid hzS
              replace hzF := Lib.hid hzF
              replace hyS := Lib.hid hyS
              replace hyF := Lib.hid hyF
              replace hrc := Lib.hid hrc
              clear hcnd hfS hfF hfr
              simp only [Bool.not_true]
              go_wp2_with fail
              clear m4
              obtain ⟨w10, hw10⟩ : ∃ w10, w10 = w9 := ⟨_, rfl⟩
              subst hw10
              go_loopw [13, 81] (fun v13 v81 wr => v13 = .int .i64 (-1) ∧ RA w10 mn (fun j => ∀ v, ml[j]? = some v → openM zS zF th v = false) v81 wr) (fun _ i _ => mn - (intOf i).toNat)
              case atStart => exact ⟨rfl, Below.refl _ _, 0, by omega, rfl, fun j hj => absurd hj (Nat.not_lt_zero _)⟩
              case round =>
                obtain ⟨rfl, hb10, j, hj, rfl, hQ⟩ := hrel
                replace hQ := Lib.hid hQ
                have hM10 := hM9.out.call hb10
                have hBm10 := hBm9.out.call hb10
                by_cases hltj : j < mn
                · obtain ⟨gv, ov, ⟨frm, dst, ⟨hA, hn, hcp, hwl⟩, ⟨nA, nn, nc, nl⟩, ⟨eA, en, ec, el⟩, late, keep⟩, hA2, hgv, hvv, hvo, d0, d1, d2, d3, d4, d5, d6⟩ := (hmv9.out.below hb10 (Nat.le_refl _)).cell hltj
                  simp only at hA2 d0 d1 d2 d3 d4 d5 d6 hvv
                  subst hA2
                  have hbv := (Below.refl wr.heap.size wr).alloc (Nat.le_refl _) (.cells #[.int .i64 frm, .int .i64 dst, .slice hA hn hcp, .slice nA nn nc, .slice eA en ec, .bool late, .bool keep] 52)
                  have hMB := hM10.call hbv
                  have hV := Blk.new wr 52 #[.int .i64 frm, .int .i64 dst, .slice hA hn hcp, .slice nA nn nc, .slice eA en ec, .bool late, .bool keep]
                  have hvoB := hvo.below hbv (Nat.le_refl _)
                  have hbB := Below.callB hb10 hbv
                  replace hM10 := Lib.hid hM10
                  replace hvv := Lib.hid hvv
                  go_upto_region 14 with fail
                  obtain ⟨wB, hwB⟩ : ∃ wB, wB = wr.alloc (.cells #[.int .i64 frm, .int .i64 dst, .slice hA hn hcp, .slice nA nn nc, .slice eA en ec, .bool late, .bool keep] 52) := ⟨_, rfl⟩
                  obtain ⟨gV, hgV⟩ : ∃ gV, gV = wr.heap.size := ⟨_, rfl⟩
                  rw [← hwB] at hMB hV hvoB hbB ⊢
                  rw [← hgV] at hV ⊢
                  clear hwB hgV hbv hvo d0 d1 d2 d3 d4 d5 d6 hM10
                  have hFB := Lib.hid (hMB.facts hz.out)
                  have hqo : Hid (∀ W, Below wB.heap.size wB W → Calls Try.prog 55 #[.agg #[.int .i64 frm, .int .i64 dst, .slice hA hn hcp, .slice nA nn nc, .slice eA en ec, .bool late, .bool keep], .slice tA (iN + on) tc] W fun e w' => e = .returned (.bool (opn (inS (il ++ ol)) ⟨frm, dst, ⟨hA, hn, hcp, hwl⟩, ⟨nA, nn, nc, nl⟩, ⟨eA, en, ec, el⟩, late, keep⟩)) ∧ Below W.heap.size W w') := fun W hb => by
                    have h := r_isOpen ⟨frm, dst, ⟨hA, hn, hcp, hwl⟩, ⟨nA, nn, nc, nl⟩, ⟨eA, en, ec, el⟩, late, keep⟩ tS W (hvoB.below hb (Nat.le_refl _)) (hMB.th.below hb (Nat.le_refl _))
                    rw [htSe.out.1, htSe.out.2.1, htSe.out.2.2.1, htSe.out.2.2.2] at h
                    exact h
                  have hsc := hFB.out.rS.cell hlt
                  have hfc := hFB.out.rF.cell hlt
                  unfold iv at hsc
                  unfold bv at hfc
                  rw [hyS.out] at hsc
                  rw [hyF.out] at hfc
                  replace hV := Lib.hid hV
                  replace hMB := Lib.hid hMB
                  have hop := hopr.out zS zF ⟨frm, dst, ⟨hA, hn, hcp, hwl⟩, ⟨nA, nn, nc, nl⟩, ⟨eA, en, ec, el⟩, late, keep⟩
                  simp only at hop
                  obtain ⟨ob, hob⟩ : ∃ ob, ob = opn (inS (il ++ ol)) ⟨frm, dst, ⟨hA, hn, hcp, hwl⟩, ⟨nA, nn, nc, nl⟩, ⟨eA, en, ec, el⟩, late, keep⟩ := ⟨_, rfl⟩
                  rw [← hob] at hop
                  simp only [← hob] at hqo
                  replace hop := Lib.hid hop
                  clear hob
                  go_cut [117] from 86 to 117 (fun v117 wc => v117 = .bool ((frm == zS && ob) && (!late || !zF)) ∧ Below wB.heap.size wB wc)
                  case first =>
                    clear hop
                    cases hf1 : (frm == zS) with
                    | false =>
                      have hf2 : ¬ frm = zS := by simpa using hf1
                      have hS : (fun w' : World => w'.cell? ⟨gV, 0, none⟩ = some (.int .i64 frm) ∧ w'.cell? ⟨gV, 1, none⟩ = some (.int .i64 dst) ∧ w'.cell? ⟨gV, 2, none⟩ = some (.slice hA hn hcp) ∧ w'.cell? ⟨gV, 3, none⟩ = some (.slice nA nn nc) ∧ w'.cell? ⟨gV, 4, none⟩ = some (.slice eA en ec) ∧ w'.cell? ⟨gV, 5, none⟩ = some (.bool late) ∧ w'.cell? ⟨gV, 6, none⟩ = some (.bool keep) ∧ w'.cell? ⟨gR, 1, none⟩ = some (.slice (some ⟨gS, 0, none⟩) n capS) ∧ w'.cell? ⟨gR, 2, none⟩ = some (.slice (some ⟨gF, 0, none⟩) n capF) ∧ w'.cell? ⟨gS, k, none⟩ = some (.int .i64 zS) ∧ w'.cell? ⟨gF, k, none⟩ = some (.bool zF)) wB.drew := ⟨hV.out.cell 0, hV.out.cell 1, hV.out.cell 2, hV.out.cell 3, hV.out.cell 4, hV.out.cell 5, hV.out.cell 6, hFB.out.bR.cell 1, hFB.out.bR.cell 2, hsc, hfc⟩
                      have hSb : Hid (∀ w', Below wB.heap.size wB w' → (fun w' : World => w'.cell? ⟨gV, 0, none⟩ = some (.int .i64 frm) ∧ w'.cell? ⟨gV, 1, none⟩ = some (.int .i64 dst) ∧ w'.cell? ⟨gV, 2, none⟩ = some (.slice hA hn hcp) ∧ w'.cell? ⟨gV, 3, none⟩ = some (.slice nA nn nc) ∧ w'.cell? ⟨gV, 4, none⟩ = some (.slice eA en ec) ∧ w'.cell? ⟨gV, 5, none⟩ = some (.bool late) ∧ w'.cell? ⟨gV, 6, none⟩ = some (.bool keep) ∧ w'.cell? ⟨gR, 1, none⟩ = some (.slice (some ⟨gS, 0, none⟩) n capS) ∧ w'.cell? ⟨gR, 2, none⟩ = some (.slice (some ⟨gF, 0, none⟩) n capF) ∧ w'.cell? ⟨gS, k, none⟩ = some (.int .i64 zS) ∧ w'.cell? ⟨gF, k, none⟩ = some (.bool zF)) w') := fun w' hb => ⟨(hb.cell (p := ⟨gV, 0, none⟩) (hV.out.lt)).trans (hV.out.cell 0), (hb.cell (p := ⟨gV, 1, none⟩) (hV.out.lt)).trans (hV.out.cell 1), (hb.cell (p := ⟨gV, 2, none⟩) (hV.out.lt)).trans (hV.out.cell 2), (hb.cell (p := ⟨gV, 3, none⟩) (hV.out.lt)).trans (hV.out.cell 3), (hb.cell (p := ⟨gV, 4, none⟩) (hV.out.lt)).trans (hV.out.cell 4), (hb.cell (p := ⟨gV, 5, none⟩) (hV.out.lt)).trans (hV.out.cell 5), (hb.cell (p := ⟨gV, 6, none⟩) (hV.out.lt)).trans (hV.out.cell 6), (hb.cell (p := ⟨gR, 1, none⟩) (hFB.out.bR.lt)).trans (hFB.out.bR.cell 1), (hb.cell (p := ⟨gR, 2, none⟩) (hFB.out.bR.lt)).trans (hFB.out.bR.cell 2), (hb.cell (p := ⟨gS, k, none⟩) (hFB.out.rS.lt)).trans (hsc), (hb.cell (p := ⟨gF, k, none⟩) (hFB.out.rF.lt)).trans (hfc)⟩
                      refine wp_region_K (S := (fun w' : World => w'.cell? ⟨gV, 0, none⟩ = some (.int .i64 frm) ∧ w'.cell? ⟨gV, 1, none⟩ = some (.int .i64 dst) ∧ w'.cell? ⟨gV, 2, none⟩ = some (.slice hA hn hcp) ∧ w'.cell? ⟨gV, 3, none⟩ = some (.slice nA nn nc) ∧ w'.cell? ⟨gV, 4, none⟩ = some (.slice eA en ec) ∧ w'.cell? ⟨gV, 5, none⟩ = some (.bool late) ∧ w'.cell? ⟨gV, 6, none⟩ = some (.bool keep) ∧ w'.cell? ⟨gR, 1, none⟩ = some (.slice (some ⟨gS, 0, none⟩) n capS) ∧ w'.cell? ⟨gR, 2, none⟩ = some (.slice (some ⟨gF, 0, none⟩) n capF) ∧ w'.cell? ⟨gS, k, none⟩ = some (.int .i64 zS) ∧ w'.cell? ⟨gF, k, none⟩ = some (.bool zF))) (K := []) (by kernel_rfl) ?_
                      simp only at hS
                      refine AnyK.take (i := 0) (v := .pointer (some ⟨gV, 0, none⟩)) rfl (by kernel_rfl) (by kernel_rfl) (by kernel_rfl) (by kernel_rfl) (by kernel_rfl) (by kernel_rfl) (fun _ _ _ h => h) (Or.inl ⟨by kernel_rfl, fun w' _ => by kernel_rfl⟩) hS ?_
                      (try simp only [Act.put, List.setIfInBounds_toArray, List.set_cons_zero, List.set_cons_succ])
                      refine AnyK.take (i := 1) (v := .int .i64 frm) rfl (by kernel_rfl) (by kernel_rfl) (by kernel_rfl) (by kernel_rfl) (by kernel_rfl) (by kernel_rfl) (fun _ _ _ h => h) (Or.inl ⟨by kernel_rfl, ?_⟩) hS ?_
                      · rintro w' ⟨z0, z1, z2, z3, z4, z5, z6, z7, z8, z9, z10⟩
                        go_simp
                      (try simp only [Act.put, List.setIfInBounds_toArray, List.set_cons_zero, List.set_cons_succ])
                      refine AnyK.take (i := 2) (v := .pointer (some ⟨gR, 0, none⟩)) rfl (by kernel_rfl) (by kernel_rfl) (by kernel_rfl) (by kernel_rfl) (by kernel_rfl) (by kernel_rfl) (fun _ _ _ h => h) (Or.inl ⟨by kernel_rfl, fun w' _ => by kernel_rfl⟩) hS ?_
                      (try simp only [Act.put, List.setIfInBounds_toArray, List.set_cons_zero, List.set_cons_succ])
                      refine AnyK.take (i := 3) (v := .pointer (some ⟨gR, 0, none⟩)) rfl (by kernel_rfl) (by kernel_rfl) (by kernel_rfl) (by kernel_rfl) (by kernel_rfl) (by kernel_rfl) (fun _ _ _ h => h) (Or.inl ⟨by kernel_rfl, fun w' _ => by kernel_rfl⟩) hS ?_
                      (try simp only [Act.put, List.setIfInBounds_toArray, List.set_cons_zero, List.set_cons_succ])
                      refine AnyK.take (i := 4) (v := .pointer (some ⟨gR, 1, none⟩)) rfl (by kernel_rfl) (by kernel_rfl) (by kernel_rfl) (by kernel_rfl) (by kernel_rfl) (by kernel_rfl) (fun _ _ _ h => h) (Or.inl ⟨by kernel_rfl, fun w' _ => by kernel_rfl⟩) hS ?_
                      (try simp only [Act.put, List.setIfInBounds_toArray, List.set_cons_zero, List.set_cons_succ])
                      refine AnyK.take (i := 5) (v := .pointer (some ⟨gR, 1, none⟩)) rfl (by kernel_rfl) (by kernel_rfl) (by kernel_rfl) (by kernel_rfl) (by kernel_rfl) (by kernel_rfl) (fun _ _ _ h => h) (Or.inl ⟨by kernel_rfl, fun w' _ => by kernel_rfl⟩) hS ?_
                      (try simp only [Act.put, List.setIfInBounds_toArray, List.set_cons_zero, List.set_cons_succ])
                      refine AnyK.take (i := 6) (v := .slice (some ⟨gS, 0, none⟩) n capS) rfl (by kernel_rfl) (by kernel_rfl) (by kernel_rfl) (by kernel_rfl) (by kernel_rfl) (by kernel_rfl) (fun _ _ _ h => h) (Or.inl ⟨by kernel_rfl, ?_⟩) hS ?_
                      · rintro w' ⟨z0, z1, z2, z3, z4, z5, z6, z7, z8, z9, z10⟩
                        go_simp
                      (try simp only [Act.put, List.setIfInBounds_toArray, List.set_cons_zero, List.set_cons_succ])
                      refine AnyK.take (i := 7) (v := .int .i64 (k : Int)) rfl (by kernel_rfl) (by kernel_rfl) (by kernel_rfl) (by kernel_rfl) (by kernel_rfl) (by kernel_rfl) (fun _ _ _ h => h) (Or.inl ⟨by kernel_rfl, fun w' _ => by kernel_rfl⟩) hS ?_
                      (try simp only [Act.put, List.setIfInBounds_toArray, List.set_cons_zero, List.set_cons_succ])
                      refine AnyK.take (i := 8) (v := .pointer (some ⟨gS, k, none⟩)) rfl (by kernel_rfl) (by kernel_rfl) (by kernel_rfl) (by kernel_rfl) (by kernel_rfl) (by kernel_rfl) (fun _ _ _ h => h) (Or.inl ⟨by kernel_rfl, ?_⟩) hS ?_
                      · rintro w' ⟨z0, z1, z2, z3, z4, z5, z6, z7, z8, z9, z10⟩
                        go_simp
                      (try simp only [Act.put, List.setIfInBounds_toArray, List.set_cons_zero, List.set_cons_succ])
                      refine AnyK.take (i := 9) (v := .int .i64 zS) rfl (by kernel_rfl) (by kernel_rfl) (by kernel_rfl) (by kernel_rfl) (by kernel_rfl) (by kernel_rfl) (fun _ _ _ h => h) (Or.inl ⟨by kernel_rfl, ?_⟩) hS ?_
                      · rintro w' ⟨z0, z1, z2, z3, z4, z5, z6, z7, z8, z9, z10⟩
                        go_simp
                      (try simp only [Act.put, List.setIfInBounds_toArray, List.set_cons_zero, List.set_cons_succ])
                      refine AnyK.take (i := 10) (v := .bool false) rfl (by kernel_rfl) (by kernel_rfl) (by kernel_rfl) (by kernel_rfl) (by kernel_rfl) (by kernel_rfl) (fun _ _ _ h => h) (Or.inl ⟨by kernel_rfl, ?_⟩) hS ?_
                      · rintro w' ⟨z0, z1, z2, z3, z4, z5, z6, z7, z8, z9, z10⟩
                        go_simp
                      (try simp only [Act.put, List.setIfInBounds_toArray, List.set_cons_zero, List.set_cons_succ])
                      refine AnyK.take (i := 11) (v := .bool false) rfl (by kernel_rfl) (by kernel_rfl) (by kernel_rfl) (by kernel_rfl) (by kernel_rfl) (by kernel_rfl) (fun _ _ _ h => h) (Or.inl ⟨by kernel_rfl, fun w' _ => by kernel_rfl⟩) hS ?_
                      (try simp only [Act.put, List.setIfInBounds_toArray, List.set_cons_zero, List.set_cons_succ])
                      refine AnyK.take (i := 12) (v := undef) rfl (by kernel_rfl) (by kernel_rfl) (by kernel_rfl) (by kernel_rfl) (by kernel_rfl) (by kernel_rfl) (fun _ _ _ h => h) (Or.inr ⟨by kernel_rfl, rfl⟩) hS ?_
                      (try simp only [Act.put, List.setIfInBounds_toArray, List.set_cons_zero, List.set_cons_succ])
                      refine AnyK.take (i := 13) (v := undef) rfl (by kernel_rfl) (by kernel_rfl) (by kernel_rfl) (by kernel_rfl) (by kernel_rfl) (by kernel_rfl) (fun _ _ _ h => h) (Or.inr ⟨by kernel_rfl, rfl⟩) hS ?_
                      (try simp only [Act.put, List.setIfInBounds_toArray, List.set_cons_zero, List.set_cons_succ])
                      refine AnyK.take (i := 14) (v := undef) rfl (by kernel_rfl) (by kernel_rfl) (by kernel_rfl) (by kernel_rfl) (by kernel_rfl) (by kernel_rfl) (fun _ _ _ h => h) (Or.inr ⟨by kernel_rfl, rfl⟩) hS ?_
                      (try simp only [Act.put, List.setIfInBounds_toArray, List.set_cons_zero, List.set_cons_succ])
                      refine AnyK.take (i := 15) (v := .bool false) rfl (by kernel_rfl) (by kernel_rfl) (by kernel_rfl) (by kernel_rfl) (by kernel_rfl) (by kernel_rfl) (fun _ _ _ h => h) (Or.inl ⟨by kernel_rfl, fun w' _ => by kernel_rfl⟩) hS ?_
                      (try simp only [Act.put, List.setIfInBounds_toArray, List.set_cons_zero, List.set_cons_succ])
                      refine AnyK.take (i := 16) (v := .bool false) rfl (by kernel_rfl) (by kernel_rfl) (by kernel_rfl) (by kernel_rfl) (by kernel_rfl) (by kernel_rfl) (fun _ _ _ h => h) (Or.inl ⟨by kernel_rfl, fun w' _ => by kernel_rfl⟩) hS ?_
                      (try simp only [Act.put, List.setIfInBounds_toArray, List.set_cons_zero, List.set_cons_succ])
                      refine AnyK.take (i := 17) (v := undef) rfl (by kernel_rfl) (by kernel_rfl) (by kernel_rfl) (by kernel_rfl) (by kernel_rfl) (by kernel_rfl) (fun _ _ _ h => h) (Or.inr ⟨by kernel_rfl, rfl⟩) hS ?_
                      (try simp only [Act.put, List.setIfInBounds_toArray, List.set_cons_zero, List.set_cons_succ])
                      refine AnyK.take (i := 18) (v := undef) rfl (by kernel_rfl) (by kernel_rfl) (by kernel_rfl) (by kernel_rfl) (by kernel_rfl) (by kernel_rfl) (fun _ _ _ h => h) (Or.inr ⟨by kernel_rfl, rfl⟩) hS ?_
                      (try simp only [Act.put, List.setIfInBounds_toArray, List.set_cons_zero, List.set_cons_succ])
                      refine AnyK.take (i := 19) (v := undef) rfl (by kernel_rfl) (by kernel_rfl) (by kernel_rfl) (by kernel_rfl) (by kernel_rfl) (by kernel_rfl) (fun _ _ _ h => h) (Or.inr ⟨by kernel_rfl, rfl⟩) hS ?_
                      (try simp only [Act.put, List.setIfInBounds_toArray, List.set_cons_zero, List.set_cons_succ])
                      refine AnyK.take (i := 20) (v := undef) rfl (by kernel_rfl) (by kernel_rfl) (by kernel_rfl) (by kernel_rfl) (by kernel_rfl) (by kernel_rfl) (fun _ _ _ h => h) (Or.inr ⟨by kernel_rfl, rfl⟩) hS ?_
                      (try simp only [Act.put, List.setIfInBounds_toArray, List.set_cons_zero, List.set_cons_succ])
                      refine AnyK.take (i := 21) (v := undef) rfl (by kernel_rfl) (by kernel_rfl) (by kernel_rfl) (by kernel_rfl) (by kernel_rfl) (by kernel_rfl) (fun _ _ _ h => h) (Or.inr ⟨by kernel_rfl, rfl⟩) hS ?_
                      (try simp only [Act.put, List.setIfInBounds_toArray, List.set_cons_zero, List.set_cons_succ])
                      refine AnyK.take (i := 22) (v := undef) rfl (by kernel_rfl) (by kernel_rfl) (by kernel_rfl) (by kernel_rfl) (by kernel_rfl) (by kernel_rfl) (fun _ _ _ h => h) (Or.inr ⟨by kernel_rfl, rfl⟩) hS ?_
                      (try simp only [Act.put, List.setIfInBounds_toArray, List.set_cons_zero, List.set_cons_succ])
                      refine AnyK.take (i := 23) (v := undef) rfl (by kernel_rfl) (by kernel_rfl) (by kernel_rfl) (by kernel_rfl) (by kernel_rfl) (by kernel_rfl) (fun _ _ _ h => h) (Or.inr ⟨by kernel_rfl, rfl⟩) hS ?_
                      (try simp only [Act.put, List.setIfInBounds_toArray, List.set_cons_zero, List.set_cons_succ])
                      refine AnyK.take (i := 24) (v := undef) rfl (by kernel_rfl) (by kernel_rfl) (by kernel_rfl) (by kernel_rfl) (by kernel_rfl) (by kernel_rfl) (fun _ _ _ h => h) (Or.inr ⟨by kernel_rfl, rfl⟩) hS ?_
                      (try simp only [Act.put, List.setIfInBounds_toArray, List.set_cons_zero, List.set_cons_succ])
                      refine AnyK.take (i := 25) (v := undef) rfl (by kernel_rfl) (by kernel_rfl) (by kernel_rfl) (by kernel_rfl) (by kernel_rfl) (by kernel_rfl) (fun _ _ _ h => h) (Or.inr ⟨by kernel_rfl, rfl⟩) hS ?_
                      (try simp only [Act.put, List.setIfInBounds_toArray, List.set_cons_zero, List.set_cons_succ])
                      refine AnyK.take (i := 26) (v := undef) rfl (by kernel_rfl) (by kernel_rfl) (by kernel_rfl) (by kernel_rfl) (by kernel_rfl) (by kernel_rfl) (fun _ _ _ h => h) (Or.inr ⟨by kernel_rfl, rfl⟩) hS ?_
                      (try simp only [Act.put, List.setIfInBounds_toArray, List.set_cons_zero, List.set_cons_succ])
                      refine AnyK.take (i := 27) (v := undef) rfl (by kernel_rfl) (by kernel_rfl) (by kernel_rfl) (by kernel_rfl) (by kernel_rfl) (by kernel_rfl) (fun _ _ _ h => h) (Or.inr ⟨by kernel_rfl, rfl⟩) hS ?_
                      (try simp only [Act.put, List.setIfInBounds_toArray, List.set_cons_zero, List.set_cons_succ])
                      refine AnyK.take (i := 28) (v := undef) rfl (by kernel_rfl) (by kernel_rfl) (by kernel_rfl) (by kernel_rfl) (by kernel_rfl) (by kernel_rfl) (fun _ _ _ h => h) (Or.inr ⟨by kernel_rfl, rfl⟩) hS ?_
                      (try simp only [Act.put, List.setIfInBounds_toArray, List.set_cons_zero, List.set_cons_succ])
                      refine AnyK.take (i := 29) (v := undef) rfl (by kernel_rfl) (by kernel_rfl) (by kernel_rfl) (by kernel_rfl) (by kernel_rfl) (by kernel_rfl) (fun _ _ _ h => h) (Or.inr ⟨by kernel_rfl, rfl⟩) hS ?_
                      (try simp only [Act.put, List.setIfInBounds_toArray, List.set_cons_zero, List.set_cons_succ])
                      refine AnyK.take (i := 30) (v := undef) rfl (by kernel_rfl) (by kernel_rfl) (by kernel_rfl) (by kernel_rfl) (by kernel_rfl) (by kernel_rfl) (fun _ _ _ h => h) (Or.inr ⟨by kernel_rfl, rfl⟩) hS ?_
                      (try simp only [Act.put, List.setIfInBounds_toArray, List.set_cons_zero, List.set_cons_succ])
                      refine AnyK.take (i := 31) (v := .bool false) rfl (by kernel_rfl) (by kernel_rfl) (by kernel_rfl) (by kernel_rfl) (by kernel_rfl) (by kernel_rfl) (fun _ _ _ h => h) (Or.inl ⟨by kernel_rfl, fun w' _ => by kernel_rfl⟩) hS ?_
                      (try simp only [Act.put, List.setIfInBounds_toArray, List.set_cons_zero, List.set_cons_succ])
                      refine AnyK.done (by kernel_rfl) ?_ _
                      clear hS hSb
                      go_wp2_with fail
                      go_meet
                      exact ⟨by rw [hf1]; rfl, (Below.refl _ _).drew⟩
                    | true =>
                      cases hob : ob with
                      | false =>
                        simp only [hob] at hqo
                        have hS : (fun w' : World => w'.cell? ⟨gV, 0, none⟩ = some (.int .i64 frm) ∧ w'.cell? ⟨gV, 1, none⟩ = some (.int .i64 dst) ∧ w'.cell? ⟨gV, 2, none⟩ = some (.slice hA hn hcp) ∧ w'.cell? ⟨gV, 3, none⟩ = some (.slice nA nn nc) ∧ w'.cell? ⟨gV, 4, none⟩ = some (.slice eA en ec) ∧ w'.cell? ⟨gV, 5, none⟩ = some (.bool late) ∧ w'.cell? ⟨gV, 6, none⟩ = some (.bool keep) ∧ w'.cell? ⟨gR, 1, none⟩ = some (.slice (some ⟨gS, 0, none⟩) n capS) ∧ w'.cell? ⟨gR, 2, none⟩ = some (.slice (some ⟨gF, 0, none⟩) n capF) ∧ w'.cell? ⟨gS, k, none⟩ = some (.int .i64 zS) ∧ w'.cell? ⟨gF, k, none⟩ = some (.bool zF)) wB.drew := ⟨hV.out.cell 0, hV.out.cell 1, hV.out.cell 2, hV.out.cell 3, hV.out.cell 4, hV.out.cell 5, hV.out.cell 6, hFB.out.bR.cell 1, hFB.out.bR.cell 2, hsc, hfc⟩
                        have hSb : Hid (∀ w', Below wB.heap.size wB w' → (fun w' : World => w'.cell? ⟨gV, 0, none⟩ = some (.int .i64 frm) ∧ w'.cell? ⟨gV, 1, none⟩ = some (.int .i64 dst) ∧ w'.cell? ⟨gV, 2, none⟩ = some (.slice hA hn hcp) ∧ w'.cell? ⟨gV, 3, none⟩ = some (.slice nA nn nc) ∧ w'.cell? ⟨gV, 4, none⟩ = some (.slice eA en ec) ∧ w'.cell? ⟨gV, 5, none⟩ = some (.bool late) ∧ w'.cell? ⟨gV, 6, none⟩ = some (.bool keep) ∧ w'.cell? ⟨gR, 1, none⟩ = some (.slice (some ⟨gS, 0, none⟩) n capS) ∧ w'.cell? ⟨gR, 2, none⟩ = some (.slice (some ⟨gF, 0, none⟩) n capF) ∧ w'.cell? ⟨gS, k, none⟩ = some (.int .i64 zS) ∧ w'.cell? ⟨gF, k, none⟩ = some (.bool zF)) w') := fun w' hb => ⟨(hb.cell (p := ⟨gV, 0, none⟩) (hV.out.lt)).trans (hV.out.cell 0), (hb.cell (p := ⟨gV, 1, none⟩) (hV.out.lt)).trans (hV.out.cell 1), (hb.cell (p := ⟨gV, 2, none⟩) (hV.out.lt)).trans (hV.out.cell 2), (hb.cell (p := ⟨gV, 3, none⟩) (hV.out.lt)).trans (hV.out.cell 3), (hb.cell (p := ⟨gV, 4, none⟩) (hV.out.lt)).trans (hV.out.cell 4), (hb.cell (p := ⟨gV, 5, none⟩) (hV.out.lt)).trans (hV.out.cell 5), (hb.cell (p := ⟨gV, 6, none⟩) (hV.out.lt)).trans (hV.out.cell 6), (hb.cell (p := ⟨gR, 1, none⟩) (hFB.out.bR.lt)).trans (hFB.out.bR.cell 1), (hb.cell (p := ⟨gR, 2, none⟩) (hFB.out.bR.lt)).trans (hFB.out.bR.cell 2), (hb.cell (p := ⟨gS, k, none⟩) (hFB.out.rS.lt)).trans (hsc), (hb.cell (p := ⟨gF, k, none⟩) (hFB.out.rF.lt)).trans (hfc)⟩
                        refine wp_region_K (S := (fun w' : World => w'.cell? ⟨gV, 0, none⟩ = some (.int .i64 frm) ∧ w'.cell? ⟨gV, 1, none⟩ = some (.int .i64 dst) ∧ w'.cell? ⟨gV, 2, none⟩ = some (.slice hA hn hcp) ∧ w'.cell? ⟨gV, 3, none⟩ = some (.slice nA nn nc) ∧ w'.cell? ⟨gV, 4, none⟩ = some (.slice eA en ec) ∧ w'.cell? ⟨gV, 5, none⟩ = some (.bool late) ∧ w'.cell? ⟨gV, 6, none⟩ = some (.bool keep) ∧ w'.cell? ⟨gR, 1, none⟩ = some (.slice (some ⟨gS, 0, none⟩) n capS) ∧ w'.cell? ⟨gR, 2, none⟩ = some (.slice (some ⟨gF, 0, none⟩) n capF) ∧ w'.cell? ⟨gS, k, none⟩ = some (.int .i64 zS) ∧ w'.cell? ⟨gF, k, none⟩ = some (.bool zF))) (K := []) (by kernel_rfl) ?_
                        simp only at hS
                        refine AnyK.take (i := 0) (v := .pointer (some ⟨gV, 0, none⟩)) rfl (by kernel_rfl) (by kernel_rfl) (by kernel_rfl) (by kernel_rfl) (by kernel_rfl) (by kernel_rfl) (fun _ _ _ h => h) (Or.inl ⟨by kernel_rfl, fun w' _ => by kernel_rfl⟩) hS ?_
                        (try simp only [Act.put, List.setIfInBounds_toArray, List.set_cons_zero, List.set_cons_succ])
                        refine AnyK.take (i := 1) (v := .int .i64 frm) rfl (by kernel_rfl) (by kernel_rfl) (by kernel_rfl) (by kernel_rfl) (by kernel_rfl) (by kernel_rfl) (fun _ _ _ h => h) (Or.inl ⟨by kernel_rfl, ?_⟩) hS ?_
                        · rintro w' ⟨z0, z1, z2, z3, z4, z5, z6, z7, z8, z9, z10⟩
                          go_simp
                        (try simp only [Act.put, List.setIfInBounds_toArray, List.set_cons_zero, List.set_cons_succ])
                        refine AnyK.take (i := 2) (v := .pointer (some ⟨gR, 0, none⟩)) rfl (by kernel_rfl) (by kernel_rfl) (by kernel_rfl) (by kernel_rfl) (by kernel_rfl) (by kernel_rfl) (fun _ _ _ h => h) (Or.inl ⟨by kernel_rfl, fun w' _ => by kernel_rfl⟩) hS ?_
                        (try simp only [Act.put, List.setIfInBounds_toArray, List.set_cons_zero, List.set_cons_succ])
                        refine AnyK.take (i := 3) (v := .pointer (some ⟨gR, 0, none⟩)) rfl (by kernel_rfl) (by kernel_rfl) (by kernel_rfl) (by kernel_rfl) (by kernel_rfl) (by kernel_rfl) (fun _ _ _ h => h) (Or.inl ⟨by kernel_rfl, fun w' _ => by kernel_rfl⟩) hS ?_
                        (try simp only [Act.put, List.setIfInBounds_toArray, List.set_cons_zero, List.set_cons_succ])
                        refine AnyK.take (i := 4) (v := .pointer (some ⟨gR, 1, none⟩)) rfl (by kernel_rfl) (by kernel_rfl) (by kernel_rfl) (by kernel_rfl) (by kernel_rfl) (by kernel_rfl) (fun _ _ _ h => h) (Or.inl ⟨by kernel_rfl, fun w' _ => by kernel_rfl⟩) hS ?_
                        (try simp only [Act.put, List.setIfInBounds_toArray, List.set_cons_zero, List.set_cons_succ])
                        refine AnyK.take (i := 5) (v := .pointer (some ⟨gR, 1, none⟩)) rfl (by kernel_rfl) (by kernel_rfl) (by kernel_rfl) (by kernel_rfl) (by kernel_rfl) (by kernel_rfl) (fun _ _ _ h => h) (Or.inl ⟨by kernel_rfl, fun w' _ => by kernel_rfl⟩) hS ?_
                        (try simp only [Act.put, List.setIfInBounds_toArray, List.set_cons_zero, List.set_cons_succ])
                        refine AnyK.take (i := 6) (v := .slice (some ⟨gS, 0, none⟩) n capS) rfl (by kernel_rfl) (by kernel_rfl) (by kernel_rfl) (by kernel_rfl) (by kernel_rfl) (by kernel_rfl) (fun _ _ _ h => h) (Or.inl ⟨by kernel_rfl, ?_⟩) hS ?_
                        · rintro w' ⟨z0, z1, z2, z3, z4, z5, z6, z7, z8, z9, z10⟩
                          go_simp
                        (try simp only [Act.put, List.setIfInBounds_toArray, List.set_cons_zero, List.set_cons_succ])
                        refine AnyK.take (i := 7) (v := .int .i64 (k : Int)) rfl (by kernel_rfl) (by kernel_rfl) (by kernel_rfl) (by kernel_rfl) (by kernel_rfl) (by kernel_rfl) (fun _ _ _ h => h) (Or.inl ⟨by kernel_rfl, fun w' _ => by kernel_rfl⟩) hS ?_
                        (try simp only [Act.put, List.setIfInBounds_toArray, List.set_cons_zero, List.set_cons_succ])
                        refine AnyK.take (i := 8) (v := .pointer (some ⟨gS, k, none⟩)) rfl (by kernel_rfl) (by kernel_rfl) (by kernel_rfl) (by kernel_rfl) (by kernel_rfl) (by kernel_rfl) (fun _ _ _ h => h) (Or.inl ⟨by kernel_rfl, ?_⟩) hS ?_
                        · rintro w' ⟨z0, z1, z2, z3, z4, z5, z6, z7, z8, z9, z10⟩
                          go_simp
                        (try simp only [Act.put, List.setIfInBounds_toArray, List.set_cons_zero, List.set_cons_succ])
                        refine AnyK.take (i := 9) (v := .int .i64 zS) rfl (by kernel_rfl) (by kernel_rfl) (by kernel_rfl) (by kernel_rfl) (by kernel_rfl) (by kernel_rfl) (fun _ _ _ h => h) (Or.inl ⟨by kernel_rfl, ?_⟩) hS ?_
                        · rintro w' ⟨z0, z1, z2, z3, z4, z5, z6, z7, z8, z9, z10⟩
                          go_simp
                        (try simp only [Act.put, List.setIfInBounds_toArray, List.set_cons_zero, List.set_cons_succ])
                        refine AnyK.take (i := 10) (v := .bool true) rfl (by kernel_rfl) (by kernel_rfl) (by kernel_rfl) (by kernel_rfl) (by kernel_rfl) (by kernel_rfl) (fun _ _ _ h => h) (Or.inl ⟨by kernel_rfl, ?_⟩) hS ?_
                        · rintro w' ⟨z0, z1, z2, z3, z4, z5, z6, z7, z8, z9, z10⟩
                          go_simp
                        (try simp only [Act.put, List.setIfInBounds_toArray, List.set_cons_zero, List.set_cons_succ])
                        refine AnyK.take (i := 11) (v := .bool true) rfl (by kernel_rfl) (by kernel_rfl) (by kernel_rfl) (by kernel_rfl) (by kernel_rfl) (by kernel_rfl) (fun _ _ _ h => h) (Or.inl ⟨by kernel_rfl, fun w' _ => by kernel_rfl⟩) hS ?_
                        (try simp only [Act.put, List.setIfInBounds_toArray, List.set_cons_zero, List.set_cons_succ])
                        refine AnyK.take (i := 12) (v := .agg #[.int .i64 frm, .int .i64 dst, .slice hA hn hcp, .slice nA nn nc, .slice eA en ec, .bool late, .bool keep]) rfl (by kernel_rfl) (by kernel_rfl) (by kernel_rfl) (by kernel_rfl) (by kernel_rfl) (by kernel_rfl) (fun _ _ _ h => h) (yieldsIf_load_mid (by kernel_rfl) 52 (.tmp 15) (by kernel_rfl) gV 0 (by kernel_rfl) [.int .i64 frm, .int .i64 dst, .slice hA hn hcp, .slice nA nn nc, .slice eA en ec, .bool late, .bool keep] _ (fun w' h => range7 h.1 h.2.1 h.2.2.1 h.2.2.2.1 h.2.2.2.2.1 h.2.2.2.2.2.1 h.2.2.2.2.2.2.1) Try.underlying52 rfl (by kernel_rfl)) hS ?_
                        (try simp only [Act.put, List.setIfInBounds_toArray, List.set_cons_zero, List.set_cons_succ])
                        refine AnyK.take (i := 13) (v := .slice tA (iN + on) tc) rfl (by kernel_rfl) (by kernel_rfl) (by kernel_rfl) (by kernel_rfl) (by kernel_rfl) (by kernel_rfl) (fun _ _ _ h => h) (Or.inl ⟨by kernel_rfl, fun w' _ => by kernel_rfl⟩) hS ?_
                        (try simp only [Act.put, List.setIfInBounds_toArray, List.set_cons_zero, List.set_cons_succ])
                        refine AnyK.one (i := 14) (by kernel_rfl) rfl (fun K' hK => ?_)
                        go_simp
                        refine (hqo.out wB.drew (Below.refl _ _).drew).mono ?_
                        rintro e w9 ⟨rfl, hb9⟩
                        have hb9' : Below wB.heap.size wB w9 := Below.callB (Below.refl _ _).drew hb9
                        replace hS := hSb.out w9 (hb9')
                        refine hK.out _ _ (fun _ => hS) ?_
                        clear hK
                        (try simp only [Act.put, List.setIfInBounds_toArray, List.set_cons_zero, List.set_cons_succ])
                        refine AnyK.take (i := 15) (v := .bool false) rfl (by kernel_rfl) (by kernel_rfl) (by kernel_rfl) (by kernel_rfl) (by kernel_rfl) (by kernel_rfl) (fun _ _ _ h => h) (Or.inl ⟨by kernel_rfl, fun w' _ => by kernel_rfl⟩) hS ?_
                        (try simp only [Act.put, List.setIfInBounds_toArray, List.set_cons_zero, List.set_cons_succ])
                        refine AnyK.take (i := 16) (v := .bool false) rfl (by kernel_rfl) (by kernel_rfl) (by kernel_rfl) (by kernel_rfl) (by kernel_rfl) (by kernel_rfl) (fun _ _ _ h => h) (Or.inl ⟨by kernel_rfl, fun w' _ => by kernel_rfl⟩) hS ?_
                        (try simp only [Act.put, List.setIfInBounds_toArray, List.set_cons_zero, List.set_cons_succ])
                        refine AnyK.take (i := 17) (v := undef) rfl (by kernel_rfl) (by kernel_rfl) (by kernel_rfl) (by kernel_rfl) (by kernel_rfl) (by kernel_rfl) (fun _ _ _ h => h) (Or.inr ⟨by kernel_rfl, rfl⟩) hS ?_
                        (try simp only [Act.put, List.setIfInBounds_toArray, List.set_cons_zero, List.set_cons_succ])
                        refine AnyK.take (i := 18) (v := undef) rfl (by kernel_rfl) (by kernel_rfl) (by kernel_rfl) (by kernel_rfl) (by kernel_rfl) (by kernel_rfl) (fun _ _ _ h => h) (Or.inr ⟨by kernel_rfl, rfl⟩) hS ?_
                        (try simp only [Act.put, List.setIfInBounds_toArray, List.set_cons_zero, List.set_cons_succ])
                        refine AnyK.take (i := 19) (v := undef) rfl (by kernel_rfl) (by kernel_rfl) (by kernel_rfl) (by kernel_rfl) (by kernel_rfl) (by kernel_rfl) (fun _ _ _ h => h) (Or.inr ⟨by kernel_rfl, rfl⟩) hS ?_
                        (try simp only [Act.put, List.setIfInBounds_toArray, List.set_cons_zero, List.set_cons_succ])
                        refine AnyK.take (i := 20) (v := undef) rfl (by kernel_rfl) (by kernel_rfl) (by kernel_rfl) (by kernel_rfl) (by kernel_rfl) (by kernel_rfl) (fun _ _ _ h => h) (Or.inr ⟨by kernel_rfl, rfl⟩) hS ?_
                        (try simp only [Act.put, List.setIfInBounds_toArray, List.set_cons_zero, List.set_cons_succ])
                        refine AnyK.take (i := 21) (v := undef) rfl (by kernel_rfl) (by kernel_rfl) (by kernel_rfl) (by kernel_rfl) (by kernel_rfl) (by kernel_rfl) (fun _ _ _ h => h) (Or.inr ⟨by kernel_rfl, rfl⟩) hS ?_
                        (try simp only [Act.put, List.setIfInBounds_toArray, List.set_cons_zero, List.set_cons_succ])
                        refine AnyK.take (i := 22) (v := undef) rfl (by kernel_rfl) (by kernel_rfl) (by kernel_rfl) (by kernel_rfl) (by kernel_rfl) (by kernel_rfl) (fun _ _ _ h => h) (Or.inr ⟨by kernel_rfl, rfl⟩) hS ?_
                        (try simp only [Act.put, List.setIfInBounds_toArray, List.set_cons_zero, List.set_cons_succ])
                        refine AnyK.take (i := 23) (v := undef) rfl (by kernel_rfl) (by kernel_rfl) (by kernel_rfl) (by kernel_rfl) (by kernel_rfl) (by kernel_rfl) (fun _ _ _ h => h) (Or.inr ⟨by kernel_rfl, rfl⟩) hS ?_
                        (try simp only [Act.put, List.setIfInBounds_toArray, List.set_cons_zero, List.set_cons_succ])
                        refine AnyK.take (i := 24) (v := undef) rfl (by kernel_rfl) (by kernel_rfl) (by kernel_rfl) (by kernel_rfl) (by kernel_rfl) (by kernel_rfl) (fun _ _ _ h => h) (Or.inr ⟨by kernel_rfl, rfl⟩) hS ?_
                        (try simp only [Act.put, List.setIfInBounds_toArray, List.set_cons_zero, List.set_cons_succ])
                        refine AnyK.take (i := 25) (v := undef) rfl (by kernel_rfl) (by kernel_rfl) (by kernel_rfl) (by kernel_rfl) (by kernel_rfl) (by kernel_rfl) (fun _ _ _ h => h) (Or.inr ⟨by kernel_rfl, rfl⟩) hS ?_
                        (try simp only [Act.put, List.setIfInBounds_toArray, List.set_cons_zero, List.set_cons_succ])
                        refine AnyK.take (i := 26) (v := undef) rfl (by kernel_rfl) (by kernel_rfl) (by kernel_rfl) (by kernel_rfl) (by kernel_rfl) (by kernel_rfl) (fun _ _ _ h => h) (Or.inr ⟨by kernel_rfl, rfl⟩) hS ?_
                        (try simp only [Act.put, List.setIfInBounds_toArray, List.set_cons_zero, List.set_cons_succ])
                        refine AnyK.take (i := 27) (v := undef) rfl (by kernel_rfl) (by kernel_rfl) (by kernel_rfl) (by kernel_rfl) (by kernel_rfl) (by kernel_rfl) (fun _ _ _ h => h) (Or.inr ⟨by kernel_rfl, rfl⟩) hS ?_
                        (try simp only [Act.put, List.setIfInBounds_toArray, List.set_cons_zero, List.set_cons_succ])
                        refine AnyK.take (i := 28) (v := undef) rfl (by kernel_rfl) (by kernel_rfl) (by kernel_rfl) (by kernel_rfl) (by kernel_rfl) (by kernel_rfl) (fun _ _ _ h => h) (Or.inr ⟨by kernel_rfl, rfl⟩) hS ?_
                        (try simp only [Act.put, List.setIfInBounds_toArray, List.set_cons_zero, List.set_cons_succ])
                        refine AnyK.take (i := 29) (v := undef) rfl (by kernel_rfl) (by kernel_rfl) (by kernel_rfl) (by kernel_rfl) (by kernel_rfl) (by kernel_rfl) (fun _ _ _ h => h) (Or.inr ⟨by kernel_rfl, rfl⟩) hS ?_
                        (try simp only [Act.put, List.setIfInBounds_toArray, List.set_cons_zero, List.set_cons_succ])
                        refine AnyK.take (i := 30) (v := undef) rfl (by kernel_rfl) (by kernel_rfl) (by kernel_rfl) (by kernel_rfl) (by kernel_rfl) (by kernel_rfl) (fun _ _ _ h => h) (Or.inr ⟨by kernel_rfl, rfl⟩) hS ?_
                        (try simp only [Act.put, List.setIfInBounds_toArray, List.set_cons_zero, List.set_cons_succ])
                        refine AnyK.take (i := 31) (v := .bool false) rfl (by kernel_rfl) (by kernel_rfl) (by kernel_rfl) (by kernel_rfl) (by kernel_rfl) (by kernel_rfl) (fun _ _ _ h => h) (Or.inl ⟨by kernel_rfl, fun w' _ => by kernel_rfl⟩) hS ?_
                        (try simp only [Act.put, List.setIfInBounds_toArray, List.set_cons_zero, List.set_cons_succ])
                        refine AnyK.done (by kernel_rfl) ?_ _
                        clear hS hSb
                        go_wp2_with fail
                        go_meet
                        exact ⟨by rw [hf1, hob]; simp, hb9'⟩
                      | true =>
                        simp only [hob] at hqo
                        cases hlt2 : late with
                        | false =>
                          subst hlt2
                          have hS : (fun w' : World => w'.cell? ⟨gV, 0, none⟩ = some (.int .i64 frm) ∧ w'.cell? ⟨gV, 1, none⟩ = some (.int .i64 dst) ∧ w'.cell? ⟨gV, 2, none⟩ = some (.slice hA hn hcp) ∧ w'.cell? ⟨gV, 3, none⟩ = some (.slice nA nn nc) ∧ w'.cell? ⟨gV, 4, none⟩ = some (.slice eA en ec) ∧ w'.cell? ⟨gV, 5, none⟩ = some (.bool false) ∧ w'.cell? ⟨gV, 6, none⟩ = some (.bool keep) ∧ w'.cell? ⟨gR, 1, none⟩ = some (.slice (some ⟨gS, 0, none⟩) n capS) ∧ w'.cell? ⟨gR, 2, none⟩ = some (.slice (some ⟨gF, 0, none⟩) n capF) ∧ w'.cell? ⟨gS, k, none⟩ = some (.int .i64 zS) ∧ w'.cell? ⟨gF, k, none⟩ = some (.bool zF)) wB.drew := ⟨hV.out.cell 0, hV.out.cell 1, hV.out.cell 2, hV.out.cell 3, hV.out.cell 4, hV.out.cell 5, hV.out.cell 6, hFB.out.bR.cell 1, hFB.out.bR.cell 2, hsc, hfc⟩
                          have hSb : Hid (∀ w', Below wB.heap.size wB w' → (fun w' : World => w'.cell? ⟨gV, 0, none⟩ = some (.int .i64 frm) ∧ w'.cell? ⟨gV, 1, none⟩ = some (.int .i64 dst) ∧ w'.cell? ⟨gV, 2, none⟩ = some (.slice hA hn hcp) ∧ w'.cell? ⟨gV, 3, none⟩ = some (.slice nA nn nc) ∧ w'.cell? ⟨gV, 4, none⟩ = some (.slice eA en ec) ∧ w'.cell? ⟨gV, 5, none⟩ = some (.bool false) ∧ w'.cell? ⟨gV, 6, none⟩ = some (.bool keep) ∧ w'.cell? ⟨gR, 1, none⟩ = some (.slice (some ⟨gS, 0, none⟩) n capS) ∧ w'.cell? ⟨gR, 2, none⟩ = some (.slice (some ⟨gF, 0, none⟩) n capF) ∧ w'.cell? ⟨gS, k, none⟩ = some (.int .i64 zS) ∧ w'.cell? ⟨gF, k, none⟩ = some (.bool zF)) w') := fun w' hb => ⟨(hb.cell (p := ⟨gV, 0, none⟩) (hV.out.lt)).trans (hV.out.cell 0), (hb.cell (p := ⟨gV, 1, none⟩) (hV.out.lt)).trans (hV.out.cell 1), (hb.cell (p := ⟨gV, 2, none⟩) (hV.out.lt)).trans (hV.out.cell 2), (hb.cell (p := ⟨gV, 3, none⟩) (hV.out.lt)).trans (hV.out.cell 3), (hb.cell (p := ⟨gV, 4, none⟩) (hV.out.lt)).trans (hV.out.cell 4), (hb.cell (p := ⟨gV, 5, none⟩) (hV.out.lt)).trans (hV.out.cell 5), (hb.cell (p := ⟨gV, 6, none⟩) (hV.out.lt)).trans (hV.out.cell 6), (hb.cell (p := ⟨gR, 1, none⟩) (hFB.out.bR.lt)).trans (hFB.out.bR.cell 1), (hb.cell (p := ⟨gR, 2, none⟩) (hFB.out.bR.lt)).trans (hFB.out.bR.cell 2), (hb.cell (p := ⟨gS, k, none⟩) (hFB.out.rS.lt)).trans (hsc), (hb.cell (p := ⟨gF, k, none⟩) (hFB.out.rF.lt)).trans (hfc)⟩
                          refine wp_region_K (S := (fun w' : World => w'.cell? ⟨gV, 0, none⟩ = some (.int .i64 frm) ∧ w'.cell? ⟨gV, 1, none⟩ = some (.int .i64 dst) ∧ w'.cell? ⟨gV, 2, none⟩ = some (.slice hA hn hcp) ∧ w'.cell? ⟨gV, 3, none⟩ = some (.slice nA nn nc) ∧ w'.cell? ⟨gV, 4, none⟩ = some (.slice eA en ec) ∧ w'.cell? ⟨gV, 5, none⟩ = some (.bool false) ∧ w'.cell? ⟨gV, 6, none⟩ = some (.bool keep) ∧ w'.cell? ⟨gR, 1, none⟩ = some (.slice (some ⟨gS, 0, none⟩) n capS) ∧ w'.cell? ⟨gR, 2, none⟩ = some (.slice (some ⟨gF, 0, none⟩) n capF) ∧ w'.cell? ⟨gS, k, none⟩ = some (.int .i64 zS) ∧ w'.cell? ⟨gF, k, none⟩ = some (.bool zF))) (K := []) (by kernel_rfl) ?_
                          simp only at hS
                          refine AnyK.take (i := 0) (v := .pointer (some ⟨gV, 0, none⟩)) rfl (by kernel_rfl) (by kernel_rfl) (by kernel_rfl) (by kernel_rfl) (by kernel_rfl) (by kernel_rfl) (fun _ _ _ h => h) (Or.inl ⟨by kernel_rfl, fun w' _ => by kernel_rfl⟩) hS ?_
                          (try simp only [Act.put, List.setIfInBounds_toArray, List.set_cons_zero, List.set_cons_succ])
                          refine AnyK.take (i := 1) (v := .int .i64 frm) rfl (by kernel_rfl) (by kernel_rfl) (by kernel_rfl) (by kernel_rfl) (by kernel_rfl) (by kernel_rfl) (fun _ _ _ h => h) (Or.inl ⟨by kernel_rfl, ?_⟩) hS ?_
                          · rintro w' ⟨z0, z1, z2, z3, z4, z5, z6, z7, z8, z9, z10⟩
                            go_simp
                          (try simp only [Act.put, List.setIfInBounds_toArray, List.set_cons_zero, List.set_cons_succ])
                          refine AnyK.take (i := 2) (v := .pointer (some ⟨gR, 0, none⟩)) rfl (by kernel_rfl) (by kernel_rfl) (by kernel_rfl) (by kernel_rfl) (by kernel_rfl) (by kernel_rfl) (fun _ _ _ h => h) (Or.inl ⟨by kernel_rfl, fun w' _ => by kernel_rfl⟩) hS ?_
                          (try simp only [Act.put, List.setIfInBounds_toArray, List.set_cons_zero, List.set_cons_succ])
                          refine AnyK.take (i := 3) (v := .pointer (some ⟨gR, 0, none⟩)) rfl (by kernel_rfl) (by kernel_rfl) (by kernel_rfl) (by kernel_rfl) (by kernel_rfl) (by kernel_rfl) (fun _ _ _ h => h) (Or.inl ⟨by kernel_rfl, fun w' _ => by kernel_rfl⟩) hS ?_
                          (try simp only [Act.put, List.setIfInBounds_toArray, List.set_cons_zero, List.set_cons_succ])
                          refine AnyK.take (i := 4) (v := .pointer (some ⟨gR, 1, none⟩)) rfl (by kernel_rfl) (by kernel_rfl) (by kernel_rfl) (by kernel_rfl) (by kernel_rfl) (by kernel_rfl) (fun _ _ _ h => h) (Or.inl ⟨by kernel_rfl, fun w' _ => by kernel_rfl⟩) hS ?_
                          (try simp only [Act.put, List.setIfInBounds_toArray, List.set_cons_zero, List.set_cons_succ])
                          refine AnyK.take (i := 5) (v := .pointer (some ⟨gR, 1, none⟩)) rfl (by kernel_rfl) (by kernel_rfl) (by kernel_rfl) (by kernel_rfl) (by kernel_rfl) (by kernel_rfl) (fun _ _ _ h => h) (Or.inl ⟨by kernel_rfl, fun w' _ => by kernel_rfl⟩) hS ?_
                          (try simp only [Act.put, List.setIfInBounds_toArray, List.set_cons_zero, List.set_cons_succ])
                          refine AnyK.take (i := 6) (v := .slice (some ⟨gS, 0, none⟩) n capS) rfl (by kernel_rfl) (by kernel_rfl) (by kernel_rfl) (by kernel_rfl) (by kernel_rfl) (by kernel_rfl) (fun _ _ _ h => h) (Or.inl ⟨by kernel_rfl, ?_⟩) hS ?_
                          · rintro w' ⟨z0, z1, z2, z3, z4, z5, z6, z7, z8, z9, z10⟩
                            go_simp
                          (try simp only [Act.put, List.setIfInBounds_toArray, List.set_cons_zero, List.set_cons_succ])
                          refine AnyK.take (i := 7) (v := .int .i64 (k : Int)) rfl (by kernel_rfl) (by kernel_rfl) (by kernel_rfl) (by kernel_rfl) (by kernel_rfl) (by kernel_rfl) (fun _ _ _ h => h) (Or.inl ⟨by kernel_rfl, fun w' _ => by kernel_rfl⟩) hS ?_
                          (try simp only [Act.put, List.setIfInBounds_toArray, List.set_cons_zero, List.set_cons_succ])
                          refine AnyK.take (i := 8) (v := .pointer (some ⟨gS, k, none⟩)) rfl (by kernel_rfl) (by kernel_rfl) (by kernel_rfl) (by kernel_rfl) (by kernel_rfl) (by kernel_rfl) (fun _ _ _ h => h) (Or.inl ⟨by kernel_rfl, ?_⟩) hS ?_
                          · rintro w' ⟨z0, z1, z2, z3, z4, z5, z6, z7, z8, z9, z10⟩
                            go_simp
                          (try simp only [Act.put, List.setIfInBounds_toArray, List.set_cons_zero, List.set_cons_succ])
                          refine AnyK.take (i := 9) (v := .int .i64 zS) rfl (by kernel_rfl) (by kernel_rfl) (by kernel_rfl) (by kernel_rfl) (by kernel_rfl) (by kernel_rfl) (fun _ _ _ h => h) (Or.inl ⟨by kernel_rfl, ?_⟩) hS ?_
                          · rintro w' ⟨z0, z1, z2, z3, z4, z5, z6, z7, z8, z9, z10⟩
                            go_simp
                          (try simp only [Act.put, List.setIfInBounds_toArray, List.set_cons_zero, List.set_cons_succ])
                          refine AnyK.take (i := 10) (v := .bool true) rfl (by kernel_rfl) (by kernel_rfl) (by kernel_rfl) (by kernel_rfl) (by kernel_rfl) (by kernel_rfl) (fun _ _ _ h => h) (Or.inl ⟨by kernel_rfl, ?_⟩) hS ?_
                          · rintro w' ⟨z0, z1, z2, z3, z4, z5, z6, z7, z8, z9, z10⟩
                            go_simp
                          (try simp only [Act.put, List.setIfInBounds_toArray, List.set_cons_zero, List.set_cons_succ])
                          refine AnyK.take (i := 11) (v := .bool true) rfl (by kernel_rfl) (by kernel_rfl) (by kernel_rfl) (by kernel_rfl) (by kernel_rfl) (by kernel_rfl) (fun _ _ _ h => h) (Or.inl ⟨by kernel_rfl, fun w' _ => by kernel_rfl⟩) hS ?_
                          (try simp only [Act.put, List.setIfInBounds_toArray, List.set_cons_zero, List.set_cons_succ])
                          refine AnyK.take (i := 12) (v := .agg #[.int .i64 frm, .int .i64 dst, .slice hA hn hcp, .slice nA nn nc, .slice eA en ec, .bool false, .bool keep]) rfl (by kernel_rfl) (by kernel_rfl) (by kernel_rfl) (by kernel_rfl) (by kernel_rfl) (by kernel_rfl) (fun _ _ _ h => h) (yieldsIf_load_mid (by kernel_rfl) 52 (.tmp 15) (by kernel_rfl) gV 0 (by kernel_rfl) [.int .i64 frm, .int .i64 dst, .slice hA hn hcp, .slice nA nn nc, .slice eA en ec, .bool false, .bool keep] _ (fun w' h => range7 h.1 h.2.1 h.2.2.1 h.2.2.2.1 h.2.2.2.2.1 h.2.2.2.2.2.1 h.2.2.2.2.2.2.1) Try.underlying52 rfl (by kernel_rfl)) hS ?_
                          (try simp only [Act.put, List.setIfInBounds_toArray, List.set_cons_zero, List.set_cons_succ])
                          refine AnyK.take (i := 13) (v := .slice tA (iN + on) tc) rfl (by kernel_rfl) (by kernel_rfl) (by kernel_rfl) (by kernel_rfl) (by kernel_rfl) (by kernel_rfl) (fun _ _ _ h => h) (Or.inl ⟨by kernel_rfl, fun w' _ => by kernel_rfl⟩) hS ?_
                          (try simp only [Act.put, List.setIfInBounds_toArray, List.set_cons_zero, List.set_cons_succ])
                          refine AnyK.one (i := 14) (by kernel_rfl) rfl (fun K' hK => ?_)
                          go_simp
                          refine (hqo.out wB.drew (Below.refl _ _).drew).mono ?_
                          rintro e w9 ⟨rfl, hb9⟩
                          have hb9' : Below wB.heap.size wB w9 := Below.callB (Below.refl _ _).drew hb9
                          replace hS := hSb.out w9 (hb9')
                          refine hK.out _ _ (fun _ => hS) ?_
                          clear hK
                          (try simp only [Act.put, List.setIfInBounds_toArray, List.set_cons_zero, List.set_cons_succ])
                          refine AnyK.take (i := 15) (v := .bool true) rfl (by kernel_rfl) (by kernel_rfl) (by kernel_rfl) (by kernel_rfl) (by kernel_rfl) (by kernel_rfl) (fun _ _ _ h => h) (Or.inl ⟨by kernel_rfl, fun w' _ => by kernel_rfl⟩) hS ?_
                          (try simp only [Act.put, List.setIfInBounds_toArray, List.set_cons_zero, List.set_cons_succ])
                          refine AnyK.take (i := 16) (v := .bool true) rfl (by kernel_rfl) (by kernel_rfl) (by kernel_rfl) (by kernel_rfl) (by kernel_rfl) (by kernel_rfl) (fun _ _ _ h => h) (Or.inl ⟨by kernel_rfl, fun w' _ => by kernel_rfl⟩) hS ?_
                          (try simp only [Act.put, List.setIfInBounds_toArray, List.set_cons_zero, List.set_cons_succ])
                          refine AnyK.take (i := 17) (v := .pointer (some ⟨gV, 5, none⟩)) rfl (by kernel_rfl) (by kernel_rfl) (by kernel_rfl) (by kernel_rfl) (by kernel_rfl) (by kernel_rfl) (fun _ _ _ h => h) (Or.inl ⟨by kernel_rfl, fun w' _ => by kernel_rfl⟩) hS ?_
                          (try simp only [Act.put, List.setIfInBounds_toArray, List.set_cons_zero, List.set_cons_succ])
                          refine AnyK.take (i := 18) (v := .bool false) rfl (by kernel_rfl) (by kernel_rfl) (by kernel_rfl) (by kernel_rfl) (by kernel_rfl) (by kernel_rfl) (fun _ _ _ h => h) (Or.inl ⟨by kernel_rfl, ?_⟩) hS ?_
                          · rintro w' ⟨z0, z1, z2, z3, z4, z5, z6, z7, z8, z9, z10⟩
                            go_simp
                          (try simp only [Act.put, List.setIfInBounds_toArray, List.set_cons_zero, List.set_cons_succ])
                          refine AnyK.take (i := 19) (v := .bool true) rfl (by kernel_rfl) (by kernel_rfl) (by kernel_rfl) (by kernel_rfl) (by kernel_rfl) (by kernel_rfl) (fun _ _ _ h => h) (Or.inl ⟨by kernel_rfl, fun w' _ => by kernel_rfl⟩) hS ?_
                          (try simp only [Act.put, List.setIfInBounds_toArray, List.set_cons_zero, List.set_cons_succ])
                          refine AnyK.take (i := 20) (v := .bool true) rfl (by kernel_rfl) (by kernel_rfl) (by kernel_rfl) (by kernel_rfl) (by kernel_rfl) (by kernel_rfl) (fun _ _ _ h => h) (Or.inl ⟨by kernel_rfl, fun w' _ => by kernel_rfl⟩) hS ?_
                          (try simp only [Act.put, List.setIfInBounds_toArray, List.set_cons_zero, List.set_cons_succ])
                          refine AnyK.take (i := 21) (v := undef) rfl (by kernel_rfl) (by kernel_rfl) (by kernel_rfl) (by kernel_rfl) (by kernel_rfl) (by kernel_rfl) (fun _ _ _ h => h) (Or.inr ⟨by kernel_rfl, rfl⟩) hS ?_
                          (try simp only [Act.put, List.setIfInBounds_toArray, List.set_cons_zero, List.set_cons_succ])
                          refine AnyK.take (i := 22) (v := undef) rfl (by kernel_rfl) (by kernel_rfl) (by kernel_rfl) (by kernel_rfl) (by kernel_rfl) (by kernel_rfl) (fun _ _ _ h => h) (Or.inr ⟨by kernel_rfl, rfl⟩) hS ?_
                          (try simp only [Act.put, List.setIfInBounds_toArray, List.set_cons_zero, List.set_cons_succ])
                          refine AnyK.take (i := 23) (v := undef) rfl (by kernel_rfl) (by kernel_rfl) (by kernel_rfl) (by kernel_rfl) (by kernel_rfl) (by kernel_rfl) (fun _ _ _ h => h) (Or.inr ⟨by kernel_rfl, rfl⟩) hS ?_
                          (try simp only [Act.put, List.setIfInBounds_toArray, List.set_cons_zero, List.set_cons_succ])
                          refine AnyK.take (i := 24) (v := undef) rfl (by kernel_rfl) (by kernel_rfl) (by kernel_rfl) (by kernel_rfl) (by kernel_rfl) (by kernel_rfl) (fun _ _ _ h => h) (Or.inr ⟨by kernel_rfl, rfl⟩) hS ?_
                          (try simp only [Act.put, List.setIfInBounds_toArray, List.set_cons_zero, List.set_cons_succ])
                          refine AnyK.take (i := 25) (v := undef) rfl (by kernel_rfl) (by kernel_rfl) (by kernel_rfl) (by kernel_rfl) (by kernel_rfl) (by kernel_rfl) (fun _ _ _ h => h) (Or.inr ⟨by kernel_rfl, rfl⟩) hS ?_
                          (try simp only [Act.put, List.setIfInBounds_toArray, List.set_cons_zero, List.set_cons_succ])
                          refine AnyK.take (i := 26) (v := undef) rfl (by kernel_rfl) (by kernel_rfl) (by kernel_rfl) (by kernel_rfl) (by kernel_rfl) (by kernel_rfl) (fun _ _ _ h => h) (Or.inr ⟨by kernel_rfl, rfl⟩) hS ?_
                          (try simp only [Act.put, List.setIfInBounds_toArray, List.set_cons_zero, List.set_cons_succ])
                          refine AnyK.take (i := 27) (v := undef) rfl (by kernel_rfl) (by kernel_rfl) (by kernel_rfl) (by kernel_rfl) (by kernel_rfl) (by kernel_rfl) (fun _ _ _ h => h) (Or.inr ⟨by kernel_rfl, rfl⟩) hS ?_
                          (try simp only [Act.put, List.setIfInBounds_toArray, List.set_cons_zero, List.set_cons_succ])
                          refine AnyK.take (i := 28) (v := undef) rfl (by kernel_rfl) (by kernel_rfl) (by kernel_rfl) (by kernel_rfl) (by kernel_rfl) (by kernel_rfl) (fun _ _ _ h => h) (Or.inr ⟨by kernel_rfl, rfl⟩) hS ?_
                          (try simp only [Act.put, List.setIfInBounds_toArray, List.set_cons_zero, List.set_cons_succ])
                          refine AnyK.take (i := 29) (v := undef) rfl (by kernel_rfl) (by kernel_rfl) (by kernel_rfl) (by kernel_rfl) (by kernel_rfl) (by kernel_rfl) (fun _ _ _ h => h) (Or.inr ⟨by kernel_rfl, rfl⟩) hS ?_
                          (try simp only [Act.put, List.setIfInBounds_toArray, List.set_cons_zero, List.set_cons_succ])
                          refine AnyK.take (i := 30) (v := .bool true) rfl (by kernel_rfl) (by kernel_rfl) (by kernel_rfl) (by kernel_rfl) (by kernel_rfl) (by kernel_rfl) (fun _ _ _ h => h) (Or.inl ⟨by kernel_rfl, fun w' _ => by kernel_rfl⟩) hS ?_
                          (try simp only [Act.put, List.setIfInBounds_toArray, List.set_cons_zero, List.set_cons_succ])
                          refine AnyK.take (i := 31) (v := .bool true) rfl (by kernel_rfl) (by kernel_rfl) (by kernel_rfl) (by kernel_rfl) (by kernel_rfl) (by kernel_rfl) (fun _ _ _ h => h) (Or.inl ⟨by kernel_rfl, fun w' _ => by kernel_rfl⟩) hS ?_
                          (try simp only [Act.put, List.setIfInBounds_toArray, List.set_cons_zero, List.set_cons_succ])
                          refine AnyK.done (by kernel_rfl) ?_ _
                          clear hS hSb
                          go_wp2_with fail
                          go_meet
                          exact ⟨by rw [hf1, hob]; simp, hb9'⟩
                        | true =>
                          subst hlt2
                          cases hzf : zF with
                          | true =>
                            subst hzf
                            have hS : (fun w' : World => w'.cell? ⟨gV, 0, none⟩ = some (.int .i64 frm) ∧ w'.cell? ⟨gV, 1, none⟩ = some (.int .i64 dst) ∧ w'.cell? ⟨gV, 2, none⟩ = some (.slice hA hn hcp) ∧ w'.cell? ⟨gV, 3, none⟩ = some (.slice nA nn nc) ∧ w'.cell? ⟨gV, 4, none⟩ = some (.slice eA en ec) ∧ w'.cell? ⟨gV, 5, none⟩ = some (.bool true) ∧ w'.cell? ⟨gV, 6, none⟩ = some (.bool keep) ∧ w'.cell? ⟨gR, 1, none⟩ = some (.slice (some ⟨gS, 0, none⟩) n capS) ∧ w'.cell? ⟨gR, 2, none⟩ = some (.slice (some ⟨gF, 0, none⟩) n capF) ∧ w'.cell? ⟨gS, k, none⟩ = some (.int .i64 zS) ∧ w'.cell? ⟨gF, k, none⟩ = some (.bool true)) wB.drew := ⟨hV.out.cell 0, hV.out.cell 1, hV.out.cell 2, hV.out.cell 3, hV.out.cell 4, hV.out.cell 5, hV.out.cell 6, hFB.out.bR.cell 1, hFB.out.bR.cell 2, hsc, hfc⟩
                            have hSb : Hid (∀ w', Below wB.heap.size wB w' → (fun w' : World => w'.cell? ⟨gV, 0, none⟩ = some (.int .i64 frm) ∧ w'.cell? ⟨gV, 1, none⟩ = some (.int .i64 dst) ∧ w'.cell? ⟨gV, 2, none⟩ = some (.slice hA hn hcp) ∧ w'.cell? ⟨gV, 3, none⟩ = some (.slice nA nn nc) ∧ w'.cell? ⟨gV, 4, none⟩ = some (.slice eA en ec) ∧ w'.cell? ⟨gV, 5, none⟩ = some (.bool true) ∧ w'.cell? ⟨gV, 6, none⟩ = some (.bool keep) ∧ w'.cell? ⟨gR, 1, none⟩ = some (.slice (some ⟨gS, 0, none⟩) n capS) ∧ w'.cell? ⟨gR, 2, none⟩ = some (.slice (some ⟨gF, 0, none⟩) n capF) ∧ w'.cell? ⟨gS, k, none⟩ = some (.int .i64 zS) ∧ w'.cell? ⟨gF, k, none⟩ = some (.bool true)) w') := fun w' hb => ⟨(hb.cell (p := ⟨gV, 0, none⟩) (hV.out.lt)).trans (hV.out.cell 0), (hb.cell (p := ⟨gV, 1, none⟩) (hV.out.lt)).trans (hV.out.cell 1), (hb.cell (p := ⟨gV, 2, none⟩) (hV.out.lt)).trans (hV.out.cell 2), (hb.cell (p := ⟨gV, 3, none⟩) (hV.out.lt)).trans (hV.out.cell 3), (hb.cell (p := ⟨gV, 4, none⟩) (hV.out.lt)).trans (hV.out.cell 4), (hb.cell (p := ⟨gV, 5, none⟩) (hV.out.lt)).trans (hV.out.cell 5), (hb.cell (p := ⟨gV, 6, none⟩) (hV.out.lt)).trans (hV.out.cell 6), (hb.cell (p := ⟨gR, 1, none⟩) (hFB.out.bR.lt)).trans (hFB.out.bR.cell 1), (hb.cell (p := ⟨gR, 2, none⟩) (hFB.out.bR.lt)).trans (hFB.out.bR.cell 2), (hb.cell (p := ⟨gS, k, none⟩) (hFB.out.rS.lt)).trans (hsc), (hb.cell (p := ⟨gF, k, none⟩) (hFB.out.rF.lt)).trans (hfc)⟩
                            refine wp_region_K (S := (fun w' : World => w'.cell? ⟨gV, 0, none⟩ = some (.int .i64 frm) ∧ w'.cell? ⟨gV, 1, none⟩ = some (.int .i64 dst) ∧ w'.cell? ⟨gV, 2, none⟩ = some (.slice hA hn hcp) ∧ w'.cell? ⟨gV, 3, none⟩ = some (.slice nA nn nc) ∧ w'.cell? ⟨gV, 4, none⟩ = some (.slice eA en ec) ∧ w'.cell? ⟨gV, 5, none⟩ = some (.bool true) ∧ w'.cell? ⟨gV, 6, none⟩ = some (.bool keep) ∧ w'.cell? ⟨gR, 1, none⟩ = some (.slice (some ⟨gS, 0, none⟩) n capS) ∧ w'.cell? ⟨gR, 2, none⟩ = some (.slice (some ⟨gF, 0, none⟩) n capF) ∧ w'.cell? ⟨gS, k, none⟩ = some (.int .i64 zS) ∧ w'.cell? ⟨gF, k, none⟩ = some (.bool true))) (K := []) (by kernel_rfl) ?_
                            simp only at hS
                            refine AnyK.take (i := 0) (v := .pointer (some ⟨gV, 0, none⟩)) rfl (by kernel_rfl) (by kernel_rfl) (by kernel_rfl) (by kernel_rfl) (by kernel_rfl) (by kernel_rfl) (fun _ _ _ h => h) (Or.inl ⟨by kernel_rfl, fun w' _ => by kernel_rfl⟩) hS ?_
                            (try simp only [Act.put, List.setIfInBounds_toArray, List.set_cons_zero, List.set_cons_succ])
                            refine AnyK.take (i := 1) (v := .int .i64 frm) rfl (by kernel_rfl) (by kernel_rfl) (by kernel_rfl) (by kernel_rfl) (by kernel_rfl) (by kernel_rfl) (fun _ _ _ h => h) (Or.inl ⟨by kernel_rfl, ?_⟩) hS ?_
                            · rintro w' ⟨z0, z1, z2, z3, z4, z5, z6, z7, z8, z9, z10⟩
                              go_simp
                            (try simp only [Act.put, List.setIfInBounds_toArray, List.set_cons_zero, List.set_cons_succ])
                            refine AnyK.take (i := 2) (v := .pointer (some ⟨gR, 0, none⟩)) rfl (by kernel_rfl) (by kernel_rfl) (by kernel_rfl) (by kernel_rfl) (by kernel_rfl) (by kernel_rfl) (fun _ _ _ h => h) (Or.inl ⟨by kernel_rfl, fun w' _ => by kernel_rfl⟩) hS ?_
                            (try simp only [Act.put, List.setIfInBounds_toArray, List.set_cons_zero, List.set_cons_succ])
                            refine AnyK.take (i := 3) (v := .pointer (some ⟨gR, 0, none⟩)) rfl (by kernel_rfl) (by kernel_rfl) (by kernel_rfl) (by kernel_rfl) (by kernel_rfl) (by kernel_rfl) (fun _ _ _ h => h) (Or.inl ⟨by kernel_rfl, fun w' _ => by kernel_rfl⟩) hS ?_
                            (try simp only [Act.put, List.setIfInBounds_toArray, List.set_cons_zero, List.set_cons_succ])
                            refine AnyK.take (i := 4) (v := .pointer (some ⟨gR, 1, none⟩)) rfl (by kernel_rfl) (by kernel_rfl) (by kernel_rfl) (by kernel_rfl) (by kernel_rfl) (by kernel_rfl) (fun _ _ _ h => h) (Or.inl ⟨by kernel_rfl, fun w' _ => by kernel_rfl⟩) hS ?_
                            (try simp only [Act.put, List.setIfInBounds_toArray, List.set_cons_zero, List.set_cons_succ])
                            refine AnyK.take (i := 5) (v := .pointer (some ⟨gR, 1, none⟩)) rfl (by kernel_rfl) (by kernel_rfl) (by kernel_rfl) (by kernel_rfl) (by kernel_rfl) (by kernel_rfl) (fun _ _ _ h => h) (Or.inl ⟨by kernel_rfl, fun w' _ => by kernel_rfl⟩) hS ?_
                            (try simp only [Act.put, List.setIfInBounds_toArray, List.set_cons_zero, List.set_cons_succ])
                            refine AnyK.take (i := 6) (v := .slice (some ⟨gS, 0, none⟩) n capS) rfl (by kernel_rfl) (by kernel_rfl) (by kernel_rfl) (by kernel_rfl) (by kernel_rfl) (by kernel_rfl) (fun _ _ _ h => h) (Or.inl ⟨by kernel_rfl, ?_⟩) hS ?_
                            · rintro w' ⟨z0, z1, z2, z3, z4, z5, z6, z7, z8, z9, z10⟩
                              go_simp
                            (try simp only [Act.put, List.setIfInBounds_toArray, List.set_cons_zero, List.set_cons_succ])
                            refine AnyK.take (i := 7) (v := .int .i64 (k : Int)) rfl (by kernel_rfl) (by kernel_rfl) (by kernel_rfl) (by kernel_rfl) (by kernel_rfl) (by kernel_rfl) (fun _ _ _ h => h) (Or.inl ⟨by kernel_rfl, fun w' _ => by kernel_rfl⟩) hS ?_
                            (try simp only [Act.put, List.setIfInBounds_toArray, List.set_cons_zero, List.set_cons_succ])
                            refine AnyK.take (i := 8) (v := .pointer (some ⟨gS, k, none⟩)) rfl (by kernel_rfl) (by kernel_rfl) (by kernel_rfl) (by kernel_rfl) (by kernel_rfl) (by kernel_rfl) (fun _ _ _ h => h) (Or.inl ⟨by kernel_rfl, ?_⟩) hS ?_
                            · rintro w' ⟨z0, z1, z2, z3, z4, z5, z6, z7, z8, z9, z10⟩
                              go_simp
                            (try simp only [Act.put, List.setIfInBounds_toArray, List.set_cons_zero, List.set_cons_succ])
                            refine AnyK.take (i := 9) (v := .int .i64 zS) rfl (by kernel_rfl) (by kernel_rfl) (by kernel_rfl) (by kernel_rfl) (by kernel_rfl) (by kernel_rfl) (fun _ _ _ h => h) (Or.inl ⟨by kernel_rfl, ?_⟩) hS ?_
                            · rintro w' ⟨z0, z1, z2, z3, z4, z5, z6, z7, z8, z9, z10⟩
                              go_simp
                            (try simp only [Act.put, List.setIfInBounds_toArray, List.set_cons_zero, List.set_cons_succ])
                            refine AnyK.take (i := 10) (v := .bool true) rfl (by kernel_rfl) (by kernel_rfl) (by kernel_rfl) (by kernel_rfl) (by kernel_rfl) (by kernel_rfl) (fun _ _ _ h => h) (Or.inl ⟨by kernel_rfl, ?_⟩) hS ?_
                            · rintro w' ⟨z0, z1, z2, z3, z4, z5, z6, z7, z8, z9, z10⟩
                              go_simp
                            (try simp only [Act.put, List.setIfInBounds_toArray, List.set_cons_zero, List.set_cons_succ])
                            refine AnyK.take (i := 11) (v := .bool true) rfl (by kernel_rfl) (by kernel_rfl) (by kernel_rfl) (by kernel_rfl) (by kernel_rfl) (by kernel_rfl) (fun _ _ _ h => h) (Or.inl ⟨by kernel_rfl, fun w' _ => by kernel_rfl⟩) hS ?_
                            (try simp only [Act.put, List.setIfInBounds_toArray, List.set_cons_zero, List.set_cons_succ])
                            refine AnyK.take (i := 12) (v := .agg #[.int .i64 frm, .int .i64 dst, .slice hA hn hcp, .slice nA nn nc, .slice eA en ec, .bool true, .bool keep]) rfl (by kernel_rfl) (by kernel_rfl) (by kernel_rfl) (by kernel_rfl) (by kernel_rfl) (by kernel_rfl) (fun _ _ _ h => h) (yieldsIf_load_mid (by kernel_rfl) 52 (.tmp 15) (by kernel_rfl) gV 0 (by kernel_rfl) [.int .i64 frm, .int .i64 dst, .slice hA hn hcp, .slice nA nn nc, .slice eA en ec, .bool true, .bool keep] _ (fun w' h => range7 h.1 h.2.1 h.2.2.1 h.2.2.2.1 h.2.2.2.2.1 h.2.2.2.2.2.1 h.2.2.2.2.2.2.1) Try.underlying52 rfl (by kernel_rfl)) hS ?_
                            (try simp only [Act.put, List.setIfInBounds_toArray, List.set_cons_zero, List.set_cons_succ])
                            refine AnyK.take (i := 13) (v := .slice tA (iN + on) tc) rfl (by kernel_rfl) (by kernel_rfl) (by kernel_rfl) (by kernel_rfl) (by kernel_rfl) (by kernel_rfl) (fun _ _ _ h => h) (Or.inl ⟨by kernel_rfl, fun w' _ => by kernel_rfl⟩) hS ?_
                            (try simp only [Act.put, List.setIfInBounds_toArray, List.set_cons_zero, List.set_cons_succ])
                            refine AnyK.one (i := 14) (by kernel_rfl) rfl (fun K' hK => ?_)
                            go_simp
                            refine (hqo.out wB.drew (Below.refl _ _).drew).mono ?_
                            rintro e w9 ⟨rfl, hb9⟩
                            have hb9' : Below wB.heap.size wB w9 := Below.callB (Below.refl _ _).drew hb9
                            replace hS := hSb.out w9 (hb9')
                            refine hK.out _ _ (fun _ => hS) ?_
                            clear hK
                            (try simp only [Act.put, List.setIfInBounds_toArray, List.set_cons_zero, List.set_cons_succ])
                            refine AnyK.take (i := 15) (v := .bool true) rfl (by kernel_rfl) (by kernel_rfl) (by kernel_rfl) (by kernel_rfl) (by kernel_rfl) (by kernel_rfl) (fun _ _ _ h => h) (Or.inl ⟨by kernel_rfl, fun w' _ => by kernel_rfl⟩) hS ?_
                            (try simp only [Act.put, List.setIfInBounds_toArray, List.set_cons_zero, List.set_cons_succ])
                            refine AnyK.take (i := 16) (v := .bool true) rfl (by kernel_rfl) (by kernel_rfl) (by kernel_rfl) (by kernel_rfl) (by kernel_rfl) (by kernel_rfl) (fun _ _ _ h => h) (Or.inl ⟨by kernel_rfl, fun w' _ => by kernel_rfl⟩) hS ?_
                            (try simp only [Act.put, List.setIfInBounds_toArray, List.set_cons_zero, List.set_cons_succ])
                            refine AnyK.take (i := 17) (v := .pointer (some ⟨gV, 5, none⟩)) rfl (by kernel_rfl) (by kernel_rfl) (by kernel_rfl) (by kernel_rfl) (by kernel_rfl) (by kernel_rfl) (fun _ _ _ h => h) (Or.inl ⟨by kernel_rfl, fun w' _ => by kernel_rfl⟩) hS ?_
                            (try simp only [Act.put, List.setIfInBounds_toArray, List.set_cons_zero, List.set_cons_succ])
                            refine AnyK.take (i := 18) (v := .bool true) rfl (by kernel_rfl) (by kernel_rfl) (by kernel_rfl) (by kernel_rfl) (by kernel_rfl) (by kernel_rfl) (fun _ _ _ h => h) (Or.inl ⟨by kernel_rfl, ?_⟩) hS ?_
                            · rintro w' ⟨z0, z1, z2, z3, z4, z5, z6, z7, z8, z9, z10⟩
                              go_simp
                            (try simp only [Act.put, List.setIfInBounds_toArray, List.set_cons_zero, List.set_cons_succ])
                            refine AnyK.take (i := 19) (v := .bool false) rfl (by kernel_rfl) (by kernel_rfl) (by kernel_rfl) (by kernel_rfl) (by kernel_rfl) (by kernel_rfl) (fun _ _ _ h => h) (Or.inl ⟨by kernel_rfl, fun w' _ => by kernel_rfl⟩) hS ?_
                            (try simp only [Act.put, List.setIfInBounds_toArray, List.set_cons_zero, List.set_cons_succ])
                            refine AnyK.take (i := 20) (v := .bool false) rfl (by kernel_rfl) (by kernel_rfl) (by kernel_rfl) (by kernel_rfl) (by kernel_rfl) (by kernel_rfl) (fun _ _ _ h => h) (Or.inl ⟨by kernel_rfl, fun w' _ => by kernel_rfl⟩) hS ?_
                            (try simp only [Act.put, List.setIfInBounds_toArray, List.set_cons_zero, List.set_cons_succ])
                            refine AnyK.take (i := 21) (v := .pointer (some ⟨gR, 0, none⟩)) rfl (by kernel_rfl) (by kernel_rfl) (by kernel_rfl) (by kernel_rfl) (by kernel_rfl) (by kernel_rfl) (fun _ _ _ h => h) (Or.inl ⟨by kernel_rfl, fun w' _ => by kernel_rfl⟩) hS ?_
                            (try simp only [Act.put, List.setIfInBounds_toArray, List.set_cons_zero, List.set_cons_succ])
                            refine AnyK.take (i := 22) (v := .pointer (some ⟨gR, 0, none⟩)) rfl (by kernel_rfl) (by kernel_rfl) (by kernel_rfl) (by kernel_rfl) (by kernel_rfl) (by kernel_rfl) (fun _ _ _ h => h) (Or.inl ⟨by kernel_rfl, fun w' _ => by kernel_rfl⟩) hS ?_
                            (try simp only [Act.put, List.setIfInBounds_toArray, List.set_cons_zero, List.set_cons_succ])
                            refine AnyK.take (i := 23) (v := .pointer (some ⟨gR, 1, none⟩)) rfl (by kernel_rfl) (by kernel_rfl) (by kernel_rfl) (by kernel_rfl) (by kernel_rfl) (by kernel_rfl) (fun _ _ _ h => h) (Or.inl ⟨by kernel_rfl, fun w' _ => by kernel_rfl⟩) hS ?_
                            (try simp only [Act.put, List.setIfInBounds_toArray, List.set_cons_zero, List.set_cons_succ])
                            refine AnyK.take (i := 24) (v := .pointer (some ⟨gR, 2, none⟩)) rfl (by kernel_rfl) (by kernel_rfl) (by kernel_rfl) (by kernel_rfl) (by kernel_rfl) (by kernel_rfl) (fun _ _ _ h => h) (Or.inl ⟨by kernel_rfl, fun w' _ => by kernel_rfl⟩) hS ?_
                            (try simp only [Act.put, List.setIfInBounds_toArray, List.set_cons_zero, List.set_cons_succ])
                            refine AnyK.take (i := 25) (v := .slice (some ⟨gF, 0, none⟩) n capF) rfl (by kernel_rfl) (by kernel_rfl) (by kernel_rfl) (by kernel_rfl) (by kernel_rfl) (by kernel_rfl) (fun _ _ _ h => h) (Or.inl ⟨by kernel_rfl, ?_⟩) hS ?_
                            · rintro w' ⟨z0, z1, z2, z3, z4, z5, z6, z7, z8, z9, z10⟩
                              go_simp
                            (try simp only [Act.put, List.setIfInBounds_toArray, List.set_cons_zero, List.set_cons_succ])
                            refine AnyK.take (i := 26) (v := .int .i64 (k : Int)) rfl (by kernel_rfl) (by kernel_rfl) (by kernel_rfl) (by kernel_rfl) (by kernel_rfl) (by kernel_rfl) (fun _ _ _ h => h) (Or.inl ⟨by kernel_rfl, fun w' _ => by kernel_rfl⟩) hS ?_
                            (try simp only [Act.put, List.setIfInBounds_toArray, List.set_cons_zero, List.set_cons_succ])
                            refine AnyK.take (i := 27) (v := .pointer (some ⟨gF, k, none⟩)) rfl (by kernel_rfl) (by kernel_rfl) (by kernel_rfl) (by kernel_rfl) (by kernel_rfl) (by kernel_rfl) (fun _ _ _ h => h) (Or.inl ⟨by kernel_rfl, ?_⟩) hS ?_
                            · rintro w' ⟨z0, z1, z2, z3, z4, z5, z6, z7, z8, z9, z10⟩
                              go_simp
                            (try simp only [Act.put, List.setIfInBounds_toArray, List.set_cons_zero, List.set_cons_succ])
                            refine AnyK.take (i := 28) (v := .bool true) rfl (by kernel_rfl) (by kernel_rfl) (by kernel_rfl) (by kernel_rfl) (by kernel_rfl) (by kernel_rfl) (fun _ _ _ h => h) (Or.inl ⟨by kernel_rfl, ?_⟩) hS ?_
                            · rintro w' ⟨z0, z1, z2, z3, z4, z5, z6, z7, z8, z9, z10⟩
                              go_simp
                            (try simp only [Act.put, List.setIfInBounds_toArray, List.set_cons_zero, List.set_cons_succ])
                            refine AnyK.take (i := 29) (v := .bool false) rfl (by kernel_rfl) (by kernel_rfl) (by kernel_rfl) (by kernel_rfl) (by kernel_rfl) (by kernel_rfl) (fun _ _ _ h => h) (Or.inl ⟨by kernel_rfl, fun w' _ => by kernel_rfl⟩) hS ?_
                            (try simp only [Act.put, List.setIfInBounds_toArray, List.set_cons_zero, List.set_cons_succ])
                            refine AnyK.take (i := 30) (v := .bool false) rfl (by kernel_rfl) (by kernel_rfl) (by kernel_rfl) (by kernel_rfl) (by kernel_rfl) (by kernel_rfl) (fun _ _ _ h => h) (Or.inl ⟨by kernel_rfl, fun w' _ => by kernel_rfl⟩) hS ?_
                            (try simp only [Act.put, List.setIfInBounds_toArray, List.set_cons_zero, List.set_cons_succ])
                            refine AnyK.take (i := 31) (v := .bool false) rfl (by kernel_rfl) (by kernel_rfl) (by kernel_rfl) (by kernel_rfl) (by kernel_rfl) (by kernel_rfl) (fun _ _ _ h => h) (Or.inl ⟨by kernel_rfl, fun w' _ => by kernel_rfl⟩) hS ?_
                            (try simp only [Act.put, List.setIfInBounds_toArray, List.set_cons_zero, List.set_cons_succ])
                            refine AnyK.done (by kernel_rfl) ?_ _
                            clear hS hSb
                            go_wp2_with fail
                            go_meet
                            exact ⟨by rw [hf1, hob]; simp, hb9'⟩
                          | false =>
                            subst hzf
                            have hS : (fun w' : World => w'.cell? ⟨gV, 0, none⟩ = some (.int .i64 frm) ∧ w'.cell? ⟨gV, 1, none⟩ = some (.int .i64 dst) ∧ w'.cell? ⟨gV, 2, none⟩ = some (.slice hA hn hcp) ∧ w'.cell? ⟨gV, 3, none⟩ = some (.slice nA nn nc) ∧ w'.cell? ⟨gV, 4, none⟩ = some (.slice eA en ec) ∧ w'.cell? ⟨gV, 5, none⟩ = some (.bool true) ∧ w'.cell? ⟨gV, 6, none⟩ = some (.bool keep) ∧ w'.cell? ⟨gR, 1, none⟩ = some (.slice (some ⟨gS, 0, none⟩) n capS) ∧ w'.cell? ⟨gR, 2, none⟩ = some (.slice (some ⟨gF, 0, none⟩) n capF) ∧ w'.cell? ⟨gS, k, none⟩ = some (.int .i64 zS) ∧ w'.cell? ⟨gF, k, none⟩ = some (.bool false)) wB.drew := ⟨hV.out.cell 0, hV.out.cell 1, hV.out.cell 2, hV.out.cell 3, hV.out.cell 4, hV.out.cell 5, hV.out.cell 6, hFB.out.bR.cell 1, hFB.out.bR.cell 2, hsc, hfc⟩
                            have hSb : Hid (∀ w', Below wB.heap.size wB w' → (fun w' : World => w'.cell? ⟨gV, 0, none⟩ = some (.int .i64 frm) ∧ w'.cell? ⟨gV, 1, none⟩ = some (.int .i64 dst) ∧ w'.cell? ⟨gV, 2, none⟩ = some (.slice hA hn hcp) ∧ w'.cell? ⟨gV, 3, none⟩ = some (.slice nA nn nc) ∧ w'.cell? ⟨gV, 4, none⟩ = some (.slice eA en ec) ∧ w'.cell? ⟨gV, 5, none⟩ = some (.bool true) ∧ w'.cell? ⟨gV, 6, none⟩ = some (.bool keep) ∧ w'.cell? ⟨gR, 1, none⟩ = some (.slice (some ⟨gS, 0, none⟩) n capS) ∧ w'.cell? ⟨gR, 2, none⟩ = some (.slice (some ⟨gF, 0, none⟩) n capF) ∧ w'.cell? ⟨gS, k, none⟩ = some (.int .i64 zS) ∧ w'.cell? ⟨gF, k, none⟩ = some (.bool false)) w') := fun w' hb => ⟨(hb.cell (p := ⟨gV, 0, none⟩) (hV.out.lt)).trans (hV.out.cell 0), (hb.cell (p := ⟨gV, 1, none⟩) (hV.out.lt)).trans (hV.out.cell 1), (hb.cell (p := ⟨gV, 2, none⟩) (hV.out.lt)).trans (hV.out.cell 2), (hb.cell (p := ⟨gV, 3, none⟩) (hV.out.lt)).trans (hV.out.cell 3), (hb.cell (p := ⟨gV, 4, none⟩) (hV.out.lt)).trans (hV.out.cell 4), (hb.cell (p := ⟨gV, 5, none⟩) (hV.out.lt)).trans (hV.out.cell 5), (hb.cell (p := ⟨gV, 6, none⟩) (hV.out.lt)).trans (hV.out.cell 6), (hb.cell (p := ⟨gR, 1, none⟩) (hFB.out.bR.lt)).trans (hFB.out.bR.cell 1), (hb.cell (p := ⟨gR, 2, none⟩) (hFB.out.bR.lt)).trans (hFB.out.bR.cell 2), (hb.cell (p := ⟨gS, k, none⟩) (hFB.out.rS.lt)).trans (hsc), (hb.cell (p := ⟨gF, k, none⟩) (hFB.out.rF.lt)).trans (hfc)⟩
                            refine wp_region_K (S := (fun w' : World => w'.cell? ⟨gV, 0, none⟩ = some (.int .i64 frm) ∧ w'.cell? ⟨gV, 1, none⟩ = some (.int .i64 dst) ∧ w'.cell? ⟨gV, 2, none⟩ = some (.slice hA hn hcp) ∧ w'.cell? ⟨gV, 3, none⟩ = some (.slice nA nn nc) ∧ w'.cell? ⟨gV, 4, none⟩ = some (.slice eA en ec) ∧ w'.cell? ⟨gV, 5, none⟩ = some (.bool true) ∧ w'.cell? ⟨gV, 6, none⟩ = some (.bool keep) ∧ w'.cell? ⟨gR, 1, none⟩ = some (.slice (some ⟨gS, 0, none⟩) n capS) ∧ w'.cell? ⟨gR, 2, none⟩ = some (.slice (some ⟨gF, 0, none⟩) n capF) ∧ w'.cell? ⟨gS, k, none⟩ = some (.int .i64 zS) ∧ w'.cell? ⟨gF, k, none⟩ = some (.bool false))) (K := []) (by kernel_rfl) ?_
                            simp only at hS
                            refine AnyK.take (i := 0) (v := .pointer (some ⟨gV, 0, none⟩)) rfl (by kernel_rfl) (by kernel_rfl) (by kernel_rfl) (by kernel_rfl) (by kernel_rfl) (by kernel_rfl) (fun _ _ _ h => h) (Or.inl ⟨by kernel_rfl, fun w' _ => by kernel_rfl⟩) hS ?_
                            (try simp only [Act.put, List.setIfInBounds_toArray, List.set_cons_zero, List.set_cons_succ])
                            refine AnyK.take (i := 1) (v := .int .i64 frm) rfl (by kernel_rfl) (by kernel_rfl) (by kernel_rfl) (by kernel_rfl) (by kernel_rfl) (by kernel_rfl) (fun _ _ _ h => h) (Or.inl ⟨by kernel_rfl, ?_⟩) hS ?_
                            · rintro w' ⟨z0, z1, z2, z3, z4, z5, z6, z7, z8, z9, z10⟩
                              go_simp
                            (try simp only [Act.put, List.setIfInBounds_toArray, List.set_cons_zero, List.set_cons_succ])
                            refine AnyK.take (i := 2) (v := .pointer (some ⟨gR, 0, none⟩)) rfl (by kernel_rfl) (by kernel_rfl) (by kernel_rfl) (by kernel_rfl) (by kernel_rfl) (by kernel_rfl) (fun _ _ _ h => h) (Or.inl ⟨by kernel_rfl, fun w' _ => by kernel_rfl⟩) hS ?_
                            (try simp only [Act.put, List.setIfInBounds_toArray, List.set_cons_zero, List.set_cons_succ])
                            refine AnyK.take (i := 3) (v := .pointer (some ⟨gR, 0, none⟩)) rfl (by kernel_rfl) (by kernel_rfl) (by kernel_rfl) (by kernel_rfl) (by kernel_rfl) (by kernel_rfl) (fun _ _ _ h => h) (Or.inl ⟨by kernel_rfl, fun w' _ => by kernel_rfl⟩) hS ?_
                            (try simp only [Act.put, List.setIfInBounds_toArray, List.set_cons_zero, List.set_cons_succ])
                            refine AnyK.take (i := 4) (v := .pointer (some ⟨gR, 1, none⟩)) rfl (by kernel_rfl) (by kernel_rfl) (by kernel_rfl) (by kernel_rfl) (by kernel_rfl) (by kernel_rfl) (fun _ _ _ h => h) (Or.inl ⟨by kernel_rfl, fun w' _ => by kernel_rfl⟩) hS ?_
                            (try simp only [Act.put, List.setIfInBounds_toArray, List.set_cons_zero, List.set_cons_succ])
                            refine AnyK.take (i := 5) (v := .pointer (some ⟨gR, 1, none⟩)) rfl (by kernel_rfl) (by kernel_rfl) (by kernel_rfl) (by kernel_rfl) (by kernel_rfl) (by kernel_rfl) (fun _ _ _ h => h) (Or.inl ⟨by kernel_rfl, fun w' _ => by kernel_rfl⟩) hS ?_
                            (try simp only [Act.put, List.setIfInBounds_toArray, List.set_cons_zero, List.set_cons_succ])
                            refine AnyK.take (i := 6) (v := .slice (some ⟨gS, 0, none⟩) n capS) rfl (by kernel_rfl) (by kernel_rfl) (by kernel_rfl) (by kernel_rfl) (by kernel_rfl) (by kernel_rfl) (fun _ _ _ h => h) (Or.inl ⟨by kernel_rfl, ?_⟩) hS ?_
                            · rintro w' ⟨z0, z1, z2, z3, z4, z5, z6, z7, z8, z9, z10⟩
                              go_simp
                            (try simp only [Act.put, List.setIfInBounds_toArray, List.set_cons_zero, List.set_cons_succ])
                            refine AnyK.take (i := 7) (v := .int .i64 (k : Int)) rfl (by kernel_rfl) (by kernel_rfl) (by kernel_rfl) (by kernel_rfl) (by kernel_rfl) (by kernel_rfl) (fun _ _ _ h => h) (Or.inl ⟨by kernel_rfl, fun w' _ => by kernel_rfl⟩) hS ?_
                            (try simp only [Act.put, List.setIfInBounds_toArray, List.set_cons_zero, List.set_cons_succ])
                            refine AnyK.take (i := 8) (v := .pointer (some ⟨gS, k, none⟩)) rfl (by kernel_rfl) (by kernel_rfl) (by kernel_rfl) (by kernel_rfl) (by kernel_rfl) (by kernel_rfl) (fun _ _ _ h => h) (Or.inl ⟨by kernel_rfl, ?_⟩) hS ?_
                            · rintro w' ⟨z0, z1, z2, z3, z4, z5, z6, z7, z8, z9, z10⟩
                              go_simp
                            (try simp only [Act.put, List.setIfInBounds_toArray, List.set_cons_zero, List.set_cons_succ])
                            refine AnyK.take (i := 9) (v := .int .i64 zS) rfl (by kernel_rfl) (by kernel_rfl) (by kernel_rfl) (by kernel_rfl) (by kernel_rfl) (by kernel_rfl) (fun _ _ _ h => h) (Or.inl ⟨by kernel_rfl, ?_⟩) hS ?_
                            · rintro w' ⟨z0, z1, z2, z3, z4, z5, z6, z7, z8, z9, z10⟩
                              go_simp
                            (try simp only [Act.put, List.setIfInBounds_toArray, List.set_cons_zero, List.set_cons_succ])
                            refine AnyK.take (i := 10) (v := .bool true) rfl (by kernel_rfl) (by kernel_rfl) (by kernel_rfl) (by kernel_rfl) (by kernel_rfl) (by kernel_rfl) (fun _ _ _ h => h) (Or.inl ⟨by kernel_rfl, ?_⟩) hS ?_
                            · rintro w' ⟨z0, z1, z2, z3, z4, z5, z6, z7, z8, z9, z10⟩
                              go_simp
                            (try simp only [Act.put, List.setIfInBounds_toArray, List.set_cons_zero, List.set_cons_succ])
                            refine AnyK.take (i := 11) (v := .bool true) rfl (by kernel_rfl) (by kernel_rfl) (by kernel_rfl) (by kernel_rfl) (by kernel_rfl) (by kernel_rfl) (fun _ _ _ h => h) (Or.inl ⟨by kernel_rfl, fun w' _ => by kernel_rfl⟩) hS ?_
                            (try simp only [Act.put, List.setIfInBounds_toArray, List.set_cons_zero, List.set_cons_succ])
                            refine AnyK.take (i := 12) (v := .agg #[.int .i64 frm, .int .i64 dst, .slice hA hn hcp, .slice nA nn nc, .slice eA en ec, .bool true, .bool keep]) rfl (by kernel_rfl) (by kernel_rfl) (by kernel_rfl) (by kernel_rfl) (by kernel_rfl) (by kernel_rfl) (fun _ _ _ h => h) (yieldsIf_load_mid (by kernel_rfl) 52 (.tmp 15) (by kernel_rfl) gV 0 (by kernel_rfl) [.int .i64 frm, .int .i64 dst, .slice hA hn hcp, .slice nA nn nc, .slice eA en ec, .bool true, .bool keep] _ (fun w' h => range7 h.1 h.2.1 h.2.2.1 h.2.2.2.1 h.2.2.2.2.1 h.2.2.2.2.2.1 h.2.2.2.2.2.2.1) Try.underlying52 rfl (by kernel_rfl)) hS ?_
                            (try simp only [Act.put, List.setIfInBounds_toArray, List.set_cons_zero, List.set_cons_succ])
                            refine AnyK.take (i := 13) (v := .slice tA (iN + on) tc) rfl (by kernel_rfl) (by kernel_rfl) (by kernel_rfl) (by kernel_rfl) (by kernel_rfl) (by kernel_rfl) (fun _ _ _ h => h) (Or.inl ⟨by kernel_rfl, fun w' _ => by kernel_rfl⟩) hS ?_
                            (try simp only [Act.put, List.setIfInBounds_toArray, List.set_cons_zero, List.set_cons_succ])
                            refine AnyK.one (i := 14) (by kernel_rfl) rfl (fun K' hK => ?_)
                            go_simp
                            refine (hqo.out wB.drew (Below.refl _ _).drew).mono ?_
                            rintro e w9 ⟨rfl, hb9⟩
                            have hb9' : Below wB.heap.size wB w9 := Below.callB (Below.refl _ _).drew hb9
                            replace hS := hSb.out w9 (hb9')
                            refine hK.out _ _ (fun _ => hS) ?_
                            clear hK
                            (try simp only [Act.put, List.setIfInBounds_toArray, List.set_cons_zero, List.set_cons_succ])
                            refine AnyK.take (i := 15) (v := .bool true) rfl (by kernel_rfl) (by kernel_rfl) (by kernel_rfl) (by kernel_rfl) (by kernel_rfl) (by kernel_rfl) (fun _ _ _ h => h) (Or.inl ⟨by kernel_rfl, fun w' _ => by kernel_rfl⟩) hS ?_
                            (try simp only [Act.put, List.setIfInBounds_toArray, List.set_cons_zero, List.set_cons_succ])
                            refine AnyK.take (i := 16) (v := .bool true) rfl (by kernel_rfl) (by kernel_rfl) (by kernel_rfl) (by kernel_rfl) (by kernel_rfl) (by kernel_rfl) (fun _ _ _ h => h) (Or.inl ⟨by kernel_rfl, fun w' _ => by kernel_rfl⟩) hS ?_
                            (try simp only [Act.put, List.setIfInBounds_toArray, List.set_cons_zero, List.set_cons_succ])
                            refine AnyK.take (i := 17) (v := .pointer (some ⟨gV, 5, none⟩)) rfl (by kernel_rfl) (by kernel_rfl) (by kernel_rfl) (by kernel_rfl) (by kernel_rfl) (by kernel_rfl) (fun _ _ _ h => h) (Or.inl ⟨by kernel_rfl, fun w' _ => by kernel_rfl⟩) hS ?_
                            (try simp only [Act.put, List.setIfInBounds_toArray, List.set_cons_zero, List.set_cons_succ])
                            refine AnyK.take (i := 18) (v := .bool true) rfl (by kernel_rfl) (by kernel_rfl) (by kernel_rfl) (by kernel_rfl) (by kernel_rfl) (by kernel_rfl) (fun _ _ _ h => h) (Or.inl ⟨by kernel_rfl, ?_⟩) hS ?_
                            · rintro w' ⟨z0, z1, z2, z3, z4, z5, z6, z7, z8, z9, z10⟩
                              go_simp
                            (try simp only [Act.put, List.setIfInBounds_toArray, List.set_cons_zero, List.set_cons_succ])
                            refine AnyK.take (i := 19) (v := .bool false) rfl (by kernel_rfl) (by kernel_rfl) (by kernel_rfl) (by kernel_rfl) (by kernel_rfl) (by kernel_rfl) (fun _ _ _ h => h) (Or.inl ⟨by kernel_rfl, fun w' _ => by kernel_rfl⟩) hS ?_
                            (try simp only [Act.put, List.setIfInBounds_toArray, List.set_cons_zero, List.set_cons_succ])
                            refine AnyK.take (i := 20) (v := .bool false) rfl (by kernel_rfl) (by kernel_rfl) (by kernel_rfl) (by kernel_rfl) (by kernel_rfl) (by kernel_rfl) (fun _ _ _ h => h) (Or.inl ⟨by kernel_rfl, fun w' _ => by kernel_rfl⟩) hS ?_
                            (try simp only [Act.put, List.setIfInBounds_toArray, List.set_cons_zero, List.set_cons_succ])
                            refine AnyK.take (i := 21) (v := .pointer (some ⟨gR, 0, none⟩)) rfl (by kernel_rfl) (by kernel_rfl) (by kernel_rfl) (by kernel_rfl) (by kernel_rfl) (by kernel_rfl) (fun _ _ _ h => h) (Or.inl ⟨by kernel_rfl, fun w' _ => by kernel_rfl⟩) hS ?_
                            (try simp only [Act.put, List.setIfInBounds_toArray, List.set_cons_zero, List.set_cons_succ])
                            refine AnyK.take (i := 22) (v := .pointer (some ⟨gR, 0, none⟩)) rfl (by kernel_rfl) (by kernel_rfl) (by kernel_rfl) (by kernel_rfl) (by kernel_rfl) (by kernel_rfl) (fun _ _ _ h => h) (Or.inl ⟨by kernel_rfl, fun w' _ => by kernel_rfl⟩) hS ?_
                            (try simp only [Act.put, List.setIfInBounds_toArray, List.set_cons_zero, List.set_cons_succ])
                            refine AnyK.take (i := 23) (v := .pointer (some ⟨gR, 1, none⟩)) rfl (by kernel_rfl) (by kernel_rfl) (by kernel_rfl) (by kernel_rfl) (by kernel_rfl) (by kernel_rfl) (fun _ _ _ h => h) (Or.inl ⟨by kernel_rfl, fun w' _ => by kernel_rfl⟩) hS ?_
                            (try simp only [Act.put, List.setIfInBounds_toArray, List.set_cons_zero, List.set_cons_succ])
                            refine AnyK.take (i := 24) (v := .pointer (some ⟨gR, 2, none⟩)) rfl (by kernel_rfl) (by kernel_rfl) (by kernel_rfl) (by kernel_rfl) (by kernel_rfl) (by kernel_rfl) (fun _ _ _ h => h) (Or.inl ⟨by kernel_rfl, fun w' _ => by kernel_rfl⟩) hS ?_
                            (try simp only [Act.put, List.setIfInBounds_toArray, List.set_cons_zero, List.set_cons_succ])
                            refine AnyK.take (i := 25) (v := .slice (some ⟨gF, 0, none⟩) n capF) rfl (by kernel_rfl) (by kernel_rfl) (by kernel_rfl) (by kernel_rfl) (by kernel_rfl) (by kernel_rfl) (fun _ _ _ h => h) (Or.inl ⟨by kernel_rfl, ?_⟩) hS ?_
                            · rintro w' ⟨z0, z1, z2, z3, z4, z5, z6, z7, z8, z9, z10⟩
                              go_simp
                            (try simp only [Act.put, List.setIfInBounds_toArray, List.set_cons_zero, List.set_cons_succ])
                            refine AnyK.take (i := 26) (v := .int .i64 (k : Int)) rfl (by kernel_rfl) (by kernel_rfl) (by kernel_rfl) (by kernel_rfl) (by kernel_rfl) (by kernel_rfl) (fun _ _ _ h => h) (Or.inl ⟨by kernel_rfl, fun w' _ => by kernel_rfl⟩) hS ?_
                            (try simp only [Act.put, List.setIfInBounds_toArray, List.set_cons_zero, List.set_cons_succ])
                            refine AnyK.take (i := 27) (v := .pointer (some ⟨gF, k, none⟩)) rfl (by kernel_rfl) (by kernel_rfl) (by kernel_rfl) (by kernel_rfl) (by kernel_rfl) (by kernel_rfl) (fun _ _ _ h => h) (Or.inl ⟨by kernel_rfl, ?_⟩) hS ?_
                            · rintro w' ⟨z0, z1, z2, z3, z4, z5, z6, z7, z8, z9, z10⟩
                              go_simp
                            (try simp only [Act.put, List.setIfInBounds_toArray, List.set_cons_zero, List.set_cons_succ])
                            refine AnyK.take (i := 28) (v := .bool false) rfl (by kernel_rfl) (by kernel_rfl) (by kernel_rfl) (by kernel_rfl) (by kernel_rfl) (by kernel_rfl) (fun _ _ _ h => h) (Or.inl ⟨by kernel_rfl, ?_⟩) hS ?_
                            · rintro w' ⟨z0, z1, z2, z3, z4, z5, z6, z7, z8, z9, z10⟩
                              go_simp
                            (try simp only [Act.put, List.setIfInBounds_toArray, List.set_cons_zero, List.set_cons_succ])
                            refine AnyK.take (i := 29) (v := .bool true) rfl (by kernel_rfl) (by kernel_rfl) (by kernel_rfl) (by kernel_rfl) (by kernel_rfl) (by kernel_rfl) (fun _ _ _ h => h) (Or.inl ⟨by kernel_rfl, fun w' _ => by kernel_rfl⟩) hS ?_
                            (try simp only [Act.put, List.setIfInBounds_toArray, List.set_cons_zero, List.set_cons_succ])
                            refine AnyK.take (i := 30) (v := .bool true) rfl (by kernel_rfl) (by kernel_rfl) (by kernel_rfl) (by kernel_rfl) (by kernel_rfl) (by kernel_rfl) (fun _ _ _ h => h) (Or.inl ⟨by kernel_rfl, fun w' _ => by kernel_rfl⟩) hS ?_
                            (try simp only [Act.put, List.setIfInBounds_toArray, List.set_cons_zero, List.set_cons_succ])
                            refine AnyK.take (i := 31) (v := .bool true) rfl (by kernel_rfl) (by kernel_rfl) (by kernel_rfl) (by kernel_rfl) (by kernel_rfl) (by kernel_rfl) (fun _ _ _ h => h) (Or.inl ⟨by kernel_rfl, fun w' _ => by kernel_rfl⟩) hS ?_
                            (try simp only [Act.put, List.setIfInBounds_toArray, List.set_cons_zero, List.set_cons_succ])
                            refine AnyK.done (by kernel_rfl) ?_ _
                            clear hS hSb
                            go_wp2_with fail
                            go_meet
                            exact ⟨by rw [hf1, hob]; simp, hb9'⟩
                  case rest =>
                    obtain ⟨rfl, hb11⟩ := hcut
                    rw [← hop.out]
                    clear hqo hsc hfc hFB hop
                    have hb12 := Below.callB hbB hb11
                    cases hopn : openM zS zF th ⟨frm, dst, ⟨hA, hn, hcp, hwl⟩, ⟨nA, nn, nc, nl⟩, ⟨eA, en, ec, el⟩, late, keep⟩ with
                    | false =>
                      clear hMB hV hvoB hbB hb11
                      go_wp2_with fail
                      go_roundw
                      case rel => exact ⟨rfl, RA.next hb12 hltj (by go_num) hQ.out (fun v' hv' => by rw [hvv.out] at hv'; cases hv'; exact hopn)⟩
                      case measure => simp [intOf]; omega
                    | true =>
                      have hkj : l[k]? = some ⟨om, os, ⟨sA, sn, sc, sl⟩, fst, ⟨some ⟨gv, ov, none⟩, mn, mc, ml⟩⟩ := hm.out
                      have hst : Hid (rstep l (fnI gl) (fnB fl) th k r = ⟨ent l keep l.length k (r.x.mv k dst), r.D ++ [(k, j)], r.O ++ el⟩) := by
                        show _ = _
                        exact rstep_some hkj hrc.out (findIdx_some (p := openM (fnI gl k) (fnB fl k) th) hvv.out (by rw [← hzS.out, ← hzF.out]; exact hopn) (by rw [← hzS.out, ← hzF.out]; exact hQ.out)) hvv.out
                      have hen64 : en ≤ 64 := hem64.out k j _ _ hkj hvv.out
                      have hel : el.length = en := hvoB.2.2.2.2.1
                      have hM12 := Lib.hid (hMB.out.call hb11)
                      have hBm12 := Lib.hid ((hBm9.out.call hbB).call hb11)
                      have hmv12 := Lib.hid (hmv9.out.below hb12 (Nat.le_refl _))
                      have hBgB' : B ≤ gB := hBgB
                      obtain ⟨w12, hw12⟩ : ∃ w12, w12 = wc := ⟨_, rfl⟩
                      subst hw12
                      have hD6 := hbk.out.d
                      have hO6 := hbk.out.o
                      have hsz12 := hM12.out.sz
                      clear hMB hV hvoB hbB hb11 hb12 hb10 hBm10 hopn hQ hgv
                      go_upto_region 20 with (at_builtin; refine app_D rfl _ _ rfl B r.D.length u10 r.D rfl (OR.more hM12.out.dn _) (by omega) (by simp; omega) ⟨w12.heap.size, 0, none⟩ 1 (k, j) rfl (cell_two_new _ _ _ _) ?_; intro gD capD w15 hown15 hgr15 hat15)
                      have hba2 := (Below.refl w12.heap.size w12).alloc (Nat.le_refl _) (.cells #[.int .i64 (k : Int), .int .i64 (j : Int)] 42)
                      have hVa := hBm12.out.call hba2
                      have hRa := OR.more hM12.out.dn (.cells #[.int .i64 (k : Int), .int .i64 (j : Int)] 42)
                      have hBm15 := Lib.hid (Blk.grown hVa hgr15 (Blk.apart hVa hRa (by decide)))
                      have hM15 := Lib.hid (QM.app_dn (p := (k, j)) hp.out (hM12.out.call hba2) hown15 hgr15)
                      clear hown15 hgr15 hat15 hVa hRa hba2 hmv12 hBm12 hM12
                      have hmvW : Hid (∀ W, Below w.heap.size w W → W.cell? ⟨gv, ov + j * 7 + 1, none⟩ = some (.int .i64 dst) ∧ W.cell? ⟨gv, ov + j * 7 + 4, none⟩ = some (.slice eA en ec) ∧ W.cell? ⟨gv, ov + j * 7 + 6, none⟩ = some (.bool keep) ∧ gv < W.heap.size) := fun W hb => by
                        have hmlo := ((hc.out.below hb (Nat.le_refl _)).2.2.2.1 _ (List.mem_of_getElem? hm.out)).2.2.2.2
                        obtain ⟨g', o', v', e1, hg', e2, hvo', f0, f1, f2, f3, f4, f5, f6⟩ := hmlo.cell hltj
                        cases e1
                        have e3 : some v' = some _ := e2.symm.trans hvv.out
                        cases e3
                        exact ⟨f1, f4, f6, hg'⟩
                      have hemw : Hid (SL.ok w ⟨eA, en, ec, el⟩) := ((hc.out.2.2.2.1 _ (List.mem_of_getElem? hm.out)).2.2.2.2.2.2.2.1 _ (List.mem_of_getElem? hvv.out)).2.2.2.2
                      have hd4 := (hmvW.out w15 hM15.out.own.1).2.1
                      have m4 := hBm15.out.cell 4
                      simp only [List.getElem?_toArray, List.getElem?_cons_zero, List.getElem?_cons_succ] at m4
                      have hen17 : en ≤ 17592186044416 := by omega
                      have hstart : Hid (RLe z w [(24, #[.slice (some ⟨gm, om_, none⟩) n cc]), (29, #[.slice gA n gc, .slice fA n fc, .slice oA on oc]), (29, #[.slice none 0 0, .slice none 0 0, .slice none 0 0])] tS B y (r.D ++ [(k, j)]) r.O el (.slice (some ⟨gD, 0, none⟩) (r.D.length + 1) capD) gB #[.int .i64 om, .int .i64 os, .slice sA sn sc, .int .i64 fst, .slice (some ⟨gv, ov, none⟩) mn mc] en (.int .i64 0) w15) := ⟨0, out, Nat.zero_le _, rfl, by rw [List.take_zero, List.append_nil]; exact hM15.out, hBm15.out⟩
                      have hgRB : gB ≠ gR := by
                        have h := hp.out.lt.1
                        rw [show z.gR = gR by rw [hz.out]] at h
                        omega
                      clear hM15 hBm15
                      go_wp2_with fail
                      clear m4 hd4
                      go_loopw [142] (fun v142 wr => RLe z w [(24, #[.slice (some ⟨gm, om_, none⟩) n cc]), (29, #[.slice gA n gc, .slice fA n fc, .slice oA on oc]), (29, #[.slice none 0 0, .slice none 0 0, .slice none 0 0])] tS B y (r.D ++ [(k, j)]) r.O el (.slice (some ⟨gD, 0, none⟩) (r.D.length + 1) capD) gB #[.int .i64 om, .int .i64 os, .slice sA sn sc, .int .i64 fst, .slice (some ⟨gv, ov, none⟩) mn mc] en v142 wr) (fun i _ => en - (intOf i).toNat)
                      case atStart => exact hstart.out
                      case round =>
                        clear hstart
                        obtain ⟨q, out', hq, rfl, hM16, hBm16⟩ := hrel
                        by_cases hlq : q < en
                        · obtain ⟨ge, oe, s, heA, hge, hs, hss, e0⟩ := (hemw.out.below hM16.own.1 (Nat.le_refl _)).cell (j := q) hlq
                          simp only at heA hs e0
                          subst heA
                          have hF16 := hM16.facts hz.out
                          obtain ⟨-, -, -, r3, -⟩ := blk5 hF16.bR
                          have hon : out'.n ≤ 1000 := by
                            have h1 := hM16.ok.1
                            rw [hM16.el] at h1
                            have h2 := outS_le (r.O ++ el.take q)
                            rw [List.length_append, List.length_take] at h2
                            omega
                          have hput := r_put out' s wr hM16.ok hss hon
                          have htake : el.take (q + 1) = el.take q ++ [s] := by
                            rw [List.take_succ_eq_append_getElem (by omega)]
                            congr 2
                            have h1 := List.getElem?_eq_getElem (l := el) (i := q) (by omega)
                            rw [hs] at h1
                            exact (Option.some.inj h1).symm
                          replace hM16 := Lib.hid hM16
                          replace hBm16 := Lib.hid hBm16
                          replace hs := Lib.hid hs
                          replace htake := Lib.hid htake
                          obtain ⟨oA', on', oc', ol'⟩ := out'
                          simp only at r3 hput hon
                          clear hF16
                          go_wp2_with (go_at_call 56; refine hput.mono ?_; rintro e w17 ⟨⟨tA', tn', tc', tl'⟩, rfl, htok, htl, hb17, htr⟩
                                       obtain ⟨-, -, -, r3, -⟩ := blk5 ((hM16.out.call hb17).facts hz.out).bR
                                       have y3 := ((hM16.out.call hb17).facts hz.out).bR.frozen 3)
                          have hMP := hM16.out.put hp.out (s := s) htok htl hb17 htr
                          rw [show z.gR = gR by rw [hz.out], List.append_assoc, ← htake.out] at hMP
                          have hBP := (hBm16.out.call hb17).far (p := ⟨gR, 3, none⟩) hgRB (.slice tA' tn' tc')
                          replace hMP := Lib.hid hMP
                          replace hBP := Lib.hid hBP
                          clear htok htl hb17 htr r3 y3 hput
                          go_roundw
                          case rel => exact ⟨q + 1, _, hlq, by go_num, hMP.out, hBP.out⟩
                          case measure => simp [intOf]; omega
                        · obtain rfl : q = en := by omega
                          have hM17 : QM z w [(24, #[.slice (some ⟨gm, om_, none⟩) n cc]), (29, #[.slice gA n gc, .slice fA n fc, .slice oA on oc]), (29, #[.slice none 0 0, .slice none 0 0, .slice none 0 0])] tS B y (r.D ++ [(k, j)]) (r.O ++ el) (.slice (some ⟨gD, 0, none⟩) (r.D.length + 1) capD) out' wr := by
                            rw [List.take_of_length_le (by omega)] at hM16
                            exact hM16
                          have hen : Hid (∀ W, QS z y (.slice out'.A out'.n out'.c) W → Calls Try.prog 57 #[.pointer (some ⟨gR, 0, none⟩), .int .i64 (k : Int), .int .i64 dst, .bool keep] W fun e w' => e = .returned (.tuple #[]) ∧ QS z (ent l keep l.length k (y.put k dst)) (.slice out'.A out'.n out'.c) w' ∧ Fr z.xs W w') := fun W hW => by
                            have h := r_enter z hp.out.fine keep (.slice out'.A out'.n out'.c) l.length k dst y W (by rw [hz.out]; exact hlt) (by rw [hz.out]; show n ≤ k + l.length; omega) hW
                            rw [hz.out] at h ⊢
                            exact h
                          obtain ⟨hd1, -, hd6, hgvl⟩ := hmvW.out wr hM17.own.1
                          have hQd : Hid (QS z y (.slice out'.A out'.n out'.c) wr.drew) := hM17.qs.drew
                          have hnB : gB ∉ z.xs := fun hm => by
                            obtain ⟨l1, l2, l3, l4⟩ := hp.out.lt
                            unfold QP.xs at hm
                            simp only [List.mem_cons, List.not_mem_nil, or_false] at hm
                            omega
                          have hnv : gv ∉ z.xs := fun hm => by
                            have hgv0 := (hmvW.out w (Below.refl _ _)).2.2.2
                            obtain ⟨l1, l2, l3, l4⟩ := hp.out.xs
                            simp only [List.length_cons, List.length_nil] at l1 l2 l3 l4
                            unfold QP.xs at hm
                            simp only [List.mem_cons, List.not_mem_nil, or_false] at hm
                            omega
                          obtain ⟨wQ, hwQ⟩ : ∃ wQ, wQ = wr := ⟨_, rfl⟩
                          subst hwQ
                          have hBm := Lib.hid hBm16
                          replace hM17 := Lib.hid hM17
                          clear hM16 hBm16
                          go_upto_region 25 with fail
                          have hS : (fun w' : World => w'.cell? ⟨gB, 4, none⟩ = some (.slice (some ⟨gv, ov, none⟩) mn mc) ∧ w'.cell? ⟨gv, ov + j * 7 + 1, none⟩ = some (.int .i64 dst) ∧ w'.cell? ⟨gv, ov + j * 7 + 6, none⟩ = some (.bool keep)) wQ.drew := ⟨hBm.out.cell 4, hd1, hd6⟩
                          have hSb : Hid (∀ w', Below wQ.heap.size wQ w' → (fun w' : World => w'.cell? ⟨gB, 4, none⟩ = some (.slice (some ⟨gv, ov, none⟩) mn mc) ∧ w'.cell? ⟨gv, ov + j * 7 + 1, none⟩ = some (.int .i64 dst) ∧ w'.cell? ⟨gv, ov + j * 7 + 6, none⟩ = some (.bool keep)) w') := fun w' hb => ⟨(hb.cell (p := ⟨gB, 4, none⟩) (hBm.out.lt)).trans (hBm.out.cell 4), (hb.cell (p := ⟨gv, ov + j * 7 + 1, none⟩) (hgvl)).trans (hd1), (hb.cell (p := ⟨gv, ov + j * 7 + 6, none⟩) (hgvl)).trans (hd6)⟩
                          refine wp_region_K (S := (fun w' : World => w'.cell? ⟨gB, 4, none⟩ = some (.slice (some ⟨gv, ov, none⟩) mn mc) ∧ w'.cell? ⟨gv, ov + j * 7 + 1, none⟩ = some (.int .i64 dst) ∧ w'.cell? ⟨gv, ov + j * 7 + 6, none⟩ = some (.bool keep))) (K := []) (by kernel_rfl) ?_
                          simp only at hS
                          refine AnyK.take (i := 0) (v := .pointer (some ⟨gR, 0, none⟩)) rfl (by kernel_rfl) (by kernel_rfl) (by kernel_rfl) (by kernel_rfl) (by kernel_rfl) (by kernel_rfl) (fun _ _ _ h => h) (Or.inl ⟨by kernel_rfl, fun w' _ => by kernel_rfl⟩) hS ?_
                          (try simp only [Act.put, List.setIfInBounds_toArray, List.set_cons_zero, List.set_cons_succ])
                          refine AnyK.take (i := 1) (v := .int .i64 (k : Int)) rfl (by kernel_rfl) (by kernel_rfl) (by kernel_rfl) (by kernel_rfl) (by kernel_rfl) (by kernel_rfl) (fun _ _ _ h => h) (Or.inl ⟨by kernel_rfl, fun w' _ => by kernel_rfl⟩) hS ?_
                          (try simp only [Act.put, List.setIfInBounds_toArray, List.set_cons_zero, List.set_cons_succ])
                          refine AnyK.take (i := 2) (v := .pointer (some ⟨gB, 4, none⟩)) rfl (by kernel_rfl) (by kernel_rfl) (by kernel_rfl) (by kernel_rfl) (by kernel_rfl) (by kernel_rfl) (fun _ _ _ h => h) (Or.inl ⟨by kernel_rfl, ?_⟩) hS ?_
                          · rintro w' ⟨z0, z1, z2⟩
                            go_simp
                          (try simp only [Act.put, List.setIfInBounds_toArray, List.set_cons_zero, List.set_cons_succ])
                          refine AnyK.take (i := 3) (v := .slice (some ⟨gv, ov, none⟩) mn mc) rfl (by kernel_rfl) (by kernel_rfl) (by kernel_rfl) (by kernel_rfl) (by kernel_rfl) (by kernel_rfl) (fun _ _ _ h => h) (Or.inl ⟨by kernel_rfl, ?_⟩) hS ?_
                          · rintro w' ⟨z0, z1, z2⟩
                            go_simp
                          (try simp only [Act.put, List.setIfInBounds_toArray, List.set_cons_zero, List.set_cons_succ])
                          refine AnyK.take (i := 4) (v := .int .i64 (j : Int)) rfl (by kernel_rfl) (by kernel_rfl) (by kernel_rfl) (by kernel_rfl) (by kernel_rfl) (by kernel_rfl) (fun _ _ _ h => h) (Or.inl ⟨by kernel_rfl, fun w' _ => by kernel_rfl⟩) hS ?_
                          (try simp only [Act.put, List.setIfInBounds_toArray, List.set_cons_zero, List.set_cons_succ])
                          refine AnyK.take (i := 5) (v := .pointer (some ⟨gv, ov + j * 7, none⟩)) rfl (by kernel_rfl) (by kernel_rfl) (by kernel_rfl) (by kernel_rfl) (by kernel_rfl) (by kernel_rfl) (fun _ _ _ h => h) (Or.inl ⟨by kernel_rfl, ?_⟩) hS ?_
                          · rintro w' ⟨z0, z1, z2⟩
                            go_simp
                          (try simp only [Act.put, List.setIfInBounds_toArray, List.set_cons_zero, List.set_cons_succ])
                          refine AnyK.take (i := 6) (v := .pointer (some ⟨gv, ov + j * 7 + 1, none⟩)) rfl (by kernel_rfl) (by kernel_rfl) (by kernel_rfl) (by kernel_rfl) (by kernel_rfl) (by kernel_rfl) (fun _ _ _ h => h) (Or.inl ⟨by kernel_rfl, ?_⟩) hS ?_
                          · rintro w' ⟨z0, z1, z2⟩
                            go_simp
                          (try simp only [Act.put, List.setIfInBounds_toArray, List.set_cons_zero, List.set_cons_succ])
                          refine AnyK.take (i := 7) (v := .int .i64 dst) rfl (by kernel_rfl) (by kernel_rfl) (by kernel_rfl) (by kernel_rfl) (by kernel_rfl) (by kernel_rfl) (fun _ _ _ h => h) (Or.inl ⟨by kernel_rfl, ?_⟩) hS ?_
                          · rintro w' ⟨z0, z1, z2⟩
                            go_simp
                          (try simp only [Act.put, List.setIfInBounds_toArray, List.set_cons_zero, List.set_cons_succ])
                          refine AnyK.take (i := 8) (v := .pointer (some ⟨gB, 4, none⟩)) rfl (by kernel_rfl) (by kernel_rfl) (by kernel_rfl) (by kernel_rfl) (by kernel_rfl) (by kernel_rfl) (fun _ _ _ h => h) (Or.inl ⟨by kernel_rfl, ?_⟩) hS ?_
                          · rintro w' ⟨z0, z1, z2⟩
                            go_simp
                          (try simp only [Act.put, List.setIfInBounds_toArray, List.set_cons_zero, List.set_cons_succ])
                          refine AnyK.take (i := 9) (v := .slice (some ⟨gv, ov, none⟩) mn mc) rfl (by kernel_rfl) (by kernel_rfl) (by kernel_rfl) (by kernel_rfl) (by kernel_rfl) (by kernel_rfl) (fun _ _ _ h => h) (Or.inl ⟨by kernel_rfl, ?_⟩) hS ?_
                          · rintro w' ⟨z0, z1, z2⟩
                            go_simp
                          (try simp only [Act.put, List.setIfInBounds_toArray, List.set_cons_zero, List.set_cons_succ])
                          refine AnyK.take (i := 10) (v := .int .i64 (j : Int)) rfl (by kernel_rfl) (by kernel_rfl) (by kernel_rfl) (by kernel_rfl) (by kernel_rfl) (by kernel_rfl) (fun _ _ _ h => h) (Or.inl ⟨by kernel_rfl, fun w' _ => by kernel_rfl⟩) hS ?_
                          (try simp only [Act.put, List.setIfInBounds_toArray, List.set_cons_zero, List.set_cons_succ])
                          refine AnyK.take (i := 11) (v := .pointer (some ⟨gv, ov + j * 7, none⟩)) rfl (by kernel_rfl) (by kernel_rfl) (by kernel_rfl) (by kernel_rfl) (by kernel_rfl) (by kernel_rfl) (fun _ _ _ h => h) (Or.inl ⟨by kernel_rfl, ?_⟩) hS ?_
                          · rintro w' ⟨z0, z1, z2⟩
                            go_simp
                          (try simp only [Act.put, List.setIfInBounds_toArray, List.set_cons_zero, List.set_cons_succ])
                          refine AnyK.take (i := 12) (v := .pointer (some ⟨gv, ov + j * 7 + 6, none⟩)) rfl (by kernel_rfl) (by kernel_rfl) (by kernel_rfl) (by kernel_rfl) (by kernel_rfl) (by kernel_rfl) (fun _ _ _ h => h) (Or.inl ⟨by kernel_rfl, ?_⟩) hS ?_
                          · rintro w' ⟨z0, z1, z2⟩
                            go_simp
                          (try simp only [Act.put, List.setIfInBounds_toArray, List.set_cons_zero, List.set_cons_succ])
                          refine AnyK.take (i := 13) (v := .bool keep) rfl (by kernel_rfl) (by kernel_rfl) (by kernel_rfl) (by kernel_rfl) (by kernel_rfl) (by kernel_rfl) (fun _ _ _ h => h) (Or.inl ⟨by kernel_rfl, ?_⟩) hS ?_
                          · rintro w' ⟨z0, z1, z2⟩
                            go_simp
                          (try simp only [Act.put, List.setIfInBounds_toArray, List.set_cons_zero, List.set_cons_succ])
                          refine AnyK.one (i := 14) (by kernel_rfl) rfl (fun K' hK => ?_)
                          go_simp
                          refine (hen.out wQ.drew hQd.out).mono ?_
                          rintro e w9 ⟨rfl, hS9, hf9⟩
                          have hf9' := Lib.hid ((Fr.refl _ wQ).drew.trans hf9)
                          replace hS9 := Lib.hid hS9
                          refine hK.out _ _ (fun _ => ⟨(Fr.cellN hf9'.out hnB hBm.out.lt).trans (hBm.out.cell 4), (Fr.cellN hf9'.out hnv hgvl).trans hd1, (Fr.cellN hf9'.out hnv hgvl).trans hd6⟩) ?_
                          clear hK
                          (try simp only [Act.put, List.setIfInBounds_toArray, List.set_cons_zero, List.set_cons_succ])
                          refine AnyK.done (by kernel_rfl) ?_ _
                          clear hS hSb
                          go_wp2_with fail
                          go_roundw
                          case rel => exact ⟨k + 1, _, out', hlt, by go_num, by rw [hnext.out, hst.out]; exact hM17.out.enter hp.out hS9.out hf9'.out, by rw [hnext.out, hst.out]; exact hlk.out.ent dst⟩
                          case measure => simp [intOf]; omega
                · obtain rfl : j = mn := by omega
                  have hst : Hid (rstep l (fnI gl) (fnB fl) th k r = ⟨⟨r.x.S, upd r.x.F k false, r.x.E⟩, r.D, r.O⟩) := by
                    show _ = _
                    exact rstep_none hm.out hrc.out (findIdx_none fun j' x hx => by
                      have := (List.getElem?_eq_some_iff.1 hx).1
                      rw [← hzS.out, ← hzF.out]
                      exact hQ.out j' (by have h2 : j' < ml.length := this; omega) x hx)
                  have hF10 := hM10.facts hz.out
                  obtain ⟨-, -, r2, -, -⟩ := blk5 hF10.bR
                  have fcc := hF10.rF.cell hlt
                  have fff := hF10.rF.frozen k
                  have hMF := hM10.setF hp.out k false
                  rw [show z.gF = gF by rw [hz.out]] at hMF
                  have hfin : Hid (RLp z w [(24, #[.slice (some ⟨gm, om_, none⟩) n cc]), (29, #[.slice gA n gc, .slice fA n fc, .slice oA on oc]), (29, #[.slice none 0 0, .slice none 0 0, .slice none 0 0])] tS B n l (fnI gl) (fnB fl) th u10 (.int .i64 ((k + 1 : Nat) : Int)) (wr.setCell ⟨gF, k, none⟩ (.bool false))) := ⟨k + 1, _, out, hlt, rfl, by rw [hnext.out, hst.out]; exact hMF, by rw [hnext.out, hst.out]; exact hlk.out.setF k false⟩
                  clear hMF hF10 hM10 hBm10 hQ hb10
                  go_wp2_with fail
                  go_roundw
                  case rel => have h := hfin.out; simpa using h
                  case measure => simp [intOf]; omega
        · obtain rfl : k = n := by omega
          have hRr : R = r := by rw [hrd.out, hr, hl]
          obtain ⟨dA, dc, rfl⟩ := OR.form hM.dn
          have hFn := hM.facts hz.out
          obtain ⟨-, x1, x2, x3, -⟩ := blk5 hFn.bR
          obtain ⟨p0, p1, p2, p3, p4, p5⟩ := blkT hM.own.b2
          have hSn := hFn.rS.nl h6 (fun j _ => by rw [hlk.1]; exact hbk.i64 j)
          have hFb := hFn.rF.bl h6
          obtain ⟨b1, b2, b3⟩ := hB3.out
          have h2B : w.heap.size + 2 < B := by omega
          have hok : GV.ok wr ⟨⟨some ⟨gS, 0, none⟩, k, capS, (List.range k).map y.S⟩, ⟨some ⟨gF, 0, none⟩, k, capF, (List.range k).map y.F⟩, out⟩ := ⟨hSn, hFb, hM.ok⟩
          have hnew : GV.new (w.heap.size + 3) ⟨⟨some ⟨gS, 0, none⟩, k, capS, (List.range k).map y.S⟩, ⟨some ⟨gF, 0, none⟩, k, capF, (List.range k).map y.F⟩, out⟩ := ⟨fun a e => by cases e; exact b2, fun a e => by cases e; exact b3, fun a e => Nat.le_trans b1 (OR.newA hM.em a e)⟩
          have hdn := OR.mono (OR.far (OR.far (OR.far hM.dn h2B 0 (.slice (some ⟨gS, 0, none⟩) k capS)) h2B 1 (.slice (some ⟨gF, 0, none⟩) k capF)) h2B 2 (.slice out.A out.n out.c)) (show w.heap.size ≤ B by omega)
          have hRe : Reacts ⟨A, k, cc, l⟩ ⟨⟨gA, k, gc, gl⟩, ⟨fA, k, fc, fl⟩, ⟨oA, on, oc, ol⟩⟩ R w (.returned (.tuple #[.agg #[.slice (some ⟨gS, 0, none⟩) k capS, .slice (some ⟨gF, 0, none⟩) k capF, .slice out.A out.n out.c], .slice dA r.D.length dc])) (((wr.setCell ⟨w.heap.size + 2, 0, none⟩ (.slice (some ⟨gS, 0, none⟩) k capS)).setCell ⟨w.heap.size + 2, 1, none⟩ (.slice (some ⟨gF, 0, none⟩) k capF)).setCell ⟨w.heap.size + 2, 2, none⟩ (.slice out.A out.n out.c)) := by
            rw [hRr]
            exact ⟨_, dA, dc, rfl, hok.set3 hnew (by omega) _ _ _, hnew.mono (by omega), by show (List.range k).map y.S = _; rw [hlk.1], by show (List.range k).map y.F = _; rw [hlk.2.1], hM.el, rfl, rfl, hdn, Own.set3 hM.own 2 0 1 2 _ _ _⟩
          replace hRe := Lib.hid hRe
          clear hok hnew hdn hM hFn hSn hFb hlk hRr hr hbk hfr hnext
          go_wp2_with fail
          exact bodyPost_ret (v := .tuple #[.agg #[.slice (some ⟨gS, 0, none⟩) k capS, .slice (some ⟨gF, 0, none⟩) k capF, .slice out.A out.n out.c], .slice dA r.D.length dc]) (by simp [results, Try.results38, go_sem, p0, p1, p2]) rfl hRe.out

end Go.Proofs.Ytgjmbmlmopomgaa
