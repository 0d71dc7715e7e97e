/- The law ChartActs. -/
import Derived.Test.YtgjmbmlmopomgaaEe
import Derived.Test.YtgjmbmlmopomgaaEg
import Derived.Test.YtgjmbmlmopomgaaCu
import Derived.Test.YtgjmbmlmopomgaaZr1
namespace Go.Proofs.Ytgjmbmlmopomgaa
open Go.RowKit Go.Maps Lib
set_option linter.unusedSimpArgs false
set_option linter.unusedVariables false

theorem step_app_S {w : World} {ops : Array Oper} {o : Oper} {a : Act} {K : Act → World → Prop} {Q : Exit → Act → World → Prop} {F : Prop} (hgd : o.guard = none) (s x : Operand) (ho : o.op = .call { callee := .builtin .append, args := #[s, x], argTypes := #[27, 27] })
    (B n : Nat) (v : Value) (l : List ByteArray) (hs : a.eval s = v) (h : w.ownsRow B 9 1 v n (vS l)) (hl : l.length = n) (hB : B ≤ w.heap.size)
    (y : SL) (hx : a.eval x = .slice y.A y.n y.c) (hy : y.ok w) (hyn : (n + y.n) * 16 ≤ 140737488355328)
    (hK : ∀ A' c' w', w'.ownsRow B 9 1 (.slice A' (n + y.n) c') (n + y.n) (vS (l ++ y.l)) → w.grownBy w' v.ownBlock → K (a.put o.dst (.slice A' (n + y.n) c')) w') :
    if Region.wanted o (yielded ops a.tmps) = true then Oper.wp Try.prog o a w K Q else F := by
  have hw : Region.wanted o (yielded ops a.tmps) = true := by simp [Region.wanted, hgd]
  rw [if_pos hw]
  obtain ⟨A', c', w', hr, h1, h2⟩ := run_app_S h hl y hy hyn hB o.type
  unfold Oper.wp execOp
  simp only [ho, resolve, invoke, builtin, Sem.run_bind, Sem.run_pure, Result.andThen_ok, List.map_toArray, List.map_cons, List.map_nil, hs, hx, hr]
  exact hK A' c' w' h1 h2

theorem dv_get {D : List (Nat × Nat)} {i : Nat} {p : Nat × Nat} (h : D[i]? = some p) : (dv D)[i * 2]? = some (.int .i64 (p.1 : Int)) ∧ (dv D)[i * 2 + 1]? = some (.int .i64 (p.2 : Int)) := by
  induction D generalizing i with
  | nil => simp at h
  | cons q D ih =>
    cases i with
    | zero =>
      simp at h
      subst h
      simp [dv]
    | succ i =>
      have h2 := ih (i := i) (by simpa using h)
      rw [show (i + 1) * 2 = i * 2 + 1 + 1 by omega]
      simpa [dv] using h2
theorem dn_cell {w : World} {B : Nat} {dA : Option Addr} {dc : Nat} {D : List (Nat × Nat)} (h : w.ownsRow B 42 2 (.slice dA D.length dc) D.length (dv D)) {i : Nat} (hi : i < D.length) : ∃ g p, dA = some ⟨g, 0, none⟩ ∧ g < w.heap.size ∧ D[i]? = some p ∧ w.cell? ⟨g, i * 2, none⟩ = some (.int .i64 (p.1 : Int)) ∧ w.cell? ⟨g, i * 2 + 1, none⟩ = some (.int .i64 (p.2 : Int)) := by
  obtain ⟨g, cap, e, -, hlt⟩ := h.form (by omega)
  have hA : dA = some ⟨g, 0, none⟩ := by injection e
  subst hA
  have hc := h.cells (g := g) rfl
  have e2 : D[i]? = some D[i] := List.getElem?_eq_getElem hi
  obtain ⟨h1, h2⟩ := dv_get e2
  have c1 := hc _ _ h1
  have c2 := hc _ _ h2
  rw [addr_add, Nat.zero_add] at c1 c2
  exact ⟨g, _, rfl, hlt, e2, c1, c2⟩

theorem rErr_ok {c : CV} {g : GV} {i : SL} (h : rErr c g i = 0) : g.known c = 0 ∧ inErr [i] = 0 := by
  unfold rErr at h
  by_cases h1 : g.known c = 0
  · rw [if_pos h1] at h; exact ⟨h1, h⟩
  · rw [if_neg h1] at h; exact absurd h h1
theorem in_one {i : SL} (h : inErr [i] = 0) : i.n ≤ 64 := by
  unfold inErr at h
  simp at h
  by_cases h1 : 64 < i.n
  · rw [if_pos h1] at h; cases h
  · omega
theorem Own.drewO {w w1 : World} {bs : List (TypeId × Array Value)} (h : Own w bs w1) : Own w bs w1.drew := h.drew

/-- all that the law asks of the k-th reaction that is done -/
theorem done_at {c : CV} {g : GV} {i : SL} (hv : c.valid = 0) {k : Nat} {p : Nat × Nat} (hk : (reacted c g i).D[k]? = some p) :
    p.1 < c.l.length ∧ (∃ m v, c.l[p.1]? = some m ∧ m.mv.l[p.2]? = some v ∧ (∀ s ∈ v.wh.l, pres i g.out s = true) ∧ (∀ s ∈ v.no.l, pres i g.out s = false) ∧ ∀ s ∈ v.em.l, s ∈ outS (reacted c g i).O) ∧ actv c.l (fnI g.st.l) p.1 = true ∧ (∀ q, 0 < k → (reacted c g i).D[k - 1]? = some q → q.1 < p.1) := by
  obtain ⟨h1, h2⟩ := rto_done c.l (fnI g.st.l) (fnB g.fr.l) (pres i g.out) ⟨fnI g.st.l, fnB g.fr.l, fun _ => false⟩ c.l.length
  obtain ⟨h3, m, v, h4, h5, h6, h7, h8⟩ := h1 p (List.mem_of_getElem? hk)
  rw [open_eq] at h7
  simp only [Bool.and_eq_true, Bool.not_eq_true'] at h7
  refine ⟨h3, ⟨m, v, h4, h5, fun s hs => List.all_eq_true.1 h7.1.2 s hs, fun s hs => by
    have := List.any_eq_false.1 h7.2 s hs
    simpa using this, fun s hs => mem_outS (h8 s hs)⟩, h6, fun q h0 hq => ?_⟩
  rw [List.pairwise_iff_getElem] at h2
  obtain ⟨k1, e1⟩ := List.getElem?_eq_some_iff.1 hk
  obtain ⟨k2, e2⟩ := List.getElem?_eq_some_iff.1 hq
  have := h2 (k - 1) k k2 k1 (by omega)
  rw [← e1, ← e2]
  exact this

set_option maxRecDepth 100000 in
set_option maxHeartbeats 4000000 in
theorem law23_ChartActs (c : CV) (g : GV) (i : SL) (w : World) (hc : c.ok w) (hg : g.ok w) (hi : i.ok w) (hgo : g.out.n ≤ 8796093021952) :
    Calls Try.prog 4 #[.agg #[.slice c.A c.n c.c], .agg #[.slice g.st.A g.st.n g.st.c, .slice g.fr.A g.fr.n g.fr.c, .slice g.out.A g.out.n g.out.c], .slice i.A i.n i.c] w fun e w' => e = .returned (.bool true) ∧ Below w.heap.size w w' := by
  have hO0 := Own.two w 24 29 #[.slice c.A c.n c.c] #[.slice g.st.A g.st.n g.st.c, .slice g.fr.A g.fr.n g.fr.c, .slice g.out.A g.out.n g.out.c]
  have hre := m_React c g i _ (hc.below hO0.1 (Nat.le_refl _)) (hg.below hO0.1 (Nat.le_refl _)) (hi.below hO0.1 (Nat.le_refl _))
  replace hc := Lib.hid hc
  replace hg := Lib.hid hg
  replace hi := Lib.hid hi
  replace hO0 := Lib.hid hO0
  have hkn := Lib.hid l_known
  obtain ⟨A, n, cc, l⟩ := c
  obtain ⟨⟨gA, gn, gc, gl⟩, ⟨fA, fn, fc, fl⟩, ⟨oA, on, oc, ol⟩⟩ := g
  obtain ⟨iA, iN, ic, il⟩ := i
  simp only at hre ⊢
  by_cases h0 : rErr ⟨A, n, cc, l⟩ ⟨⟨gA, gn, gc, gl⟩, ⟨fA, fn, fc, fl⟩, ⟨oA, on, oc, ol⟩⟩ ⟨iA, iN, ic, il⟩ = 0
  · obtain ⟨hk0, hi0⟩ := rErr_ok h0
    obtain ⟨hv, hfi⟩ := GV.known_fine hk0
    have hda := fun k p (hk : (reacted ⟨A, n, cc, l⟩ ⟨⟨gA, gn, gc, gl⟩, ⟨fA, fn, fc, fl⟩, ⟨oA, on, oc, ol⟩⟩ ⟨iA, iN, ic, il⟩).D[k]? = some p) => done_at hv hk
    have hi64 : iN ≤ 64 := in_one hi0
    have hon : on ≤ 8796093021952 := hgo
    have hd6 : (reacted ⟨A, n, cc, l⟩ ⟨⟨gA, gn, gc, gl⟩, ⟨fA, fn, fc, fl⟩, ⟨oA, on, oc, ol⟩⟩ ⟨iA, iN, ic, il⟩).D.length ≤ l.length := (rto_bound hc.out hv (fnI gl) (fnB fl) (pres ⟨iA, iN, ic, il⟩ ⟨oA, on, oc, ol⟩) (fnI_in64 hg.out.1.2.2.2.1) l.length).d
    have hact : Hid (∀ W, Below w.heap.size w W → Calls Try.prog 12 #[.agg #[.slice A n cc], .agg #[.slice gA gn gc, .slice fA fn fc, .slice oA on oc]] W fun e w' => ∃ L : NL, e = .returned (.tuple #[.slice L.A L.n L.c, .int .i64 0]) ∧ L.ok w' ∧ L.l = actl (actv l (fnI gl)) n ∧ Below W.heap.size W w') := fun W hb => by
      have h := m_Active ⟨A, n, cc, l⟩ ⟨⟨gA, gn, gc, gl⟩, ⟨fA, fn, fc, fl⟩, ⟨oA, on, oc, ol⟩⟩ W (hc.out.below hb (Nat.le_refl _)) (hg.out.below hb (Nat.le_refl _))
      unfold actS at h
      rw [hk0, if_pos rfl] at h
      exact h
    have hl : l.length = n := hc.out.1
    have h6 : n ≤ 6 := CV.six hv
    unfold Reacted reO reD at hre
    rw [h0] at hre
    simp only [if_true] at hre
    generalize reacted ⟨A, n, cc, l⟩ ⟨⟨gA, gn, gc, gl⟩, ⟨fA, fn, fc, fl⟩, ⟨oA, on, oc, ol⟩⟩ ⟨iA, iN, ic, il⟩ = r at hre hda hd6
    replace hda := Lib.hid hda
    clear hk0 hi0 hfi h0
    go_enter Try.func4, Try.ntmps4
    go_upto_region 5 with (first
      | (go_at_call 15; refine hre.mono ?_; rintro e w3 ⟨⟨⟨xA, xn, xc, xl⟩, ⟨yA, yn, yc, yl⟩, ⟨zA, zn, zc, zl⟩⟩, dA, dc, rfl, hxok, hxnew, -, -, hxo, hdn, hb3⟩
         have hO3 := Lib.hid (hO0.out.call hb3)
         have hbx := Lib.hid (Blk.new w3 29 #[.slice xA xn xc, .slice yA yn yc, .slice zA zn zc])
         have hb4 := Lib.hid ((Below.refl w3.heap.size w3).alloc (Nat.le_refl _) (.cells #[.slice xA xn xc, .slice yA yn yc, .slice zA zn zc] 29))
         have hO4 := Lib.hid (hO3.out.call hb4.out)
         have hac4 := hact.out _ hO4.out.1
         have a0 := hO4.out.b0.cell 0
         have b0 := hO4.out.b1.cell 0
         have b1 := hO4.out.b1.cell 1
         have b2 := hO4.out.b1.cell 2
         simp only [List.getElem?_toArray, List.getElem?_cons_zero, List.getElem?_cons_succ] at a0 b0 b1 b2)
      | (go_at_call 12; refine hac4.mono ?_; rintro e w5 ⟨⟨LA, Ln, Lc, Ll⟩, rfl, hLok, hLl, hb5⟩))
    have hO5 := Lib.hid (hO4.out.call hb5)
    have hx5 := Lib.hid (hbx.out.call hb5)
    have hd5 := Lib.hid (OR.call (OR.call hdn hb4.out) hb5)
    have hz5 := Lib.hid (SL.ok.below (SL.ok.below hxok.2.2 hb4.out (Nat.le_refl _)) hb5 (Nat.le_refl _))
    obtain ⟨gX, hgX⟩ : ∃ gX, gX = w3.heap.size := ⟨_, rfl⟩
    rw [← hgX] at hx5 ⊢
    clear hgX hb3 hb4 hb5 hxnew hdn hxok hac4 a0 b0 b1 b2 hO3 hO4 hbx hre hact hO0
    replace hLok := Lib.hid hLok
    replace hd6 : Hid (r.D.length ≤ 6) := by show _ ≤ _; omega
    go_cut [12] from 39 to 43 (fun v12 wc => ∃ A' c', v12 = .slice A' (iN + on) c' ∧ SL.ok wc ⟨A', iN + on, c', il ++ ol⟩ ∧ Below w5.heap.size w5 wc)
    case first =>
      have hS : (fun w' : World => w'.cell? ⟨w.heap.size + 1, 2, none⟩ = some (.slice oA on oc)) w5.drew := hO5.out.drew.b1.cell 2
      have hil : il.length = iN := hi.out.1
      refine wp_region_K (S := (fun w' : World => w'.cell? ⟨w.heap.size + 1, 2, none⟩ = some (.slice oA on oc))) (K := []) (by kernel_rfl) ?_
      refine AnyK.take (i := 0) (v := .slice iA iN ic) rfl (by kernel_rfl) (by kernel_rfl) (by kernel_rfl) (by kernel_rfl) (by kernel_rfl) (by kernel_rfl) (fun _ _ _ h => h) (Or.inl ⟨by rfl, ?_⟩) hS ?_
      · rintro w' -
        go_simp
      (try simp only [Act.put, List.setIfInBounds_toArray, List.set_cons_zero, List.set_cons_succ])
      refine AnyK.take (i := 2) (v := .pointer (some ⟨w.heap.size + 1, 2, none⟩)) rfl (by kernel_rfl) (by kernel_rfl) (by kernel_rfl) (by kernel_rfl) (by kernel_rfl) (by kernel_rfl) (fun _ _ _ h => h) (Or.inl ⟨by rfl, ?_⟩) hS ?_
      · rintro w' -
        go_simp
      (try simp only [Act.put, List.setIfInBounds_toArray, List.set_cons_zero, List.set_cons_succ])
      refine AnyK.take (i := 3) (v := .slice oA on oc) rfl (by kernel_rfl) (by kernel_rfl) (by kernel_rfl) (by kernel_rfl) (by kernel_rfl) (by kernel_rfl) (fun _ _ _ h => h) (Or.inl ⟨by rfl, ?_⟩) hS ?_
      · rintro w' a0
        go_simp
      (try simp only [Act.put, List.setIfInBounds_toArray, List.set_cons_zero, List.set_cons_succ])
      refine AnyK.one (i := 1) (by kernel_rfl) rfl (fun K' hK => ?_)
      refine step_app_S (by rfl) (.const (.slice none 0 0)) (.tmp 39) (by rfl) w5.heap.size 0 (.slice none 0 0) [] (by rfl) (World.ownsRow_nil _ _ _ _) rfl (Nat.le_refl _) ⟨iA, iN, ic, il⟩ (by kernel_rfl) (hi.out.below hO5.out.drew.1 (Nat.le_refl _)) (by show (0 + iN) * 16 ≤ _; omega) ?_
      intro A1 c1 w6 hr6 hg6
      rw [List.nil_append] at hr6
      simp only [Nat.zero_add] at hr6
      go_simp
      have hb6 : Below w5.heap.size w5 w6 := (Below.refl _ _).drew.grown hg6 (Nat.le_refl _) (fun b hb => by cases hb)
      have hO6 := Lib.hid (hO5.out.call hb6)
      refine hK.out _ _ (fun _ => hO6.out.b1.cell 2) ?_
      clear hK hS
      (try simp only [Act.put, List.setIfInBounds_toArray, List.set_cons_zero, List.set_cons_succ])
      refine AnyK.one (i := 4) (by kernel_rfl) rfl (fun K' hK => ?_)
      refine step_app_S (by rfl) (.tmp 40) (.tmp 42) (by rfl) w5.heap.size iN (.slice A1 iN c1) il (by kernel_rfl) hr6 hil hb6.size ⟨oA, on, oc, ol⟩ (by kernel_rfl) (hg.out.2.2.below hO6.out.1 (Nat.le_refl _)) (by show (iN + on) * 16 ≤ _; omega) ?_
      intro A2 c2 w7 hr7 hg7
      go_simp
      have hb7 : Below w5.heap.size w5 w7 := hb6.grown hg7 hb6.size (fun b hb => (OR.at hr6 hb).1)
      have hO7 := Lib.hid (hO5.out.call hb7)
      refine hK.out _ _ (fun _ => hO7.out.b1.cell 2) ?_
      clear hK
      (try simp only [Act.put, List.setIfInBounds_toArray, List.set_cons_zero, List.set_cons_succ])
      refine AnyK.one (i := 5) (by kernel_rfl) rfl (fun K' hK => ?_)
      go_simp
      refine hK.out _ _ (fun _ => hO7.out.b1.cell 2) ?_
      clear hK
      (try simp only [Act.put, List.setIfInBounds_toArray, List.set_cons_zero, List.set_cons_succ])
      refine AnyK.done (by kernel_rfl) ?_ _
      have hfin : SL.ok w7 ⟨A2, iN + on, c2, il ++ ol⟩ := by
        exact SL.row hr7 (by have h2 := hg.out.2.2.1; simp only at h2; simp [hil, h2]) (fun x hx => by
          rcases List.mem_append.1 hx with h3 | h3
          · exact hi.out.2.2.2.1 x h3
          · exact hg.out.2.2.2.2.2.1 x h3) (by show iN + on ≤ _; omega)
      replace hfin := Lib.hid hfin
      go_wp2_with fail
      go_meet
      exact ⟨A2, c2, rfl, hfin.out, hb7⟩
    case rest =>
      obtain ⟨tA, tc, rfl, htok, hbt⟩ := hcut
      have hOc := Lib.hid (hO5.out.call hbt)
      have hxc := Lib.hid (hx5.out.call hbt)
      have hdc := Lib.hid (OR.call hd5.out hbt)
      have hzc := Lib.hid (hz5.out.below hbt (Nat.le_refl _))
      have hLc := Lib.hid (hLok.out.below hbt (Nat.le_refl _))
      replace htok := Lib.hid htok
      have hd6' := hd6.out
      obtain ⟨w8, hw8⟩ : ∃ w8, w8 = wc := ⟨_, rfl⟩
      subst hw8
      clear hO5 hx5 hd5 hz5 hLok hbt
      go_wp2_with fail
      go_loopw [46] (fun v46 wr => RA w8 r.D.length (fun _ => True) v46 wr) (fun i _ => r.D.length - (intOf i).toNat)
      case atStart => exact ⟨Below.refl _ _, 0, by omega, rfl, fun j hj => absurd hj (Nat.not_lt_zero _)⟩
      case round =>
        obtain ⟨hbr, k, hk, rfl, -⟩ := hrel
        by_cases hlt : k < r.D.length
        · obtain ⟨gD, p, hdA, hgD, hp, cD0, cD1⟩ := dn_cell (OR.call hdc.out hbr) hlt
          have hq := fun (h : 0 < k) => dn_cell (i := k - 1) (OR.call hdc.out hbr) (by omega)
          subst hdA
          obtain ⟨hp1, ⟨⟨om, os, ⟨sA, sn, sc, sl⟩, fst, ⟨mA, mn, mc, ml⟩⟩, v, hm, hv2, hwh, hno, hem⟩, hav, hpre⟩ := hda.out k p hp
          have hOr := hOc.out.call hbr
          obtain ⟨gm, om_, m2, hAm, hgm, hm2, hmo, e0, e1, e2, e3, e4⟩ := (hc.out.below hOr.1 (Nat.le_refl _)).cell (j := p.1) (by show p.1 < n; omega)
          simp only at hAm hm2 hm e0 e1 e2 e3 e4
          rw [hm] at hm2
          cases hm2
          subst hAm
          have hmlo := hmo.2.2.2.2
          have hmll : ml.length = mn := hmlo.1
          have hp2 : p.2 < mn := by
            have := (List.getElem?_eq_some_iff.1 hv2).1
            have h1 : p.2 < ml.length := this
            omega
          obtain ⟨gv, ov, v2, hAv, hgv, hv3, hvo, f0, f1, f2, f3, f4, f5, f6⟩ := hmlo.cell (j := p.2) hp2
          simp only at hAv hv3 hv2 e4
          rw [hv2] at hv3
          cases hv3
          subst hAv
          obtain ⟨frm, dst, ⟨hA, hn, hcp, hwl⟩, ⟨nA, nn, nc, nl⟩, ⟨eA, en, ec, el⟩, late, keep⟩ := v
          simp only at hwh hno hem f0 f1 f2 f3 f4 f5 f6
          have hwhok := Lib.hid hvo.2.2.1
          have hnook := Lib.hid hvo.2.2.2.1
          have hemok := Lib.hid hvo.2.2.2.2
          have hin : Hid (inI Ll (p.1 : Int) = true) := by
            refine List.any_eq_true.2 ⟨(p.1 : Int), ?_, by simp⟩
            rw [hLl]
            exact (actl_mem _ _ _).2 ⟨p.1, by omega, hav, rfl⟩
          have hhas := l_has ⟨LA, Ln, Lc, Ll⟩ (p.1 : Int)
          simp only [hin.out] at hhas
          obtain ⟨p1, p2⟩ := p
          simp only at cD0 cD1 hp1 hm e0 e1 e2 e3 e4 hp2 f0 f1 f2 f3 f4 f5 f6 hpre hhas
          have a0 := hOr.b0.cell 0
          simp only [List.getElem?_toArray, List.getElem?_cons_zero] at a0
          have hbd := Lib.hid ((Below.refl wr.heap.size wr).alloc (Nat.le_refl _) (.cells #[.int .i64 (p1 : Int), .int .i64 (p2 : Int)] 42))
          have hOd := Lib.hid (Own.one wr 42 #[.int .i64 (p1 : Int), .int .i64 (p2 : Int)])
          have hcl : Hid (∀ W, Below w8.heap.size w8 W → Calls Try.prog 18 #[.slice LA Ln Lc, .int .i64 (p1 : Int)] W fun e w' => e = .returned (.bool true) ∧ Below W.heap.size W w') := fun W hb => hhas W (hLc.out.below hb (Nat.le_refl _))
          have hn1 : n ≤ 17592186044416 := by omega
          have hp1n : (p1 : Int) < n := by omega
          have hmn : mn ≤ 17592186044416 := hmlo.2.2.1
          have k0 : decide ((p2 : Int) < 0) = false := by simp
          have k1 : decide ((mn : Int) ≤ (p2 : Int)) = false := by simp; omega
          have k2 : decide (mn ≤ p2) = false := by simp; omega
          clear hhas hav hmo hvo hmlo hm hv2 hp
          go_upto_region 9 with fail
          obtain ⟨wA, hwA⟩ : ∃ wA, wA = wr.alloc (.cells #[.int .i64 (p1 : Int), .int .i64 (p2 : Int)] 42) := ⟨_, rfl⟩
          rw [← hwA] at hbd hOd ⊢
          clear hwA
          go_cut [88] from 51 to 88 (fun v88 wc => v88 = .bool false ∧ Below wA.heap.size wA wc)
          case first =>
            have hbA := Lib.hid (Below.callB hbr hbd.out)
            have q0 := hOd.out.b0.cell 0
            have q1 := hOd.out.b0.cell 1
            have q2 := (hOr.call hbd.out).b0.cell 0
            have q3 := (hbd.out.cell (p := ⟨gm, om_ + p1 * 5 + 4, none⟩) hgm).trans e4
            simp only [List.getElem?_toArray, List.getElem?_cons_zero, List.getElem?_cons_succ] at q0 q1 q2
            have hqc : ∀ k, Calls Try.prog 18 #[.slice LA Ln Lc, .int .i64 (p1 : Int)] (wA.drewN k) fun e w' => e = .returned (.bool true) ∧ ∃ m, w' = wA.drewN m := fun k => by
              have hc := l_hasQ ⟨LA, Ln, Lc, Ll⟩ (p1 : Int) (wA.drewN k) (hLc.out.below (bdN hbA.out k) (Nat.le_refl _))
              simp only [hin.out] at hc
              exact Calls.quiet_of hc
            replace hqc := Lib.hid hqc
            by_cases hk0 : k = 0
            · have hkp : decide ((0 : Int) < (k : Int)) = false := by simp; omega
              have hkp2 : decide (0 < k) = false := by simp; omega
              have hkp3 : ¬ (0 : Int) < (k : Int) := by omega
              have hkp4 : ¬ 0 < k := by omega
              clear hk0 hq hpre hbA hOd hbd hcl
              go_quiet (((go_at_call 18; with_reducible exact hqc.out _)))
              go_wp2_with fail
              go_meet
              exact ⟨rfl, bdN (Below.refl _ _) _⟩
            · obtain ⟨j, rfl⟩ : ∃ j, k = j + 1 := ⟨k - 1, by omega⟩
              rw [Nat.add_sub_cancel] at hq hpre
              obtain ⟨gD2, q, hq1, -, hq2, hq3, -⟩ := hq (by omega)
              cases hq1
              have hlt2 := hpre q (by omega) hq2
              obtain ⟨q1, q2⟩ := q
              simp only at hq3 hlt2
              have q4 := (hbd.out.cell (p := ⟨gD, j * 2, none⟩) hgD).trans hq3
              have k3 : decide ((p1 : Int) ≤ (q1 : Int)) = false := by first | exact decide_eq_false (by omega) | (simp; done)
              have k4 : decide (p1 ≤ q1) = false := by first | exact decide_eq_false (by omega) | (simp; done)
              have hkp : decide ((0 : Int) < (j : Int) + 1) = true := decide_eq_true (by omega)
              have hkp2 : (0 : Int) < (j : Int) + 1 := by omega
              have hj1 : ¬ ((j : Int) < 0) := by omega
              have hj3 : (j : Int) < (r.D.length : Int) := by omega
              have hj4 : ¬ ((r.D.length : Int) ≤ (j : Int)) := by omega
              have hj5 : j < r.D.length := by omega
              have hkr : r.D.length ≤ 17592186044416 := by omega
              have hsw : IntKind.i64.wrap ((j : Int) + 1 - 1) = (j : Int) := by rw [IntKind.wrap_i64]; omega
              have hsw2 : IntKind.i64.wrap (((j + 1 : Nat) : Int) - 1) = (j : Int) := by rw [IntKind.wrap_i64]; omega
              clear hq2 hq hpre hbA hOd hbd hcl hk hk0 hlt hlt2 hd6'
              go_quiet (((go_at_call 18; with_reducible exact hqc.out _)))
              go_wp2_with fail
              go_meet
              exact ⟨rfl, bdN (Below.refl _ _) _⟩
          case rest =>
            obtain ⟨rfl, hb9⟩ := hcut
            obtain ⟨wE, hwE⟩ : ∃ wE, wE = wc := ⟨_, rfl⟩
            subst hwE
            have hOe := Lib.hid ((hOr.call hbd.out).call hb9)
            have hOf := Lib.hid (hOd.out.call hb9)
            have hb10 := Below.callB hbd.out hb9
            have hbE := Lib.hid (Below.callB hbr hb10)
            have g0 := hOe.out.b0.cell 0
            have g1 := hOf.out.b0.cell 0
            have g2 := hOf.out.b0.cell 1
            have g3 := (hb10.cell (p := ⟨gm, om_ + p1 * 5 + 4, none⟩) hgm).trans e4
            have z0 := (hb10.cell (p := ⟨gv, ov + p2 * 7, none⟩) hgv).trans f0
            have z1 := (hb10.cell (p := ⟨gv, ov + p2 * 7 + 1, none⟩) hgv).trans f1
            have z2 := (hb10.cell (p := ⟨gv, ov + p2 * 7 + 2, none⟩) hgv).trans f2
            have z3 := (hb10.cell (p := ⟨gv, ov + p2 * 7 + 3, none⟩) hgv).trans f3
            have z4 := (hb10.cell (p := ⟨gv, ov + p2 * 7 + 4, none⟩) hgv).trans f4
            have z5 := (hb10.cell (p := ⟨gv, ov + p2 * 7 + 5, none⟩) hgv).trans f5
            have z6 := (hb10.cell (p := ⟨gv, ov + p2 * 7 + 6, none⟩) hgv).trans f6
            simp only [List.getElem?_toArray, List.getElem?_cons_zero, List.getElem?_cons_succ] at g0 g1 g2
            have hwh1 := Lib.hid (hwhok.out.below hb10 (Nat.le_refl _))
            have hno1 := Lib.hid (hnook.out.below hb10 (Nat.le_refl _))
            have hem1 := Lib.hid (hemok.out.below hb10 (Nat.le_refl _))
            have hp2n : (p2 : Int) < mn := by omega
            clear f0 f1 f2 f3 f4 f5 f6 e0 e1 e2 e3 e4 cD0 cD1 a0 hq hpre hwhok hnook hemok hOd hbd hcl hOr hb9
            go_upto_region 11 with fail
            go_cut [15] from 89 to 99 (fun v15 WD => v15 = .pointer (some ⟨wE.heap.size, 0, none⟩) ∧ Hid (Own wE [(52, #[.int .i64 frm, .int .i64 dst, .slice hA hn hcp, .slice nA nn nc, .slice eA en ec, .bool late, .bool keep])] WD))
            case first =>
              have hOz := Own.one wE 52 #[.int .i64 0, .int .i64 0, .slice none 0 0, .slice none 0 0, .slice none 0 0, .bool false, .bool false]
              have hzz := hOz.1
              have y0 := (hOe.out.call hzz).b0.cell 0
              have y1 := (hOf.out.call hzz).b0.cell 0
              have y2 := (hOf.out.call hzz).b0.cell 1
              have hbm := Nat.lt_of_lt_of_le hgm hb10.size
              have hbv := Nat.lt_of_lt_of_le hgv hb10.size
              have y3 := (hzz.cell (p := ⟨gm, om_ + p1 * 5 + 4, none⟩) hbm).trans g3
              have x0 := (hzz.cell (p := ⟨gv, ov + p2 * 7, none⟩) hbv).trans z0
              have x1 := (hzz.cell (p := ⟨gv, ov + p2 * 7 + 1, none⟩) hbv).trans z1
              have x2 := (hzz.cell (p := ⟨gv, ov + p2 * 7 + 2, none⟩) hbv).trans z2
              have x3 := (hzz.cell (p := ⟨gv, ov + p2 * 7 + 3, none⟩) hbv).trans z3
              have x4 := (hzz.cell (p := ⟨gv, ov + p2 * 7 + 4, none⟩) hbv).trans z4
              have x5 := (hzz.cell (p := ⟨gv, ov + p2 * 7 + 5, none⟩) hbv).trans z5
              have x6 := (hzz.cell (p := ⟨gv, ov + p2 * 7 + 6, none⟩) hbv).trans z6
              simp only [List.getElem?_toArray, List.getElem?_cons_zero, List.getElem?_cons_succ] at y0 y1 y2
              have hOv := Lib.hid (Own.drewO (Own.one wE 52 #[.int .i64 frm, .int .i64 dst, .slice hA hn hcp, .slice nA nn nc, .slice eA en ec, .bool late, .bool keep]))
              clear hzz hbm hbv
              replace hOz := Lib.hid hOz
              go_region
              all_goals go_wp2_with fail
              all_goals go_meet
              all_goals exact ⟨rfl, hOv⟩
            case rest =>
              obtain ⟨rfl, hOv⟩ := hcut
              obtain ⟨wz1, hww⟩ : ∃ wz1, wz1 = wc := ⟨_, rfl⟩
              subst hww
              have hbz1 := Lib.hid hOv.out.1
              have wv2 := hOv.out.b0.cell 2
              simp only [List.getElem?_toArray, List.getElem?_cons_zero, List.getElem?_cons_succ] at wv2
              clear g0 g1 g2 g3 z0 z1 z2 z3 z4 z5 z6
              go_wp2_with fail
              go_loopw [103] (fun v wr => RA wz1 hn (fun _ => True) v wr) (fun i _ => hn - (intOf i).toNat)
              case atStart => exact ⟨Below.refl _ _, 0, by omega, rfl, fun j hj => absurd hj (Nat.not_lt_zero _)⟩
              case round =>
                obtain ⟨hbr1, a, ha, rfl, -⟩ := hrel
                have hbz := Lib.hid (Below.callB hbz1.out hbr1)
                by_cases hlta : a < hn
                · obtain ⟨ga, oa, x, hAx, hga, hx, hxs, cx⟩ := (hwh1.out.below hbz.out (Nat.le_refl _)).cell hlta
                  simp only at hAx hx
                  subst hAx
                  have hcall := l_in1 ⟨tA, iN + on, tc, il ++ ol⟩ x wr (htok.out.below (Below.callB hbE.out hbz.out) (Nat.le_refl _))
                  have hpr : inS (il ++ ol) x = true := by
                    have h := hwh x (List.mem_of_getElem? hx)
                    unfold pres at h
                    unfold inS at h ⊢
                    rw [List.any_append]
                    exact h
                  simp only [hpr] at hcall
                  clear hpr
                  have hna : hn ≤ 17592186044416 := Nat.le_trans hwh1.out.2.2.1 (by decide)
                  clear hx
                  go_wp2_with (go_at_call 19; refine hcall.mono ?_; rintro e w9 ⟨rfl, hb9⟩)
                  have hbq := Lib.hid (Below.callB hbr1 hb9)
                  go_roundw
                  case rel => exact RA.next hbq.out hlta (by go_num) (fun _ _ => trivial) trivial
                  case measure => simp [intOf]; omega
                · obtain ⟨wz2, hww⟩ : ∃ wz2, wz2 = wr := ⟨_, rfl⟩
                  subst hww
                  have hbz2 := Lib.hid hbz.out
                  have hOv2 := Lib.hid (hOv.out.call hbr1)
                  have wv3 := (hOv.out.call hbr1).b0.cell 3
                  simp only [List.getElem?_toArray, List.getElem?_cons_zero, List.getElem?_cons_succ] at wv3
                  clear hbz
                  go_wp2_with fail
                  go_loopw [115] (fun v wr => RA wz2 nn (fun _ => True) v wr) (fun i _ => nn - (intOf i).toNat)
                  case atStart => exact ⟨Below.refl _ _, 0, by omega, rfl, fun j hj => absurd hj (Nat.not_lt_zero _)⟩
                  case round =>
                    obtain ⟨hbr1, a, ha, rfl, -⟩ := hrel
                    have hbz := Lib.hid (Below.callB hbz2.out hbr1)
                    by_cases hlta : a < nn
                    · obtain ⟨ga, oa, x, hAx, hga, hx, hxs, cx⟩ := (hno1.out.below hbz.out (Nat.le_refl _)).cell hlta
                      simp only at hAx hx
                      subst hAx
                      have hcall := l_in1 ⟨tA, iN + on, tc, il ++ ol⟩ x wr (htok.out.below (Below.callB hbE.out hbz.out) (Nat.le_refl _))
                      have hpr : inS (il ++ ol) x = false := by
                        have h := hno x (List.mem_of_getElem? hx)
                        unfold pres at h
                        unfold inS at h ⊢
                        rw [List.any_append]
                        exact h
                      simp only [hpr] at hcall
                      clear hpr
                      have hna : nn ≤ 17592186044416 := Nat.le_trans hno1.out.2.2.1 (by decide)
                      clear hx
                      go_wp2_with (go_at_call 19; refine hcall.mono ?_; rintro e w9 ⟨rfl, hb9⟩)
                      have hbq := Lib.hid (Below.callB hbr1 hb9)
                      go_roundw
                      case rel => exact RA.next hbq.out hlta (by go_num) (fun _ _ => trivial) trivial
                      case measure => simp [intOf]; omega
                    · obtain ⟨wz3, hww⟩ : ∃ wz3, wz3 = wr := ⟨_, rfl⟩
                      subst hww
                      have hbz3 := Lib.hid hbz.out
                      have wv4 := (hOv2.out.call hbr1).b0.cell 4
                      simp only [List.getElem?_toArray, List.getElem?_cons_zero, List.getElem?_cons_succ] at wv4
                      clear hbz
                      go_wp2_with fail
                      go_loopw [126] (fun v wr => RA wz3 en (fun _ => True) v wr) (fun i _ => en - (intOf i).toNat)
                      case atStart => exact ⟨Below.refl _ _, 0, by omega, rfl, fun j hj => absurd hj (Nat.not_lt_zero _)⟩
                      case round =>
                        obtain ⟨hbr1, a, ha, rfl, -⟩ := hrel
                        have hbz := Lib.hid (Below.callB hbz3.out hbr1)
                        by_cases hlta : a < en
                        · obtain ⟨ga, oa, x, hAx, hga, hx, hxs, cx⟩ := (hem1.out.below hbz.out (Nat.le_refl _)).cell hlta
                          simp only at hAx hx
                          subst hAx
                          have hx3 := hxc.out.call (Below.callB hbE.out hbz.out)
                          have x2 := hx3.cell 2
                          simp only [List.getElem?_toArray, List.getElem?_cons_zero, List.getElem?_cons_succ] at x2
                          have hxo2 : inS zl x = true := by rw [hxo]; exact inS_iff.2 (hem x (List.mem_of_getElem? hx))
                          have hcall := l_in1 ⟨zA, zn, zc, zl⟩ x wr (hzc.out.below (Below.callB hbE.out hbz.out) (Nat.le_refl _))
                          simp only [hxo2] at hcall
                          clear hxo2 hx3
                          have hna : en ≤ 17592186044416 := Nat.le_trans hem1.out.2.2.1 (by decide)
                          clear hx
                          go_wp2_with (go_at_call 19; refine hcall.mono ?_; rintro e w9 ⟨rfl, hb9⟩)
                          have hbq := Lib.hid (Below.callB hbr1 hb9)
                          go_roundw
                          case rel => exact RA.next hbq.out hlta (by go_num) (fun _ _ => trivial) trivial
                          case measure => simp [intOf]; omega
                        · obtain ⟨wz4, hww⟩ : ∃ wz4, wz4 = wr := ⟨_, rfl⟩
                          subst hww
                          have hbw := Lib.hid (Below.callB hbE.out hbz.out)
                          clear hbz
                          have hfin := Lib.hid hbw.out
                          go_wp2_with fail
                          go_roundw
                          case rel => exact RA.next hfin.out hlt (by go_num) (fun _ _ => trivial) trivial
                          case measure => simp [intOf]; omega
        · go_wp2_with (go_at_call 17; refine (hkn.out _).mono ?_; rintro e w9 ⟨rfl, hb9⟩)
          go_ret
          exact ⟨rfl, Below.callB (Below.callB hOc.out.1 hbr) hb9⟩
  · have hVb : (rErr ⟨A, n, cc, l⟩ ⟨⟨gA, gn, gc, gl⟩, ⟨fA, fn, fc, fl⟩, ⟨oA, on, oc, ol⟩⟩ ⟨iA, iN, ic, il⟩ == 0) = false := by simpa using h0
    have hVc : (rErr ⟨A, n, cc, l⟩ ⟨⟨gA, gn, gc, gl⟩, ⟨fA, fn, fc, fl⟩, ⟨oA, on, oc, ol⟩⟩ ⟨iA, iN, ic, il⟩ != 0) = true := by simpa using h0
    unfold Reacted at hre
    generalize rErr ⟨A, n, cc, l⟩ ⟨⟨gA, gn, gc, gl⟩, ⟨fA, fn, fc, fl⟩, ⟨oA, on, oc, ol⟩⟩ ⟨iA, iN, ic, il⟩ = E at hre hVb hVc
    clear h0
    go_enter Try.func4, Try.ntmps4
    go_wp2_with (first
      | (go_at_call 15; refine hre.mono ?_; rintro e w3 ⟨⟨⟨xA, xn, xc, xl⟩, ⟨yA, yn, yc, yl⟩, ⟨zA, zn, zc, zl⟩⟩, dA, dc, rfl, -, -, -, -, -, -, hb3⟩; have hb4 := Lib.hid (Below.moreB (Below.callB hO0.out.1 hb3) (.cells #[.slice xA xn xc, .slice yA yn yc, .slice zA zn zc] 29)))
      | (go_at_call 17; refine (hkn.out _).mono ?_; rintro e w5 ⟨rfl, hb5⟩))
    go_ret
    exact ⟨rfl, Below.callB hb4.out hb5⟩

end Go.Proofs.Ytgjmbmlmopomgaa
