/- The law ChartReacts. (printed by gen_jh.py) -/
import Derived.Test.YtgjmbmlmopomgaaJg
import Derived.Test.YtgjmbmlmopomgaaHd
import Derived.Test.YtgjmbmlmopomgaaEe
import Derived.Test.YtgjmbmlmopomgaaCs
import Derived.Test.YtgjmbmlmopomgaaCu
import Derived.Test.YtgjmbmlmopomgaaZr1
namespace Go.Proofs.Ytgjmbmlmopomgaa
open Go.RowKit Go.Maps Lib
set_option linter.unusedSimpArgs false
set_option linter.unusedVariables false

set_option maxRecDepth 100000 in
set_option maxHeartbeats 4000000 in
theorem l_sameI (a b : NL) (w : World) (ha : a.ok w) (hb : b.ok w) (he : a.l = b.l) : Calls Try.prog 14 #[.slice a.A a.n a.c, .slice b.A b.n b.c] w fun e w' => e = .returned (.bool true) ∧ Below w.heap.size w w' := by
  obtain ⟨A, n, c, l⟩ := a
  obtain ⟨A2, n2, c2, l2⟩ := b
  simp only at he
  subst he
  obtain rfl : n = n2 := by have h1 := ha.1; have h2 := hb.1; simp only at h1 h2; omega
  have hl := ha.1
  have hn : n ≤ 17592186044416 := ha.2.2.1
  replace ha := Lib.hid ha
  replace hb := Lib.hid hb
  simp only at hl ⊢
  have hb0 := Below.refl w.heap.size w
  go_enter Try.func14, Try.ntmps14
  go_wp2_with fail
  go_loopw [13] (fun v13 wr => RA w n (fun j => True) v13 wr) (fun i _ => n - (intOf i).toNat)
  case atStart => exact ⟨hb0, 0, by omega, rfl, fun j hj => absurd hj (Nat.not_lt_zero _)⟩
  case round =>
    obtain ⟨hbr, i, hi, rfl, hP⟩ := hrel
    clear hP
    by_cases hlt : i < n
    · obtain ⟨g, o, y, hA, hg, hx, hxs, c0⟩ := (ha.out.below hbr (Nat.le_refl _)).cell hlt
      obtain ⟨g2, o2, y2, hA2, hg2, hx2, hxs2, c02⟩ := (hb.out.below hbr (Nat.le_refl _)).cell hlt
      simp only at hA hx hA2 hx2
      rw [hx] at hx2
      cases hx2
      subst hA
      subst hA2
      clear hx
      have hbd := hbr.drew
      go_wp2_with fail
      go_region
      all_goals go_wp2_with fail
      all_goals go_roundw
      case rel => exact RA.next hbd hlt (by go_num) (fun _ _ => trivial) trivial
      case measure => simp [intOf]; omega
    · go_wp2_with fail
      go_ret
      exact ⟨rfl, hbr⟩

theorem dn_cell2 {w : World} {B : Nat} {dA : Option Addr} {dc : Nat} {D : List (Nat × Nat)} (h : w.ownsRow B 42 2 (.slice dA D.length dc) D.length (dv D)) {i : Nat} (hi : i < D.length) : ∃ g p, dA = some ⟨g, 0, none⟩ ∧ g < w.heap.size ∧ D[i]? = some p ∧ w.cell? ⟨g, i * 2, none⟩ = some (.int .i64 (p.1 : Int)) ∧ w.cell? ⟨g, i * 2 + 1, none⟩ = some (.int .i64 (p.2 : Int)) := by
  have hget : ∀ {D : List (Nat × Nat)} {i : Nat} {p : Nat × Nat}, D[i]? = some p → (dv D)[i * 2]? = some (.int .i64 (p.1 : Int)) ∧ (dv D)[i * 2 + 1]? = some (.int .i64 (p.2 : Int)) := by
    intro D
    induction D with
    | nil => intro i p h; simp at h
    | cons q D ih =>
      intro i p h
      cases i with
      | zero =>
        simp at h
        subst h
        simp [dv]
      | succ i =>
        have h2 := ih (i := i) (p := p) (by simpa using h)
        rw [show (i + 1) * 2 = i * 2 + 1 + 1 by omega]
        simpa [dv] using h2
  obtain ⟨g, cap, e, -, hlt⟩ := h.form (by omega)
  have hA : dA = some ⟨g, 0, none⟩ := by injection e
  subst hA
  have hc := h.cells (g := g) rfl
  have e2 : D[i]? = some D[i] := List.getElem?_eq_getElem hi
  obtain ⟨h1, h2⟩ := hget e2
  have c1 := hc _ _ h1
  have c2 := hc _ _ h2
  rw [addr_add, Nat.zero_add] at c1 c2
  exact ⟨g, _, rfl, hlt, e2, c1, c2⟩

set_option maxRecDepth 100000 in
set_option maxHeartbeats 8000000 in
theorem law23_ChartReacts (c : CV) (g : GV) (i : SL) (w : World) (hc : c.ok w) (hg : g.ok w) (hi : i.ok w) (hgo : g.out.n ≤ 8796093021952) :
    Calls Try.prog 3 #[.agg #[.slice c.A c.n c.c], .agg #[.slice g.st.A g.st.n g.st.c, .slice g.fr.A g.fr.n g.fr.c, .slice g.out.A g.out.n g.out.c], .slice i.A i.n i.c] w fun e w' => e = .returned (.bool true) ∧ Below w.heap.size w w' := by
  have hO0 := Own.two w 24 29 #[.slice c.A c.n c.c] #[.slice g.st.A g.st.n g.st.c, .slice g.fr.A g.fr.n g.fr.c, .slice g.out.A g.out.n g.out.c]
  have hms := fun W (hb : Below w.heap.size w W) => m_Start c W (hc.below hb (Nat.le_refl _))
  have hrs := fun W (hb : Below w.heap.size w W) => r_Start c W (hc.below hb (Nat.le_refl _))
  have hmv := fun W (hb : Below w.heap.size w W) => m_valid c W (hc.below hb (Nat.le_refl _))
  have hrv := fun W (hb : Below w.heap.size w W) => r_valid c W (hc.below hb (Nat.le_refl _))
  have hma := fun W (hb : Below w.heap.size w W) => m_Active c g W (hc.below hb (Nat.le_refl _)) (hg.below hb (Nat.le_refl _))
  have hra := fun W (hb : Below w.heap.size w W) => r_Active c g W (hc.below hb (Nat.le_refl _)) (hg.below hb (Nat.le_refl _))
  have hmr := fun W (hb : Below w.heap.size w W) => m_React c g i W (hc.below hb (Nat.le_refl _)) (hg.below hb (Nat.le_refl _)) (hi.below hb (Nat.le_refl _))
  have hrr := fun W (hb : Below w.heap.size w W) => r_React c g i W (hc.below hb (Nat.le_refl _)) (hg.below hb (Nat.le_refl _)) (hi.below hb (Nat.le_refl _)) hgo
  unfold Reacted at hmr hrr
  have hdl : (reD c g i).length ≤ 1000000 := by
    unfold reD
    by_cases h0 : rErr c g i = 0
    · rw [if_pos h0]
      have hk0 : g.known c = 0 := by
        unfold rErr at h0
        by_cases h : g.known c = 0
        · exact h
        · rw [if_neg h] at h0; exact absurd h0 h
      have hv := (GV.known_fine hk0).1
      have h6 := CV.six hv
      have h1 := (rto_bound hc hv (fnI g.st.l) (fnB g.fr.l) (pres i g.out) (fnI_in64 hg.1.2.2.2.1) c.l.length).d
      have h2 := hc.1
      show (rto c.l (fnI g.st.l) (fnB g.fr.l) (pres i g.out) c.l.length _).D.length ≤ _
      omega
    · rw [if_neg h0]; simp
  generalize c.valid = V at hms hrs hmv hrv
  generalize g.known c = K at hma hra
  generalize rErr c g i = E at hmr hrr
  generalize reD c g i = D at hmr hrr hdl
  generalize begS c = X1 at hms hrs
  generalize begF c = X2 at hms hrs
  generalize actS c g = X3 at hma hra
  generalize reS c g i = X4 at hmr hrr
  generalize reF c g i = X5 at hmr hrr
  generalize reO c g i = X6 at hmr hrr
  clear hc hg hi hgo
  obtain ⟨A, n, cc, l⟩ := c
  obtain ⟨⟨gA, gn, gc, gl⟩, ⟨fA, fn, fc, fl⟩, ⟨oA, on, oc, ol⟩⟩ := g
  obtain ⟨iA, iN, ic, il⟩ := i
  simp only at hms hrs hmv hrv hma hra hmr hrr ⊢ hO0
  have hkn := Lib.hid l_known
  have hVV : (V != V) = false := by simp
  have hVe : (V == V) = true := by simp
  have hKV : (K != K) = false := by simp
  have hKe : (K == K) = true := by simp
  have hEV : (E != E) = false := by simp
  have hEe : (E == E) = true := by simp
  replace hO0 := Lib.hid hO0
  replace hms := Lib.hid hms
  replace hrs := Lib.hid hrs
  replace hmv := Lib.hid hmv
  replace hrv := Lib.hid hrv
  replace hma := Lib.hid hma
  replace hra := Lib.hid hra
  replace hmr := Lib.hid hmr
  replace hrr := Lib.hid hrr
  have hms0 := hms.out _ hO0.out.1
  go_enter Try.func3, Try.ntmps3
  go_upto_region 3 with (first
    | (go_at_call 7; refine hms0.mono ?_; rintro e w3 ⟨⟨⟨aA, an, ac, al⟩, ⟨bA, bn, bc, bl⟩, ⟨dA, dn, dc, dl⟩⟩, rfl, hok3, hnw3, ha1, ha2, ha3, hb3⟩
       have hb4 := (Below.refl w3.heap.size w3).alloc (Nat.le_refl _) (.cells #[.slice aA an ac, .slice bA bn bc, .slice dA dn dc] 29)
       have hO4 := Lib.hid ((hO0.out.call hb3).call hb4)
       have hrs4 := hrs.out _ hO4.out.1
       have a0 := hO4.out.b0.cell 0
       simp only [List.getElem?_toArray, List.getElem?_cons_zero] at a0
       obtain ⟨x0, x1, x2, x3, x4, x5⟩ := blkT (Blk.new w3 29 #[.slice none 0 0, .slice none 0 0, .slice none 0 0]))
    | (go_at_call 8; refine hrs4.mono ?_; rintro e w5 ⟨⟨⟨pA, pn, pc, pl⟩, ⟨qA, qn, qc, ql⟩, ⟨sA, sn, sc, sl⟩⟩, rfl, hok5, hnw5, hp1, hp2, hp3, hb5⟩
       obtain ⟨y0, y1, y2, y3, y4, y5⟩ := blkT (Blk.new w5 29 #[.slice none 0 0, .slice none 0 0, .slice none 0 0])))
  have hb6 := (Below.refl w5.heap.size w5).alloc (Nat.le_refl _) (.cells #[.slice pA pn pc, .slice qA qn qc, .slice sA sn sc] 29)
  have hO6 := (hO4.out.call hb5).call hb6
  have hX6 := ((Blk.new w3 29 #[.slice aA an ac, .slice bA bn bc, .slice dA dn dc]).call hb5).call hb6
  have hY6 := Blk.new w5 29 #[.slice pA pn pc, .slice qA qn qc, .slice sA sn sc]
  have hok36 := ((hok3.below hb4 (Nat.le_refl _)).below hb5 (Nat.le_refl _)).below hb6 (Nat.le_refl _)
  have hok56 := hok5.below hb6 (Nat.le_refl _)
  have hXY : w3.heap.size < w5.heap.size := Nat.lt_of_lt_of_le (Blk.new w3 29 #[.slice aA an ac, .slice bA bn bc, .slice dA dn dc]).lt hb5.size
  have hX2 : w.heap.size + 2 ≤ w3.heap.size := (hO0.out.call hb3).2.1
  obtain ⟨w6, hw6⟩ : ∃ w6, w6 = w5.alloc (.cells #[.slice pA pn pc, .slice qA qn qc, .slice sA sn sc] 29) := ⟨_, rfl⟩
  obtain ⟨gX, hgX⟩ : ∃ gX, gX = w3.heap.size := ⟨_, rfl⟩
  obtain ⟨gY, hgY⟩ : ∃ gY, gY = w5.heap.size := ⟨_, rfl⟩
  rw [← hw6] at hO6 hX6 hY6 hok36 hok56 ⊢
  rw [← hgX] at hX6 hXY hX2 ⊢
  rw [← hgY] at hY6 hXY ⊢
  clear hw6 hgX hgY hb3 hb4 hb5 hb6 hok3 hok5 hnw3 hnw5 hms0 hrs4 a0 x0 x1 x2 x3 x4 x5 y0 y1 y2 y3 y4 y5
  have hcf := fun W (hb : Below w6.heap.size w6 W) => l_cfg _ _ W (hok36.below hb (Nat.le_refl _)) (hok56.below hb (Nat.le_refl _)) (show CF.mk _ _ _ = CF.mk _ _ _ by (try simp only at ha1 ha2 ha3 hp1 hp2 hp3); rw [ha1, ha2, ha3, hp1, hp2, hp3])
  simp only at hcf
  replace hcf := Lib.hid hcf
  replace hX6 := Lib.hid hX6
  replace hY6 := Lib.hid hY6
  replace hO6 := Lib.hid hO6
  clear ha1 ha2 ha3 hp1 hp2 hp3 hok36 hok56
  go_cut [41] from 26 to 41 (fun v41 wc => v41 = .bool false ∧ Below w6.heap.size w6 wc)
  case first =>
    have hS : (fun w' : World => w'.cell? ⟨w.heap.size, 0, none⟩ = some (.slice A n cc) ∧ w'.cell? ⟨gX, 0, none⟩ = some (.slice aA an ac) ∧ w'.cell? ⟨gX, 1, none⟩ = some (.slice bA bn bc) ∧ w'.cell? ⟨gX, 2, none⟩ = some (.slice dA dn dc) ∧ w'.cell? ⟨gY, 0, none⟩ = some (.slice pA pn pc) ∧ w'.cell? ⟨gY, 1, none⟩ = some (.slice qA qn qc) ∧ w'.cell? ⟨gY, 2, none⟩ = some (.slice sA sn sc)) w6.drew := ⟨hO6.out.b0.cell 0, hX6.out.cell 0, hX6.out.cell 1, hX6.out.cell 2, hY6.out.cell 0, hY6.out.cell 1, hY6.out.cell 2⟩
    have hSb : Hid (∀ w', Below w6.heap.size w6 w' → (fun w' : World => w'.cell? ⟨w.heap.size, 0, none⟩ = some (.slice A n cc) ∧ w'.cell? ⟨gX, 0, none⟩ = some (.slice aA an ac) ∧ w'.cell? ⟨gX, 1, none⟩ = some (.slice bA bn bc) ∧ w'.cell? ⟨gX, 2, none⟩ = some (.slice dA dn dc) ∧ w'.cell? ⟨gY, 0, none⟩ = some (.slice pA pn pc) ∧ w'.cell? ⟨gY, 1, none⟩ = some (.slice qA qn qc) ∧ w'.cell? ⟨gY, 2, none⟩ = some (.slice sA sn sc)) w') := fun w' hb => ⟨(hb.cell (p := ⟨w.heap.size, 0, none⟩) (hO6.out.b0.lt)).trans (hO6.out.b0.cell 0), (hb.cell (p := ⟨gX, 0, none⟩) (hX6.out.lt)).trans (hX6.out.cell 0), (hb.cell (p := ⟨gX, 1, none⟩) (hX6.out.lt)).trans (hX6.out.cell 1), (hb.cell (p := ⟨gX, 2, none⟩) (hX6.out.lt)).trans (hX6.out.cell 2), (hb.cell (p := ⟨gY, 0, none⟩) (hY6.out.lt)).trans (hY6.out.cell 0), (hb.cell (p := ⟨gY, 1, none⟩) (hY6.out.lt)).trans (hY6.out.cell 1), (hb.cell (p := ⟨gY, 2, none⟩) (hY6.out.lt)).trans (hY6.out.cell 2)⟩
    refine wp_region_K (S := (fun w' : World => w'.cell? ⟨w.heap.size, 0, none⟩ = some (.slice A n cc) ∧ w'.cell? ⟨gX, 0, none⟩ = some (.slice aA an ac) ∧ w'.cell? ⟨gX, 1, none⟩ = some (.slice bA bn bc) ∧ w'.cell? ⟨gX, 2, none⟩ = some (.slice dA dn dc) ∧ w'.cell? ⟨gY, 0, none⟩ = some (.slice pA pn pc) ∧ w'.cell? ⟨gY, 1, none⟩ = some (.slice qA qn qc) ∧ w'.cell? ⟨gY, 2, none⟩ = some (.slice sA sn sc))) (K := []) (by kernel_rfl) ?_
    simp only at hS
    refine AnyK.take (i := 0) (v := .agg #[.slice A n cc]) rfl (by kernel_rfl) (by kernel_rfl) (by kernel_rfl) (by kernel_rfl) (by kernel_rfl) (by kernel_rfl) (fun _ _ _ h => h) (Or.inl ⟨by kernel_rfl, ?_⟩) hS ?_
    · rintro w' ⟨z0, z1, z2, z3, z4, z5, z6⟩
      go_simp
    (try simp only [Act.put, List.getElem_toArray, List.getElem_cons_succ, List.getElem_cons_zero, List.setIfInBounds_toArray, List.set_cons_zero, List.set_cons_succ])
    refine AnyK.take (i := 2) (v := .agg #[.slice A n cc]) rfl (by kernel_rfl) (by kernel_rfl) (by kernel_rfl) (by kernel_rfl) (by kernel_rfl) (by kernel_rfl) (fun _ _ _ h => h) (Or.inl ⟨by kernel_rfl, ?_⟩) hS ?_
    · rintro w' ⟨z0, z1, z2, z3, z4, z5, z6⟩
      go_simp
    (try simp only [Act.put, List.getElem_toArray, List.getElem_cons_succ, List.getElem_cons_zero, List.setIfInBounds_toArray, List.set_cons_zero, List.set_cons_succ])
    refine AnyK.one (i := 1) (by kernel_rfl) rfl (fun K' hK => ?_)
    go_simp
    refine (hmv.out w6.drew (hO6.out.drew).1).mono ?_
    rintro e w7 ⟨rfl, hb7⟩
    have hb7' : Below w6.heap.size w6 w7 := Below.callB (Below.refl _ _).drew hb7
    replace hS := hSb.out w7 (hb7')
    refine hK.out _ _ (fun _ => hS) ?_
    clear hK
    (try simp only [Act.put, List.getElem_toArray, List.getElem_cons_succ, List.getElem_cons_zero, List.setIfInBounds_toArray, List.set_cons_zero, List.set_cons_succ])
    refine AnyK.one (i := 3) (by kernel_rfl) rfl (fun K' hK => ?_)
    go_simp
    refine (hrv.out w7 (hO6.out.call hb7').1).mono ?_
    rintro e w8 ⟨rfl, hb8⟩
    have hb8' : Below w6.heap.size w6 w8 := Below.callB hb7' hb8
    replace hS := hSb.out w8 (hb8')
    refine hK.out _ _ (fun _ => hS) ?_
    clear hK
    (try simp only [Act.put, List.getElem_toArray, List.getElem_cons_succ, List.getElem_cons_zero, List.setIfInBounds_toArray, List.set_cons_zero, List.set_cons_succ])
    refine AnyK.take (i := 4) (v := .bool false) rfl (by kernel_rfl) (by kernel_rfl) (by kernel_rfl) (by kernel_rfl) (by kernel_rfl) (by kernel_rfl) (fun _ _ _ h => h) (Or.inl ⟨by kernel_rfl, ?_⟩) hS ?_
    · rintro w' ⟨z0, z1, z2, z3, z4, z5, z6⟩
      go_simp
    (try simp only [Act.put, List.getElem_toArray, List.getElem_cons_succ, List.getElem_cons_zero, List.setIfInBounds_toArray, List.set_cons_zero, List.set_cons_succ])
    refine AnyK.take (i := 5) (v := .bool false) rfl (by kernel_rfl) (by kernel_rfl) (by kernel_rfl) (by kernel_rfl) (by kernel_rfl) (by kernel_rfl) (fun _ _ _ h => h) (Or.inl ⟨by kernel_rfl, fun w' _ => by kernel_rfl⟩) hS ?_
    (try simp only [Act.put, List.getElem_toArray, List.getElem_cons_succ, List.getElem_cons_zero, List.setIfInBounds_toArray, List.set_cons_zero, List.set_cons_succ])
    refine AnyK.take (i := 6) (v := .agg #[.slice aA an ac, .slice bA bn bc, .slice dA dn dc]) rfl (by kernel_rfl) (by kernel_rfl) (by kernel_rfl) (by kernel_rfl) (by kernel_rfl) (by kernel_rfl) (fun _ _ _ h => h) (Or.inl ⟨by kernel_rfl, ?_⟩) hS ?_
    · rintro w' ⟨z0, z1, z2, z3, z4, z5, z6⟩
      go_simp
    (try simp only [Act.put, List.getElem_toArray, List.getElem_cons_succ, List.getElem_cons_zero, List.setIfInBounds_toArray, List.set_cons_zero, List.set_cons_succ])
    refine AnyK.take (i := 7) (v := .agg #[.slice pA pn pc, .slice qA qn qc, .slice sA sn sc]) rfl (by kernel_rfl) (by kernel_rfl) (by kernel_rfl) (by kernel_rfl) (by kernel_rfl) (by kernel_rfl) (fun _ _ _ h => h) (Or.inl ⟨by kernel_rfl, ?_⟩) hS ?_
    · rintro w' ⟨z0, z1, z2, z3, z4, z5, z6⟩
      go_simp
    (try simp only [Act.put, List.getElem_toArray, List.getElem_cons_succ, List.getElem_cons_zero, List.setIfInBounds_toArray, List.set_cons_zero, List.set_cons_succ])
    refine AnyK.one (i := 8) (by kernel_rfl) rfl (fun K' hK => ?_)
    go_simp
    refine (hcf.out w8 hb8').mono ?_
    rintro e w9 ⟨rfl, hb9⟩
    have hb9' : Below w6.heap.size w6 w9 := Below.callB hb8' hb9
    replace hS := hSb.out w9 (hb9')
    refine hK.out _ _ (fun _ => hS) ?_
    clear hK
    (try simp only [Act.put, List.getElem_toArray, List.getElem_cons_succ, List.getElem_cons_zero, List.setIfInBounds_toArray, List.set_cons_zero, List.set_cons_succ])
    refine AnyK.take (i := 9) (v := .bool false) rfl (by kernel_rfl) (by kernel_rfl) (by kernel_rfl) (by kernel_rfl) (by kernel_rfl) (by kernel_rfl) (fun _ _ _ h => h) (Or.inl ⟨by kernel_rfl, fun w' _ => by kernel_rfl⟩) hS ?_
    (try simp only [Act.put, List.getElem_toArray, List.getElem_cons_succ, List.getElem_cons_zero, List.setIfInBounds_toArray, List.set_cons_zero, List.set_cons_succ])
    refine AnyK.take (i := 10) (v := .bool false) rfl (by kernel_rfl) (by kernel_rfl) (by kernel_rfl) (by kernel_rfl) (by kernel_rfl) (by kernel_rfl) (fun _ _ _ h => h) (Or.inl ⟨by kernel_rfl, fun w' _ => by kernel_rfl⟩) hS ?_
    (try simp only [Act.put, List.getElem_toArray, List.getElem_cons_succ, List.getElem_cons_zero, List.setIfInBounds_toArray, List.set_cons_zero, List.set_cons_succ])
    refine AnyK.take (i := 11) (v := .bool false) rfl (by kernel_rfl) (by kernel_rfl) (by kernel_rfl) (by kernel_rfl) (by kernel_rfl) (by kernel_rfl) (fun _ _ _ h => h) (Or.inl ⟨by kernel_rfl, fun w' _ => by kernel_rfl⟩) hS ?_
    (try simp only [Act.put, List.getElem_toArray, List.getElem_cons_succ, List.getElem_cons_zero, List.setIfInBounds_toArray, List.set_cons_zero, List.set_cons_succ])
    refine AnyK.take (i := 12) (v := .int .i64 V) rfl (by kernel_rfl) (by kernel_rfl) (by kernel_rfl) (by kernel_rfl) (by kernel_rfl) (by kernel_rfl) (fun _ _ _ h => h) (Or.inl ⟨by kernel_rfl, fun w' _ => by kernel_rfl⟩) hS ?_
    (try simp only [Act.put, List.getElem_toArray, List.getElem_cons_succ, List.getElem_cons_zero, List.setIfInBounds_toArray, List.set_cons_zero, List.set_cons_succ])
    refine AnyK.take (i := 13) (v := .int .i64 V) rfl (by kernel_rfl) (by kernel_rfl) (by kernel_rfl) (by kernel_rfl) (by kernel_rfl) (by kernel_rfl) (fun _ _ _ h => h) (Or.inl ⟨by kernel_rfl, fun w' _ => by kernel_rfl⟩) hS ?_
    (try simp only [Act.put, List.getElem_toArray, List.getElem_cons_succ, List.getElem_cons_zero, List.setIfInBounds_toArray, List.set_cons_zero, List.set_cons_succ])
    refine AnyK.take (i := 14) (v := .bool false) rfl (by kernel_rfl) (by kernel_rfl) (by kernel_rfl) (by kernel_rfl) (by kernel_rfl) (by kernel_rfl) (fun _ _ _ h => h) (Or.inl ⟨by kernel_rfl, ?_⟩) hS ?_
    · rintro w' ⟨z0, z1, z2, z3, z4, z5, z6⟩
      go_simp
    (try simp only [Act.put, List.getElem_toArray, List.getElem_cons_succ, List.getElem_cons_zero, List.setIfInBounds_toArray, List.set_cons_zero, List.set_cons_succ])
    refine AnyK.take (i := 15) (v := .bool false) rfl (by kernel_rfl) (by kernel_rfl) (by kernel_rfl) (by kernel_rfl) (by kernel_rfl) (by kernel_rfl) (fun _ _ _ h => h) (Or.inl ⟨by kernel_rfl, fun w' _ => by kernel_rfl⟩) hS ?_
    (try simp only [Act.put, List.getElem_toArray, List.getElem_cons_succ, List.getElem_cons_zero, List.setIfInBounds_toArray, List.set_cons_zero, List.set_cons_succ])
    refine AnyK.done (by kernel_rfl) ?_ _
    clear hS hSb
    go_wp2_with fail
    go_meet
    exact ⟨by first | rfl | kernel_rfl, hb9'⟩
  case rest =>
    obtain ⟨rfl, hb7⟩ := hcut
    have hO7 := Lib.hid (hO6.out.call hb7)
    have hX7 := Lib.hid (hX6.out.call hb7)
    have hY7 := Lib.hid (hY6.out.call hb7)
    obtain ⟨w7, hw7⟩ : ∃ w7, w7 = wc := ⟨_, rfl⟩
    subst hw7
    clear hO6 hX6 hY6 hb7 hcf
    have hma7 := hma.out _ hO7.out.1
    have a0 := hO7.out.b0.cell 0
    have b0 := hO7.out.b1.cell 0
    have b1 := hO7.out.b1.cell 1
    have b2 := hO7.out.b1.cell 2
    simp only [List.getElem?_toArray, List.getElem?_cons_zero, List.getElem?_cons_succ] at a0 b0 b1 b2
    go_upto_region 9 with (first
      | (go_at_call 12; refine hma7.mono ?_; rintro e w8 ⟨⟨LA, Ln, Lc, Ll⟩, rfl, hLok, hLl, hb8⟩
         have hO8 := Lib.hid (hO7.out.call hb8)
         have hra8 := hra.out _ hO8.out.1
         have a0 := hO8.out.b0.cell 0
         have b0 := hO8.out.b1.cell 0
         have b1 := hO8.out.b1.cell 1
         have b2 := hO8.out.b1.cell 2
         simp only [List.getElem?_toArray, List.getElem?_cons_zero, List.getElem?_cons_succ] at a0 b0 b1 b2)
      | (go_at_call 13; refine hra8.mono ?_; rintro e w9 ⟨⟨MA, Mn, Mc, Ml⟩, rfl, hMok, hMl, hb9⟩
         have hO9 := Lib.hid (hO8.out.call hb9)
         have hsi := l_sameI ⟨LA, Ln, Lc, Ll⟩ ⟨MA, Mn, Mc, Ml⟩ w9 (hLok.below hb9 (Nat.le_refl _)) hMok (hLl.trans hMl.symm)
         simp only at hsi)
      | (go_at_call 14; refine hsi.mono ?_; rintro e w10 ⟨rfl, hb10⟩
         have hb10' := Lib.hid (Below.callB (Below.callB hb8 hb9) hb10)))
    have hO10 := Lib.hid (hO7.out.call hb10'.out)
    have hX10 := Lib.hid (hX7.out.call hb10'.out)
    have hY10 := Lib.hid (hY7.out.call hb10'.out)
    clear hb8 hb9 hb10 hb10' hLok hMok hLl hMl hsi hra8 hma7 hO8 hO9 hO7 hX7 hY7 a0 b0 b1 b2
    have hmr10 := hmr.out _ hO10.out.1
    have a0 := hO10.out.b0.cell 0
    have b0 := hO10.out.b1.cell 0
    have b1 := hO10.out.b1.cell 1
    have b2 := hO10.out.b1.cell 2
    simp only [List.getElem?_toArray, List.getElem?_cons_zero, List.getElem?_cons_succ] at a0 b0 b1 b2
    go_upto_region 10 with (go_at_call 15; refine hmr10.mono ?_; rintro e w11 ⟨⟨⟨aA', an', ac', al'⟩, ⟨bA', bn', bc', bl'⟩, ⟨dA', dn', dc', dl'⟩⟩, eA, ec, rfl, hok11, hnw11, ha1, ha2, ha3, hdn11, hb11⟩
                            obtain ⟨x0, x1, x2, x3, x4, x5⟩ := blkT (hX10.out.call hb11))
    have hgY10 := hY10.out.lt
    have hX12 := (hX10.out.call hb11).set3 (.slice aA' an' ac') (.slice bA' bn' bc') (.slice dA' dn' dc')
    have hY12 := (hY10.out.call hb11).far3 (p := gX) (by omega) (.slice aA' an' ac') (.slice bA' bn' bc') (.slice dA' dn' dc')
    have hO12 := (hO10.out.call hb11).setT (g := gX) (by simp only [List.length_cons, List.length_nil]; omega) (.slice aA' an' ac') (.slice bA' bn' bc') (.slice dA' dn' dc')
    have hok12 := hok11.set3 hnw11 (b := gX) (by omega) (.slice aA' an' ac') (.slice bA' bn' bc') (.slice dA' dn' dc')
    have hdn12 := OR.far3 hdn11 (g := gX) (by omega) (.slice aA' an' ac') (.slice bA' bn' bc') (.slice dA' dn' dc')
    obtain ⟨w12, hw12⟩ : ∃ w12, w12 = ((w11.setCell ⟨gX, 0, none⟩ (.slice aA' an' ac')).setCell ⟨gX, 1, none⟩ (.slice bA' bn' bc')).setCell ⟨gX, 2, none⟩ (.slice dA' dn' dc') := ⟨_, rfl⟩
    rw [← hw12] at hX12 hY12 hO12 hok12 hdn12 ⊢
    clear hw12 hb11 hok11 hdn11 hmr10 x0 x1 x2 x3 x4 x5 a0 b0 b1 b2
    have hgY12 := hY12.lt
    replace hO12 := Lib.hid hO12
    replace hX12 := Lib.hid hX12
    replace hY12 := Lib.hid hY12
    have hrr12 := hrr.out _ hO12.out.1
    have a0 := hO12.out.b0.cell 0
    have b0 := hO12.out.b1.cell 0
    have b1 := hO12.out.b1.cell 1
    have b2 := hO12.out.b1.cell 2
    simp only [List.getElem?_toArray, List.getElem?_cons_zero, List.getElem?_cons_succ] at a0 b0 b1 b2
    go_upto_region 11 with (go_at_call 16; refine hrr12.mono ?_; rintro e w13 ⟨⟨⟨pA', pn', pc', pl'⟩, ⟨qA', qn', qc', ql'⟩, ⟨sA', sn', sc', sl'⟩⟩, fA', fc', rfl, hok13, hnw13, hp1, hp2, hp3, hdn13, hb13⟩
                            obtain ⟨y0, y1, y2, y3, y4, y5⟩ := blkT (hY12.out.call hb13))
    have hY14 := (hY12.out.call hb13).set3 (.slice pA' pn' pc') (.slice qA' qn' qc') (.slice sA' sn' sc')
    have hX14 := (hX12.out.call hb13).far3 (p := gY) (by omega) (.slice pA' pn' pc') (.slice qA' qn' qc') (.slice sA' sn' sc')
    have hO14 := (hO12.out.call hb13).setT (g := gY) (by simp only [List.length_cons, List.length_nil]; omega) (.slice pA' pn' pc') (.slice qA' qn' qc') (.slice sA' sn' sc')
    have hok14 := (hok12.below hb13 (Nat.le_refl _)).set3 hnw11 (b := gY) (by omega) (.slice pA' pn' pc') (.slice qA' qn' qc') (.slice sA' sn' sc')
    have hdn14 := OR.far3 (OR.call hdn12 hb13) (g := gY) (by omega) (.slice pA' pn' pc') (.slice qA' qn' qc') (.slice sA' sn' sc')
    have hok15 := hok13.set3 hnw13 (b := gY) (by omega) (.slice pA' pn' pc') (.slice qA' qn' qc') (.slice sA' sn' sc')
    have hdn15 := OR.far3 hdn13 (g := gY) (by omega) (.slice pA' pn' pc') (.slice qA' qn' qc') (.slice sA' sn' sc')
    obtain ⟨w14, hw14⟩ : ∃ w14, w14 = ((w13.setCell ⟨gY, 0, none⟩ (.slice pA' pn' pc')).setCell ⟨gY, 1, none⟩ (.slice qA' qn' qc')).setCell ⟨gY, 2, none⟩ (.slice sA' sn' sc') := ⟨_, rfl⟩
    rw [← hw14] at hX14 hY14 hO14 hok14 hdn14 hok15 hdn15 ⊢
    clear hw14 hb13 hok13 hdn13 hrr12 y0 y1 y2 y3 y4 y5 a0 b0 b1 b2 hok12 hdn12 hX12 hY12 hO12 hX10 hY10 hO10
    have hcf := l_cfg _ _ w14 hok14 hok15 (show CF.mk _ _ _ = CF.mk _ _ _ by (try simp only at ha1 ha2 ha3 hp1 hp2 hp3); rw [ha1, ha2, ha3, hp1, hp2, hp3])
    simp only at hcf
    obtain ⟨x0, x1, x2, -, -, -⟩ := blkT hX14
    obtain ⟨y0, y1, y2, -, -, -⟩ := blkT hY14
    replace hO14 := Lib.hid hO14
    replace hdn14 := Lib.hid hdn14
    replace hdn15 := Lib.hid hdn15
    clear ha1 ha2 ha3 hp1 hp2 hp3 hX14 hY14 hok14 hok15
    go_upto_region 13 with (go_at_call 11; refine hcf.mono ?_; rintro e w15 ⟨rfl, hb15⟩
                            have hO15 := Lib.hid (hO14.out.call hb15)
                            have hd15 := Lib.hid (OR.call hdn14.out hb15)
                            have he15 := Lib.hid (OR.call hdn15.out hb15))
    clear x0 x1 x2 y0 y1 y2 hcf hb15 hdn14 hdn15 hO14
    go_wp2_with fail
    go_loopw [97] (fun v97 wr => RA w15 D.length (fun j => True) v97 wr) (fun i _ => D.length - (intOf i).toNat)
    case atStart => exact ⟨Below.refl _ _, 0, by omega, rfl, fun j hj => absurd hj (Nat.not_lt_zero _)⟩
    case round =>
      obtain ⟨hbr, k, hk, rfl, hP⟩ := hrel
      clear hP
      by_cases hlt : k < D.length
      · obtain ⟨g1, p1, hA1, hg1, hp1, c10, c11⟩ := dn_cell2 (OR.call hd15.out hbr) hlt
        obtain ⟨g2, p2, hA2, hg2, hp2, c20, c21⟩ := dn_cell2 (OR.call he15.out hbr) hlt
        rw [hp1] at hp2
        cases hp2
        subst hA1
        subst hA2
        clear hp1
        have hbd := hbr.drew
        go_wp2_with fail
        go_region
        all_goals go_wp2_with fail
        all_goals go_roundw
        case rel => exact RA.next hbd hlt (by go_num) (fun _ _ => trivial) trivial
        case measure => simp [intOf]; omega
      · have hOr := Lib.hid (hO15.out.call hbr)
        go_wp2_with (go_at_call 17; refine (hkn.out _).mono ?_; rintro e w16 ⟨rfl, hb16⟩)
        go_ret
        exact ⟨rfl, (hOr.out.call hb16).1⟩

end Go.Proofs.Ytgjmbmlmopomgaa
