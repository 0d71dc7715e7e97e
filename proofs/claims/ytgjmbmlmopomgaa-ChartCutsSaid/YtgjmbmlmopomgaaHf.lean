/- The law ChartCuts. (printed by gen_hf.py) -/
import Derived.Test.YtgjmbmlmopomgaaHe
import Derived.Test.YtgjmbmlmopomgaaZr1
import Derived.Test.YtgjmbmlmopomgaaZr3
namespace Go.Proofs.Ytgjmbmlmopomgaa
open Go.RowKit Go.Maps Lib
set_option linter.unusedSimpArgs false
set_option linter.unusedVariables false

theorem runOk_len {w : World} {L : RL} {l : List McV} {x : CF} {ins : List (List ByteArray)} {n : Nat} (h : L.ok w) (hl : L.l.map SL.l = x.outs l ins) (hn : ins.length = n) : L.n = n := by
  have h1 := congrArg List.length hl
  rw [List.length_map, CF.outs_len] at h1
  have h2 := h.1
  omega

set_option maxRecDepth 100000 in
set_option maxHeartbeats 8000000 in
theorem law23_ChartCuts (c : CV) (g : GV) (r : RL) (cut : Int) (w : World) (hc : c.ok w) (hg : g.ok w) (hr : r.ok w) (hcut : In64 cut) :
    Calls Try.prog 6 #[.agg #[.slice c.A c.n c.c], .agg #[.slice g.st.A g.st.n g.st.c, .slice g.fr.A g.fr.n g.fr.c, .slice g.out.A g.out.n g.out.c], .slice r.A r.n r.c, .int .i64 cut] w fun e w' => e = .returned (.bool true) ∧ Below w.heap.size w w' := by
  have hO0 := Own.two w 24 29 #[.slice c.A c.n c.c] #[.slice g.st.A g.st.n g.st.c, .slice g.fr.A g.fr.n g.fr.c, .slice g.out.A g.out.n g.out.c]
  have hrunR := m_Run c g r _ (hc.below hO0.1 (Nat.le_refl _)) (hg.below hO0.1 (Nat.le_refl _)) (hr.below hO0.1 (Nat.le_refl _))
  have hrunO := m_RunOk c g r _ (hc.below hO0.1 (Nat.le_refl _)) (hg.below hO0.1 (Nat.le_refl _)) (hr.below hO0.1 (Nat.le_refl _))
  have hkn := Lib.hid l_known
  by_cases h0 : runErr c g r = 0
  · replace hrunO := hrunO h0
    clear hrunR
    have hk0 : g.known c = 0 := by
      unfold runErr at h0
      by_cases h : g.known c = 0
      · exact h
      · rw [if_neg h] at h0; exact absurd h0 h
    have hi0 : inErr r.l = 0 := by unfold runErr at h0; rw [if_pos hk0] at h0; exact h0
    obtain ⟨hv, hfi⟩ := GV.known_cf hg hk0
    have hcl : c.l.length = c.n := hc.1
    have hrl := hr.1
    have hr64 := inErr_len hi0
    by_cases hcc : 0 ≤ cut ∧ cut ≤ r.n
    · obtain ⟨p, rfl⟩ := Int.eq_ofNat_of_zero_le hcc.1
      have hp : p ≤ r.n := by omega
      have hrunP : Hid (∀ W, Below w.heap.size w W → Calls Try.prog 20 #[.agg #[.slice c.A c.n c.c], .agg #[.slice g.st.A g.st.n g.st.c, .slice g.fr.A g.fr.n g.fr.c, .slice g.out.A g.out.n g.out.c], .slice r.A p r.c] W (RunOk W (g.cf.run c.l ((r.l.map SL.l).take p)) (g.cf.outs c.l ((r.l.map SL.l).take p)))) := fun W hb => by
        have h := m_RunOk c g ⟨r.A, p, r.c, r.l.take p⟩ W (hc.below hb (Nat.le_refl _)) (hg.below hb (Nat.le_refl _)) ((hr.takeAt hp).below hb (Nat.le_refl _)) (by
          unfold runErr; rw [if_pos hk0]; exact inErr_sub hi0 (by rw [List.length_take]; omega) fun x hx => List.mem_of_mem_take hx)
        rw [List.map_take] at h
        exact h
      have hrunD : Hid (∀ W (m : GV), Below w.heap.size w W → m.ok W → m.cf = g.cf.run c.l ((r.l.map SL.l).take p) → Calls Try.prog 20 #[.agg #[.slice c.A c.n c.c], .agg #[.slice m.st.A m.st.n m.st.c, .slice m.fr.A m.fr.n m.fr.c, .slice m.out.A m.out.n m.out.c], .slice (dropA r.A r.c p) (r.n - p) (r.c - p)] W (RunOk W (g.cf.run c.l (r.l.map SL.l)) (m.cf.outs c.l ((r.l.map SL.l).drop p)))) := fun W m hb hm hcf => by
        have hmk : m.known c = 0 := GV.cf_known hm hv (by rw [hcf]; exact CF.Fine.run hv hcl _ hfi)
        have h := m_RunOk c m ⟨dropA r.A r.c p, r.n - p, r.c - p, r.l.drop p⟩ W (hc.below hb (Nat.le_refl _)) hm ((hr.dropAt hp).below hb (Nat.le_refl _)) (by
          unfold runErr; rw [if_pos hmk]; exact inErr_sub hi0 (by rw [List.length_drop]; omega) fun x hx => List.mem_of_mem_drop hx)
        rw [List.map_drop] at h
        have e : m.cf.run c.l ((r.l.map SL.l).drop p) = g.cf.run c.l (r.l.map SL.l) := by
          rw [hcf, ← CF.run_append, List.take_append_drop]
        rw [e] at h
        exact h
      have hstep : Hid (∀ W (m : GV) (k : Nat) (i : SL), Below w.heap.size w W → m.ok W → m.cf = g.cf.run c.l ((r.l.map SL.l).take k) → r.l[k]? = some i → Calls Try.prog 15 #[.agg #[.slice c.A c.n c.c], .agg #[.slice m.st.A m.st.n m.st.c, .slice m.fr.A m.fr.n m.fr.c, .slice m.out.A m.out.n m.out.c], .slice i.A i.n i.c] W (StepOk W (m.cf.step c.l i.l))) := fun W m k i hb hm hcf hi => by
        have hmk : m.known c = 0 := GV.cf_known hm hv (by rw [hcf]; exact CF.Fine.run hv hcl _ hfi)
        exact m_StepOk c m i W (hc.below hb (Nat.le_refl _)) hm ((hr.2.2.2.1 i (List.mem_of_getElem? hi)).below hb (Nat.le_refl _)) hmk (inErr_sub hi0 (by have := (List.getElem?_eq_some_iff.1 hi).1; simp; omega) fun x hx => by rw [List.mem_singleton.1 hx]; exact List.mem_of_getElem? hi)
      obtain ⟨x0f, hx0f⟩ : ∃ x, x = g.cf := ⟨_, rfl⟩
      have hg0 : g.cf = x0f := hx0f.symm
      rw [hg0] at hrunO
      simp only [hg0] at hrunP hrunD hstep
      clear hfi hk0 hi0 h0
      obtain ⟨A, n, cc, l⟩ := c
      obtain ⟨⟨gA, gn, gc, gl⟩, ⟨fA, fn, fc, fl⟩, ⟨oA, on, oc, ol⟩⟩ := g
      obtain ⟨rA, rn, rc, rl⟩ := r
      simp only at hrunO hrunP hrunD hstep hcl hrl hr64 hp hcc ⊢ hO0
      have hlm : (rl.map SL.l).length = rn := by rw [List.length_map]; exact hrl
      have hrn64 : rn ≤ 64 := by omega
      have hrc : rn ≤ rc := hr.2.1
      obtain ⟨D, hD⟩ : ∃ D, D = dropA rA rc p := ⟨_, rfl⟩
      rw [← hD] at hrunD
      replace hD := Lib.hid hD
      have hrr : Hid (RL.ok w ⟨rA, rn, rc, rl⟩) := hr
      replace hc := Lib.hid hc
      replace hg := Lib.hid hg
      replace hr := Lib.hid hr
      replace hO0 := Lib.hid hO0
      replace hg0 := Lib.hid hg0
      have hpc0 : decide ((p : Int) < 0) = false := by simp
      have hpc1 : decide ((rn : Int) < (p : Int)) = false := by simp; omega
      have hpc2 : ¬ ((p : Int) < 0) := by omega
      have hpc3 : ¬ ((rn : Int) < (p : Int)) := by omega
      have hpc4 : ¬ (rn < p) := by omega
      have hpc5 : decide (rn < p) = false := decide_eq_false hpc4
      clear hx0f
      go_enter Try.func6, Try.ntmps6
      go_upto_region 6 with (go_at_call 20; refine hrunO.mono ?_; rintro e w3 ⟨⟨⟨eA, en, ec, el⟩, ⟨kA, kn, kc, kl⟩, ⟨jA, jn, jc, jl⟩⟩, ⟨LA, Ln, Lc, Ll⟩, rfl, heok, henw, hLok, hLnw, hecf, hLl, hb3⟩
                             have hLr : rn = Ln := (runOk_len hLok hLl hlm).symm
                             subst hLr
                             obtain ⟨x0, x1, x2, x3, x4, x5⟩ := blkT (Blk.new w3 29 #[.slice none 0 0, .slice none 0 0, .slice none 0 0]))
      have h2w : ((w.alloc (.cells #[.slice A n cc] 24)).alloc (.cells #[.slice gA gn gc, .slice fA fn fc, .slice oA on oc] 29)).heap.size = w.heap.size + 2 := by simp
      rw [h2w] at henw hLnw
      have hbA := (Below.refl w3.heap.size w3).alloc (Nat.le_refl _) (.cells #[.slice eA en ec, .slice kA kn kc, .slice jA jn jc] 29)
      have hOw5 := (hO0.out.call hb3).call hbA
      have hgE2 : w.heap.size + 2 ≤ w3.heap.size := (hO0.out.call hb3).2.1
      have hEb := Blk.new w3 29 #[.slice eA en ec, .slice kA kn kc, .slice jA jn jc]
      have heok5 := heok.below hbA (Nat.le_refl _)
      have hLok5 := hLok.below hbA (Nat.le_refl _)
      obtain ⟨w5, hw5⟩ : ∃ w5, w5 = w3.alloc (.cells #[.slice eA en ec, .slice kA kn kc, .slice jA jn jc] 29) := ⟨_, rfl⟩
      obtain ⟨gE, hgEw⟩ : ∃ gE, gE = w3.heap.size := ⟨_, rfl⟩
      rw [← hw5] at hOw5 hEb heok5 hLok5 ⊢
      rw [← hgEw] at hgE2 hEb ⊢
      clear hw5 hgEw hbA hb3 heok hLok h2w x0 x1 x2 x3 x4 x5 hO0
      replace hOw5 := Lib.hid hOw5
      replace hEb := Lib.hid hEb
      replace heok5 := Lib.hid heok5
      replace hLok5 := Lib.hid hLok5
      replace henw := Lib.hid henw
      replace hLnw := Lib.hid hLnw
      replace hecf := Lib.hid hecf
      replace hLl := Lib.hid hLl
      replace hgE2 := Lib.hid hgE2
      have hrunP5 : Hid (∀ W, Below w5.heap.size w5 W → Calls Try.prog 20 #[.agg #[.slice A n cc], .agg #[.slice gA gn gc, .slice fA fn fc, .slice oA on oc], .slice rA p rc] W (RunOk W (x0f.run l ((rl.map SL.l).take p)) (x0f.outs l ((rl.map SL.l).take p)))) := fun W hb => hrunP.out W (hOw5.out.call hb).1
      go_cut [11, 12, 13] from 45 to 54 (fun v11 v12 v13 wc => MidC w5 (x0f.run l ((rl.map SL.l).take p)) (x0f.outs l ((rl.map SL.l).take p)) v11 v12 v13 wc)
      case first =>
       have hS : (fun w' : World => w'.cell? ⟨w.heap.size, 0, none⟩ = some (.slice A n cc) ∧ w'.cell? ⟨w.heap.size + 1, 0, none⟩ = some (.slice gA gn gc) ∧ w'.cell? ⟨w.heap.size + 1, 1, none⟩ = some (.slice fA fn fc) ∧ w'.cell? ⟨w.heap.size + 1, 2, none⟩ = some (.slice oA on oc)) w5.drew := ⟨(hOw5.out.b0).cell 0, hOw5.out.b1.cell 0, hOw5.out.b1.cell 1, hOw5.out.b1.cell 2⟩
       have hSb : Hid (∀ w', Below w5.heap.size w5 w' → (fun w' : World => w'.cell? ⟨w.heap.size, 0, none⟩ = some (.slice A n cc) ∧ w'.cell? ⟨w.heap.size + 1, 0, none⟩ = some (.slice gA gn gc) ∧ w'.cell? ⟨w.heap.size + 1, 1, none⟩ = some (.slice fA fn fc) ∧ w'.cell? ⟨w.heap.size + 1, 2, none⟩ = some (.slice oA on oc)) w') := fun w' hb => ⟨(hb.cell (p := ⟨w.heap.size, 0, none⟩) (hOw5.out.b0).lt).trans ((hOw5.out.b0).cell 0), (hb.cell (p := ⟨w.heap.size + 1, 0, none⟩) hOw5.out.b1.lt).trans (hOw5.out.b1.cell 0), (hb.cell (p := ⟨w.heap.size + 1, 1, none⟩) hOw5.out.b1.lt).trans (hOw5.out.b1.cell 1), (hb.cell (p := ⟨w.heap.size + 1, 2, none⟩) hOw5.out.b1.lt).trans (hOw5.out.b1.cell 2)⟩
       refine wp_region_K (S := (fun w' : World => w'.cell? ⟨w.heap.size, 0, none⟩ = some (.slice A n cc) ∧ w'.cell? ⟨w.heap.size + 1, 0, none⟩ = some (.slice gA gn gc) ∧ w'.cell? ⟨w.heap.size + 1, 1, none⟩ = some (.slice fA fn fc) ∧ w'.cell? ⟨w.heap.size + 1, 2, none⟩ = some (.slice oA on oc))) (K := []) (by kernel_rfl) ?_
       simp only at hS
       refine AnyK.take (i := 0) (v := .agg #[.slice A n cc]) rfl (by kernel_rfl) (by kernel_rfl) (by kernel_rfl) (by kernel_rfl) (by kernel_rfl) (by kernel_rfl) (fun _ _ _ h => h) (Or.inl ⟨by rfl, ?_⟩) hS ?_
       · rintro w' ⟨z0, z1, z2, z3⟩
         go_simp
       (try simp only [Act.put, List.setIfInBounds_toArray, List.set_cons_zero, List.set_cons_succ])
       refine AnyK.take (i := 1) (v := .agg #[.slice gA gn gc, .slice fA fn fc, .slice oA on oc]) rfl (by kernel_rfl) (by kernel_rfl) (by kernel_rfl) (by kernel_rfl) (by kernel_rfl) (by kernel_rfl) (fun _ _ _ h => h) (Or.inl ⟨by rfl, ?_⟩) hS ?_
       · rintro w' ⟨z0, z1, z2, z3⟩
         go_simp
       (try simp only [Act.put, List.setIfInBounds_toArray, List.set_cons_zero, List.set_cons_succ])
       refine AnyK.take (i := 2) (v := .slice rA rn rc) rfl (by kernel_rfl) (by kernel_rfl) (by kernel_rfl) (by kernel_rfl) (by kernel_rfl) (by kernel_rfl) (fun _ _ _ h => h) (Or.inl ⟨by rfl, ?_⟩) hS ?_
       · rintro w' ⟨z0, z1, z2, z3⟩
         go_simp
       (try simp only [Act.put, List.setIfInBounds_toArray, List.set_cons_zero, List.set_cons_succ])
       refine AnyK.take (i := 3) (v := .int .i64 (p : Int)) rfl (by kernel_rfl) (by kernel_rfl) (by kernel_rfl) (by kernel_rfl) (by kernel_rfl) (by kernel_rfl) (fun _ _ _ h => h) (Or.inl ⟨by rfl, ?_⟩) hS ?_
       · rintro w' ⟨z0, z1, z2, z3⟩
         go_simp
       (try simp only [Act.put, List.setIfInBounds_toArray, List.set_cons_zero, List.set_cons_succ])
       refine AnyK.take (i := 4) (v := .slice rA p rc) rfl (by kernel_rfl) (by kernel_rfl) (by kernel_rfl) (by kernel_rfl) (by kernel_rfl) (by kernel_rfl) (fun _ _ _ h => h) (Or.inl ⟨by rfl, ?_⟩) hS ?_
       · rintro w' ⟨z0, z1, z2, z3⟩
         cases rA with
         | none => obtain rfl : rn = 0 := RL.none0 hr.out
                   obtain rfl : p = 0 := by omega
                   (try go_simp)
                   all_goals (try (intro hh; first | omega | (exfalso; omega)))
         | some a => (try go_simp)
                     all_goals (try (intro hh; first | omega | (exfalso; omega)))
       (try simp only [Act.put, List.setIfInBounds_toArray, List.set_cons_zero, List.set_cons_succ])
       clear hS
       refine AnyK.two (i := 5) (j := 10) (by kernel_rfl) rfl rfl (fun K' hK => ?_) (fun K' hK => ?_)
       · skip
         go_simp
         refine (hrunP5.out w5.drew ((Below.refl _ _).drew)).mono ?_
         rintro e w6 ⟨⟨⟨xA, xn, xc, xl⟩, ⟨yA, yn, yc, yl⟩, ⟨zA, zn, zc, zl⟩⟩, ⟨aA, an, ac, al⟩, rfl, hm, hmn, ha, han, hx, ho, hb⟩
         simp only at hx ho
         replace hm := Lib.hid hm; replace ha := Lib.hid ha; replace hmn := Lib.hid hmn; replace han := Lib.hid han; replace hx := Lib.hid hx; replace ho := Lib.hid ho; replace hb := Lib.hid hb
         have hbw : Hid (Below w5.heap.size w5 w6) := Below.callB (Below.refl _ _).drew hb.out
         have hS6 := hSb.out w6 hbw.out
         refine hK.out _ _ (fun _ => hS6) ?_
         clear hK
         (try simp only [Act.put, List.setIfInBounds_toArray, List.set_cons_zero, List.set_cons_succ])
         refine AnyK.take (i := 6) (v := .tuple #[.agg #[.slice xA xn xc, .slice yA yn yc, .slice zA zn zc], .slice aA an ac, .int .i64 0]) rfl (by kernel_rfl) (by kernel_rfl) (by kernel_rfl) (by kernel_rfl) (by kernel_rfl) (by kernel_rfl) (fun _ _ _ h => h) (Or.inl ⟨by rfl, ?_⟩) hS6 ?_
         · rintro w' ⟨z0, z1, z2, z3⟩
           go_simp
         (try simp only [Act.put, List.setIfInBounds_toArray, List.set_cons_zero, List.set_cons_succ])
         refine AnyK.take (i := 7) (v := .agg #[.slice xA xn xc, .slice yA yn yc, .slice zA zn zc]) rfl (by kernel_rfl) (by kernel_rfl) (by kernel_rfl) (by kernel_rfl) (by kernel_rfl) (by kernel_rfl) (fun _ _ _ h => h) (Or.inl ⟨by rfl, ?_⟩) hS6 ?_
         · rintro w' ⟨z0, z1, z2, z3⟩
           go_simp
         (try simp only [Act.put, List.setIfInBounds_toArray, List.set_cons_zero, List.set_cons_succ])
         refine AnyK.take (i := 8) (v := .slice aA an ac) rfl (by kernel_rfl) (by kernel_rfl) (by kernel_rfl) (by kernel_rfl) (by kernel_rfl) (by kernel_rfl) (fun _ _ _ h => h) (Or.inl ⟨by rfl, ?_⟩) hS6 ?_
         · rintro w' ⟨z0, z1, z2, z3⟩
           go_simp
         (try simp only [Act.put, List.setIfInBounds_toArray, List.set_cons_zero, List.set_cons_succ])
         refine AnyK.take (i := 9) (v := .int .i64 0) rfl (by kernel_rfl) (by kernel_rfl) (by kernel_rfl) (by kernel_rfl) (by kernel_rfl) (by kernel_rfl) (fun _ _ _ h => h) (Or.inl ⟨by rfl, ?_⟩) hS6 ?_
         · rintro w' ⟨z0, z1, z2, z3⟩
           go_simp
         (try simp only [Act.put, List.setIfInBounds_toArray, List.set_cons_zero, List.set_cons_succ])
         clear hS6
         have hba : Hid (Below w6.heap.size w6 (w6.alloc (.cells #[.slice none 0 0, .slice none 0 0, .slice none 0 0] 29))) := (Below.refl _ _).alloc (Nat.le_refl _) _
         obtain ⟨x0, x1, x2, x3, x4, x5⟩ := blkT (Blk.new w6 29 #[.slice none 0 0, .slice none 0 0, .slice none 0 0])
         refine AnyK.one (i := 10) (by kernel_rfl) rfl (fun K' hK => ?_)
         go_simp
         refine hK.out _ _ (fun _ => hSb.out _ (Below.callB hbw.out hba.out)) ?_
         clear hK
         (try simp only [Act.put, List.setIfInBounds_toArray, List.set_cons_zero, List.set_cons_succ])
         refine AnyK.one (i := 11) (by kernel_rfl) rfl (fun K' hK => ?_)
         go_simp
         refine hK.out _ _ (fun _ => hSb.out _ (Below.callB hbw.out ((Below.refl _ _).alloc (Nat.le_refl _) _))) ?_
         clear hK
         (try simp only [Act.put, List.setIfInBounds_toArray, List.set_cons_zero, List.set_cons_succ])
         refine AnyK.one (i := 12) (by kernel_rfl) rfl (fun K' hK => ?_)
         go_simp
         refine hK.out _ _ (fun _ => hSb.out _ (Below.callB hbw.out ((Below.refl _ _).alloc (Nat.le_refl _) _))) ?_
         clear hK
         (try simp only [Act.put, List.setIfInBounds_toArray, List.set_cons_zero, List.set_cons_succ])
         refine AnyK.one (i := 13) (by kernel_rfl) rfl (fun K' hK => ?_)
         go_simp
         refine hK.out _ _ (fun _ => hSb.out _ (Below.callB hbw.out ((Below.refl _ _).alloc (Nat.le_refl _) _))) ?_
         clear hK
         (try simp only [Act.put, List.setIfInBounds_toArray, List.set_cons_zero, List.set_cons_succ])
         refine AnyK.done (by kernel_rfl) ?_ _
         clear x0 x1 x2 x3 x4 x5
         have hfin := Lib.hid (MidC.mkA (w5 := w5) (m := ⟨⟨xA, xn, xc, xl⟩, ⟨yA, yn, yc, yl⟩, ⟨zA, zn, zc, zl⟩⟩) (a := ⟨aA, an, ac, al⟩) hbw.out hm.out ha.out hmn.out han.out hx.out ho.out)
         go_wp2_with fail
         go_meet
         exact hfin.out
       · skip
         go_simp
         have hba : Hid (Below w5.heap.size w5 (w5.alloc (.cells #[.slice none 0 0, .slice none 0 0, .slice none 0 0] 29))) := (Below.refl _ _).alloc (Nat.le_refl _) _
         refine hK.out _ _ (fun _ => hSb.out _ (hba.out.drew)) ?_
         clear hK
         (try simp only [Act.put, List.setIfInBounds_toArray, List.set_cons_zero, List.set_cons_succ])
         refine AnyK.one (i := 5) (by kernel_rfl) rfl (fun K' hK => ?_)
         go_simp
         refine (hrunP5.out (w5.alloc (.cells #[.slice none 0 0, .slice none 0 0, .slice none 0 0] 29)).drew (hba.out.drew)).mono ?_
         rintro e w6 ⟨⟨⟨xA, xn, xc, xl⟩, ⟨yA, yn, yc, yl⟩, ⟨zA, zn, zc, zl⟩⟩, ⟨aA, an, ac, al⟩, rfl, hm, hmn, ha, han, hx, ho, hb⟩
         simp only at hx ho
         replace hm := Lib.hid hm; replace ha := Lib.hid ha; replace hmn := Lib.hid hmn; replace han := Lib.hid han; replace hx := Lib.hid hx; replace ho := Lib.hid ho; replace hb := Lib.hid hb
         have hbw : Hid (Below (w5.alloc (.cells #[.slice none 0 0, .slice none 0 0, .slice none 0 0] 29)).heap.size (w5.alloc (.cells #[.slice none 0 0, .slice none 0 0, .slice none 0 0] 29)) w6) := Below.callB (Below.refl _ _).drew hb.out
         have hS6 := hSb.out w6 (Below.callB hba.out hbw.out)
         refine hK.out _ _ (fun _ => hS6) ?_
         clear hK
         (try simp only [Act.put, List.setIfInBounds_toArray, List.set_cons_zero, List.set_cons_succ])
         refine AnyK.take (i := 6) (v := .tuple #[.agg #[.slice xA xn xc, .slice yA yn yc, .slice zA zn zc], .slice aA an ac, .int .i64 0]) rfl (by kernel_rfl) (by kernel_rfl) (by kernel_rfl) (by kernel_rfl) (by kernel_rfl) (by kernel_rfl) (fun _ _ _ h => h) (Or.inl ⟨by rfl, ?_⟩) hS6 ?_
         · rintro w' ⟨z0, z1, z2, z3⟩
           go_simp
         (try simp only [Act.put, List.setIfInBounds_toArray, List.set_cons_zero, List.set_cons_succ])
         refine AnyK.take (i := 7) (v := .agg #[.slice xA xn xc, .slice yA yn yc, .slice zA zn zc]) rfl (by kernel_rfl) (by kernel_rfl) (by kernel_rfl) (by kernel_rfl) (by kernel_rfl) (by kernel_rfl) (fun _ _ _ h => h) (Or.inl ⟨by rfl, ?_⟩) hS6 ?_
         · rintro w' ⟨z0, z1, z2, z3⟩
           go_simp
         (try simp only [Act.put, List.setIfInBounds_toArray, List.set_cons_zero, List.set_cons_succ])
         refine AnyK.take (i := 8) (v := .slice aA an ac) rfl (by kernel_rfl) (by kernel_rfl) (by kernel_rfl) (by kernel_rfl) (by kernel_rfl) (by kernel_rfl) (fun _ _ _ h => h) (Or.inl ⟨by rfl, ?_⟩) hS6 ?_
         · rintro w' ⟨z0, z1, z2, z3⟩
           go_simp
         (try simp only [Act.put, List.setIfInBounds_toArray, List.set_cons_zero, List.set_cons_succ])
         refine AnyK.take (i := 9) (v := .int .i64 0) rfl (by kernel_rfl) (by kernel_rfl) (by kernel_rfl) (by kernel_rfl) (by kernel_rfl) (by kernel_rfl) (fun _ _ _ h => h) (Or.inl ⟨by rfl, ?_⟩) hS6 ?_
         · rintro w' ⟨z0, z1, z2, z3⟩
           go_simp
         (try simp only [Act.put, List.setIfInBounds_toArray, List.set_cons_zero, List.set_cons_succ])
         clear hS6
         obtain ⟨x0, x1, x2, x3, x4, x5⟩ := blkT ((Blk.new w5 29 #[.slice none 0 0, .slice none 0 0, .slice none 0 0]).call hbw.out)
         refine AnyK.one (i := 11) (by kernel_rfl) rfl (fun K' hK => ?_)
         go_simp
         refine hK.out _ _ (fun _ => hSb.out _ (Below.set3B (Below.callB hba.out hbw.out) (Nat.le_refl _) _ _ _)) ?_
         clear hK
         (try simp only [Act.put, List.setIfInBounds_toArray, List.set_cons_zero, List.set_cons_succ])
         refine AnyK.one (i := 12) (by kernel_rfl) rfl (fun K' hK => ?_)
         go_simp
         refine hK.out _ _ (fun _ => hSb.out _ (Below.set3B (Below.callB hba.out hbw.out) (Nat.le_refl _) _ _ _)) ?_
         clear hK
         (try simp only [Act.put, List.setIfInBounds_toArray, List.set_cons_zero, List.set_cons_succ])
         refine AnyK.one (i := 13) (by kernel_rfl) rfl (fun K' hK => ?_)
         go_simp
         refine hK.out _ _ (fun _ => hSb.out _ (Below.set3B (Below.callB hba.out hbw.out) (Nat.le_refl _) _ _ _)) ?_
         clear hK
         (try simp only [Act.put, List.setIfInBounds_toArray, List.set_cons_zero, List.set_cons_succ])
         refine AnyK.done (by kernel_rfl) ?_ _
         clear x0 x1 x2 x3 x4 x5
         have hfin := Lib.hid (MidC.mkB (w5 := w5) (m := ⟨⟨xA, xn, xc, xl⟩, ⟨yA, yn, yc, yl⟩, ⟨zA, zn, zc, zl⟩⟩) (a := ⟨aA, an, ac, al⟩) hbw.out hm.out ha.out hmn.out han.out hx.out ho.out)
         go_wp2_with fail
         go_meet
         exact hfin.out
      case rest =>
       obtain ⟨gM, ⟨⟨mA, mn, mc, ml⟩, ⟨hA, hn, hc2, hl⟩, ⟨pA, pn, pc, pl⟩⟩, ⟨aA, an, ac, al⟩, rfl, rfl, rfl, hgM, hbM, hBM, hmok, haok, hmn, han, hmcf, hal⟩ := hcut
       simp only at hBM hmcf hal
       have hOwM := Lib.hid (hOw5.out.call hbM)
       have hEbM := Lib.hid (hEb.out.call hbM)
       have heokM := Lib.hid (heok5.out.below hbM (Nat.le_refl _))
       have hLokM := Lib.hid (hLok5.out.below hbM (Nat.le_refl _))
       obtain ⟨wM, hwM⟩ : ∃ wM, wM = wc := ⟨_, rfl⟩
       subst hwM
       have hrunM : Hid (∀ W, Below wM.heap.size wM W → Calls Try.prog 20 #[.agg #[.slice A n cc], .agg #[.slice mA mn mc, .slice hA hn hc2, .slice pA pn pc], .slice D (rn - p) (rc - p)] W (RunOk W (x0f.run l (rl.map SL.l)) ((x0f.run l ((rl.map SL.l).take p)).outs l ((rl.map SL.l).drop p)))) := fun W hb => by
         have h := hrunD.out W ⟨⟨mA, mn, mc, ml⟩, ⟨hA, hn, hc2, hl⟩, ⟨pA, pn, pc, pl⟩⟩ (hOwM.out.call hb).1 (hmok.below hb (Nat.le_refl _)) hmcf
         rw [hmcf] at h
         exact h
       replace hBM := Lib.hid hBM
       replace hmok := Lib.hid hmok
       replace haok := Lib.hid haok
       replace hal := Lib.hid hal
       clear hOw5 hEb heok5 hLok5 hbM hrunP5 hrunP hrunD hmn han hmcf
       replace hgM := Lib.hid hgM
       go_upto_region 7 with fail
       go_cut [14, 15, 16] from 55 to 64 (fun v14 v15 v16 wc => MidC wM (x0f.run l (rl.map SL.l)) ((x0f.run l ((rl.map SL.l).take p)).outs l ((rl.map SL.l).drop p)) v16 v14 v15 wc)
       case first =>
        have hS : (fun w' : World => w'.cell? ⟨w.heap.size, 0, none⟩ = some (.slice A n cc) ∧ w'.cell? ⟨gM, 0, none⟩ = some (.slice mA mn mc) ∧ w'.cell? ⟨gM, 1, none⟩ = some (.slice hA hn hc2) ∧ w'.cell? ⟨gM, 2, none⟩ = some (.slice pA pn pc)) wM.drew := ⟨(hOwM.out.b0).cell 0, hBM.out.cell 0, hBM.out.cell 1, hBM.out.cell 2⟩
        have hSb : Hid (∀ w', Below wM.heap.size wM w' → (fun w' : World => w'.cell? ⟨w.heap.size, 0, none⟩ = some (.slice A n cc) ∧ w'.cell? ⟨gM, 0, none⟩ = some (.slice mA mn mc) ∧ w'.cell? ⟨gM, 1, none⟩ = some (.slice hA hn hc2) ∧ w'.cell? ⟨gM, 2, none⟩ = some (.slice pA pn pc)) w') := fun w' hb => ⟨(hb.cell (p := ⟨w.heap.size, 0, none⟩) (hOwM.out.b0).lt).trans ((hOwM.out.b0).cell 0), (hb.cell (p := ⟨gM, 0, none⟩) hBM.out.lt).trans (hBM.out.cell 0), (hb.cell (p := ⟨gM, 1, none⟩) hBM.out.lt).trans (hBM.out.cell 1), (hb.cell (p := ⟨gM, 2, none⟩) hBM.out.lt).trans (hBM.out.cell 2)⟩
        refine wp_region_K (S := (fun w' : World => w'.cell? ⟨w.heap.size, 0, none⟩ = some (.slice A n cc) ∧ w'.cell? ⟨gM, 0, none⟩ = some (.slice mA mn mc) ∧ w'.cell? ⟨gM, 1, none⟩ = some (.slice hA hn hc2) ∧ w'.cell? ⟨gM, 2, none⟩ = some (.slice pA pn pc))) (K := []) (by kernel_rfl) ?_
        simp only at hS
        refine AnyK.take (i := 0) (v := .agg #[.slice A n cc]) rfl (by kernel_rfl) (by kernel_rfl) (by kernel_rfl) (by kernel_rfl) (by kernel_rfl) (by kernel_rfl) (fun _ _ _ h => h) (Or.inl ⟨by rfl, ?_⟩) hS ?_
        · rintro w' ⟨z0, z1, z2, z3⟩
          go_simp
        (try simp only [Act.put, List.setIfInBounds_toArray, List.set_cons_zero, List.set_cons_succ])
        refine AnyK.take (i := 1) (v := .agg #[.slice mA mn mc, .slice hA hn hc2, .slice pA pn pc]) rfl (by kernel_rfl) (by kernel_rfl) (by kernel_rfl) (by kernel_rfl) (by kernel_rfl) (by kernel_rfl) (fun _ _ _ h => h) (Or.inl ⟨by rfl, ?_⟩) hS ?_
        · rintro w' ⟨z0, z1, z2, z3⟩
          go_simp
        (try simp only [Act.put, List.setIfInBounds_toArray, List.set_cons_zero, List.set_cons_succ])
        refine AnyK.take (i := 2) (v := .slice rA rn rc) rfl (by kernel_rfl) (by kernel_rfl) (by kernel_rfl) (by kernel_rfl) (by kernel_rfl) (by kernel_rfl) (fun _ _ _ h => h) (Or.inl ⟨by rfl, ?_⟩) hS ?_
        · rintro w' ⟨z0, z1, z2, z3⟩
          go_simp
        (try simp only [Act.put, List.setIfInBounds_toArray, List.set_cons_zero, List.set_cons_succ])
        refine AnyK.take (i := 3) (v := .int .i64 (p : Int)) rfl (by kernel_rfl) (by kernel_rfl) (by kernel_rfl) (by kernel_rfl) (by kernel_rfl) (by kernel_rfl) (fun _ _ _ h => h) (Or.inl ⟨by rfl, ?_⟩) hS ?_
        · rintro w' ⟨z0, z1, z2, z3⟩
          go_simp
        (try simp only [Act.put, List.setIfInBounds_toArray, List.set_cons_zero, List.set_cons_succ])
        refine AnyK.take (i := 4) (v := .slice D (rn - p) (rc - p)) rfl (by kernel_rfl) (by kernel_rfl) (by kernel_rfl) (by kernel_rfl) (by kernel_rfl) (by kernel_rfl) (fun _ _ _ h => h) (Or.inl ⟨by rfl, ?_⟩) hS ?_
        · rintro w' ⟨z0, z1, z2, z3⟩
          cases rA with
          | none => obtain rfl : rn = 0 := RL.none0 hr.out
                    obtain rfl : p = 0 := by omega
                    (try go_simp)
                    (try simp [hD.out, dropA])
                    all_goals (try (intro hh; first | omega | (exfalso; omega)))
          | some a => (try go_simp)
                      (try simp [hD.out, dropA])
                      all_goals (try (intro hh; first | omega | (exfalso; omega)))
        (try simp only [Act.put, List.setIfInBounds_toArray, List.set_cons_zero, List.set_cons_succ])
        clear hS
        refine AnyK.two (i := 5) (j := 10) (by kernel_rfl) rfl rfl (fun K' hK => ?_) (fun K' hK => ?_)
        · skip
          go_simp
          refine (hrunM.out wM.drew ((Below.refl _ _).drew)).mono ?_
          rintro e w6 ⟨⟨⟨xA, xn, xc, xl⟩, ⟨yA, yn, yc, yl⟩, ⟨zA, zn, zc, zl⟩⟩, ⟨aA, an, ac, al⟩, rfl, hm, hmn, ha, han, hx, ho, hb⟩
          simp only at hx ho
          replace hm := Lib.hid hm; replace ha := Lib.hid ha; replace hmn := Lib.hid hmn; replace han := Lib.hid han; replace hx := Lib.hid hx; replace ho := Lib.hid ho; replace hb := Lib.hid hb
          have hbw : Hid (Below wM.heap.size wM w6) := Below.callB (Below.refl _ _).drew hb.out
          have hS6 := hSb.out w6 hbw.out
          refine hK.out _ _ (fun _ => hS6) ?_
          clear hK
          (try simp only [Act.put, List.setIfInBounds_toArray, List.set_cons_zero, List.set_cons_succ])
          refine AnyK.take (i := 6) (v := .tuple #[.agg #[.slice xA xn xc, .slice yA yn yc, .slice zA zn zc], .slice aA an ac, .int .i64 0]) rfl (by kernel_rfl) (by kernel_rfl) (by kernel_rfl) (by kernel_rfl) (by kernel_rfl) (by kernel_rfl) (fun _ _ _ h => h) (Or.inl ⟨by rfl, ?_⟩) hS6 ?_
          · rintro w' ⟨z0, z1, z2, z3⟩
            go_simp
          (try simp only [Act.put, List.setIfInBounds_toArray, List.set_cons_zero, List.set_cons_succ])
          refine AnyK.take (i := 7) (v := .agg #[.slice xA xn xc, .slice yA yn yc, .slice zA zn zc]) rfl (by kernel_rfl) (by kernel_rfl) (by kernel_rfl) (by kernel_rfl) (by kernel_rfl) (by kernel_rfl) (fun _ _ _ h => h) (Or.inl ⟨by rfl, ?_⟩) hS6 ?_
          · rintro w' ⟨z0, z1, z2, z3⟩
            go_simp
          (try simp only [Act.put, List.setIfInBounds_toArray, List.set_cons_zero, List.set_cons_succ])
          refine AnyK.take (i := 8) (v := .slice aA an ac) rfl (by kernel_rfl) (by kernel_rfl) (by kernel_rfl) (by kernel_rfl) (by kernel_rfl) (by kernel_rfl) (fun _ _ _ h => h) (Or.inl ⟨by rfl, ?_⟩) hS6 ?_
          · rintro w' ⟨z0, z1, z2, z3⟩
            go_simp
          (try simp only [Act.put, List.setIfInBounds_toArray, List.set_cons_zero, List.set_cons_succ])
          refine AnyK.take (i := 9) (v := .int .i64 0) rfl (by kernel_rfl) (by kernel_rfl) (by kernel_rfl) (by kernel_rfl) (by kernel_rfl) (by kernel_rfl) (fun _ _ _ h => h) (Or.inl ⟨by rfl, ?_⟩) hS6 ?_
          · rintro w' ⟨z0, z1, z2, z3⟩
            go_simp
          (try simp only [Act.put, List.setIfInBounds_toArray, List.set_cons_zero, List.set_cons_succ])
          clear hS6
          have hba : Hid (Below w6.heap.size w6 (w6.alloc (.cells #[.slice none 0 0, .slice none 0 0, .slice none 0 0] 29))) := (Below.refl _ _).alloc (Nat.le_refl _) _
          obtain ⟨x0, x1, x2, x3, x4, x5⟩ := blkT (Blk.new w6 29 #[.slice none 0 0, .slice none 0 0, .slice none 0 0])
          refine AnyK.one (i := 10) (by kernel_rfl) rfl (fun K' hK => ?_)
          go_simp
          refine hK.out _ _ (fun _ => hSb.out _ (Below.callB hbw.out hba.out)) ?_
          clear hK
          (try simp only [Act.put, List.setIfInBounds_toArray, List.set_cons_zero, List.set_cons_succ])
          refine AnyK.one (i := 11) (by kernel_rfl) rfl (fun K' hK => ?_)
          go_simp
          refine hK.out _ _ (fun _ => hSb.out _ (Below.callB hbw.out ((Below.refl _ _).alloc (Nat.le_refl _) _))) ?_
          clear hK
          (try simp only [Act.put, List.setIfInBounds_toArray, List.set_cons_zero, List.set_cons_succ])
          refine AnyK.one (i := 12) (by kernel_rfl) rfl (fun K' hK => ?_)
          go_simp
          refine hK.out _ _ (fun _ => hSb.out _ (Below.callB hbw.out ((Below.refl _ _).alloc (Nat.le_refl _) _))) ?_
          clear hK
          (try simp only [Act.put, List.setIfInBounds_toArray, List.set_cons_zero, List.set_cons_succ])
          refine AnyK.one (i := 13) (by kernel_rfl) rfl (fun K' hK => ?_)
          go_simp
          refine hK.out _ _ (fun _ => hSb.out _ (Below.callB hbw.out ((Below.refl _ _).alloc (Nat.le_refl _) _))) ?_
          clear hK
          (try simp only [Act.put, List.setIfInBounds_toArray, List.set_cons_zero, List.set_cons_succ])
          refine AnyK.done (by kernel_rfl) ?_ _
          clear x0 x1 x2 x3 x4 x5
          have hfin := Lib.hid (MidC.mkA (w5 := wM) (m := ⟨⟨xA, xn, xc, xl⟩, ⟨yA, yn, yc, yl⟩, ⟨zA, zn, zc, zl⟩⟩) (a := ⟨aA, an, ac, al⟩) hbw.out hm.out ha.out hmn.out han.out hx.out ho.out)
          go_wp2_with fail
          go_meet
          exact hfin.out
        · skip
          go_simp
          have hba : Hid (Below wM.heap.size wM (wM.alloc (.cells #[.slice none 0 0, .slice none 0 0, .slice none 0 0] 29))) := (Below.refl _ _).alloc (Nat.le_refl _) _
          refine hK.out _ _ (fun _ => hSb.out _ (hba.out.drew)) ?_
          clear hK
          (try simp only [Act.put, List.setIfInBounds_toArray, List.set_cons_zero, List.set_cons_succ])
          refine AnyK.one (i := 5) (by kernel_rfl) rfl (fun K' hK => ?_)
          go_simp
          refine (hrunM.out (wM.alloc (.cells #[.slice none 0 0, .slice none 0 0, .slice none 0 0] 29)).drew (hba.out.drew)).mono ?_
          rintro e w6 ⟨⟨⟨xA, xn, xc, xl⟩, ⟨yA, yn, yc, yl⟩, ⟨zA, zn, zc, zl⟩⟩, ⟨aA, an, ac, al⟩, rfl, hm, hmn, ha, han, hx, ho, hb⟩
          simp only at hx ho
          replace hm := Lib.hid hm; replace ha := Lib.hid ha; replace hmn := Lib.hid hmn; replace han := Lib.hid han; replace hx := Lib.hid hx; replace ho := Lib.hid ho; replace hb := Lib.hid hb
          have hbw : Hid (Below (wM.alloc (.cells #[.slice none 0 0, .slice none 0 0, .slice none 0 0] 29)).heap.size (wM.alloc (.cells #[.slice none 0 0, .slice none 0 0, .slice none 0 0] 29)) w6) := Below.callB (Below.refl _ _).drew hb.out
          have hS6 := hSb.out w6 (Below.callB hba.out hbw.out)
          refine hK.out _ _ (fun _ => hS6) ?_
          clear hK
          (try simp only [Act.put, List.setIfInBounds_toArray, List.set_cons_zero, List.set_cons_succ])
          refine AnyK.take (i := 6) (v := .tuple #[.agg #[.slice xA xn xc, .slice yA yn yc, .slice zA zn zc], .slice aA an ac, .int .i64 0]) rfl (by kernel_rfl) (by kernel_rfl) (by kernel_rfl) (by kernel_rfl) (by kernel_rfl) (by kernel_rfl) (fun _ _ _ h => h) (Or.inl ⟨by rfl, ?_⟩) hS6 ?_
          · rintro w' ⟨z0, z1, z2, z3⟩
            go_simp
          (try simp only [Act.put, List.setIfInBounds_toArray, List.set_cons_zero, List.set_cons_succ])
          refine AnyK.take (i := 7) (v := .agg #[.slice xA xn xc, .slice yA yn yc, .slice zA zn zc]) rfl (by kernel_rfl) (by kernel_rfl) (by kernel_rfl) (by kernel_rfl) (by kernel_rfl) (by kernel_rfl) (fun _ _ _ h => h) (Or.inl ⟨by rfl, ?_⟩) hS6 ?_
          · rintro w' ⟨z0, z1, z2, z3⟩
            go_simp
          (try simp only [Act.put, List.setIfInBounds_toArray, List.set_cons_zero, List.set_cons_succ])
          refine AnyK.take (i := 8) (v := .slice aA an ac) rfl (by kernel_rfl) (by kernel_rfl) (by kernel_rfl) (by kernel_rfl) (by kernel_rfl) (by kernel_rfl) (fun _ _ _ h => h) (Or.inl ⟨by rfl, ?_⟩) hS6 ?_
          · rintro w' ⟨z0, z1, z2, z3⟩
            go_simp
          (try simp only [Act.put, List.setIfInBounds_toArray, List.set_cons_zero, List.set_cons_succ])
          refine AnyK.take (i := 9) (v := .int .i64 0) rfl (by kernel_rfl) (by kernel_rfl) (by kernel_rfl) (by kernel_rfl) (by kernel_rfl) (by kernel_rfl) (fun _ _ _ h => h) (Or.inl ⟨by rfl, ?_⟩) hS6 ?_
          · rintro w' ⟨z0, z1, z2, z3⟩
            go_simp
          (try simp only [Act.put, List.setIfInBounds_toArray, List.set_cons_zero, List.set_cons_succ])
          clear hS6
          obtain ⟨x0, x1, x2, x3, x4, x5⟩ := blkT ((Blk.new wM 29 #[.slice none 0 0, .slice none 0 0, .slice none 0 0]).call hbw.out)
          refine AnyK.one (i := 11) (by kernel_rfl) rfl (fun K' hK => ?_)
          go_simp
          refine hK.out _ _ (fun _ => hSb.out _ (Below.set3B (Below.callB hba.out hbw.out) (Nat.le_refl _) _ _ _)) ?_
          clear hK
          (try simp only [Act.put, List.setIfInBounds_toArray, List.set_cons_zero, List.set_cons_succ])
          refine AnyK.one (i := 12) (by kernel_rfl) rfl (fun K' hK => ?_)
          go_simp
          refine hK.out _ _ (fun _ => hSb.out _ (Below.set3B (Below.callB hba.out hbw.out) (Nat.le_refl _) _ _ _)) ?_
          clear hK
          (try simp only [Act.put, List.setIfInBounds_toArray, List.set_cons_zero, List.set_cons_succ])
          refine AnyK.one (i := 13) (by kernel_rfl) rfl (fun K' hK => ?_)
          go_simp
          refine hK.out _ _ (fun _ => hSb.out _ (Below.set3B (Below.callB hba.out hbw.out) (Nat.le_refl _) _ _ _)) ?_
          clear hK
          (try simp only [Act.put, List.setIfInBounds_toArray, List.set_cons_zero, List.set_cons_succ])
          refine AnyK.done (by kernel_rfl) ?_ _
          clear x0 x1 x2 x3 x4 x5
          have hfin := Lib.hid (MidC.mkB (w5 := wM) (m := ⟨⟨xA, xn, xc, xl⟩, ⟨yA, yn, yc, yl⟩, ⟨zA, zn, zc, zl⟩⟩) (a := ⟨aA, an, ac, al⟩) hbw.out hm.out ha.out hmn.out han.out hx.out ho.out)
          go_wp2_with fail
          go_meet
          exact hfin.out
       case rest =>
        obtain ⟨gL, ⟨⟨bA, bn, bc, bl⟩, ⟨dA, dn, dc, dl⟩, ⟨qA, qn, qc, ql⟩⟩, ⟨sA, sn, sc, sl⟩, rfl, rfl, rfl, hgL, hbL, hBL, hlok, hsok, hlnw, hsnw, hlcf, hsl⟩ := hcut
        simp only at hBL hlcf hsl
        have hOwL := Lib.hid (hOwM.out.call hbL)
        have hEbL := Lib.hid (hEbM.out.call hbL)
        have heokL := Lib.hid (heokM.out.below hbL (Nat.le_refl _))
        have hLokL := Lib.hid (hLokM.out.below hbL (Nat.le_refl _))
        have haokL := haok.out.below hbL (Nat.le_refl _)
        obtain ⟨wL, hwL⟩ : ∃ wL, wL = wc := ⟨_, rfl⟩
        subst hwL
        have hcfg := l_cfg _ _ wL hlok heokL.out (hlcf.trans hecf.out.symm)
        simp only at hcfg
        have ha64 : al.length ≤ 64 := by have h1 := congrArg List.length hal.out; rw [List.length_map, CF.outs_len, List.length_take, hlm] at h1; omega
        have hs64 : sl.length ≤ 64 := by have h1 := congrArg List.length hsl; rw [List.length_map, CF.outs_len, List.length_drop, hlm] at h1; omega
        have hall : (al ++ sl).map SL.l = x0f.outs l (rl.map SL.l) := by
          rw [List.map_append, hal.out, hsl, ← CF.outs_append, List.take_append_drop]
        have han : al.length = an := haokL.1
        have hsn : sl.length = sn := hsok.1
        clear hOwM hEbM heokM hLokM hbL hrunM hmok haok hal hBM hlnw hsnw hlcf hsl hgL hgM
        obtain ⟨l0, l1, l2, l3, l4, l5⟩ := blkT hBL
        obtain ⟨e0, e1, e2, e3, e4, e5⟩ := blkT hEbL.out
        have hrow0 := World.ownsRow_nil wL wL.heap.size 27 1
        replace hOwL := Lib.hid hOwL.out
        replace heokL := Lib.hid heokL.out
        replace hsok := Lib.hid hsok
        replace haokL := Lib.hid haokL
        replace hall := Lib.hid hall
        replace hEbL := Lib.hid hEbL.out
        have han64 : an ≤ 64 := by omega
        have hsn64 : sn ≤ 64 := by omega
        clear hBL hlok
        go_upto_region 10 with (first
          | (go_at_call 11; refine hcfg.mono ?_; rintro e w7 ⟨rfl, hb7⟩)
          | (at_builtin; refine app_R0w (by simp [Region.wanted, yielded]) (.const (.slice none 0 0)) (.tmp 78) rfl rfl ⟨aA, an, ac, al⟩ rfl (haokL.out.below hb7 (Nat.le_refl _)) (by show an * 24 ≤ _; omega) ?_
             intro A1 c1 w8 hr8 hb8
             have hsb := hsok.out.below (Below.callB hb7 hb8) (Nat.le_refl _))
          | (at_builtin; refine app_Rw (by simp [Region.wanted, yielded]) (.tmp 79) (.tmp 80) rfl w7.heap.size an (.slice A1 an c1) al rfl hr8 han hb8.size ⟨sA, sn, sc, sl⟩ rfl hsb (by show (an + sn) * 24 ≤ _; omega) ?_
             intro A2 c2 w9 hr9 hg9
             have hb9 : Below w7.heap.size w7 w9 := hb8.grown hg9 hb8.size (fun b hb => (OR.at hr8 hb).1)
             have hbL9 := Below.callB hb7 hb9
             have hrows := l_rows ⟨A2, an + sn, c2, al ++ sl⟩ ⟨LA, rn, Lc, Ll⟩ w9 (RL.row hr9 (by simp [han, hsn]) (fun x hx => by
               rcases List.mem_append.1 hx with hx | hx
               · exact (haokL.out.2.2.2.1 x hx).below hbL9 (Nat.le_refl _)
               · exact (hsok.out.2.2.2.1 x hx).below hbL9 (Nat.le_refl _)) (by omega)) (hLokL.out.below hbL9 (Nat.le_refl _)) (hall.out.trans hLl.out.symm)
             simp only at hrows)
          | (go_at_call 22; refine hrows.mono ?_; rintro e w10 ⟨rfl, hb10⟩))
        have hbT := Below.callB (Below.callB hb7 hb9) hb10
        have hO10 := hOwL.out.call hbT
        have hE10 := hEbL.out.call hbT
        have heok10 := heokL.out.below hbT (Nat.le_refl _)
        have hLok10 := hLokL.out.below hbT (Nat.le_refl _)
        have hst : Hid (CutL w ⟨A, n, cc, l⟩ gE ⟨⟨eA, en, ec, el⟩, ⟨kA, kn, kc, kl⟩, ⟨jA, jn, jc, jl⟩⟩ ⟨LA, rn, Lc, Ll⟩ x0f (rl.map SL.l) (.int .i64 0) w10) := ⟨0, ⟨⟨gA, gn, gc, gl⟩, ⟨fA, fn, fc, fl⟩, ⟨oA, on, oc, ol⟩⟩, Nat.zero_le _, rfl, hO10, hg.out.below hO10.1 (Nat.le_refl _), hg0.out, hE10, heok10, hLok10⟩
        obtain ⟨wX, hwX⟩ : ∃ wX, wX = w10 := ⟨_, rfl⟩
        subst hwX
        clear hbT hO10 hE10 heok10 hLok10 hOwL hEbL heokL hLokL hb7 hb8 hb9 hb10 hbL9 hrows hr8 hr9 hg9 hsb hcfg hrow0 l0 l1 l2 l3 l4 l5 e0 e1 e2 e3 e4 e5 hsok haokL hD hg hg0
        go_wp2_with fail
        go_loopw [88] (fun v88 wr => CutL w ⟨A, n, cc, l⟩ gE ⟨⟨eA, en, ec, el⟩, ⟨kA, kn, kc, kl⟩, ⟨jA, jn, jc, jl⟩⟩ ⟨LA, rn, Lc, Ll⟩ x0f (rl.map SL.l) v88 wr) (fun i _ => rn - (intOf i).toNat)
        case atStart => exact hst.out
        case round =>
          clear hst
          obtain ⟨k, ⟨⟨mA, mn, mc, ml⟩, ⟨hA, hn, hc2, hl⟩, ⟨pA, pn, pc, pl⟩⟩, hk, rfl, hO, hmok, hmcf, hEb, henok, hLok⟩ := hrel
          simp only at hO hmcf hEb
          rw [hlm] at hk
          by_cases hlt : k < rn
          · obtain ⟨gr, ro, ⟨iA, iN, ic, il⟩, hAr, hgr, hi, hiok, c0⟩ := (hrr.out.below hO.1 (Nat.le_refl _)).cell (j := k) hlt
            simp only at hAr hi c0
            subst hAr
            have hcall := hstep.out wr _ k _ hO.1 hmok hmcf hi
            simp only at hcall
            have a0 := hO.b0.cell 0
            have b0 := hO.b1.cell 0
            have b1 := hO.b1.cell 1
            have b2 := hO.b1.cell 2
            simp only [List.getElem?_toArray, List.getElem?_cons_zero, List.getElem?_cons_succ] at a0 b0 b1 b2
            replace hmcf := Lib.hid hmcf
            replace hi := Lib.hid hi
            replace hO := Lib.hid hO
            replace hEb := Lib.hid hEb
            go_upto_region 14 with (go_at_call 15; refine hcall.mono ?_; rintro e w6 ⟨⟨⟨uA, un, uc, ul⟩, ⟨vA, vn, vc, vl⟩, ⟨tA, tn, tc, tl⟩⟩, dA', dn', dc', rfl, hmok', hmnw', hstcf, hb6⟩
                                    obtain ⟨x0, x1, x2, x3, x4, x5⟩ := blkT (hO.out.call hb6).b1)
            have hins : (rl.map SL.l)[k]'(by omega) = il := by
              have h1 : (rl.map SL.l)[k]? = some il := by rw [List.getElem?_map, hi.out]; rfl
              rw [List.getElem?_eq_getElem (by omega)] at h1
              exact Option.some.inj h1
            obtain ⟨w7, hw7⟩ : ∃ w7, w7 = ((w6.setCell ⟨w.heap.size + 1, 0, none⟩ (.slice uA un uc)).setCell ⟨w.heap.size + 1, 1, none⟩ (.slice vA vn vc)).setCell ⟨w.heap.size + 1, 2, none⟩ (.slice tA tn tc) := ⟨_, rfl⟩
            have hnx := CutL.next (w := w) (wr := wr) (w6 := w6) (w7 := w7) (c := ⟨A, n, cc, l⟩) (gE := gE) (k := k) (en := ⟨⟨eA, en, ec, el⟩, ⟨kA, kn, kc, kl⟩, ⟨jA, jn, jc, jl⟩⟩) (L := ⟨LA, rn, Lc, Ll⟩) (x := x0f) (ins := rl.map SL.l) (m := ⟨⟨mA, mn, mc, ml⟩, ⟨hA, hn, hc2, hl⟩, ⟨pA, pn, pc, pl⟩⟩) (m' := ⟨⟨uA, un, uc, ul⟩, ⟨vA, vn, vc, vl⟩, ⟨tA, tn, tc, tl⟩⟩)
              (by omega) hO.out hmcf.out hEb.out henok hLok hgE2.out henw.out hLnw.out hb6 hmok' hmnw' (by rw [hins]; exact hstcf) hw7
            rw [← hw7]
            have h7 := hnx
            obtain ⟨hO7, hm7, hcf7, hE7, hen7, hL7⟩ := h7
            simp only at hO7 hcf7
            obtain ⟨g2, o2, y2, hA2, hg2, hy2, hyok2, c2⟩ := hL7.cell (j := k) hlt
            simp only at hA2 hy2 c2
            have htx : tl = y2.l := by
              have h1 : (Ll.map SL.l)[k]? = some y2.l := by rw [List.getElem?_map, hy2]; rfl
              rw [hLl.out, CF.outs_at l x0f (rl.map SL.l) (by omega), ← hcf7] at h1
              exact Option.some.inj h1
            have hqc : Hid (∀ q, Calls Try.prog 23 #[.slice tA tn tc, .slice y2.A y2.n y2.c] (w7.drewN q) fun e w' => e = .returned (.bool true) ∧ ∃ m, w' = w7.drewN m) := fun q => Calls.quiet_of (l_sameQ ⟨tA, tn, tc, tl⟩ y2 (w7.drewN q) (hm7.2.2.below (bdN (Below.refl _ _) q) (Nat.le_refl _)) (hyok2.below (bdN (Below.refl _ _) q) (Nat.le_refl _)) htx)
            have z2 := hO7.b1.cell 2
            simp only [List.getElem?_toArray, List.getElem?_cons_zero, List.getElem?_cons_succ] at z2
            obtain ⟨yA, yn, yc, yl⟩ := y2
            simp only at hqc c2
            subst hA2
            replace hnx := Lib.hid hnx
            have hkm : k < (rl.map SL.l).length := by omega
            replace hkm := Lib.hid hkm
            clear hw7 hO7 hm7 hcf7 hE7 hen7 hL7 htx hy2 hyok2 hg2 hins hmok' hmnw' hstcf hb6 x0 x1 x2 x3 x4 x5 a0 b0 b1 b2 c0 hO hEb henok hLok hmcf hi hiok hcall hmok
            go_quiet (((go_at_call 23; with_reducible exact hqc.out _)))
            go_wp2_with fail
            go_roundw
            case rel => exact CutL.fin hkm.out hnx.out _ (by go_num)
            case measure => simp [intOf]; omega
          · obtain rfl : k = rn := by omega
            have hcf2 := l_cfg _ _ wr hmok henok (hmcf.trans (by rw [List.take_of_length_le (by omega)]; exact hecf.out.symm))
            simp only at hcf2
            have b0 := hO.b1.cell 0
            have b1 := hO.b1.cell 1
            have b2 := hO.b1.cell 2
            obtain ⟨e0, e1, e2, e3, e4, e5⟩ := blkT hEb
            simp only [List.getElem?_toArray, List.getElem?_cons_zero, List.getElem?_cons_succ] at b0 b1 b2
            have hO' := Lib.hid hO
            clear hO hmok henok hLok hmcf hEb
            go_wp2_with (first
              | (go_at_call 11; refine hcf2.mono ?_; rintro e w7 ⟨rfl, hb7⟩)
              | (go_at_call 17; refine (hkn.out _).mono ?_; rintro e w8 ⟨rfl, hb8⟩))
            go_ret
            exact ⟨rfl, ((hO'.out.call hb7).call hb8).1⟩
    · obtain ⟨A, n, cc, l⟩ := c
      obtain ⟨⟨gA, gn, gc, gl⟩, ⟨fA, fn, fc, fl⟩, ⟨oA, on, oc, ol⟩⟩ := g
      obtain ⟨rA, rn, rc, rl⟩ := r
      simp only at hrunO hcc ⊢ hO0 hrl hr64
      replace hO0 := Lib.hid hO0
      have hrn64 : rn ≤ 64 := by omega
      clear hk0 hi0 h0 hfi hv hcl hrl hr64 hc hg hr
      obtain ⟨h1, h2⟩ := hcut
      generalize CF.run l _ _ = X1 at hrunO
      generalize CF.outs l _ _ = X2 at hrunO
      by_cases hneg : cut < 0
      · have hd1 : decide (cut < 0) = true := decide_eq_true hneg
        go_enter Try.func6, Try.ntmps6
        go_wp2_with (first
          | (go_at_call 20; refine hrunO.mono ?_; rintro e w3 ⟨⟨⟨eA, en, ec, el⟩, ⟨kA, kn, kc, kl⟩, ⟨jA, jn, jc, jl⟩⟩, ⟨LA, Ln, Lc, Ll⟩, rfl, heok, henw, hLok, hLnw, hecf, hLl, hb3⟩
             obtain ⟨x0, x1, x2, x3, x4, x5⟩ := blkT (Blk.new w3 29 #[.slice none 0 0, .slice none 0 0, .slice none 0 0])
             have hO4 := Lib.hid (hO0.out.call (Below.callB hb3 ((Below.refl w3.heap.size w3).alloc (Nat.le_refl _) (.cells #[.slice eA en ec, .slice kA kn kc, .slice jA jn jc] 29)))))
          | (go_at_call 17; refine (hkn.out _).mono ?_; rintro e w8 ⟨rfl, hb8⟩))
        go_ret
        exact ⟨rfl, (hO4.out.call hb8).1⟩
      · have hbig : (rn : Int) < cut := by omega
        have hd1 : decide (cut < 0) = false := decide_eq_false hneg
        have hd2 : decide ((rn : Int) < cut) = true := decide_eq_true hbig
        go_enter Try.func6, Try.ntmps6
        go_wp2_with (first
          | (go_at_call 20; refine hrunO.mono ?_; rintro e w3 ⟨⟨⟨eA, en, ec, el⟩, ⟨kA, kn, kc, kl⟩, ⟨jA, jn, jc, jl⟩⟩, ⟨LA, Ln, Lc, Ll⟩, rfl, heok, henw, hLok, hLnw, hecf, hLl, hb3⟩
             obtain ⟨x0, x1, x2, x3, x4, x5⟩ := blkT (Blk.new w3 29 #[.slice none 0 0, .slice none 0 0, .slice none 0 0])
             have hO4 := Lib.hid (hO0.out.call (Below.callB hb3 ((Below.refl w3.heap.size w3).alloc (Nat.le_refl _) (.cells #[.slice eA en ec, .slice kA kn kc, .slice jA jn jc] 29)))))
          | (go_at_call 17; refine (hkn.out _).mono ?_; rintro e w8 ⟨rfl, hb8⟩))
        go_ret
        exact ⟨rfl, (hO4.out.call hb8).1⟩
  · obtain ⟨A, n, cc, l⟩ := c
    obtain ⟨⟨gA, gn, gc, gl⟩, ⟨fA, fn, fc, fl⟩, ⟨oA, on, oc, ol⟩⟩ := g
    obtain ⟨rA, rn, rc, rl⟩ := r
    simp only at hrunR ⊢ hO0
    have hrn64 : rn ≤ 17592186044416 := hr.2.2.1
    replace hO0 := Lib.hid hO0
    clear hrunO hc hg hr
    unfold Ran at hrunR
    generalize runErr ⟨A, n, cc, l⟩ ⟨⟨gA, gn, gc, gl⟩, ⟨fA, fn, fc, fl⟩, ⟨oA, on, oc, ol⟩⟩ ⟨rA, rn, rc, rl⟩ = I at h0 hrunR
    generalize runCf ⟨A, n, cc, l⟩ _ _ = X1 at hrunR
    generalize runOs ⟨A, n, cc, l⟩ _ _ = X2 at hrunR
    have hVb : (I == 0) = false := by simpa using h0
    have hVc : (I != 0) = true := by simpa using h0
    go_enter Try.func6, Try.ntmps6
    go_wp2_with (first
      | (go_at_call 20; refine hrunR.mono ?_; rintro e w3 ⟨⟨⟨eA, en, ec, el⟩, ⟨kA, kn, kc, kl⟩, ⟨jA, jn, jc, jl⟩⟩, ⟨LA, Ln, Lc, Ll⟩, rfl, heok, henw, hLok, hLnw, hecf, hLl, hb3⟩
         obtain ⟨x0, x1, x2, x3, x4, x5⟩ := blkT (Blk.new w3 29 #[.slice none 0 0, .slice none 0 0, .slice none 0 0])
         have hO4 := Lib.hid (hO0.out.call (Below.callB hb3 ((Below.refl w3.heap.size w3).alloc (Nat.le_refl _) (.cells #[.slice eA en ec, .slice kA kn kc, .slice jA jn jc] 29)))))
      | (go_at_call 17; refine (hkn.out _).mono ?_; rintro e w8 ⟨rfl, hb8⟩))
    go_ret
    exact ⟨rfl, (hO4.out.call hb8).1⟩

end Go.Proofs.Ytgjmbmlmopomgaa
