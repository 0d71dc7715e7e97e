/- The program's Run. (printed by gen_hc.py) -/
import Derived.Test.YtgjmbmlmopomgaaHb
import Derived.Test.YtgjmbmlmopomgaaZr3
import Derived.Test.YtgjmbmlmopomgaaEa
namespace Go.Proofs.Ytgjmbmlmopomgaa
open Go.RowKit Go.Maps Lib
set_option linter.unusedSimpArgs false
set_option linter.unusedVariables false

def runErr (c : CV) (g : GV) (r : RL) : Int := if g.known c = 0 then inErr r.l else g.known c
def runCf (c : CV) (g : GV) (r : RL) : CF := if runErr c g r = 0 then g.cf.run c.l (r.l.map SL.l) else ⟨[], [], []⟩
def runOs (c : CV) (g : GV) (r : RL) : List (List ByteArray) := if runErr c g r = 0 then g.cf.outs c.l (r.l.map SL.l) else []
/-- Run's answer -/
def Ran (c : CV) (g : GV) (r : RL) (w : World) (e : Ending) (w' : World) : Prop :=
  ∃ (g' : GV) (q : RL), e = .returned (.tuple #[.agg #[.slice g'.st.A g'.st.n g'.st.c, .slice g'.fr.A g'.fr.n g'.fr.c, .slice g'.out.A g'.out.n g'.out.c], .slice q.A q.n q.c, .int .i64 (runErr c g r)]) ∧ g'.ok w' ∧ g'.new w.heap.size ∧ q.ok w' ∧ q.new w.heap.size ∧
    g'.cf = runCf c g r ∧ q.l.map SL.l = runOs c g r ∧ Below w.heap.size w w'
/-- as far as list k -/
def RunL (w : World) (bs : List (TypeId × Array Value)) (gX B n : Nat) (l : List McV) (x : CF) (ins : List (List ByteArray)) (v40 v12 : Value) (wr : World) : Prop :=
  ∃ (k : Nat) (g : GV) (rows : List SL) (A : Option Addr) (c : Nat), k ≤ ins.length ∧ v40 = .int .i64 (k : Int) ∧ v12 = .slice A k c ∧ Own w bs wr ∧ Blk wr gX 29 #[.slice g.st.A g.st.n g.st.c, .slice g.fr.A g.fr.n g.fr.c, .slice g.out.A g.out.n g.out.c] ∧ g.ok wr ∧ g.new (w.heap.size + 3) ∧
    g.cf = x.run l (ins.take k) ∧ g.st.n = n ∧ g.fr.n = n ∧ wr.ownsRow B 27 1 (.slice A k c) k (vR rows) ∧ rows.length = k ∧ (∀ s ∈ rows, s.ok wr ∧ NwA B s.A) ∧ (∀ s ∈ rows, ∀ q, (Value.slice A k c).ownBlock = some q → Off q s.n s.A) ∧ rows.map SL.l = x.outs l (ins.take k) ∧ B ≤ wr.heap.size

theorem ran_none {c : CV} {g : GV} {r : RL} {w : World} (h : runErr c g r ≠ 0) : ∀ e w', e = .returned (.tuple #[.agg #[.slice none 0 0, .slice none 0 0, .slice none 0 0], .slice none 0 0, .int .i64 (runErr c g r)]) → Below w.heap.size w w' → Ran c g r w e w' := by
  intro e w' he hb
  refine ⟨⟨⟨none, 0, 0, []⟩, ⟨none, 0, 0, []⟩, ⟨none, 0, 0, []⟩⟩, ⟨none, 0, 0, []⟩, he, GV.none _, ⟨fun a ha => (by cases ha), fun a ha => (by cases ha), fun a ha => (by cases ha)⟩, ⟨rfl, Nat.le_refl _, Nat.zero_le _, (fun x hx => by cases hx), .inl rfl⟩, ⟨fun a ha => (by cases ha), fun x hx => (by cases hx)⟩, ?_, ?_, hb⟩
  · unfold runCf; rw [if_neg h]; rfl
  · unfold runOs; rw [if_neg h]; rfl

theorem RunL.next {w w8 w9 : World} {bs : List (TypeId × Array Value)} {gX B n : Nat} {l : List McV} {x : CF} {ins : List (List ByteArray)} {k : Nat} {g : GV} {rows : List SL} {qA : Option Addr} {qc gS capS : Nat} {y : SL} {v : Value}
    (hk : k < ins.length) (hO : Own w bs w8) (hbl : bs.length = 3) (hB3 : w.heap.size + 3 ≤ B) (hgX : gX < B) (hB : Blk w8 gX 29 #[.slice g.st.A g.st.n g.st.c, .slice g.fr.A g.fr.n g.fr.c, .slice g.out.A g.out.n g.out.c])
    (hg : g.ok w8) (hgn : g.new (w.heap.size + 3)) (hcf : g.cf = x.run l (ins.take (k + 1))) (h1 : g.st.n = n) (h2 : g.fr.n = n)
    (hr : w8.ownsRow B 27 1 (.slice qA k qc) k (vR rows)) (hrl : rows.length = k) (hrs : ∀ s ∈ rows, s.ok w8 ∧ NwA B s.A) (hoff : ∀ s ∈ rows, ∀ q, (Value.slice qA k qc).ownBlock = some q → Off q s.n s.A) (hro : rows.map SL.l = x.outs l (ins.take k))
    (hy : y.ok w8) (hyn : NwA B y.A) (hyo : ∀ q, (Value.slice qA k qc).ownBlock = some q → Off q y.n y.A) (hyl : y.l = g.out.l)
    (hgo : ∀ q, (Value.slice qA k qc).ownBlock = some q → Off q g.st.n g.st.A ∧ Off q g.fr.n g.fr.A ∧ Off q g.out.n g.out.A)
    (hown : w9.ownsRow B 27 1 (.slice (some ⟨gS, 0, Option.none⟩) (k + 1) capS) (k + 1) (vR (rows ++ [y]))) (hgr : w8.grownBy w9 (Value.slice qA k qc).ownBlock) (hat : (Value.slice qA k qc).ownBlock = some gS ∨ gS = w8.heap.size) (hB8 : B ≤ w8.heap.size) (hv : v = .int .i64 ((k + 1 : Nat) : Int)) :
    RunL w bs gX B n l x ins v (.slice (some ⟨gS, 0, Option.none⟩) (k + 1) capS) w9 := by
  have hall : ∀ s ∈ rows ++ [y], s.ok w8 ∧ NwA B s.A ∧ ∀ q, (Value.slice qA k qc).ownBlock = some q → Off q s.n s.A := by
    intro s hs
    rcases List.mem_append.1 hs with hs | hs
    · exact ⟨(hrs s hs).1, (hrs s hs).2, hoff s hs⟩
    · rw [List.mem_singleton.1 hs]; exact ⟨hy, hyn, hyo⟩
  refine ⟨k + 1, g, rows ++ [y], some ⟨gS, 0, Option.none⟩, capS, hk, hv, rfl, hO.grown hr hgr (by rw [hbl]; exact hB3), hB.grown hgr (fun e => by have := (OR.at hr e.symm).1; omega), hg.grown hgr (fun q e => (hgo q e).1) (fun q e => (hgo q e).2.1) (fun q e => (hgo q e).2.2), hgn, hcf, h1, h2, hown, by simp [hrl], fun s hs => ⟨(hall s hs).1.grown hgr (hall s hs).2.2, (hall s hs).2.1⟩, ?_, ?_, Nat.le_trans hB8 hgr.size⟩
  · intro s hs q e
    cases e
    rcases hat with hat | hat
    · exact (hall s hs).2.2 _ hat
    · exact (hall s hs).1.off (Nat.le_of_eq hat.symm)
  · have e : ins.take (k + 1) = ins.take k ++ [ins[k]] := List.take_succ_eq_append_getElem hk
    rw [List.map_append, hro, e, CF.outs_snoc, ← e, ← hcf]
    show _ ++ [y.l] = _
    rw [hyl]
    rfl

set_option maxRecDepth 100000 in
set_option maxHeartbeats 8000000 in
theorem m_Run (c : CV) (g : GV) (r : RL) (w : World) (hc : c.ok w) (hg : g.ok w) (hr : r.ok w) :
    Calls Try.prog 20 #[.agg #[.slice c.A c.n c.c], .agg #[.slice g.st.A g.st.n g.st.c, .slice g.fr.A g.fr.n g.fr.c, .slice g.out.A g.out.n g.out.c], .slice r.A r.n r.c] w (Ran c g r w) := by
  have hO0 := Own.three w 24 29 29 #[.slice c.A c.n c.c] #[.slice g.st.A g.st.n g.st.c, .slice g.fr.A g.fr.n g.fr.c, .slice g.out.A g.out.n g.out.c] #[.slice none 0 0, .slice none 0 0, .slice none 0 0]
  have hkn := m_known c g _ (hc.below hO0.1 (Nat.le_refl _)) (hg.below hO0.1 (Nat.le_refl _))
  have hinp := fun W (hb : Below w.heap.size w W) => m_inputs r W (hr.below hb (Nat.le_refl _))
  have hpr := fun W (g2 : GV) (i : SL) (hb : Below w.heap.size w W) => p_react c g2 i W (hc.below hb (Nat.le_refl _))
  replace hinp := Lib.hid hinp
  replace hpr := Lib.hid hpr
  have hcl := hc.1
  have hrl := hr.1
  have hgc : g.cf = ⟨g.st.l, g.fr.l, g.out.l⟩ := rfl
  have hknc := @GV.known_cf c g w hg
  have hst := @CF.Fine.step c
  obtain ⟨A, n, cc, l⟩ := c
  obtain ⟨⟨gA, gn, gc, gl⟩, ⟨fA, fn, fc, fl⟩, ⟨oA, on, oc, ol⟩⟩ := g
  obtain ⟨rA, rn, rc, rl⟩ := r
  replace hc := Lib.hid hc
  replace hg := Lib.hid hg
  replace hr := Lib.hid hr
  replace hO0 := Lib.hid hO0
  simp only at hkn hcl hrl ⊢
  by_cases hk0 : GV.known ⟨A, n, cc, l⟩ ⟨⟨gA, gn, gc, gl⟩, ⟨fA, fn, fc, fl⟩, ⟨oA, on, oc, ol⟩⟩ = 0
  · obtain ⟨hv, hfi⟩ := hknc hk0
    have hn0 : 0 < n := Nat.pos_of_ne_zero (CV.fineOf hv).2.1
    have hn6 : n ≤ 6 := CV.six hv
    have hgn : gl.length = n := hfi.n
    have hfn : fl.length = n := hfi.m
    have hgn2 : gl.length = gn := hg.out.1.1
    have hfn2 : fl.length = fn := hg.out.2.1.1
    obtain rfl : gn = n := by omega
    obtain rfl : fn = gn := by omega
    replace hfi := Lib.hid hfi
    replace hv := Lib.hid hv
    by_cases hi0 : inErr rl = 0
    · have hE : runErr ⟨A, fn, cc, l⟩ ⟨⟨gA, fn, gc, gl⟩, ⟨fA, fn, fc, fl⟩, ⟨oA, on, oc, ol⟩⟩ ⟨rA, rn, rc, rl⟩ = 0 := by
        unfold runErr
        rw [if_pos hk0]; exact hi0
      have hrn : rn ≤ 64 := by
        have h := hi0
        unfold inErr at h
        by_cases h1 : 64 < rl.length
        · rw [if_pos h1] at h; cases h
        · omega
      rw [hk0] at hkn
      have hinp2 : Hid (∀ W, Below w.heap.size w W → Calls Try.prog 35 #[.slice rA rn rc] W fun e w' => e = .returned (.int .i64 0) ∧ Below W.heap.size W w') := fun W hb => by
        have h := hinp.out W hb
        rw [hi0] at h
        exact h
      clear hinp hk0 hi0 hgc hknc
      replace hE := Lib.hid hE
      obtain ⟨n, hnn⟩ : ∃ n, n = fn := ⟨_, rfl⟩
      subst hnn
      go_enter Try.func20, Try.ntmps20
      go_upto_region 7 with (first
        | (go_at_call 31; refine hkn.mono ?_; rintro e w3 ⟨rfl, hb3⟩
           have hO3 := Lib.hid (hO0.out.call hb3)
           have hq2 := hinp2.out _ hO3.out.1
           clear hkn)
        | (go_at_call 35; refine hq2.mono ?_; rintro e w5 ⟨rfl, hb5⟩
           have hO5 := Lib.hid (hO3.out.call hb5)))
      clear hO0 hO3 hb3 hb5 hq2 hinp2
      have hO0 := hO5
      clear hO5
      go_cut [11] from 28 to 37 (fun v11 wc => CutG w [(24, #[.slice A n cc]), (29, #[.slice gA n gc, .slice fA n fc, .slice oA on oc]), (29, #[.slice none 0 0, .slice none 0 0, .slice none 0 0])] ⟨⟨gA, n, gc, gl⟩, ⟨fA, n, fc, fl⟩, ⟨oA, on, oc, ol⟩⟩ v11 wc)
      case first =>
       skip
       have hwD := Lib.hid hO0.out.drew
       obtain ⟨wD, hwD'⟩ : ∃ wD, wD = w5.drew := ⟨_, rfl⟩
       refine wp_region_K (S := (fun w' : World => w'.cell? ⟨w.heap.size + 1, 0, none⟩ = some (.slice gA n gc) ∧ w'.cell? ⟨w.heap.size + 1, 1, none⟩ = some (.slice fA n fc) ∧ w'.cell? ⟨w.heap.size + 1, 2, none⟩ = some (.slice oA on oc))) (K := []) (by kernel_rfl) ?_
       rw [← hwD'] at hwD ⊢
       clear hwD'
       have hS := cellsC hwD.out
       refine AnyK.take (i := 0) (v := .pointer (some ⟨w.heap.size + 1, 0, none⟩)) rfl (by kernel_rfl) (by kernel_rfl) (by kernel_rfl) (by kernel_rfl) (by kernel_rfl) (by kernel_rfl) (fun _ _ _ h => h) (Or.inl ⟨by rfl, ?_⟩) hS ?_
       · rintro w' ⟨a0, a1, a2⟩
         go_simp
       (try simp only [Act.put, List.setIfInBounds_toArray, List.set_cons_zero, List.set_cons_succ])
       refine AnyK.take (i := 1) (v := .slice gA n gc) rfl (by kernel_rfl) (by kernel_rfl) (by kernel_rfl) (by kernel_rfl) (by kernel_rfl) (by kernel_rfl) (fun _ _ _ h => h) (Or.inl ⟨by rfl, ?_⟩) hS ?_
       · rintro w' ⟨a0, a1, a2⟩
         go_simp
       (try simp only [Act.put, List.setIfInBounds_toArray, List.set_cons_zero, List.set_cons_succ])
       refine AnyK.take (i := 3) (v := .pointer (some ⟨w.heap.size + 1, 1, none⟩)) rfl (by kernel_rfl) (by kernel_rfl) (by kernel_rfl) (by kernel_rfl) (by kernel_rfl) (by kernel_rfl) (fun _ _ _ h => h) (Or.inl ⟨by rfl, ?_⟩) hS ?_
       · rintro w' ⟨a0, a1, a2⟩
         go_simp
       (try simp only [Act.put, List.setIfInBounds_toArray, List.set_cons_zero, List.set_cons_succ])
       refine AnyK.take (i := 4) (v := .slice fA n fc) rfl (by kernel_rfl) (by kernel_rfl) (by kernel_rfl) (by kernel_rfl) (by kernel_rfl) (by kernel_rfl) (fun _ _ _ h => h) (Or.inl ⟨by rfl, ?_⟩) hS ?_
       · rintro w' ⟨a0, a1, a2⟩
         go_simp
       (try simp only [Act.put, List.setIfInBounds_toArray, List.set_cons_zero, List.set_cons_succ])
       refine AnyK.take (i := 6) (v := .pointer (some ⟨w.heap.size + 1, 2, none⟩)) rfl (by kernel_rfl) (by kernel_rfl) (by kernel_rfl) (by kernel_rfl) (by kernel_rfl) (by kernel_rfl) (fun _ _ _ h => h) (Or.inl ⟨by rfl, ?_⟩) hS ?_
       · rintro w' ⟨a0, a1, a2⟩
         go_simp
       (try simp only [Act.put, List.setIfInBounds_toArray, List.set_cons_zero, List.set_cons_succ])
       refine AnyK.take (i := 7) (v := .slice oA on oc) rfl (by kernel_rfl) (by kernel_rfl) (by kernel_rfl) (by kernel_rfl) (by kernel_rfl) (by kernel_rfl) (fun _ _ _ h => h) (Or.inl ⟨by rfl, ?_⟩) hS ?_
       · rintro w' ⟨a0, a1, a2⟩
         go_simp
       (try simp only [Act.put, List.setIfInBounds_toArray, List.set_cons_zero, List.set_cons_succ])
       clear hS
       refine AnyK.two (i := 2) (j := 10) (by kernel_rfl) rfl rfl (fun K' hK => ?_) (fun K' hK => ?_)
       · skip
         go_simp
         refine (c_cloneN ⟨gA, n, gc, gl⟩ wD (hg.out.1.below (Own.lo hwD.out) (Nat.le_refl _)) hn0 hn6).mono ?_
         rintro e wS0 ⟨SA, Sc, rfl, okS, nwS, hb⟩
         have hwS0 := Lib.hid (hwD.out.call hb)
         replace nwS : Hid (NwA (w.heap.size + 3) SA) := NwA.mono nwS hwD.out.2.1
         replace okS := Lib.hid okS
         clear hb
         refine hK.out _ _ (fun _ => cellsC hwS0.out) ?_
         clear hK
         (try simp only [Act.put, List.setIfInBounds_toArray, List.set_cons_zero, List.set_cons_succ])
         refine AnyK.two (i := 5) (j := 10) (by kernel_rfl) rfl rfl (fun K' hK => ?_) (fun K' hK => ?_)
         · skip
           go_simp
           refine (c_cloneL ⟨fA, n, fc, fl⟩ wS0 (hg.out.2.1.below (Own.lo hwS0.out) (Nat.le_refl _)) hn0 hn6).mono ?_
           rintro e wF1 ⟨FA, Fc, rfl, okF, nwF, hb⟩
           have hwF1 := Lib.hid (hwS0.out.call hb)
           replace okS := Lib.hid (okS.out.below hb (Nat.le_refl _))
           replace nwF : Hid (NwA (w.heap.size + 3) FA) := NwA.mono nwF hwS0.out.2.1
           replace okF := Lib.hid okF
           clear hb
           refine hK.out _ _ (fun _ => cellsC hwF1.out) ?_
           clear hK
           (try simp only [Act.put, List.setIfInBounds_toArray, List.set_cons_zero, List.set_cons_succ])
           refine AnyK.two (i := 8) (j := 10) (by kernel_rfl) rfl rfl (fun K' hK => ?_) (fun K' hK => ?_)
           · skip
             go_simp
             refine (c_cloneS ⟨oA, on, oc, ol⟩ wF1 (hg.out.2.2.below (Own.lo hwF1.out) (Nat.le_refl _))).mono ?_
             rintro e wO2 ⟨OA, Oc, rfl, okO, nwO, hb⟩
             have hwO2 := Lib.hid (hwF1.out.call hb)
             replace okS := Lib.hid (okS.out.below hb (Nat.le_refl _))
             replace okF := Lib.hid (okF.out.below hb (Nat.le_refl _))
             replace nwO : Hid (NwA (w.heap.size + 3) OA) := NwA.mono nwO hwF1.out.2.1
             replace okO := Lib.hid okO
             clear hb
             refine hK.out _ _ (fun _ => cellsC hwO2.out) ?_
             clear hK
             (try simp only [Act.put, List.setIfInBounds_toArray, List.set_cons_zero, List.set_cons_succ])
             refine AnyK.two (i := 9) (j := 10) (by kernel_rfl) rfl rfl (fun K' hK => ?_) (fun K' hK => ?_)
             · skip
               go_simp
               refine hK.out _ _ (fun _ => cellsC hwO2.out) ?_
               clear hK
               (try simp only [Act.put, List.setIfInBounds_toArray, List.set_cons_zero, List.set_cons_succ])
               refine AnyK.one (i := 10) (by kernel_rfl) rfl (fun K' hK => ?_)
               go_simp
               obtain ⟨wA, eqA⟩ : ∃ wA, wA = wO2.alloc (.cells #[.slice none 0 0, .slice none 0 0, .slice none 0 0] 29) := ⟨_, rfl⟩
               obtain ⟨gX, hgX⟩ : ∃ gX, gX = wO2.heap.size := ⟨_, rfl⟩
               have hb : Below wO2.heap.size wO2 wA := by rw [eqA]; exact (Below.refl _ _).alloc (Nat.le_refl _) _
               have hX : Hid (Blk wA gX 29 #[.slice none 0 0, .slice none 0 0, .slice none 0 0]) := by show Blk _ _ _ _; rw [eqA, hgX]; exact Blk.new _ _ _
               have hX3 : Hid (w.heap.size + 3 ≤ gX) := by show _ ≤ _; rw [hgX]; exact hwO2.out.2.1
               have hwA := Lib.hid (hwO2.out.call hb)
               have ofS : Hid (Off gX n SA) := okS.out.off (by rw [hgX]; exact Nat.le_refl _)
               have ofF : Hid (Off gX n FA) := okF.out.off (by rw [hgX]; exact Nat.le_refl _)
               have ofO : Hid (Off gX on OA) := okO.out.off (by rw [hgX]; exact Nat.le_refl _)
               replace okS := Lib.hid (okS.out.below hb (Nat.le_refl _))
               replace okF := Lib.hid (okF.out.below hb (Nat.le_refl _))
               replace okO := Lib.hid (okO.out.below hb (Nat.le_refl _))
               clear hb
               rw [← eqA, ← hgX]
               clear eqA hgX
               refine hK.out _ _ (fun _ => cellsC hwA.out) ?_
               clear hK
               (try simp only [Act.put, List.setIfInBounds_toArray, List.set_cons_zero, List.set_cons_succ])
               refine AnyK.one (i := 11) (by kernel_rfl) rfl (fun K' hK => ?_)
               obtain ⟨x0, x1, x2, x3, x4, x5⟩ := blkT hX.out
               go_simp
               refine hK.out _ _ (fun _ => cellsC (hwA.out.setT hX3.out _ _ _)) ?_
               clear hK
               (try simp only [Act.put, List.setIfInBounds_toArray, List.set_cons_zero, List.set_cons_succ])
               refine AnyK.done (by kernel_rfl) ?_ _
               go_wp2_with fail
               go_meet
               exact CutG.mk (g := ⟨⟨gA, n, gc, gl⟩, ⟨fA, n, fc, fl⟩, ⟨oA, on, oc, ol⟩⟩) hX3.out hwA.out hX.out okS.out okF.out okO.out nwS.out nwF.out nwO.out ofS.out ofF.out ofO.out
             · skip
               go_simp
               obtain ⟨wA, eqA⟩ : ∃ wA, wA = wO2.alloc (.cells #[.slice none 0 0, .slice none 0 0, .slice none 0 0] 29) := ⟨_, rfl⟩
               obtain ⟨gX, hgX⟩ : ∃ gX, gX = wO2.heap.size := ⟨_, rfl⟩
               have hb : Below wO2.heap.size wO2 wA := by rw [eqA]; exact (Below.refl _ _).alloc (Nat.le_refl _) _
               have hX : Hid (Blk wA gX 29 #[.slice none 0 0, .slice none 0 0, .slice none 0 0]) := by show Blk _ _ _ _; rw [eqA, hgX]; exact Blk.new _ _ _
               have hX3 : Hid (w.heap.size + 3 ≤ gX) := by show _ ≤ _; rw [hgX]; exact hwO2.out.2.1
               have hwA := Lib.hid (hwO2.out.call hb)
               have ofS : Hid (Off gX n SA) := okS.out.off (by rw [hgX]; exact Nat.le_refl _)
               have ofF : Hid (Off gX n FA) := okF.out.off (by rw [hgX]; exact Nat.le_refl _)
               have ofO : Hid (Off gX on OA) := okO.out.off (by rw [hgX]; exact Nat.le_refl _)
               replace okS := Lib.hid (okS.out.below hb (Nat.le_refl _))
               replace okF := Lib.hid (okF.out.below hb (Nat.le_refl _))
               replace okO := Lib.hid (okO.out.below hb (Nat.le_refl _))
               clear hb
               rw [← eqA, ← hgX]
               clear eqA hgX
               refine hK.out _ _ (fun _ => cellsC hwA.out) ?_
               clear hK
               (try simp only [Act.put, List.setIfInBounds_toArray, List.set_cons_zero, List.set_cons_succ])
               refine AnyK.one (i := 9) (by kernel_rfl) rfl (fun K' hK => ?_)
               go_simp
               refine hK.out _ _ (fun _ => cellsC hwA.out) ?_
               clear hK
               (try simp only [Act.put, List.setIfInBounds_toArray, List.set_cons_zero, List.set_cons_succ])
               refine AnyK.one (i := 11) (by kernel_rfl) rfl (fun K' hK => ?_)
               obtain ⟨x0, x1, x2, x3, x4, x5⟩ := blkT hX.out
               go_simp
               refine hK.out _ _ (fun _ => cellsC (hwA.out.setT hX3.out _ _ _)) ?_
               clear hK
               (try simp only [Act.put, List.setIfInBounds_toArray, List.set_cons_zero, List.set_cons_succ])
               refine AnyK.done (by kernel_rfl) ?_ _
               go_wp2_with fail
               go_meet
               exact CutG.mk (g := ⟨⟨gA, n, gc, gl⟩, ⟨fA, n, fc, fl⟩, ⟨oA, on, oc, ol⟩⟩) hX3.out hwA.out hX.out okS.out okF.out okO.out nwS.out nwF.out nwO.out ofS.out ofF.out ofO.out
           · skip
             go_simp
             obtain ⟨wA, eqA⟩ : ∃ wA, wA = wF1.alloc (.cells #[.slice none 0 0, .slice none 0 0, .slice none 0 0] 29) := ⟨_, rfl⟩
             obtain ⟨gX, hgX⟩ : ∃ gX, gX = wF1.heap.size := ⟨_, rfl⟩
             have hb : Below wF1.heap.size wF1 wA := by rw [eqA]; exact (Below.refl _ _).alloc (Nat.le_refl _) _
             have hX : Hid (Blk wA gX 29 #[.slice none 0 0, .slice none 0 0, .slice none 0 0]) := by show Blk _ _ _ _; rw [eqA, hgX]; exact Blk.new _ _ _
             have hX3 : Hid (w.heap.size + 3 ≤ gX) := by show _ ≤ _; rw [hgX]; exact hwF1.out.2.1
             have hwA := Lib.hid (hwF1.out.call hb)
             have ofS : Hid (Off gX n SA) := okS.out.off (by rw [hgX]; exact Nat.le_refl _)
             have ofF : Hid (Off gX n FA) := okF.out.off (by rw [hgX]; exact Nat.le_refl _)
             replace okS := Lib.hid (okS.out.below hb (Nat.le_refl _))
             replace okF := Lib.hid (okF.out.below hb (Nat.le_refl _))
             clear hb
             rw [← eqA, ← hgX]
             clear eqA hgX
             refine hK.out _ _ (fun _ => cellsC hwA.out) ?_
             clear hK
             (try simp only [Act.put, List.setIfInBounds_toArray, List.set_cons_zero, List.set_cons_succ])
             refine AnyK.one (i := 8) (by kernel_rfl) rfl (fun K' hK => ?_)
             go_simp
             refine (c_cloneS ⟨oA, on, oc, ol⟩ wA (hg.out.2.2.below (Own.lo hwA.out) (Nat.le_refl _))).mono ?_
             rintro e wO2 ⟨OA, Oc, rfl, okO, nwO, hb⟩
             have hwO2 := Lib.hid (hwA.out.call hb)
             replace okS := Lib.hid (okS.out.below hb (Nat.le_refl _))
             replace okF := Lib.hid (okF.out.below hb (Nat.le_refl _))
             have hXl := Lib.hid hX.out.lt
             replace hX := Lib.hid (hX.out.call hb)
             have ofO : Hid (Off gX on OA) := NwA.off (A := OA) nwO hXl.out
             replace nwO : Hid (NwA (w.heap.size + 3) OA) := NwA.mono nwO hwA.out.2.1
             replace okO := Lib.hid okO
             clear hb
             refine hK.out _ _ (fun _ => cellsC hwO2.out) ?_
             clear hK
             (try simp only [Act.put, List.setIfInBounds_toArray, List.set_cons_zero, List.set_cons_succ])
             refine AnyK.one (i := 9) (by kernel_rfl) rfl (fun K' hK => ?_)
             go_simp
             refine hK.out _ _ (fun _ => cellsC hwO2.out) ?_
             clear hK
             (try simp only [Act.put, List.setIfInBounds_toArray, List.set_cons_zero, List.set_cons_succ])
             refine AnyK.one (i := 11) (by kernel_rfl) rfl (fun K' hK => ?_)
             obtain ⟨x0, x1, x2, x3, x4, x5⟩ := blkT hX.out
             go_simp
             refine hK.out _ _ (fun _ => cellsC (hwO2.out.setT hX3.out _ _ _)) ?_
             clear hK
             (try simp only [Act.put, List.setIfInBounds_toArray, List.set_cons_zero, List.set_cons_succ])
             refine AnyK.done (by kernel_rfl) ?_ _
             go_wp2_with fail
             go_meet
             exact CutG.mk (g := ⟨⟨gA, n, gc, gl⟩, ⟨fA, n, fc, fl⟩, ⟨oA, on, oc, ol⟩⟩) hX3.out hwO2.out hX.out okS.out okF.out okO.out nwS.out nwF.out nwO.out ofS.out ofF.out ofO.out
         · skip
           go_simp
           obtain ⟨wA, eqA⟩ : ∃ wA, wA = wS0.alloc (.cells #[.slice none 0 0, .slice none 0 0, .slice none 0 0] 29) := ⟨_, rfl⟩
           obtain ⟨gX, hgX⟩ : ∃ gX, gX = wS0.heap.size := ⟨_, rfl⟩
           have hb : Below wS0.heap.size wS0 wA := by rw [eqA]; exact (Below.refl _ _).alloc (Nat.le_refl _) _
           have hX : Hid (Blk wA gX 29 #[.slice none 0 0, .slice none 0 0, .slice none 0 0]) := by show Blk _ _ _ _; rw [eqA, hgX]; exact Blk.new _ _ _
           have hX3 : Hid (w.heap.size + 3 ≤ gX) := by show _ ≤ _; rw [hgX]; exact hwS0.out.2.1
           have hwA := Lib.hid (hwS0.out.call hb)
           have ofS : Hid (Off gX n SA) := okS.out.off (by rw [hgX]; exact Nat.le_refl _)
           replace okS := Lib.hid (okS.out.below hb (Nat.le_refl _))
           clear hb
           rw [← eqA, ← hgX]
           clear eqA hgX
           refine hK.out _ _ (fun _ => cellsC hwA.out) ?_
           clear hK
           (try simp only [Act.put, List.setIfInBounds_toArray, List.set_cons_zero, List.set_cons_succ])
           refine AnyK.one (i := 5) (by kernel_rfl) rfl (fun K' hK => ?_)
           go_simp
           refine (c_cloneL ⟨fA, n, fc, fl⟩ wA (hg.out.2.1.below (Own.lo hwA.out) (Nat.le_refl _)) hn0 hn6).mono ?_
           rintro e wF1 ⟨FA, Fc, rfl, okF, nwF, hb⟩
           have hwF1 := Lib.hid (hwA.out.call hb)
           replace okS := Lib.hid (okS.out.below hb (Nat.le_refl _))
           have hXl := Lib.hid hX.out.lt
           replace hX := Lib.hid (hX.out.call hb)
           have ofF : Hid (Off gX n FA) := NwA.off (A := FA) nwF hXl.out
           replace nwF : Hid (NwA (w.heap.size + 3) FA) := NwA.mono nwF hwA.out.2.1
           replace okF := Lib.hid okF
           clear hb
           refine hK.out _ _ (fun _ => cellsC hwF1.out) ?_
           clear hK
           (try simp only [Act.put, List.setIfInBounds_toArray, List.set_cons_zero, List.set_cons_succ])
           refine AnyK.one (i := 8) (by kernel_rfl) rfl (fun K' hK => ?_)
           go_simp
           refine (c_cloneS ⟨oA, on, oc, ol⟩ wF1 (hg.out.2.2.below (Own.lo hwF1.out) (Nat.le_refl _))).mono ?_
           rintro e wO2 ⟨OA, Oc, rfl, okO, nwO, hb⟩
           have hwO2 := Lib.hid (hwF1.out.call hb)
           replace okS := Lib.hid (okS.out.below hb (Nat.le_refl _))
           replace okF := Lib.hid (okF.out.below hb (Nat.le_refl _))
           have hXl := Lib.hid hX.out.lt
           replace hX := Lib.hid (hX.out.call hb)
           have ofO : Hid (Off gX on OA) := NwA.off (A := OA) nwO hXl.out
           replace nwO : Hid (NwA (w.heap.size + 3) OA) := NwA.mono nwO hwF1.out.2.1
           replace okO := Lib.hid okO
           clear hb
           refine hK.out _ _ (fun _ => cellsC hwO2.out) ?_
           clear hK
           (try simp only [Act.put, List.setIfInBounds_toArray, List.set_cons_zero, List.set_cons_succ])
           refine AnyK.one (i := 9) (by kernel_rfl) rfl (fun K' hK => ?_)
           go_simp
           refine hK.out _ _ (fun _ => cellsC hwO2.out) ?_
           clear hK
           (try simp only [Act.put, List.setIfInBounds_toArray, List.set_cons_zero, List.set_cons_succ])
           refine AnyK.one (i := 11) (by kernel_rfl) rfl (fun K' hK => ?_)
           obtain ⟨x0, x1, x2, x3, x4, x5⟩ := blkT hX.out
           go_simp
           refine hK.out _ _ (fun _ => cellsC (hwO2.out.setT hX3.out _ _ _)) ?_
           clear hK
           (try simp only [Act.put, List.setIfInBounds_toArray, List.set_cons_zero, List.set_cons_succ])
           refine AnyK.done (by kernel_rfl) ?_ _
           go_wp2_with fail
           go_meet
           exact CutG.mk (g := ⟨⟨gA, n, gc, gl⟩, ⟨fA, n, fc, fl⟩, ⟨oA, on, oc, ol⟩⟩) hX3.out hwO2.out hX.out okS.out okF.out okO.out nwS.out nwF.out nwO.out ofS.out ofF.out ofO.out
       · skip
         go_simp
         obtain ⟨wA, eqA⟩ : ∃ wA, wA = wD.alloc (.cells #[.slice none 0 0, .slice none 0 0, .slice none 0 0] 29) := ⟨_, rfl⟩
         obtain ⟨gX, hgX⟩ : ∃ gX, gX = wD.heap.size := ⟨_, rfl⟩
         have hb : Below wD.heap.size wD wA := by rw [eqA]; exact (Below.refl _ _).alloc (Nat.le_refl _) _
         have hX : Hid (Blk wA gX 29 #[.slice none 0 0, .slice none 0 0, .slice none 0 0]) := by show Blk _ _ _ _; rw [eqA, hgX]; exact Blk.new _ _ _
         have hX3 : Hid (w.heap.size + 3 ≤ gX) := by show _ ≤ _; rw [hgX]; exact hwD.out.2.1
         have hwA := Lib.hid (hwD.out.call hb)
         clear hb
         rw [← eqA, ← hgX]
         clear eqA hgX
         refine hK.out _ _ (fun _ => cellsC hwA.out) ?_
         clear hK
         (try simp only [Act.put, List.setIfInBounds_toArray, List.set_cons_zero, List.set_cons_succ])
         refine AnyK.one (i := 2) (by kernel_rfl) rfl (fun K' hK => ?_)
         go_simp
         refine (c_cloneN ⟨gA, n, gc, gl⟩ wA (hg.out.1.below (Own.lo hwA.out) (Nat.le_refl _)) hn0 hn6).mono ?_
         rintro e wS0 ⟨SA, Sc, rfl, okS, nwS, hb⟩
         have hwS0 := Lib.hid (hwA.out.call hb)
         have hXl := Lib.hid hX.out.lt
         replace hX := Lib.hid (hX.out.call hb)
         have ofS : Hid (Off gX n SA) := NwA.off (A := SA) nwS hXl.out
         replace nwS : Hid (NwA (w.heap.size + 3) SA) := NwA.mono nwS hwA.out.2.1
         replace okS := Lib.hid okS
         clear hb
         refine hK.out _ _ (fun _ => cellsC hwS0.out) ?_
         clear hK
         (try simp only [Act.put, List.setIfInBounds_toArray, List.set_cons_zero, List.set_cons_succ])
         refine AnyK.one (i := 5) (by kernel_rfl) rfl (fun K' hK => ?_)
         go_simp
         refine (c_cloneL ⟨fA, n, fc, fl⟩ wS0 (hg.out.2.1.below (Own.lo hwS0.out) (Nat.le_refl _)) hn0 hn6).mono ?_
         rintro e wF1 ⟨FA, Fc, rfl, okF, nwF, hb⟩
         have hwF1 := Lib.hid (hwS0.out.call hb)
         replace okS := Lib.hid (okS.out.below hb (Nat.le_refl _))
         have hXl := Lib.hid hX.out.lt
         replace hX := Lib.hid (hX.out.call hb)
         have ofF : Hid (Off gX n FA) := NwA.off (A := FA) nwF hXl.out
         replace nwF : Hid (NwA (w.heap.size + 3) FA) := NwA.mono nwF hwS0.out.2.1
         replace okF := Lib.hid okF
         clear hb
         refine hK.out _ _ (fun _ => cellsC hwF1.out) ?_
         clear hK
         (try simp only [Act.put, List.setIfInBounds_toArray, List.set_cons_zero, List.set_cons_succ])
         refine AnyK.one (i := 8) (by kernel_rfl) rfl (fun K' hK => ?_)
         go_simp
         refine (c_cloneS ⟨oA, on, oc, ol⟩ wF1 (hg.out.2.2.below (Own.lo hwF1.out) (Nat.le_refl _))).mono ?_
         rintro e wO2 ⟨OA, Oc, rfl, okO, nwO, hb⟩
         have hwO2 := Lib.hid (hwF1.out.call hb)
         replace okS := Lib.hid (okS.out.below hb (Nat.le_refl _))
         replace okF := Lib.hid (okF.out.below hb (Nat.le_refl _))
         have hXl := Lib.hid hX.out.lt
         replace hX := Lib.hid (hX.out.call hb)
         have ofO : Hid (Off gX on OA) := NwA.off (A := OA) nwO hXl.out
         replace nwO : Hid (NwA (w.heap.size + 3) OA) := NwA.mono nwO hwF1.out.2.1
         replace okO := Lib.hid okO
         clear hb
         refine hK.out _ _ (fun _ => cellsC hwO2.out) ?_
         clear hK
         (try simp only [Act.put, List.setIfInBounds_toArray, List.set_cons_zero, List.set_cons_succ])
         refine AnyK.one (i := 9) (by kernel_rfl) rfl (fun K' hK => ?_)
         go_simp
         refine hK.out _ _ (fun _ => cellsC hwO2.out) ?_
         clear hK
         (try simp only [Act.put, List.setIfInBounds_toArray, List.set_cons_zero, List.set_cons_succ])
         refine AnyK.one (i := 11) (by kernel_rfl) rfl (fun K' hK => ?_)
         obtain ⟨x0, x1, x2, x3, x4, x5⟩ := blkT hX.out
         go_simp
         refine hK.out _ _ (fun _ => cellsC (hwO2.out.setT hX3.out _ _ _)) ?_
         clear hK
         (try simp only [Act.put, List.setIfInBounds_toArray, List.set_cons_zero, List.set_cons_succ])
         refine AnyK.done (by kernel_rfl) ?_ _
         go_wp2_with fail
         go_meet
         exact CutG.mk (g := ⟨⟨gA, n, gc, gl⟩, ⟨fA, n, fc, fl⟩, ⟨oA, on, oc, ol⟩⟩) hX3.out hwO2.out hX.out okS.out okF.out okO.out nwS.out nwF.out nwO.out ofS.out ofF.out ofO.out
      case rest =>
       obtain ⟨gX, ⟨⟨xA, xn, xc, xl⟩, ⟨yA, yn, yc, yl⟩, ⟨zA, zn, zc, zl⟩⟩, rfl, hX3, hO, hBX, hgk, hgw, hcf, hxn, hyn⟩ := hcut
       simp only [List.length_cons, List.length_nil] at hX3 hgw
       simp only at hBX hxn hyn
       subst xn
       subst yn
       obtain ⟨wB, hwB⟩ : ∃ wB, wB = wc := ⟨_, rfl⟩
       subst hwB
       clear hO0
       have hXB : gX < wB.heap.size := hBX.lt
       have hstart : Hid (RunL w [(24, #[.slice A n cc]), (29, #[.slice gA n gc, .slice fA n fc, .slice oA on oc]), (29, #[.slice none 0 0, .slice none 0 0, .slice none 0 0])] gX wB.heap.size n l ⟨gl, fl, ol⟩ (rl.map SL.l) (.int .i64 0) (.slice none 0 0) wB) := ⟨0, ⟨⟨xA, n, xc, xl⟩, ⟨yA, n, yc, yl⟩, ⟨zA, zn, zc, zl⟩⟩, [], none, 0, Nat.zero_le _, rfl, rfl, hO, hBX, hgk, hgw, by rw [hcf]; rfl, rfl, rfl, World.ownsRow_nil _ _ _ _, rfl, (fun s hs => by cases hs), (fun s hs => by cases hs), rfl, Nat.le_refl _⟩
       clear hO hBX hgk hgw hcf
       go_wp2_with fail
       go_loopw [12, 40] (fun v12 v40 wr => RunL w [(24, #[.slice A n cc]), (29, #[.slice gA n gc, .slice fA n fc, .slice oA on oc]), (29, #[.slice none 0 0, .slice none 0 0, .slice none 0 0])] gX wB.heap.size n l ⟨gl, fl, ol⟩ (rl.map SL.l) v40 v12 wr) (fun _ i _ => rn - (intOf i).toNat)
       case atStart => exact hstart.out
       case round =>
        obtain ⟨k, ⟨⟨xA, xn, xc, xl⟩, ⟨yA, yn, yc, yl⟩, ⟨zA, zn, zc, zl⟩⟩, rows, qA, qc, hk, rfl, rfl, hO, hBX, hgk, hgw, hcf, hxn, hyn, hrow, hrl2, hrows, hoff, hro, hsz⟩ := hrel
        simp only at hBX hxn hyn
        subst xn
        subst yn
        have a0 := hO.b0.cell 0
        simp only [List.getElem?_toArray, List.getElem?_cons_zero] at a0
        obtain ⟨x0, x1, x2, -, -, -⟩ := blkT hBX
        have hml : (rl.map SL.l).length = rn := by rw [List.length_map]; exact hrl
        rw [hml] at hk
        clear hstart
        by_cases hlt : k < rn
        · obtain ⟨gr, ro, s, hAr, hgr, hs, hsok, c0⟩ := (hr.out.below hO.1 (Nat.le_refl _)).cell (j := k) hlt
          simp only at hAr hs c0
          subst hAr
          obtain ⟨sA, sn, sc, sl⟩ := s
          have hcall := hpr.out wr ⟨⟨xA, n, xc, xl⟩, ⟨yA, n, yc, yl⟩, ⟨zA, zn, zc, zl⟩⟩ ⟨sA, sn, sc, sl⟩ hO.1 hgk hsok hv.out rfl rfl
          simp only at hcall c0
          have htk : (rl.map SL.l).take (k + 1) = (rl.map SL.l).take k ++ [sl] := by
            rw [List.take_succ_eq_append_getElem (by omega)]
            congr 2
            have : (rl.map SL.l)[k]? = some sl := by rw [List.getElem?_map, hs]; rfl
            rw [List.getElem?_eq_getElem (by omega)] at this
            exact Option.some.inj this
          have hO' := Lib.hid hO
          have hBX' := Lib.hid hBX
          have hrow' := Lib.hid hrow
          have hrows' := Lib.hid hrows
          have hoff' := Lib.hid hoff
          have hgs := Lib.hid hs
          have hrn2 : rn ≤ 17592186044416 := by omega
          clear hO hBX hrow hrows hoff hs hgk hgw hsok
          go_upto_region 13 with (go_at_call 36; refine hcall.mono ?_; rintro e w6 ⟨⟨⟨uA, un, uc, ul⟩, ⟨vA, vn, vc, vl⟩, ⟨tA, tn, tc, tl⟩⟩, dA, dc, rfl, hok2, hnew2, q1, q2, q3, q4, q5, -, hb6⟩; simp only at q1 q2 q3 q4 q5; subst un; subst vn; obtain ⟨x60, x61, x62, x63, x64, x65⟩ := blkT (hBX'.out.call hb6))
          obtain ⟨w7, hw7⟩ : ∃ w7, w7 = ((w6.setCell ⟨gX, 0, none⟩ (.slice uA n uc)).setCell ⟨gX, 1, none⟩ (.slice vA n vc)).setCell ⟨gX, 2, none⟩ (.slice tA tn tc) := ⟨_, rfl⟩
          rw [← hw7]
          have hXlt : gX < wr.heap.size := hBX'.out.lt
          have hO7 := (hO'.out.call hb6).setT hX3 (.slice uA n uc) (.slice vA n vc) (.slice tA tn tc)
          have hB7 := (hBX'.out.call hb6).set3 (.slice uA n uc) (.slice vA n vc) (.slice tA tn tc)
          have hg7 := GV.ok.set3 hok2 hnew2 hXlt (.slice uA n uc) (.slice vA n vc) (.slice tA tn tc)
          have hr7 := OR.far3 (OR.call hrow'.out hb6) hXB (.slice uA n uc) (.slice vA n vc) (.slice tA tn tc)
          have hrs7 := fun s hs => (And.intro (((hrows'.out s hs).1.below hb6 (Nat.le_refl _)).set3 (hrows'.out s hs).2 hXB (.slice uA n uc) (.slice vA n vc) (.slice tA tn tc)) (hrows'.out s hs).2)
          rw [← hw7] at hO7 hB7 hg7 hr7
          simp only [← hw7] at hrs7
          have hszr : wB.heap.size ≤ w7.heap.size := by
            have h1 := hb6.size
            have h2 : w7.heap.size = w6.heap.size := by rw [hw7]; simp [World.setCell]
            omega
          have hbr7 : wr.heap.size ≤ w7.heap.size := by
            have h1 := hb6.size
            have h2 : w7.heap.size = w6.heap.size := by rw [hw7]; simp [World.setCell]
            omega
          clear hw7
          have hgn7 : Hid (GV.new (w.heap.size + 3) ⟨⟨uA, n, uc, ul⟩, ⟨vA, n, vc, vl⟩, ⟨tA, tn, tc, tl⟩⟩) := hnew2.mono hO'.out.2.1
          have hcf7 : Hid ((⟨ul, vl, tl⟩ : CF) = CF.run l ⟨gl, fl, ol⟩ ((rl.map SL.l).take (k + 1))) := by
            show _ = _
            rw [htk, CF.run_snoc, ← hcf]
            show _ = CF.mk ((List.range l.length).map _) ((List.range l.length).map _) _
            rw [hcl, q1, q2, q3]
            rfl
          have hcl7 := c_cloneS ⟨tA, tn, tc, tl⟩ w7 hg7.2.2
          have x7 := hB7.cell 2
          simp only [List.getElem?_toArray, List.getElem?_cons_zero, List.getElem?_cons_succ] at x7
          replace hO7 := Lib.hid hO7
          replace hB7 := Lib.hid hB7
          replace hg7 := Lib.hid hg7
          replace hr7 := Lib.hid hr7
          replace hrs7 := Lib.hid hrs7
          have hgo7 : Hid (∀ q, (Value.slice qA k qc).ownBlock = some q → q < wr.heap.size) := fun q e => (OR.at hrow'.out e).2
          replace hnew2 := Lib.hid hnew2
          replace hszr := Lib.hid hszr
          replace hbr7 := Lib.hid hbr7
          clear q1 q2 q3 hok2 hb6 hcall x0 x1 x2 x60 x61 x62 x63 x64 x65 c0 a0 hcf
          go_wp2_with (first
            | (go_at_call 42; refine hcl7.mono ?_; rintro e w8 ⟨iA, ic, rfl, hiok, hinw, hb8⟩
               have hr8 := Lib.hid (OR.more (OR.call hr7.out hb8) (.cells #[.slice iA tn ic] 27)))
            | (at_builtin; refine app_R1 rfl _ _ rfl wB.heap.size k (.slice qA k qc) rows rfl hr8.out (by omega) (by have := hb8.size; have := hszr.out; simp; omega) ⟨w8.heap.size, 0, none⟩ 1 ⟨iA, tn, ic, tl⟩ rfl (cell_one_new _ _ _) ?_; intro gS capS w9 hown9 hgr9 hat9))
          obtain ⟨w10, hw10⟩ : ∃ w10, w10 = w8.alloc (.cells #[.slice iA tn ic] 27) := ⟨_, rfl⟩
          rw [← hw10] at hgr9 hat9 hr8
          have hbA : Below w8.heap.size w8 w10 := by rw [hw10]; exact (Below.refl _ _).alloc (Nat.le_refl _) _
          have hfin := fun v hv => RunL.next (v := v) (w := w) (bs := [(24, #[.slice A n cc]), (29, #[.slice gA n gc, .slice fA n fc, .slice oA on oc]), (29, #[.slice none 0 0, .slice none 0 0, .slice none 0 0])]) (gX := gX) (B := wB.heap.size) (n := n) (l := l) (x := ⟨gl, fl, ol⟩) (ins := rl.map SL.l) (k := k) (w8 := w10) (w9 := w9) (g := ⟨⟨uA, n, uc, ul⟩, ⟨vA, n, vc, vl⟩, ⟨tA, tn, tc, tl⟩⟩) (rows := rows) (qA := qA) (qc := qc) (gS := gS) (capS := capS) (y := ⟨iA, tn, ic, tl⟩)
            (by omega) ((hO7.out.call hb8).call hbA) rfl (by omega) hXB ((hB7.out.call hb8).call hbA) ((hg7.out.below hb8 (Nat.le_refl _)).below hbA (Nat.le_refl _)) hgn7.out hcf7.out rfl rfl
            hr8.out hrl2 (fun s hs => ⟨((hrs7.out s hs).1.below hb8 (Nat.le_refl _)).below hbA (Nat.le_refl _), (hrs7.out s hs).2⟩) hoff'.out hro (hiok.below hbA (Nat.le_refl _)) (NwA.mono (A := iA) hinw hszr.out)
            (fun q e => NwA.off (A := iA) hinw (by have := hgo7.out q e; have := hbr7.out; omega)) rfl
            (fun q e => have hq := hgo7.out q e; ⟨NwA.off (A := uA) hnew2.out.1 hq, NwA.off (A := vA) hnew2.out.2.1 hq, NwA.off (A := tA) hnew2.out.2.2 hq⟩)
            hown9 hgr9 hat9 (by have := hbA.size; have := hb8.size; have := hszr.out; omega) hv
          replace hfin := Lib.hid hfin
          clear hown9 hgr9 hat9 hbA hr8 hb8 hiok hinw hO7 hB7 hg7 hr7 hrs7 hgo7 hnew2 hszr hbr7 hcf7 hgn7 hw10 hcl7 x7
          go_roundw
          case rel => exact hfin.out _ (by go_num)
          case measure => simp [intOf]; omega
        · obtain rfl : k = rn := by omega
          obtain ⟨p0, p1, p2, p3, p4, p5⟩ := blkT hO.b2
          have htk : (rl.map SL.l).take k = rl.map SL.l := List.take_of_length_le (by omega)
          rw [htk] at hcf hro
          have hsB : w.heap.size + 3 ≤ wB.heap.size := by omega
          have hR : Ran ⟨A, n, cc, l⟩ ⟨⟨gA, n, gc, gl⟩, ⟨fA, n, fc, fl⟩, ⟨oA, on, oc, ol⟩⟩ ⟨rA, k, rc, rl⟩ w (.returned (.tuple #[.agg #[.slice xA n xc, .slice yA n yc, .slice zA zn zc], .slice qA k qc, .int .i64 0])) (((wr.setCell ⟨w.heap.size + 2, 0, none⟩ (.slice xA n xc)).setCell ⟨w.heap.size + 2, 1, none⟩ (.slice yA n yc)).setCell ⟨w.heap.size + 2, 2, none⟩ (.slice zA zn zc)) := by
            have hq : RL.ok wr ⟨qA, k, qc, rows⟩ := RL.row hrow hrl2 (fun s hs => (hrows s hs).1) (by omega)
            have hqn : RL.new wB.heap.size ⟨qA, k, qc, rows⟩ := ⟨OR.newA hrow, fun s hs => (hrows s hs).2⟩
            refine ⟨⟨⟨xA, n, xc, xl⟩, ⟨yA, n, yc, yl⟩, ⟨zA, zn, zc, zl⟩⟩, ⟨qA, k, qc, rows⟩, by rw [hE.out], hgk.set3 hgw (by omega) _ _ _, hgw.mono (by omega), hq.set3 hqn (by omega) _ _ _, ⟨fun a e => Nat.le_trans (by omega) (hqn.1 a e), fun s hs a e => Nat.le_trans (by omega) (hqn.2 s hs a e)⟩, ?_, ?_, Own.set3 hO 2 0 1 2 _ _ _⟩
            · unfold runCf; rw [if_pos hE.out]; exact hcf
            · unfold runOs; rw [if_pos hE.out]; exact hro
          replace hR := Lib.hid hR
          clear hO hBX hgk hgw hcf hrow hrl2 hrows hoff hro a0
          go_wp2_with fail
          exact bodyPost_ret (v := .tuple #[.agg #[.slice xA n xc, .slice yA n yc, .slice zA zn zc], .slice qA k qc, .int .i64 0]) (by simp [results, Try.results20, go_sem, p0, p1, p2]) rfl hR.out
    · have hE : runErr ⟨A, fn, cc, l⟩ ⟨⟨gA, fn, gc, gl⟩, ⟨fA, fn, fc, fl⟩, ⟨oA, on, oc, ol⟩⟩ ⟨rA, rn, rc, rl⟩ = inErr rl := by
        unfold runErr
        rw [if_pos hk0]
      have hN := ran_none (w := w) (c := ⟨A, fn, cc, l⟩) (g := ⟨⟨gA, fn, gc, gl⟩, ⟨fA, fn, fc, fl⟩, ⟨oA, on, oc, ol⟩⟩) (r := ⟨rA, rn, rc, rl⟩) (by rw [hE]; exact hi0)
      rw [hE] at hN
      rw [hk0] at hkn
      clear hE hgc hknc hk0 hpr hst
      simp only at hinp
      obtain ⟨I, hI⟩ : ∃ I, I = inErr rl := ⟨_, rfl⟩
      rw [← hI] at hi0 hN
      simp only [← hI] at hinp
      generalize Ran ⟨A, fn, cc, l⟩ ⟨⟨gA, fn, gc, gl⟩, ⟨fA, fn, fc, fl⟩, ⟨oA, on, oc, ol⟩⟩ ⟨rA, rn, rc, rl⟩ w = Q at hN ⊢
      clear hI
      replace hN := Lib.hid hN
      have hVb : (I == 0) = false := by simpa using hi0
      have hVc : (I != 0) = true := by simpa using hi0
      go_enter Try.func20, Try.ntmps20
      go_wp2_with (first
        | (go_at_call 31; refine hkn.mono ?_; rintro e w3 ⟨rfl, hb3⟩
           have hO3 := Lib.hid (hO0.out.call hb3)
           have hq2 := hinp.out _ hO3.out.1)
        | (go_at_call 35; refine hq2.mono ?_; rintro e w5 ⟨rfl, hb5⟩
           have hO5 := Lib.hid (hO3.out.call hb5)
           obtain ⟨p0, p1, p2, p3, p4, p5⟩ := blkT hO5.out.b2))
      have hfin := Lib.hid (hN.out _ _ rfl (Own.set3 hO5.out 2 0 1 2 (.slice none 0 0) (.slice none 0 0) (.slice none 0 0)))
      exact bodyPost_ret (v := .tuple #[.agg #[.slice none 0 0, .slice none 0 0, .slice none 0 0], .slice none 0 0, .int .i64 I]) (by simp [results, Try.results20, go_sem, p0, p1, p2]) rfl hfin.out
  · have hE : runErr ⟨A, n, cc, l⟩ ⟨⟨gA, gn, gc, gl⟩, ⟨fA, fn, fc, fl⟩, ⟨oA, on, oc, ol⟩⟩ ⟨rA, rn, rc, rl⟩ = GV.known ⟨A, n, cc, l⟩ ⟨⟨gA, gn, gc, gl⟩, ⟨fA, fn, fc, fl⟩, ⟨oA, on, oc, ol⟩⟩ := by
      unfold runErr
      rw [if_neg hk0]
    have hN := ran_none (w := w) (c := ⟨A, n, cc, l⟩) (g := ⟨⟨gA, gn, gc, gl⟩, ⟨fA, fn, fc, fl⟩, ⟨oA, on, oc, ol⟩⟩) (r := ⟨rA, rn, rc, rl⟩) (by rw [hE]; exact hk0)
    rw [hE] at hN
    clear hE hgc hknc hpr hst hinp
    generalize GV.known ⟨A, n, cc, l⟩ ⟨⟨gA, gn, gc, gl⟩, ⟨fA, fn, fc, fl⟩, ⟨oA, on, oc, ol⟩⟩ = I at hk0 hN hkn
    generalize Ran ⟨A, n, cc, l⟩ ⟨⟨gA, gn, gc, gl⟩, ⟨fA, fn, fc, fl⟩, ⟨oA, on, oc, ol⟩⟩ ⟨rA, rn, rc, rl⟩ w = Q at hN ⊢
    replace hN := Lib.hid hN
    have hVb : (I == 0) = false := by simpa using hk0
    have hVc : (I != 0) = true := by simpa using hk0
    go_enter Try.func20, Try.ntmps20
    go_wp2_with (go_at_call 31; refine hkn.mono ?_; rintro e w3 ⟨rfl, hb3⟩; have hO3 := Lib.hid (hO0.out.call hb3); obtain ⟨p0, p1, p2, p3, p4, p5⟩ := blkT hO3.out.b2)
    have hfin := Lib.hid (hN.out _ _ rfl (Own.set3 hO3.out 2 0 1 2 (.slice none 0 0) (.slice none 0 0) (.slice none 0 0)))
    exact bodyPost_ret (v := .tuple #[.agg #[.slice none 0 0, .slice none 0 0, .slice none 0 0], .slice none 0 0, .int .i64 I]) (by simp [results, Try.results20, go_sem, p0, p1, p2]) rfl hfin.out

end Go.Proofs.Ytgjmbmlmopomgaa
