/- React. -/
import Derived.Test.YtgjmbmlmopomgaaEa
import Derived.Test.YtgjmbmlmopomgaaDf
import Derived.Test.YtgjmbmlmopomgaaCn
namespace Go.Proofs.Ytgjmbmlmopomgaa
open Go.RowKit Go.Maps Lib
set_option linter.unusedSimpArgs false
set_option linter.unusedVariables false

/-- the error of React -/
def rErr (c : CV) (g : GV) (i : SL) : Int := if g.known c = 0 then inErr [i] else g.known c
def reS (c : CV) (g : GV) (i : SL) : List Int := if rErr c g i = 0 then (List.range c.n).map (reacted c g i).x.S else []
def reF (c : CV) (g : GV) (i : SL) : List Bool := if rErr c g i = 0 then (List.range c.n).map (reacted c g i).x.F else []
def reO (c : CV) (g : GV) (i : SL) : List ByteArray := if rErr c g i = 0 then outS (reacted c g i).O else []
def reD (c : CV) (g : GV) (i : SL) : List (Nat × Nat) := if rErr c g i = 0 then (reacted c g i).D else []
/-- React's answer -/
def Reacted (c : CV) (g : GV) (i : SL) (w : World) (e : Ending) (w' : World) : Prop :=
  ∃ (g' : GV) (dA : Option Addr) (dc : Nat), e = .returned (.tuple #[.agg #[.slice g'.st.A g'.st.n g'.st.c, .slice g'.fr.A g'.fr.n g'.fr.c, .slice g'.out.A g'.out.n g'.out.c], .slice dA (reD c g i).length dc, .int .i64 (rErr c g i)]) ∧ g'.ok w' ∧ g'.new w.heap.size ∧
    g'.st.l = reS c g i ∧ g'.fr.l = reF c g i ∧ g'.out.l = reO c g i ∧
    w'.ownsRow w.heap.size 42 2 (.slice dA (reD c g i).length dc) (reD c g i).length (dv (reD c g i)) ∧ Below w.heap.size w w'

set_option maxRecDepth 100000 in
set_option maxHeartbeats 4000000 in
theorem m_React (c : CV) (g : GV) (i : SL) (w : World) (hc : c.ok w) (hg : g.ok w) (hi : i.ok w) :
    Calls Try.prog 15 #[.agg #[.slice c.A c.n c.c], .agg #[.slice g.st.A g.st.n g.st.c, .slice g.fr.A g.fr.n g.fr.c, .slice g.out.A g.out.n g.out.c], .slice i.A i.n i.c] w (Reacted c g i w) := by
  have hO0 := Own.three w 24 29 29 #[.slice c.A c.n c.c] #[.slice g.st.A g.st.n g.st.c, .slice g.fr.A g.fr.n g.fr.c, .slice g.out.A g.out.n g.out.c] #[.slice none 0 0, .slice none 0 0, .slice none 0 0]
  have hkn := m_known c g _ (hc.below hO0.1 (Nat.le_refl _)) (hg.below hO0.1 (Nat.le_refl _))
  have hre := fun (h : g.known c = 0) (w' : World) (hb : Below w.heap.size w w') => p_react c g i w' (hc.below hb (Nat.le_refl _)) (hg.below hb (Nat.le_refl _)) (hi.below hb (Nat.le_refl _)) (GV.known_fine h).1 (GV.fine_n (GV.known_fine h).2).1 (GV.fine_n (GV.known_fine h).2).2
  have hin : ∀ (w' : World), Below w.heap.size w w' → Calls Try.prog 35 #[.slice (some ⟨w'.heap.size, 0, none⟩) 1 1] (w'.alloc (.cells #[.slice i.A i.n i.c] 27)) (fun e w'' => e = .returned (.int .i64 (inErr [i])) ∧ Below (w'.alloc (.cells #[.slice i.A i.n i.c] 27)).heap.size (w'.alloc (.cells #[.slice i.A i.n i.c] 27)) w'') := fun w' hb => m_inputs ⟨some ⟨w'.heap.size, 0, none⟩, 1, 1, [i]⟩ (w'.alloc (.cells #[.slice i.A i.n i.c] 27)) ⟨rfl, Nat.le_refl _, (by show (1 : Nat) ≤ _; decide), fun x hx => by
      rw [List.mem_singleton.1 hx]
      exact (hi.below hb (Nat.le_refl _)).below ((Below.refl _ _).alloc (Nat.le_refl _) _) (Nat.le_refl _), .inr ⟨w'.heap.size, 0, rfl, by simp, fun j x hj => by
      match j, hj with
      | 0, hj => cases hj; exact (Blk.new w' 27 #[.slice i.A i.n i.c]).cell 0⟩⟩
  have hE : Hid (rErr c g i = if g.known c = 0 then inErr [i] else g.known c) := rfl
  have hR : Hid (∀ g' dA dc e w', rErr c g i = 0 → e = .returned (.tuple #[.agg #[.slice g'.st.A g'.st.n g'.st.c, .slice g'.fr.A g'.fr.n g'.fr.c, .slice g'.out.A g'.out.n g'.out.c], .slice dA (reacted c g i).D.length dc, .int .i64 0]) → GV.ok w' g' → GV.new w.heap.size g' →
      g'.st.l = (List.range c.n).map (reacted c g i).x.S → g'.fr.l = (List.range c.n).map (reacted c g i).x.F → g'.out.l = outS (reacted c g i).O → w'.ownsRow w.heap.size 42 2 (.slice dA (reacted c g i).D.length dc) (reacted c g i).D.length (dv (reacted c g i).D) → Below w.heap.size w w' → Reacted c g i w e w') := by
    intro g' dA dc e w' h0 he h1 h2 h3 h4 h5 h6 h7
    refine ⟨g', dA, dc, ?_, h1, h2, ?_, ?_, ?_, ?_, h7⟩
    · rw [show reD c g i = (reacted c g i).D from if_pos h0, h0]; exact he
    · rw [h3]; exact (if_pos h0).symm
    · rw [h4]; exact (if_pos h0).symm
    · rw [h5]; exact (if_pos h0).symm
    · rw [show reD c g i = (reacted c g i).D from if_pos h0]; exact h6
  have hN : Hid (∀ e w', rErr c g i ≠ 0 → e = .returned (.tuple #[.agg #[.slice none 0 0, .slice none 0 0, .slice none 0 0], .slice none 0 0, .int .i64 (rErr c g i)]) → Below w.heap.size w w' → Reacted c g i w e w') := by
    intro e w' h0 he h7
    refine ⟨⟨⟨none, 0, 0, []⟩, ⟨none, 0, 0, []⟩, ⟨none, 0, 0, []⟩⟩, none, 0, ?_, GV.none _, ⟨fun a ha => (by cases ha), fun a ha => (by cases ha), fun a ha => (by cases ha)⟩, (if_neg h0).symm, (if_neg h0).symm, (if_neg h0).symm, ?_, h7⟩
    · rw [show reD c g i = [] from if_neg h0]; exact he
    · rw [show reD c g i = [] from if_neg h0]; exact World.ownsRow_nil _ _ _ _
  clear hc hg hi
  generalize Reacted c g i w = Q at hR hN ⊢
  generalize hRR : reacted c g i = R at hre hR
  generalize hE1 : rErr c g i = E at hE hR hN
  generalize hK1 : g.known c = K at hkn hre hE
  generalize hI1 : inErr [i] = I at hin hE
  clear hRR hE1 hK1 hI1
  obtain ⟨A, n, cc, l⟩ := c
  obtain ⟨⟨gA, gn, gc, gl⟩, ⟨fA, fn, fc, fl⟩, ⟨oA, on, oc, ol⟩⟩ := g
  obtain ⟨iA, iN, ic, il⟩ := i
  simp only at hkn hre hin hR hN ⊢ hO0
  replace hO0 := Lib.hid hO0
  replace hre := Lib.hid hre
  replace hin := Lib.hid hin
  by_cases h0 : K = 0
  · subst h0
    rw [if_pos rfl] at hE
    obtain rfl := hE.out
    clear hE
    replace hre := Lib.hid (hre.out rfl)
    by_cases h1 : E = 0
    · subst h1
      go_enter Try.func15, Try.ntmps15
      go_wp2_with (first
        | (go_at_call 31; refine hkn.mono ?_; rintro e w3 ⟨rfl, hb3⟩
           have hO3 := Lib.hid (hO0.out.call hb3)
           have hin3 := hin.out w3 hO3.out.1
           have hO4 := Lib.hid (hO3.out.more (.cells #[.slice iA iN ic] 27)))
        | (go_at_call 35; refine hin3.mono ?_; rintro e w5 ⟨rfl, hb5⟩
           have hO5 := Lib.hid (hO4.out.call hb5)
           have hre5 := hre.out w5 hO5.out.1
           have a0 := hO5.out.b0.cell 0
           have b0 := hO5.out.b1.cell 0
           have b1 := hO5.out.b1.cell 1
           have b2 := hO5.out.b1.cell 2
           simp only [List.getElem?_toArray, List.getElem?_cons_zero, List.getElem?_cons_succ] at a0 b0 b1 b2)
        | (go_at_call 36; refine hre5.mono ?_; rintro e w6 ⟨⟨⟨xA, xn, xc, xl⟩, ⟨yA, yn, yc, yl⟩, ⟨zA, zn, zc, zl⟩⟩, dA, dc, rfl, hok, hnew, h1, h2, h3, -, -, hdn, hb6⟩
           have hO6 := Lib.hid (hO5.out.call hb6)
           have hO7 := hO6.out.more (.cells #[.slice xA xn xc, .slice yA yn yc, .slice zA zn zc] 29)
           obtain ⟨p0, p1, p2, p3, p4, p5⟩ := blkT hO7.b2
           replace hO7 := Lib.hid hO7))
      have hsz := hO5.out.2.1
      simp only [List.length_cons, List.length_nil] at hsz
      have hW := Lib.hid (Own.set3 hO7.out 2 0 1 2 (.slice xA xn xc) (.slice yA yn yc) (.slice zA zn zc))
      have hokW := Lib.hid ((hok.below ((Below.refl w6.heap.size w6).alloc (Nat.le_refl _) (.cells #[.slice xA xn xc, .slice yA yn yc, .slice zA zn zc] 29)) (Nat.le_refl _)).set3 hnew (b := w.heap.size + 2) (by omega) (.slice xA xn xc) (.slice yA yn yc) (.slice zA zn zc))
      have hnewW := Lib.hid (hnew.mono (B' := w.heap.size) (by omega))
      have hq : w.heap.size + 2 < w5.heap.size := by omega
      have hdW := Lib.hid (OR.mono (OR.far (OR.far (OR.far (OR.more hdn (.cells #[.slice xA xn xc, .slice yA yn yc, .slice zA zn zc] 29)) hq 0 (.slice xA xn xc)) hq 1 (.slice yA yn yc)) hq 2 (.slice zA zn zc)) (show w.heap.size ≤ w5.heap.size by omega))
      have hfin := Lib.hid (hR.out ⟨⟨xA, xn, xc, xl⟩, ⟨yA, yn, yc, yl⟩, ⟨zA, zn, zc, zl⟩⟩ dA dc _ _ trivial rfl hokW.out hnewW.out h1 h2 h3 hdW.out hW.out)
      clear hok hnew hdn hW hokW hnewW hdW hR hN
      exact bodyPost_ret (v := .tuple #[.agg #[.slice xA xn xc, .slice yA yn yc, .slice zA zn zc], .slice dA R.D.length dc, .int .i64 0]) (by simp [results, Try.results15, go_sem, p0, p1, p2]) rfl hfin.out
    · have hVb : (E == 0) = false := by simpa using h1
      have hVc : (E != 0) = true := by simpa using h1
      go_enter Try.func15, Try.ntmps15
      go_wp2_with (first
        | (go_at_call 31; refine hkn.mono ?_; rintro e w3 ⟨rfl, hb3⟩
           have hO3 := Lib.hid (hO0.out.call hb3)
           have hin3 := hin.out w3 hO3.out.1
           have hO4 := Lib.hid (hO3.out.more (.cells #[.slice iA iN ic] 27)))
        | (go_at_call 35; refine hin3.mono ?_; rintro e w5 ⟨rfl, hb5⟩
           have hO5 := Lib.hid (hO4.out.call hb5)
           obtain ⟨p0, p1, p2, p3, p4, p5⟩ := blkT hO5.out.b2))
      have hfin := Lib.hid (hN.out _ _ h1 rfl (Own.set3 hO5.out 2 0 1 2 (.slice none 0 0) (.slice none 0 0) (.slice none 0 0)))
      exact bodyPost_ret (v := .tuple #[.agg #[.slice none 0 0, .slice none 0 0, .slice none 0 0], .slice none 0 0, .int .i64 E]) (by simp [results, Try.results15, go_sem, p0, p1, p2]) rfl hfin.out
  · rw [if_neg h0] at hE
    obtain rfl := hE.out
    have hVb : (E == 0) = false := by simpa using h0
    have hVc : (E != 0) = true := by simpa using h0
    clear hre hin
    go_enter Try.func15, Try.ntmps15
    go_wp2_with (go_at_call 31; refine hkn.mono ?_; rintro e w3 ⟨rfl, hb3⟩; have hO3 := Lib.hid (hO0.out.call hb3); obtain ⟨p0, p1, p2, p3, p4, p5⟩ := blkT hO3.out.b2)
    have hfin := Lib.hid (hN.out _ _ h0 rfl (Own.set3 hO3.out 2 0 1 2 (.slice none 0 0) (.slice none 0 0) (.slice none 0 0)))
    exact bodyPost_ret (v := .tuple #[.agg #[.slice none 0 0, .slice none 0 0, .slice none 0 0], .slice none 0 0, .int .i64 E]) (by simp [results, Try.results15, go_sem, p0, p1, p2]) rfl hfin.out

end Go.Proofs.Ytgjmbmlmopomgaa
