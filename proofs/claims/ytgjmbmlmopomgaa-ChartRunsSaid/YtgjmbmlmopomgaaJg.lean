/- The reference's isInput, React. -/
import Derived.Test.YtgjmbmlmopomgaaJf
import Derived.Test.YtgjmbmlmopomgaaEb
import Derived.Test.YtgjmbmlmopomgaaCp
import Derived.Test.YtgjmbmlmopomgaaCu
namespace Go.Proofs.Ytgjmbmlmopomgaa
open Go.RowKit Go.Maps Lib
set_option linter.unusedSimpArgs false
set_option linter.unusedVariables false

theorem inErr_one (s : SL) : inErr [s] = if 64 < s.n then 3 else if s.names = true then 0 else 1 := by
  unfold inErr
  simp
theorem inErr_one64 {s : SL} (h : inErr [s] = 0) : s.n ≤ 64 := by
  rw [inErr_one] at h
  by_cases h1 : 64 < s.n
  · rw [if_pos h1] at h; cases h
  · omega

set_option maxRecDepth 100000 in
set_option maxHeartbeats 4000000 in
theorem r_isInput (s : SL) (w : World) (hs : s.ok w) : Calls Try.prog 37 #[.slice s.A s.n s.c] w fun e w' => e = .returned (.int .i64 (inErr [s])) ∧ Below w.heap.size w w' := by
  have hv : Hid (inErr [s] = if 64 < s.n then 3 else if s.names = true then 0 else 1) := inErr_one s
  have hn := r_names s w hs
  have hb := Below.refl w.heap.size w
  have hsn : s.n ≤ 17592186044416 := Nat.le_trans hs.2.2.1 (by decide)
  obtain ⟨A, n, c, l⟩ := s
  simp only at hn hsn ⊢
  clear hs
  by_cases h1 : 64 < n
  · have hd : decide ((64 : Int) < (n : Int)) = true := decide_eq_true (by omega)
    go_enter Try.func37, Try.ntmps37
    go_wp2_with fail
    go_ret
    exact ⟨by rw [hv.out, if_pos h1]; rfl, hb⟩
  · have hd : decide ((64 : Int) < (n : Int)) = false := decide_eq_false (by omega)
    cases h2 : SL.names ⟨A, n, c, l⟩ with
    | true =>
      rw [h2] at hn
      go_enter Try.func37, Try.ntmps37
      go_wp2_with (go_at_call 43; refine hn.mono ?_; rintro e w3 ⟨rfl, hb3⟩)
      go_ret
      exact ⟨by rw [hv.out, if_neg h1, if_pos h2]; rfl, hb3⟩
    | false =>
      rw [h2] at hn
      go_enter Try.func37, Try.ntmps37
      go_wp2_with (go_at_call 43; refine hn.mono ?_; rintro e w3 ⟨rfl, hb3⟩)
      go_ret
      exact ⟨by rw [hv.out, if_neg h1, if_neg (by rw [h2]; simp)]; rfl, hb3⟩

set_option maxRecDepth 100000 in
set_option maxHeartbeats 4000000 in
theorem r_React (c : CV) (g : GV) (i : SL) (w : World) (hc : c.ok w) (hg : g.ok w) (hi : i.ok w) (hgo : g.out.n ≤ 8796093021952) :
    Calls Try.prog 16 #[.agg #[.slice c.A c.n c.c], .agg #[.slice g.st.A g.st.n g.st.c, .slice g.fr.A g.fr.n g.fr.c, .slice g.out.A g.out.n g.out.c], .slice i.A i.n i.c] w (Reacted c g i w) := by
  have hO0 := Own.three w 24 29 29 #[.slice c.A c.n c.c] #[.slice g.st.A g.st.n g.st.c, .slice g.fr.A g.fr.n g.fr.c, .slice g.out.A g.out.n g.out.c] #[.slice none 0 0, .slice none 0 0, .slice none 0 0]
  have hva := r_valid c _ (hc.below hO0.1 (Nat.le_refl _))
  have hcf : ∀ (w' : World), Below w.heap.size w w' → _ := fun w' hb => r_config c g w' (hc.below hb (Nat.le_refl _)) (hg.below hb (Nat.le_refl _))
  have hin : ∀ (w' : World), Below w.heap.size w w' → _ := fun w' hb => r_isInput i w' (hi.below hb (Nat.le_refl _))
  have hre := fun (h : g.known c = 0) (h2 : inErr [i] = 0) (w' : World) (hb : Below w.heap.size w w') => r_react c g i w' (hc.below hb (Nat.le_refl _)) (hg.below hb (Nat.le_refl _)) (hi.below hb (Nat.le_refl _)) (GV.known_fine h).1 (GV.fine_n (GV.known_fine h).2).1 (GV.fine_n (GV.known_fine h).2).2 hgo (inErr_one64 h2)
  have hE : Hid (rErr c g i = if g.known c = 0 then inErr [i] else g.known c) := rfl
  have hK : g.known c = if c.valid = 0 then (if g.fine c = true then 0 else 1) else c.valid := rfl
  have hR : Hid (∀ g' dA dc e w', rErr c g i = 0 → e = .returned (.tuple #[.agg #[.slice g'.st.A g'.st.n g'.st.c, .slice g'.fr.A g'.fr.n g'.fr.c, .slice g'.out.A g'.out.n g'.out.c], .slice dA (reacted c g i).D.length dc, .int .i64 0]) → GV.ok w' g' → GV.new w.heap.size g' →
      g'.st.l = (List.range c.n).map (reacted c g i).x.S → g'.fr.l = (List.range c.n).map (reacted c g i).x.F → g'.out.l = outS (reacted c g i).O → w'.ownsRow w.heap.size 42 2 (.slice dA (reacted c g i).D.length dc) (reacted c g i).D.length (dv (reacted c g i).D) → Below w.heap.size w w' → Reacted c g i w e w') := by
    intro g' dA dc e w' h0 he h1 h2 h3 h4 h5 h6 h7
    refine ⟨g', dA, dc, ?_, h1, h2, ?_, ?_, ?_, ?_, h7⟩
    · rw [show reD c g i = (reacted c g i).D from if_pos h0, h0]; exact he
    · rw [h3]; exact (if_pos h0).symm
    · rw [h4]; exact (if_pos h0).symm
    · rw [h5]; exact (if_pos h0).symm
    · rw [show reD c g i = (reacted c g i).D from if_pos h0]; exact h6
  have hN : Hid (∀ e w', rErr c g i ≠ 0 → e = .returned (.tuple #[.agg #[.slice none 0 0, .slice none 0 0, .slice none 0 0], .slice none 0 0, .int .i64 (rErr c g i)]) → Below w.heap.size w w' → Reacted c g i w e w') := by
    intro e w' h0 he h7
    refine ⟨⟨⟨none, 0, 0, []⟩, ⟨none, 0, 0, []⟩, ⟨none, 0, 0, []⟩⟩, none, 0, ?_, GV.none _, ⟨fun a ha => (by cases ha), fun a ha => (by cases ha), fun a ha => (by cases ha)⟩, (if_neg h0).symm, (if_neg h0).symm, (if_neg h0).symm, ?_, h7⟩
    · rw [show reD c g i = [] from if_neg h0]; exact he
    · rw [show reD c g i = [] from if_neg h0]; exact World.ownsRow_nil _ _ _ _
  clear hc hg hi
  generalize Reacted c g i w = Q at hR hN ⊢
  generalize hRR : reacted c g i = R at hre hR
  generalize hE1 : rErr c g i = E at hE hR hN
  generalize hK1 : g.known c = K at hre hE hK
  generalize hI1 : inErr [i] = I at hin hE hre
  generalize hV1 : c.valid = V at hva hK
  generalize hF1 : g.fine c = F at hcf hK
  clear hRR hE1 hK1 hI1 hV1 hF1
  obtain ⟨A, n, cc, l⟩ := c
  obtain ⟨⟨gA, gn, gc, gl⟩, ⟨fA, fn, fc, fl⟩, ⟨oA, on, oc, ol⟩⟩ := g
  obtain ⟨iA, iN, ic, il⟩ := i
  simp only at hva hcf hre hin hR hN ⊢ hO0
  replace hO0 := Lib.hid hO0
  replace hre := Lib.hid hre
  replace hin := Lib.hid hin
  replace hcf := Lib.hid hcf
  by_cases hV : V = 0
  · subst hV
    rw [if_pos rfl] at hK
    cases F with
    | false =>
      rw [if_neg (by simp)] at hK
      subst hK
      have hE1 := hE.out
      rw [if_neg (by decide)] at hE1
      subst hE1
      clear hre hin hR hE
      go_enter Try.func16, Try.ntmps16
      go_wp2_with (first
        | (go_at_call 10; refine hva.mono ?_; rintro e w3 ⟨rfl, hb3⟩
           have hO3 := Lib.hid (hO0.out.call hb3)
           have hc3 := hcf.out w3 hO3.out.1
           have a0 := hO3.out.b0.cell 0
           have b0 := hO3.out.b1.cell 0
           have b1 := hO3.out.b1.cell 1
           have b2 := hO3.out.b1.cell 2
           simp only [List.getElem?_toArray, List.getElem?_cons_zero, List.getElem?_cons_succ] at a0 b0 b1 b2)
        | (go_at_call 33; refine hc3.mono ?_; rintro e w4 ⟨rfl, hb4⟩
           have hO4 := Lib.hid (hO3.out.call hb4)
           obtain ⟨p0, p1, p2, p3, p4, p5⟩ := blkT hO4.out.b2))
      have hfin := Lib.hid (hN.out _ _ (by decide) rfl (Own.set3 hO4.out 2 0 1 2 (.slice none 0 0) (.slice none 0 0) (.slice none 0 0)))
      exact bodyPost_ret (v := .tuple #[.agg #[.slice none 0 0, .slice none 0 0, .slice none 0 0], .slice none 0 0, .int .i64 1]) (by simp [results, Try.results16, go_sem, p0, p1, p2]) rfl hfin.out
    | true =>
      rw [if_pos rfl] at hK
      subst hK
      have hE1 := hE.out
      rw [if_pos rfl] at hE1
      subst hE1
      clear hE
      by_cases h1 : E = 0
      · subst h1
        replace hre := Lib.hid (hre.out rfl rfl)
        clear hN
        go_enter Try.func16, Try.ntmps16
        go_wp2_with (first
          | (go_at_call 10; refine hva.mono ?_; rintro e w3 ⟨rfl, hb3⟩
             have hO3 := Lib.hid (hO0.out.call hb3)
             have hc3 := hcf.out w3 hO3.out.1
             have a0 := hO3.out.b0.cell 0
             have b0 := hO3.out.b1.cell 0
             have b1 := hO3.out.b1.cell 1
             have b2 := hO3.out.b1.cell 2
             simp only [List.getElem?_toArray, List.getElem?_cons_zero, List.getElem?_cons_succ] at a0 b0 b1 b2)
          | (go_at_call 33; refine hc3.mono ?_; rintro e w4 ⟨rfl, hb4⟩
             have hO4 := Lib.hid (hO3.out.call hb4)
             have hi4 := hin.out w4 hO4.out.1)
          | (go_at_call 37; refine hi4.mono ?_; rintro e w5 ⟨rfl, hb5⟩
             have hO5 := Lib.hid (hO4.out.call hb5)
             have hre5 := hre.out w5 hO5.out.1
             have a0 := hO5.out.b0.cell 0
             have b0 := hO5.out.b1.cell 0
             have b1 := hO5.out.b1.cell 1
             have b2 := hO5.out.b1.cell 2
             simp only [List.getElem?_toArray, List.getElem?_cons_zero, List.getElem?_cons_succ] at a0 b0 b1 b2)
          | (go_at_call 38; refine hre5.mono ?_; rintro e w6 ⟨⟨⟨xA, xn, xc, xl⟩, ⟨yA, yn, yc, yl⟩, ⟨zA, zn, zc, zl⟩⟩, dA, dc, rfl, hok, hnew, h1, h2, h3, -, -, hdn, hb6⟩
             have hO6 := Lib.hid (hO5.out.call hb6)
             have hO7 := hO6.out.more (.cells #[.slice xA xn xc, .slice yA yn yc, .slice zA zn zc] 29)
             obtain ⟨p0, p1, p2, p3, p4, p5⟩ := blkT hO7.b2
             replace hO7 := Lib.hid hO7))
        have hsz := hO5.out.2.1
        simp only [List.length_cons, List.length_nil] at hsz
        have hW := Lib.hid (Own.set3 hO7.out 2 0 1 2 (.slice xA xn xc) (.slice yA yn yc) (.slice zA zn zc))
        have hokW := Lib.hid ((hok.below ((Below.refl w6.heap.size w6).alloc (Nat.le_refl _) (.cells #[.slice xA xn xc, .slice yA yn yc, .slice zA zn zc] 29)) (Nat.le_refl _)).set3 hnew (b := w.heap.size + 2) (by omega) (.slice xA xn xc) (.slice yA yn yc) (.slice zA zn zc))
        have hnewW := Lib.hid (hnew.mono (B' := w.heap.size) (by omega))
        have hq : w.heap.size + 2 < w5.heap.size := by omega
        have hdW := Lib.hid (OR.mono (OR.far (OR.far (OR.far (OR.more hdn (.cells #[.slice xA xn xc, .slice yA yn yc, .slice zA zn zc] 29)) hq 0 (.slice xA xn xc)) hq 1 (.slice yA yn yc)) hq 2 (.slice zA zn zc)) (show w.heap.size ≤ w5.heap.size by omega))
        have hfin := Lib.hid (hR.out ⟨⟨xA, xn, xc, xl⟩, ⟨yA, yn, yc, yl⟩, ⟨zA, zn, zc, zl⟩⟩ dA dc _ _ trivial rfl hokW.out hnewW.out h1 h2 h3 hdW.out hW.out)
        clear hok hnew hdn hW hokW hnewW hdW hR
        exact bodyPost_ret (v := .tuple #[.agg #[.slice xA xn xc, .slice yA yn yc, .slice zA zn zc], .slice dA R.D.length dc, .int .i64 0]) (by simp [results, Try.results16, go_sem, p0, p1, p2]) rfl hfin.out
      · have hVb : (E == 0) = false := by simpa using h1
        have hVc : (E != 0) = true := by simpa using h1
        clear hre hR
        go_enter Try.func16, Try.ntmps16
        go_wp2_with (first
          | (go_at_call 10; refine hva.mono ?_; rintro e w3 ⟨rfl, hb3⟩
             have hO3 := Lib.hid (hO0.out.call hb3)
             have hc3 := hcf.out w3 hO3.out.1
             have a0 := hO3.out.b0.cell 0
             have b0 := hO3.out.b1.cell 0
             have b1 := hO3.out.b1.cell 1
             have b2 := hO3.out.b1.cell 2
             simp only [List.getElem?_toArray, List.getElem?_cons_zero, List.getElem?_cons_succ] at a0 b0 b1 b2)
          | (go_at_call 33; refine hc3.mono ?_; rintro e w4 ⟨rfl, hb4⟩
             have hO4 := Lib.hid (hO3.out.call hb4)
             have hi4 := hin.out w4 hO4.out.1)
          | (go_at_call 37; refine hi4.mono ?_; rintro e w5 ⟨rfl, hb5⟩
             have hO5 := Lib.hid (hO4.out.call hb5)
             obtain ⟨p0, p1, p2, p3, p4, p5⟩ := blkT hO5.out.b2))
        have hfin := Lib.hid (hN.out _ _ h1 rfl (Own.set3 hO5.out 2 0 1 2 (.slice none 0 0) (.slice none 0 0) (.slice none 0 0)))
        exact bodyPost_ret (v := .tuple #[.agg #[.slice none 0 0, .slice none 0 0, .slice none 0 0], .slice none 0 0, .int .i64 E]) (by simp [results, Try.results16, go_sem, p0, p1, p2]) rfl hfin.out
  · rw [if_neg hV] at hK
    subst hK
    have hE1 := hE.out
    rw [if_neg hV] at hE1
    subst hE1
    have hVb : (E == 0) = false := by simpa using hV
    have hVc : (E != 0) = true := by simpa using hV
    clear hre hin hR hE hcf
    go_enter Try.func16, Try.ntmps16
    go_wp2_with (go_at_call 10; refine hva.mono ?_; rintro e w3 ⟨rfl, hb3⟩; have hO3 := Lib.hid (hO0.out.call hb3); obtain ⟨p0, p1, p2, p3, p4, p5⟩ := blkT hO3.out.b2)
    have hfin := Lib.hid (hN.out _ _ hV rfl (Own.set3 hO3.out 2 0 1 2 (.slice none 0 0) (.slice none 0 0) (.slice none 0 0)))
    exact bodyPost_ret (v := .tuple #[.agg #[.slice none 0 0, .slice none 0 0, .slice none 0 0], .slice none 0 0, .int .i64 E]) (by simp [results, Try.results16, go_sem, p0, p1, p2]) rfl hfin.out

end Go.Proofs.Ytgjmbmlmopomgaa

/- The reference's Active. -/
namespace Go.Proofs.Ytgjmbmlmopomgaa
open Go.RowKit Go.Maps
set_option linter.unusedSimpArgs false
set_option linter.unusedVariables false

set_option maxRecDepth 100000 in
set_option maxHeartbeats 4000000 in
theorem r_Active (c : CV) (g : GV) (w : World) (hc : c.ok w) (hg : g.ok w) : Calls Try.prog 13 #[.agg #[.slice c.A c.n c.c], .agg #[.slice g.st.A g.st.n g.st.c, .slice g.fr.A g.fr.n g.fr.c, .slice g.out.A g.out.n g.out.c]] w fun e w' =>
    ∃ L : NL, e = .returned (.tuple #[.slice L.A L.n L.c, .int .i64 (g.known c)]) ∧ L.ok w' ∧ L.l = actS c g ∧ Below w.heap.size w w' := by
  have hO0 := Own.two w 24 29 #[.slice c.A c.n c.c] #[.slice g.st.A g.st.n g.st.c, .slice g.fr.A g.fr.n g.fr.c, .slice g.out.A g.out.n g.out.c]
  have hcall := r_valid c _ (hc.below hO0.1 (Nat.le_refl _))
  have hconf := fun (w' : World) (hb : Below w.heap.size w w') => r_config c g w' (hc.below hb (Nat.le_refl _)) (hg.below hb (Nat.le_refl _))
  have hact := fun (h : g.known c = 0) (w' : World) (hb : Below w.heap.size w w') (k : Nat) (hk : k < c.n) => r_isActive c g.st (GV.fine_n (GV.known_fine h).2).1 (CV.six (GV.known_fine h).1) (CV.low (GV.known_fine h).1) k hk w' (hc.below hb (Nat.le_refl _)) (hg.1.below hb (Nat.le_refl _))
  have hv : Hid (actS c g = if g.known c = 0 then actl (actv c.l (fnI g.st.l)) c.n else []) := rfl
  have hk : Hid (g.known c = if c.valid = 0 then (if g.fine c = true then 0 else 1) else c.valid) := rfl
  have h6 := fun (h : g.known c = 0) => CV.six (GV.known_fine h).1
  obtain ⟨f, hf⟩ : ∃ f, f = actv c.l (fnI g.st.l) := ⟨_, rfl⟩
  rw [← hf] at hact hv
  clear hf
  generalize hK : g.known c = K at hk hv h6 hact ⊢
  generalize hV : c.valid = V at hcall hk
  generalize hF : g.fine c = F at hconf hk
  generalize hL : actS c g = L at hv ⊢
  clear hK hV hL hF
  clear hc hg
  obtain ⟨A, n, cc, l⟩ := c
  obtain ⟨⟨gA, gn, gc, gl⟩, ⟨fA, fn, fc, fl⟩, ⟨oA, on, oc, ol⟩⟩ := g
  simp only at hcall hconf hact h6 hv ⊢ hO0
  replace hO0 := Lib.hid hO0
  replace hact := Lib.hid hact
  replace hconf := Lib.hid hconf
  by_cases h0 : V = 0
  · subst h0
    rw [if_pos rfl] at hk
    cases F with
    | true =>
      rw [if_pos rfl] at hk
      obtain rfl := hk.out
      replace h6 := h6 rfl
      rw [if_pos rfl] at hv
      replace hact := Lib.hid (hact.out rfl)
      clear hk
      go_enter Try.func13, Try.ntmps13
      go_wp2_with (first
        | (go_at_call 10; refine hcall.mono ?_; rintro e w3 ⟨rfl, hb3⟩; have hO3 := Lib.hid (hO0.out.call hb3); have a0 := hO3.out.b0.cell 0; have b0 := hO3.out.b1.cell 0; have b1 := hO3.out.b1.cell 1; have b2 := hO3.out.b1.cell 2; simp only [List.getElem?_toArray, List.getElem?_cons_zero, List.getElem?_cons_succ] at a0 b0 b1 b2)
        | (go_at_call 33; (with_reducible refine (hconf.out _ (Own.lo hO3.out)).mono ?_); rintro e w4 ⟨rfl, hb4⟩; have hO4 := Lib.hid (hO3.out.call hb4); have a4 := hO4.out.b0.cell 0; simp only [List.getElem?_toArray, List.getElem?_cons_zero, List.getElem?_cons_succ] at a4))
      obtain ⟨B, hB⟩ : ∃ B, B = w.heap.size + 2 := ⟨_, rfl⟩
      have hsz4 := hO4.out.2.1
      simp only [List.length_cons, List.length_nil] at hsz4
      have hAL : AL w A n cc #[.slice gA gn gc, .slice fA fn fc, .slice oA on oc] B (fun _ => True) f 0 (.slice none 0 0) w4 := ⟨hO4.out, by omega, by omega, trivial, World.ownsRow_nil _ _ _ _⟩
      clear hO0 hcall hb3 hO3 a0 b0 b1 b2 hsz4 hO4 hconf a4 hB hb4
      go_loopw [7, 21] (fun v7 v21 wr => ∃ i : Nat, i ≤ n ∧ v21 = .int .i64 i ∧ AL w A n cc #[.slice gA gn gc, .slice fA fn fc, .slice oA on oc] B (fun _ => True) f i v7 wr) (fun _ i _ => n - (intOf i).toNat)
      case atStart => exact ⟨0, by omega, rfl, hAL⟩
      case round =>
        clear hAL
        obtain ⟨i, hi, rfl, hO, hB1, hB2, -, hrow⟩ := hrel
        by_cases hlt : i < n
        · have hle := actl_len f i
          have a0 := hO.b0.cell 0
          have b0 := hO.b1.cell 0
          simp only [List.getElem?_toArray, List.getElem?_cons_zero, List.getElem?_cons_succ] at a0 b0
          have hone := hact.out wr hO.1 i hlt
          replace hO := Lib.hid hO
          cases hfi : f i with
          | true =>
            rw [hfi] at hone
            have hal : Hid (actl f (i + 1) = actl f i ++ [(i : Int)]) := by show _ = _; rw [actl, if_pos hfi]
            have hll : Hid ((actl f (i + 1)).length = (actl f i).length + 1) := by show _ = _; rw [hal.out, List.length_append]; rfl
            replace hrow := Lib.hid hrow
            go_wp2_with (first
              | (go_at_call 34; refine hone.mono ?_; rintro e w5 ⟨rfl, hb5⟩
                 have hO5 := Lib.hid (hO.out.call hb5)
                 have hsz5 := Nat.le_trans hB2 hb5.size
                 have hrow1 := Lib.hid (OR.more (OR.call hrow.out hb5) (.cells #[.int .i64 (i : Int)] 3))
                 have hO1 := Lib.hid (hO5.out.more (.cells #[.int .i64 (i : Int)] 3)))
              | (at_builtin; refine app_I rfl _ _ rfl B (actl f i).length u7 (actl f i) rfl hrow1.out (by omega) (by simp; omega) ⟨w5.heap.size, 0, none⟩ 1 (i : Int) rfl (cell_one_new _ _ _) ?_; intro gS capS w6 hown6 hgr6 hat6))
            have hO6 := Lib.hid (Own.grown hO1.out hrow1.out hgr6 (by simp; omega))
            have hsz6 : Hid (B ≤ w6.heap.size) := Nat.le_trans hsz5 (Nat.le_trans (by simp) hgr6.size)
            replace hown6 : Hid (w6.ownsRow B 3 1 (.slice (some ⟨gS, 0, none⟩) ((actl f i).length + 1) capS) (actl f (i + 1)).length (vz (actl f (i + 1)))) := by show World.ownsRow _ _ _ _ _ _ _; rw [hll.out, hal.out]; exact hown6
            clear hgr6 hat6 hrow1 hO1 hO hal hll hsz5
            go_roundw
            case rel => exact ⟨i + 1, hlt, by go_num, hO6.out, hB1, hsz6.out, trivial, hown6.out⟩
            case measure => simp [intOf]; omega
          | false =>
            rw [hfi] at hone
            have hal : Hid (actl f (i + 1) = actl f i) := by show _ = _; rw [actl, if_neg (by rw [hfi]; simp)]
            replace hrow := Lib.hid hrow
            go_wp2_with (go_at_call 34; refine hone.mono ?_; rintro e w5 ⟨rfl, hb5⟩; have hO5 := Lib.hid (hO.out.call hb5); have hrow1 := Lib.hid (OR.call hrow.out hb5); have hsz5 := Nat.le_trans hB2 hb5.size)
            go_roundw
            case rel => exact ⟨i + 1, hlt, by go_num, hO5.out, hB1, hsz5, trivial, hal.out.symm ▸ hrow1.out⟩
            case measure => simp [intOf]; omega
        · obtain rfl : i = n := by omega
          obtain ⟨A', c', rfl, hok⟩ := NL.of_row hrow rfl (fun x hx => by obtain ⟨j, h1, h2, rfl⟩ := (actl_mem _ _ _).1 hx; unfold In64; omega) (by have := actl_len f i; omega)
          have hb := Lib.hid hO.1
          replace hok := Lib.hid hok
          clear hO hrow
          go_wp2_with fail
          go_ret2
          exact ⟨⟨A', _, c', _⟩, rfl, hok.out, hv.out.symm, hb.out⟩
    | false =>
      rw [if_neg (by simp)] at hk
      obtain rfl := hk.out
      rw [if_neg (by decide)] at hv
      clear hact h6 hk
      go_enter Try.func13, Try.ntmps13
      go_wp2_with (first
        | (go_at_call 10; refine hcall.mono ?_; rintro e w3 ⟨rfl, hb3⟩; have hO3 := Lib.hid (hO0.out.call hb3); have a0 := hO3.out.b0.cell 0; have b0 := hO3.out.b1.cell 0; have b1 := hO3.out.b1.cell 1; have b2 := hO3.out.b1.cell 2; simp only [List.getElem?_toArray, List.getElem?_cons_zero, List.getElem?_cons_succ] at a0 b0 b1 b2)
        | (go_at_call 33; (with_reducible refine (hconf.out _ (Own.lo hO3.out)).mono ?_); rintro e w4 ⟨rfl, hb4⟩; have hO4 := Lib.hid (hO3.out.call hb4)))
      go_ret2
      exact ⟨⟨none, 0, 0, []⟩, rfl, NL.none _, hv.out.symm, hO4.out.1⟩
  · rw [if_neg h0] at hk
    obtain rfl := hk.out
    rw [if_neg h0] at hv
    have hVb : (K == 0) = false := by simpa using h0
    have hVc : (K != 0) = true := by simpa using h0
    clear hact h6 h0 hk hconf
    go_enter Try.func13, Try.ntmps13
    go_wp2_with (go_at_call 10; refine hcall.mono ?_; rintro e w3 ⟨rfl, hb3⟩; have hO3 := Lib.hid (hO0.out.call hb3))
    go_ret2
    exact ⟨⟨none, 0, 0, []⟩, rfl, NL.none _, hv.out.symm, hO3.out.1⟩

end Go.Proofs.Ytgjmbmlmopomgaa
