/- The program's react: a reaction. -/
import Derived.Laws.EntriesVeiled
import Derived.Test.YtgjmbmlmopomgaaDj
namespace Go.Proofs.Ytgjmbmlmopomgaa
open Go.RowKit Go.Maps Lib
set_option linter.unusedSimpArgs false
set_option linter.unusedVariables false

theorem Own.five (w : World) (t0 t1 t2 t3 t4 : TypeId) (c0 c1 c2 c3 c4 : Array Value) : Own w [(t0, c0), (t1, c1), (t2, c2), (t3, c3), (t4, c4)] (((((w.alloc (.cells c0 t0)).alloc (.cells c1 t1)).alloc (.cells c2 t2)).alloc (.cells c3 t3)).alloc (.cells c4 t4)) :=
  ((Own.three w t0 t1 t2 c0 c1 c2).alloc (by simp) t3 c3).alloc (by simp) t4 c4

theorem keepR {w w1 : World} {x : TypeId × Array Value} {t : TypeId} {a b c : Value} {r : List (TypeId × Array Value)} (h : Own w (x :: (t, #[a, b, c]) :: r) w1) : w1.cell? ⟨w.heap.size + 1, 0, none⟩ = some a ∧ w1.cell? ⟨w.heap.size + 1, 1, none⟩ = some b := ⟨h.b1.cell 0, h.b1.cell 1⟩

/-- what a reaction leaves -/
def reacted (c : CV) (g : GV) (i : SL) : RX := rall c.l (fnI g.st.l) (fnB g.fr.l) (pres i g.out)
/-- the answer of react -/
def Reacts (c : CV) (g : GV) (r : RX) (w : World) (e : Ending) (w' : World) : Prop :=
  ∃ (g' : GV) (dA : Option Addr) (dc : Nat), e = .returned (.tuple #[.agg #[.slice g'.st.A g'.st.n g'.st.c, .slice g'.fr.A g'.fr.n g'.fr.c, .slice g'.out.A g'.out.n g'.out.c], .slice dA r.D.length dc]) ∧ g'.ok w' ∧ g'.new w.heap.size ∧
    g'.st.l = (List.range c.n).map r.x.S ∧ g'.fr.l = (List.range c.n).map r.x.F ∧ g'.out.l = outS r.O ∧ g'.st.n = c.n ∧ g'.fr.n = c.n ∧
    w'.ownsRow w.heap.size 42 2 (.slice dA r.D.length dc) r.D.length (dv r.D) ∧ Below w.heap.size w w'

set_option maxRecDepth 100000 in
set_option maxHeartbeats 4000000 in
theorem p_react (c : CV) (g : GV) (i : SL) (w : World) (hc : c.ok w) (hg : g.ok w) (hi : i.ok w) (hv : c.valid = 0) (hgn : g.st.n = c.n) (hfn : g.fr.n = c.n) :
    Calls Try.prog 36 #[.agg #[.slice c.A c.n c.c], .agg #[.slice g.st.A g.st.n g.st.c, .slice g.fr.A g.fr.n g.fr.c, .slice g.out.A g.out.n g.out.c], .slice i.A i.n i.c] w (Reacts c g (reacted c g i) w) := by
  obtain ⟨A, n, cc, l⟩ := c
  obtain ⟨⟨gA, gn, gc, gl⟩, ⟨fA, fn, fc, fl⟩, ⟨oA, on, oc, ol⟩⟩ := g
  obtain ⟨iA, iN, ic, il⟩ := i
  have h6 := CV.six hv
  have hlow := CV.low hv
  have hn0 := (CV.fineOf hv).2.1
  simp only at h6 hlow hn0 hgn hfn ⊢
  subst gn
  subst fn
  have hl := hc.1
  simp only at hl
  have hcS : Hid (∀ W, Below w.heap.size w W → Calls Try.prog 40 #[.slice gA n gc] W fun e w' => ∃ gS cap, e = .returned (.slice (some ⟨gS, 0, none⟩) n cap) ∧ W.heap.size ≤ gS ∧ RW w' 3 gS n cap (iv (fnI gl)) ∧ Below W.heap.size W w') := fun W hb => c_cloneI ⟨gA, n, gc, gl⟩ W (hg.1.below hb (Nat.le_refl _)) (by show 0 < n; omega) h6
  have hcF : Hid (∀ W, Below w.heap.size w W → Calls Try.prog 41 #[.slice fA n fc] W fun e w' => ∃ gS cap, e = .returned (.slice (some ⟨gS, 0, none⟩) n cap) ∧ W.heap.size ≤ gS ∧ RW w' 4 gS n cap (bv (fnB fl)) ∧ Below W.heap.size W w') := fun W hb => c_cloneB ⟨fA, n, fc, fl⟩ W (hg.2.1.below hb (Nat.le_refl _)) (by show 0 < n; omega) h6
  have hact : Hid (∀ W (s : NL), Below w.heap.size w W → s.ok W → s.n = n → Calls Try.prog 32 #[.agg #[.slice A n cc], .slice s.A n s.c] W fun e w' => ∃ g, e = .returned (.slice (some ⟨g, 0, none⟩) n n) ∧ W.heap.size ≤ g ∧ RB w' g n (actv l (fnI s.l)) ∧ Below W.heap.size W w') := fun W s hb hs hn => hn ▸ m_active ⟨A, s.n, cc, l⟩ s W (by rw [hn]; exact hc.below hb (Nat.le_refl _)) hs rfl (by rw [hn]; exact h6) hlow
  obtain ⟨w5, hw5⟩ : ∃ w5, w5 = (((((w.alloc (.cells #[.slice A n cc] 24)).alloc (.cells #[.slice gA n gc, .slice fA n fc, .slice oA on oc] 29)).alloc (.cells #[.slice iA iN ic] 27)).alloc (.cells #[.slice none 0 0, .slice none 0 0, .slice none 0 0] 29)).alloc (.cells #[.func (.func 49) #[] #[.pointer (some ⟨w.heap.size + 2, 0, none⟩), .pointer (some ⟨w.heap.size + 1, 0, none⟩)]] 79)) := ⟨_, rfl⟩
  have hOx := Own.five w 24 29 27 29 79 #[.slice A n cc] #[.slice gA n gc, .slice fA n fc, .slice oA on oc] #[.slice iA iN ic] #[.slice none 0 0, .slice none 0 0, .slice none 0 0] #[.func (.func 49) #[] #[.pointer (some ⟨w.heap.size + 2, 0, none⟩), .pointer (some ⟨w.heap.size + 1, 0, none⟩)]]
  rw [← hw5] at hOx
  have hz5 : Hid (w5.heap.size = w.heap.size + 5) := by rw [hw5]; show _ = _; simp
  replace hOx := Lib.hid hOx
  have hO0 := hOx
  clear hOx
  have hO1 := hO0
  have hO2 := hO0
  have hmf : ∀ (fn : Fn) (first cap : Array Value) (w : World), (Instr.makeFunc fn first cap).run Try.prog w = .ok (.func fn first cap) w := fun _ _ _ _ => rfl
  replace hc := Lib.hid hc
  replace hg := Lib.hid hg
  replace hi := Lib.hid hi
  replace hlow := Lib.hid hlow
  go_enter Try.func36, Try.ntmps36
  go_upto_region 2 with fail
  rw [← hw5]
  clear hw5
  go_cut [9] from 20 to 26 (fun v9 wc => CutR w [(24, #[.slice A n cc]), (29, #[.slice gA n gc, .slice fA n fc, .slice oA on oc]), (27, #[.slice iA iN ic]), (29, #[.slice none 0 0, .slice none 0 0, .slice none 0 0]), (79, #[.func (.func 49) #[] #[.pointer (some ⟨w.heap.size + 2, 0, none⟩), .pointer (some ⟨w.heap.size + 1, 0, none⟩)]])] n (fnI gl) (fnB fl) v9 wc)
  case first =>
    have hu := Try.underlying29
    have hS : (fun w' : World => w'.cell? ⟨w.heap.size + 1, 0, none⟩ = some (.slice gA n gc) ∧ w'.cell? ⟨w.heap.size + 1, 1, none⟩ = some (.slice fA n fc)) w5.drew := keepR hO0.out.drew
    go_region_held3 (fun w' : World => w'.cell? ⟨w.heap.size + 1, 0, none⟩ = some (.slice gA n gc) ∧ w'.cell? ⟨w.heap.size + 1, 1, none⟩ = some (.slice fA n fc))
      (exact keepR (r := [(27, #[.slice iA iN ic]), (29, #[.slice none 0 0, .slice none 0 0, .slice none 0 0]), (79, #[.func (.func 49) #[] #[.pointer (some ⟨w.heap.size + 2, 0, none⟩), .pointer (some ⟨w.heap.size + 1, 0, none⟩)]])]) (c := .slice oA on oc) (x := (24, #[.slice A n cc])) (t := 29) (by (repeat (first | (with_reducible exact hO2.out) | (with_reducible exact hO1.out) | (with_reducible exact hO0.out) | (with_reducible refine Own.drew ?_) | (with_reducible refine Own.more ?_ _) | (with_reducible refine Own.setT ?_ ?_ _ _ _) | (focus (have hz5o := hz5.out; simp only [List.length_cons, List.length_nil]; omega))))))
      (first
        | (go_at_call 40; (refine (hcS.out _ (Own.lo (bs := [(24, #[.slice A n cc]), (29, #[.slice gA n gc, .slice fA n fc, .slice oA on oc]), (27, #[.slice iA iN ic]), (29, #[.slice none 0 0, .slice none 0 0, .slice none 0 0]), (79, #[.func (.func 49) #[] #[.pointer (some ⟨w.heap.size + 2, 0, none⟩), .pointer (some ⟨w.heap.size + 1, 0, none⟩)]])]) ?_)).mono ?_; (focus (repeat (first | (with_reducible exact hO2.out) | (with_reducible exact hO1.out) | (with_reducible exact hO0.out) | (with_reducible refine Own.drew ?_) | (with_reducible refine Own.more ?_ _) | (with_reducible refine Own.setT ?_ ?_ _ _ _) | (focus (have hz5o := hz5.out; simp only [List.length_cons, List.length_nil]; omega)))))); rintro e w1 ⟨gS, capS, rfl, hgS, hr1', hb1'⟩; have hO1 : Own w [(24, #[.slice A n cc]), (29, #[.slice gA n gc, .slice fA n fc, .slice oA on oc]), (27, #[.slice iA iN ic]), (29, #[.slice none 0 0, .slice none 0 0, .slice none 0 0]), (79, #[.func (.func 49) #[] #[.pointer (some ⟨w.heap.size + 2, 0, none⟩), .pointer (some ⟨w.heap.size + 1, 0, none⟩)]])] w1 := (by (refine Own.call ?_ hb1'; (focus (repeat (first | (with_reducible exact hO2.out) | (with_reducible exact hO1.out) | (with_reducible exact hO0.out) | (with_reducible refine Own.drew ?_) | (with_reducible refine Own.more ?_ _) | (with_reducible refine Own.setT ?_ ?_ _ _ _) | (focus (have hz5o := hz5.out; simp only [List.length_cons, List.length_nil]; omega))))))); have hs1 : w.heap.size + 5 ≤ w1.heap.size := hO1.2.1; have hl1 : gS < w1.heap.size := hr1'.lt; have hO1 := Lib.hid hO1; have hr1 := Lib.hid hr1'; have hb1 := Lib.hid hb1'; (try (refine (have hx1 : Blk w1 w5.heap.size 29 #[.slice none 0 0, .slice none 0 0, .slice none 0 0] := Blk.call ?_ hb1'; ?_); (focus ((repeat (first | (with_reducible refine Blk.drew ?_) | (refine Blk.newE ?_; (focus ((try simp); all_goals fail))) | (with_reducible refine Blk.alloc ?_ _))); all_goals fail)); obtain ⟨x10, x11, x12, x13, x14, x15⟩ := blkT hx1)); clear hr1')
        | (go_at_call 41; (refine (hcF.out _ (Own.lo (bs := [(24, #[.slice A n cc]), (29, #[.slice gA n gc, .slice fA n fc, .slice oA on oc]), (27, #[.slice iA iN ic]), (29, #[.slice none 0 0, .slice none 0 0, .slice none 0 0]), (79, #[.func (.func 49) #[] #[.pointer (some ⟨w.heap.size + 2, 0, none⟩), .pointer (some ⟨w.heap.size + 1, 0, none⟩)]])]) ?_)).mono ?_; (focus (repeat (first | (with_reducible exact hO2.out) | (with_reducible exact hO1.out) | (with_reducible exact hO0.out) | (with_reducible refine Own.drew ?_) | (with_reducible refine Own.more ?_ _) | (with_reducible refine Own.setT ?_ ?_ _ _ _) | (focus (have hz5o := hz5.out; simp only [List.length_cons, List.length_nil]; omega)))))); rintro e w2 ⟨gF, capF, rfl, hgF, hr2', hb2'⟩; have hO2 : Own w [(24, #[.slice A n cc]), (29, #[.slice gA n gc, .slice fA n fc, .slice oA on oc]), (27, #[.slice iA iN ic]), (29, #[.slice none 0 0, .slice none 0 0, .slice none 0 0]), (79, #[.func (.func 49) #[] #[.pointer (some ⟨w.heap.size + 2, 0, none⟩), .pointer (some ⟨w.heap.size + 1, 0, none⟩)]])] w2 := (by (refine Own.call ?_ hb2'; (focus (repeat (first | (with_reducible exact hO2.out) | (with_reducible exact hO1.out) | (with_reducible exact hO0.out) | (with_reducible refine Own.drew ?_) | (with_reducible refine Own.more ?_ _) | (with_reducible refine Own.setT ?_ ?_ _ _ _) | (focus (have hz5o := hz5.out; simp only [List.length_cons, List.length_nil]; omega))))))); have hs2 : w.heap.size + 5 ≤ w2.heap.size := hO2.2.1; have hl2 : gF < w2.heap.size := hr2'.lt; have hO2 := Lib.hid hO2; have hr2 := Lib.hid hr2'; have hb2 := Lib.hid hb2'; (try (refine (have hx2 : Blk w2 w5.heap.size 29 #[.slice none 0 0, .slice none 0 0, .slice none 0 0] := Blk.call ?_ hb2'; ?_); (focus ((repeat (first | (with_reducible exact hx1) | (with_reducible refine Blk.drew ?_) | (refine Blk.newE ?_; (focus ((try simp); all_goals fail))) | (with_reducible refine Blk.alloc ?_ _))); all_goals fail)); obtain ⟨x20, x21, x22, x23, x24, x25⟩ := blkT hx2)); (try (refine (have hy2 : Blk w2 w1.heap.size 29 #[.slice none 0 0, .slice none 0 0, .slice none 0 0] := Blk.call ?_ hb2'; ?_); (focus ((repeat (first | (with_reducible refine Blk.drew ?_) | (refine Blk.newE ?_; (focus ((try simp); all_goals fail))) | (with_reducible refine Blk.alloc ?_ _))); all_goals fail)); obtain ⟨y20, y21, y22, y23, y24, y25⟩ := blkT hy2)); clear hr2'))
    all_goals (go_wp2_with fail; go_meet)
    all_goals have hz5o := hz5.out
    all_goals have hgS' : w5.heap.size ≤ gS := (by simp at hgS; omega)
    all_goals have hgF' : w1.heap.size ≤ gF := (by first | exact hgF | (simp at hgF; omega))
    all_goals have hne1 : gS ≠ w1.heap.size := (by omega)
    all_goals (try (have hne2 : gS ≠ w5.heap.size := (by simp at hgS; omega)))
    all_goals (try (have hne3 : gF ≠ w1.heap.size := (by simp at hgF; omega)))
    all_goals refine ⟨_, gS, gF, capS, capF, rfl, ?_, ?_, ?_, ?_, ?_, ?_, (show Own w [(24, #[.slice A n cc]), (29, #[.slice gA n gc, .slice fA n fc, .slice oA on oc]), (27, #[.slice iA iN ic]), (29, #[.slice none 0 0, .slice none 0 0, .slice none 0 0]), (79, #[.func (.func 49) #[] #[.pointer (some ⟨w.heap.size + 2, 0, none⟩), .pointer (some ⟨w.heap.size + 1, 0, none⟩)]])] _ from ?_), ?_, ?_, ?_⟩
    all_goals (repeat (first | omega | (focus (simp only [List.length_cons, List.length_nil]; omega)) | (with_reducible exact hO2.out) | (with_reducible exact hr1.out) | (with_reducible exact hr2.out) | (with_reducible exact Blk.new _ _ _) | (with_reducible exact hx2.set3 _ _ _) | (with_reducible exact hy2.set3 _ _ _) | (with_reducible refine Own.drew ?_) | (with_reducible refine Own.more ?_ _) | (with_reducible refine Own.setT ?_ ?_ _ _ _) | (with_reducible refine RW.more ?_ _) | (with_reducible refine RW.setT ?_ ?_ _ _ _) | (with_reducible refine RW.call ?_ hb2')))
  case rest =>
    obtain ⟨gO, gS, gF, capS, capF, rfl, hgO, hgS, hgF, hSF, hOS, hOF, hO, hBO, hrS, hrF⟩ := hcut
    clear hO0 hO1 hO2 hcS hcF hz5
    simp only [List.length_cons, List.length_nil] at hgO hgS hgF
    have a0 := hO.b0.cell 0
    have b0 := hO.b1.cell 0
    simp only [List.getElem?_toArray, List.getElem?_cons_zero, List.getElem?_cons_succ] at a0 b0
    have hat := hact.out wc ⟨gA, n, gc, gl⟩ hO.1 (hg.out.1.below hO.1 (Nat.le_refl _)) rfl
    simp only at hat
    obtain ⟨j0, hj0, yz0, yz1, yz2⟩ := infoB_parts
    replace hO := Lib.hid hO
    replace hBO := Lib.hid hBO
    replace hrS := Lib.hid hrS
    replace hrF := Lib.hid hrF
    go_upto_region 8 with (first
      | (go_at_call 32; refine hat.mono ?_; rintro e w6 ⟨gT, rfl, hgT, hrT, hb6⟩
         have hO6 := Lib.hid (hO.out.call hb6)
         have hBO6 := Lib.hid (hBO.out.call hb6)
         have hrS6 := Lib.hid (hrS.out.call hb6)
         have hrF6 := Lib.hid (hrF.out.call hb6)
         have hlT := hrT.lt
         replace hrT := Lib.hid hrT
         have a0 := hO6.out.b0.cell 0
         simp only [List.getElem?_toArray, List.getElem?_cons_zero, List.getElem?_cons_succ] at a0)
      | (at_make; refine wpList_make_full _ rfl _ _ 26 rfl w6.heap.size 4 j0 (.bool false) 1 Try.underlying26 hj0 yz0 yz1 .i64 .i64 _ _ n rfl rfl (by rfl) (by rfl) (by rw [yz2]; omega) (by simp [maxLen]; omega) (Nat.le_refl _) ?_; intro w7 hown7 hg7
         have hb7 : Below w6.heap.size w6 w7 := (Below.refl _ _).grown hg7 (Nat.le_refl _) (by intro k hk; cases hk)
         have hO7 := Lib.hid (hO6.out.call hb7)
         have hBO7 := Lib.hid (hBO6.out.call hb7)
         have hrS7 := Lib.hid (hrS6.out.call hb7)
         have hrF7 := Lib.hid (hrF6.out.call hb7)
         have hrT7 := Lib.hid (hrT.out.call hb7)
         have hrE7 := Lib.hid hown7
         have a0 := hO7.out.b0.cell 0
         simp only [List.getElem?_toArray, List.getElem?_cons_zero, List.getElem?_cons_succ] at a0
         clear hown7 hg7))
    obtain ⟨w8, hw8⟩ : ∃ w8, w8 = (w7.alloc (.cells #[.slice (some ⟨w6.heap.size, 0, none⟩) n n] 26)).alloc (.cells #[.func (.func 50) #[] #[.pointer (some ⟨w.heap.size, 0, none⟩), .pointer (some ⟨gO, 0, none⟩), .pointer (some ⟨w7.heap.size, 0, none⟩), .pointer (some ⟨w7.heap.size + 1, 0, none⟩)]] 81) := ⟨_, rfl⟩
    have hb8 : Below w7.heap.size w7 w8 := by rw [hw8]; exact ((Below.refl _ _).alloc (Nat.le_refl _) _).alloc (by simp) _
    have bN8 : Blk w8 w7.heap.size 26 #[.slice (some ⟨w6.heap.size, 0, none⟩) n n] := by rw [hw8]; exact (Blk.new _ _ _).alloc _
    have bX8 : Blk w8 (w7.heap.size + 1) 81 #[.func (.func 50) #[] #[.pointer (some ⟨w.heap.size, 0, none⟩), .pointer (some ⟨gO, 0, none⟩), .pointer (some ⟨w7.heap.size, 0, none⟩), .pointer (some ⟨w7.heap.size + 1, 0, none⟩)]] := by rw [hw8]; exact Blk.newE (by simp)
    have hs8 : w8.heap.size = w7.heap.size + 2 := by rw [hw8]; simp
    have hs7 := hb7.size
    have hs6 := hb6.size
    have hsc := hO.out.2.1
    simp only [List.length_cons, List.length_nil] at hsc
    have hlS := hrS6.out.lt
    have hlF := hrF6.out.lt
    have hlO := hBO6.out.lt
    have hlS0 := hrS.out.lt
    have hlF0 := hrF.out.lt
    have hlO0 := hBO.out.lt
    have hsE : w6.heap.size < w7.heap.size := (World.ownsRow.lt hrE7.out _ rfl).2
    obtain ⟨z, hz⟩ : ∃ z : ZP, z = ⟨⟨A, n, cc, l⟩, w, w.heap.size, gO, w7.heap.size, w7.heap.size + 1, gS, gF, w6.heap.size, capS, capF⟩ := ⟨_, rfl⟩
    have hzf : Hid z.Fine := by
      rw [hz]
      refine ⟨h6, hlow.out, hc.out, ⟨?_, ?_, ?_⟩, hSF, ?_, ?_, fun g hg => ?_⟩
      · show w.heap.size ≤ gS; omega
      · show w.heap.size ≤ gF; omega
      · show w.heap.size ≤ w6.heap.size; omega
      · show gS ≠ w6.heap.size; omega
      · show gF ≠ w6.heap.size; omega
      · simp only [List.mem_cons, List.not_mem_nil, or_false] at hg
        simp only [ZP.xs, List.mem_cons, List.not_mem_nil, or_false]
        omega
    obtain ⟨r0, hr0⟩ : ∃ r0 : RX, r0 = ⟨⟨fnI gl, fnB fl, fun _ => false⟩, [], []⟩ := ⟨_, rfl⟩
    obtain ⟨B, hB⟩ : ∃ B, B = w8.heap.size := ⟨_, rfl⟩
    have hP0 : Hid (PL z w [(24, #[.slice A n cc]), (29, #[.slice gA n gc, .slice fA n fc, .slice oA on oc]), (27, #[.slice iA iN ic]), (29, #[.slice none 0 0, .slice none 0 0, .slice none 0 0]), (79, #[.func (.func 49) #[] #[.pointer (some ⟨w.heap.size + 2, 0, none⟩), .pointer (some ⟨w.heap.size + 1, 0, none⟩)]])] gT B (fnI gl) r0 (.slice none 0 0) (.slice none 0 0) w8) := by
      rw [hz, hr0]
      refine ⟨⟨?_, ?_, ?_, bN8, bX8, ?_, ?_, ?_⟩, hO7.out.call hb8, hrT7.out.call hb8, World.ownsRow_nil _ _ _ _, World.ownsRow_nil _ _ _ _, by omega⟩
      · exact (hO7.out.call hb8).1
      · exact (hO7.out.call hb8).b0
      · exact hBO7.out.call hb8
      · exact hrS7.out.call hb8
      · exact hrF7.out.call hb8
      · refine RW.call ?_ hb8
        have h := raw_rb hrE7.out
        exact h
    have hz5 : w.heap.size + 5 ≤ B ∧ gO < B ∧ gT < B ∧ w7.heap.size + 1 < B ∧ gS < B ∧ gF < B ∧ w6.heap.size < B := by omega
    have hPB : Hid (PB z w [(24, #[.slice A n cc]), (29, #[.slice gA n gc, .slice fA n fc, .slice oA on oc]), (27, #[.slice iA iN ic]), (29, #[.slice none 0 0, .slice none 0 0, .slice none 0 0]), (79, #[.func (.func 49) #[] #[.pointer (some ⟨w.heap.size + 2, 0, none⟩), .pointer (some ⟨w.heap.size + 1, 0, none⟩)]])] gT B) := by
      have hfi := hzf.out
      rw [hz] at hfi ⊢
      refine ⟨hfi, rfl, fun g hg => ?_, ?_, fun g hg => ?_, fun hg => ?_, fun hg => ?_⟩
      · simp only [List.mem_cons, List.not_mem_nil, or_false] at hg
        omega
      · show w.heap.size + 5 ≤ B
        omega
      · simp only [ZP.xs, List.mem_cons, List.not_mem_nil, or_false] at hg
        show w.heap.size + 5 ≤ g
        omega
      · simp only [ZP.xs, List.mem_cons, List.not_mem_nil, or_false] at hg
        omega
      · simp only [List.mem_cons, List.not_mem_nil, or_false] at hg
        omega
    rw [← hw8]
    clear hw8 hb8 bN8 bX8 hs8 hs7 hs6 hsc hlS hlF hlO hlS0 hlF0 hlO0 hsE hO7 hBO7 hrS7 hrF7 hrT7 hrE7 hb7 a0 hO6 hBO6 hrS6 hrF6 hrT hb6 hat hO hBO hrS hrF b0 hB hgT hlT
    generalize w7.heap.size = gN at hz hz5 ⊢
    generalize w6.heap.size = gE at hz hz5
    have a0 := hP0.out.own.b0.cell 0
    simp only [List.getElem?_toArray, List.getElem?_cons_zero, List.getElem?_cons_succ] at a0
    have hz1 : Hid (ZL1 z w A n cc gO gN gS gF gE capS capF l) := hz
    clear hz
    have hent : Hid (∀ (keep : Bool) (v : Value) (m : Nat) (x : RS) (W : World), m < n → ZS z x v W → Calls Try.prog 50 #[.int .i64 (m : Int), .bool keep, .pointer (some ⟨w.heap.size, 0, none⟩), .pointer (some ⟨gO, 0, none⟩), .pointer (some ⟨gN, 0, none⟩), .pointer (some ⟨gN + 1, 0, none⟩)] W fun e w' => e = .returned (.tuple #[]) ∧ ZS z (ent l keep l.length m x) v w' ∧ Fr z.xs W w') := by
      intro keep v m x W hm hs
      have hf := hzf.out
      have e := hz1.out
      unfold ZL1 at e
      subst e
      exact p_enter _ hf keep v l.length m x W hm (by show n ≤ m + l.length; omega) hs
    have hgs : Hid (z.gS = gS ∧ z.gF = gF ∧ z.gO = gO) := by
      have e := hz1.out
      unfold ZL1 at e
      subst e
      exact ⟨rfl, rfl, rfl⟩
    replace hz5 := Lib.hid hz5
    obtain ⟨th, hth⟩ : ∃ th, th = pres ⟨iA, iN, ic, il⟩ ⟨oA, on, oc, ol⟩ := ⟨_, rfl⟩
    replace hth := Lib.hid hth
    have hr0' := Lib.hid hr0
    clear hr0
    go_wp2_with fail
    clear a0
    go_loopw [12, 39] (fun v12 v39 wr => ∃ i : Nat, i ≤ n ∧ v39 = .int .i64 i ∧ ∃ vO, PL z w [(24, #[.slice A n cc]), (29, #[.slice gA n gc, .slice fA n fc, .slice oA on oc]), (27, #[.slice iA iN ic]), (29, #[.slice none 0 0, .slice none 0 0, .slice none 0 0]), (79, #[.func (.func 49) #[] #[.pointer (some ⟨w.heap.size + 2, 0, none⟩), .pointer (some ⟨w.heap.size + 1, 0, none⟩)]])] gT B (fnI gl) (rto l (fnI gl) (fnB fl) th i r0) v12 vO wr) (fun _ i _ => n - (intOf i).toNat)
    case atStart => exact ⟨0, by omega, rfl, _, hP0.out⟩
    case round =>
      clear hP0
      obtain ⟨k, hk, rfl, vO, hP⟩ := hrel
      obtain ⟨r, hr⟩ : ∃ r, r = rto l (fnI gl) (fnB fl) th k r0 := ⟨_, rfl⟩
      have hstep : Hid (rto l (fnI gl) (fnB fl) th (k + 1) r0 = rstep l (fnI gl) (fnB fl) th k r) := by rw [hr]; exact rfl
      have hbd : RB2 k r := by rw [hr, hr0'.out]; exact rto_bound hc.out hv _ _ th (fnI_in64 hg.out.1.2.2.2.1) k
      have hfre : Fresh (fnI gl) (fnB fl) k r := by rw [hr, hr0'.out]; exact rto_fresh hlow.out _ _ th k
      rw [← hr] at hP
      replace hr := Lib.hid hr
      have hb5 := hz5.out
      by_cases hlt : k < n
      · obtain ⟨gm, om_, m, hA, hgm, hm, hmo, c0, c1, c2, c3, c4⟩ := (hc.out.below hP.own.1 (Nat.le_refl _)).cell hlt
        obtain ⟨om, os, ⟨tA, tn, tc, tl⟩, fst, ⟨mA, mn, mc, ml⟩⟩ := m
        simp only at hA c0 c1 c2 c3 c4 hm
        subst hA
        have hF := PL.facts hz1.out hP
        have tc0 := hF.rT.cell hlt
        have ec0 := hF.rE.cell hlt
        have en0 := hF.bN.cell 0
        have hbm : Hid (Below wr.heap.size wr (wr.alloc (.cells #[.int .i64 om, .int .i64 os, .slice tA tn tc, .int .i64 fst, .slice mA mn mc] 50))) := (Below.refl _ _).alloc (Nat.le_refl _) _
        have tc1 := (hbm.out.cell (p := ⟨gT, k, none⟩) hF.rT.lt).trans tc0
        have ec1 := (hbm.out.cell (p := ⟨gE, k, none⟩) hF.rE.lt).trans ec0
        have en1 := (hbm.out.cell (p := ⟨gN, 0, none⟩) hF.bN.lt).trans en0
        simp only [List.getElem?_toArray, List.getElem?_cons_zero, bv] at en1 ec1
        have hn1 : n ≤ 17592186044416 := by omega
        have hkn : (k : Int) < n := by omega
        clear tc0 ec0 en0
        have hFm := Lib.hid (PL.facts hz1.out (hP.call hbm.out))
        have hmv := Lib.hid hmo.2.2.2.2
        replace hm := Lib.hid hm
        clear hmo
        replace hbd := Lib.hid hbd
        replace hfre := Lib.hid hfre
        replace hF := Lib.hid hF
        replace hP := Lib.hid hP
        have a0 := hFm.out.bC.cell 0
        have b0 := hFm.out.bO.cell 0
        simp only [List.getElem?_toArray, List.getElem?_cons_zero, List.getElem?_cons_succ] at a0 b0
        have hSl := hFm.out.rS.nl h6 (fun j _ => hbd.out.i64 j)
        have hcl := hact.out _ _ (hP.out.own.1.trans (hbm.out.mono hP.out.own.1.size)) hSl rfl
        simp only at hcl
        clear hSl
        have hav : Hid (actv l (fnI ((List.range n).map r.x.S)) k = actv l r.x.S k) := actv_congr hlow.out (fun j hj => fnI_range hj) hlt
        cases ha : actv l (fnI gl) k with
        | false =>
          rw [ha] at tc1
          have hst : Hid (rto l (fnI gl) (fnB fl) th (k + 1) r0 = r) := by show _ = _; rw [hstep.out, rstep_off (by rw [ha]; rfl)]
          go_wp2_with fail
          go_roundw
          case rel => exact ⟨k + 1, hlt, by go_num, vO, by rw [hst.out]; exact hP.out.call hbm.out⟩
          case measure => simp [intOf]; omega
        | true =>
          rw [ha] at tc1
          cases he : r.x.E k with
          | true =>
            rw [he] at ec1
            have hst : Hid (rto l (fnI gl) (fnB fl) th (k + 1) r0 = r) := by show _ = _; rw [hstep.out, rstep_off (by rw [ha, he]; rfl)]
            go_wp2_with fail
            go_roundw
            case rel => exact ⟨k + 1, hlt, by go_num, vO, by rw [hst.out]; exact hP.out.call hbm.out⟩
            case measure => simp [intOf]; omega
          | false =>
            rw [he] at ec1
            cases hb2 : actv l r.x.S k with
            | false =>
              have hst : Hid (rto l (fnI gl) (fnB fl) th (k + 1) r0 = r) := by show _ = _; rw [hstep.out, rstep_off (by rw [ha, he, hb2]; rfl)]
              go_wp2_with (go_at_call 32; refine hcl.mono ?_; rintro e w9 ⟨gT2, rfl, hgT2, hrT2, hb9⟩; have q2 := hrT2.cell hlt; rw [hav.out, hb2] at q2)
              have hb10 := hbm.out.trans (hb9.mono hbm.out.size)
              go_roundw
              case rel => exact ⟨k + 1, hlt, by go_num, vO, by rw [hst.out]; exact hP.out.call hb10⟩
              case measure => simp [intOf]; omega
            | true =>
              go_upto_region 12 with (go_at_call 32; refine hcl.mono ?_; rintro e w9 ⟨gT2, rfl, hgT2, hrT2, hb9⟩; have q2 := hrT2.cell hlt; rw [hav.out, hb2] at q2)
              have hbm9 := Lib.hid (hbm.out.trans (hb9.mono hbm.out.size))
              have hOM := Lib.hid ((Own.one wr 50 #[.int .i64 om, .int .i64 os, .slice tA tn tc, .int .i64 fst, .slice mA mn mc]).call hb9)
              have hP9 := Lib.hid (hP.out.call hbm9.out)
              have hmv9 := Lib.hid (hmv.out.below hbm9.out (Nat.le_refl _))
              have m4 := hOM.out.b0.cell 4
              simp only [List.getElem?_toArray, List.getElem?_cons_zero, List.getElem?_cons_succ] at m4
              have hml : ml.length = mn := hmv.out.1
              have hmn : mn ≤ 17592186044416 := hmv.out.2.2.1
              obtain ⟨bM, hbM⟩ : ∃ bM, bM = wr.heap.size := ⟨_, rfl⟩
              rw [← hbM] at m4 ⊢
              replace hbM := Lib.hid hbM
              clear q2 hrT2 hgT2 hb9 hcl hav hFm a0 b0 tc1 ec1 en1 c0 c1 c2 c3 c4 hgm hact
              obtain ⟨wA, hwA⟩ : ∃ wA, wA = wr := ⟨_, rfl⟩
              subst hwA
              go_wp2_with fail
              clear m4
              go_loopw [12, 16, 68] (fun v12 v16 v68 wr => v12 = u12 ∧ v16 = .bool false ∧ RA w9 mn (fun j => ∀ v, ml[j]? = some v → openM (fnI gl k) (fnB fl k) th v = false) v68 wr) (fun _ _ i _ => mn - (intOf i).toNat)
              case atStart => exact ⟨rfl, rfl, Below.refl _ _, 0, by omega, rfl, fun j hj => absurd hj (Nat.not_lt_zero _)⟩
              case round =>
                obtain ⟨rfl, rfl, hb10, j, hj, rfl, hQ⟩ := hrel
                replace hQ := Lib.hid hQ
                have hO10 := hP9.out.own.call hb10
                by_cases hltj : j < mn
                · obtain ⟨gv, ov, v, hA2, hgv, hvv, hvo, d0, d1, d2, d3, d4, d5, d6⟩ := (hmv9.out.below hb10 (Nat.le_refl _)).cell hltj
                  obtain ⟨frm, dst, ⟨hA, hn, hcp, hwl⟩, ⟨nA, nn, nc, nl⟩, ⟨eA, en, ec, el⟩, late, keep⟩ := v
                  simp only at hA2 d0 d1 d2 d3 d4 d5 d6
                  subst hA2
                  have hbv : Hid (Below wr.heap.size wr (wr.alloc (.cells #[.int .i64 frm, .int .i64 dst, .slice hA hn hcp, .slice nA nn nc, .slice eA en ec, .bool late, .bool keep] 52))) := (Below.refl _ _).alloc (Nat.le_refl _) _
                  have hOV := Lib.hid (Own.one wr 52 #[.int .i64 frm, .int .i64 dst, .slice hA hn hcp, .slice nA nn nc, .slice eA en ec, .bool late, .bool keep])
                  have hO11 := Lib.hid (hO10.call hbv.out)
                  have s0 := hO11.out.b1.cell 0
                  have s1 := hO11.out.b1.cell 1
                  have s4 := (hO11.out.blk 4 rfl).cell 0
                  simp only [List.getElem?_toArray, List.getElem?_cons_zero, List.getElem?_cons_succ] at s0 s1 s4
                  obtain ⟨g1, o1, z1, hA1, hg1, hz1x, -, e1⟩ := (hg.out.1.below hO11.out.1 (Nat.le_refl _)).cell (j := k) hlt
                  obtain ⟨g2, o2, z2, hA3, hg2, hz2x, e2⟩ := (hg.out.2.1.below hO11.out.1 (Nat.le_refl _)).cell (j := k) hlt
                  simp only at hA1 hz1x hA3 hz2x
                  have hf1 : fnI gl k = z1 := by unfold fnI; rw [List.getD_eq_getElem?_getD, hz1x]; rfl
                  have hf2 : fnB fl k = z2 := by unfold fnB; rw [List.getD_eq_getElem?_getD, hz2x]; rfl
                  subst hA1
                  subst hA3
                  have hf1' := Lib.hid hf1
                  have hf2' := Lib.hid hf2
                  clear hf1 hf2 hz1x hz2x
                  have hwh := Lib.hid (hvo.2.2.1.below hbv.out (Nat.le_refl _))
                  have hno := Lib.hid (hvo.2.2.2.1.below hbv.out (Nat.le_refl _))
                  have hem := Lib.hid hvo.2.2.2.2
                  have hvv' := Lib.hid hvv
                  clear hvv hvo
                  have hb11 := Lib.hid (hb10.trans (hbv.out.mono hb10.size))
                  have hop : Hid (openM z1 z2 th ⟨frm, dst, ⟨hA, hn, hcp, hwl⟩, ⟨nA, nn, nc, nl⟩, ⟨eA, en, ec, el⟩, late, keep⟩ = ((frm == z1 && !(late && z2)) && hwl.all th && !nl.any th)) := open_eq _ _ _ _
                  go_upto_region 16 with fail
                  go_cut [91] from 73 to 91 (fun v91 wc => Hid (Below (wr.alloc (.cells #[.int .i64 frm, .int .i64 dst, .slice hA hn hcp, .slice nA nn nc, .slice eA en ec, .bool late, .bool keep] 52)).heap.size (wr.alloc (.cells #[.int .i64 frm, .int .i64 dst, .slice hA hn hcp, .slice nA nn nc, .slice eA en ec, .bool late, .bool keep] 52)) wc) ∧ v91 = .bool (!(frm == z1 && !(late && z2))))
                  case first =>
                    have hdr := (Below.refl (wr.alloc (.cells #[.int .i64 frm, .int .i64 dst, .slice hA hn hcp, .slice nA nn nc, .slice eA en ec, .bool late, .bool keep] 52)).heap.size (wr.alloc (.cells #[.int .i64 frm, .int .i64 dst, .slice hA hn hcp, .slice nA nn nc, .slice eA en ec, .bool late, .bool keep] 52))).drew
                    replace hdr := Lib.hid hdr
                    cases q1 : (frm == z1) <;> cases late <;> cases z2
                    all_goals (try have q1' : (frm != z1) = true := by simp only [bne, q1]; rfl)
                    all_goals (try have q1' : (frm != z1) = false := by simp only [bne, q1]; rfl)
                    all_goals clear hop
                    all_goals go_region
                    all_goals go_wp2_with fail
                    all_goals go_meet
                    all_goals exact ⟨hdr, by rw [q1]; rfl⟩
                  case rest =>
                    obtain ⟨hbc, rfl⟩ := hcut
                    have hO12 := Lib.hid (hO11.out.call hbc.out)
                    have hOV12 := Lib.hid (hOV.out.call hbc.out)
                    have hb12 := Lib.hid (hb11.out.trans (hbc.out.mono hb11.out.size))
                    have hno12 := Lib.hid (hno.out.below hbc.out (Nat.le_refl _))
                    have h3 := has3 hi.out hg.out.2.2 wc ⟨hA, hn, hcp, hwl⟩ hO12.out (hwh.out.below hbc.out (Nat.le_refl _))
                    have h1f := fun W hO hs => has1 hi.out hg.out.2.2 (x0 := (24, #[.slice (some ⟨gm, om_, none⟩) n cc])) (x3 := (29, #[.slice none 0 0, .slice none 0 0, .slice none 0 0])) (vS := .slice (some ⟨g1, o1, none⟩) n gc) (vF := .slice (some ⟨g2, o2, none⟩) n fc) W ⟨nA, nn, nc, nl⟩ hO hs
                    rw [← hth.out] at h3
                    rw [← hth.out] at h1f
                    simp only at h3
                    replace h1f := Lib.hid h1f
                    have v2 := hOV12.out.b0.cell 2
                    have s4 := (hO12.out.blk 4 rfl).cell 0
                    simp only [List.getElem?_toArray, List.getElem?_cons_zero, List.getElem?_cons_succ] at v2 s4
                    cases p1 : (frm == z1 && !(late && z2)) with
                    | false =>
                      have hop' : Hid (openM z1 z2 th ⟨frm, dst, ⟨hA, hn, hcp, hwl⟩, ⟨nA, nn, nc, nl⟩, ⟨eA, en, ec, el⟩, late, keep⟩ = false) := by show _ = _; rw [hop.out, p1]; rfl
                      go_wp2_with fail
                      go_roundw
                      case rel => exact ⟨rfl, rfl, RA.next hb12.out hltj (by go_num) hQ.out (fun v' hv' => by rw [hvv'.out] at hv'; cases hv'; rw [hf1'.out, hf2'.out]; exact hop'.out)⟩
                      case measure => simp [intOf]; omega
                    | true =>
                      cases p2 : hwl.all th with
                      | false =>
                        rw [p2] at h3
                        have hop' : Hid (openM z1 z2 th ⟨frm, dst, ⟨hA, hn, hcp, hwl⟩, ⟨nA, nn, nc, nl⟩, ⟨eA, en, ec, el⟩, late, keep⟩ = false) := by show _ = _; rw [hop.out, p1, p2]; rfl
                        go_wp2_with (go_at_call 44; (with_reducible refine h3.mono ?_); rintro e w13 ⟨rfl, hb13⟩)
                        have hb14 := hb12.out.trans (hb13.mono hb12.out.size)
                        go_roundw
                        case rel => exact ⟨rfl, rfl, RA.next hb14 hltj (by go_num) hQ.out (fun v' hv' => by rw [hvv'.out] at hv'; cases hv'; rw [hf1'.out, hf2'.out]; exact hop'.out)⟩
                        case measure => simp [intOf]; omega
                      | true =>
                        rw [p2] at h3
                        cases p3 : nl.any th with
                        | true =>
                          have hop' : Hid (openM z1 z2 th ⟨frm, dst, ⟨hA, hn, hcp, hwl⟩, ⟨nA, nn, nc, nl⟩, ⟨eA, en, ec, el⟩, late, keep⟩ = false) := by show _ = _; rw [hop.out, p1, p2, p3]; rfl
                          go_wp2_with (first
                            | (go_at_call 44; (with_reducible refine h3.mono ?_); rintro e w13 ⟨rfl, hb13⟩; have hO13 := Lib.hid (hO12.out.call hb13); have hOV13 := Lib.hid (hOV12.out.call hb13); have h1 := h1f.out w13 hO13.out (hno12.out.below hb13 (Nat.le_refl _)); simp only [p3] at h1; have v3 := hOV13.out.b0.cell 3; have s4 := (hO13.out.blk 4 rfl).cell 0; simp only [List.getElem?_toArray, List.getElem?_cons_zero, List.getElem?_cons_succ] at v3 s4; have hb13' := Lib.hid (hb12.out.trans (hb13.mono hb12.out.size)))
                            | (go_at_call 44; (with_reducible refine h1.mono ?_); rintro e w14 ⟨rfl, hb14⟩))
                          have hb15 := hb13'.out.trans (hb14.mono hb13'.out.size)
                          go_roundw
                          case rel => exact ⟨rfl, rfl, RA.next hb15 hltj (by go_num) hQ.out (fun v' hv' => by rw [hvv'.out] at hv'; cases hv'; rw [hf1'.out, hf2'.out]; exact hop'.out)⟩
                          case measure => simp [intOf]; omega
                        | false =>
                          have hop' : Hid (openM z1 z2 th ⟨frm, dst, ⟨hA, hn, hcp, hwl⟩, ⟨nA, nn, nc, nl⟩, ⟨eA, en, ec, el⟩, late, keep⟩ = true) := by show _ = _; rw [hop.out, p1, p2, p3]; rfl
                          go_upto_region 18 with (first
                            | (go_at_call 44; (with_reducible refine h3.mono ?_); rintro e w13 ⟨rfl, hb13⟩; have hO13 := Lib.hid (hO12.out.call hb13); have hOV13 := Lib.hid (hOV12.out.call hb13); have h1 := h1f.out w13 hO13.out (hno12.out.below hb13 (Nat.le_refl _)); simp only [p3] at h1; have v3 := hOV13.out.b0.cell 3; have s4 := (hO13.out.blk 4 rfl).cell 0; simp only [List.getElem?_toArray, List.getElem?_cons_zero, List.getElem?_cons_succ] at v3 s4; have hb13' := Lib.hid (hb12.out.trans (hb13.mono hb12.out.size)))
                            | (go_at_call 44; (with_reducible refine h1.mono ?_); rintro e w14 ⟨rfl, hb14⟩))
                          have hb15 := Lib.hid (hb13'.out.trans (hb14.mono hb13'.out.size))
                          have hV14 : Hid (Blk w14 wr.heap.size 52 #[.int .i64 frm, .int .i64 dst, .slice hA hn hcp, .slice nA nn nc, .slice eA en ec, .bool late, .bool keep]) := (hOV13.out.call hb14).b0
                          have hP14 := Lib.hid (hP9.out.call hb15.out)
                          have hst : Hid (rto l (fnI gl) (fnB fl) th (k + 1) r0 = ⟨ent l keep l.length k (r.x.mv k dst), r.D ++ [(k, j)], r.O ++ el⟩) := by
                            show _ = _
                            rw [hstep.out]
                            exact rstep_some hm.out (by rw [ha, he, hb2]; rfl) (findIdx_some (p := openM (fnI gl k) (fnB fl k) th) hvv'.out (by rw [hf1'.out, hf2'.out]; exact hop'.out) hQ.out) hvv'.out
                          have hemw : Hid (SL.ok w ⟨eA, en, ec, el⟩) := ((hc.out.2.2.2.1 _ (List.mem_of_getElem? hm.out)).2.2.2.2.2.2.2.1 _ (List.mem_of_getElem? hvv'.out)).2.2.2.2
                          have hen : en ≤ 64 := CV.em64 hv hm.out hvv'.out
                          have hel : Hid (el.length = en) := hemw.out.1
                          have hD6 := hbd.out.d
                          have hO6 := hbd.out.o
                          have hsz14 := hP14.out.sz
                          have hBwr : Hid (B ≤ wr.heap.size) := Nat.le_trans hP9.out.sz hb10.size
                          clear h3 h1 h1f v2 v3 s4 hO13 hOV13 hO12 hOV12 hb13 hb13' hno12 hb12 hbc hOV hbv hO11 hO10 hb10 hb11 hb14 s0 s1 d0 d1 d2 d3 d4 d5 d6 hgv e1 e2 hg1 hg2 hwh hno hem hop
                          go_upto_region 20 with (first
                            | (at_builtin; refine app_D rfl _ _ rfl B r.D.length u12 r.D rfl (OR.more hP14.out.dn _) (by omega) (by simp; omega) ⟨w14.heap.size, 0, none⟩ 1 (k, j) rfl (cell_two_new _ _ _ _) ?_; intro gD capD w15 hown15 hgr15 hat15
                               have hVa := hV14.out.alloc (.cells #[.int .i64 (k : Int), .int .i64 (j : Int)] 42)
                               have hRa := OR.more hP14.out.dn (.cells #[.int .i64 (k : Int), .int .i64 (j : Int)] 42)
                               have hne := Blk.apart hVa hRa (by decide)
                               have hV15 := Lib.hid (Blk.grown hVa hgr15 hne)
                               have hP15 := Lib.hid (PL.app_dn (p := (k, j)) hPB.out (hP14.out.call ((Below.refl w14.heap.size w14).alloc (Nat.le_refl _) (.cells #[.int .i64 (k : Int), .int .i64 (j : Int)] 42))) hown15 hgr15)
                               have oq2 := (PL.facts hz1.out hP15.out).bO.cell 2
                               have v4 := hV15.out.cell 4
                               have hsz15 := hP15.out.sz
                               have oc2 := (PL.facts hz1.out hP15.out).bO.frozen 2
                               simp only [List.getElem?_toArray, List.getElem?_cons_zero, List.getElem?_cons_succ] at oq2 v4
                               clear hown15 hgr15 hat15 hVa hRa hne)
                            | (at_builtin; refine app_S rfl _ _ rfl B r.O.length vO r.O rfl hP15.out.em rfl hsz15 ⟨eA, en, ec, el⟩ rfl (hemw.out.below hP15.out.own.1 (Nat.le_refl _)) (by show (r.O.length + en) * 16 ≤ _; omega) ?_; intro A16 c16 w16 hown16 hgr16
                               have hne := Blk.apart hV15.out hP15.out.em (by decide)
                               have hV16 := Lib.hid (Blk.grown hV15.out hgr16 hne)
                               have hPO := (PL.facts hz1.out hP15.out).bO
                               have hneO := Blk.apart hPO hP15.out.em (by decide)
                               have hO16 := Blk.grown hPO hgr16 hneO
                               have oq2 := hO16.cell 2
                               have oc2 := hO16.frozen 2
                               simp only [List.getElem?_toArray, List.getElem?_cons_zero, List.getElem?_cons_succ] at oq2
                               have hP16 := Lib.hid (PL.app_em hPB.out hP15.out hel.out hown16 hgr16)
                               clear hne hPO hneO hO16 hown16 hgr16))
                          obtain ⟨w17, hw17⟩ : ∃ w17, w17 = w16.setCell ⟨gO, 2, none⟩ (.slice A16 (r.O.length + en) c16) := ⟨_, rfl⟩
                          have hP17 : PL z w [(24, #[.slice (some ⟨gm, om_, none⟩) n cc]), (29, #[.slice (some ⟨g1, o1, none⟩) n gc, .slice (some ⟨g2, o2, none⟩) n fc, .slice oA on oc]), (27, #[.slice iA iN ic]), (29, #[.slice none 0 0, .slice none 0 0, .slice none 0 0]), (79, #[.func (.func 49) #[] #[.pointer (some ⟨w.heap.size + 2, 0, none⟩), .pointer (some ⟨w.heap.size + 1, 0, none⟩)]])] gT B (fnI gl) ⟨r.x, r.D ++ [(k, j)], r.O ++ el⟩ (.slice (some ⟨gD, 0, none⟩) (r.D.length + 1) capD) (.slice A16 (r.O.length + en) c16) w17 := by
                            have h := hP16.out
                            rw [hgs.out.2.2, ← hw17] at h
                            exact h
                          have hV17 : Blk w17 wr.heap.size 52 #[.int .i64 frm, .int .i64 dst, .slice hA hn hcp, .slice nA nn nc, .slice eA en ec, .bool late, .bool keep] := by
                            rw [hw17]
                            exact hV16.out.far (by show wr.heap.size ≠ gO; have := hBwr.out; omega) _
                          rw [← hw17]
                          clear hw17 hP16 hV16 oc2 oq2 hP15 hV15 v4 hsz15 hP14 hV14 hsz14
                          have hF17 := PL.facts hz1.out hP17
                          have t0 := hF17.bO.cell 0
                          have t1 := hF17.bO.cell 1
                          have v1 := hV17.cell 1
                          have sc := hF17.rS.cell hlt
                          have sf := hF17.rS.frozen k
                          have fc := hF17.rF.cell hlt
                          have ff := hF17.rF.frozen k
                          have hP18 := PL.setS hPB.out hP17 k dst
                          rw [hgs.out.1] at hP18
                          have hF18 := PL.facts hz1.out hP18
                          have fc8 := hF18.rF.cell hlt
                          have ff8 := hF18.rF.frozen k
                          have hP19 := PL.setF hPB.out hP18 k true
                          rw [hgs.out.2.1] at hP19
                          have hF19 := PL.facts hz1.out hP19
                          have x9 := hF19.bX.cell 0
                          have hV19 := (hV17.far (p := ⟨gS, k, none⟩) (by show wr.heap.size ≠ gS; have := hBwr.out; omega) (.int .i64 dst)).far (p := ⟨gF, k, none⟩) (by show wr.heap.size ≠ gF; have := hBwr.out; omega) (.bool true)
                          have v6 := hV19.cell 6
                          have hP19d := Lib.hid (hP19.call (Below.refl _ _).drew)
                          simp only [List.getElem?_toArray, List.getElem?_cons_zero, List.getElem?_cons_succ] at t0 t1 v1 x9 v6
                          replace hP19 := Lib.hid hP19
                          have hen2 := enters_react2
                          clear hF17 hF18 hF19 hP18 hP17 hV17 hV19
                          go_wp2_with fail
                          go_region
                          all_goals go_wp2_with (go_at_call 50; first
                            | (refine (hent.out keep (.slice A16 (r.O.length + en) c16) k _ _ hlt (by with_reducible exact hP19.out.zs)).mono ?_; rintro e w20 ⟨rfl, hz20, hf20⟩; have hP20 := Lib.hid (PL.fr hPB.out hP19.out hz20 hf20))
                            | (refine (hent.out keep (.slice A16 (r.O.length + en) c16) k _ _ hlt (by with_reducible exact hP19d.out.zs)).mono ?_; rintro e w20 ⟨rfl, hz20, hf20⟩; have hP20 := Lib.hid (PL.fr hPB.out hP19d.out hz20 hf20)))
                          all_goals exact ⟨⟨k + 1, hlt, by go_num, _, by rw [hst.out]; exact hP20.out⟩, by simp [intOf]; omega⟩
                · have hst : Hid (rto l (fnI gl) (fnB fl) th (k + 1) r0 = ⟨⟨r.x.S, upd r.x.F k false, r.x.E⟩, r.D, r.O⟩) := by
                    show _ = _
                    rw [hstep.out]
                    exact rstep_none hm.out (by rw [ha, he, hb2]; rfl) (findIdx_none (p := openM (fnI gl k) (fnB fl k) th) (fun j' x hx => hQ.out j' (by
                      have := (List.getElem?_eq_some_iff.1 hx).1
                      have h1 : j' < ml.length := this
                      omega) x hx))
                  have hP10 := hP9.out.call hb10
                  have hF10 := PL.facts hz1.out hP10
                  have t1 := hF10.bO.cell 1
                  have fc := hF10.rF.cell hlt
                  have ff := hF10.rF.frozen k
                  simp only [List.getElem?_toArray, List.getElem?_cons_zero, List.getElem?_cons_succ] at t1
                  have hP19 := PL.setF hPB.out hP10 k false
                  rw [hgs.out.2.1] at hP19
                  replace hP19 := Lib.hid hP19
                  clear hF10 hP10 hO10
                  go_wp2_with fail
                  go_roundw
                  case rel => exact ⟨k + 1, hlt, by go_num, _, by rw [hst.out]; exact hP19.out⟩
                  case measure => simp [intOf]; omega
      · obtain rfl : k = n := by omega
        obtain ⟨eA, ec, hvo⟩ := OR.form hP.em
        subst hvo
        obtain ⟨dA, dc, hdv⟩ := OR.form hP.dn
        subst hdv
        have hre : Hid (reacted ⟨A, k, cc, l⟩ ⟨⟨gA, k, gc, gl⟩, ⟨fA, k, fc, fl⟩, ⟨oA, on, oc, ol⟩⟩ ⟨iA, iN, ic, il⟩ = r) := by
          show _ = _
          unfold reacted rall
          simp only
          rw [← hth.out, ← hr0'.out, hl, hr.out]
        have hbo := hbd.o
        have hso := sort_rowS hP.em rfl (by omega)
        have hbS := hbd.i64
        have hbs := hbd.s
        have hF := PL.facts hz1.out hP
        have w2 := hF.bO.cell 2
        simp only [List.getElem?_toArray, List.getElem?_cons_zero, List.getElem?_cons_succ] at w2
        replace hP := Lib.hid hP
        clear hF hent hact hstep
        go_upto_region 28 with (first
          | (go_at_call 53; refine hso.mono ?_; rintro e w21 ⟨rfl, hr21, hg21⟩
             obtain ⟨q1, q2, q3, q4⟩ := PL.far hPB.out hP.out (Fr.grownB hg21) (fun y hy => by rw [Option.mem_toList] at hy; exact (OR.at hP.out.em hy).1)
             have hdn := OR.kept hP.out.dn hg21 (fun g hg => OR.apart hP.out.dn hP.out.em (by decide) hg)
             have hco := comp_rowS hr21 (srtS_len _) (by omega)
             have hr21' := hr21
             rw [enc_vS] at hr21'
             have hP21 : PL z w [(24, #[.slice A k cc]), (29, #[.slice gA k gc, .slice fA k fc, .slice oA on oc]), (27, #[.slice iA iN ic]), (29, #[.slice none 0 0, .slice none 0 0, .slice none 0 0]), (79, #[.func (.func 49) #[] #[.pointer (some ⟨w.heap.size + 2, 0, none⟩), .pointer (some ⟨w.heap.size + 1, 0, none⟩)]])] gT B (fnI gl) ⟨r.x, r.D, (srtS r.O).map bk⟩ (.slice dA r.D.length dc) (.slice eA r.O.length ec) w21 := ⟨q1, q2, q3, hdn, by rw [List.length_map, srtS_len]; exact hr21', q4⟩
             have hF21 := PL.facts hz1.out hP21
             have w2 := hF21.bO.cell 2
             simp only [List.getElem?_toArray, List.getElem?_cons_zero, List.getElem?_cons_succ] at w2
             replace hP21 := Lib.hid hP21
             replace hF21 := Lib.hid hF21
             replace hr21 := Lib.hid hr21
             clear q1 q2 q3 q4 hdn hr21' hg21)
          | (go_at_call 54; refine hco.mono ?_; rintro e w22 ⟨rfl, hr22, hg22⟩
             obtain ⟨q1, q2, q3, q4⟩ := PL.far hPB.out hP21.out (Fr.grownB hg22) (fun y hy => by rw [Option.mem_toList] at hy; exact (OR.at hr21.out hy).1)
             have hdn22 := Lib.hid (OR.kept hP21.out.dn hg22 (fun g hg => OR.apart hP21.out.dn hr21.out (by decide) hg))
             have hO22 := Blk.grown hF21.out.bO hg22 (Blk.apart hF21.out.bO hr21.out (by decide))
             have hfr22 := Fr.grownB hg22
             have hS22 := Lib.hid (hF21.out.rS.fr hfr22 (fun hm => by rw [Option.mem_toList] at hm; have := (OR.at hr21.out hm).1; omega))
             have hF22 := Lib.hid (hF21.out.rF.fr hfr22 (fun hm => by rw [Option.mem_toList] at hm; have := (OR.at hr21.out hm).1; omega))
             have hW22 := Lib.hid q2
             have w2 := hO22.cell 2
             have w2f := hO22.frozen 2
             simp only [List.getElem?_toArray, List.getElem?_cons_zero, List.getElem?_cons_succ] at w2
             replace hO22 := Lib.hid hO22
             replace hr22 := Lib.hid hr22
             clear q1 q2 q3 q4 hg22 hfr22))
        obtain ⟨m, hm⟩ : ∃ m, m = (Lib.compact (srtS r.O)).length := ⟨_, rfl⟩
        rw [← hm] at hr22 ⊢
        replace hm := Lib.hid hm
        obtain ⟨w23, hw23⟩ : ∃ w23, w23 = w22.setCell ⟨gO, 2, none⟩ (.slice eA m ec) := ⟨_, rfl⟩
        rw [← hw23]
        have hO23 : Blk w23 gO 29 #[.slice (some ⟨gS, 0, none⟩) k capS, .slice (some ⟨gF, 0, none⟩) k capF, .slice eA m ec] := by rw [hw23]; exact hO22.out.set 2 _
        have hS23 : RW w23 3 gS k capS (iv r.x.S) := by rw [hw23]; exact hS22.out.other (Ne.symm hOS) _ _
        have hF23 : RW w23 4 gF k capF (bv r.x.F) := by rw [hw23]; exact hF22.out.other (Ne.symm hOF) _ _
        have hd23 : w23.ownsRow B 42 2 (.slice dA r.D.length dc) r.D.length (dv r.D) := by rw [hw23]; exact OR.far hdn22.out hb5.2.1 _ _
        have hr23 : w23.ownsRow B 9 1 (.slice eA m ec) m (vS (outS r.O)) := by
          rw [hw23]
          have h := OR.far hr22.out hb5.2.1 2 (.slice eA m ec)
          rw [enc_vS] at h
          exact h
        have hW23 : Own w [(24, #[.slice A k cc]), (29, #[.slice gA k gc, .slice fA k fc, .slice oA on oc]), (27, #[.slice iA iN ic]), (29, #[.slice none 0 0, .slice none 0 0, .slice none 0 0]), (79, #[.func (.func 49) #[] #[.pointer (some ⟨w.heap.size + 2, 0, none⟩), .pointer (some ⟨w.heap.size + 1, 0, none⟩)]])] w23 := by rw [hw23]; exact Own.fr hW22.out (Fr.one (p := ⟨gO, 2, none⟩) _) (fun x hx => by simp at hx; subst hx; exact hgO)
        clear hw23 hO22 hS22 hF22 hdn22 hr22 hW22 w2 w2f hF21 hP21 hco hso hr21
        obtain ⟨o0, o1, o2, -, -, -⟩ := blkT hO23
        obtain ⟨p0, p1, p2, p3, p4, p5⟩ := blkT (hW23.blk 3 rfl)
        have q := show w.heap.size + 3 < B by have := hb5.1; omega
        have hml : (outS r.O).length = m := by rw [hm.out]; unfold outS; rw [List.length_map]
        have hm6 : m ≤ 1000000 := by
          rw [hm.out]
          have : (Lib.compact (srtS r.O)).length ≤ (srtS r.O).length := by
            unfold Lib.compact Lib.compactUpTo
            rw [List.length_map]
            exact Nat.le_trans (List.length_filter_le _ _) (by simp)
          rw [srtS_len] at this
          omega
        have hsz : ∀ x ∈ outS r.O, x.size ≤ maxLen := fun x hx => hbs x (outS_mem hx)
        have hb24 := Lib.hid (Own.set3 hW23 3 0 1 2 (.slice (some ⟨gS, 0, none⟩) k capS) (.slice (some ⟨gF, 0, none⟩) k capF) (.slice eA m ec))
        have hok : Hid (GV.ok (((w23.setCell ⟨w.heap.size + 3, 0, none⟩ (.slice (some ⟨gS, 0, none⟩) k capS)).setCell ⟨w.heap.size + 3, 1, none⟩ (.slice (some ⟨gF, 0, none⟩) k capF)).setCell ⟨w.heap.size + 3, 2, none⟩ (.slice eA m ec)) ⟨⟨some ⟨gS, 0, none⟩, k, capS, (List.range k).map r.x.S⟩, ⟨some ⟨gF, 0, none⟩, k, capF, (List.range k).map r.x.F⟩, ⟨eA, m, ec, outS r.O⟩⟩) :=
          ⟨(hS23.setT (by omega) _ _ _).nl h6 (fun j _ => hbS j), (hF23.setT (by omega) _ _ _).bl h6, SL.row (OR.far (OR.far (OR.far hr23 q _ _) q _ _) q _ _) hml hsz (by omega)⟩
        have hnew : Hid (GV.new w.heap.size ⟨⟨some ⟨gS, 0, none⟩, k, capS, (List.range k).map r.x.S⟩, ⟨some ⟨gF, 0, none⟩, k, capF, (List.range k).map r.x.F⟩, ⟨eA, m, ec, outS r.O⟩⟩) :=
          ⟨fun a ha => (by cases ha; show w.heap.size ≤ gS; omega), fun a ha => (by cases ha; show w.heap.size ≤ gF; omega), fun a ha => (by have := (OR.at hr23 (g := a.block) (by rw [show eA = some a from ha]; rfl)).1; have := hb5.1; omega)⟩
        have hd24 := Lib.hid (OR.mono (OR.far (OR.far (OR.far hd23 q 0 (.slice (some ⟨gS, 0, none⟩) k capS)) q 1 (.slice (some ⟨gF, 0, none⟩) k capF)) q 2 (.slice eA m ec)) (show w.heap.size ≤ B by omega))
        have hfin : Hid (Reacts ⟨A, k, cc, l⟩ ⟨⟨gA, k, gc, gl⟩, ⟨fA, k, fc, fl⟩, ⟨oA, on, oc, ol⟩⟩ r w (.returned (.tuple #[.agg #[.slice (some ⟨gS, 0, none⟩) k capS, .slice (some ⟨gF, 0, none⟩) k capF, .slice eA m ec], .slice dA r.D.length dc])) (((w23.setCell ⟨w.heap.size + 3, 0, none⟩ (.slice (some ⟨gS, 0, none⟩) k capS)).setCell ⟨w.heap.size + 3, 1, none⟩ (.slice (some ⟨gF, 0, none⟩) k capF)).setCell ⟨w.heap.size + 3, 2, none⟩ (.slice eA m ec))) :=
          ⟨⟨⟨some ⟨gS, 0, none⟩, k, capS, (List.range k).map r.x.S⟩, ⟨some ⟨gF, 0, none⟩, k, capF, (List.range k).map r.x.F⟩, ⟨eA, m, ec, outS r.O⟩⟩, dA, dc, rfl, hok.out, hnew.out, rfl, rfl, rfl, rfl, rfl, hd24.out, hb24.out⟩
        clear hok hnew hd24 hb24 hd23 hr23 hS23 hF23 hsz
        go_wp2_with fail
        rw [hre.out]
        exact bodyPost_ret (v := .tuple #[.agg #[.slice (some ⟨gS, 0, none⟩) k capS, .slice (some ⟨gF, 0, none⟩) k capF, .slice eA m ec], .slice dA r.D.length dc]) (by simp [results, Try.results36, go_sem, p0, p1, p2]) rfl hfin.out

end Go.Proofs.Ytgjmbmlmopomgaa
