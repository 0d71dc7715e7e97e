/- ChartRuns holds for every input. No condition. (Ahead of it in this text: the reference's Run; the law; last the row.) -/
import Derived.Test.YtgjmbmlmopomgaaJg
import Derived.Test.YtgjmbmlmopomgaaHc
import Derived.Test.YtgjmbmlmopomgaaCh
import Derived.Test.YtgjmbmlmopomgaaHd
import Derived.Test.YtgjmbmlmopomgaaEe
import Derived.Test.YtgjmbmlmopomgaaKa
namespace Go.Proofs.Ytgjmbmlmopomgaa
open Go.RowKit Go.Maps Lib
set_option linter.unusedSimpArgs false
set_option linter.unusedVariables false

/-- the reference's answer: what is told may be what came in -/
def RanR (c : CV) (g : GV) (r : RL) (w : World) (e : Ending) (w' : World) : Prop :=
  ∃ (g' : GV) (q : RL), e = .returned (.tuple #[.agg #[.slice g'.st.A g'.st.n g'.st.c, .slice g'.fr.A g'.fr.n g'.fr.c, .slice g'.out.A g'.out.n g'.out.c], .slice q.A q.n q.c, .int .i64 (runErr c g r)]) ∧ g'.ok w' ∧ q.ok w' ∧
    g'.cf = runCf c g r ∧ q.l.map SL.l = runOs c g r ∧ Below w.heap.size w w'
theorem ranR_none {c : CV} {g : GV} {r : RL} {w : World} (h : runErr c g r ≠ 0) : ∀ e w', e = .returned (.tuple #[.agg #[.slice none 0 0, .slice none 0 0, .slice none 0 0], .slice none 0 0, .int .i64 (runErr c g r)]) → Below w.heap.size w w' → RanR c g r w e w' := by
  intro e w' he hb
  obtain ⟨g', q, h1, h2, -, h4, -, h6, h7, h8⟩ := ran_none h e w' he hb
  exact ⟨g', q, h1, h2, h4, h6, h7, h8⟩
/-- apart from block b -/
def GOff (b : Nat) (g : GV) : Prop := Off b g.st.n g.st.A ∧ Off b g.fr.n g.fr.A ∧ Off b g.out.n g.out.A
/-- as far as list k -/
def RunR (w : World) (cv : Value) (B n : Nat) (l : List McV) (x : CF) (ins : List (List ByteArray)) (v14 v56 : Value) (wr : World) : Prop :=
  ∃ (k : Nat) (g : GV) (rows : List SL) (A : Option Addr) (c : Nat), k ≤ ins.length ∧ v56 = .int .i64 (k : Int) ∧ v14 = .slice A k c ∧ Own w [(24, #[cv]), (29, #[.slice g.st.A g.st.n g.st.c, .slice g.fr.A g.fr.n g.fr.c, .slice g.out.A g.out.n g.out.c]), (29, #[.slice none 0 0, .slice none 0 0, .slice none 0 0])] wr ∧ g.ok wr ∧
    g.cf = x.run l (ins.take k) ∧ g.st.n = n ∧ g.fr.n = n ∧ g.out.n ≤ 8796093021952 ∧ GOff (w.heap.size + 2) g ∧ wr.ownsRow B 27 1 (.slice A k c) k (vR rows) ∧ rows.length = k ∧ (∀ s ∈ rows, s.ok wr ∧ NwA B s.A) ∧ (∀ s ∈ rows, ∀ q, (Value.slice A k c).ownBlock = some q → Off q s.n s.A) ∧ rows.map SL.l = x.outs l (ins.take k) ∧ B ≤ wr.heap.size
theorem RunR.next {w w8 w9 : World} {cv : Value} {B n : Nat} {l : List McV} {x : CF} {ins : List (List ByteArray)} {k : Nat} {g : GV} {rows : List SL} {qA : Option Addr} {qc gS capS : Nat} {v : Value}
    (hk : k < ins.length) (hO : Own w [(24, #[cv]), (29, #[.slice g.st.A g.st.n g.st.c, .slice g.fr.A g.fr.n g.fr.c, .slice g.out.A g.out.n g.out.c]), (29, #[.slice none 0 0, .slice none 0 0, .slice none 0 0])] w8) (hB3 : w.heap.size + 3 ≤ B)
    (hg : g.ok w8) (hcf : g.cf = x.run l (ins.take (k + 1))) (h1 : g.st.n = n) (h2 : g.fr.n = n) (h3 : g.out.n ≤ 8796093021952) (h4 : GOff (w.heap.size + 2) g)
    (hr : w8.ownsRow B 27 1 (.slice qA k qc) k (vR rows)) (hrl : rows.length = k) (hrs : ∀ s ∈ rows, s.ok w8 ∧ NwA B s.A) (hoff : ∀ s ∈ rows, ∀ q, (Value.slice qA k qc).ownBlock = some q → Off q s.n s.A) (hro : rows.map SL.l = x.outs l (ins.take k))
    (hyn : NwA B g.out.A)
    (hgo : ∀ q, (Value.slice qA k qc).ownBlock = some q → Off q g.st.n g.st.A ∧ Off q g.fr.n g.fr.A ∧ Off q g.out.n g.out.A)
    (hown : w9.ownsRow B 27 1 (.slice (some ⟨gS, 0, Option.none⟩) (k + 1) capS) (k + 1) (vR (rows ++ [g.out]))) (hgr : w8.grownBy w9 (Value.slice qA k qc).ownBlock) (hat : (Value.slice qA k qc).ownBlock = some gS ∨ gS = w8.heap.size) (hB8 : B ≤ w8.heap.size) (hv : v = .int .i64 ((k + 1 : Nat) : Int)) :
    RunR w cv B n l x ins (.slice (some ⟨gS, 0, Option.none⟩) (k + 1) capS) v w9 := by
  have hall : ∀ s ∈ rows ++ [g.out], s.ok w8 ∧ NwA B s.A ∧ ∀ q, (Value.slice qA k qc).ownBlock = some q → Off q s.n s.A := by
    intro s hs
    rcases List.mem_append.1 hs with hs | hs
    · exact ⟨(hrs s hs).1, (hrs s hs).2, hoff s hs⟩
    · rw [List.mem_singleton.1 hs]; exact ⟨hg.2.2, hyn, fun q e => (hgo q e).2.2⟩
  refine ⟨k + 1, g, rows ++ [g.out], some ⟨gS, 0, Option.none⟩, capS, hk, hv, rfl, hO.grown hr hgr hB3, hg.grown hgr (fun q e => (hgo q e).1) (fun q e => (hgo q e).2.1) (fun q e => (hgo q e).2.2), hcf, h1, h2, h3, h4, hown, by simp [hrl], fun s hs => ⟨(hall s hs).1.grown hgr (hall s hs).2.2, (hall s hs).2.1⟩, ?_, ?_, Nat.le_trans hB8 hgr.size⟩
  · intro s hs q e
    cases e
    rcases hat with hat | hat
    · exact (hall s hs).2.2 _ hat
    · exact (hall s hs).1.off (Nat.le_of_eq hat.symm)
  · have e : ins.take (k + 1) = ins.take k ++ [ins[k]] := List.take_succ_eq_append_getElem hk
    rw [List.map_append, hro, e, CF.outs_snoc, ← e, ← hcf]
    rfl

theorem inErr_big {l : List SL} (h : 64 < l.length) : inErr l = 3 := if_pos h
theorem inErr_long {l : List SL} (h : ¬ 64 < l.length) {k : Nat} {s : SL} (hs : l[k]? = some s) (h2 : 64 < s.n) : inErr l = 3 := by
  unfold inErr
  rw [if_neg h, if_pos]
  exact List.any_eq_true.2 ⟨s, List.mem_of_getElem? hs, by simpa using h2⟩
theorem inErr_names {l : List SL} (h : ¬ 64 < l.length) (h1 : ∀ (k : Nat) (s : SL), l[k]? = some s → ¬ 64 < s.n) {k : Nat} {s : SL} (hs : l[k]? = some s) (h2 : s.names = false) : inErr l = 1 := by
  unfold inErr
  rw [if_neg h, if_neg, if_neg]
  · intro e
    have := List.all_eq_true.1 e s (List.mem_of_getElem? hs)
    rw [h2] at this; cases this
  · intro e
    obtain ⟨x, hx, hx2⟩ := List.any_eq_true.1 e
    obtain ⟨j, hj, rfl⟩ := List.mem_iff_getElem.1 hx
    exact h1 j _ (List.getElem?_eq_getElem hj) (by simpa using hx2)
theorem inErr_fine {l : List SL} (h : ¬ 64 < l.length) (h1 : ∀ (k : Nat) (s : SL), l[k]? = some s → ¬ 64 < s.n) (h2 : ∀ (k : Nat) (s : SL), l[k]? = some s → s.names = true) : inErr l = 0 := by
  unfold inErr
  rw [if_neg h, if_neg, if_pos]
  · rw [List.all_eq_true]
    intro x hx
    obtain ⟨j, hj, rfl⟩ := List.mem_iff_getElem.1 hx
    exact h2 j _ (List.getElem?_eq_getElem hj)
  · intro e
    obtain ⟨x, hx, hx2⟩ := List.any_eq_true.1 e
    obtain ⟨j, hj, rfl⟩ := List.mem_iff_getElem.1 hx
    exact h1 j _ (List.getElem?_eq_getElem hj) (by simpa using hx2)

set_option maxRecDepth 100000 in
set_option maxHeartbeats 8000000 in
theorem r_Run (c : CV) (g : GV) (r : RL) (w : World) (hc : c.ok w) (hg : g.ok w) (hr : r.ok w) (hgo : g.out.n ≤ 8796093021952) :
    Calls Try.prog 21 #[.agg #[.slice c.A c.n c.c], .agg #[.slice g.st.A g.st.n g.st.c, .slice g.fr.A g.fr.n g.fr.c, .slice g.out.A g.out.n g.out.c], .slice r.A r.n r.c] w (RanR c g r w) := by
  have hO0 := Own.three w 24 29 29 #[.slice c.A c.n c.c] #[.slice g.st.A g.st.n g.st.c, .slice g.fr.A g.fr.n g.fr.c, .slice g.out.A g.out.n g.out.c] #[.slice none 0 0, .slice none 0 0, .slice none 0 0]
  have hva := r_valid c _ (hc.below hO0.1 (Nat.le_refl _))
  have hcf : ∀ (w' : World), Below w.heap.size w w' → _ := fun w' hb => r_config c g w' (hc.below hb (Nat.le_refl _)) (hg.below hb (Nat.le_refl _))
  have hN : Hid (∀ e w', runErr c g r ≠ 0 → e = .returned (.tuple #[.agg #[.slice none 0 0, .slice none 0 0, .slice none 0 0], .slice none 0 0, .int .i64 (runErr c g r)]) → Below w.heap.size w w' → RanR c g r w e w') := fun e w' h => ranR_none h e w'
  have hE : Hid (runErr c g r = if g.known c = 0 then inErr r.l else g.known c) := rfl
  have hK : g.known c = if c.valid = 0 then (if g.fine c = true then 0 else 1) else c.valid := rfl
  have hkc := @GV.known_cf c g w hg
  have hcl := hc.1
  have hrl := hr.1
  have hrn : r.n ≤ 17592186044416 := hr.2.2.1
  have hV0 : Hid (c.valid = c.valid) := rfl
  obtain ⟨V, hV1⟩ : ∃ V, V = c.valid := ⟨_, rfl⟩
  obtain ⟨F, hF1⟩ : ∃ F, F = g.fine c := ⟨_, rfl⟩
  rw [← hV1] at hva hK
  simp only [← hF1] at hcf hK
  replace hV1 := Lib.hid hV1
  replace hF1 := Lib.hid hF1
  replace hkc := Lib.hid hkc
  replace hgo := Lib.hid hgo
  obtain ⟨A, n, cc, l⟩ := c
  obtain ⟨⟨gA, gn, gc, gl⟩, ⟨fA, fn, fc, fl⟩, ⟨oA, on, oc, ol⟩⟩ := g
  obtain ⟨rA, rn, rc, rl⟩ := r
  simp only at hva hcf ⊢ hO0 hcl hrl hrn
  replace hc := Lib.hid hc
  replace hg := Lib.hid hg
  replace hr := Lib.hid hr
  replace hO0 := Lib.hid hO0
  replace hcf := Lib.hid hcf
  have hnone : Hid (∀ (e : Int) (W : World), e ≠ 0 → runErr ⟨A, n, cc, l⟩ ⟨⟨gA, gn, gc, gl⟩, ⟨fA, fn, fc, fl⟩, ⟨oA, on, oc, ol⟩⟩ ⟨rA, rn, rc, rl⟩ = e → Below w.heap.size w W → RanR ⟨A, n, cc, l⟩ ⟨⟨gA, gn, gc, gl⟩, ⟨fA, fn, fc, fl⟩, ⟨oA, on, oc, ol⟩⟩ ⟨rA, rn, rc, rl⟩ w (.returned (.tuple #[.agg #[.slice none 0 0, .slice none 0 0, .slice none 0 0], .slice none 0 0, .int .i64 e])) W) := fun e W h0 he hb => by
    subst he
    exact hN.out _ _ h0 rfl hb
  clear hN hV0
  by_cases hV : V = 0
  · subst hV
    rw [if_pos rfl] at hK
    cases F with
    | false =>
      rw [if_neg (by simp)] at hK
      have hE1 := hE.out
      rw [hK, if_neg (by decide)] at hE1
      replace hE1 := Lib.hid hE1
      clear hE hK hkc
      go_enter Try.func21, Try.ntmps21
      go_wp2_with (first
        | (go_at_call 10; refine hva.mono ?_; rintro e w3 ⟨rfl, hb3⟩
           have hO3 := Lib.hid (hO0.out.call hb3)
           have hc3 := hcf.out w3 hO3.out.1
           have a0 := hO3.out.b0.cell 0
           have b0 := hO3.out.b1.cell 0
           have b1 := hO3.out.b1.cell 1
           have b2 := hO3.out.b1.cell 2
           simp only [List.getElem?_toArray, List.getElem?_cons_zero, List.getElem?_cons_succ] at a0 b0 b1 b2)
        | (go_at_call 33; refine hc3.mono ?_; rintro e w4 ⟨rfl, hb4⟩
           have hO4 := Lib.hid (hO3.out.call hb4)
           obtain ⟨p0, p1, p2, p3, p4, p5⟩ := blkT hO4.out.b2))
      have hfin := Lib.hid (hnone.out 1 _ (by decide) hE1.out (Own.set3 hO4.out 2 0 1 2 (.slice none 0 0) (.slice none 0 0) (.slice none 0 0)))
      exact bodyPost_ret (v := .tuple #[.agg #[.slice none 0 0, .slice none 0 0, .slice none 0 0], .slice none 0 0, .int .i64 1]) (by simp [results, Try.results21, go_sem, p0, p1, p2]) rfl hfin.out
    | true =>
      rw [if_pos rfl] at hK
      have hE1 := hE.out
      rw [hK, if_pos rfl] at hE1
      obtain ⟨hv, hfi⟩ := hkc.out hK
      have hn6 : n ≤ 6 := CV.six hv
      have hgn : gn = n := by have h1 := hfi.n; have h2 := hg.out.1.1; simp only at h1 h2; show gn = n; exact h2.symm.trans h1
      have hfn : fn = n := by have h1 := hfi.m; have h2 := hg.out.2.1.1; simp only at h1 h2; show fn = n; exact h2.symm.trans h1
      subst gn
      subst fn
      simp only at hE1
      replace hE1 := Lib.hid hE1
      replace hv := Lib.hid hv
      replace hfi := Lib.hid hfi
      clear hE hkc hK hV1 hF1
      by_cases hbig : 64 < rn
      · have hd : decide ((64 : Int) < (rn : Int)) = true := decide_eq_true (by omega)
        have hE2 : Hid (inErr rl = 3) := inErr_big (by omega)
        go_enter Try.func21, Try.ntmps21
        go_wp2_with (first
          | (go_at_call 10; refine hva.mono ?_; rintro e w3 ⟨rfl, hb3⟩
             have hO3 := Lib.hid (hO0.out.call hb3)
             have hc3 := hcf.out w3 hO3.out.1
             have a0 := hO3.out.b0.cell 0
             have b0 := hO3.out.b1.cell 0
             have b1 := hO3.out.b1.cell 1
             have b2 := hO3.out.b1.cell 2
             simp only [List.getElem?_toArray, List.getElem?_cons_zero, List.getElem?_cons_succ] at a0 b0 b1 b2)
          | (go_at_call 33; refine hc3.mono ?_; rintro e w4 ⟨rfl, hb4⟩
             have hO4 := Lib.hid (hO3.out.call hb4)
             obtain ⟨p0, p1, p2, p3, p4, p5⟩ := blkT hO4.out.b2))
        have hfin := Lib.hid (hnone.out 3 _ (by decide) (hE1.out.trans hE2.out) (Own.set3 hO4.out 2 0 1 2 (.slice none 0 0) (.slice none 0 0) (.slice none 0 0)))
        exact bodyPost_ret (v := .tuple #[.agg #[.slice none 0 0, .slice none 0 0, .slice none 0 0], .slice none 0 0, .int .i64 3]) (by simp [results, Try.results21, go_sem, p0, p1, p2]) rfl hfin.out
      · have hd : decide ((64 : Int) < (rn : Int)) = false := decide_eq_false (by omega)
        have hnb : ¬ 64 < rl.length := by omega
        have hrn64 : rn ≤ 64 := by omega
        go_enter Try.func21, Try.ntmps21
        go_upto_region 8 with (first
          | (go_at_call 10; refine hva.mono ?_; rintro e w3 ⟨rfl, hb3⟩
             have hO3 := Lib.hid (hO0.out.call hb3)
             have hc3 := hcf.out w3 hO3.out.1
             have a0 := hO3.out.b0.cell 0
             have b0 := hO3.out.b1.cell 0
             have b1 := hO3.out.b1.cell 1
             have b2 := hO3.out.b1.cell 2
             simp only [List.getElem?_toArray, List.getElem?_cons_zero, List.getElem?_cons_succ] at a0 b0 b1 b2)
          | (go_at_call 33; refine hc3.mono ?_; rintro e w4 ⟨rfl, hb4⟩
             have hO4 := Lib.hid (hO3.out.call hb4)))
        clear a0 b0 b1 b2 hc3 hO3 hb3 hb4 hO0 hcf hva
        go_wp2_with fail
        go_loopw [34] (fun v34 wr => RA w4 rn (fun j => ∀ s, rl[j]? = some s → ¬ 64 < s.n) v34 wr) (fun i _ => rn - (intOf i).toNat)
        case atStart => exact ⟨Below.refl _ _, 0, by omega, rfl, fun j hj => absurd hj (Nat.not_lt_zero _)⟩
        case round =>
          obtain ⟨hbr, k, hk, rfl, hP⟩ := hrel
          replace hP := Lib.hid hP
          have hOr := Lib.hid (hO4.out.call hbr)
          by_cases hlt : k < rn
          · obtain ⟨gr, ro, ⟨sA, sn, sc, sl⟩, hAr, hgr, hs, hsok, c0⟩ := (hr.out.below hOr.out.1 (Nat.le_refl _)).cell (j := k) hlt
            simp only at hAr hs c0
            subst hAr
            have hsn : sn ≤ 17592186044416 := Nat.le_trans hsok.2.2.1 (by decide)
            replace hs := Lib.hid hs
            by_cases hlong : 64 < sn
            · have hd2 : decide ((64 : Int) < (sn : Int)) = true := decide_eq_true (by omega)
              have hE2 : Hid (inErr rl = 3) := inErr_long hnb hs.out hlong
              obtain ⟨p0, p1, p2, p3, p4, p5⟩ := blkT hOr.out.b2
              go_wp2_with fail
              have hfin := Lib.hid (hnone.out 3 _ (by decide) (hE1.out.trans hE2.out) (Own.set3 hOr.out 2 0 1 2 (.slice none 0 0) (.slice none 0 0) (.slice none 0 0)))
              exact bodyPost_ret (v := .tuple #[.agg #[.slice none 0 0, .slice none 0 0, .slice none 0 0], .slice none 0 0, .int .i64 3]) (by simp [results, Try.results21, go_sem, p0, p1, p2]) rfl hfin.out
            · have hd2 : decide ((64 : Int) < (sn : Int)) = false := decide_eq_false (by omega)
              go_wp2_with fail
              go_roundw
              case rel => exact RA.next hbr hlt (by go_num) hP.out (fun s hs2 => by rw [hs.out] at hs2; cases hs2; exact hlong)
              case measure => simp [intOf]; omega
          · have hQ1 : Hid (∀ (j : Nat) (s : SL), rl[j]? = some s → ¬ 64 < s.n) := fun j s hs => hP.out j (by have := (List.getElem?_eq_some_iff.1 hs).1; omega) s hs
            obtain ⟨w5, hw5⟩ : ∃ w5, w5 = wr := ⟨_, rfl⟩
            subst hw5
            clear hO4 hbr hP
            have hO5 := hOr
            clear hOr
            go_wp2_with fail
            go_loopw [45] (fun v45 wr => RA w5 rn (fun j => ∀ s, rl[j]? = some s → s.names = true) v45 wr) (fun i _ => rn - (intOf i).toNat)
            case atStart => exact ⟨Below.refl _ _, 0, by omega, rfl, fun j hj => absurd hj (Nat.not_lt_zero _)⟩
            case round =>
              obtain ⟨hbr, k, hk, rfl, hP⟩ := hrel
              replace hP := Lib.hid hP
              have hOr := Lib.hid (hO5.out.call hbr)
              by_cases hlt : k < rn
              · obtain ⟨gr, ro, s, hAr, hgr, hs, hsok, c0⟩ := (hr.out.below hOr.out.1 (Nat.le_refl _)).cell (j := k) hlt
                have hnm := r_names s wr hsok
                obtain ⟨sA, sn, sc, sl⟩ := s
                simp only at hAr hs c0 hnm
                subst hAr
                replace hs := Lib.hid hs
                cases hb : SL.names ⟨sA, sn, sc, sl⟩ with
                | false =>
                  rw [hb] at hnm
                  have hE2 : Hid (inErr rl = 1) := inErr_names hnb hQ1.out hs.out hb
                  go_wp2_with (go_at_call 43; refine hnm.mono ?_; rintro e w6 ⟨rfl, hb6⟩; have hO6 := Lib.hid (hOr.out.call hb6); obtain ⟨p0, p1, p2, p3, p4, p5⟩ := blkT hO6.out.b2)
                  have hfin := Lib.hid (hnone.out 1 _ (by decide) (hE1.out.trans hE2.out) (Own.set3 hO6.out 2 0 1 2 (.slice none 0 0) (.slice none 0 0) (.slice none 0 0)))
                  exact bodyPost_ret (v := .tuple #[.agg #[.slice none 0 0, .slice none 0 0, .slice none 0 0], .slice none 0 0, .int .i64 1]) (by simp [results, Try.results21, go_sem, p0, p1, p2]) rfl hfin.out
                | true =>
                  rw [hb] at hnm
                  go_wp2_with (go_at_call 43; refine hnm.mono ?_; rintro e w6 ⟨rfl, hb6⟩; have hbd := Below.callB hbr hb6)
                  go_roundw
                  case rel => exact RA.next hbd hlt (by go_num) hP.out (fun s hs2 => by rw [hs.out] at hs2; cases hs2; exact hb)
                  case measure => simp [intOf]; omega
              · have hQ2 : ∀ (j : Nat) (s : SL), rl[j]? = some s → s.names = true := fun j s hs => hP.out j (by have := (List.getElem?_eq_some_iff.1 hs).1; omega) s hs
                have hI0 : Hid (inErr rl = 0) := inErr_fine hnb hQ1.out hQ2
                obtain ⟨w6, hw6⟩ : ∃ w6, w6 = wr := ⟨_, rfl⟩
                subst hw6
                clear hO5 hbr hP
                have hE0 : Hid (runErr ⟨A, n, cc, l⟩ ⟨⟨gA, n, gc, gl⟩, ⟨fA, n, fc, fl⟩, ⟨oA, on, oc, ol⟩⟩ ⟨rA, rn, rc, rl⟩ = 0) := hE1.out.trans hI0.out
                have hre : Hid (∀ W (m : GV) (i : SL), Below w.heap.size w W → m.ok W → i.ok W → m.st.n = n → m.fr.n = n → m.out.n ≤ 8796093021952 → i.n ≤ 64 → Calls Try.prog 38 #[.agg #[.slice A n cc], .agg #[.slice m.st.A m.st.n m.st.c, .slice m.fr.A m.fr.n m.fr.c, .slice m.out.A m.out.n m.out.c], .slice i.A i.n i.c] W (Reacts ⟨A, n, cc, l⟩ m (reacted ⟨A, n, cc, l⟩ m i) W)) := fun W m i hb h1 h2 h3 h4 h5 h6 => r_react ⟨A, n, cc, l⟩ m i W (hc.out.below hb (Nat.le_refl _)) h1 h2 hv.out h3 h4 h5 h6
                have hlm : (rl.map SL.l).length = rn := by rw [List.length_map]; exact hrl
                have hB3 : w.heap.size + 3 ≤ w6.heap.size := by have := hOr.out.2.1; simp only [List.length_cons, List.length_nil] at this; omega
                have hst : Hid (RunR w (.slice A n cc) w6.heap.size n l ⟨gl, fl, ol⟩ (rl.map SL.l) (.slice none 0 0) (.int .i64 0) w6) := ⟨0, ⟨⟨gA, n, gc, gl⟩, ⟨fA, n, fc, fl⟩, ⟨oA, on, oc, ol⟩⟩, [], none, 0, Nat.zero_le _, rfl, rfl, hOr.out, hg.out.below hOr.out.1 (Nat.le_refl _), rfl, rfl, rfl, hgo.out, ⟨hg.out.1.off (by omega), hg.out.2.1.off (by omega), hg.out.2.2.off (by omega)⟩, World.ownsRow_nil _ _ _ _, rfl, (fun s hs => by cases hs), (fun s hs => by cases hs), rfl, Nat.le_refl _⟩
                clear hOr hQ2
                go_wp2_with fail
                clear hlt hk
                go_loopw [14, 56] (fun v14 v56 wr => RunR w (.slice A n cc) w6.heap.size n l ⟨gl, fl, ol⟩ (rl.map SL.l) v14 v56 wr) (fun _ i _ => rn - (intOf i).toNat)
                case atStart => exact hst.out
                case round =>
                  clear hst
                  obtain ⟨k, ⟨⟨xA, xn, xc, xl⟩, ⟨yA, yn, yc, yl⟩, ⟨zA, zn, zc, zl⟩⟩, rows, qA, qc, hk, rfl, rfl, hO, hmok, hmcf, hxn, hyn, hzn, hGO, hrow, hrl2, hrows, hoff, hro, hsz⟩ := hrel
                  simp only at hO hmcf hxn hyn hzn
                  subst xn
                  subst yn
                  rw [hlm] at hk
                  have a0 := hO.b0.cell 0
                  have b0 := hO.b1.cell 0
                  have b1 := hO.b1.cell 1
                  have b2 := hO.b1.cell 2
                  simp only [List.getElem?_toArray, List.getElem?_cons_zero, List.getElem?_cons_succ] at a0 b0 b1 b2
                  by_cases hlt : k < rn
                  · obtain ⟨gr, ro, s, hAr, hgr, hs, hsok, c0⟩ := (hr.out.below hO.1 (Nat.le_refl _)).cell (j := k) hlt
                    simp only at hAr hs c0
                    subst hAr
                    have hs64 : s.n ≤ 64 := by have := hQ1.out k s hs; omega
                    have hcall := hre.out wr ⟨⟨xA, n, xc, xl⟩, ⟨yA, n, yc, yl⟩, ⟨zA, zn, zc, zl⟩⟩ s hO.1 hmok hsok rfl rfl hzn hs64
                    obtain ⟨sA, sn, sc, sl⟩ := s
                    simp only at hcall c0
                    have htk : (rl.map SL.l).take (k + 1) = (rl.map SL.l).take k ++ [sl] := by
                      rw [List.take_succ_eq_append_getElem (by omega)]
                      congr 2
                      have : (rl.map SL.l)[k]? = some sl := by rw [List.getElem?_map, hs]; rfl
                      rw [List.getElem?_eq_getElem (by omega)] at this
                      exact Option.some.inj this
                    have hin64 := hmok.1.2.2.2.1
                    (try simp only at hin64)
                    replace hO := Lib.hid hO
                    replace hrow := Lib.hid hrow
                    replace hrows := Lib.hid hrows
                    replace hoff := Lib.hid hoff
                    replace hs := Lib.hid hs
                    replace hmcf := Lib.hid hmcf
                    replace hro := Lib.hid hro
                    clear hmok hsok
                    go_upto_region 25 with (go_at_call 38; refine hcall.mono ?_; rintro e w7 ⟨⟨⟨uA, un, uc, ul⟩, ⟨vA, vn, vc, vl⟩, ⟨tA, tn, tc, tl⟩⟩, dA, dc, rfl, hok2, hnew2, q1, q2, q3, q4, q5, -, hb7⟩
                                            obtain ⟨x0, x1, x2, x3, x4, x5⟩ := blkT (hO.out.call hb7).b1)
                    (try simp only at q1 q2 q3 q4 q5)
                    subst un
                    subst vn
                    have hlt1 : w.heap.size + 1 < wr.heap.size := hO.out.b1.lt
                    have hO8 := (((hO.out.call hb7).set 1 rfl 0 (.slice uA n uc)).set 1 rfl 1 (.slice vA n vc)).set 1 rfl 2 (.slice tA tn tc)
                    have hm8 := GV.ok.set3 hok2 hnew2 hlt1 (.slice uA n uc) (.slice vA n vc) (.slice tA tn tc)
                    have hr8 := OR.far3 (OR.call hrow.out hb7) (show w.heap.size + 1 < w6.heap.size by omega) (.slice uA n uc) (.slice vA n vc) (.slice tA tn tc)
                    have hrs8 := fun s hs => (And.intro (((hrows.out s hs).1.below hb7 (Nat.le_refl _)).set3 (hrows.out s hs).2 (show w.heap.size + 1 < w6.heap.size by omega) (.slice uA n uc) (.slice vA n vc) (.slice tA tn tc)) (hrows.out s hs).2)
                    have hsz8 : wr.heap.size ≤ (((w7.setCell ⟨w.heap.size + 1, 0, none⟩ (.slice uA n uc)).setCell ⟨w.heap.size + 1, 1, none⟩ (.slice vA n vc)).setCell ⟨w.heap.size + 1, 2, none⟩ (.slice tA tn tc)).heap.size := by
                      have := hb7.size
                      simpa [World.setCell] using this
                    obtain ⟨w8, hw8⟩ : ∃ w8, w8 = ((w7.setCell ⟨w.heap.size + 1, 0, none⟩ (.slice uA n uc)).setCell ⟨w.heap.size + 1, 1, none⟩ (.slice vA n vc)).setCell ⟨w.heap.size + 1, 2, none⟩ (.slice tA tn tc) := ⟨_, rfl⟩
                    rw [← hw8] at hO8 hm8 hr8 hsz8 ⊢
                    (try simp only [← hw8] at hrs8)
                    clear hw8
                    have hcf8 : (⟨ul, vl, tl⟩ : CF) = CF.run l ⟨gl, fl, ol⟩ ((rl.map SL.l).take (k + 1)) := by
                      rw [htk, CF.run_snoc, ← hmcf.out]
                      show _ = CF.mk ((List.range l.length).map _) ((List.range l.length).map _) _
                      rw [hcl, q1, q2, q3]
                      rfl
                    have hto : tn ≤ 8796093021952 := by
                      have h1 := hok2.2.2.1
                      have h2 := outS_len hc.out hv.out ⟨xl, yl, zl⟩ sl hin64
                      have h3 : ((CF.step l ⟨xl, yl, zl⟩ sl).o).length = tl.length := by rw [q3]; rfl
                      simp only at h1 h2
                      omega
                    have b2 := hO8.b1.cell 2
                    have hgq : Hid (∀ q, (Value.slice qA k qc).ownBlock = some q → q < wr.heap.size) := fun q e => (OR.at hrow.out e).2
                    simp only [List.setIfInBounds_toArray, List.set_cons_zero, List.set_cons_succ, List.getElem?_toArray, List.getElem?_cons_zero, List.getElem?_cons_succ] at b2
                    replace hO8 := Lib.hid hO8
                    replace hr8 := Lib.hid (OR.more hr8 (.cells #[.slice tA tn tc] 27))
                    clear x0 x1 x2 x3 x4 x5 q1 q2 q3 hb7 hok2 hcall a0 b0 b1 c0
                    go_wp2_with (at_builtin; refine app_R1 rfl _ _ rfl w6.heap.size k (.slice qA k qc) rows rfl hr8.out (by omega) (by simp; omega) ⟨w8.heap.size, 0, none⟩ 1 ⟨tA, tn, tc, tl⟩ rfl (cell_one_new _ _ _) ?_; intro gS capS w9 hown9 hgr9 hat9)
                    obtain ⟨w10, hw10⟩ : ∃ w10, w10 = w8.alloc (.cells #[.slice tA tn tc] 27) := ⟨_, rfl⟩
                    rw [← hw10] at hgr9 hat9 hr8
                    have hbA : Below w8.heap.size w8 w10 := by rw [hw10]; exact (Below.refl _ _).alloc (Nat.le_refl _) _
                    have hfin := fun v hv => RunR.next (v := v) (w := w) (cv := .slice A n cc) (B := w6.heap.size) (n := n) (l := l) (x := ⟨gl, fl, ol⟩) (ins := rl.map SL.l) (k := k) (w8 := w10) (w9 := w9) (g := ⟨⟨uA, n, uc, ul⟩, ⟨vA, n, vc, vl⟩, ⟨tA, tn, tc, tl⟩⟩) (rows := rows) (qA := qA) (qc := qc) (gS := gS) (capS := capS)
                      (by omega) (hO8.out.call hbA) hB3 (hm8.below hbA (Nat.le_refl _)) hcf8 rfl rfl hto ⟨NwA.off (A := uA) hnew2.1 (by omega), NwA.off (A := vA) hnew2.2.1 (by omega), NwA.off (A := tA) hnew2.2.2 (by omega)⟩
                      hr8.out hrl2 (fun s hs => ⟨(hrs8 s hs).1.below hbA (Nat.le_refl _), (hrs8 s hs).2⟩) hoff.out hro.out (fun a e => Nat.le_trans hsz (hnew2.2.2 a e))
                      (fun q e => have hq := hgq.out q e; ⟨NwA.off (A := uA) hnew2.1 hq, NwA.off (A := vA) hnew2.2.1 hq, NwA.off (A := tA) hnew2.2.2 hq⟩)
                      hown9 hgr9 hat9 (by have := hbA.size; omega) hv
                    replace hfin := Lib.hid hfin
                    clear hown9 hgr9 hat9 hbA hr8 hO8 hm8 hrs8 hnew2 hw10 b2 hcf8
                    go_roundw
                    case rel => exact hfin.out _ (by go_num)
                    case measure => simp [intOf]; omega
                  · obtain rfl : k = rn := by omega
                    obtain ⟨p0, p1, p2, p3, p4, p5⟩ := blkT hO.b2
                    have htk : (rl.map SL.l).take k = rl.map SL.l := List.take_of_length_le (by omega)
                    rw [htk] at hmcf hro
                    have hR : RanR ⟨A, n, cc, l⟩ ⟨⟨gA, n, gc, gl⟩, ⟨fA, n, fc, fl⟩, ⟨oA, on, oc, ol⟩⟩ ⟨rA, k, rc, rl⟩ w (.returned (.tuple #[.agg #[.slice xA n xc, .slice yA n yc, .slice zA zn zc], .slice qA k qc, .int .i64 0])) (((wr.setCell ⟨w.heap.size + 2, 0, none⟩ (.slice xA n xc)).setCell ⟨w.heap.size + 2, 1, none⟩ (.slice yA n yc)).setCell ⟨w.heap.size + 2, 2, none⟩ (.slice zA zn zc)) := by
                      have hq : RL.ok wr ⟨qA, k, qc, rows⟩ := RL.row hrow hrl2 (fun s hs => (hrows s hs).1) (by omega)
                      have hqn : RL.new w6.heap.size ⟨qA, k, qc, rows⟩ := ⟨OR.newA hrow, fun s hs => (hrows s hs).2⟩
                      refine ⟨⟨⟨xA, n, xc, xl⟩, ⟨yA, n, yc, yl⟩, ⟨zA, zn, zc, zl⟩⟩, ⟨qA, k, qc, rows⟩, by rw [hE0.out], hmok.setOff3 hGO.1 hGO.2.1 hGO.2.2 _ _ _, hq.set3 hqn (by omega) _ _ _, ?_, ?_, Own.set3 hO 2 0 1 2 _ _ _⟩
                      · unfold runCf; rw [if_pos hE0.out]; exact hmcf
                      · unfold runOs; rw [if_pos hE0.out]; exact hro
                    replace hR := Lib.hid hR
                    clear hO hmok hmcf hrow hrl2 hrows hoff hro a0
                    go_wp2_with fail
                    exact bodyPost_ret (v := .tuple #[.agg #[.slice xA n xc, .slice yA n yc, .slice zA zn zc], .slice qA k qc, .int .i64 0]) (by simp [results, Try.results21, go_sem, p0, p1, p2]) rfl hR.out
  · rw [if_neg hV] at hK
    have hE1 := hE.out
    rw [hK, if_neg hV] at hE1
    replace hE1 := Lib.hid hE1
    have hVb : (V == 0) = false := by simpa using hV
    have hVc : (V != 0) = true := by simpa using hV
    clear hE hK hkc hcf
    go_enter Try.func21, Try.ntmps21
    go_wp2_with (go_at_call 10; refine hva.mono ?_; rintro e w3 ⟨rfl, hb3⟩; have hO3 := Lib.hid (hO0.out.call hb3); obtain ⟨p0, p1, p2, p3, p4, p5⟩ := blkT hO3.out.b2)
    have hfin := Lib.hid (hnone.out V _ hV hE1.out (Own.set3 hO3.out 2 0 1 2 (.slice none 0 0) (.slice none 0 0) (.slice none 0 0)))
    exact bodyPost_ret (v := .tuple #[.agg #[.slice none 0 0, .slice none 0 0, .slice none 0 0], .slice none 0 0, .int .i64 V]) (by simp [results, Try.results21, go_sem, p0, p1, p2]) rfl hfin.out

end Go.Proofs.Ytgjmbmlmopomgaa

/- The law ChartRuns. -/
namespace Go.Proofs.Ytgjmbmlmopomgaa
open Go.RowKit Go.Maps Lib
set_option linter.unusedSimpArgs false
set_option linter.unusedVariables false

set_option maxRecDepth 100000 in
set_option maxHeartbeats 8000000 in
theorem law23_ChartRuns (c : CV) (g : GV) (r : RL) (w : World) (hc : c.ok w) (hg : g.ok w) (hr : r.ok w) (hgo : g.out.n ≤ 8796093021952) :
    Calls Try.prog 5 #[.agg #[.slice c.A c.n c.c], .agg #[.slice g.st.A g.st.n g.st.c, .slice g.fr.A g.fr.n g.fr.c, .slice g.out.A g.out.n g.out.c], .slice r.A r.n r.c] w fun e w' => e = .returned (.bool true) ∧ Below w.heap.size w w' := by
  have hO0 := Own.two w 24 29 #[.slice c.A c.n c.c] #[.slice g.st.A g.st.n g.st.c, .slice g.fr.A g.fr.n g.fr.c, .slice g.out.A g.out.n g.out.c]
  have hm := m_Run c g r _ (hc.below hO0.1 (Nat.le_refl _)) (hg.below hO0.1 (Nat.le_refl _)) (hr.below hO0.1 (Nat.le_refl _))
  have hrr := fun W (hb : Below w.heap.size w W) => r_Run c g r W (hc.below hb (Nat.le_refl _)) (hg.below hb (Nat.le_refl _)) (hr.below hb (Nat.le_refl _)) hgo
  unfold Ran at hm
  unfold RanR at hrr
  generalize runErr c g r = E at hm hrr
  generalize runCf c g r = X1 at hm hrr
  generalize runOs c g r = X2 at hm hrr
  clear hc hg hr hgo
  obtain ⟨A, n, cc, l⟩ := c
  obtain ⟨⟨gA, gn, gc, gl⟩, ⟨fA, fn, fc, fl⟩, ⟨oA, on, oc, ol⟩⟩ := g
  obtain ⟨rA, rn, rc, rl⟩ := r
  simp only at hm hrr ⊢ hO0
  have hkn := Lib.hid l_known
  have hEe : (E == E) = true := by simp
  have hEV : (E != E) = false := by simp
  replace hO0 := Lib.hid hO0
  replace hrr := Lib.hid hrr
  go_enter Try.func5, Try.ntmps5
  go_upto_region 3 with (first
    | (go_at_call 20; refine hm.mono ?_; rintro e w3 ⟨⟨⟨aA, an, ac, al⟩, ⟨bA, bn, bc, bl⟩, ⟨dA, dn, dc, dl⟩⟩, ⟨LA, Ln, Lc, Ll⟩, rfl, hok3, -, hL3, -, hx3, ho3, hb3⟩
       have hb4 := (Below.refl w3.heap.size w3).alloc (Nat.le_refl _) (.cells #[.slice aA an ac, .slice bA bn bc, .slice dA dn dc] 29)
       have hO4 := Lib.hid ((hO0.out.call hb3).call hb4)
       have hrs4 := hrr.out _ hO4.out.1
       have a0 := hO4.out.b0.cell 0
       have b0 := hO4.out.b1.cell 0
       have b1 := hO4.out.b1.cell 1
       have b2 := hO4.out.b1.cell 2
       simp only [List.getElem?_toArray, List.getElem?_cons_zero, List.getElem?_cons_succ] at a0 b0 b1 b2
       obtain ⟨x0, x1, x2, x3, x4, x5⟩ := blkT (Blk.new w3 29 #[.slice none 0 0, .slice none 0 0, .slice none 0 0]))
    | (go_at_call 21; refine hrs4.mono ?_; rintro e w5 ⟨⟨⟨pA, pn, pc, pl⟩, ⟨qA, qn, qc, ql⟩, ⟨sA, sn, sc, sl⟩⟩, ⟨MA, Mn, Mc, Ml⟩, rfl, hok5, hL5, hx5, ho5, hb5⟩
       obtain ⟨y0, y1, y2, y3, y4, y5⟩ := blkT (Blk.new w5 29 #[.slice none 0 0, .slice none 0 0, .slice none 0 0])))
  have hb6 := (Below.refl w5.heap.size w5).alloc (Nat.le_refl _) (.cells #[.slice pA pn pc, .slice qA qn qc, .slice sA sn sc] 29)
  have hO6 := (hO4.out.call hb5).call hb6
  have hX6 := ((Blk.new w3 29 #[.slice aA an ac, .slice bA bn bc, .slice dA dn dc]).call hb5).call hb6
  have hY6 := Blk.new w5 29 #[.slice pA pn pc, .slice qA qn qc, .slice sA sn sc]
  have hok36 := ((hok3.below hb4 (Nat.le_refl _)).below hb5 (Nat.le_refl _)).below hb6 (Nat.le_refl _)
  have hok56 := hok5.below hb6 (Nat.le_refl _)
  have hL36 := ((hL3.below hb4 (Nat.le_refl _)).below hb5 (Nat.le_refl _)).below hb6 (Nat.le_refl _)
  have hL56 := hL5.below hb6 (Nat.le_refl _)
  obtain ⟨w6, hw6⟩ : ∃ w6, w6 = w5.alloc (.cells #[.slice pA pn pc, .slice qA qn qc, .slice sA sn sc] 29) := ⟨_, rfl⟩
  obtain ⟨gX, hgX⟩ : ∃ gX, gX = w3.heap.size := ⟨_, rfl⟩
  obtain ⟨gY, hgY⟩ : ∃ gY, gY = w5.heap.size := ⟨_, rfl⟩
  rw [← hw6] at hO6 hX6 hY6 hok36 hok56 hL36 hL56 ⊢
  rw [← hgX] at hX6 ⊢
  rw [← hgY] at hY6 ⊢
  clear hw6 hgX hgY hb3 hb4 hb5 hb6 hok3 hok5 hL3 hL5 hrs4 a0 b0 b1 b2 x0 x1 x2 x3 x4 x5 y0 y1 y2 y3 y4 y5
  have hcf := l_cfg _ _ w6 hok36 hok56 (hx3.trans hx5.symm)
  simp only at hcf
  have hro := fun W (hb : Below w6.heap.size w6 W) => l_rows ⟨LA, Ln, Lc, Ll⟩ ⟨MA, Mn, Mc, Ml⟩ W (hL36.below hb (Nat.le_refl _)) (hL56.below hb (Nat.le_refl _)) (ho3.trans ho5.symm)
  simp only at hro
  obtain ⟨x0, x1, x2, -, -, -⟩ := blkT hX6
  obtain ⟨y0, y1, y2, -, -, -⟩ := blkT hY6
  replace hO6 := Lib.hid hO6
  replace hro := Lib.hid hro
  clear hX6 hY6 hok36 hok56 hL36 hL56 hx3 hx5 ho3 ho5
  go_wp2_with (first
    | (go_at_call 11; refine hcf.mono ?_; rintro e w7 ⟨rfl, hb7⟩; have hro7 := hro.out w7 hb7)
    | (go_at_call 22; refine hro7.mono ?_; rintro e w8 ⟨rfl, hb8⟩)
    | (go_at_call 17; refine (hkn.out _).mono ?_; rintro e w9 ⟨rfl, hb9⟩))
  go_ret
  exact ⟨rfl, (((hO6.out.call hb7).call hb8).call hb9).1⟩

end Go.Proofs.Ytgjmbmlmopomgaa

/- ChartRuns holds for every input. No condition. -/
namespace Go.Proofs.Ytgjmbmlmopomgaa.chartRuns
open Go.ChangeShapes Go.WideShapes Go.ChangeAt Go.RowKit Go.Proofs.Ytgjmbmlmopomgaa.opens
set_option linter.unusedSimpArgs false
set_option linter.unusedVariables false

set_option maxRecDepth 100000 in
theorem lifted (os : Os) (started : os.Started) (H : Type) (enc : TypeId × Value → H) :
    ReturnsInHanded {} Try.checked os 5 .any (Rows.chartRunsSpec.pre6 enc Try.prog Try.f5 Rows.chartRunsRow.domain false) (Rows.chartRunsSpec.post enc Try.prog Try.f5 false true false false) := by
  refine returnsInHanded_of_change_sized (C := Try.checked) own started (by kernel_rfl) Try.func5
    (ChangeSpec.witness6 (enc := enc) (C := Try.checked) false ⟨#[], #[.agg #[.slice none 0 0], .agg #[.slice none 0 0, .slice none 0 0, .slice none 0 0], .slice none 0 0], []⟩ 8 (by kernel_rfl) (by kernel_rfl) (by kernel_rfl) (by kernel_rfl)) ?_
  intro W base args ds gs before hval0 hW _ hsz0 _
  have hsz : (DataW.weightsEach Try.prog (Try.f5.params.toList ++ Rows.chartRunsSpec.plain.varTypes Try.prog) (ds ++ gs)).all (· ≤ reachBytes) = true := hsz0
  clear hsz0
  have hval : ∀ (j : Nat) t v, Try.f5.params[j]? = some t → args[j]? = some v → Value.okWide Try.prog W .any base t v := hval0
  have hW' := hW
  obtain ⟨p, q, hA0, hV, rfl, hfz, hnd⟩ := hW
  have hA : DataW.TrodAll enc Try.prog W 0 (fun _ => true) true Try.f5.params.toList args.toList ds p := hA0
  rw [Try.params5] at hA hval hsz
  obtain ⟨v0, vs0, d0, ds0, p0, q0, hargs, rfl, rfl, h0, r0⟩ := trodAll_cons hA
  obtain ⟨v1, vs1, d1, ds1, p1, q1, rfl, rfl, rfl, h1, r1⟩ := trodAll_cons r0
  obtain ⟨v2, vs2, d2, ds2, p2, q2, rfl, rfl, rfl, h2, r2⟩ := trodAll_cons r1
  obtain ⟨rfl, rfl, rfl⟩ := trodAll_nil r2
  obtain rfl : args = #[v0, v1, v2] := by cases args; simp_all
  obtain ⟨rfl, rfl⟩ := trodVars_none hV
  obtain ⟨cs0, rfl, -⟩ := okWide_struct Try.underlying24 (hval 0 24 v0 rfl rfl)
  obtain ⟨cs1, rfl, -⟩ := okWide_struct Try.underlying29 (hval 1 29 v1 rfl rfl)
  obtain ⟨a2, len2, cap2, rfl⟩ := okWide_slice Try.underlying54 (hval 2 54 v2 rfl rfl)
  have k0 := h0
  have k1 := h1
  have k2 := h2
  have lt0 : ∀ x ∈ p0, x.block < W.heap.size := by obtain ⟨m, hm⟩ := k0; exact DataW.trod_lt m _ _ _ hm
  have lt1 : ∀ x ∈ p1, x.block < W.heap.size := by obtain ⟨m, hm⟩ := k1; exact DataW.trod_lt m _ _ _ hm
  have lt2 : ∀ x ∈ p2, x.block < W.heap.size := by obtain ⟨m, hm⟩ := k2; exact DataW.trod_lt m _ _ _ hm
  obtain ⟨f0, g0⟩ := h0
  obtain ⟨f1, g1⟩ := h1
  obtain ⟨f2, g2⟩ := h2
  obtain ⟨A0, e0, o0⟩ := chart_of g0 (sz_of hsz (j := 0) rfl rfl)
  have e0' : cs0 = #[.slice A0.A A0.n A0.c] := by
    have h : cs0.toList = [.slice A0.A A0.n A0.c] := e0
    rw [← Array.toArray_toList (xs := cs0), h]
  subst e0'
  obtain ⟨A1, e1, o1, b1⟩ := conf_of g1 (sz_of hsz (j := 1) rfl rfl)
  have e1' : cs1 = #[.slice A1.st.A A1.st.n A1.st.c, .slice A1.fr.A A1.fr.n A1.fr.c, .slice A1.out.A A1.out.n A1.out.c] := by
    have h : cs1.toList = [.slice A1.st.A A1.st.n A1.st.c, .slice A1.fr.A A1.fr.n A1.fr.c, .slice A1.out.A A1.out.n A1.out.c] := e1
    rw [← Array.toArray_toList (xs := cs1), h]
  subst e1'
  obtain ⟨A2, e2, o2⟩ := rl_of g2 (sz_of hsz (j := 2) rfl rfl)
  rw [e2] at k2
  rw [e2] at hW'
  rw [e2]
  clear hA0 hval0
  refine (law23_ChartRuns A0 A1 A2 W o0 o1 o2 b1).mono fun e W' ⟨he, bel⟩ => ?_
  subst he
  exact ⟨_, rfl, _, _, _, [], _, [], hW', trodAll_mk1 (shut_bool Try.underlying4 _), (trodAll_cons_mk (Below.trod laidOut (by kernel_rfl) (of_decide_eq_true (by kernel_rfl)) k0 bel lt0) (trodAll_cons_mk (Below.trod laidOut (by kernel_rfl) (of_decide_eq_true (by kernel_rfl)) k1 bel lt1) (trodAll_cons_mk (Below.trod laidOut (by kernel_rfl) (of_decide_eq_true (by kernel_rfl)) k2 bel lt2) trodAll_mk0))), rfl, bel.frame _, fun h => by cases h⟩

theorem over : Rows.chartRunsRow.holds Try.pinned (OpenSpec.ofChange Rows.chartRunsSpec) :=
  OpenClaim.holds_of_wide 5 Try.f5 rfl rfl rfl rfl rfl rfl rfl ⟨rfl, rfl, rfl, rfl, rfl⟩ rfl rfl rfl rfl rfl (by kernel_rfl) Try.func5 (by kernel_rfl)
    (of_decide_eq_true (by kernel_rfl)) (by unfold Func.isWrapper; first | (rw [if_pos (by decide +kernel)]; kernel_rfl) | (rw [if_neg (by decide +kernel)]; exact ⟨rfl, rfl⟩))
    (fun os started H enc _ => lifted os started H enc)

end Go.Proofs.Ytgjmbmlmopomgaa.chartRuns
namespace Go.Proofs.Ytgjmbmlmopomgaa

/-- the statement -/
theorem chartRuns_holds : Rows.ChartRunsSaid := chartRuns.over

#print axioms chartRuns_holds

end Go.Proofs.Ytgjmbmlmopomgaa
