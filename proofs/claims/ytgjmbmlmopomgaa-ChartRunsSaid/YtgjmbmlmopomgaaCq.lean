/- The first configuration. -/
import Derived.Test.YtgjmbmlmopomgaaCr
import Derived.Test.YtgjmbmlmopomgaaBb
namespace Go.Proofs.Ytgjmbmlmopomgaa
open Go.RowKit Go.Maps
set_option linter.unusedSimpArgs false
set_option linter.unusedVariables false

/-- the configuration as far as machine i -/
def ST (w : World) (A : Option Addr) (n cc : Nat) (l : List McV) (i : Nat) (wr : World) : Prop :=
  ∃ vS vF, Own w [(24, #[.slice A n cc]), (29, #[.slice none 0 0, .slice none 0 0, .slice none 0 0]), (29, #[vS, vF, .slice none 0 0])] wr ∧
    wr.ownsRow (w.heap.size + 3) 3 1 vS i (vz ((l.take i).map McV.fst)) ∧ wr.ownsRow (w.heap.size + 3) 4 1 vF i (vB (List.replicate i true))
theorem ST.start {w w1 : World} {A : Option Addr} {n cc : Nat} {l : List McV} (h : Own w [(24, #[.slice A n cc]), (29, #[.slice none 0 0, .slice none 0 0, .slice none 0 0]), (29, #[.slice none 0 0, .slice none 0 0, .slice none 0 0])] w1) : ST w A n cc l 0 w1 :=
  ⟨_, _, h, World.ownsRow_nil _ _ _ _, World.ownsRow_nil _ _ _ _⟩

set_option maxRecDepth 100000 in
set_option maxHeartbeats 4000000 in
theorem m_start (c : CV) (w : World) (hc : c.ok w) (h6 : c.n ≤ 6) (hf : ∀ m ∈ c.l, In64 m.fst) :
    Calls Try.prog 24 #[.agg #[.slice c.A c.n c.c]] w fun e w' => ∃ g : GV, e = .returned (.agg #[.slice g.st.A g.st.n g.st.c, .slice g.fr.A g.fr.n g.fr.c, .slice none 0 0]) ∧ g.ok w' ∧ g.new w.heap.size ∧ g.st.l = c.l.map McV.fst ∧ g.fr.l = List.replicate c.n true ∧ g.out = ⟨none, 0, 0, []⟩ ∧ Below w.heap.size w w' := by
  obtain ⟨A, n, cc, l⟩ := c
  have hl := hc.1
  simp only at h6 hf
  have hn : n ≤ 17592186044416 := by omega
  replace hf := Lib.hid hf
  have hO3 := Own.three w 24 29 29 #[.slice A n cc] #[.slice none 0 0, .slice none 0 0, .slice none 0 0] #[.slice none 0 0, .slice none 0 0, .slice none 0 0]
  have a0 := hO3.b0.cell 0
  replace hc := Lib.hid hc
  replace hO3 := Lib.hid hO3
  obtain ⟨i0, hi0, hz0, hz1, hz2⟩ := infoI_parts
  obtain ⟨j0, hj0, yz0, yz1, yz2⟩ := infoB_parts
  simp only [List.getElem?_toArray, List.getElem?_cons_zero] at a0
  simp only at hl ⊢
  go_enter Try.func24, Try.ntmps24
  go_wp2_with fail
  go_loopw [9] (fun v9 wr => ∃ i : Nat, i ≤ n ∧ v9 = .int .i64 i ∧ ST w A n cc l i wr) (fun i _ => n - (intOf i).toNat)
  case atStart => exact ⟨0, by omega, rfl, ST.start hO3.out⟩
  case round =>
    clear hO3 a0
    obtain ⟨i, hi, rfl, hS⟩ := hrel
    obtain ⟨vS, vF, hO, hrS, hrF⟩ := hS
    by_cases hlt : i < n
    · obtain ⟨g, o, m, hA, hg, hm, hmo, c0, c1, c2, c3, c4⟩ := (hc.out.below hO.1 (Nat.le_refl _)).cell hlt
      obtain ⟨om, os, ⟨tA, tn, tc, tl⟩, fst, ⟨mA, mn, mc, ml⟩⟩ := m
      simp only at hA c0 c1 c2 c3 c4 hm
      subst hA
      have hfst := Lib.hid (hf.out _ (List.mem_of_getElem? hm))
      clear hmo
      replace hm := Lib.hid hm
      have hO4 := Lib.hid (hO.more (.cells #[.int .i64 om, .int .i64 os, .slice tA tn tc, .int .i64 fst, .slice mA mn mc] 50))
      have hO5 := Lib.hid (hO4.out.more (.cells #[.int .i64 fst] 3))
      have hrS5 := Lib.hid (OR.more (OR.more hrS (.cells #[.int .i64 om, .int .i64 os, .slice tA tn tc, .int .i64 fst, .slice mA mn mc] 50)) (.cells #[.int .i64 fst] 3))
      have hrF5 := Lib.hid (OR.more (OR.more hrF (.cells #[.int .i64 om, .int .i64 os, .slice tA tn tc, .int .i64 fst, .slice mA mn mc] 50)) (.cells #[.int .i64 fst] 3))
      have a0 := hO.b2.cell 0
      have a1 := hO.b2.cell 1
      have b0 := hO4.out.b2.cell 0
      have hsz := Lib.hid hO.2.1
      simp only [List.length_cons, List.length_nil] at hsz
      simp only [List.getElem?_toArray, List.getElem?_cons_zero, List.getElem?_cons_succ] at a0 a1 b0
      replace hO := Lib.hid hO
      replace hrS := Lib.hid hrS
      replace hrF := Lib.hid hrF
      go_upto_region 5 with fail
      go_wp2_with (first
        | (at_builtin; refine wpList_append_lies _ rfl _ _ 25 rfl (w.heap.size + 3) 3 i0 (.int .i64 0) 1 8 Try.underlying25 hi0 hz0 hz1 hz2 rfl (by decide) vS i (vz ((l.take i).map McV.fst)) rfl hrS5.out ⟨wr.heap.size + 1, 0, none⟩ 1 1 [.int .i64 fst] rfl rfl (cell_one_new2 _ _ _ _) (by intro u hu; simp at hu; subst hu; rfl) (by omega) (by unfold maxLen; omega) (by omega) (by have := hsz.out; simp; omega) _ rfl ?_; intro gS capS w6 hown6 hgr6 hat6 hlt6
           have hO6 := Lib.hid (Own.grown hO5.out hrS5.out hgr6 (by simp))
           have hrF6 := Lib.hid (OR.kept hrF5.out hgr6 (fun g hg => OR.apart hrF5.out hrS5.out (by decide) hg))
           have b0 := hO6.out.b2.cell 0
           have b1 := hO6.out.b2.cell 1
           have f0 := hO6.out.b2.frozen 0
           have hsz6 := Lib.hid hO6.out.2.1
           simp only [List.length_cons, List.length_nil] at hsz6
           simp only [List.getElem?_toArray, List.getElem?_cons_zero, List.getElem?_cons_succ] at b0 b1
           have hO7 : Hid (Own w [(24, #[.slice (some ⟨g, o, none⟩) n cc]), (29, #[.slice none 0 0, .slice none 0 0, .slice none 0 0]), (29, #[.slice (some ⟨gS, 0, none⟩) (i + 1) capS, vF, .slice none 0 0])] (w6.setCell ⟨w.heap.size + 1 + 1, 0, none⟩ (.slice (some ⟨gS, 0, none⟩) (i + 1) capS))) := Own.set hO6.out 2 rfl 0 _
           have hO8 := Lib.hid (hO7.out.more (.cells #[.bool true] 4))
           have hrS8 := Lib.hid (OR.more (OR.far hown6 (show w.heap.size + 1 + 1 < w.heap.size + 3 by omega) 0 (.slice (some ⟨gS, 0, none⟩) (i + 1) capS)) (.cells #[.bool true] 4))
           have hrF8 := Lib.hid (OR.more (OR.far hrF6.out (show w.heap.size + 1 + 1 < w.heap.size + 3 by omega) 0 (.slice (some ⟨gS, 0, none⟩) (i + 1) capS)) (.cells #[.bool true] 4))
           clear hown6 hgr6 hat6 hlt6)
        | (at_builtin; refine wpList_append_lies _ rfl _ _ 26 rfl (w.heap.size + 3) 4 j0 (.bool false) 1 1 Try.underlying26 hj0 yz0 yz1 yz2 rfl (by decide) vF i (vB (List.replicate i true)) rfl hrF8.out ⟨w6.heap.size, 0, none⟩ 1 1 [.bool true] rfl rfl (cell_one_newS _ _ _ _ _) (by intro u hu; simp at hu; subst hu; rfl) (by omega) (by unfold maxLen; omega) (by omega) (by have := hsz6.out; simp [World.setCell]; omega) _ rfl ?_; intro gF capF w9 hown9 hgr9 hat9 hlt9
           have hO9 := Lib.hid (Own.grown hO8.out hrF8.out hgr9 (by simp))
           have hrS9 := Lib.hid (OR.kept hrS8.out hgr9 (fun g hg => OR.apart hrS8.out hrF8.out (by decide) hg))
           have d1 := hO9.out.b2.cell 1
           have d1f := hO9.out.b2.frozen 1
           simp only [List.getElem?_toArray, List.getElem?_cons_zero, List.getElem?_cons_succ] at d1))
      have hO10 : Hid (Own w [(24, #[.slice (some ⟨g, o, none⟩) n cc]), (29, #[.slice none 0 0, .slice none 0 0, .slice none 0 0]), (29, #[.slice (some ⟨gS, 0, none⟩) (i + 1) capS, .slice (some ⟨gF, 0, none⟩) (i + 1) capF, .slice none 0 0])] (w9.setCell ⟨w.heap.size + 1 + 1, 1, none⟩ (.slice (some ⟨gF, 0, none⟩) (i + 1) capF))) := Own.set hO9.out 2 rfl 1 _
      have hrS10 := Lib.hid (OR.far hrS9.out (show w.heap.size + 1 + 1 < w.heap.size + 3 by omega) 1 (.slice (some ⟨gF, 0, none⟩) (i + 1) capF))
      have hrF10 := Lib.hid (OR.far hown9 (show w.heap.size + 1 + 1 < w.heap.size + 3 by omega) 1 (.slice (some ⟨gF, 0, none⟩) (i + 1) capF))
      have e1 : Hid (vz ((l.take i).map McV.fst) ++ [Value.int .i64 fst] = vz ((l.take (i + 1)).map McV.fst)) := by
        show _ = _
        rw [List.take_add_one, hm.out, List.map_append, ← vz_snoc]; rfl
      have e2 : Hid (vB (List.replicate i true) ++ [Value.bool true] = vB (List.replicate (i + 1) true)) := by
        show _ = _
        rw [← vB_snoc, List.replicate_succ']
      clear hown9 hgr9 hat9 hlt9
      go_roundw
      case rel => exact ⟨i + 1, hlt, by go_num, _, _, hO10.out, e1.out ▸ hrS10.out, e2.out ▸ hrF10.out⟩
      case measure => simp [intOf]; omega
    · obtain rfl : i = n := by omega
      have e1 : Hid (l.take i = l) := List.take_of_length_le (by omega)
      rw [e1.out] at hrS
      obtain ⟨sA, sc, rfl, hsok⟩ := NL.of_row hrS (by simp [hl]) (fun x hx => by obtain ⟨m, hm, rfl⟩ := List.mem_map.1 hx; exact hf.out m hm) hn
      obtain ⟨fA, fc, rfl, hfok⟩ := BL.of_row hrF (by simp) hn
      have a0 := hO.b2.cell 0
      have a1 := hO.b2.cell 1
      have a2 := hO.b2.cell 2
      have b0 := hO.b1.cell 0
      have b1 := hO.b1.cell 1
      have b2 := hO.b1.cell 2
      have b3 := hO.b1.frozen 0
      have b4 := hO.b1.frozen 1
      have b5 := hO.b1.frozen 2
      have hblk := Lib.hid hO.b1
      simp only [List.getElem?_toArray, List.getElem?_cons_zero, List.getElem?_cons_succ] at a0 a1 a2 b0 b1 b2
      have hok : Hid (GV.ok (((wr.setCell ⟨w.heap.size + 1, 0, none⟩ (.slice sA i sc)).setCell ⟨w.heap.size + 1, 1, none⟩ (.slice fA i fc)).setCell ⟨w.heap.size + 1, 2, none⟩ (.slice none 0 0)) ⟨⟨sA, i, sc, l.map McV.fst⟩, ⟨fA, i, fc, List.replicate i true⟩, ⟨none, 0, 0, []⟩⟩) := by
        have q := show w.heap.size + 1 < w.heap.size + 3 by omega
        exact ⟨NL.row (OR.far (OR.far (OR.far hrS q _ _) q _ _) q _ _) (by simp [hl]) (fun x hx => by obtain ⟨m, hm, rfl⟩ := List.mem_map.1 hx; exact hf.out m hm) hn, BL.row (OR.far (OR.far (OR.far hrF q _ _) q _ _) q _ _) (by simp) hn, SL.none _⟩
      have hnew : Hid (GV.new w.heap.size ⟨⟨sA, i, sc, l.map McV.fst⟩, ⟨fA, i, fc, List.replicate i true⟩, ⟨none, 0, 0, []⟩⟩) := ⟨fun a ha => by have := (OR.at hrS (g := a.block) (by rw [show sA = some a from ha]; rfl)).1; omega, fun a ha => by have := (OR.at hrF (g := a.block) (by rw [show fA = some a from ha]; rfl)).1; omega, fun a ha => by cases ha⟩
      have hbw := Lib.hid (Own.set3 hO 1 0 1 2 (.slice sA i sc) (.slice fA i fc) (.slice none 0 0))
      clear hsok hfok hrS hrF hO
      go_wp2_with fail
      exact bodyPost_ret (v := .agg #[.slice sA i sc, .slice fA i fc, .slice none 0 0]) (by simp [results, Try.results24, go_sem, b0, b1, b2]) rfl ⟨⟨⟨sA, i, sc, l.map McV.fst⟩, ⟨fA, i, fc, List.replicate i true⟩, ⟨none, 0, 0, []⟩⟩, rfl, hok.out, hnew.out, rfl, rfl, rfl, hbw.out⟩

set_option maxRecDepth 100000 in
set_option maxHeartbeats 4000000 in
theorem r_begun (c : CV) (w : World) (hc : c.ok w) (h6 : c.n ≤ 6) (hf : ∀ m ∈ c.l, In64 m.fst) :
    Calls Try.prog 25 #[.agg #[.slice c.A c.n c.c]] w fun e w' => ∃ g : GV, e = .returned (.agg #[.slice g.st.A g.st.n g.st.c, .slice g.fr.A g.fr.n g.fr.c, .slice none 0 0]) ∧ g.ok w' ∧ g.new w.heap.size ∧ g.st.l = c.l.map McV.fst ∧ g.fr.l = List.replicate c.n true ∧ g.out = ⟨none, 0, 0, []⟩ ∧ Below w.heap.size w w' := by
  obtain ⟨A, n, cc, l⟩ := c
  have hl := hc.1
  simp only at h6 hf
  have hn : n ≤ 17592186044416 := by omega
  replace hf := Lib.hid hf
  have hO3 := Own.three w 24 29 29 #[.slice A n cc] #[.slice none 0 0, .slice none 0 0, .slice none 0 0] #[.slice none 0 0, .slice none 0 0, .slice none 0 0]
  have a0 := hO3.b0.cell 0
  replace hc := Lib.hid hc
  replace hO3 := Lib.hid hO3
  obtain ⟨i0, hi0, hz0, hz1, hz2⟩ := infoI_parts
  obtain ⟨j0, hj0, yz0, yz1, yz2⟩ := infoB_parts
  simp only [List.getElem?_toArray, List.getElem?_cons_zero] at a0
  simp only at hl ⊢
  go_enter Try.func25, Try.ntmps25
  go_wp2_with fail
  go_loopw [9] (fun v9 wr => ∃ i : Nat, i ≤ n ∧ v9 = .int .i64 i ∧ ST w A n cc l i wr) (fun i _ => n - (intOf i).toNat)
  case atStart => exact ⟨0, by omega, rfl, ST.start hO3.out⟩
  case round =>
    clear hO3 a0
    obtain ⟨i, hi, rfl, hS⟩ := hrel
    obtain ⟨vS, vF, hO, hrS, hrF⟩ := hS
    by_cases hlt : i < n
    · obtain ⟨g, o, m, hA, hg, hm, hmo, c0, c1, c2, c3, c4⟩ := (hc.out.below hO.1 (Nat.le_refl _)).cell hlt
      obtain ⟨om, os, ⟨tA, tn, tc, tl⟩, fst, ⟨mA, mn, mc, ml⟩⟩ := m
      simp only at hA c0 c1 c2 c3 c4 hm
      subst hA
      have hfst := Lib.hid (hf.out _ (List.mem_of_getElem? hm))
      clear hmo
      replace hm := Lib.hid hm
      have hO4 := Lib.hid (hO.more (.cells #[.int .i64 om, .int .i64 os, .slice tA tn tc, .int .i64 fst, .slice mA mn mc] 50))
      have hO5 := Lib.hid (hO4.out.more (.cells #[.int .i64 fst] 3))
      have hrS5 := Lib.hid (OR.more (OR.more hrS (.cells #[.int .i64 om, .int .i64 os, .slice tA tn tc, .int .i64 fst, .slice mA mn mc] 50)) (.cells #[.int .i64 fst] 3))
      have hrF5 := Lib.hid (OR.more (OR.more hrF (.cells #[.int .i64 om, .int .i64 os, .slice tA tn tc, .int .i64 fst, .slice mA mn mc] 50)) (.cells #[.int .i64 fst] 3))
      have a0 := hO.b2.cell 0
      have a1 := hO.b2.cell 1
      have b0 := hO4.out.b2.cell 0
      have hsz := Lib.hid hO.2.1
      simp only [List.length_cons, List.length_nil] at hsz
      simp only [List.getElem?_toArray, List.getElem?_cons_zero, List.getElem?_cons_succ] at a0 a1 b0
      replace hO := Lib.hid hO
      replace hrS := Lib.hid hrS
      replace hrF := Lib.hid hrF
      go_upto_region 5 with fail
      go_wp2_with (first
        | (at_builtin; refine wpList_append_lies _ rfl _ _ 25 rfl (w.heap.size + 3) 3 i0 (.int .i64 0) 1 8 Try.underlying25 hi0 hz0 hz1 hz2 rfl (by decide) vS i (vz ((l.take i).map McV.fst)) rfl hrS5.out ⟨wr.heap.size + 1, 0, none⟩ 1 1 [.int .i64 fst] rfl rfl (cell_one_new2 _ _ _ _) (by intro u hu; simp at hu; subst hu; rfl) (by omega) (by unfold maxLen; omega) (by omega) (by have := hsz.out; simp; omega) _ rfl ?_; intro gS capS w6 hown6 hgr6 hat6 hlt6
           have hO6 := Lib.hid (Own.grown hO5.out hrS5.out hgr6 (by simp))
           have hrF6 := Lib.hid (OR.kept hrF5.out hgr6 (fun g hg => OR.apart hrF5.out hrS5.out (by decide) hg))
           have b0 := hO6.out.b2.cell 0
           have b1 := hO6.out.b2.cell 1
           have f0 := hO6.out.b2.frozen 0
           have hsz6 := Lib.hid hO6.out.2.1
           simp only [List.length_cons, List.length_nil] at hsz6
           simp only [List.getElem?_toArray, List.getElem?_cons_zero, List.getElem?_cons_succ] at b0 b1
           have hO7 : Hid (Own w [(24, #[.slice (some ⟨g, o, none⟩) n cc]), (29, #[.slice none 0 0, .slice none 0 0, .slice none 0 0]), (29, #[.slice (some ⟨gS, 0, none⟩) (i + 1) capS, vF, .slice none 0 0])] (w6.setCell ⟨w.heap.size + 1 + 1, 0, none⟩ (.slice (some ⟨gS, 0, none⟩) (i + 1) capS))) := Own.set hO6.out 2 rfl 0 _
           have hO8 := Lib.hid (hO7.out.more (.cells #[.bool true] 4))
           have hrS8 := Lib.hid (OR.more (OR.far hown6 (show w.heap.size + 1 + 1 < w.heap.size + 3 by omega) 0 (.slice (some ⟨gS, 0, none⟩) (i + 1) capS)) (.cells #[.bool true] 4))
           have hrF8 := Lib.hid (OR.more (OR.far hrF6.out (show w.heap.size + 1 + 1 < w.heap.size + 3 by omega) 0 (.slice (some ⟨gS, 0, none⟩) (i + 1) capS)) (.cells #[.bool true] 4))
           clear hown6 hgr6 hat6 hlt6)
        | (at_builtin; refine wpList_append_lies _ rfl _ _ 26 rfl (w.heap.size + 3) 4 j0 (.bool false) 1 1 Try.underlying26 hj0 yz0 yz1 yz2 rfl (by decide) vF i (vB (List.replicate i true)) rfl hrF8.out ⟨w6.heap.size, 0, none⟩ 1 1 [.bool true] rfl rfl (cell_one_newS _ _ _ _ _) (by intro u hu; simp at hu; subst hu; rfl) (by omega) (by unfold maxLen; omega) (by omega) (by have := hsz6.out; simp [World.setCell]; omega) _ rfl ?_; intro gF capF w9 hown9 hgr9 hat9 hlt9
           have hO9 := Lib.hid (Own.grown hO8.out hrF8.out hgr9 (by simp))
           have hrS9 := Lib.hid (OR.kept hrS8.out hgr9 (fun g hg => OR.apart hrS8.out hrF8.out (by decide) hg))
           have d1 := hO9.out.b2.cell 1
           have d1f := hO9.out.b2.frozen 1
           simp only [List.getElem?_toArray, List.getElem?_cons_zero, List.getElem?_cons_succ] at d1))
      have hO10 : Hid (Own w [(24, #[.slice (some ⟨g, o, none⟩) n cc]), (29, #[.slice none 0 0, .slice none 0 0, .slice none 0 0]), (29, #[.slice (some ⟨gS, 0, none⟩) (i + 1) capS, .slice (some ⟨gF, 0, none⟩) (i + 1) capF, .slice none 0 0])] (w9.setCell ⟨w.heap.size + 1 + 1, 1, none⟩ (.slice (some ⟨gF, 0, none⟩) (i + 1) capF))) := Own.set hO9.out 2 rfl 1 _
      have hrS10 := Lib.hid (OR.far hrS9.out (show w.heap.size + 1 + 1 < w.heap.size + 3 by omega) 1 (.slice (some ⟨gF, 0, none⟩) (i + 1) capF))
      have hrF10 := Lib.hid (OR.far hown9 (show w.heap.size + 1 + 1 < w.heap.size + 3 by omega) 1 (.slice (some ⟨gF, 0, none⟩) (i + 1) capF))
      have e1 : Hid (vz ((l.take i).map McV.fst) ++ [Value.int .i64 fst] = vz ((l.take (i + 1)).map McV.fst)) := by
        show _ = _
        rw [List.take_add_one, hm.out, List.map_append, ← vz_snoc]; rfl
      have e2 : Hid (vB (List.replicate i true) ++ [Value.bool true] = vB (List.replicate (i + 1) true)) := by
        show _ = _
        rw [← vB_snoc, List.replicate_succ']
      clear hown9 hgr9 hat9 hlt9
      go_roundw
      case rel => exact ⟨i + 1, hlt, by go_num, _, _, hO10.out, e1.out ▸ hrS10.out, e2.out ▸ hrF10.out⟩
      case measure => simp [intOf]; omega
    · obtain rfl : i = n := by omega
      have e1 : Hid (l.take i = l) := List.take_of_length_le (by omega)
      rw [e1.out] at hrS
      obtain ⟨sA, sc, rfl, hsok⟩ := NL.of_row hrS (by simp [hl]) (fun x hx => by obtain ⟨m, hm, rfl⟩ := List.mem_map.1 hx; exact hf.out m hm) hn
      obtain ⟨fA, fc, rfl, hfok⟩ := BL.of_row hrF (by simp) hn
      have a0 := hO.b2.cell 0
      have a1 := hO.b2.cell 1
      have a2 := hO.b2.cell 2
      have b0 := hO.b1.cell 0
      have b1 := hO.b1.cell 1
      have b2 := hO.b1.cell 2
      have b3 := hO.b1.frozen 0
      have b4 := hO.b1.frozen 1
      have b5 := hO.b1.frozen 2
      have hblk := Lib.hid hO.b1
      simp only [List.getElem?_toArray, List.getElem?_cons_zero, List.getElem?_cons_succ] at a0 a1 a2 b0 b1 b2
      have hok : Hid (GV.ok (((wr.setCell ⟨w.heap.size + 1, 0, none⟩ (.slice sA i sc)).setCell ⟨w.heap.size + 1, 1, none⟩ (.slice fA i fc)).setCell ⟨w.heap.size + 1, 2, none⟩ (.slice none 0 0)) ⟨⟨sA, i, sc, l.map McV.fst⟩, ⟨fA, i, fc, List.replicate i true⟩, ⟨none, 0, 0, []⟩⟩) := by
        have q := show w.heap.size + 1 < w.heap.size + 3 by omega
        exact ⟨NL.row (OR.far (OR.far (OR.far hrS q _ _) q _ _) q _ _) (by simp [hl]) (fun x hx => by obtain ⟨m, hm, rfl⟩ := List.mem_map.1 hx; exact hf.out m hm) hn, BL.row (OR.far (OR.far (OR.far hrF q _ _) q _ _) q _ _) (by simp) hn, SL.none _⟩
      have hnew : Hid (GV.new w.heap.size ⟨⟨sA, i, sc, l.map McV.fst⟩, ⟨fA, i, fc, List.replicate i true⟩, ⟨none, 0, 0, []⟩⟩) := ⟨fun a ha => by have := (OR.at hrS (g := a.block) (by rw [show sA = some a from ha]; rfl)).1; omega, fun a ha => by have := (OR.at hrF (g := a.block) (by rw [show fA = some a from ha]; rfl)).1; omega, fun a ha => by cases ha⟩
      have hbw := Lib.hid (Own.set3 hO 1 0 1 2 (.slice sA i sc) (.slice fA i fc) (.slice none 0 0))
      clear hsok hfok hrS hrF hO
      go_wp2_with fail
      exact bodyPost_ret (v := .agg #[.slice sA i sc, .slice fA i fc, .slice none 0 0]) (by simp [results, Try.results25, go_sem, b0, b1, b2]) rfl ⟨⟨⟨sA, i, sc, l.map McV.fst⟩, ⟨fA, i, fc, List.replicate i true⟩, ⟨none, 0, 0, []⟩⟩, rfl, hok.out, hnew.out, rfl, rfl, rfl, hbw.out⟩

end Go.Proofs.Ytgjmbmlmopomgaa
