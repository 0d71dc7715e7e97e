/- Start, of both sides. -/
import Derived.Test.YtgjmbmlmopomgaaCq
import Derived.Test.YtgjmbmlmopomgaaCm
import Derived.Test.YtgjmbmlmopomgaaCo
namespace Go.Proofs.Ytgjmbmlmopomgaa
open Go.RowKit Go.Maps
set_option linter.unusedSimpArgs false
set_option linter.unusedVariables false

theorem CV.fineOf {c : CV} (h : c.valid = 0) : c.big = false ∧ c.n ≠ 0 ∧ fineAll c.l = true := by
  unfold CV.valid at h
  cases hb : c.big with
  | true => rw [hb] at h; simp at h
  | false =>
    rw [hb] at h
    simp only [Bool.false_eq_true, if_false] at h
    by_cases h0 : c.n = 0
    · rw [if_pos h0] at h; cases h
    · rw [if_neg h0] at h
      cases hf : fineAll c.l with
      | true => exact ⟨rfl, h0, rfl⟩
      | false => rw [hf] at h; simp at h
theorem CV.six {c : CV} (h : c.valid = 0) : c.n ≤ 6 := by
  have := (CV.fineOf h).1
  unfold CV.big at this
  simp at this
  omega
theorem fineAll_at {l : List McV} (h : fineAll l = true) {k : Nat} {m : McV} (hm : l[k]? = some m) : m.fine l k = true := by
  unfold fineAll at h
  rw [List.all_eq_true] at h
  have := h k (List.mem_range.2 (List.getElem?_eq_some_iff.1 hm).1)
  rw [hm] at this
  exact this
theorem CV.low {c : CV} (h : c.valid = 0) : Low c.l := by
  intro k m hm
  have hf := fineAll_at (CV.fineOf h).2.2 hm
  unfold McV.fine at hf
  simp only [Bool.and_eq_true] at hf
  have ho := hf.1.2
  unfold ownOk at ho
  by_cases h1 : m.om = -1
  · left; rw [h1]; rfl
  · rw [if_neg h1] at ho
    unfold okIdx at ho
    simp at ho
    exact .inr ⟨m.om.toNat, by omega, by omega⟩
theorem CV.fsts {c : CV} {w : World} (hc : c.ok w) : ∀ m ∈ c.l, In64 m.fst := fun m hm => (hc.2.2.2.1 m hm).2.2.2.1

/-- the first configuration, or none -/
def begS (c : CV) : List Int := if c.valid = 0 then c.l.map McV.fst else []
def begF (c : CV) : List Bool := if c.valid = 0 then List.replicate c.n true else []

set_option maxRecDepth 100000 in
set_option maxHeartbeats 4000000 in
theorem m_Start (c : CV) (w : World) (hc : c.ok w) :
    Calls Try.prog 7 #[.agg #[.slice c.A c.n c.c]] w fun e w' => ∃ g : GV, e = .returned (.tuple #[.agg #[.slice g.st.A g.st.n g.st.c, .slice g.fr.A g.fr.n g.fr.c, .slice g.out.A g.out.n g.out.c], .int .i64 c.valid]) ∧ g.ok w' ∧ g.new w.heap.size ∧ g.st.l = begS c ∧ g.fr.l = begF c ∧ g.out.l = [] ∧ Below w.heap.size w w' := by
  have hval := @CV.six c
  have hfs := CV.fsts hc
  have hst := fun w' (hb : Below w.heap.size w w') h6 => m_start c w' (hc.below hb (Nat.le_refl _)) h6 hfs
  have hS : Hid (begS c = if c.valid = 0 then c.l.map McV.fst else []) := rfl
  have hF : Hid (begF c = if c.valid = 0 then List.replicate c.n true else []) := rfl
  have hO0 := Own.two w 24 29 #[.slice c.A c.n c.c] #[.slice none 0 0, .slice none 0 0, .slice none 0 0]
  have hcall := m_valid c _ (hc.below hO0.1 (Nat.le_refl _))
  clear hfs
  obtain ⟨A, n, cc, l⟩ := c
  replace hc := Lib.hid hc
  replace hO0 := Lib.hid hO0
  simp only at hcall hval hst hS hF ⊢
  generalize hV : CV.valid ⟨A, n, cc, l⟩ = V at hcall hval hS hF
  clear hV
  replace hst := Lib.hid hst
  by_cases h0 : V = 0
  · subst h0
    have h6 := hval rfl
    rw [if_pos rfl] at hS hF
    clear hval
    go_enter Try.func7, Try.ntmps7
    go_wp2_with (first
      | (go_at_call 9; refine hcall.mono ?_; rintro e w3 ⟨rfl, hb3⟩; have hO3 := Lib.hid (hO0.out.call hb3); have a0 := hO3.out.b0.cell 0; simp only [List.getElem?_toArray, List.getElem?_cons_zero] at a0)
      | (go_at_call 24; (with_reducible refine (hst.out _ (Own.lo hO3.out) h6).mono ?_); rintro e w4 ⟨⟨⟨gA, gn, gc, gl⟩, ⟨fA, fn, fc, fl⟩, ⟨oA, on, oc, ol⟩⟩, rfl, hok, hnew, q1, q2, q3, hb4⟩; have hO4 := Lib.hid (hO3.out.call hb4); have b0 := hO4.out.b1.cell 0; have b1 := hO4.out.b1.cell 1; have b2 := hO4.out.b1.cell 2; have b3 := hO4.out.b1.frozen 0; have b4 := hO4.out.b1.frozen 1; have b5 := hO4.out.b1.frozen 2; simp only [List.getElem?_toArray, List.getElem?_cons_zero, List.getElem?_cons_succ] at b0 b1 b2))
    cases q3
    have hsz := Lib.hid hO3.out.2.1
    simp only [List.length_cons, List.length_nil] at hsz
    have hok5 := Lib.hid (hok.set3 hnew (b := w.heap.size + 1) (by have := hsz.out; omega) (.slice gA gn gc) (.slice fA fn fc) (.slice none 0 0))
    have hnew5 := Lib.hid (hnew.mono (B' := w.heap.size) (by have := hsz.out; omega))
    have hbw := Lib.hid (Own.set3 hO4.out 1 0 1 2 (.slice gA gn gc) (.slice fA fn fc) (.slice none 0 0))
    exact bodyPost_ret (v := .tuple #[.agg #[.slice gA gn gc, .slice fA fn fc, .slice none 0 0], .int .i64 0]) (by simp [results, Try.results7, go_sem, b0, b1, b2]) rfl ⟨⟨⟨gA, gn, gc, gl⟩, ⟨fA, fn, fc, fl⟩, ⟨none, 0, 0, []⟩⟩, rfl, hok5.out, hnew5.out, q1.trans hS.out.symm, q2.trans hF.out.symm, rfl, hbw.out⟩
  · rw [if_neg h0] at hS hF
    have hVb : (V == 0) = false := by simpa using h0
    have hVc : (V != 0) = true := by simpa using h0
    clear hval hst h0
    go_enter Try.func7, Try.ntmps7
    go_wp2_with (go_at_call 9; refine hcall.mono ?_; rintro e w3 ⟨rfl, hb3⟩; have hO3 := Lib.hid (hO0.out.call hb3); have b0 := hO3.out.b1.cell 0; have b1 := hO3.out.b1.cell 1; have b2 := hO3.out.b1.cell 2; have b3 := hO3.out.b1.frozen 0; have b4 := hO3.out.b1.frozen 1; have b5 := hO3.out.b1.frozen 2; simp only [List.getElem?_toArray, List.getElem?_cons_zero, List.getElem?_cons_succ] at b0 b1 b2)
    have hbw := Lib.hid (Own.set3 hO3.out 1 0 1 2 (.slice none 0 0) (.slice none 0 0) (.slice none 0 0))
    exact bodyPost_ret (v := .tuple #[.agg #[.slice none 0 0, .slice none 0 0, .slice none 0 0], .int .i64 V]) (by simp [results, Try.results7, go_sem, b0, b1, b2]) rfl ⟨⟨⟨none, 0, 0, []⟩, ⟨none, 0, 0, []⟩, ⟨none, 0, 0, []⟩⟩, rfl, GV.none _, ⟨fun a ha => (by cases ha), fun a ha => (by cases ha), fun a ha => (by cases ha)⟩, hS.out.symm, hF.out.symm, rfl, hbw.out⟩

set_option maxRecDepth 100000 in
set_option maxHeartbeats 4000000 in
theorem r_Start (c : CV) (w : World) (hc : c.ok w) :
    Calls Try.prog 8 #[.agg #[.slice c.A c.n c.c]] w fun e w' => ∃ g : GV, e = .returned (.tuple #[.agg #[.slice g.st.A g.st.n g.st.c, .slice g.fr.A g.fr.n g.fr.c, .slice g.out.A g.out.n g.out.c], .int .i64 c.valid]) ∧ g.ok w' ∧ g.new w.heap.size ∧ g.st.l = begS c ∧ g.fr.l = begF c ∧ g.out.l = [] ∧ Below w.heap.size w w' := by
  have hval := @CV.six c
  have hfs := CV.fsts hc
  have hst := fun w' (hb : Below w.heap.size w w') h6 => r_begun c w' (hc.below hb (Nat.le_refl _)) h6 hfs
  have hS : Hid (begS c = if c.valid = 0 then c.l.map McV.fst else []) := rfl
  have hF : Hid (begF c = if c.valid = 0 then List.replicate c.n true else []) := rfl
  have hO0 := Own.two w 24 29 #[.slice c.A c.n c.c] #[.slice none 0 0, .slice none 0 0, .slice none 0 0]
  have hcall := r_valid c _ (hc.below hO0.1 (Nat.le_refl _))
  clear hfs
  obtain ⟨A, n, cc, l⟩ := c
  replace hc := Lib.hid hc
  replace hO0 := Lib.hid hO0
  simp only at hcall hval hst hS hF ⊢
  generalize hV : CV.valid ⟨A, n, cc, l⟩ = V at hcall hval hS hF
  clear hV
  replace hst := Lib.hid hst
  by_cases h0 : V = 0
  · subst h0
    have h6 := hval rfl
    rw [if_pos rfl] at hS hF
    clear hval
    go_enter Try.func8, Try.ntmps8
    go_wp2_with (first
      | (go_at_call 10; refine hcall.mono ?_; rintro e w3 ⟨rfl, hb3⟩; have hO3 := Lib.hid (hO0.out.call hb3); have a0 := hO3.out.b0.cell 0; simp only [List.getElem?_toArray, List.getElem?_cons_zero] at a0)
      | (go_at_call 25; (with_reducible refine (hst.out _ (Own.lo hO3.out) h6).mono ?_); rintro e w4 ⟨⟨⟨gA, gn, gc, gl⟩, ⟨fA, fn, fc, fl⟩, ⟨oA, on, oc, ol⟩⟩, rfl, hok, hnew, q1, q2, q3, hb4⟩; have hO4 := Lib.hid (hO3.out.call hb4); have b0 := hO4.out.b1.cell 0; have b1 := hO4.out.b1.cell 1; have b2 := hO4.out.b1.cell 2; have b3 := hO4.out.b1.frozen 0; have b4 := hO4.out.b1.frozen 1; have b5 := hO4.out.b1.frozen 2; simp only [List.getElem?_toArray, List.getElem?_cons_zero, List.getElem?_cons_succ] at b0 b1 b2))
    cases q3
    have hsz := Lib.hid hO3.out.2.1
    simp only [List.length_cons, List.length_nil] at hsz
    have hok5 := Lib.hid (hok.set3 hnew (b := w.heap.size + 1) (by have := hsz.out; omega) (.slice gA gn gc) (.slice fA fn fc) (.slice none 0 0))
    have hnew5 := Lib.hid (hnew.mono (B' := w.heap.size) (by have := hsz.out; omega))
    have hbw := Lib.hid (Own.set3 hO4.out 1 0 1 2 (.slice gA gn gc) (.slice fA fn fc) (.slice none 0 0))
    exact bodyPost_ret (v := .tuple #[.agg #[.slice gA gn gc, .slice fA fn fc, .slice none 0 0], .int .i64 0]) (by simp [results, Try.results8, go_sem, b0, b1, b2]) rfl ⟨⟨⟨gA, gn, gc, gl⟩, ⟨fA, fn, fc, fl⟩, ⟨none, 0, 0, []⟩⟩, rfl, hok5.out, hnew5.out, q1.trans hS.out.symm, q2.trans hF.out.symm, rfl, hbw.out⟩
  · rw [if_neg h0] at hS hF
    have hVb : (V == 0) = false := by simpa using h0
    have hVc : (V != 0) = true := by simpa using h0
    clear hval hst h0
    go_enter Try.func8, Try.ntmps8
    go_wp2_with (go_at_call 10; refine hcall.mono ?_; rintro e w3 ⟨rfl, hb3⟩; have hO3 := Lib.hid (hO0.out.call hb3); have b0 := hO3.out.b1.cell 0; have b1 := hO3.out.b1.cell 1; have b2 := hO3.out.b1.cell 2; have b3 := hO3.out.b1.frozen 0; have b4 := hO3.out.b1.frozen 1; have b5 := hO3.out.b1.frozen 2; simp only [List.getElem?_toArray, List.getElem?_cons_zero, List.getElem?_cons_succ] at b0 b1 b2)
    have hbw := Lib.hid (Own.set3 hO3.out 1 0 1 2 (.slice none 0 0) (.slice none 0 0) (.slice none 0 0))
    exact bodyPost_ret (v := .tuple #[.agg #[.slice none 0 0, .slice none 0 0, .slice none 0 0], .int .i64 V]) (by simp [results, Try.results8, go_sem, b0, b1, b2]) rfl ⟨⟨⟨none, 0, 0, []⟩, ⟨none, 0, 0, []⟩, ⟨none, 0, 0, []⟩⟩, rfl, GV.none _, ⟨fun a ha => (by cases ha), fun a ha => (by cases ha), fun a ha => (by cases ha)⟩, hS.out.symm, hF.out.symm, rfl, hbw.out⟩

end Go.Proofs.Ytgjmbmlmopomgaa
