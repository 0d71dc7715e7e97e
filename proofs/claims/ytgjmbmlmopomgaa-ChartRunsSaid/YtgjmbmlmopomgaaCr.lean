/- Configurations as they come in; which ones fit a chart. -/
import Derived.Test.YtgjmbmlmopomgaaCl
namespace Go.Proofs.Ytgjmbmlmopomgaa
open Go.RowKit
set_option linter.unusedSimpArgs false
set_option linter.unusedVariables false

theorem Own.lo {w w1 : World} {bs : List (TypeId × Array Value)} (h : Own w bs w1) : Below w.heap.size w w1 := h.1

/-- a slice of numbers -/
structure NL where
  A : Option Addr
  n : Nat
  c : Nat
  l : List Int
def NL.val (s : NL) : Value := .slice s.A s.n s.c
def NL.ok (w : World) (s : NL) : Prop :=
  s.l.length = s.n ∧ s.n ≤ s.c ∧ s.n ≤ 17592186044416 ∧ (∀ x ∈ s.l, In64 x) ∧
  (s.n = 0 ∨ ∃ g o, s.A = some ⟨g, o, none⟩ ∧ g < w.heap.size ∧ ∀ j x, s.l[j]? = some x → w.cell? ⟨g, o + j, none⟩ = some (.int .i64 x))
/-- a slice of truths -/
structure BL where
  A : Option Addr
  n : Nat
  c : Nat
  l : List Bool
def BL.val (s : BL) : Value := .slice s.A s.n s.c
def BL.ok (w : World) (s : BL) : Prop :=
  s.l.length = s.n ∧ s.n ≤ s.c ∧ s.n ≤ 140737488355328 ∧
  (s.n = 0 ∨ ∃ g o, s.A = some ⟨g, o, none⟩ ∧ g < w.heap.size ∧ ∀ j x, s.l[j]? = some x → w.cell? ⟨g, o + j, none⟩ = some (.bool x))
/-- a configuration -/
structure GV where
  st : NL
  fr : BL
  out : SL
def GV.ok (w : World) (g : GV) : Prop := g.st.ok w ∧ g.fr.ok w ∧ g.out.ok w
section
variable {w w' : World} {B : Nat}
theorem NL.ok.below {s : NL} (h : s.ok w) (hb : Below B w w') (hB : w.heap.size ≤ B) : s.ok w' := by
  obtain ⟨h1, h2, h3, h4, h5⟩ := h
  refine ⟨h1, h2, h3, h4, ?_⟩
  rcases h5 with h5 | ⟨g, o, e, hg, hc⟩
  · exact .inl h5
  · exact .inr ⟨g, o, e, Nat.lt_of_lt_of_le hg hb.size, fun j z hj => (hb.cell (p := ⟨g, o + j, none⟩) (Nat.lt_of_lt_of_le hg hB)).trans (hc j z hj)⟩
theorem BL.ok.below {s : BL} (h : s.ok w) (hb : Below B w w') (hB : w.heap.size ≤ B) : s.ok w' := by
  obtain ⟨h1, h2, h3, h5⟩ := h
  refine ⟨h1, h2, h3, ?_⟩
  rcases h5 with h5 | ⟨g, o, e, hg, hc⟩
  · exact .inl h5
  · exact .inr ⟨g, o, e, Nat.lt_of_lt_of_le hg hb.size, fun j z hj => (hb.cell (p := ⟨g, o + j, none⟩) (Nat.lt_of_lt_of_le hg hB)).trans (hc j z hj)⟩
theorem GV.ok.below {s : GV} (h : s.ok w) (hb : Below B w w') (hB : w.heap.size ≤ B) : s.ok w' :=
  ⟨h.1.below hb hB, h.2.1.below hb hB, h.2.2.below hb hB⟩
theorem NL.ok.cell {s : NL} (h : s.ok w) {j : Nat} (hj : j < s.n) : ∃ g o x, s.A = some ⟨g, o, none⟩ ∧ g < w.heap.size ∧ s.l[j]? = some x ∧ In64 x ∧ w.cell? ⟨g, o + j, none⟩ = some (.int .i64 x) := by
  obtain ⟨h1, h2, h3, h4, h5⟩ := h
  rcases h5 with h5 | ⟨g, o, e, hg, hc⟩
  · omega
  · have e2 : s.l[j]? = some s.l[j] := List.getElem?_eq_getElem (by omega)
    exact ⟨g, o, _, e, hg, e2, h4 _ (List.mem_of_getElem? e2), hc j _ e2⟩
theorem BL.ok.cell {s : BL} (h : s.ok w) {j : Nat} (hj : j < s.n) : ∃ g o x, s.A = some ⟨g, o, none⟩ ∧ g < w.heap.size ∧ s.l[j]? = some x ∧ w.cell? ⟨g, o + j, none⟩ = some (.bool x) := by
  obtain ⟨h1, h2, h3, h5⟩ := h
  rcases h5 with h5 | ⟨g, o, e, hg, hc⟩
  · omega
  · have e2 : s.l[j]? = some s.l[j] := List.getElem?_eq_getElem (by omega)
    exact ⟨g, o, _, e, hg, e2, hc j _ e2⟩
end

/-- the states are states -/
def statesOk (l : List McV) (s : List Int) : Bool := (List.range s.length).all fun k => okIdx (match l[k]? with | some m => m.st.n | none => 0) (s.getD k 0)
def GV.fine (c : CV) (g : GV) : Bool := g.st.n == c.n && g.fr.n == c.n && rises g.out.l && g.out.names && statesOk c.l g.st.l
theorem st_no {l : List McV} {s : List Int} {k : Nat} {m : McV} {x : Int} (hm : l[k]? = some m) (hs : s[k]? = some x) (h : okIdx m.st.n x = false) : statesOk l s = false := by
  unfold statesOk
  rw [List.all_eq_false]
  refine ⟨k, List.mem_range.2 (List.getElem?_eq_some_iff.1 hs).1, ?_⟩
  rw [List.getD_eq_getElem?_getD, hs]
  simp [hm, h]
theorem st_yes {l : List McV} {s : List Int} {n : Nat} (hn : s.length = n) (h : ∀ k, k < n → ∀ m x, l[k]? = some m → s[k]? = some x → okIdx m.st.n x = true) (hl : l.length = n) : statesOk l s = true := by
  unfold statesOk
  rw [List.all_eq_true]
  intro k hk
  rw [List.mem_range, hn] at hk
  have e1 : l[k]? = some l[k] := List.getElem?_eq_getElem (by omega)
  have e2 : s[k]? = some s[k] := List.getElem?_eq_getElem (by omega)
  rw [List.getD_eq_getElem?_getD, e2]
  simp only [e1]
  exact h k hk _ _ e1 e2
/-- what known says -/
def GV.known (c : CV) (g : GV) : Int := if c.valid = 0 then (if g.fine c = true then 0 else 1) else c.valid

theorem g_cases (c : CV) (g : GV) :
    (((g.st.n : Int) == (c.n : Int)) = false ∧ g.fine c = false) ∨
    (((g.st.n : Int) == (c.n : Int)) = true ∧ ((g.fr.n : Int) == (c.n : Int)) = false ∧ g.fine c = false) ∨
    (((g.st.n : Int) == (c.n : Int)) = true ∧ ((g.fr.n : Int) == (c.n : Int)) = true ∧ rises g.out.l = false ∧ g.fine c = false) ∨
    (((g.st.n : Int) == (c.n : Int)) = true ∧ ((g.fr.n : Int) == (c.n : Int)) = true ∧ rises g.out.l = true ∧ g.out.names = false ∧ g.fine c = false) ∨
    (((g.st.n : Int) == (c.n : Int)) = true ∧ ((g.fr.n : Int) == (c.n : Int)) = true ∧ rises g.out.l = true ∧ g.out.names = true ∧ g.fine c = statesOk c.l g.st.l) := by
  have e1 : ((g.st.n : Int) == (c.n : Int)) = (g.st.n == c.n) := by
    rw [Bool.eq_iff_iff, beq_iff_eq, beq_iff_eq]; omega
  have e2 : ((g.fr.n : Int) == (c.n : Int)) = (g.fr.n == c.n) := by
    rw [Bool.eq_iff_iff, beq_iff_eq, beq_iff_eq]; omega
  rw [e1, e2]
  unfold GV.fine
  cases g.st.n == c.n <;> cases g.fr.n == c.n <;> cases rises g.out.l <;> cases g.out.names <;> simp

end Go.Proofs.Ytgjmbmlmopomgaa
