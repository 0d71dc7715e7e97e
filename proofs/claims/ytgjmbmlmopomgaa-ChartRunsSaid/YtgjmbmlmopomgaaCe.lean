/- Charts as they come in: lists of texts, moves, machines; how they are read. -/
import Derived.Test.YtgjmbmlmopomgaaCd
namespace Go.Proofs.Ytgjmbmlmopomgaa
open Go.RowKit
set_option linter.unusedSimpArgs false
set_option linter.unusedVariables false

/-- a slice of texts -/
structure SL where
  A : Option Addr
  n : Nat
  c : Nat
  l : List ByteArray
def SL.val (s : SL) : Value := .slice s.A s.n s.c
def SL.ok (w : World) (s : SL) : Prop :=
  s.l.length = s.n ∧ s.n ≤ s.c ∧ s.n ≤ 8796093022208 ∧ (∀ x ∈ s.l, x.size ≤ maxLen) ∧
  (s.n = 0 ∨ ∃ g o, s.A = some ⟨g, o, none⟩ ∧ g < w.heap.size ∧ ∀ j x, s.l[j]? = some x → w.cell? ⟨g, o + j, none⟩ = some (.string x))
/-- a move -/
structure MvV where
  frm : Int
  dst : Int
  wh : SL
  no : SL
  em : SL
  late : Bool
  keep : Bool
def MvV.ok (w : World) (v : MvV) : Prop := In64 v.frm ∧ In64 v.dst ∧ v.wh.ok w ∧ v.no.ok w ∧ v.em.ok w
def MvV.cs (v : MvV) : List Value := [.int .i64 v.frm, .int .i64 v.dst, v.wh.val, v.no.val, v.em.val, .bool v.late, .bool v.keep]
/-- a slice of moves -/
structure ML where
  A : Option Addr
  n : Nat
  c : Nat
  l : List MvV
def ML.val (s : ML) : Value := .slice s.A s.n s.c
def ML.ok (w : World) (s : ML) : Prop :=
  s.l.length = s.n ∧ s.n ≤ s.c ∧ s.n ≤ 17592186044416 ∧ (∀ v ∈ s.l, v.ok w) ∧
  (s.n = 0 ∨ ∃ g o, s.A = some ⟨g, o, none⟩ ∧ g < w.heap.size ∧ ∀ j v, s.l[j]? = some v → ∀ k x, v.cs[k]? = some x → w.cell? ⟨g, o + j * 7 + k, none⟩ = some x)
/-- a machine -/
structure McV where
  om : Int
  os : Int
  st : SL
  fst : Int
  mv : ML
def McV.ok (w : World) (m : McV) : Prop := In64 m.om ∧ In64 m.os ∧ m.st.ok w ∧ In64 m.fst ∧ m.mv.ok w
def McV.cs (m : McV) : List Value := [.int .i64 m.om, .int .i64 m.os, m.st.val, .int .i64 m.fst, m.mv.val]
/-- a chart -/
structure CV where
  A : Option Addr
  n : Nat
  c : Nat
  l : List McV
def CV.val (s : CV) : Value := .slice s.A s.n s.c
def CV.ok (w : World) (s : CV) : Prop :=
  s.l.length = s.n ∧ s.n ≤ s.c ∧ s.n ≤ 17592186044416 ∧ (∀ m ∈ s.l, m.ok w) ∧
  (s.n = 0 ∨ ∃ g o, s.A = some ⟨g, o, none⟩ ∧ g < w.heap.size ∧ ∀ j m, s.l[j]? = some m → ∀ k x, m.cs[k]? = some x → w.cell? ⟨g, o + j * 5 + k, none⟩ = some x)

section
variable {w w' : World} {B : Nat}
theorem SL.ok.below {s : SL} (h : s.ok w) (hb : Below B w w') (hB : w.heap.size ≤ B) : s.ok w' := by
  obtain ⟨h1, h2, h3, h4, h5⟩ := h
  refine ⟨h1, h2, h3, h4, ?_⟩
  rcases h5 with h5 | ⟨g, o, e, hg, hc⟩
  · exact .inl h5
  · exact .inr ⟨g, o, e, Nat.lt_of_lt_of_le hg hb.size, fun j z hj => (hb.cell (p := ⟨g, o + j, none⟩) (Nat.lt_of_lt_of_le hg hB)).trans (hc j z hj)⟩
theorem MvV.ok.below {v : MvV} (h : v.ok w) (hb : Below B w w') (hB : w.heap.size ≤ B) : v.ok w' :=
  ⟨h.1, h.2.1, h.2.2.1.below hb hB, h.2.2.2.1.below hb hB, h.2.2.2.2.below hb hB⟩
theorem ML.ok.below {s : ML} (h : s.ok w) (hb : Below B w w') (hB : w.heap.size ≤ B) : s.ok w' := by
  obtain ⟨h1, h2, h3, h4, h5⟩ := h
  refine ⟨h1, h2, h3, fun v hv => (h4 v hv).below hb hB, ?_⟩
  rcases h5 with h5 | ⟨g, o, e, hg, hc⟩
  · exact .inl h5
  · exact .inr ⟨g, o, e, Nat.lt_of_lt_of_le hg hb.size, fun j z hj k x hx => (hb.cell (p := ⟨g, o + j * 7 + k, none⟩) (Nat.lt_of_lt_of_le hg hB)).trans (hc j z hj k x hx)⟩
theorem McV.ok.below {m : McV} (h : m.ok w) (hb : Below B w w') (hB : w.heap.size ≤ B) : m.ok w' :=
  ⟨h.1, h.2.1, h.2.2.1.below hb hB, h.2.2.2.1, h.2.2.2.2.below hb hB⟩
theorem CV.ok.below {s : CV} (h : s.ok w) (hb : Below B w w') (hB : w.heap.size ≤ B) : s.ok w' := by
  obtain ⟨h1, h2, h3, h4, h5⟩ := h
  refine ⟨h1, h2, h3, fun v hv => (h4 v hv).below hb hB, ?_⟩
  rcases h5 with h5 | ⟨g, o, e, hg, hc⟩
  · exact .inl h5
  · exact .inr ⟨g, o, e, Nat.lt_of_lt_of_le hg hb.size, fun j z hj k x hx => (hb.cell (p := ⟨g, o + j * 5 + k, none⟩) (Nat.lt_of_lt_of_le hg hB)).trans (hc j z hj k x hx)⟩

theorem SL.ok.cell {s : SL} (h : s.ok w) {j : Nat} (hj : j < s.n) : ∃ g o x, s.A = some ⟨g, o, none⟩ ∧ g < w.heap.size ∧ s.l[j]? = some x ∧ x.size ≤ maxLen ∧ w.cell? ⟨g, o + j, none⟩ = some (.string x) := by
  obtain ⟨h1, h2, h3, h4, h5⟩ := h
  rcases h5 with h5 | ⟨g, o, e, hg, hc⟩
  · omega
  · have e2 : s.l[j]? = some s.l[j] := List.getElem?_eq_getElem (by omega)
    exact ⟨g, o, _, e, hg, e2, h4 _ (List.mem_of_getElem? e2), hc j _ e2⟩
theorem ML.ok.cell {s : ML} (h : s.ok w) {j : Nat} (hj : j < s.n) : ∃ g o v, s.A = some ⟨g, o, none⟩ ∧ g < w.heap.size ∧ s.l[j]? = some v ∧ v.ok w ∧
    w.cell? ⟨g, o + j * 7, none⟩ = some (.int .i64 v.frm) ∧ w.cell? ⟨g, o + j * 7 + 1, none⟩ = some (.int .i64 v.dst) ∧ w.cell? ⟨g, o + j * 7 + 2, none⟩ = some (.slice v.wh.A v.wh.n v.wh.c) ∧ w.cell? ⟨g, o + j * 7 + 3, none⟩ = some (.slice v.no.A v.no.n v.no.c) ∧ w.cell? ⟨g, o + j * 7 + 4, none⟩ = some (.slice v.em.A v.em.n v.em.c) ∧ w.cell? ⟨g, o + j * 7 + 5, none⟩ = some (.bool v.late) ∧ w.cell? ⟨g, o + j * 7 + 6, none⟩ = some (.bool v.keep) := by
  obtain ⟨h1, h2, h3, h4, h5⟩ := h
  rcases h5 with h5 | ⟨g, o, e, hg, hc⟩
  · omega
  · have e2 : s.l[j]? = some s.l[j] := List.getElem?_eq_getElem (by omega)
    have c := hc j _ e2
    exact ⟨g, o, _, e, hg, e2, h4 _ (List.mem_of_getElem? e2), c 0 _ rfl, c 1 _ rfl, c 2 _ rfl, c 3 _ rfl, c 4 _ rfl, c 5 _ rfl, c 6 _ rfl⟩
theorem CV.ok.cell {s : CV} (h : s.ok w) {j : Nat} (hj : j < s.n) : ∃ g o m, s.A = some ⟨g, o, none⟩ ∧ g < w.heap.size ∧ s.l[j]? = some m ∧ m.ok w ∧
    w.cell? ⟨g, o + j * 5, none⟩ = some (.int .i64 m.om) ∧ w.cell? ⟨g, o + j * 5 + 1, none⟩ = some (.int .i64 m.os) ∧ w.cell? ⟨g, o + j * 5 + 2, none⟩ = some (.slice m.st.A m.st.n m.st.c) ∧ w.cell? ⟨g, o + j * 5 + 3, none⟩ = some (.int .i64 m.fst) ∧ w.cell? ⟨g, o + j * 5 + 4, none⟩ = some (.slice m.mv.A m.mv.n m.mv.c) := by
  obtain ⟨h1, h2, h3, h4, h5⟩ := h
  rcases h5 with h5 | ⟨g, o, e, hg, hc⟩
  · omega
  · have e2 : s.l[j]? = some s.l[j] := List.getElem?_eq_getElem (by omega)
    have c := hc j _ e2
    exact ⟨g, o, _, e, hg, e2, h4 _ (List.mem_of_getElem? e2), c 0 _ rfl, c 1 _ rfl, c 2 _ rfl, c 3 _ rfl, c 4 _ rfl⟩
end

/-- too much -/
def MvV.big (v : MvV) : Bool := decide (64 < v.wh.n) || decide (64 < v.no.n) || decide (64 < v.em.n)
def McV.big (m : McV) : Bool := decide (24 < m.st.n) || decide (400 < m.mv.n) || m.mv.l.any MvV.big
def CV.big (c : CV) : Bool := decide (6 < c.n) || c.l.any McV.big

end Go.Proofs.Ytgjmbmlmopomgaa
