/- Rows of lists of texts; copies of lists. -/
import Derived.Test.YtgjmbmlmopomgaaHa
import Derived.Test.YtgjmbmlmopomgaaDh
namespace Go.Proofs.Ytgjmbmlmopomgaa
open Go.RowKit Go.Maps Lib
set_option linter.unusedSimpArgs false
set_option linter.unusedVariables false

def vR (l : List SL) : List Value := l.map fun x => .slice x.A x.n x.c
theorem vR_len (l : List SL) : (vR l).length = l.length := by simp [vR]
theorem vR_snoc (l : List SL) (x : SL) : vR (l ++ [x]) = vR l ++ [.slice x.A x.n x.c] := by simp [vR]
theorem infoR : (Try.prog.info? 27).map (fun i => (i.zero, i.size, i.bytes)) = some (some (.slice none 0 0), 1, 24) := by kernel_rfl
theorem infoR_parts : ∃ i0, Try.prog.info? 27 = some i0 ∧ i0.zero = some (.slice none 0 0) ∧ i0.size = 1 ∧ i0.bytes = 24 := by
  have h := infoR
  match hi : Try.prog.info? 27 with
  | none => rw [hi] at h; cases h
  | some i0 =>
    rw [hi] at h
    simp at h
    exact ⟨i0, rfl, h.1, h.2.1, h.2.2⟩
def SL.new (B : Nat) (s : SL) : Prop := ∀ a, s.A = some a → B ≤ a.block
def RL.new (B : Nat) (r : RL) : Prop := (∀ a, r.A = some a → B ≤ a.block) ∧ ∀ x ∈ r.l, SL.new B x
theorem RL.ok.set {w : World} {s : RL} (h : s.ok w) {B : Nat} (hn : s.new B) {b : Nat} (hb : b < B) (i : Nat) (u : Value) : s.ok (w.setCell ⟨b, i, .none⟩ u) := by
  obtain ⟨h1, h2, h3, h4, h5⟩ := h
  refine ⟨h1, h2, h3, fun x hx => (h4 x hx).set (fun a e => Nat.lt_of_lt_of_le hb (hn.2 x hx a e)) i u, ?_⟩
  rcases h5 with h5 | ⟨g, o, e, hg, hc⟩
  · exact .inl h5
  · refine .inr ⟨g, o, e, by simpa [World.setCell] using hg, fun j z hj => ?_⟩
    rw [← hc j z hj]
    unfold World.cell?
    rw [Below.heap_setCell w ⟨b, i, .none⟩ u g (by have : B ≤ g := hn.1 _ e; show g ≠ b; omega)]
theorem RL.ok.set3 {w : World} {s : RL} (h : s.ok w) {B : Nat} (hn : s.new B) {b : Nat} (hb : b < B) (u v x : Value) : s.ok (((w.setCell ⟨b, 0, .none⟩ u).setCell ⟨b, 1, .none⟩ v).setCell ⟨b, 2, .none⟩ x) :=
  ((h.set hn hb 0 u).set hn hb 1 v).set hn hb 2 x
theorem SL.ok.set3 {w : World} {s : SL} (h : s.ok w) {B : Nat} (hn : s.new B) {b : Nat} (hb : b < B) (u v x : Value) : s.ok (((w.setCell ⟨b, 0, .none⟩ u).setCell ⟨b, 1, .none⟩ v).setCell ⟨b, 2, .none⟩ x) :=
  have hb' : ∀ a, s.A = some a → b < a.block := fun a e => Nat.lt_of_lt_of_le hb (hn a e)
  ((h.set hb' 0 u).set hb' 1 v).set hb' 2 x
theorem RL.of_row {w : World} {B n : Nat} {v : Value} {l : List SL} (h : w.ownsRow B 27 1 v n (vR l)) (hl : l.length = n) (hi : ∀ x ∈ l, x.ok w) (hn : n ≤ 17592186044416) : ∃ A c, v = .slice A n c ∧ RL.ok w ⟨A, n, c, l⟩ := by
  rcases h.2 with ⟨rfl, h0⟩ | ⟨g, cap, cur, rfl, h3, h4, h5, h6, h7⟩
  · subst h0; exact ⟨none, 0, rfl, hl, Nat.le_refl _, Nat.zero_le _, hi, .inl rfl⟩
  · exact ⟨some ⟨g, 0, none⟩, cap, rfl, hl, h5, hn, hi, .inr ⟨g, 0, rfl, (OR.at h rfl).2, fun j x hj => by
      have hjn : j < n := by rw [← hl]; exact (List.getElem?_eq_some_iff.1 hj).1
      rw [Nat.zero_add, World.ownsRow.cellAt h j (by omega)]
      unfold vR
      rw [List.getElem?_map, hj]; rfl⟩⟩
theorem RL.row {w : World} {B n c : Nat} {A : Option Addr} {l : List SL} (h : w.ownsRow B 27 1 (.slice A n c) n (vR l)) (hl : l.length = n) (hi : ∀ x ∈ l, x.ok w) (hn : n ≤ 17592186044416) : RL.ok w ⟨A, n, c, l⟩ := by
  obtain ⟨A', c', e, h2⟩ := RL.of_row h hl hi hn
  cases e; exact h2
theorem OR.newA {w : World} {B sz n m c : Nat} {e : TypeId} {A : Option Addr} {xs : List Value} (h : w.ownsRow B e sz (.slice A n c) m xs) : ∀ a, A = some a → B ≤ a.block := by
  intro a ha
  subst ha
  rcases h.2 with ⟨e1, h2⟩ | ⟨g, cap, cur, e1, h3⟩
  · cases e1
  · cases e1
    exact (OR.at h rfl).1
theorem c_cloneS (s : SL) (w : World) (hs : s.ok w) : Calls Try.prog 42 #[.slice s.A s.n s.c] w fun e w' => ∃ A c, e = .returned (.slice A s.n c) ∧ SL.ok w' ⟨A, s.n, c, s.l⟩ ∧ SL.new w.heap.size ⟨A, s.n, c, s.l⟩ ∧ Below w.heap.size w w' := by
  obtain ⟨A, n, c, l⟩ := s
  obtain ⟨h1, h2, h3, h4, h5⟩ := hs
  simp only at h1 h2 h3 h4 h5 ⊢
  by_cases h0 : n = 0
  · subst h0
    have e0 : l = [] := List.eq_nil_of_length_eq_zero h1
    subst e0
    cases A with
    | none =>
      refine (Try.slices_Clone_string_nil 0 c w).mono ?_
      rintro e w' ⟨rfl, rfl⟩
      exact ⟨none, 0, rfl, SL.none _, (fun a e => by cases e), Below.refl _ _⟩
    | some a =>
      refine (Try.slices_Clone_string_zero a c w).mono ?_
      rintro e w' ⟨v', rfl, hr, -, hb⟩
      obtain ⟨A', c', rfl, hok⟩ := SL.of_row (l := []) hr rfl h4 (Nat.zero_le _)
      exact ⟨A', c', rfl, hok, OR.newA hr, hb⟩
  · obtain ⟨g, o, rfl, hg, hc⟩ := h5.resolve_left h0
    refine (Try.slices_Clone_string g o n c l w (by omega) (by omega) (fun j hj => by
        have e : l[j]? = some l[j] := List.getElem?_eq_getElem hj
        rw [List.getD_eq_getElem?_getD, e]
        exact hc j _ e)).mono ?_
    rintro e w' ⟨v', rfl, hr, -, hb⟩
    rw [List.take_of_length_le (by omega)] at hr
    obtain ⟨A', c', rfl, hok⟩ := SL.of_row (l := l) hr h1 h4 h3
    exact ⟨A', c', rfl, hok, OR.newA hr, hb⟩

/-- apart from block b -/
def Off (b n : Nat) (A : Option Addr) : Prop := n = 0 ∨ ∀ a, A = some a → a.block ≠ b
/-- beyond B -/
def NwA (B : Nat) (A : Option Addr) : Prop := ∀ a, A = some a → B ≤ a.block
theorem NwA.off {b B n : Nat} {A : Option Addr} (h : NwA B A) (hb : b < B) : Off b n A := .inr fun a e => by have := h a e; omega
theorem NwA.mono {B B' : Nat} {A : Option Addr} (h : NwA B A) (hb : B' ≤ B) : NwA B' A := fun a e => Nat.le_trans hb (h a e)
theorem NL.ok.off {w : World} {s : NL} (h : s.ok w) {b : Nat} (hb : w.heap.size ≤ b) : Off b s.n s.A := by
  rcases h.2.2.2.2 with h5 | ⟨g, o, e, hg, -⟩
  · exact .inl h5
  · exact .inr fun a ha => by rw [e] at ha; cases ha; show g ≠ b; omega
theorem BL.ok.off {w : World} {s : BL} (h : s.ok w) {b : Nat} (hb : w.heap.size ≤ b) : Off b s.n s.A := by
  rcases h.2.2.2 with h5 | ⟨g, o, e, hg, -⟩
  · exact .inl h5
  · exact .inr fun a ha => by rw [e] at ha; cases ha; show g ≠ b; omega
theorem SL.ok.off {w : World} {s : SL} (h : s.ok w) {b : Nat} (hb : w.heap.size ≤ b) : Off b s.n s.A := by
  rcases h.2.2.2.2 with h5 | ⟨g, o, e, hg, -⟩
  · exact .inl h5
  · exact .inr fun a ha => by rw [e] at ha; cases ha; show g ≠ b; omega
theorem SL.ok.setOff {w : World} {s : SL} (h : s.ok w) {b : Nat} (hb : Off b s.n s.A) (i : Nat) (u : Value) : s.ok (w.setCell ⟨b, i, .none⟩ u) := by
  obtain ⟨h1, h2, h3, h4, h5⟩ := h
  refine ⟨h1, h2, h3, h4, ?_⟩
  rcases h5 with h5 | ⟨g, o, e, hg, hc⟩
  · exact .inl h5
  · rcases hb with hb | hb
    · exact .inl hb
    · refine .inr ⟨g, o, e, by simpa [World.setCell] using hg, fun j z hj => ?_⟩
      rw [← hc j z hj]
      unfold World.cell?
      rw [Below.heap_setCell w ⟨b, i, .none⟩ u g (hb _ e)]
theorem NL.ok.setOff {w : World} {s : NL} (h : s.ok w) {b : Nat} (hb : Off b s.n s.A) (i : Nat) (u : Value) : s.ok (w.setCell ⟨b, i, .none⟩ u) := by
  obtain ⟨h1, h2, h3, h4, h5⟩ := h
  refine ⟨h1, h2, h3, h4, ?_⟩
  rcases h5 with h5 | ⟨g, o, e, hg, hc⟩
  · exact .inl h5
  · rcases hb with hb | hb
    · exact .inl hb
    · refine .inr ⟨g, o, e, by simpa [World.setCell] using hg, fun j z hj => ?_⟩
      rw [← hc j z hj]
      unfold World.cell?
      rw [Below.heap_setCell w ⟨b, i, .none⟩ u g (hb _ e)]
theorem BL.ok.setOff {w : World} {s : BL} (h : s.ok w) {b : Nat} (hb : Off b s.n s.A) (i : Nat) (u : Value) : s.ok (w.setCell ⟨b, i, .none⟩ u) := by
  obtain ⟨h1, h2, h3, h5⟩ := h
  refine ⟨h1, h2, h3, ?_⟩
  rcases h5 with h5 | ⟨g, o, e, hg, hc⟩
  · exact .inl h5
  · rcases hb with hb | hb
    · exact .inl hb
    · refine .inr ⟨g, o, e, by simpa [World.setCell] using hg, fun j z hj => ?_⟩
      rw [← hc j z hj]
      unfold World.cell?
      rw [Below.heap_setCell w ⟨b, i, .none⟩ u g (hb _ e)]
theorem NL.ok.grown {w w' : World} {s : NL} (h : s.ok w) {b : Option Nat} (hg : w.grownBy w' b) (ho : ∀ g, b = some g → Off g s.n s.A) : s.ok w' := by
  obtain ⟨h1, h2, h3, h4, h5⟩ := h
  refine ⟨h1, h2, h3, h4, ?_⟩
  rcases h5 with h5 | ⟨g, o, e, hlt, hc⟩
  · exact .inl h5
  · by_cases hb : b = some g
    · rcases ho g hb with h0 | h0
      · exact .inl h0
      · exact absurd rfl (h0 _ e)
    · refine .inr ⟨g, o, e, Nat.lt_of_lt_of_le hlt hg.size, fun j z hj => ?_⟩
      rw [← hc j z hj]
      unfold World.cell?
      rw [hg.block g hlt (fun e => hb e.symm)]
theorem BL.ok.grown {w w' : World} {s : BL} (h : s.ok w) {b : Option Nat} (hg : w.grownBy w' b) (ho : ∀ g, b = some g → Off g s.n s.A) : s.ok w' := by
  obtain ⟨h1, h2, h3, h5⟩ := h
  refine ⟨h1, h2, h3, ?_⟩
  rcases h5 with h5 | ⟨g, o, e, hlt, hc⟩
  · exact .inl h5
  · by_cases hb : b = some g
    · rcases ho g hb with h0 | h0
      · exact .inl h0
      · exact absurd rfl (h0 _ e)
    · refine .inr ⟨g, o, e, Nat.lt_of_lt_of_le hlt hg.size, fun j z hj => ?_⟩
      rw [← hc j z hj]
      unfold World.cell?
      rw [hg.block g hlt (fun e => hb e.symm)]
theorem SL.ok.grown {w w' : World} {s : SL} (h : s.ok w) {b : Option Nat} (hg : w.grownBy w' b) (ho : ∀ g, b = some g → Off g s.n s.A) : s.ok w' := by
  obtain ⟨h1, h2, h3, h4, h5⟩ := h
  refine ⟨h1, h2, h3, h4, ?_⟩
  rcases h5 with h5 | ⟨g, o, e, hlt, hc⟩
  · exact .inl h5
  · by_cases hb : b = some g
    · rcases ho g hb with h0 | h0
      · exact .inl h0
      · exact absurd rfl (h0 _ e)
    · refine .inr ⟨g, o, e, Nat.lt_of_lt_of_le hlt hg.size, fun j z hj => ?_⟩
      rw [← hc j z hj]
      unfold World.cell?
      rw [hg.block g hlt (fun e => hb e.symm)]
theorem GV.ok.grown {w w' : World} {g : GV} (h : g.ok w) {b : Option Nat} (hg : w.grownBy w' b) (h1 : ∀ x, b = some x → Off x g.st.n g.st.A) (h2 : ∀ x, b = some x → Off x g.fr.n g.fr.A) (h3 : ∀ x, b = some x → Off x g.out.n g.out.A) : g.ok w' :=
  ⟨h.1.grown hg h1, h.2.1.grown hg h2, h.2.2.grown hg h3⟩
theorem c_cloneN (s : NL) (w : World) (hs : s.ok w) (h0 : 0 < s.n) (h6 : s.n ≤ 6) : Calls Try.prog 40 #[.slice s.A s.n s.c] w fun e w' => ∃ A c, e = .returned (.slice A s.n c) ∧ NL.ok w' ⟨A, s.n, c, s.l⟩ ∧ NwA w.heap.size A ∧ Below w.heap.size w w' := by
  obtain ⟨A, n, c, l⟩ := s
  obtain ⟨h1, h2, h3, h4, h5⟩ := hs
  simp only at h0 h6 h1 h2 h3 h4 h5 ⊢
  obtain ⟨g, o, rfl, hg, hc⟩ := h5.resolve_left (by omega)
  refine (Try.slices_Clone_int g o n c l w (by omega) (by omega) (fun j hj => by
      have e : l[j]? = some l[j] := List.getElem?_eq_getElem hj
      rw [List.getD_eq_getElem?_getD, e]
      exact hc j _ e)).mono ?_
  rintro e w' ⟨v', rfl, hr, -, hb⟩
  rw [List.take_of_length_le (by omega)] at hr
  obtain ⟨A', c', rfl, hok⟩ := NL.of_row (l := l) hr h1 h4 h3
  exact ⟨A', c', rfl, hok, OR.newA hr, hb⟩
theorem c_cloneL (s : BL) (w : World) (hs : s.ok w) (h0 : 0 < s.n) (h6 : s.n ≤ 6) : Calls Try.prog 41 #[.slice s.A s.n s.c] w fun e w' => ∃ A c, e = .returned (.slice A s.n c) ∧ BL.ok w' ⟨A, s.n, c, s.l⟩ ∧ NwA w.heap.size A ∧ Below w.heap.size w w' := by
  obtain ⟨A, n, c, l⟩ := s
  obtain ⟨h1, h2, h3, h5⟩ := hs
  simp only at h0 h6 h1 h2 h3 h5 ⊢
  obtain ⟨g, o, rfl, hg, hc⟩ := h5.resolve_left (by omega)
  obtain ⟨j0, hj0, yz0, yz1, yz2⟩ := infoB_parts
  refine (Try.slices_Clone_f41 j0 (.bool false) 1 1 hj0 yz0 yz1 yz2 rfl (by decide) Try.sizeOf4 g o n c (vB l) w (by rw [vB_len]; omega) (by unfold maxLen; omega) (by omega) (fun j u hj => by
      unfold vB at hj
      rw [List.getElem?_map] at hj
      cases e : l[j]? with
      | none => rw [e] at hj; cases hj
      | some b => rw [e] at hj; cases hj; exact hc j _ e) (fun u hu => by
      unfold vB at hu
      obtain ⟨b, hb, rfl⟩ := List.mem_map.1 hu
      rfl)).mono ?_
  rintro e w' ⟨v', rfl, hr, -, hb⟩
  obtain ⟨A', c', rfl, hok⟩ := BL.of_row (l := l) hr h1 (by omega)
  exact ⟨A', c', rfl, hok, OR.newA hr, hb⟩
theorem GV.ok.setOff3 {w : World} {g : GV} (h : g.ok w) {b : Nat} (h1 : Off b g.st.n g.st.A) (h2 : Off b g.fr.n g.fr.A) (h3 : Off b g.out.n g.out.A) (u v x : Value) : g.ok (((w.setCell ⟨b, 0, .none⟩ u).setCell ⟨b, 1, .none⟩ v).setCell ⟨b, 2, .none⟩ x) :=
  ⟨((h.1.setOff h1 0 u).setOff h1 1 v).setOff h1 2 x, ((h.2.1.setOff h2 0 u).setOff h2 1 v).setOff h2 2 x, ((h.2.2.setOff h3 0 u).setOff h3 1 v).setOff h3 2 x⟩
theorem RL.ok.setOff3 {w : World} {s : RL} (h : s.ok w) {B b : Nat} (hn : s.new B) (hb : b < B) (u v x : Value) : s.ok (((w.setCell ⟨b, 0, .none⟩ u).setCell ⟨b, 1, .none⟩ v).setCell ⟨b, 2, .none⟩ x) := h.set3 hn hb u v x
theorem OR.far3 {w : World} {B sz n g : Nat} {e : TypeId} {v : Value} {xs : List Value} (h : w.ownsRow B e sz v n xs) (hg : g < B) (x y z : Value) : (((w.setCell ⟨g, 0, none⟩ x).setCell ⟨g, 1, none⟩ y).setCell ⟨g, 2, none⟩ z).ownsRow B e sz v n xs :=
  OR.far (OR.far (OR.far h hg 0 x) hg 1 y) hg 2 z
theorem cellsC {w w1 : World} {x : TypeId × Array Value} {t : TypeId} {a b c : Value} {r : List (TypeId × Array Value)} (h : Own w (x :: (t, #[a, b, c]) :: r) w1) : w1.cell? ⟨w.heap.size + 1, 0, none⟩ = some a ∧ w1.cell? ⟨w.heap.size + 1, 1, none⟩ = some b ∧ w1.cell? ⟨w.heap.size + 1, 2, none⟩ = some c := ⟨h.b1.cell 0, h.b1.cell 1, h.b1.cell 2⟩
/-- a copy of a configuration, and the box that holds it -/
def CutG (w : World) (bs : List (TypeId × Array Value)) (g : GV) (v : Value) (wc : World) : Prop :=
  ∃ (gX : Nat) (g' : GV), v = .pointer (some ⟨gX, 0, none⟩) ∧ w.heap.size + bs.length ≤ gX ∧ Own w bs wc ∧ Blk wc gX 29 #[.slice g'.st.A g'.st.n g'.st.c, .slice g'.fr.A g'.fr.n g'.fr.c, .slice g'.out.A g'.out.n g'.out.c] ∧ g'.ok wc ∧ g'.new (w.heap.size + bs.length) ∧ g'.cf = g.cf ∧ g'.st.n = g.st.n ∧ g'.fr.n = g.fr.n
theorem CutG.mk {w wc : World} {bs : List (TypeId × Array Value)} {g : GV} {gX : Nat} {A1 A2 A3 : Option Addr} {c1 c2 c3 : Nat} (hX : w.heap.size + bs.length ≤ gX) (hO : Own w bs wc) (hB : Blk wc gX 29 #[.slice none 0 0, .slice none 0 0, .slice none 0 0])
    (h1 : NL.ok wc ⟨A1, g.st.n, c1, g.st.l⟩) (h2 : BL.ok wc ⟨A2, g.fr.n, c2, g.fr.l⟩) (h3 : SL.ok wc ⟨A3, g.out.n, c3, g.out.l⟩)
    (n1 : NwA (w.heap.size + bs.length) A1) (n2 : NwA (w.heap.size + bs.length) A2) (n3 : NwA (w.heap.size + bs.length) A3) (o1 : Off gX g.st.n A1) (o2 : Off gX g.fr.n A2) (o3 : Off gX g.out.n A3) :
    CutG w bs g (.pointer (some ⟨gX, 0, none⟩)) (((wc.setCell ⟨gX, 0, none⟩ (.slice A1 g.st.n c1)).setCell ⟨gX, 1, none⟩ (.slice A2 g.fr.n c2)).setCell ⟨gX, 2, none⟩ (.slice A3 g.out.n c3)) :=
  ⟨gX, ⟨⟨A1, g.st.n, c1, g.st.l⟩, ⟨A2, g.fr.n, c2, g.fr.l⟩, ⟨A3, g.out.n, c3, g.out.l⟩⟩, rfl, hX, hO.setT hX _ _ _, hB.set3 _ _ _, GV.ok.setOff3 (g := ⟨⟨A1, g.st.n, c1, g.st.l⟩, ⟨A2, g.fr.n, c2, g.fr.l⟩, ⟨A3, g.out.n, c3, g.out.l⟩⟩) ⟨h1, h2, h3⟩ o1 o2 o3 _ _ _, ⟨n1, n2, n3⟩, rfl, rfl, rfl⟩
theorem app_R1 {ops : Array Oper} {rest : List Oper} {o : Oper} {a : Act} {Q : Exit → Act → World → Prop} {w : World} (hgd : o.guard = none) (s x : Operand)
    (ho : o.op = .call { callee := .builtin .append, args := #[s, x], argTypes := #[54, 54] })
    (B n : Nat) (v : Value) (l : List SL) (hs : a.eval s = v) (h : w.ownsRow B 27 1 v n (vR l)) (hl : n ≤ 1000000) (hB : B ≤ w.heap.size)
    (ad : Addr) (c : Nat) (y : SL) (hx : a.eval x = .slice (some ad) 1 c) (hy : ∀ j u, [Value.slice y.A y.n y.c][j]? = some u → w.cell? (ad.add j) = some u)
    (hK : ∀ g cap w', w'.ownsRow B 27 1 (.slice (some ⟨g, 0, .none⟩) (n + 1) cap) (n + 1) (vR (l ++ [y])) → w.grownBy w' v.ownBlock → (v.ownBlock = some g ∨ g = w.heap.size) → wpList Try.prog ops Q rest (a.put o.dst (.slice (some ⟨g, 0, .none⟩) (n + 1) cap)) w') :
    wpList Try.prog ops Q (o :: rest) a w := by
  obtain ⟨i0, hi0, hz0, hz1, hz2⟩ := infoR_parts
  refine wpList_append_lies w hgd s x 54 ho B 27 i0 (.slice none 0 0) 1 24 Try.underlying54 hi0 hz0 hz1 hz2 rfl (by decide) v n (vR l) hs h ad 1 c [.slice y.A y.n y.c] hx rfl hy (by intro u hu; simp at hu; subst hu; rfl) (by omega) (by unfold maxLen; omega) (by omega) hB _ rfl ?_
  intro g cap w' h1 h2 h3 h4
  exact hK g cap w' (by rw [vR_snoc]; exact h1) h2 h3

theorem run_app_R {w : World} {B n : Nat} {v : Value} {l : List SL} (h : w.ownsRow B 27 1 v n (vR l)) (hl : l.length = n) (s : RL) (hs : s.ok w) (hbb : (n + s.n) * 24 ≤ 140737488355328) (hB : B ≤ w.heap.size) (ty : TypeId) :
    ∃ A' c' w', (Builtin.append_ #[54, 54] ty #[v, .slice s.A s.n s.c]).run Try.prog w = .ok (.slice A' (n + s.n) c') w' ∧ w'.ownsRow B 27 1 (.slice A' (n + s.n) c') (n + s.n) (vR (l ++ s.l)) ∧ w.grownBy w' v.ownBlock := by
  obtain ⟨i0, hi0, hz0, hz1, hz2⟩ := infoR_parts
  obtain ⟨A, m, c, sl⟩ := s
  obtain ⟨h1, h2, h3, h4, h5⟩ := hs
  simp only at h1 h2 h3 h4 h5 hbb ⊢
  by_cases h0 : m = 0
  · subst h0
    have e : sl = [] := List.eq_nil_of_length_eq_zero h1
    subst e
    rw [List.append_nil, Nat.add_zero]
    have hsrc : Src Try.prog i0.size 54 (.slice A 0 c) 0 [] w := by
      cases A with
      | none => exact Src.ofNil w Try.underlying54 c
      | some a => exact Src.ofSlice w Try.underlying54 a 0 c [] (by simp) (fun j u hj => by simp at hj) (fun u hu => by cases hu)
    rcases h.2 with ⟨rfl, h0⟩ | ⟨g, cap, cur, rfl, h6, h7, h8, h9⟩
    · subst h0
      exact ⟨none, 0, w, run_append_nothing w 54 54 ty 27 i0 Try.underlying54 hi0 none 0 0 (Nat.le_refl _) _ hsrc, h, gbr _ _⟩
    · exact ⟨some ⟨g, 0, none⟩, cap, w, run_append_nothing w 54 54 ty 27 i0 Try.underlying54 hi0 _ n cap h8 _ hsrc, h, gbr _ _⟩
  · obtain ⟨g, o, rfl, hg, hc⟩ := h5.resolve_left h0
    obtain ⟨g', cap, w', hr, h6, h7, h8, h9⟩ := run_append_lies (P := Try.prog) w 54 ty B 27 i0 (.slice none 0 0) 1 24 Try.underlying54 hi0 hz0 hz1 hz2 rfl (by decide) v n (vR l) h ⟨g, o, none⟩ m c (vR sl) (by rw [vR_len]; omega) (fun j u hj => by
        unfold vR at hj
        rw [List.getElem?_map] at hj
        cases e : sl[j]? with
        | none => rw [e] at hj; cases hj
        | some x => rw [e] at hj; cases hj; rw [addr_add]; exact hc j _ e) (fun u hu => by
        unfold vR at hu
        obtain ⟨x, -, rfl⟩ := List.mem_map.1 hu
        rfl) (by omega) (by unfold maxLen; omega) (by omega) hB _ rfl
    refine ⟨_, cap, w', hr, ?_, h7⟩
    unfold vR at h6 ⊢
    rw [List.map_append]
    exact h6
theorem app_R {ops : Array Oper} {rest : List Oper} {o : Oper} {a : Act} {Q : Exit → Act → World → Prop} {w : World} (hgd : o.guard = none) (s x : Operand)
    (ho : o.op = .call { callee := .builtin .append, args := #[s, x], argTypes := #[54, 54] })
    (B n : Nat) (v : Value) (l : List SL) (hs : a.eval s = v) (h : w.ownsRow B 27 1 v n (vR l)) (hl : l.length = n) (hB : B ≤ w.heap.size)
    (y : RL) (hx : a.eval x = .slice y.A y.n y.c) (hy : y.ok w) (hyn : (n + y.n) * 24 ≤ 140737488355328)
    (hK : ∀ A' c' w', w'.ownsRow B 27 1 (.slice A' (n + y.n) c') (n + y.n) (vR (l ++ y.l)) → w.grownBy w' v.ownBlock → wpList Try.prog ops Q rest (a.put o.dst (.slice A' (n + y.n) c')) w') :
    wpList Try.prog ops Q (o :: rest) a w := by
  refine wpList_plain hgd fun K hK2 => ?_
  obtain ⟨A', c', w', hr, h1, h2⟩ := run_app_R h hl y hy hyn hB o.type
  unfold Oper.wp execOp
  simp only [ho, resolve, invoke, builtin, Sem.run_bind, Sem.run_pure, Result.andThen_ok, List.map_toArray, List.map_cons, List.map_nil, hs, hx, hr]
  exact hK2 _ _ (hK A' c' w' h1 h2)

end Go.Proofs.Ytgjmbmlmopomgaa
