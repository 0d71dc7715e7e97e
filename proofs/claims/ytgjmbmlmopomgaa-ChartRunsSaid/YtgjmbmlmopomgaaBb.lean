/- Rows that grow by append. -/
import Derived.Maps.AppendAt
import Derived.Deep.AppendLies
import Derived.Test.YtgjmbmlmopomgaaBa
import Derived.Test.YtgjmbmlmopomgaaCr
namespace Go.Proofs.Ytgjmbmlmopomgaa
open Go.RowKit Go.Maps
set_option linter.unusedSimpArgs false
set_option linter.unusedVariables false

theorem infoS : (Try.prog.info? 9).map (fun i => (i.zero, i.size, i.bytes)) = some (some (.string ⟨#[]⟩), 1, 16) := by kernel_rfl
theorem infoS_parts : ∃ i0, Try.prog.info? 9 = some i0 ∧ i0.zero = some (.string ⟨#[]⟩) ∧ i0.size = 1 ∧ i0.bytes = 16 := by
  have h := infoS
  match hi : Try.prog.info? 9 with
  | none => rw [hi] at h; cases h
  | some i0 =>
    rw [hi] at h
    simp at h
    exact ⟨i0, rfl, h.1, h.2.1, h.2.2⟩
theorem infoI_parts : ∃ i0, Try.prog.info? 3 = some i0 ∧ i0.zero = some (.int .i64 0) ∧ i0.size = 1 ∧ i0.bytes = 8 := by
  have h := infoI
  match hi : Try.prog.info? 3 with
  | none => rw [hi] at h; cases h
  | some i0 =>
    rw [hi] at h
    simp at h
    exact ⟨i0, rfl, h.1, h.2.1, h.2.2⟩

section
variable {w w' : World} {B sz n : Nat} {e : TypeId} {v : Value} {xs : List Value}
theorem OR.same (h : w.ownsRow B e sz v n xs) (eq : ∀ g, v.ownBlock = some g → w'.heap[g]? = w.heap[g]?) : w'.ownsRow B e sz v n xs := by
  obtain ⟨h1, h2⟩ := h
  refine ⟨h1, ?_⟩
  rcases h2 with h2 | ⟨g, cap, cur, rfl, h3, h4, h5⟩
  · exact .inl h2
  · exact .inr ⟨g, cap, cur, rfl, h3, (eq g rfl).trans h4, h5⟩
theorem OR.at (h : w.ownsRow B e sz v n xs) {g : Nat} (eq : v.ownBlock = some g) : B ≤ g ∧ g < w.heap.size := World.ownsRow.lt h g eq
theorem OR.call (h : w.ownsRow B e sz v n xs) (hb : Below w.heap.size w w') : w'.ownsRow B e sz v n xs := OR.same h fun g eq => hb.block g (OR.at h eq).2
theorem OR.more (h : w.ownsRow B e sz v n xs) (o : Obj) : (w.alloc o).ownsRow B e sz v n xs := OR.call h ((Below.refl _ _).alloc (Nat.le_refl _) _)
theorem OR.drew (h : w.ownsRow B e sz v n xs) : w.drew.ownsRow B e sz v n xs := h
theorem OR.far {g : Nat} (h : w.ownsRow B e sz v n xs) (hg : g < B) (i : Nat) (u : Value) : (w.setCell ⟨g, i, none⟩ u).ownsRow B e sz v n xs :=
  OR.same h fun g' eq => Below.heap_setCell w ⟨g, i, none⟩ u g' (by have := (OR.at h eq).1; show g' ≠ g; omega)
theorem OR.kept {b : Option Nat} (h : w.ownsRow B e sz v n xs) (hg : w.grownBy w' b) (hne : ∀ g, v.ownBlock = some g → some g ≠ b) : w'.ownsRow B e sz v n xs :=
  OR.same h fun g eq => hg.block g (OR.at h eq).2 (hne g eq)
/-- rows of different kinds lie apart -/
theorem OR.apart {B' sz' n' : Nat} {e' : TypeId} {v' : Value} {xs' : List Value} (h : w.ownsRow B e sz v n xs) (h' : w.ownsRow B' e' sz' v' n' xs') (hne : e ≠ e') {g : Nat} (hg : v.ownBlock = some g) : some g ≠ v'.ownBlock := by
  rcases h.2 with ⟨rfl, -⟩ | ⟨g1, cap, cur, rfl, -, h4, -⟩
  · cases hg
  · rcases h'.2 with ⟨rfl, -⟩ | ⟨g2, cap', cur', rfl, -, h4', -⟩
    · intro hc; cases hc
    · intro hc
      have e1 : g1 = g := by simpa [Value.ownBlock] using hg
      have e2 : g = g2 := by simpa [Value.ownBlock] using hc
      rw [e1] at h4
      rw [← e2, h4] at h4'
      injection h4' with h5
      injection h5 with _ h6
      exact hne h6
theorem Fr.grownB {b : Option Nat} (h : w.grownBy w' b) : Fr b.toList w w' :=
  ⟨h.os, h.tape, h.output, h.size, fun j hj hx => h.block j hj (fun e => hx (by rw [← e]; simp))⟩
/-- what is as it was but for a row beyond B -/
theorem Own.grown {w0 : World} {bs : List (TypeId × Array Value)} (h : Own w0 bs w) (hr : w.ownsRow B e sz v n xs) (hg : w.grownBy w' v.ownBlock) (hB : w0.heap.size + bs.length ≤ B) : Own w0 bs w' := by
  refine ⟨h.1.grown hg (by have := h.2.1; omega) (fun b hb => by have := (OR.at hr hb).1; omega), Nat.le_trans h.2.1 hg.size, fun i t cs hi => ?_⟩
  have hlt := (List.getElem?_eq_some_iff.1 hi).1
  refine (h.2.2 i t cs hi).grown hg fun hc => ?_
  have := (OR.at hr hc.symm).1
  omega
end
/-- the call's box i is written -/
theorem Own.set {w w1 : World} {bs : List (TypeId × Array Value)} (h : Own w bs w1) (i : Nat) {t : TypeId} {cs : Array Value} (hi : bs[i]? = some (t, cs)) (k : Nat) (u : Value) : Own w (bs.set i (t, cs.setIfInBounds k u)) (w1.setCell ⟨w.heap.size + i, k, none⟩ u) := by
  refine ⟨h.1.setCell (by show w.heap.size ≤ w.heap.size + i; omega) _, by simp [World.setCell]; have := h.2.1; omega, fun j t' cs' hj => ?_⟩
  rw [List.getElem?_set] at hj
  by_cases e : i = j
  · subst e
    rw [if_pos rfl] at hj
    have hlt := (List.getElem?_eq_some_iff.1 hi).1
    rw [if_pos hlt] at hj
    cases hj
    exact (h.2.2 i t cs hi).set k u
  · rw [if_neg e] at hj
    exact (h.2.2 j t' cs' hj).far (by show w.heap.size + j ≠ w.heap.size + i; omega) u

theorem cell_one_new2 (w : World) (o : Obj) (x : Value) (t : TypeId) : ∀ j u, [x][j]? = some u → ((w.alloc o).alloc (.cells #[x] t)).cell? ((⟨w.heap.size + 1, 0, none⟩ : Addr).add j) = some u := by
  intro j u hj
  have h := cell_one_new (w.alloc o) x t j u hj
  rw [show (w.alloc o).heap.size = w.heap.size + 1 by simp] at h
  exact h
theorem cell_one_newS (w : World) (p : Addr) (y x : Value) (t : TypeId) : ∀ j u, [x][j]? = some u → ((w.setCell p y).alloc (.cells #[x] t)).cell? ((⟨w.heap.size, 0, none⟩ : Addr).add j) = some u := by
  intro j u hj
  have h := cell_one_new (w.setCell p y) x t j u hj
  rw [show (w.setCell p y).heap.size = w.heap.size by simp [World.setCell]] at h
  exact h
def vB (l : List Bool) : List Value := l.map .bool
def vS (l : List ByteArray) : List Value := l.map .string
theorem vB_len (l : List Bool) : (vB l).length = l.length := by simp [vB]
theorem vS_len (l : List ByteArray) : (vS l).length = l.length := by simp [vS]
theorem vB_snoc (l : List Bool) (x : Bool) : vB (l ++ [x]) = vB l ++ [.bool x] := by simp [vB]
theorem vS_snoc (l : List ByteArray) (x : ByteArray) : vS (l ++ [x]) = vS l ++ [.string x] := by simp [vS]

/-- a row of the call's own as a slice that comes in -/
theorem NL.of_row {w : World} {B n : Nat} {v : Value} {l : List Int} (h : w.ownsRow B 3 1 v n (vz l)) (hl : l.length = n) (hi : ∀ x ∈ l, In64 x) (hn : n ≤ 17592186044416) : ∃ A c, v = .slice A n c ∧ NL.ok w ⟨A, n, c, l⟩ := by
  rcases h.2 with ⟨rfl, h0⟩ | ⟨g, cap, cur, rfl, h3, h4, h5, h6, h7⟩
  · subst h0; exact ⟨none, 0, rfl, hl, Nat.le_refl _, Nat.zero_le _, hi, .inl rfl⟩
  · exact ⟨some ⟨g, 0, none⟩, cap, rfl, hl, h5, hn, hi, .inr ⟨g, 0, rfl, (OR.at h rfl).2, fun j x hj => by
      have hjn : j < n := by rw [← hl]; exact (List.getElem?_eq_some_iff.1 hj).1
      rw [Nat.zero_add, World.ownsRow.cellAt h j (by omega)]
      exact vz_get _ _ _ hj⟩⟩
theorem BL.of_row {w : World} {B n : Nat} {v : Value} {l : List Bool} (h : w.ownsRow B 4 1 v n (vB l)) (hl : l.length = n) (hn : n ≤ 17592186044416) : ∃ A c, v = .slice A n c ∧ BL.ok w ⟨A, n, c, l⟩ := by
  rcases h.2 with ⟨rfl, h0⟩ | ⟨g, cap, cur, rfl, h3, h4, h5, h6, h7⟩
  · subst h0; exact ⟨none, 0, rfl, hl, Nat.le_refl _, Nat.zero_le _, .inl rfl⟩
  · exact ⟨some ⟨g, 0, none⟩, cap, rfl, hl, h5, Nat.le_trans hn (by decide), .inr ⟨g, 0, rfl, (OR.at h rfl).2, fun j x hj => by
      have hjn : j < n := by rw [← hl]; exact (List.getElem?_eq_some_iff.1 hj).1
      rw [Nat.zero_add, World.ownsRow.cellAt h j (by omega)]
      unfold vB
      rw [List.getElem?_map, hj]; rfl⟩⟩
theorem SL.of_row {w : World} {B n : Nat} {v : Value} {l : List ByteArray} (h : w.ownsRow B 9 1 v n (vS l)) (hl : l.length = n) (hi : ∀ x ∈ l, x.size ≤ maxLen) (hn : n ≤ 8796093022208) : ∃ A c, v = .slice A n c ∧ SL.ok w ⟨A, n, c, l⟩ := by
  rcases h.2 with ⟨rfl, h0⟩ | ⟨g, cap, cur, rfl, h3, h4, h5, h6, h7⟩
  · subst h0; exact ⟨none, 0, rfl, hl, Nat.le_refl _, Nat.zero_le _, hi, .inl rfl⟩
  · exact ⟨some ⟨g, 0, none⟩, cap, rfl, hl, h5, hn, hi, .inr ⟨g, 0, rfl, (OR.at h rfl).2, fun j x hj => by
      have hjn : j < n := by rw [← hl]; exact (List.getElem?_eq_some_iff.1 hj).1
      rw [Nat.zero_add, World.ownsRow.cellAt h j (by omega)]
      unfold vS
      rw [List.getElem?_map, hj]; rfl⟩⟩

theorem NL.row {w : World} {B n c : Nat} {A : Option Addr} {l : List Int} (h : w.ownsRow B 3 1 (.slice A n c) n (vz l)) (hl : l.length = n) (hi : ∀ x ∈ l, In64 x) (hn : n ≤ 17592186044416) : NL.ok w ⟨A, n, c, l⟩ := by
  obtain ⟨A', c', e, h2⟩ := NL.of_row h hl hi hn
  cases e; exact h2
theorem BL.row {w : World} {B n c : Nat} {A : Option Addr} {l : List Bool} (h : w.ownsRow B 4 1 (.slice A n c) n (vB l)) (hl : l.length = n) (hn : n ≤ 17592186044416) : BL.ok w ⟨A, n, c, l⟩ := by
  obtain ⟨A', c', e, h2⟩ := BL.of_row h hl hn
  cases e; exact h2
theorem SL.row {w : World} {B n c : Nat} {A : Option Addr} {l : List ByteArray} (h : w.ownsRow B 9 1 (.slice A n c) n (vS l)) (hl : l.length = n) (hi : ∀ x ∈ l, x.size ≤ maxLen) (hn : n ≤ 8796093022208) : SL.ok w ⟨A, n, c, l⟩ := by
  obtain ⟨A', c', e, h2⟩ := SL.of_row h hl hi hn
  cases e; exact h2
theorem SL.none (w : World) : SL.ok w ⟨none, 0, 0, []⟩ := ⟨rfl, Nat.le_refl _, Nat.zero_le _, fun x hx => by simp at hx, .inl rfl⟩
theorem NL.none (w : World) : NL.ok w ⟨none, 0, 0, []⟩ := ⟨rfl, Nat.le_refl _, Nat.zero_le _, fun x hx => by simp at hx, .inl rfl⟩
theorem BL.none (w : World) : BL.ok w ⟨none, 0, 0, []⟩ := ⟨rfl, Nat.le_refl _, Nat.zero_le _, .inl rfl⟩
theorem GV.none (w : World) : GV.ok w ⟨⟨none, 0, 0, []⟩, ⟨none, 0, 0, []⟩, ⟨none, 0, 0, []⟩⟩ := ⟨NL.none w, BL.none w, SL.none w⟩

theorem app_I {ops : Array Oper} {rest : List Oper} {o : Oper} {a : Act} {Q : Exit → Act → World → Prop} {w : World} (hgd : o.guard = none) (s x : Operand)
    (ho : o.op = .call { callee := .builtin .append, args := #[s, x], argTypes := #[25, 25] })
    (B n : Nat) (v : Value) (l : List Int) (hs : a.eval s = v) (h : w.ownsRow B 3 1 v n (vz l)) (hl : n ≤ 1000000) (hB : B ≤ w.heap.size)
    (ad : Addr) (c : Nat) (y : Int) (hx : a.eval x = .slice (some ad) 1 c) (hy : ∀ j u, [Value.int .i64 y][j]? = some u → w.cell? (ad.add j) = some u)
    (hK : ∀ g cap w', w'.ownsRow B 3 1 (.slice (some ⟨g, 0, .none⟩) (n + 1) cap) (n + 1) (vz (l ++ [y])) → w.grownBy w' v.ownBlock → (v.ownBlock = some g ∨ g = w.heap.size) → wpList Try.prog ops Q rest (a.put o.dst (.slice (some ⟨g, 0, .none⟩) (n + 1) cap)) w') :
    wpList Try.prog ops Q (o :: rest) a w := by
  obtain ⟨i0, hi0, hz0, hz1, hz2⟩ := infoI_parts
  refine wpList_append_lies w hgd s x 25 ho B 3 i0 (.int .i64 0) 1 8 Try.underlying25 hi0 hz0 hz1 hz2 rfl (by decide) v n (vz l) hs h ad 1 c [.int .i64 y] hx rfl hy (by intro u hu; simp at hu; subst hu; rfl) (by omega) (by unfold maxLen; omega) (by omega) hB _ rfl ?_
  intro g cap w' h1 h2 h3 h4
  exact hK g cap w' (by rw [vz_snoc]; exact h1) h2 h3

/-- a configuration that lies beyond B -/
def GV.new (B : Nat) (g : GV) : Prop := (∀ a, g.st.A = some a → B ≤ a.block) ∧ (∀ a, g.fr.A = some a → B ≤ a.block) ∧ (∀ a, g.out.A = some a → B ≤ a.block)
theorem GV.new.mono {B B' : Nat} {g : GV} (h : g.new B) (hb : B' ≤ B) : g.new B' := ⟨fun a e => Nat.le_trans hb (h.1 a e), fun a e => Nat.le_trans hb (h.2.1 a e), fun a e => Nat.le_trans hb (h.2.2 a e)⟩
theorem SL.ok.set {w : World} {s : SL} (h : s.ok w) {b : Nat} (hb : ∀ a, s.A = some a → b < a.block) (i : Nat) (u : Value) : s.ok (w.setCell ⟨b, i, .none⟩ u) := by
  obtain ⟨h1, h2, h3, h4, h5⟩ := h
  refine ⟨h1, h2, h3, h4, ?_⟩
  rcases h5 with h5 | ⟨g, o, e, hg, hc⟩
  · exact .inl h5
  · refine .inr ⟨g, o, e, by simpa [World.setCell] using hg, fun j z hj => ?_⟩
    rw [← hc j z hj]
    unfold World.cell?
    rw [Below.heap_setCell w ⟨b, i, .none⟩ u g (by have : b < g := hb _ e; show g ≠ b; omega)]
theorem NL.ok.set {w : World} {s : NL} (h : s.ok w) {b : Nat} (hb : ∀ a, s.A = some a → b < a.block) (i : Nat) (u : Value) : s.ok (w.setCell ⟨b, i, .none⟩ u) := by
  obtain ⟨h1, h2, h3, h4, h5⟩ := h
  refine ⟨h1, h2, h3, h4, ?_⟩
  rcases h5 with h5 | ⟨g, o, e, hg, hc⟩
  · exact .inl h5
  · refine .inr ⟨g, o, e, by simpa [World.setCell] using hg, fun j z hj => ?_⟩
    rw [← hc j z hj]
    unfold World.cell?
    rw [Below.heap_setCell w ⟨b, i, .none⟩ u g (by have : b < g := hb _ e; show g ≠ b; omega)]
theorem BL.ok.set {w : World} {s : BL} (h : s.ok w) {b : Nat} (hb : ∀ a, s.A = some a → b < a.block) (i : Nat) (u : Value) : s.ok (w.setCell ⟨b, i, .none⟩ u) := by
  obtain ⟨h1, h2, h3, h5⟩ := h
  refine ⟨h1, h2, h3, ?_⟩
  rcases h5 with h5 | ⟨g, o, e, hg, hc⟩
  · exact .inl h5
  · refine .inr ⟨g, o, e, by simpa [World.setCell] using hg, fun j z hj => ?_⟩
    rw [← hc j z hj]
    unfold World.cell?
    rw [Below.heap_setCell w ⟨b, i, .none⟩ u g (by have : b < g := hb _ e; show g ≠ b; omega)]
theorem GV.ok.set {w : World} {g : GV} {B : Nat} (h : g.ok w) (hn : g.new B) {b : Nat} (hb : b < B) (i : Nat) (u : Value) : g.ok (w.setCell ⟨b, i, .none⟩ u) :=
  ⟨h.1.set (fun a e => Nat.lt_of_lt_of_le hb (hn.1 a e)) i u, h.2.1.set (fun a e => Nat.lt_of_lt_of_le hb (hn.2.1 a e)) i u, h.2.2.set (fun a e => Nat.lt_of_lt_of_le hb (hn.2.2 a e)) i u⟩
theorem GV.ok.set3 {w : World} {g : GV} {B : Nat} (h : g.ok w) (hn : g.new B) {b : Nat} (hb : b < B) (u v x : Value) : g.ok (((w.setCell ⟨b, 0, .none⟩ u).setCell ⟨b, 1, .none⟩ v).setCell ⟨b, 2, .none⟩ x) :=
  ((h.set hn hb 0 u).set hn hb 1 v).set hn hb 2 x

end Go.Proofs.Ytgjmbmlmopomgaa
