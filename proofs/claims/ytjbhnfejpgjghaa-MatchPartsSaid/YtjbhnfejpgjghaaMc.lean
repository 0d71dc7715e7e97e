/- Matchings: what is computed (plain), and how the world holds it. -/
import Derived.Test.YtjbhnfejpgjghaaMa
import Derived.Test.YtjbhnfejpgjghaaMb
namespace Go.Proofs.Ytjbhnfejpgjghaa
open Go.RowKit
set_option linter.unusedSimpArgs false
set_option linter.unusedVariables false

/-! ## the plain search -/
def upd {α : Type} (f : Nat → α) (i : Nat) (v : α) : Nat → α := fun j => if j = i then v else f j
theorem upd_same {α : Type} (f : Nat → α) (i : Nat) (v : α) : upd f i v i = v := by simp [upd]
theorem upd_other {α : Type} (f : Nat → α) (i j : Nat) (v : α) (h : j ≠ i) : upd f i v j = f j := by simp [upd, h]

structure MS where
  row : Nat → Int
  col : Nat → Int
  seen : Nat → Bool

def MS.mark (st : MS) (k : Nat) : MS := ⟨st.row, st.col, upd st.seen k true⟩
def MS.pair (st : MS) (i k : Nat) : MS := ⟨upd st.row i (k : Int), upd st.col k (i : Int), st.seen⟩

/-- the unknowns of one equation, one after the other; rec looks on from the equation that has the unknown -/
def scan (ok : Nat → Bool) (rec : Nat → MS → Bool × MS) (i : Nat) : List Nat → MS → Bool × MS
  | [], st => (false, st)
  | k :: ks, st =>
    if (st.seen k || !ok k) = true then scan ok rec i ks st
    else if st.col k < 0 then (true, (st.mark k).pair i k)
    else if (rec (st.col k).toNat (st.mark k)).1 = true then (true, ((rec (st.col k).toNat (st.mark k)).2).pair i k)
    else scan ok rec i ks (rec (st.col k).toNat (st.mark k)).2

def tries (E : List (List Nat)) (ok : Nat → Bool) : Nat → Nat → MS → Bool × MS
  | 0, _, st => (false, st)
  | f + 1, i, st => scan ok (tries E ok f) i (E.getD i []) st

theorem scan_mono (ok : Nat → Bool) (rec : Nat → MS → Bool × MS) (i : Nat) (hr : ∀ j st k, st.seen k = true → (rec j st).2.seen k = true) :
    ∀ (ks : List Nat) (st : MS) (k : Nat), st.seen k = true → (scan ok rec i ks st).2.seen k = true := by
  intro ks
  induction ks with
  | nil => intro st k h; exact h
  | cons a ks ih =>
    intro st k h
    have hm : (st.mark a).seen k = true := by
      show (upd st.seen a true) k = true
      by_cases e : k = a
      · rw [e, upd_same]
      · rw [upd_other _ _ _ _ e]; exact h
    unfold scan
    split
    · exact ih st k h
    · split
      · exact hm
      · split
        · exact hr _ _ _ hm
        · exact ih _ _ (hr _ _ _ hm)

theorem tries_mono (E : List (List Nat)) (ok : Nat → Bool) : ∀ (f i : Nat) (st : MS) (k : Nat), st.seen k = true → (tries E ok f i st).2.seen k = true := by
  intro f
  induction f with
  | zero => intro i st k h; exact h
  | succ f ih => intro i st k h; exact scan_mono ok _ i ih _ _ _ h

theorem scan_col (ok : Nat → Bool) (rec : Nat → MS → Bool × MS) (i : Nat) (hm : ∀ j st k, st.seen k = true → (rec j st).2.seen k = true)
    (hr : ∀ j st k, st.seen k = true → (rec j st).2.col k = st.col k) :
    ∀ (ks : List Nat) (st : MS) (k : Nat), st.seen k = true → (scan ok rec i ks st).2.col k = st.col k := by
  intro ks
  induction ks with
  | nil => intro st k h; rfl
  | cons a ks ih =>
    intro st k h
    have hmk : (st.mark a).seen k = true := by
      show (upd st.seen a true) k = true
      by_cases e : k = a
      · rw [e, upd_same]
      · rw [upd_other _ _ _ _ e]; exact h
    unfold scan
    split
    · exact ih st k h
    · rename_i hc
      have hka : k ≠ a := by
        rintro rfl
        rw [h] at hc
        simp at hc
      split
      · exact upd_other _ _ _ _ hka
      · split
        · exact (upd_other _ _ _ _ hka).trans (hr _ _ _ hmk)
        · exact (ih _ _ (hm _ _ _ hmk)).trans (hr _ _ _ hmk)

theorem tries_col (E : List (List Nat)) (ok : Nat → Bool) : ∀ (f i : Nat) (st : MS) (k : Nat), st.seen k = true → (tries E ok f i st).2.col k = st.col k := by
  intro f
  induction f with
  | zero => intro i st k h; rfl
  | succ f ih => intro i st k h; exact scan_col ok _ i (tries_mono E ok f) ih _ _ _ h

/-- how many of C unknowns were not met -/
def uns (C : Nat) (s : Nat → Bool) : Nat := ((List.range C).filter fun k => !s k).length
theorem filter_le {α : Type} (p q : α → Bool) : ∀ (l : List α), (∀ x ∈ l, p x = true → q x = true) → (l.filter p).length ≤ (l.filter q).length := by
  intro l
  induction l with
  | nil => intro _; simp
  | cons a l ih =>
    intro h
    have h1 := ih fun x hx => h x (List.mem_cons_of_mem _ hx)
    by_cases hp : p a = true
    · have hq := h a (List.mem_cons_self ..) hp
      simp [hp, hq]; omega
    · by_cases hq : q a = true
      · simp [hp, hq]; omega
      · simp [hp, hq]; omega
theorem filter_lt {α : Type} (p q : α → Bool) : ∀ (l : List α), (∀ x ∈ l, p x = true → q x = true) → (∃ x ∈ l, p x = false ∧ q x = true) → (l.filter p).length < (l.filter q).length := by
  intro l
  induction l with
  | nil => intro _ ⟨x, hx, _⟩; cases hx
  | cons a l ih =>
    intro h ⟨x, hx, hp, hq⟩
    have hl := filter_le p q l fun x hx => h x (List.mem_cons_of_mem _ hx)
    rcases List.mem_cons.1 hx with rfl | hx
    · simp [hp, hq]; omega
    · have h1 := ih (fun x hx => h x (List.mem_cons_of_mem _ hx)) ⟨x, hx, hp, hq⟩
      by_cases hpa : p a = true
      · have hqa := h a (List.mem_cons_self ..) hpa
        simp [hpa, hqa]; omega
      · by_cases hqa : q a = true
        · simp [hpa, hqa]; omega
        · simp [hpa, hqa]; omega
theorem uns_le {C : Nat} {s s' : Nat → Bool} (h : ∀ k, s k = true → s' k = true) : uns C s' ≤ uns C s := by
  refine filter_le _ _ _ fun k _ hk => ?_
  by_cases e : s k = true
  · rw [h k e] at hk; simp at hk
  · simpa using e
theorem uns_lt {C : Nat} {s s' : Nat → Bool} (h : ∀ k, s k = true → s' k = true) {k : Nat} (hk : k < C) (h0 : s k = false) (h1 : s' k = true) : uns C s' < uns C s := by
  refine filter_lt _ _ _ (fun k _ hk => ?_) ⟨k, List.mem_range.2 hk, by simp [h1], by simp [h0]⟩
  by_cases e : s k = true
  · rw [h k e] at hk; simp at hk
  · simpa using e
theorem uns_mark {C k : Nat} {st : MS} (hk : k < C) (h0 : st.seen k = false) : uns C (st.mark k).seen < uns C st.seen := by
  refine uns_lt (fun j hj => ?_) hk h0 (upd_same _ _ _)
  show upd st.seen k true j = true
  by_cases e : j = k
  · rw [e, upd_same]
  · rw [upd_other _ _ _ _ e]; exact hj
theorem uns_all (C : Nat) (s : Nat → Bool) : uns C s ≤ C := by
  have := List.length_filter_le (fun k => !s k) (List.range C)
  simpa [uns] using this

/-- what unknowns' equations are -/
def ColOk (R C : Nat) (st : MS) : Prop := ∀ k, k < C → st.col k < (R : Int) ∧ -1 ≤ st.col k
theorem ColOk.mark {R C k : Nat} {st : MS} (h : ColOk R C st) : ColOk R C (st.mark k) := h
theorem ColOk.pair {R C i k : Nat} {st : MS} (h : ColOk R C st) (hi : i < R) : ColOk R C (st.pair i k) := by
  intro j hj
  show upd st.col k (i : Int) j < _ ∧ _ ≤ upd st.col k (i : Int) j
  by_cases e : j = k
  · rw [e, upd_same]; omega
  · rw [upd_other _ _ _ _ e]; exact h j hj

/-! ## the world -/
/-- a slice of numbers that lies below B -/
def N1 (B : Nat) (w : World) (A : Option Addr) (n c : Nat) (zs : List Nat) : Prop :=
  zs.length = n ∧ n ≤ 17592186044416 ∧ (n = 0 ∨ ∃ g o, A = some ⟨g, o, none⟩ ∧ g < B ∧ ∀ (j z : Nat), zs[j]? = some z → w.cell? ⟨g, o + j, none⟩ = some (.int .i64 (z : Int)))
def N2 (B : Nat) (w : World) (A : Option Addr) (n c : Nat) (E : List (List Nat)) : Prop :=
  E.length = n ∧ n ≤ 17592186044416 ∧ (n = 0 ∨ ∃ g o, A = some ⟨g, o, none⟩ ∧ g < B ∧ ∀ j zs, E[j]? = some zs → ∃ A' n' c', w.cell? ⟨g, o + j, none⟩ = some (.slice A' n' c') ∧ N1 B w A' n' c' zs)
theorem N1.below {B : Nat} {w w' : World} {A n c zs} (h : N1 B w A n c zs) (hb : Below B w w') : N1 B w' A n c zs := by
  obtain ⟨h1, h2, h4⟩ := h
  refine ⟨h1, h2, ?_⟩
  rcases h4 with h4 | ⟨g, o, rfl, hg, hc⟩
  · exact .inl h4
  · exact .inr ⟨g, o, rfl, hg, fun j z hj => (hb.cell (p := ⟨g, o + j, none⟩) hg).trans (hc j z hj)⟩
theorem N2.below {B : Nat} {w w' : World} {A n c E} (h : N2 B w A n c E) (hb : Below B w w') : N2 B w' A n c E := by
  obtain ⟨h1, h2, h4⟩ := h
  refine ⟨h1, h2, ?_⟩
  rcases h4 with h4 | ⟨g, o, rfl, hg, hc⟩
  · exact .inl h4
  · refine .inr ⟨g, o, rfl, hg, fun j zs hj => ?_⟩
    obtain ⟨A', n', c', h5, h6⟩ := hc j zs hj
    exact ⟨A', n', c', (hb.cell (p := ⟨g, o + j, none⟩) hg).trans h5, h6.below hb⟩
theorem N1.same {B : Nat} {w w' : World} {A n c zs} (h : N1 B w A n c zs) (e : ∀ k, k < B → w'.heap[k]? = w.heap[k]?) : N1 B w' A n c zs := by
  obtain ⟨h1, h2, h4⟩ := h
  refine ⟨h1, h2, ?_⟩
  rcases h4 with h4 | ⟨g, o, rfl, hg, hc⟩
  · exact .inl h4
  · exact .inr ⟨g, o, rfl, hg, fun j z hj => (World.cell?_of_block (a := ⟨g, o + j, none⟩) (e g hg)).trans (hc j z hj)⟩
theorem N1.cell {B : Nat} {w : World} {A n c zs} (h : N1 B w A n c zs) {j : Nat} (hj : j < n) : ∃ g o z, A = some ⟨g, o, none⟩ ∧ zs[j]? = some z ∧ w.cell? ⟨g, o + j, none⟩ = some (.int .i64 (z : Int)) := by
  obtain ⟨h1, h2, h4⟩ := h
  rcases h4 with h4 | ⟨g, o, rfl, hg, hc⟩
  · omega
  · have e : zs[j]? = some zs[j] := List.getElem?_eq_getElem (by omega)
    exact ⟨g, o, _, rfl, e, hc j _ e⟩
theorem N2.cell {B : Nat} {w : World} {A n c E} (h : N2 B w A n c E) {j : Nat} (hj : j < n) : ∃ g o zs A' n' c', A = some ⟨g, o, none⟩ ∧ E[j]? = some zs ∧ w.cell? ⟨g, o + j, none⟩ = some (.slice A' n' c') ∧ N1 B w A' n' c' zs := by
  obtain ⟨h1, h2, h4⟩ := h
  rcases h4 with h4 | ⟨g, o, rfl, hg, hc⟩
  · omega
  · have e : E[j]? = some E[j] := List.getElem?_eq_getElem (by omega)
    obtain ⟨A', n', c', h5, h6⟩ := hc j _ e
    exact ⟨g, o, _, A', n', c', rfl, e, h5, h6⟩

/-- the world is as it was, but for new blocks and the blocks xs -/
structure Fr (xs : List Nat) (w w' : World) : Prop where
  os : w'.os = w.os
  tape : w'.tape = w.tape
  output : w'.output = w.output
  size : w.heap.size ≤ w'.heap.size
  block : ∀ j, j < w.heap.size → j ∉ xs → w'.heap[j]? = w.heap[j]?
section
variable {xs : List Nat} {w w1 w2 : World}
theorem Fr.refl (xs : List Nat) (w : World) : Fr xs w w := ⟨rfl, rfl, rfl, Nat.le_refl _, fun _ _ _ => rfl⟩
theorem Fr.trans (h : Fr xs w w1) (k : Fr xs w1 w2) : Fr xs w w2 :=
  ⟨k.os.trans h.os, k.tape.trans h.tape, k.output.trans h.output, Nat.le_trans h.size k.size, fun j hj hx => (k.block j (Nat.lt_of_lt_of_le hj h.size) hx).trans (h.block j hj hx)⟩
theorem Fr.call (h : Fr xs w w1) (k : Below w1.heap.size w1 w2) : Fr xs w w2 := h.trans ⟨k.os, k.tape, k.output, k.size, fun j hj _ => k.block j hj⟩
theorem Fr.drew (h : Fr xs w w1) : Fr xs w w1.drew := ⟨h.os, h.tape, h.output, h.size, h.block⟩
theorem Fr.drewN (h : Fr xs w w1) (n : Nat) : Fr xs w (w1.drewN n) := ⟨h.os, h.tape, h.output, h.size, h.block⟩
theorem Fr.set (h : Fr xs w w1) {p : Addr} (hp : p.block ∈ xs) (u : Value) : Fr xs w (w1.setCell p u) :=
  h.trans ⟨rfl, rfl, rfl, by simp [World.setCell], fun j hj hx => Below.heap_setCell _ _ _ _ (by rintro rfl; exact hx hp)⟩
theorem Fr.alloc (h : Fr xs w w1) (o : Obj) : Fr xs w (w1.alloc o) := h.call ((Below.refl _ _).alloc (Nat.le_refl _) _)
theorem Fr.below (h : Fr xs w w1) {B : Nat} (hB : B ≤ w.heap.size) (hx : ∀ x ∈ xs, B ≤ x) : Below B w w1 :=
  ⟨h.os, h.tape, h.output, h.size, fun j hj => h.block j (by omega) (fun hm => by have := hx j hm; omega)⟩
theorem Fr.blk (h : Fr xs w w1) {g : Nat} {t : TypeId} {cs : Array Value} (hb : Blk w g t cs) (hx : g ∉ xs) : Blk w1 g t cs := (h.block g hb.lt hx).trans hb
theorem Fr.more {ys : List Nat} (h : Fr xs w w1) (hs : ∀ x ∈ xs, x ∈ ys) : Fr ys w w1 := ⟨h.os, h.tape, h.output, h.size, fun j hj hy => h.block j hj fun hx => hy (hs j hx)⟩
end

theorem Blk.set {w : World} {g : Nat} {t : TypeId} {cs : Array Value} (h : Blk w g t cs) (i : Nat) (u : Value) : Blk (w.setCell ⟨g, i, none⟩ u) g t (cs.setIfInBounds i u) := by
  unfold Blk at *
  simp [World.setCell, Array.getElem?_modify, h]

/-- a row of N numbers of the call's own, as a function -/
def RF (w : World) (g N : Nat) (f : Nat → Int) : Prop := RI w g N ((List.range N).map f)
theorem range_set (N : Nat) (f : Nat → Int) (i : Nat) (v : Int) : ((List.range N).map f).set i v = (List.range N).map (upd f i v) := by
  apply List.ext_getElem?
  intro j
  rw [List.getElem?_set]
  by_cases hj : j < N
  · by_cases e : i = j
    · subst e; simp [hj, upd_same]
    · simp [hj, e, upd_other _ _ _ _ (Ne.symm e)]
  · by_cases e : i = j
    · subst e; simp [hj]
    · simp [hj, e]
section
variable {w w' : World} {g N : Nat} {f : Nat → Int}
theorem RF.lt (h : RF w g N f) : g < w.heap.size := RI.lt h
theorem RF.cell (h : RF w g N f) {i : Nat} (hi : i < N) : w.cell? ⟨g, i, none⟩ = some (.int .i64 (f i)) := by
  obtain ⟨x, hx, hc⟩ := RI.cell h hi
  simp [hi] at hx
  rw [hc, hx]
theorem RF.frozen (h : RF w g N f) (i : Nat) : w.frozen? ⟨g, i, none⟩ = false := RI.frozen h i
theorem RF.set (h : RF w g N f) (i : Nat) (v : Int) : RF (w.setCell ⟨g, i, none⟩ (.int .i64 v)) g N (upd f i v) := by
  have := RI.set h i v
  rw [range_set] at this
  exact this
theorem RF.other {g' : Nat} (h : RF w g N f) (hne : g ≠ g') (i : Nat) (u : Value) : RF (w.setCell ⟨g', i, none⟩ u) g N f := RI.other h hne i u
theorem RF.drew (h : RF w g N f) : RF w.drew g N f := h
theorem RF.drewN (h : RF w g N f) (k : Nat) : RF (w.drewN k) g N f := h
theorem RF.call (h : RF w g N f) (hb : Below w.heap.size w w') : RF w' g N f := RI.call h hb
theorem RF.same (h : RF w g N f) (e : w'.heap[g]? = w.heap[g]?) : RF w' g N f := by
  obtain ⟨h1, h2⟩ := h
  refine ⟨h1, ?_⟩
  rcases h2 with ⟨e', -⟩ | ⟨g', cap, cur, e', h3, h4, h5⟩
  · cases e'
  · have e2 : g = g' := by injection e' with e' _ _; injection e' with e'; injection e'
    exact .inr ⟨g', cap, cur, e', h3, by rw [← e2, e, e2]; exact h4, h5⟩
theorem RF.fr {xs : List Nat} (h : RF w g N f) (hf : Fr xs w w') (hx : g ∉ xs) : RF w' g N f := h.same (hf.block g h.lt hx)
end

end Go.Proofs.Ytjbhnfejpgjghaa

/- The search for a way, as the program has it: a closure that calls itself. -/
namespace Go.Proofs.Ytjbhnfejpgjghaa
open Go.RowKit
set_option linter.unusedSimpArgs false
set_option linter.unusedVariables false

/-- where the search has its variables, and what does not change -/
structure GT where
  gM : Nat
  gS : Nat
  gC : Nat
  gP : Nat
  gT : Nat
  gRow : Nat
  gCol : Nat
  gU : Nat
  oU : Obj
  B : Nat
  AE : Option Addr
  nE : Nat
  cE : Nat
  fC : FuncId
  capC : Array Value
  R : Nat
  C : Nat
  E : List (List Nat)
  ok : Nat → Bool

def GT.caps (z : GT) : Array Value := #[.pointer (some ⟨z.gM, 0, none⟩), .pointer (some ⟨z.gS, 0, none⟩), .pointer (some ⟨z.gC, 0, none⟩), .pointer (some ⟨z.gP, 0, none⟩), .pointer (some ⟨z.gT, 0, none⟩)]

/-- what holds of them once and for all -/
def GT.Fine (z : GT) : Prop :=
  (z.R ≤ 64 ∧ z.C ≤ 64 ∧ z.nE = z.R ∧ ∀ l ∈ z.E, ∀ k ∈ l, k < z.C) ∧
  (z.B ≤ z.gS ∧ z.B ≤ z.gRow ∧ z.B ≤ z.gCol) ∧
  (z.gS ≠ z.gRow ∧ z.gS ≠ z.gCol ∧ z.gRow ≠ z.gCol) ∧
  (∀ g ∈ [z.gM, z.gC, z.gP, z.gT, z.gU], g ∉ [z.gS, z.gRow, z.gCol]) ∧
  (∀ (args : Array Value) (w : World), (callFunc z.fC args).run Try.prog w = .ok (.enter z.fC args) w) ∧
  (∀ (w : World) (k : Nat), w.heap[z.gU]? = some z.oU → k < z.C → Calls Try.prog z.fC (#[.int .i64 (k : Int)] ++ z.capC) w fun e w' => e = .returned (.bool (z.ok k)) ∧ Below w.heap.size w w')

/-- the world holds this state of the search -/
def GS (z : GT) (st : MS) (w : World) : Prop :=
  Blk w z.gM 33 #[.int .i64 (z.R : Int), .int .i64 (z.C : Int), .slice z.AE z.nE z.cE] ∧
  Blk w z.gC 56 #[.func (.func z.fC) #[] z.capC] ∧
  Blk w z.gP 62 #[.slice (some ⟨z.gRow, 0, none⟩) z.R z.R, .slice (some ⟨z.gCol, 0, none⟩) z.C z.C] ∧
  Blk w z.gT 56 #[.func (.func 68) #[] z.caps] ∧
  w.heap[z.gU]? = some z.oU ∧ z.gU < w.heap.size ∧ z.B ≤ w.heap.size ∧
  N2 z.B w z.AE z.nE z.cE z.E ∧
  RF w z.gRow z.R st.row ∧ RF w z.gCol z.C st.col ∧ z.gS < w.heap.size ∧
  ∃ s s1 : Nat, s < 18446744073709551616 ∧ Blk w z.gS 55 #[.int .u64 (s : Int), .int .u64 (s1 : Int)] ∧ ∀ k, k < 64 → s.testBit k = st.seen k

def GT.xs (z : GT) : List Nat := [z.gS, z.gRow, z.gCol]

theorem GS.call {z : GT} {st : MS} {w w' : World} (h : GS z st w) (hb : Below w.heap.size w w') : GS z st w' := by
  obtain ⟨h1, h2, h3, h4, h5, h6, h7, h8, h9, h10, h11, s, s1, h12, h13, h14⟩ := h
  exact ⟨h1.call hb, h2.call hb, h3.call hb, h4.call hb, (hb.block _ h6).trans h5, Nat.lt_of_lt_of_le h6 hb.size, Nat.le_trans h7 hb.size, h8.below (hb.mono h7), h9.call hb, h10.call hb, Nat.lt_of_lt_of_le h11 hb.size, s, s1, h12, h13.call hb, h14⟩
theorem GS.drew {z : GT} {st : MS} {w : World} (h : GS z st w) : GS z st w.drew := h.call (Below.refl _ _).drew

theorem GS.drewN {z : GT} {st : MS} {w : World} (h : GS z st w) (n : Nat) : GS z st (w.drewN n) := h.call (bdN (Below.refl _ _) n)

/-- what the search leaves unchanged -/
theorem GS.keep {z : GT} (hz : z.Fine) {st st' : MS} {w w' : World} (h : GS z st w) (hf : Fr z.xs w w')
    (hr : RF w' z.gRow z.R st'.row) (hc : RF w' z.gCol z.C st'.col)
    (hs : ∃ s s1 : Nat, s < 18446744073709551616 ∧ Blk w' z.gS 55 #[.int .u64 (s : Int), .int .u64 (s1 : Int)] ∧ ∀ k, k < 64 → s.testBit k = st'.seen k) : GS z st' w' := by
  obtain ⟨h1, h2, h3, h4, h5, h6, h7, h8, h9, h10, h11, -⟩ := h
  obtain ⟨-, ⟨b1, b2, b3⟩, -, hn, -, -⟩ := hz
  have hB : Below z.B w w' := hf.below h7 (by simp [GT.xs]; omega)
  refine ⟨hf.blk h1 (hn _ (by simp)), hf.blk h2 (hn _ (by simp)), hf.blk h3 (hn _ (by simp)), hf.blk h4 (hn _ (by simp)), (hf.block _ h6 (hn _ (by simp))).trans h5, Nat.lt_of_lt_of_le h6 hf.size, Nat.le_trans h7 hf.size, h8.below hB, hr, hc, Nat.lt_of_lt_of_le h11 hf.size, hs⟩

theorem testBit_or {s k j : Nat} : (s ||| 2 ^ k).testBit j = (if j = k then true else s.testBit j) := by
  rw [Nat.testBit_or, Nat.testBit_two_pow]
  by_cases e : k = j
  · simp [e]
  · simp [e, Ne.symm e]

/-- the mark is stored -/
theorem GS.marked {z : GT} (hz : z.Fine) {st : MS} {w : World} {k s s1 : Nat} (h : GS z st w) (hk : k < 64) (hs : s < 18446744073709551616)
    (hb : Blk w z.gS 55 #[.int .u64 (s : Int), .int .u64 (s1 : Int)]) (ht : ∀ k, k < 64 → s.testBit k = st.seen k) :
    GS z (st.mark k) ((w.setCell ⟨z.gS, 0, none⟩ (.int .u64 ((s ||| 2 ^ k : Nat) : Int))).setCell ⟨z.gS, 1, none⟩ (.int .u64 (s1 : Int))) ∧
    Fr z.xs w ((w.setCell ⟨z.gS, 0, none⟩ (.int .u64 ((s ||| 2 ^ k : Nat) : Int))).setCell ⟨z.gS, 1, none⟩ (.int .u64 (s1 : Int))) := by
  have hf : Fr z.xs w ((w.setCell ⟨z.gS, 0, none⟩ (.int .u64 ((s ||| 2 ^ k : Nat) : Int))).setCell ⟨z.gS, 1, none⟩ (.int .u64 (s1 : Int))) := ((Fr.refl _ _).set (by simp [GT.xs]) _).set (by simp [GT.xs]) _
  refine ⟨GS.keep hz h hf ?_ ?_ ⟨s ||| 2 ^ k, s1, or_bit hs hk, ?_, ?_⟩, hf⟩
  · exact (h.2.2.2.2.2.2.2.2.1.other hz.2.2.1.1.symm _ _).other hz.2.2.1.1.symm _ _
  · exact (h.2.2.2.2.2.2.2.2.2.1.other hz.2.2.1.2.1.symm _ _).other hz.2.2.1.2.1.symm _ _
  · simpa using (hb.set 0 (.int .u64 ((s ||| 2 ^ k : Nat) : Int))).set 1 (.int .u64 (s1 : Int))
  · intro j hj
    rw [testBit_or]
    show _ = upd st.seen k true j
    unfold upd
    rw [ht j hj]

/-- the pair is stored -/
theorem GS.paired {z : GT} (hz : z.Fine) {st : MS} {w : World} {i k : Nat} (h : GS z st w) :
    GS z (st.pair i k) ((w.setCell ⟨z.gRow, i, none⟩ (.int .i64 (k : Int))).setCell ⟨z.gCol, k, none⟩ (.int .i64 (i : Int))) ∧
    Fr z.xs w ((w.setCell ⟨z.gRow, i, none⟩ (.int .i64 (k : Int))).setCell ⟨z.gCol, k, none⟩ (.int .i64 (i : Int))) := by
  have hf : Fr z.xs w ((w.setCell ⟨z.gRow, i, none⟩ (.int .i64 (k : Int))).setCell ⟨z.gCol, k, none⟩ (.int .i64 (i : Int))) := ((Fr.refl _ _).set (by simp [GT.xs]) _).set (by simp [GT.xs]) _
  obtain ⟨s, s1, h12, h13, h14⟩ := h.2.2.2.2.2.2.2.2.2.2.2
  refine ⟨GS.keep hz h hf ?_ ?_ ⟨s, s1, h12, ?_, h14⟩, hf⟩
  · exact (h.2.2.2.2.2.2.2.2.1.set i (k : Int)).other hz.2.2.1.2.2 _ _
  · exact (h.2.2.2.2.2.2.2.2.2.1.other hz.2.2.1.2.2.symm _ _).set k (i : Int)
  · exact (h13.far hz.2.2.1.1 _).far hz.2.2.1.2.1 _


end Go.Proofs.Ytjbhnfejpgjghaa
