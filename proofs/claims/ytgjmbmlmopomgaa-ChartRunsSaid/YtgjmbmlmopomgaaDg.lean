/- Bounds of a reaction; the loop's relation. -/
import Derived.Test.YtgjmbmlmopomgaaDe
namespace Go.Proofs.Ytgjmbmlmopomgaa
open Go.RowKit Go.Maps Lib
set_option linter.unusedSimpArgs false
set_option linter.unusedVariables false

theorem CV.em64 {c : CV} (h : c.valid = 0) {k j : Nat} {m : McV} {v : MvV} (hm : c.l[k]? = some m) (hv : m.mv.l[j]? = some v) : v.em.n ≤ 64 := by
  have hb := (CV.fineOf h).1
  unfold CV.big at hb
  simp only [Bool.or_eq_false_iff] at hb
  have h1 := List.any_eq_false.1 hb.2 m (List.mem_of_getElem? hm)
  unfold McV.big at h1
  simp only [Bool.not_eq_true, Bool.or_eq_false_iff] at h1
  have h2 := List.any_eq_false.1 h1.2 v (List.mem_of_getElem? hv)
  unfold MvV.big at h2
  simp at h2
  omega
/-- all emitted texts, and how many -/
structure RB2 (i : Nat) (r : RX) : Prop where
  d : r.D.length ≤ i
  o : r.O.length ≤ 64 * i
  s : ∀ x ∈ r.O, x.size ≤ maxLen
  i64 : ∀ j, In64 (r.x.S j)
  e : ∀ j, r.x.E j = true → j < 1000000 → True
theorem rto_bound {c : CV} {w : World} (hc : c.ok w) (hv : c.valid = 0) (gS : Nat → Int) (gF : Nat → Bool) (th : ByteArray → Bool) (hS : ∀ j, In64 (gS j)) : ∀ i, RB2 i (rto c.l gS gF th i ⟨⟨gS, gF, fun _ => false⟩, [], []⟩) := by
  intro i
  induction i with
  | zero => exact ⟨by simp [rto], by simp [rto], by simp [rto], hS, fun _ _ _ => trivial⟩
  | succ i ih =>
    show RB2 (i + 1) (rstep _ _ _ _ _ _)
    generalize rto c.l gS gF th i ⟨⟨gS, gF, fun _ => false⟩, [], []⟩ = r at ih ⊢
    have same : RB2 (i + 1) r := ⟨by have := ih.d; omega, by have := ih.o; omega, ih.s, ih.i64, fun _ _ _ => trivial⟩
    unfold rstep
    cases hm : c.l[i]? with
    | none => exact same
    | some m =>
      simp only
      by_cases hcnd : (actv c.l gS i && !r.x.E i && actv c.l r.x.S i) = true
      · rw [if_pos hcnd]
        cases hk : m.mv.l.findIdx? (openM (gS i) (gF i) th) with
        | none => exact ⟨same.d, same.o, same.s, same.i64, fun _ _ _ => trivial⟩
        | some k =>
          simp only
          cases hv2 : m.mv.l[k]? with
          | none => exact same
          | some v =>
            have hmo := hc.2.2.2.1 m (List.mem_of_getElem? hm)
            have hvo := hmo.2.2.2.2.2.2.2.1 v (List.mem_of_getElem? hv2)
            have hem := CV.em64 hv hm hv2
            have hel : v.em.l.length = v.em.n := hvo.2.2.2.2.1
            refine ⟨by simp; have := ih.d; omega, by simp; have := ih.o; omega, fun x hx => ?_, ?_, fun _ _ _ => trivial⟩
            · rcases List.mem_append.1 hx with hx | hx
              · exact ih.s x hx
              · exact hvo.2.2.2.2.2.2.2.1 x hx
            · refine ent_all (CV.low hv) (fun _ z => In64 z) (fun i n hn => (hc.2.2.2.1 n (List.mem_of_getElem? hn)).2.2.2.1) _ _ _ fun j => ?_
              by_cases hj : j = i
              · subst hj
                simp only [RS.mv, upd_same]
                exact hvo.2.1
              · simp only [RS.mv, upd_other _ _ _ _ hj]
                exact ih.i64 j
      · rw [if_neg hcnd]; exact same
theorem fnI_in64 {l : List Int} (h : ∀ x ∈ l, In64 x) (j : Nat) : In64 (fnI l j) := by
  unfold fnI
  rw [List.getD_eq_getElem?_getD]
  cases e : l[j]? with
  | none => simp [In64]
  | some x => exact h x (List.mem_of_getElem? e)

/-- pairs as values -/
def dv (D : List (Nat × Nat)) : List Value := D.flatMap fun p => [.int .i64 (p.1 : Int), .int .i64 (p.2 : Int)]
theorem dv_snoc (D : List (Nat × Nat)) (p : Nat × Nat) : dv (D ++ [p]) = dv D ++ [.int .i64 (p.1 : Int), .int .i64 (p.2 : Int)] := by
  simp [dv]
theorem infoD : (Try.prog.info? 42).map (fun i => (i.zero, i.size, i.bytes)) = some (some (.agg #[.int .i64 0, .int .i64 0]), 2, 16) := by kernel_rfl
theorem infoD_parts : ∃ i0, Try.prog.info? 42 = some i0 ∧ i0.zero = some (.agg #[.int .i64 0, .int .i64 0]) ∧ i0.size = 2 ∧ i0.bytes = 16 := by
  have h := infoD
  match hi : Try.prog.info? 42 with
  | none => rw [hi] at h; cases h
  | some i0 =>
    rw [hi] at h
    simp at h
    exact ⟨i0, rfl, h.1, h.2.1, h.2.2⟩
theorem any_not_all (th : ByteArray → Bool) (l : List ByteArray) : (l.any fun x => !th x) = !(l.all th) := by
  induction l with
  | nil => rfl
  | cons x l ih => simp only [List.any_cons, List.all_cons, ih, Bool.not_and]
theorem findIdx_none {α : Type} {l : List α} {p : α → Bool} (h : ∀ j : Nat, ∀ x, l[j]? = some x → p x = false) : l.findIdx? p = none := by
  rw [List.findIdx?_eq_none_iff]
  intro x hx
  obtain ⟨j, hj, rfl⟩ := List.mem_iff_getElem.1 hx
  exact h j _ (List.getElem?_eq_getElem hj)
theorem findIdx_some {α : Type} {l : List α} {p : α → Bool} {k : Nat} {x : α} (hk : l[k]? = some x) (hp : p x = true) (h : ∀ j : Nat, j < k → ∀ y, l[j]? = some y → p y = false) : l.findIdx? p = some k := by
  rw [List.findIdx?_eq_some_iff_getElem]
  obtain ⟨hlt, rfl⟩ := List.getElem?_eq_some_iff.1 hk
  exact ⟨hlt, hp, fun j hj => by simp [h j hj _ (List.getElem?_eq_getElem (by omega))]⟩

/-- a reaction under way, as far as machine i -/
structure PL (z : ZP) (w : World) (bs : List (TypeId × Array Value)) (gT B : Nat) (S : Nat → Int) (r : RX) (v12 vO : Value) (wr : World) : Prop where
  zs : ZS z r.x vO wr
  own : Own w bs wr
  at_ : RB wr gT z.c.n (actv z.c.l S)
  dn : wr.ownsRow B 42 2 v12 r.D.length (dv r.D)
  em : wr.ownsRow B 9 1 vO r.O.length (vS r.O)
  sz : B ≤ wr.heap.size
theorem PL.call {z : ZP} {w : World} {bs : List (TypeId × Array Value)} {gT B : Nat} {S : Nat → Int} {r : RX} {v12 vO : Value} {wr w' : World} (h : PL z w bs gT B S r v12 vO wr) (hb : Below wr.heap.size wr w') : PL z w bs gT B S r v12 vO w' :=
  ⟨h.zs.call hb, h.own.call hb, h.at_.call hb, OR.call h.dn hb, OR.call h.em hb, Nat.le_trans h.sz hb.size⟩

/-- what lies where, by name -/
structure PF (w : World) (A : Option Addr) (n cc gO gN gS gF gE capS capF gT : Nat) (l : List McV) (S : Nat → Int) (r : RX) (vO : Value) (wr : World) : Prop where
  bC : Blk wr w.heap.size 24 #[.slice A n cc]
  bO : Blk wr gO 29 #[.slice (some ⟨gS, 0, none⟩) n capS, .slice (some ⟨gF, 0, none⟩) n capF, vO]
  bN : Blk wr gN 26 #[.slice (some ⟨gE, 0, none⟩) n n]
  bX : Blk wr (gN + 1) 81 #[.func (.func 50) #[] #[.pointer (some ⟨w.heap.size, 0, none⟩), .pointer (some ⟨gO, 0, none⟩), .pointer (some ⟨gN, 0, none⟩), .pointer (some ⟨gN + 1, 0, none⟩)]]
  rS : RW wr 3 gS n capS (iv r.x.S)
  rF : RW wr 4 gF n capF (bv r.x.F)
  rE : RW wr 4 gE n n (bv r.x.E)
  rT : RB wr gT n (actv l S)
/-- the letters of z -/
def ZL1 (z : ZP) (w : World) (A : Option Addr) (n cc gO gN gS gF gE capS capF : Nat) (l : List McV) : Prop :=
  z = ⟨⟨A, n, cc, l⟩, w, w.heap.size, gO, gN, gN + 1, gS, gF, gE, capS, capF⟩
theorem PL.facts {z : ZP} {w : World} {A : Option Addr} {n cc gO gN gS gF gE capS capF gT B : Nat} {l : List McV} {bs : List (TypeId × Array Value)} {S : Nat → Int} {r : RX} {v12 vO : Value} {wr : World}
    (hz : ZL1 z w A n cc gO gN gS gF gE capS capF l) (h : PL z w bs gT B S r v12 vO wr) : PF w A n cc gO gN gS gF gE capS capF gT l S r vO wr := by
  subst hz
  exact ⟨h.zs.bC, h.zs.bO, h.zs.bN, h.zs.bX, h.zs.rS, h.zs.rF, h.zs.rE, h.at_⟩
theorem rstep_off {l : List McV} {gS : Nat → Int} {gF : Nat → Bool} {th : ByteArray → Bool} {i : Nat} {r : RX} (h : (actv l gS i && !r.x.E i && actv l r.x.S i) = false) : rstep l gS gF th i r = r := by
  unfold rstep
  cases l[i]? with
  | none => rfl
  | some m => simp only [h, Bool.false_eq_true, if_false]
theorem rstep_none {l : List McV} {gS : Nat → Int} {gF : Nat → Bool} {th : ByteArray → Bool} {i : Nat} {r : RX} {m : McV} (hm : l[i]? = some m) (h : (actv l gS i && !r.x.E i && actv l r.x.S i) = true) (hk : m.mv.l.findIdx? (openM (gS i) (gF i) th) = none) : rstep l gS gF th i r = ⟨⟨r.x.S, upd r.x.F i false, r.x.E⟩, r.D, r.O⟩ := by
  unfold rstep
  simp only [hm, h, if_true, hk]
theorem rstep_some {l : List McV} {gS : Nat → Int} {gF : Nat → Bool} {th : ByteArray → Bool} {i : Nat} {r : RX} {m : McV} {k : Nat} {v : MvV} (hm : l[i]? = some m) (h : (actv l gS i && !r.x.E i && actv l r.x.S i) = true) (hk : m.mv.l.findIdx? (openM (gS i) (gF i) th) = some k) (hv : m.mv.l[k]? = some v) : rstep l gS gF th i r = ⟨ent l v.keep l.length i (r.x.mv i v.dst), r.D ++ [(i, k)], r.O ++ v.em.l⟩ := by
  unfold rstep
  simp only [hm, h, if_true, hk, hv]

/-- ContainsFunc with the closures of react -/
theorem has3 {w : World} {i o : SL} (hi : i.ok w) (ho : o.ok w) {x0 x3 : TypeId × Array Value} {vS vF : Value} (W : World) (s : SL)
    (hO : Own w [x0, (29, #[vS, vF, .slice o.A o.n o.c]), (27, #[.slice i.A i.n i.c]), x3, (79, #[.func (.func 49) #[] #[.pointer (some ⟨w.heap.size + 2, 0, none⟩), .pointer (some ⟨w.heap.size + 1, 0, none⟩)]])] W) (hs : s.ok W) :
    Calls Try.prog 44 #[.slice s.A s.n s.c, .func (.func 52) #[] #[.pointer (some ⟨w.heap.size + 1 + 1 + 1 + 1, 0, none⟩)]] W fun e w' => e = .returned (.bool (!s.l.all (pres i o))) ∧ Below W.heap.size W w' := by
  have h := s_contains s (fun x => !pres i o x) 52 #[.pointer (some ⟨w.heap.size + 4, 0, none⟩)] W hs (ask3 i o (w.heap.size + 2) (w.heap.size + 1) (w.heap.size + 4) vS vF s.l W (hi.below hO.1 (Nat.le_refl _)) (ho.below hO.1 (Nat.le_refl _)) (hO.blk 2 rfl) (hO.blk 1 rfl) (hO.blk 4 rfl))
  rw [any_not_all] at h
  exact h
theorem has1 {w : World} {i o : SL} (hi : i.ok w) (ho : o.ok w) {x0 x3 : TypeId × Array Value} {vS vF : Value} (W : World) (s : SL)
    (hO : Own w [x0, (29, #[vS, vF, .slice o.A o.n o.c]), (27, #[.slice i.A i.n i.c]), x3, (79, #[.func (.func 49) #[] #[.pointer (some ⟨w.heap.size + 2, 0, none⟩), .pointer (some ⟨w.heap.size + 1, 0, none⟩)]])] W) (hs : s.ok W) :
    Calls Try.prog 44 #[.slice s.A s.n s.c, .func (.func 49) #[] #[.pointer (some ⟨w.heap.size + 2, 0, none⟩), .pointer (some ⟨w.heap.size + 1, 0, none⟩)]] W fun e w' => e = .returned (.bool (s.l.any (pres i o))) ∧ Below W.heap.size W w' :=
  s_contains s (pres i o) 49 #[.pointer (some ⟨w.heap.size + 2, 0, none⟩), .pointer (some ⟨w.heap.size + 1, 0, none⟩)] W hs (ask1 i o (w.heap.size + 2) (w.heap.size + 1) vS vF s.l W (hi.below hO.1 (Nat.le_refl _)) (ho.below hO.1 (Nat.le_refl _)) (hO.blk 2 rfl) (hO.blk 1 rfl))
/-- which moves stay shut -/
theorem open_eq (s : Int) (fresh : Bool) (th : ByteArray → Bool) (v : MvV) : openM s fresh th v = ((v.frm == s && !(v.late && fresh)) && v.wh.l.all th && !v.no.l.any th) := rfl

end Go.Proofs.Ytgjmbmlmopomgaa
