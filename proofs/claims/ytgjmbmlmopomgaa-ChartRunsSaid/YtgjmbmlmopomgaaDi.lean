/- What holds in a reaction, kept through appends, stores and enter. -/
import Derived.Test.YtgjmbmlmopomgaaDh
namespace Go.Proofs.Ytgjmbmlmopomgaa
open Go.RowKit Go.Maps Lib
set_option linter.unusedSimpArgs false
set_option linter.unusedVariables false

theorem Blk.apart {w : World} {g : Nat} {t : TypeId} {cs : Array Value} (h : Blk w g t cs) {B sz n : Nat} {e : TypeId} {v : Value} {xs : List Value} (hr : w.ownsRow B e sz v n xs) (hne : t ≠ e) : some g ≠ v.ownBlock := by
  rcases hr.2 with ⟨rfl, -⟩ | ⟨g1, cap, cur, rfl, -, h4, -⟩
  · intro hc; cases hc
  · intro hc
    have e1 : g = g1 := by simpa [Value.ownBlock] using hc
    unfold Blk at h
    rw [e1, h4] at h
    injection h with h5
    injection h5 with _ h6
    exact hne h6.symm
theorem Own.fr {w w1 w2 : World} {bs : List (TypeId × Array Value)} {xs : List Nat} (h : Own w bs w1) (hf : Fr xs w1 w2) (hx : ∀ x ∈ xs, w.heap.size + bs.length ≤ x) : Own w bs w2 :=
  ⟨h.1.trans (hf.below (by have := h.2.1; omega) (fun x hx' => by have := hx x hx'; omega)), Nat.le_trans h.2.1 hf.size, fun i t cs hi => hf.blk (h.2.2 i t cs hi) (fun hm => by
    have := hx _ hm
    have hl := (List.getElem?_eq_some_iff.1 hi).1
    omega)⟩
theorem Fr.one {w : World} {p : Addr} (u : Value) : Fr [p.block] w (w.setCell p u) := (Fr.refl _ w).set (by simp) u

/-- where all lies -/
structure PB (z : ZP) (w : World) (bs : List (TypeId × Array Value)) (gT B : Nat) : Prop where
  fine : z.Fine
  w0 : z.w0 = w
  lt : ∀ g ∈ [z.gC, z.gO, z.gN, z.gX, z.gS, z.gF, z.gE, gT], g < B
  lo : w.heap.size + bs.length ≤ B
  xs : ∀ g ∈ z.gO :: z.xs, w.heap.size + bs.length ≤ g
  gT : gT ∉ z.gO :: z.xs
  gO : z.gO ∉ [z.gC, z.gN, z.gX]
section
variable {z : ZP} {w : World} {bs : List (TypeId × Array Value)} {gT B : Nat} {S : Nat → Int} {r : RX} {v12 vO : Value} {w1 w2 : World}
theorem ZS.fr {x : RS} {vO : Value} {xs : List Nat} (h : ZS z x vO w1) (hf : Fr xs w1 w2) (hx : ∀ y ∈ xs, y ∉ [z.gC, z.gO, z.gN, z.gX, z.gS, z.gF, z.gE] ∧ z.w0.heap.size ≤ y) : ZS z x vO w2 := by
  have hn : ∀ g ∈ [z.gC, z.gO, z.gN, z.gX, z.gS, z.gF, z.gE], g ∉ xs := fun g hg hm => (hx g hm).1 hg
  exact ⟨h.lo.trans (hf.below h.lo.size (fun y hy => (hx y hy).2)), hf.blk h.bC (hn _ (by simp)), hf.blk h.bO (hn _ (by simp)), hf.blk h.bN (hn _ (by simp)), hf.blk h.bX (hn _ (by simp)), h.rS.fr hf (hn _ (by simp)), h.rF.fr hf (hn _ (by simp)), h.rE.fr hf (hn _ (by simp))⟩
/-- all but the two rows that grow stays where only blocks beyond B change -/
theorem PL.far (hp : PB z w bs gT B) (h : PL z w bs gT B S r v12 vO w1) {xs : List Nat} (hf : Fr xs w1 w2) (hx : ∀ y ∈ xs, B ≤ y) : ZS z r.x vO w2 ∧ Own w bs w2 ∧ RB w2 gT z.c.n (actv z.c.l S) ∧ B ≤ w2.heap.size := by
  refine ⟨h.zs.fr hf (fun y hy => ⟨fun hm => ?_, ?_⟩), Own.fr h.own hf (fun y hy => Nat.le_trans hp.lo (hx y hy)), h.at_.fr hf (fun hm => ?_), Nat.le_trans h.sz hf.size⟩
  · have h1 := hx y hy
    have h2 := hp.lt y (by simp only [List.mem_cons, List.not_mem_nil, or_false] at hm ⊢; omega)
    omega
  · rw [hp.w0]; have := hx y hy; have := hp.lo; omega
  · have h1 := hx _ hm
    have h2 := hp.lt gT (by simp)
    omega
theorem PL.app_dn (hp : PB z w bs gT B) (h : PL z w bs gT B S r v12 vO w1) {p : Nat × Nat} {v' : Value} (hown : w2.ownsRow B 42 2 v' (r.D.length + 1) (dv (r.D ++ [p]))) (hg : w1.grownBy w2 v12.ownBlock) :
    PL z w bs gT B S ⟨r.x, r.D ++ [p], r.O⟩ v' vO w2 := by
  obtain ⟨h1, h2, h3, h4⟩ := PL.far hp h (Fr.grownB hg) (fun y hy => by
    rw [Option.mem_toList] at hy
    exact (OR.at h.dn hy).1)
  exact ⟨h1, h2, h3, by rw [List.length_append]; exact hown, OR.kept h.em hg (fun g hg' => OR.apart h.em h.dn (by decide) hg'), h4⟩
theorem ZS.setO {x : RS} {vO : Value} (hz : z.Fine) (hO : z.gO ∉ [z.gC, z.gN, z.gX]) (hw : z.w0.heap.size ≤ z.gO) (h : ZS z x vO w1) (v : Value) : ZS z x v (w1.setCell ⟨z.gO, 2, none⟩ v) := by
  have h1 := hz.ne (g := z.gO) (by simp)
  simp only [List.mem_cons, List.not_mem_nil, or_false, not_or] at hO
  exact ⟨h.lo.setCell (p := ⟨z.gO, 2, none⟩) hw _, h.bC.far (Ne.symm hO.1) _, h.bO.set 2 v, h.bN.far (Ne.symm hO.2.1) _, h.bX.far (Ne.symm hO.2.2) _, h.rS.other (Ne.symm h1.1) _ _, h.rF.other (Ne.symm h1.2.1) _ _, h.rE.other (Ne.symm h1.2.2) _ _⟩
theorem PL.app_em (hp : PB z w bs gT B) (h : PL z w bs gT B S r v12 vO w1) {el : List ByteArray} {m : Nat} {v' : Value} (hm : el.length = m) (hown : w2.ownsRow B 9 1 v' (r.O.length + m) (vS (r.O ++ el))) (hg : w1.grownBy w2 vO.ownBlock) :
    PL z w bs gT B S ⟨r.x, r.D, r.O ++ el⟩ v12 v' (w2.setCell ⟨z.gO, 2, none⟩ v') := by
  obtain ⟨h1, h2, h3, h4⟩ := PL.far hp h (Fr.grownB hg) (fun y hy => by
    rw [Option.mem_toList] at hy
    exact (OR.at h.em hy).1)
  have hlt := hp.lt z.gO (by simp)
  have hxs := hp.xs z.gO (by simp)
  have hgT : gT ≠ z.gO := fun e => hp.gT (by rw [e]; simp)
  refine ⟨h1.setO hp.fine hp.gO (by rw [hp.w0]; omega) v', Own.fr h2 (Fr.one (p := ⟨z.gO, 2, none⟩) v') (fun x hx => by simp at hx; subst hx; exact hxs), h3.same (Below.heap_setCell _ _ _ _ hgT), OR.far (OR.kept h.dn hg (fun g hg' => OR.apart h.dn h.em (by decide) hg')) hlt 2 v', OR.far (by rw [List.length_append, hm]; exact hown) hlt 2 v', by simpa [World.setCell] using h4⟩
theorem PL.fr (hp : PB z w bs gT B) (h : PL z w bs gT B S r v12 vO w1) {x' : RS} (hz : ZS z x' vO w2) (hf : Fr z.xs w1 w2) : PL z w bs gT B S ⟨x', r.D, r.O⟩ v12 vO w2 := by
  have hn : ∀ y ∈ z.xs, y < B := fun y hy => hp.lt y (by unfold ZP.xs at hy; simp only [List.mem_cons, List.not_mem_nil, or_false] at hy ⊢; omega)
  refine ⟨hz, Own.fr h.own hf (fun y hy => hp.xs y (List.mem_cons_of_mem _ hy)), h.at_.fr hf (fun hm => hp.gT (List.mem_cons_of_mem _ hm)), OR.same h.dn fun g hg => hf.block g (OR.at h.dn hg).2 (fun hm => ?_), OR.same h.em fun g hg => hf.block g (OR.at h.em hg).2 (fun hm => ?_), Nat.le_trans h.sz hf.size⟩
  · have := hn g hm; have := (OR.at h.dn hg).1; omega
  · have := hn g hm; have := (OR.at h.em hg).1; omega
theorem PL.setS (hp : PB z w bs gT B) (h : PL z w bs gT B S r v12 vO w1) (i : Nat) (v : Int) : PL z w bs gT B S ⟨⟨upd r.x.S i v, r.x.F, r.x.E⟩, r.D, r.O⟩ v12 vO (w1.setCell ⟨z.gS, i, none⟩ (.int .i64 v)) :=
  PL.fr hp h (h.zs.setS hp.fine i v) ((Fr.refl _ _).set (by simp [ZP.xs]) _)
theorem PL.setF (hp : PB z w bs gT B) (h : PL z w bs gT B S r v12 vO w1) (i : Nat) (v : Bool) : PL z w bs gT B S ⟨⟨r.x.S, upd r.x.F i v, r.x.E⟩, r.D, r.O⟩ v12 vO (w1.setCell ⟨z.gF, i, none⟩ (.bool v)) :=
  PL.fr hp h (h.zs.setF hp.fine i v) ((Fr.refl _ _).set (by simp [ZP.xs]) _)
end

end Go.Proofs.Ytgjmbmlmopomgaa
