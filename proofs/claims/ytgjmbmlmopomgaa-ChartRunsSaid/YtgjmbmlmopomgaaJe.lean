/- What holds in a reaction of the reference, kept through appends, stores, Put and enter; copies by append. -/
import Derived.Test.YtgjmbmlmopomgaaJc
import Derived.Test.YtgjmbmlmopomgaaJd
import Derived.Test.YtgjmbmlmopomgaaDf
namespace Go.Proofs.Ytgjmbmlmopomgaa
open Go.RowKit Go.Maps Lib
set_option linter.unusedSimpArgs false
set_option linter.unusedVariables false

theorem app_Nn {ops : Array Oper} {rest : List Oper} {o : Oper} {a : Act} {Q : Exit → Act → World → Prop} {w : World} (hgd : o.guard = none) (s x : Operand)
    (ho : o.op = .call { callee := .builtin .append, args := #[s, x], argTypes := #[25, 25] }) (hs : a.eval s = .slice none 0 0)
    (y : NL) (hx : a.eval x = .slice y.A y.n y.c) (hy : y.ok w) (h0 : 0 < y.n) (h6 : y.n ≤ 6)
    (hK : ∀ g cap w', w.heap.size ≤ g → RW w' 3 g y.n cap (iv (fnI y.l)) → Below w.heap.size w w' → wpList Try.prog ops Q rest (a.put o.dst (.slice (some ⟨g, 0, none⟩) y.n cap)) w') :
    wpList Try.prog ops Q (o :: rest) a w := by
  obtain ⟨i0, hi0, hz0, hz1, hz2⟩ := infoI_parts
  obtain ⟨h1, h2, h3, h4, h5⟩ := hy
  obtain ⟨g, o', e, hg, hc⟩ := h5.resolve_left (by omega)
  refine wpList_append_lies w hgd s x 25 ho w.heap.size 3 i0 (.int .i64 0) 1 8 Try.underlying25 hi0 hz0 hz1 hz2 rfl (by decide) (.slice none 0 0) 0 [] hs (World.ownsRow_nil _ _ _ _) ⟨g, o', none⟩ y.n y.c (vz y.l) (by rw [hx, e]) (by rw [vz_len]; omega) (fun j u hj => by
      unfold vz at hj
      rw [List.getElem?_map] at hj
      cases e2 : y.l[j]? with
      | none => rw [e2] at hj; cases hj
      | some z => rw [e2] at hj; cases hj; rw [addr_add]; exact hc j _ e2) (fun u hu => by
      unfold vz at hu
      obtain ⟨z, -, rfl⟩ := List.mem_map.1 hu
      rfl) (by omega) (by unfold maxLen; omega) (by omega) (Nat.le_refl _) _ rfl ?_
  intro g2 cap w' r1 r2 r3 r4
  rw [Nat.zero_add] at r1 ⊢
  rw [List.nil_append] at r1
  exact hK g2 cap w' (OR.at r1 rfl).1 (RW.of_row r1 (vz_range h1) h0) ((Below.refl _ _).grown r2 (Nat.le_refl _) (fun b hb => by cases hb))
theorem app_Bn {ops : Array Oper} {rest : List Oper} {o : Oper} {a : Act} {Q : Exit → Act → World → Prop} {w : World} (hgd : o.guard = none) (s x : Operand)
    (ho : o.op = .call { callee := .builtin .append, args := #[s, x], argTypes := #[26, 26] }) (hs : a.eval s = .slice none 0 0)
    (y : BL) (hx : a.eval x = .slice y.A y.n y.c) (hy : y.ok w) (h0 : 0 < y.n) (h6 : y.n ≤ 6)
    (hK : ∀ g cap w', w.heap.size ≤ g → RW w' 4 g y.n cap (bv (fnB y.l)) → Below w.heap.size w w' → wpList Try.prog ops Q rest (a.put o.dst (.slice (some ⟨g, 0, none⟩) y.n cap)) w') :
    wpList Try.prog ops Q (o :: rest) a w := by
  obtain ⟨i0, hi0, hz0, hz1, hz2⟩ := infoB_parts
  obtain ⟨h1, h2, h3, h5⟩ := hy
  obtain ⟨g, o', e, hg, hc⟩ := h5.resolve_left (by omega)
  refine wpList_append_lies w hgd s x 26 ho w.heap.size 4 i0 (.bool false) 1 1 Try.underlying26 hi0 hz0 hz1 hz2 rfl (by decide) (.slice none 0 0) 0 [] hs (World.ownsRow_nil _ _ _ _) ⟨g, o', none⟩ y.n y.c (vB y.l) (by rw [hx, e]) (by rw [vB_len]; omega) (fun j u hj => by
      unfold vB at hj
      rw [List.getElem?_map] at hj
      cases e2 : y.l[j]? with
      | none => rw [e2] at hj; cases hj
      | some z => rw [e2] at hj; cases hj; rw [addr_add]; exact hc j _ e2) (fun u hu => by
      unfold vB at hu
      obtain ⟨z, -, rfl⟩ := List.mem_map.1 hu
      rfl) (by omega) (by unfold maxLen; omega) (by omega) (Nat.le_refl _) _ rfl ?_
  intro g2 cap w' r1 r2 r3 r4
  rw [Nat.zero_add] at r1 ⊢
  rw [List.nil_append] at r1
  exact hK g2 cap w' (OR.at r1 rfl).1 (RW.of_row r1 (vB_range h1) h0) ((Below.refl _ _).grown r2 (Nat.le_refl _) (fun b hb => by cases hb))

theorem SL.ok.fr {w1 w2 : World} {s : SL} {xs : List Nat} (h : s.ok w1) (hf : Fr xs w1 w2) (hx : ∀ x ∈ xs, Off x s.n s.A) : s.ok w2 := by
  obtain ⟨h1, h2, h3, h4, h5⟩ := h
  refine ⟨h1, h2, h3, h4, ?_⟩
  rcases h5 with h5 | ⟨g, o, e, hg, hc⟩
  · exact .inl h5
  · by_cases hn : s.n = 0
    · exact .inl hn
    · have hgx : g ∉ xs := fun hm => by
        rcases hx g hm with h | h
        · exact hn h
        · exact h _ e rfl
      refine .inr ⟨g, o, e, Nat.lt_of_lt_of_le hg hf.size, fun j z hj => ?_⟩
      rw [← hc j z hj]
      unfold World.cell?
      rw [hf.block g hg hgx]

/-- where all lies -/
structure QB (z : QP) (w : World) (bs : List (TypeId × Array Value)) (tS : SL) (B : Nat) : Prop where
  fine : z.Fine
  w0 : z.w0 = w
  lt : z.gR < B ∧ z.gS < B ∧ z.gF < B ∧ z.gE < B
  lo : w.heap.size + bs.length ≤ B
  xs : w.heap.size + bs.length ≤ z.gR ∧ w.heap.size + bs.length ≤ z.gS ∧ w.heap.size + bs.length ≤ z.gF ∧ w.heap.size + bs.length ≤ z.gE
  tO : ∀ g, (g = z.gR ∨ g = z.gS ∨ g = z.gF ∨ g = z.gE ∨ B ≤ g) → Off g tS.n tS.A
/-- a reaction of the reference under way, as far as machine i -/
structure QM (z : QP) (w : World) (bs : List (TypeId × Array Value)) (tS : SL) (B : Nat) (y : RS) (D : List (Nat × Nat)) (O : List ByteArray) (v10 : Value) (out : SL) (wr : World) : Prop where
  qs : QS z y (.slice out.A out.n out.c) wr
  own : Own w bs wr
  th : tS.ok wr
  dn : wr.ownsRow B 42 2 v10 D.length (dv D)
  em : wr.ownsRow B 9 1 (.slice out.A out.n out.c) out.n (vS out.l)
  ok : out.ok wr
  el : out.l = outS O
  sz : B ≤ wr.heap.size
section
variable {z : QP} {w : World} {bs : List (TypeId × Array Value)} {tS : SL} {B : Nat} {y : RS} {D : List (Nat × Nat)} {O : List ByteArray} {v10 : Value} {out : SL} {w1 w2 : World}
theorem QS.fr {x : RS} {vO : Value} {xs : List Nat} (h : QS z x vO w1) (hf : Fr xs w1 w2) (hx : ∀ y ∈ xs, y ≠ z.gR ∧ y ≠ z.gS ∧ y ≠ z.gF ∧ y ≠ z.gE ∧ z.w0.heap.size ≤ y) : QS z x vO w2 :=
  ⟨h.lo.trans (hf.below h.lo.size (fun y hy => (hx y hy).2.2.2.2)), hf.blk h.bR (fun hm => (hx _ hm).1 rfl), h.rS.fr hf (fun hm => (hx _ hm).2.1 rfl), h.rF.fr hf (fun hm => (hx _ hm).2.2.1 rfl), h.rE.fr hf (fun hm => (hx _ hm).2.2.2.1 rfl)⟩
theorem QM.call (h : QM z w bs tS B y D O v10 out w1) (hb : Below w1.heap.size w1 w2) : QM z w bs tS B y D O v10 out w2 :=
  ⟨h.qs.call hb, h.own.call hb, h.th.below hb (Nat.le_refl _), OR.call h.dn hb, OR.call h.em hb, h.ok.below hb (Nat.le_refl _), h.el, Nat.le_trans h.sz hb.size⟩
theorem QM.app_dn (hp : QB z w bs tS B) (h : QM z w bs tS B y D O v10 out w1) {p : Nat × Nat} {v' : Value} (hown : w2.ownsRow B 42 2 v' (D.length + 1) (dv (D ++ [p]))) (hg : w1.grownBy w2 v10.ownBlock) :
    QM z w bs tS B y (D ++ [p]) O v' out w2 := by
  have hf := Fr.grownB hg
  have hx : ∀ y ∈ v10.ownBlock.toList, B ≤ y := fun y hy => by
    rw [Option.mem_toList] at hy
    exact (OR.at h.dn hy).1
  obtain ⟨l1, l2, l3, l4⟩ := hp.lt
  have hem := OR.kept h.em hg (fun g hg' => OR.apart h.em h.dn (by decide) hg')
  refine ⟨h.qs.fr hf (fun y hy => ?_), Own.fr h.own hf (fun y hy => Nat.le_trans hp.lo (hx y hy)), h.th.fr hf (fun y hy => hp.tO y (.inr (.inr (.inr (.inr (hx y hy)))))), by rw [List.length_append]; exact hown, hem, h.ok.fr hf (fun y hy => ?_), h.el, Nat.le_trans h.sz hf.size⟩
  · have h1 := hx y hy
    have h2 := hp.lo
    rw [hp.w0]
    omega
  · rw [Option.mem_toList] at hy
    by_cases h0 : out.n = 0
    · exact .inl h0
    · refine .inr fun a e hb => ?_
      have h1 := OR.apart h.em h.dn (by decide) (g := a.block) (by rw [e]; rfl)
      rw [hb] at h1
      exact h1 hy.symm
theorem QM.enter (hp : QB z w bs tS B) (h : QM z w bs tS B y D O v10 out w1) {x' : RS} (hz : QS z x' (.slice out.A out.n out.c) w2) (hf : Fr z.xs w1 w2) : QM z w bs tS B x' D O v10 out w2 := by
  obtain ⟨l1, l2, l3, l4⟩ := hp.lt
  obtain ⟨m1, m2, m3, m4⟩ := hp.xs
  have hn : ∀ g ∈ z.xs, g < B ∧ w.heap.size + bs.length ≤ g ∧ (g = z.gS ∨ g = z.gF ∨ g = z.gE) := fun g hg => by
    unfold QP.xs at hg
    simp only [List.mem_cons, List.not_mem_nil, or_false] at hg
    rcases hg with rfl | rfl | rfl
    · exact ⟨l2, m2, .inl rfl⟩
    · exact ⟨l3, m3, .inr (.inl rfl)⟩
    · exact ⟨l4, m4, .inr (.inr rfl)⟩
  have hOR : ∀ {e : TypeId} {sz n : Nat} {v : Value} {xs : List Value}, w1.ownsRow B e sz v n xs → w2.ownsRow B e sz v n xs := fun hr => OR.same hr fun g hg => hf.block g (OR.at hr hg).2 (fun hm => by have := (hn g hm).1; have := (OR.at hr hg).1; omega)
  refine ⟨hz, Own.fr h.own hf (fun g hg => (hn g hg).2.1), h.th.fr hf (fun g hg => hp.tO g (by rcases (hn g hg).2.2 with e | e | e <;> simp [e])), hOR h.dn, hOR h.em, h.ok.fr hf (fun g hg => ?_), h.el, Nat.le_trans h.sz hf.size⟩
  refine .inr fun a e hb => ?_
  have h1 := (OR.at h.em (g := a.block) (by rw [e]; rfl)).1
  have h2 := (hn g hg).1
  omega
theorem QM.setF (hp : QB z w bs tS B) (h : QM z w bs tS B y D O v10 out w1) (i : Nat) (v : Bool) : QM z w bs tS B ⟨y.S, upd y.F i v, y.E⟩ D O v10 out (w1.setCell ⟨z.gF, i, none⟩ (.bool v)) :=
  QM.enter hp h (h.qs.setF hp.fine i v) ((Fr.refl _ _).set (by simp [QP.xs]) _)
/-- Put, and the store behind it -/
theorem QM.put (hp : QB z w bs tS B) (h : QM z w bs tS B y D O v10 out w1) {s : ByteArray} {t : SL} (ht : t.ok w2) (hl : t.l = putS out.l s) (hb : Below w1.heap.size w1 w2)
    (hr : ∀ B', B' ≤ w1.heap.size → w1.ownsRow B' 9 1 (.slice out.A out.n out.c) out.n (vS out.l) → w2.ownsRow B' 9 1 (.slice t.A t.n t.c) t.n (vS t.l)) :
    QM z w bs tS B y D (O ++ [s]) v10 t (w2.setCell ⟨z.gR, 3, none⟩ (.slice t.A t.n t.c)) := by
  have h2 := h.call hb
  have hem := hr B h.sz h.em
  obtain ⟨l1, l2, l3, l4⟩ := hp.lt
  obtain ⟨m1, m2, m3, m4⟩ := hp.xs
  have hf : Fr [z.gR] w2 (w2.setCell ⟨z.gR, 3, none⟩ (.slice t.A t.n t.c)) := Fr.one (p := ⟨z.gR, 3, none⟩) _
  refine ⟨⟨h2.qs.lo.setCell (p := ⟨z.gR, 3, none⟩) (by rw [hp.w0]; show _ ≤ z.gR; omega) _, h2.qs.bR.set 3 _, h2.qs.rS.other hp.fine.rs.symm _ _, h2.qs.rF.other hp.fine.rf.symm _ _, h2.qs.rE.other hp.fine.re.symm _ _⟩,
    Own.fr h2.own hf (fun g hg => by simp at hg; subst hg; exact m1), h2.th.fr hf (fun g hg => by simp at hg; exact hp.tO g (.inl hg)), OR.far h2.dn l1 3 _, OR.far hem l1 3 _, ht.fr hf (fun g hg => ?_), ?_, by simpa [World.setCell] using h2.sz⟩
  · simp at hg
    subst hg
    refine .inr fun a e hb' => ?_
    have h1 := (OR.at hem (g := a.block) (by rw [e]; rfl)).1
    omega
  · rw [hl, h.el, putS_outS]
end

/-- alike, as far as the machines from i on are asked -/
def LikeR (i : Nat) (x y : RS) : Prop := x.S = y.S ∧ x.F = y.F ∧ ∀ j, i ≤ j → x.E j = y.E j
theorem LikeR.next {i : Nat} {x y : RS} (h : LikeR i x y) : LikeR (i + 1) x y := ⟨h.1, h.2.1, fun j hj => h.2.2 j (by omega)⟩
theorem LikeR.setF {i : Nat} {x y : RS} (h : LikeR i x y) (k : Nat) (v : Bool) : LikeR (i + 1) ⟨x.S, upd x.F k v, x.E⟩ ⟨y.S, upd y.F k v, y.E⟩ := ⟨h.1, by rw [h.2.1], fun j hj => h.2.2 j (by omega)⟩
theorem LikeR.ent {l : List McV} {keep : Bool} {i f : Nat} {x y : RS} (h : LikeR i x y) (s : Int) : LikeR (i + 1) (ent l keep f i (x.put i s)) (ent l keep f i (y.mv i s)) := by
  have h1 : Like i (x.put i s) (y.mv i s) := ⟨by simp only [RS.put, RS.mv, h.1], by simp only [RS.put, RS.mv, h.2.1], fun j hj => by
    simp only [RS.put, RS.mv]
    rw [upd_other _ _ _ _ (by omega)]
    exact h.2.2 j (by omega)⟩
  obtain ⟨e1, e2, e3⟩ := ent_like (l := l) (keep := keep) i f i _ _ h1
  exact ⟨e1, e2, fun j hj => e3 j (by omega)⟩
theorem inS_app (a b : List ByteArray) (x : ByteArray) : inS (a ++ b) x = (inS a x || inS b x) := by unfold inS; rw [List.any_append]
theorem open_ref (s : Int) (fresh : Bool) (i o : SL) (v : MvV) : openM s fresh (pres i o) v = ((v.frm == s && opn (inS (i.l ++ o.l)) v) && (!v.late || !fresh)) := by
  have e : inS (i.l ++ o.l) = pres i o := by funext x; rw [inS_app]; rfl
  rw [e]
  unfold openM opn
  cases v.frm == s <;> cases v.late <;> cases fresh <;> simp

theorem Fr.cellN {xs : List Nat} {w w' : World} (h : Fr xs w w') {g o : Nat} (hx : g ∉ xs) (hg : g < w.heap.size) : w'.cell? ⟨g, o, Option.none⟩ = w.cell? ⟨g, o, Option.none⟩ := by
  unfold World.cell?
  rw [h.block g hg hx]
/-- what lies where, by name -/
structure QF (A : Option Addr) (n cc gR gS gF gE capS capF : Nat) (y : RS) (out : SL) (wr : World) : Prop where
  bR : Blk wr gR 90 #[.slice A n cc, .slice (some ⟨gS, 0, Option.none⟩) n capS, .slice (some ⟨gF, 0, Option.none⟩) n capF, .slice out.A out.n out.c, .slice (some ⟨gE, 0, Option.none⟩) n n]
  rS : RW wr 3 gS n capS (iv y.S)
  rF : RW wr 4 gF n capF (bv y.F)
  rE : RW wr 4 gE n n (bv y.E)
theorem QM.facts {z : QP} {w : World} {A : Option Addr} {n cc gR gS gF gE capS capF B : Nat} {l : List McV} {bs : List (TypeId × Array Value)} {tS : SL} {y : RS} {D : List (Nat × Nat)} {O : List ByteArray} {v10 : Value} {out : SL} {wr : World}
    (hz : z = ⟨⟨A, n, cc, l⟩, w, gR, gS, gF, gE, capS, capF⟩) (h : QM z w bs tS B y D O v10 out wr) : QF A n cc gR gS gF gE capS capF y out wr := by
  subst hz
  exact ⟨h.qs.bR, h.qs.rS, h.qs.rF, h.qs.rE⟩
/-- the loop over the machines -/
def RLp (z : QP) (w : World) (bs : List (TypeId × Array Value)) (tS : SL) (B n : Nat) (l : List McV) (gS : Nat → Int) (gF : Nat → Bool) (th : ByteArray → Bool) (v10 v47 : Value) (wr : World) : Prop :=
  ∃ (k : Nat) (y : RS) (out : SL), k ≤ n ∧ v47 = .int .i64 (k : Int) ∧ QM z w bs tS B y (rto l gS gF th k ⟨⟨gS, gF, fun _ => false⟩, [], []⟩).D (rto l gS gF th k ⟨⟨gS, gF, fun _ => false⟩, [], []⟩).O v10 out wr ∧ LikeR k y (rto l gS gF th k ⟨⟨gS, gF, fun _ => false⟩, [], []⟩).x
/-- the loop over what a move emits -/
def RLe (z : QP) (w : World) (bs : List (TypeId × Array Value)) (tS : SL) (B : Nat) (y : RS) (D : List (Nat × Nat)) (O el : List ByteArray) (v10 : Value) (gB : Nat) (cs : Array Value) (en : Nat) (v142 : Value) (wr : World) : Prop :=
  ∃ (q : Nat) (out : SL), q ≤ en ∧ v142 = .int .i64 (q : Int) ∧ QM z w bs tS B y D (O ++ el.take q) v10 out wr ∧ Blk wr gB 50 cs
theorem outS_le (O : List ByteArray) : (outS O).length ≤ O.length := by
  unfold outS
  rw [List.length_map]
  refine Nat.le_trans (compact_length_le _) ?_
  rw [srtS_len]
  exact Nat.le_refl _

end Go.Proofs.Ytgjmbmlmopomgaa
