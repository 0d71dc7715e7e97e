/- Runs without an error: heads and tails of rows, one reaction; what the law's two runs leave. -/
import Derived.Test.YtgjmbmlmopomgaaHc
import Derived.Test.YtgjmbmlmopomgaaHd
import Derived.Test.YtgjmbmlmopomgaaEb
import Derived.Test.YtgjmbmlmopomgaaEe
namespace Go.Proofs.Ytgjmbmlmopomgaa
open Go.RowKit Go.Maps Lib
set_option linter.unusedSimpArgs false
set_option linter.unusedVariables false

theorem inErr_sub {l l' : List SL} (h : inErr l = 0) (hn : l'.length ≤ l.length) (hs : ∀ x ∈ l', x ∈ l) : inErr l' = 0 := by
  unfold inErr at h ⊢
  by_cases h1 : 64 < l.length
  · rw [if_pos h1] at h; cases h
  · rw [if_neg h1] at h
    rw [if_neg (by omega)]
    by_cases h2 : l.any (fun s => decide (64 < s.n)) = true
    · rw [if_pos h2] at h; cases h
    · rw [if_neg h2] at h
      have h3 : ¬ l'.any (fun s => decide (64 < s.n)) = true := by
        intro e
        obtain ⟨x, hx, he⟩ := List.any_eq_true.1 e
        exact h2 (List.any_eq_true.2 ⟨x, hs x hx, he⟩)
      rw [if_neg h3]
      by_cases h4 : l.all SL.names = true
      · rw [if_pos]
        rw [List.all_eq_true] at h4 ⊢
        exact fun x hx => h4 x (hs x hx)
      · rw [if_neg h4] at h; cases h
theorem inErr_len {l : List SL} (h : inErr l = 0) : l.length ≤ 64 := by
  unfold inErr at h
  by_cases h1 : 64 < l.length
  · rw [if_pos h1] at h; cases h
  · omega
def RunOk (w : World) (x : CF) (o : List (List ByteArray)) (e : Ending) (w' : World) : Prop :=
  ∃ (m : GV) (a : RL), e = .returned (.tuple #[.agg #[.slice m.st.A m.st.n m.st.c, .slice m.fr.A m.fr.n m.fr.c, .slice m.out.A m.out.n m.out.c], .slice a.A a.n a.c, .int .i64 0]) ∧ m.ok w' ∧ m.new w.heap.size ∧ a.ok w' ∧ a.new w.heap.size ∧ m.cf = x ∧ a.l.map SL.l = o ∧ Below w.heap.size w w'
theorem m_RunOk (c : CV) (g : GV) (r : RL) (w : World) (hc : c.ok w) (hg : g.ok w) (hr : r.ok w) (h0 : runErr c g r = 0) :
    Calls Try.prog 20 #[.agg #[.slice c.A c.n c.c], .agg #[.slice g.st.A g.st.n g.st.c, .slice g.fr.A g.fr.n g.fr.c, .slice g.out.A g.out.n g.out.c], .slice r.A r.n r.c] w (RunOk w (g.cf.run c.l (r.l.map SL.l)) (g.cf.outs c.l (r.l.map SL.l))) := by
  refine (m_Run c g r w hc hg hr).mono ?_
  rintro e w' ⟨m, a, rfl, h1, h2, h3, h4, h5, h6, h7⟩
  rw [h0]
  unfold runCf at h5
  unfold runOs at h6
  rw [if_pos h0] at h5 h6
  exact ⟨m, a, rfl, h1, h2, h3, h4, h5, h6, h7⟩
def StepOk (w : World) (x : CF) (e : Ending) (w' : World) : Prop :=
  ∃ (m : GV) (dA : Option Addr) (dn dc : Nat), e = .returned (.tuple #[.agg #[.slice m.st.A m.st.n m.st.c, .slice m.fr.A m.fr.n m.fr.c, .slice m.out.A m.out.n m.out.c], .slice dA dn dc, .int .i64 0]) ∧ m.ok w' ∧ m.new w.heap.size ∧ m.cf = x ∧ Below w.heap.size w w'
theorem m_StepOk (c : CV) (g : GV) (i : SL) (w : World) (hc : c.ok w) (hg : g.ok w) (hi : i.ok w) (hk : g.known c = 0) (hi0 : inErr [i] = 0) :
    Calls Try.prog 15 #[.agg #[.slice c.A c.n c.c], .agg #[.slice g.st.A g.st.n g.st.c, .slice g.fr.A g.fr.n g.fr.c, .slice g.out.A g.out.n g.out.c], .slice i.A i.n i.c] w (StepOk w (g.cf.step c.l i.l)) := by
  have h0 : rErr c g i = 0 := by unfold rErr; rw [if_pos hk]; exact hi0
  refine (m_React c g i w hc hg hi).mono ?_
  rintro e w' ⟨m, dA, dc, rfl, h1, h2, h3, h4, h5, h6, h7⟩
  unfold reS at h3
  unfold reF at h4
  unfold reO at h5
  rw [if_pos h0] at h3 h4 h5
  rw [h0]
  refine ⟨m, dA, _, dc, rfl, h1, h2, ?_, h7⟩
  show CF.mk _ _ _ = CF.mk _ _ _
  rw [h3, h4, h5, reacted_rx, hc.1]
theorem RL.ok.takeAt {w : World} {s : RL} (h : s.ok w) {p : Nat} (hp : p ≤ s.n) : RL.ok w ⟨s.A, p, s.c, s.l.take p⟩ := by
  obtain ⟨A, n, c, l⟩ := s
  obtain ⟨h1, h2, h3, h4, h5⟩ := h
  simp only at hp h1 h2 h3 h4 h5 ⊢
  refine ⟨by simp [h1]; omega, by show p ≤ c; omega, by show p ≤ _; omega, fun x hx => h4 x (List.mem_of_mem_take hx), ?_⟩
  rcases h5 with h5 | ⟨g, o, e, hg, hc⟩
  · exact .inl (by show p = 0; omega)
  · refine .inr ⟨g, o, e, hg, fun j x hj => hc j x ?_⟩
    have := (List.getElem?_eq_some_iff.1 hj).1
    rw [List.length_take] at this
    rw [List.getElem?_take_of_lt (by omega)] at hj
    exact hj
def dropA (A : Option Addr) (c p : Nat) : Option Addr := if c = p then A else A.map (·.add p)
theorem RL.ok.dropAt {w : World} {s : RL} (h : s.ok w) {p : Nat} (hp : p ≤ s.n) : RL.ok w ⟨dropA s.A s.c p, s.n - p, s.c - p, s.l.drop p⟩ := by
  obtain ⟨A, n, c, l⟩ := s
  obtain ⟨h1, h2, h3, h4, h5⟩ := h
  simp only at hp h1 h2 h3 h4 h5 ⊢
  refine ⟨by simp [h1], by show n - p ≤ c - p; omega, by show n - p ≤ _; omega, fun x hx => h4 x (List.mem_of_mem_drop hx), ?_⟩
  rcases h5 with h5 | ⟨g, o, e, hg, hc⟩
  · exact .inl (by show n - p = 0; omega)
  · by_cases hcp : c = p
    · exact .inl (by show n - p = 0; omega)
    · subst e
      refine .inr ⟨g, o + p, by unfold dropA; rw [if_neg hcp]; show some (Addr.add _ p) = _; rw [addr_add], hg, fun j x hj => ?_⟩
      rw [List.getElem?_drop] at hj
      rw [Nat.add_assoc]
      exact hc (p + j) x hj
theorem RL.none0 {w : World} {n c : Nat} {l : List SL} (h : RL.ok w ⟨none, n, c, l⟩) : n = 0 := by
  rcases h.2.2.2.2 with h5 | ⟨g, o, e, -⟩
  · exact h5
  · cases e

theorem app_Rw {ops : Array Oper} {rest : List Oper} {o : Oper} {a : Act} {Q : Exit → Act → World → Prop} {w : World} (hw : Region.wanted o (yielded ops a.tmps) = true) (s x : Operand)
    (ho : o.op = .call { callee := .builtin .append, args := #[s, x], argTypes := #[54, 54] })
    (B n : Nat) (v : Value) (l : List SL) (hs : a.eval s = v) (h : w.ownsRow B 27 1 v n (vR l)) (hl : l.length = n) (hB : B ≤ w.heap.size)
    (y : RL) (hx : a.eval x = .slice y.A y.n y.c) (hy : y.ok w) (hyn : (n + y.n) * 24 ≤ 140737488355328)
    (hK : ∀ A' c' w', w'.ownsRow B 27 1 (.slice A' (n + y.n) c') (n + y.n) (vR (l ++ y.l)) → w.grownBy w' v.ownBlock → wpList Try.prog ops Q rest (a.put o.dst (.slice A' (n + y.n) c')) w') :
    wpList Try.prog ops Q (o :: rest) a w := by
  refine BigFrame.wpList_want hw fun K hK2 => ?_
  obtain ⟨A', c', w', hr, h1, h2⟩ := run_app_R h hl y hy hyn hB o.type
  unfold Oper.wp execOp
  simp only [ho, resolve, invoke, builtin, Sem.run_bind, Sem.run_pure, Result.andThen_ok, List.map_toArray, List.map_cons, List.map_nil, hs, hx, hr]
  exact hK2 _ _ (hK A' c' w' h1 h2)

theorem app_R0w {ops : Array Oper} {rest : List Oper} {o : Oper} {a : Act} {Q : Exit → Act → World → Prop} {w : World} (hw : Region.wanted o (yielded ops a.tmps) = true) (s x : Operand)
    (ho : o.op = .call { callee := .builtin .append, args := #[s, x], argTypes := #[54, 54] })
    (hs : a.eval s = .slice none 0 0)
    (y : RL) (hx : a.eval x = .slice y.A y.n y.c) (hy : y.ok w) (hyn : y.n * 24 ≤ 140737488355328)
    (hK : ∀ A' c' w', w'.ownsRow w.heap.size 27 1 (.slice A' y.n c') y.n (vR y.l) → Below w.heap.size w w' → wpList Try.prog ops Q rest (a.put o.dst (.slice A' y.n c')) w') :
    wpList Try.prog ops Q (o :: rest) a w := by
  refine app_Rw hw s x ho w.heap.size 0 (.slice none 0 0) [] hs (World.ownsRow_nil w w.heap.size 27 1) rfl (Nat.le_refl _) y hx hy (by rw [Nat.zero_add]; exact hyn) fun A' c' w' h1 h2 => ?_
  rw [Nat.zero_add] at h1 ⊢
  exact hK A' c' w' h1 ((Below.refl _ _).grown h2 (Nat.le_refl _) (fun b hb => by cases hb))

/-- what a run leaves in a box of its own -/
def MidC (w5 : World) (x : CF) (o : List (List ByteArray)) (v11 v12 v13 : Value) (wc : World) : Prop :=
  ∃ (gM : Nat) (m : GV) (a : RL), v12 = .pointer (some ⟨gM, 0, none⟩) ∧ v11 = .int .i64 0 ∧ v13 = .slice a.A a.n a.c ∧ w5.heap.size ≤ gM ∧ Below w5.heap.size w5 wc ∧
    Blk wc gM 29 #[.slice m.st.A m.st.n m.st.c, .slice m.fr.A m.fr.n m.fr.c, .slice m.out.A m.out.n m.out.c] ∧ m.ok wc ∧ a.ok wc ∧ m.new w5.heap.size ∧ a.new w5.heap.size ∧ m.cf = x ∧ a.l.map SL.l = o
theorem RL.new.mono {B B' : Nat} {a : RL} (h : a.new B) (hb : B' ≤ B) : a.new B' := ⟨fun x e => Nat.le_trans hb (h.1 x e), fun x hx y e => Nat.le_trans hb (h.2 x hx y e)⟩
theorem MidC.mkA {w5 w6 : World} {x : CF} {o : List (List ByteArray)} {m : GV} {a : RL} (hb : Below w5.heap.size w5 w6) (hm : m.ok w6) (ha : a.ok w6) (hmn : m.new w5.heap.size) (han : a.new w5.heap.size) (hx : m.cf = x) (ho : a.l.map SL.l = o) :
    MidC w5 x o (.int .i64 0) (.pointer (some ⟨w6.heap.size, 0, none⟩)) (.slice a.A a.n a.c) (w6.alloc (.cells #[.slice m.st.A m.st.n m.st.c, .slice m.fr.A m.fr.n m.fr.c, .slice m.out.A m.out.n m.out.c] 29)) := by
  have hb6 := (Below.refl w6.heap.size w6).alloc (Nat.le_refl _) (.cells #[.slice m.st.A m.st.n m.st.c, .slice m.fr.A m.fr.n m.fr.c, .slice m.out.A m.out.n m.out.c] 29)
  exact ⟨w6.heap.size, m, a, rfl, rfl, rfl, hb.size, Below.callB hb hb6, Blk.new w6 _ _, hm.below hb6 (Nat.le_refl _), ha.below hb6 (Nat.le_refl _), hmn, han, hx, ho⟩
theorem MidC.mkB {w5 w7 : World} {x : CF} {o : List (List ByteArray)} {m : GV} {a : RL} (hb : Below (w5.alloc (.cells #[.slice none 0 0, .slice none 0 0, .slice none 0 0] 29)).heap.size (w5.alloc (.cells #[.slice none 0 0, .slice none 0 0, .slice none 0 0] 29)) w7)
    (hm : m.ok w7) (ha : a.ok w7) (hmn : m.new (w5.alloc (.cells #[.slice none 0 0, .slice none 0 0, .slice none 0 0] 29)).heap.size) (han : a.new (w5.alloc (.cells #[.slice none 0 0, .slice none 0 0, .slice none 0 0] 29)).heap.size) (hx : m.cf = x) (ho : a.l.map SL.l = o) :
    MidC w5 x o (.int .i64 0) (.pointer (some ⟨w5.heap.size, 0, none⟩)) (.slice a.A a.n a.c) (((w7.setCell ⟨w5.heap.size, 0, none⟩ (.slice m.st.A m.st.n m.st.c)).setCell ⟨w5.heap.size, 1, none⟩ (.slice m.fr.A m.fr.n m.fr.c)).setCell ⟨w5.heap.size, 2, none⟩ (.slice m.out.A m.out.n m.out.c)) := by
  have hba := (Below.refl w5.heap.size w5).alloc (Nat.le_refl _) (.cells #[.slice none 0 0, .slice none 0 0, .slice none 0 0] 29)
  have hlt : w5.heap.size < (w5.alloc (.cells #[.slice none 0 0, .slice none 0 0, .slice none 0 0] 29)).heap.size := (Blk.new w5 29 #[.slice none 0 0, .slice none 0 0, .slice none 0 0]).lt
  exact ⟨w5.heap.size, m, a, rfl, rfl, rfl, Nat.le_refl _, Below.set3B (Below.callB hba hb) (Nat.le_refl _) _ _ _, ((Blk.new w5 _ _).call hb).set3 _ _ _, hm.set3 hmn hlt _ _ _, ha.set3 han hlt _ _ _, hmn.mono (Nat.le_of_lt hlt), han.mono (Nat.le_of_lt hlt), hx, ho⟩
/-- the law's loop: as far as row k -/
def CutL (w : World) (c : CV) (gE : Nat) (en : GV) (L : RL) (x : CF) (ins : List (List ByteArray)) (v88 : Value) (wr : World) : Prop :=
  ∃ (k : Nat) (m : GV), k ≤ ins.length ∧ v88 = .int .i64 (k : Int) ∧ Own w [(24, #[.slice c.A c.n c.c]), (29, #[.slice m.st.A m.st.n m.st.c, .slice m.fr.A m.fr.n m.fr.c, .slice m.out.A m.out.n m.out.c])] wr ∧
    m.ok wr ∧ m.cf = x.run c.l (ins.take k) ∧ Blk wr gE 29 #[.slice en.st.A en.st.n en.st.c, .slice en.fr.A en.fr.n en.fr.c, .slice en.out.A en.out.n en.out.c] ∧ en.ok wr ∧ L.ok wr
theorem CutL.next {w wr w6 : World} {c : CV} {gE k : Nat} {en : GV} {L : RL} {x : CF} {ins : List (List ByteArray)} {m m' : GV} (hk : k < ins.length)
    (hO : Own w [(24, #[.slice c.A c.n c.c]), (29, #[.slice m.st.A m.st.n m.st.c, .slice m.fr.A m.fr.n m.fr.c, .slice m.out.A m.out.n m.out.c])] wr) (hcf : m.cf = x.run c.l (ins.take k))
    (hE : Blk wr gE 29 #[.slice en.st.A en.st.n en.st.c, .slice en.fr.A en.fr.n en.fr.c, .slice en.out.A en.out.n en.out.c]) (hen : en.ok wr) (hL : L.ok wr) (hgE : w.heap.size + 2 ≤ gE) (henn : en.new (w.heap.size + 2)) (hLn : L.new (w.heap.size + 2))
    (hb : Below wr.heap.size wr w6) (hm : m'.ok w6) (hmn : m'.new wr.heap.size) (hstep : m'.cf = m.cf.step c.l ins[k]) {w7 : World}
    (hw7 : w7 = (((w6.setCell ⟨w.heap.size + 1, 0, none⟩ (.slice m'.st.A m'.st.n m'.st.c)).setCell ⟨w.heap.size + 1, 1, none⟩ (.slice m'.fr.A m'.fr.n m'.fr.c)).setCell ⟨w.heap.size + 1, 2, none⟩ (.slice m'.out.A m'.out.n m'.out.c))) :
    Own w [(24, #[.slice c.A c.n c.c]), (29, #[.slice m'.st.A m'.st.n m'.st.c, .slice m'.fr.A m'.fr.n m'.fr.c, .slice m'.out.A m'.out.n m'.out.c])] w7 ∧ m'.ok w7 ∧ m'.cf = x.run c.l (ins.take (k + 1)) ∧
      Blk w7 gE 29 #[.slice en.st.A en.st.n en.st.c, .slice en.fr.A en.fr.n en.fr.c, .slice en.out.A en.out.n en.out.c] ∧ en.ok w7 ∧ L.ok w7 := by
  subst hw7
  have hO6 := hO.call hb
  have h1 := ((hO6.set 1 rfl 0 (.slice m'.st.A m'.st.n m'.st.c)).set 1 rfl 1 (.slice m'.fr.A m'.fr.n m'.fr.c)).set 1 rfl 2 (.slice m'.out.A m'.out.n m'.out.c)
  have hsz : w.heap.size + 1 < wr.heap.size := hO.b1.lt
  have e : m'.cf = x.run c.l (ins.take (k + 1)) := by
    rw [hstep, hcf, ← CF.run_snoc, ← List.take_succ_eq_append_getElem hk]
  exact ⟨h1, hm.set3 hmn hsz _ _ _, e, (hE.call hb).far3 (by omega) _ _ _, (hen.below hb (Nat.le_refl _)).set3 henn (by omega) _ _ _, (hL.below hb (Nat.le_refl _)).set3 hLn (by omega) _ _ _⟩
theorem CutL.fin {w w7 : World} {c : CV} {gE k : Nat} {en : GV} {L : RL} {x : CF} {ins : List (List ByteArray)} {m' : GV} {v : Value} (hk : k < ins.length)
    (h : Own w [(24, #[.slice c.A c.n c.c]), (29, #[.slice m'.st.A m'.st.n m'.st.c, .slice m'.fr.A m'.fr.n m'.fr.c, .slice m'.out.A m'.out.n m'.out.c])] w7 ∧ m'.ok w7 ∧ m'.cf = x.run c.l (ins.take (k + 1)) ∧
      Blk w7 gE 29 #[.slice en.st.A en.st.n en.st.c, .slice en.fr.A en.fr.n en.fr.c, .slice en.out.A en.out.n en.out.c] ∧ en.ok w7 ∧ L.ok w7) (q : Nat) (hv : v = .int .i64 ((k + 1 : Nat) : Int)) : CutL w c gE en L x ins v (w7.drewN q) := by
  obtain ⟨h1, h2, h3, h4, h5, h6⟩ := h
  have hb := bdN (Below.refl w7.heap.size w7) q
  exact ⟨k + 1, m', hk, hv, h1.drewN q, h2.below hb (Nat.le_refl _), h3, h4.drewN q, h5.below hb (Nat.le_refl _), h6.below hb (Nat.le_refl _)⟩

end Go.Proofs.Ytgjmbmlmopomgaa
