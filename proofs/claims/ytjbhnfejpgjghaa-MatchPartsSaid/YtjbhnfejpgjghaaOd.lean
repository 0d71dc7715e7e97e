/- Base of the walks of Offsets: two rows that are made in either order; what holds throughout; the table's cells. -/
import Derived.Test.YtjbhnfejpgjghaaOa
import Derived.Test.YtjbhnfejpgjghaaNx
namespace Go.Proofs.Ytjbhnfejpgjghaa
open Go.RowKit
set_option linter.unusedSimpArgs false
set_option linter.unusedVariables false

section
variable {P : Program} {ops : Array Oper} {Q : Exit → Act → World → Prop} {md : Region.Mode} {S : World → Prop} {K : List Nat}
/-- the two operations that may come up -/
theorem AnyK.two {i j : Nat} {oi oj : Oper} {fuel : Nat} {listed : Array Bool} {a : Act} {w : World} (hr : Region.ready md ops listed = [i, j]) (hoi : ops[i]? = some oi) (hoj : ops[j]? = some oj)
    (hi : ∀ K' : Act → World → Prop, Shut (∀ a' w', (K.all (fun k => !((listed.setIfInBounds i true).getD k true)) = true → S w') → AnyK P md ops Q S K fuel (listed.setIfInBounds i true) a' w' → K' a' w') →
      if Region.wanted oi (yielded ops a.tmps) = true then oi.wp P a w K' Q else K' (a.put oi.dst undef) w)
    (hj : ∀ K' : Act → World → Prop, Shut (∀ a' w', (K.all (fun k => !((listed.setIfInBounds j true).getD k true)) = true → S w') → AnyK P md ops Q S K fuel (listed.setIfInBounds j true) a' w' → K' a' w') →
      if Region.wanted oj (yielded ops a.tmps) = true then oj.wp P a w K' Q else K' (a.put oj.dst undef) w) : AnyK P md ops Q S K (fuel + 1) listed a w := by
  refine ⟨fun h0 => (by rw [h0] at hr; cases hr), fun x hx => ?_⟩
  rw [hr] at hx
  rcases List.mem_cons.1 hx with rfl | hx
  · exact wpOp_step hoi (fun K' hK => hi K' (fun a w hS hW => hK a w ⟨fun hoff => hS (List.all_eq_true.2 fun k hk => by rw [hoff k hk]; rfl), hW⟩))
  · obtain rfl : x = j := by simpa using hx
    exact wpOp_step hoj (fun K' hK => hj K' (fun a w hS hW => hK a w ⟨fun hoff => hS (List.all_eq_true.2 fun k hk => by rw [hoff k hk]; rfl), hW⟩))

theorem step_make_full {o : Oper} {a : Act} {w : World} {K : Act → World → Prop} {E : Prop} (hgd : o.guard = none) (l c : Operand) (t : TypeId) (hop : o.op = Op.makeSlice t l c)
    (base : Nat) (e : TypeId) (i : TypeInfo) (z : Value) (size : Nat) (h1 : P.underlying t = some (.slice e)) (h2 : P.info? e = some i) (h3 : i.zero = some z) (h4 : i.size = size)
    (n : Nat) (hl : a.eval l = .int .i64 (n : Int)) (hc : a.eval c = .int .i64 (n : Int)) (b2 : i.bytes * n ≤ 281474976710656) (b3 : n ≤ maxLen) (b4 : base ≤ w.heap.size)
    (hK : ∀ w', w'.ownsRow base e size (.slice (some ⟨w.heap.size, 0, none⟩) n n) n (madeCells z.cells (n * size)).toList → w.grownBy w' none → K (a.put o.dst (.slice (some ⟨w.heap.size, 0, none⟩) n n)) w') :
    if Region.wanted o (yielded ops a.tmps) = true then Oper.wp P o a w K Q else E := by
  have hw : Region.wanted o (yielded ops a.tmps) = true := by simp [Region.wanted, hgd]
  rw [if_pos hw]
  obtain ⟨w', hrun, r1, r2⟩ := run_make_full (P := P) w base t e i z size h1 h2 h3 h4 .i64 .i64 n b2 b3 b4
  unfold Oper.wp
  simp [execOp, hop, hl, hc, hrun, Result.andThen]
  exact hK w' r1 r2
end

/-- both rows lie there -/
def CutO (w2 : World) (n : Nat) (v9 v10 : Value) (wc : World) : Prop :=
  ∃ gC gD : Nat, v9 = .slice (some ⟨gC, 0, none⟩) n n ∧ v10 = .slice (some ⟨gD, 0, none⟩) n n ∧ w2.heap.size ≤ gC ∧ w2.heap.size ≤ gD ∧ gC ≠ gD ∧ RF wc gC n (fun _ => 0) ∧ RF wc gD n (fun _ => 0) ∧ Below w2.heap.size w2 wc

theorem RF.made {w w' : World} {B n : Nat} (h : w'.ownsRow B 3 1 (.slice (some ⟨w.heap.size, 0, none⟩) n n) n (madeCells (Value.int .i64 0).cells (n * 1)).toList) : RF w' w.heap.size n (fun _ => 0) := by
  rw [made_zerosI] at h
  exact made_rf h

/-- what holds throughout -/
structure OH (w2 : World) (gC gD n : Nat) (c d : Nat → Int) (wr : World) : Prop where
  lo : Below w2.heap.size w2 wr
  rc : RF wr gC n c
  rd : RF wr gD n d
theorem OH.congr {w2 : World} {gC gD n : Nat} {c d c' d' : Nat → Int} {wr : World} (h : OH w2 gC gD n c d wr) (hc : ∀ i, i < n → c i = c' i) (hd : ∀ i, i < n → d i = d' i) : OH w2 gC gD n c' d' wr := ⟨h.lo, RF.congr h.rc hc, RF.congr h.rd hd⟩
theorem OH.setD {w2 : World} {gC gD n : Nat} {c d : Nat → Int} {wr : World} (h : OH w2 gC gD n c d wr) (hC : w2.heap.size ≤ gC) (hD : w2.heap.size ≤ gD) (hne : gC ≠ gD) (k : Nat) (x : Int) : OH w2 gC gD n c (upd d k x) (wr.setCell ⟨gD, k, none⟩ (.int .i64 x)) :=
  ⟨h.lo.setCell (by show _ ≤ gD; omega) _, h.rc.other hne _ _, h.rd.set k x⟩
theorem OH.setC {w2 : World} {gC gD n : Nat} {c d : Nat → Int} {wr : World} (h : OH w2 gC gD n c d wr) (hC : w2.heap.size ≤ gC) (hD : w2.heap.size ≤ gD) (hne : gC ≠ gD) (k : Nat) (x : Int) : OH w2 gC gD n (upd c k x) d (wr.setCell ⟨gC, k, none⟩ (.int .i64 x)) :=
  ⟨h.lo.setCell (by show _ ≤ gC; omega) _, h.rc.set k x, h.rd.other (Ne.symm hne) _ _⟩
theorem OH.drewN {w2 : World} {gC gD n : Nat} {c d : Nat → Int} {wr : World} (h : OH w2 gC gD n c d wr) (k : Nat) : OH w2 gC gD n c d (wr.drewN k) := ⟨bdN h.lo k, h.rc.drewN k, h.rd.drewN k⟩
theorem OH.drew {w2 : World} {gC gD n : Nat} {c d : Nat → Int} {wr : World} (h : OH w2 gC gD n c d wr) : OH w2 gC gD n c d wr.drew := ⟨h.lo.drew, h.rc.drew, h.rd.drew⟩

/-- a cell of the table -/
theorem tab {w2 wr : World} {gA oA n c : Nat} {ls : List (List Int)} (hL : L2 w2 (some ⟨gA, oA, none⟩) n c ls) (hT : isT ls = true) (hn : ls.length = n) (hb : Below w2.heap.size w2 wr) {i k : Nat} (hi : i < n) (hk : k < n) :
    ∃ gl ol cl, wr.cell? ⟨gA, oA + i, none⟩ = some (.slice (some ⟨gl, ol, none⟩) n cl) ∧ wr.cell? ⟨gl, ol + k, none⟩ = some (.int .i64 (Wt ls i k)) := by
  obtain ⟨g, o, zs, A', n', c', hA, hg, hz, hc, h1⟩ := (hL.below hb (Nat.le_refl _)).cell hi
  obtain ⟨rfl, rfl⟩ : gA = g ∧ oA = o := by simpa using hA
  obtain ⟨l, hl, hl2, hll, -⟩ := isT_row hT (i := i) (by omega)
  obtain rfl : l = zs := by rw [hl] at hz; injection hz
  obtain rfl : n = n' := by rw [← h1.1, hll, hn]
  obtain ⟨gl, ol, x, hA', -, hx, -, hcx⟩ := h1.cell hk
  refine ⟨gl, ol, c', by rw [hc, hA'], ?_⟩
  have : Wt ls i k = x := by unfold Wt; rw [hl2, List.getD_eq_getElem?_getD, hx]; rfl
  rw [this]
  exact hcx

theorem ws_eq {ls : List (List Int)} {a b : Int} {l : List Int} {a' b' : Int} {l' : List Int} (h : weightS ls = (a, l, b)) (h' : Hid (weightS ls = (a', l', b'))) : a' = a ∧ l' = l ∧ b' = b := by
  have h' := h'.out
  rw [h] at h'
  simp only [Prod.mk.injEq] at h'
  exact ⟨h'.1.symm, h'.2.1.symm, h'.2.2.symm⟩
theorem ws_cases (ls : List (List Int)) : (isT ls = false ∧ weightS ls = (0, [], 1)) ∨ (isT ls = true ∧ heavy ls ls.length 0 < 0 ∧ weightS ls = (0, [], 4)) ∨
    (isT ls = true ∧ 0 ≤ heavy ls ls.length 0 ∧ weightS ls = (heavy ls ls.length 0, (List.range ls.length).map fun i => ((mW ls i : Nat) : Int), 0)) := by
  cases hT : isT ls with
  | false => exact .inl ⟨rfl, if_neg (by rw [hT]; simp)⟩
  | true =>
    by_cases h0 : heavy ls ls.length 0 < 0
    · exact .inr (.inl ⟨rfl, h0, by unfold weightS; rw [if_pos hT, if_pos h0]⟩)
    · refine .inr (.inr ⟨rfl, by omega, ?_⟩)
      rw [← mW_list hT (by omega)]
      unfold weightS
      rw [if_pos hT, if_neg h0]

def POf (ls : List (List Int)) (w : World) (e : Ending) (w' : World) : Prop :=
  ∃ (A : Option Addr) (n c : Nat) (A2 : Option Addr) (n2 c2 : Nat) (zs ys : List Int) (er : Int), e = .returned (.tuple #[.slice A n c, .slice A2 n2 c2, .int .i64 er]) ∧ IL w' A n c zs ∧ IL w' A2 n2 c2 ys ∧ OffR ls zs ys er ∧ Below w.heap.size w w'

/-! ## more on the passes -/
theorem dk_mono {V : Nat → Nat → Int} {c : Nat → Int} {k : Nat} {x : Int} {i : Nat} : ∀ {n}, i ≤ n → dk V c k i x ≤ dk V c k n x := by
  intro n
  induction n with
  | zero => intro h; have e : i = 0 := by omega
            subst e; exact Int.le_refl _
  | succ n ih =>
    intro h
    by_cases e : i = n + 1
    · rw [e]; exact Int.le_refl _
    · have := ih (by omega)
      refine Int.le_trans this ?_
      show _ ≤ (if 0 ≤ V n k then max (dk V c k n x) (V n k + c n) else dk V c k n x)
      split
      · exact Int.le_max_left _ _
      · exact Int.le_refl _
theorem dk_same {V : Nat → Nat → Int} {c : Nat → Int} {k : Nat} {x : Int} : ∀ {n}, (∀ i, i < n → 0 ≤ V i k → V i k + c i ≤ x) → dk V c k n x = x := by
  intro n
  induction n with
  | zero => intro _; rfl
  | succ n ih =>
    intro h
    unfold dk
    rw [ih fun i hi => h i (by omega)]
    split
    · have := h n (by omega) (by assumption)
      omega
    · rfl
theorem Fixd.of_c {V : Nat → Nat → Int} {m : Nat → Nat} {n t : Nat} (hm : ∀ i, i < n → m i < n) (h : ∀ i, i < n → (orb V m n (t + 1)).1 i = (orb V m n t).1 i) : Fixd V m n (t + 1) := by
  have hd : ∀ k, k < n → (orb V m n (t + 1 + 1)).2 k = (orb V m n (t + 1)).2 k := fun k hk => by
    show dk V (orb V m n (t + 1)).1 k n ((orb V m n (t + 1)).2 k) = _
    refine dk_same fun i hi h0 => ?_
    rw [h i hi]
    exact dk_ge (V := V) (c := (orb V m n t).1) (k := k) (x := (orb V m n t).2 k) hi h0
  refine ⟨fun i hi => ?_, hd⟩
  show (orb V m n (t + 1 + 1)).2 (m i) - V i (m i) = (orb V m n (t + 1)).2 (m i) - V i (m i)
  rw [hd _ (hm i hi)]

end Go.Proofs.Ytjbhnfejpgjghaa
