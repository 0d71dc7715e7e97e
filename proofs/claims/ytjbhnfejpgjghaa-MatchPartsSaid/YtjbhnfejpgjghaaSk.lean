/- What the reference reaches from free rows: the plain law of its queue. -/
import Derived.Test.YtjbhnfejpgjghaaSg
namespace Go.Proofs.Ytjbhnfejpgjghaa
set_option linter.unusedSimpArgs false
set_option linter.unusedVariables false

/-- reached from rows without a column: rows (true) and columns (false) -/
inductive RX (E : List (List Nat)) (R : Nat) (row col : Nat → Int) : Bool → Nat → Prop
  | free (i : Nat) : i < R → row i < 0 → RX E R row col true i
  | down (i k : Nat) : RX E R row col true i → k ∈ E.getD i [] → RX E R row col false k
  | back (k : Nat) : RX E R row col false k → 0 ≤ col k → RX E R row col true (col k).toNat

structure QI (E : List (List Nat)) (R : Nat) (row col : Nat → Int) (t : List Nat) (f g : Nat → Bool) : Prop where
  nd : t.Nodup
  lt : ∀ i ∈ t, i < R
  ft : ∀ i, f i = true ↔ i ∈ t
  rs : ∀ i ∈ t, RX E R row col true i
  cs : ∀ k, g k = true → RX E R row col false k
  bk : ∀ k, g k = true → 0 ≤ col k → (col k).toNat ∈ t
section
variable {E : List (List Nat)} {R : Nat} {row col : Nat → Int} {t : List Nat} {f g : Nat → Bool}
theorem QI.nil : QI E R row col [] (fun _ => false) (fun _ => false) :=
  ⟨List.nodup_nil, fun i h => (by cases h), fun i => by simp, fun i h => (by cases h), fun k h => (by cases h), fun k h => (by cases h)⟩
theorem upd_iff {f : Nat → Bool} {i x : Nat} : upd f i true x = true ↔ x = i ∨ f x = true := by
  unfold upd
  by_cases e : x = i
  · simp [e]
  · simp [e]
theorem nodup_snoc {t : List Nat} {i : Nat} (h : t.Nodup) (hi : i ∉ t) : (t ++ [i]).Nodup := by
  rw [List.nodup_append]
  refine ⟨h, by simp, fun a ha b hb => ?_⟩
  have : b = i := by simpa using hb
  rintro rfl
  exact hi (this ▸ ha)
theorem QI.push (h : QI E R row col t f g) {i : Nat} (hi : i < R) (hr : RX E R row col true i) (hn : i ∉ t) : QI E R row col (t ++ [i]) (upd f i true) g := by
  refine ⟨nodup_snoc h.nd hn, fun x hx => ?_, fun x => ?_, fun x hx => ?_, h.cs, fun k hk h0 => List.mem_append_left _ (h.bk k hk h0)⟩
  · rcases List.mem_append.1 hx with hx | hx
    · exact h.lt x hx
    · have : x = i := by simpa using hx
      omega
  · rw [upd_iff, h.ft]
    simp [or_comm]
  · rcases List.mem_append.1 hx with hx | hx
    · exact h.rs x hx
    · have : x = i := by simpa using hx
      rw [this]; exact hr
theorem QI.acol (h : QI E R row col t f g) {k : Nat} (hk : RX E R row col false k) (hb : 0 ≤ col k → (col k).toNat ∈ t) : QI E R row col t f (upd g k true) := by
  refine ⟨h.nd, h.lt, h.ft, h.rs, fun x hx => ?_, fun x hx h0 => ?_⟩
  · rcases upd_iff.1 hx with rfl | hx
    · exact hk
    · exact h.cs x hx
  · rcases upd_iff.1 hx with rfl | hx
    · exact hb h0
    · exact h.bk x hx h0
theorem QI.colrow (h : QI E R row col t f g) {k : Nat} (hk : RX E R row col false k) (h0 : 0 ≤ col k) (hlt : (col k).toNat < R) (hn : (col k).toNat ∉ t) : QI E R row col (t ++ [(col k).toNat]) (upd f (col k).toNat true) (upd g k true) :=
  (h.push hlt (.back k hk h0) hn).acol hk (fun _ => by simp)
theorem QI.len (h : QI E R row col t f g) : t.length ≤ R := by
  have := nodup_sub t (List.range R) h.nd (fun x hx => List.mem_range.2 (h.lt x hx))
  simpa using this

/-- the columns of the first n have been met -/
def Dn (E : List (List Nat)) (t : List Nat) (g : Nat → Bool) (n : Nat) : Prop := ∀ m i, m < n → t[m]? = some i → ∀ k ∈ E.getD i [], g k = true
theorem Dn.acol {n : Nat} (h : Dn E t g n) (k : Nat) : Dn E t (upd g k true) n := fun m i hm hi x hx => upd_iff.2 (.inr (h m i hm hi x hx))
theorem Dn.push {n : Nat} (h : Dn E t g n) (hn : n ≤ t.length) (i : Nat) : Dn E (t ++ [i]) g n := fun m j hm hj x hx => h m j hm (by rw [List.getElem?_append_left (by omega)] at hj; exact hj) x hx
theorem Dn.next {n i : Nat} (h : Dn E t g n) (hi : t[n]? = some i) (hk : ∀ k ∈ E.getD i [], g k = true) : Dn E t g (n + 1) := fun m j hm hj x hx => by
  by_cases e : m = n
  · subst e
    rw [hi] at hj
    injection hj with hj
    subst hj
    exact hk x hx
  · exact h m j (by omega) hj x hx
theorem QI.done (h : QI E R row col t f g) (hd : Dn E t g t.length) (hf : ∀ i, i < R → row i < 0 → i ∈ t) : (∀ i, f i = true ↔ RX E R row col true i) ∧ ∀ k, g k = true ↔ RX E R row col false k := by
  have hall : ∀ b x, RX E R row col b x → if b = true then x ∈ t else g x = true := by
    intro b x hx
    induction hx with
    | free i hi hr => exact hf i hi hr
    | down i k _ hk ih =>
      have ih : i ∈ t := ih
      obtain ⟨m, hm⟩ := List.getElem?_of_mem ih
      exact hd m i (List.getElem?_eq_some_iff.1 hm).1 hm k hk
    | back k _ h0 ih =>
      exact h.bk k ih h0
  refine ⟨fun i => ⟨fun hi => h.rs i ((h.ft i).1 hi), fun hi => (h.ft i).2 (hall _ _ hi)⟩, fun k => ⟨h.cs k, fun hk => hall _ _ hk⟩⟩
end

/-- numbers as ints -/
def ti (t : List Nat) : List Int := t.map fun (i : Nat) => (i : Int)
theorem ti_len (t : List Nat) : (ti t).length = t.length := by simp [ti]
theorem ti_snoc (t : List Nat) (i : Nat) : ti (t ++ [i]) = ti t ++ [(i : Int)] := by simp [ti]
theorem ti_get {t : List Nat} {n i : Nat} (h : t[n]? = some i) : (ti t)[n]? = some (i : Int) := by simp [ti, h]

end Go.Proofs.Ytjbhnfejpgjghaa

/- The reference's reached: the walk. -/
namespace Go.Proofs.Ytjbhnfejpgjghaa
open Go.RowKit
set_option linter.unusedSimpArgs false
set_option linter.unusedVariables false

theorem QS.fr {z : QT} {row col : Nat → Int} {w w' : World} (h : QS z row col w) {xs : List Nat} (hf : Fr xs w w') (hx : ∀ x ∈ xs, x ∉ [z.gP, z.gRow, z.gCol, z.gOR, z.gOC] ∧ z.B ≤ x) : QS z row col w' := by
  have hn : ∀ g ∈ [z.gP, z.gRow, z.gCol, z.gOR, z.gOC], g ∉ xs := fun g hg hm => (hx g hm).1 hg
  exact ⟨hf.blk h.bP (hn _ (by simp)), h.en.below (hf.below h.sz (fun x hm => (hx x hm).2)), h.row.fr hf (hn _ (by simp)), h.col.fr hf (hn _ (by simp)), h.oR.fr hf (hn _ (by simp)), h.oC.fr hf (hn _ (by simp)), Nat.le_trans h.sz hf.size⟩

/-- both rows lie there -/
def CutRC (w2 : World) (R C : Nat) (v5 v6 : Value) (wc : World) : Prop :=
  ∃ gR gC : Nat, v5 = .slice (some ⟨gR, 0, none⟩) R R ∧ v6 = .slice (some ⟨gC, 0, none⟩) C C ∧ w2.heap.size ≤ gR ∧ w2.heap.size ≤ gC ∧ gR ≠ gC ∧ RO wc gR R (fun _ => false) ∧ RO wc gC C (fun _ => false) ∧ Below w2.heap.size w2 wc

structure RZF (z : QT) (w : World) (gR gC B7 : Nat) : Prop where
  zs : ∀ x ∈ [z.gP, z.gRow, z.gCol, z.gOR, z.gOC], x < B7 ∧ x ≠ gR ∧ x ≠ gC
  rc : gR ≠ gC
  lt : gR < B7 ∧ gC < B7
  lo : w.heap.size + 1 ≤ gR ∧ w.heap.size + 1 ≤ gC ∧ w.heap.size + 1 ≤ B7
  zb : z.B ≤ w.heap.size
structure RZ (z : QT) (w : World) (m : Array Value) (gR gC B7 : Nat) (row col : Nat → Int) (t : List Nat) (f g : Nat → Bool) (v7 : Value) (wr : World) : Prop where
  own : Own w [(33, m)] wr
  q : QS z row col wr
  rf : RO wr gR z.R f
  rg : RO wr gC z.C g
  td : RowI wr B7 v7 (ti t)
  b7 : B7 ≤ wr.heap.size
section
variable {z : QT} {w : World} {m : Array Value} {gR gC B7 : Nat} {row col : Nat → Int} {t : List Nat} {f g : Nat → Bool} {v7 : Value} {wr w9 : World}
theorem RZ.call (h : RZ z w m gR gC B7 row col t f g v7 wr) (hb : Below wr.heap.size wr w9) : RZ z w m gR gC B7 row col t f g v7 w9 := ⟨h.own.call hb, h.q.call hb, h.rf.call hb, h.rg.call hb, h.td.call hb, Nat.le_trans h.b7 hb.size⟩
theorem RZ.setR (hz : RZF z w gR gC B7) (h : RZ z w m gR gC B7 row col t f g v7 wr) (i : Nat) (v : Bool) : RZ z w m gR gC B7 row col t (upd f i v) g v7 (wr.setCell ⟨gR, i, none⟩ (.bool v)) := by
  have hf : Fr [gR] wr (wr.setCell ⟨gR, i, none⟩ (.bool v)) := (Fr.refl _ _).set (by simp) _
  have h1 := hz.lo
  have h2 := hz.zb
  refine ⟨h.own.fr hf (by simp; omega), h.q.fr hf (fun x hx => ?_), h.rf.set i v, h.rg.other (Ne.symm hz.rc) _ _, h.td.far hz.lt.1 _ _, Nat.le_trans h.b7 hf.size⟩
  obtain rfl : x = gR := by simpa using hx
  exact ⟨fun hm => (hz.zs x hm).2.1 rfl, by omega⟩
theorem RZ.setC (hz : RZF z w gR gC B7) (h : RZ z w m gR gC B7 row col t f g v7 wr) (i : Nat) (v : Bool) : RZ z w m gR gC B7 row col t f (upd g i v) v7 (wr.setCell ⟨gC, i, none⟩ (.bool v)) := by
  have hf : Fr [gC] wr (wr.setCell ⟨gC, i, none⟩ (.bool v)) := (Fr.refl _ _).set (by simp) _
  have h1 := hz.lo
  have h2 := hz.zb
  refine ⟨h.own.fr hf (by simp; omega), h.q.fr hf (fun x hx => ?_), h.rf.other hz.rc _ _, h.rg.set i v, h.td.far hz.lt.2 _ _, Nat.le_trans h.b7 hf.size⟩
  obtain rfl : x = gC := by simpa using hx
  exact ⟨fun hm => (hz.zs x hm).2.2 rfl, by omega⟩
theorem RZ.push (hz : RZF z w gR gC B7) (h : RZ z w m gR gC B7 row col t f g v7 wr) {i : Nat} {v' : Value} (hr : RowI w9 B7 v' (ti t ++ [(i : Int)])) (hg : wr.grownBy w9 v7.ownBlock) : RZ z w m gR gC B7 row col (t ++ [i]) f g v' w9 := by
  have hf : Fr (obs v7) wr w9 := Fr.grown hg
  have hat : ∀ x ∈ obs v7, B7 ≤ x := fun x hx => (h.td.at (mem_obs.1 hx)).1
  have h1 := hz.lo
  have h2 := hz.zb
  refine ⟨h.own.fr hf ?_, h.q.fr hf (fun x hx => ?_), h.rf.fr hf (fun hm => by have := hat _ hm; have := hz.lt; omega), h.rg.fr hf (fun hm => by have := hat _ hm; have := hz.lt; omega), by rw [ti_snoc]; exact hr, Nat.le_trans h.b7 hf.size⟩
  · intro x hx
    have := hat x hx
    simp only [List.length_cons, List.length_nil]
    omega
  · have := hat x hx
    exact ⟨fun hm => by have := (hz.zs x hm).1; omega, by omega⟩
end

def PRe (R C : Nat) (E : List (List Nat)) (row col : Nat → Int) (w : World) (e : Ending) (w' : World) : Prop :=
  ∃ (gR gC : Nat) (f g : Nat → Bool), e = .returned (.tuple #[.slice (some ⟨gR, 0, none⟩) R R, .slice (some ⟨gC, 0, none⟩) C C]) ∧ RO w' gR R f ∧ RO w' gC C g ∧
    (∀ i, f i = true ↔ RX E R row col true i) ∧ (∀ k, g k = true ↔ RX E R row col false k) ∧ Below w.heap.size w w'

set_option maxRecDepth 100000 in
set_option maxHeartbeats 4000000 in
theorem ref_reached (R C : Nat) (E : List (List Nat)) (hI : Inc R C E) (B : Nat) (AE : Option Addr) (cE : Nat) (w : World) (hB : B ≤ w.heap.size) (hN : N2 B w AE R cE E) :
    Calls Try.prog 46 #[.agg #[.int .i64 (R : Int), .int .i64 (C : Int), .slice AE R cE]] w (PRe R C E (fill E (fun _ => true) (fun _ => true) C R).1 (fill E (fun _ => true) (fun _ => true) C R).2 w) := by
  have hR := hI.1
  have hC := hI.2.1
  obtain ⟨row, hrow⟩ : ∃ row, Hid (row = (fill E (fun _ => true) (fun _ => true) C R).1) := ⟨_, rfl⟩
  obtain ⟨col, hcol⟩ : ∃ col, Hid (col = (fill E (fun _ => true) (fun _ => true) C R).2) := ⟨_, rfl⟩
  have hmx' : Hid (Mx E R C row col) := by rw [hrow.out, hcol.out]; exact fill_mx hI.2.2.2
  rw [← hrow.out, ← hcol.out]
  have hI' := Lib.hid hI
  have hu := Try.underlying86
  have hu2 := Try.underlying33
  obtain ⟨j0, hj0, yz0, yz1, yz2⟩ := infoB_parts
  have hO := Own.one w 33 #[.int .i64 (R : Int), .int .i64 (C : Int), .slice AE R cE]
  obtain ⟨m0, m1, m2⟩ := cells3 hO.b0
  have hp := Lib.hid (ref_paired R C E hI B AE cE _ (Nat.le_trans hB hO.1.size) (hN.below (hO.1.mono hB)))
  have hO' := Lib.hid hO
  clear hO
  go_enter Try.func46, Try.ntmps46
  go_upto_region 3 with (first
    | (go_at_call 61; (with_reducible refine hp.out.mono ?_); rintro e w2 ⟨gP, gRow, gCol, gOR, gOC, rfl, hge, hdd, hzf, hq, hb2⟩; have hf := Lib.hid (ref_fill (QT.mk gP gRow gCol gOR gOC B AE cE R C E (fun _ => true) (fun _ => true)) hzf w2 hq (by
        intro g hg
        have hg' : g = gP ∨ g = gRow ∨ g = gCol ∨ g = gOR ∨ g = gOC := by simpa using hg
        have h0 := hq.bP.lt
        have h1 := hq.row.lt
        have h2 := hq.col.lt
        have h3 := hq.oR.lt
        have h4 := hq.oC.lt
        rcases hg' with rfl | rfl | rfl | rfl | rfl
        · exact h0
        · exact h1
        · exact h2
        · exact h3
        · exact h4)))
    | (go_at_call 62; refine hf.out.mono ?_; rintro e w4 ⟨rfl, hq4, hf4⟩))
  obtain ⟨l0, l1, l2, l3, l4⟩ := hge
  have hs1 := hO'.out.2.1
  simp only [List.length_cons, List.length_nil] at hs1
  have hO2 := hO'.out.call hb2
  have hO4 := Lib.hid (hO2.fr hf4 (by
    intro x hx
    have hx' : x = gRow ∨ x = gCol := by simpa using hx
    simp only [List.length_cons, List.length_nil]
    omega))
  clear m0 m1 m2
  obtain ⟨m0, m1, m2⟩ := cells3 hO4.out.b0
  have hq4' : QS (QT.mk gP gRow gCol gOR gOC B AE cE R C E (fun _ => true) (fun _ => true)) row col w4 := by rw [hrow.out, hcol.out]; exact hq4
  have hzl : ∀ g ∈ [gP, gRow, gCol, gOR, gOC], g < w4.heap.size := by
    intro g hg
    have hg' : g = gP ∨ g = gRow ∨ g = gCol ∨ g = gOR ∨ g = gOC := by simpa using hg
    have h0 := hq4.bP.lt
    have h1 := hq4.row.lt
    have h2 := hq4.col.lt
    have h3 := hq4.oR.lt
    have h4 := hq4.oC.lt
    rcases hg' with rfl | rfl | rfl | rfl | rfl
    · exact h0
    · exact h1
    · exact h2
    · exact h3
    · exact h4
  have hzl' := Lib.hid hzl
  have hq5 := Lib.hid hq4'
  have hzf' := Lib.hid hzf
  have hw4s : w.heap.size + 1 ≤ w4.heap.size := hO4.out.2.1
  clear hq4 hq4' hf4 hf hp hq hb2 hO2 hO' hrow hcol hzl hzf hdd hs1 l0 l1 l2 l3 l4
  go_cut [5, 6] from 17 to 22 (fun v5 v6 wc => CutRC w4 R C v5 v6 wc)
  case first =>
    have hSS : (fun w' : World => w'.cell? ⟨w.heap.size, 0, none⟩ = some (.int .i64 (R : Int)) ∧ w'.cell? ⟨w.heap.size, 1, none⟩ = some (.int .i64 (C : Int))) w4.drew := ⟨m0, m1⟩
    have hSW : ∀ wx, Below w4.heap.size w4 wx → (fun w' : World => w'.cell? ⟨w.heap.size, 0, none⟩ = some (.int .i64 (R : Int)) ∧ w'.cell? ⟨w.heap.size, 1, none⟩ = some (.int .i64 (C : Int))) wx := fun wx hb => by
      obtain ⟨q0, q1, -⟩ := cells3 (hO4.out.call hb).b0
      exact ⟨q0, q1⟩
    refine wp_region_K (S := (fun w' : World => w'.cell? ⟨w.heap.size, 0, none⟩ = some (.int .i64 (R : Int)) ∧ w'.cell? ⟨w.heap.size, 1, none⟩ = some (.int .i64 (C : Int)))) (K := []) (by kernel_rfl) ?_
    refine AnyK.takeFree (i := 0) (v := .pointer (some ⟨w.heap.size, 0, none⟩)) rfl (by kernel_rfl) (by kernel_rfl) (by kernel_rfl) (by kernel_rfl) (fun _ _ _ h => h) (Or.inl ⟨by rfl, ?_⟩) hSS ?_
    · rintro w' -
      go_simp
    (try simp only [Act.put, List.setIfInBounds_toArray, List.set_cons_zero, List.set_cons_succ])
    refine AnyK.take (i := 1) (v := .int .i64 (R : Int)) rfl (by kernel_rfl) (by kernel_rfl) (by kernel_rfl) (by kernel_rfl) (by kernel_rfl) (by kernel_rfl) (fun _ _ _ h => h) (Or.inl ⟨by rfl, ?_⟩) hSS ?_
    · rintro w' ⟨a0, a1⟩
      go_simp
    (try simp only [Act.put, List.setIfInBounds_toArray, List.set_cons_zero, List.set_cons_succ])
    refine AnyK.takeFree (i := 3) (v := .pointer (some ⟨w.heap.size, 1, none⟩)) rfl (by kernel_rfl) (by kernel_rfl) (by kernel_rfl) (by kernel_rfl) (fun _ _ _ h => h) (Or.inl ⟨by rfl, ?_⟩) hSS ?_
    · rintro w' -
      go_simp
    (try simp only [Act.put, List.setIfInBounds_toArray, List.set_cons_zero, List.set_cons_succ])
    refine AnyK.take (i := 4) (v := .int .i64 (C : Int)) rfl (by kernel_rfl) (by kernel_rfl) (by kernel_rfl) (by kernel_rfl) (by kernel_rfl) (by kernel_rfl) (fun _ _ _ h => h) (Or.inl ⟨by rfl, ?_⟩) hSS ?_
    · rintro w' ⟨a0, a1⟩
      go_simp
    (try simp only [Act.put, List.setIfInBounds_toArray, List.set_cons_zero, List.set_cons_succ])
    refine AnyK.two (i := 2) (j := 5) (by kernel_rfl) rfl rfl (fun K' hK => ?_) (fun K' hK => ?_)
    · refine step_make_full (by rfl) _ _ 67 (by rfl) w4.heap.size 4 j0 (.bool false) 1 Try.underlying67 hj0 yz0 yz1 R (by rfl) (by rfl) (by rw [yz2]; omega) (by unfold maxLen; omega) (Nat.le_refl _) ?_
      intro wa hown_wa hg_wa
      go_simp
      have hrwa := RO.made hown_wa
      have hbwa : Below w4.heap.size w4 wa := (Below.refl _ _).drew.grown hg_wa (Nat.le_refl _) (by intro k hk; cases hk)
      have hSwa := hSW _ hbwa
      refine hK.out _ _ (fun _ => hSwa) ?_
      clear hK
      (try simp only [Act.put, List.setIfInBounds_toArray, List.set_cons_zero, List.set_cons_succ])
      refine AnyK.two (i := 5) (j := 6) (by kernel_rfl) rfl rfl (fun K' hK => ?_) (fun K' hK => ?_)
      · refine step_make_full (by rfl) _ _ 67 (by rfl) wa.heap.size 4 j0 (.bool false) 1 Try.underlying67 hj0 yz0 yz1 C (by rfl) (by rfl) (by rw [yz2]; omega) (by unfold maxLen; omega) (Nat.le_refl _) ?_
        intro wb hown_wb hg_wb
        go_simp
        have hrwb := RO.made hown_wb
        have hbwb : Below wa.heap.size wa wb := (Below.refl _ _).grown hg_wb (Nat.le_refl _) (by intro k hk; cases hk)
        have hbw2 := hbwa.trans (hbwb.mono hbwa.size)
        have hSwb := hSW _ hbw2
        refine hK.out _ _ (fun _ => hSwb) ?_
        clear hK
        (try simp only [Act.put, List.setIfInBounds_toArray, List.set_cons_zero, List.set_cons_succ])
        refine AnyK.one (i := 6) (by kernel_rfl) rfl (fun K' hK => ?_)
        go_simp
        refine hK.out _ _ (fun _ => hSwb) ?_
        clear hK
        (try simp only [Act.put, List.setIfInBounds_toArray, List.set_cons_zero, List.set_cons_succ])
        refine AnyK.one (i := 7) (by kernel_rfl) rfl (fun K' hK => ?_)
        go_simp
        refine hK.out _ _ (fun _ => hSwb) ?_
        clear hK
        (try simp only [Act.put, List.setIfInBounds_toArray, List.set_cons_zero, List.set_cons_succ])
        refine AnyK.done (by kernel_rfl) ?_ _
        go_wp2_with fail
        go_meet
        exact ⟨w4.heap.size, wa.heap.size, rfl, rfl, Nat.le_refl _, hbwa.size, by have h : w4.heap.size < wa.heap.size := hrwa.lt; omega, hrwa.call hbwb, hrwb, hbw2⟩
      · go_simp
        refine hK.out _ _ (fun _ => hSwa) ?_
        clear hK
        (try simp only [Act.put, List.setIfInBounds_toArray, List.set_cons_zero, List.set_cons_succ])
        refine AnyK.one (i := 5) (by kernel_rfl) rfl (fun K' hK => ?_)
        refine step_make_full (by rfl) _ _ 67 (by rfl) wa.heap.size 4 j0 (.bool false) 1 Try.underlying67 hj0 yz0 yz1 C (by rfl) (by rfl) (by rw [yz2]; omega) (by unfold maxLen; omega) (Nat.le_refl _) ?_
        intro wb hown_wb hg_wb
        go_simp
        have hrwb := RO.made hown_wb
        have hbwb : Below wa.heap.size wa wb := (Below.refl _ _).grown hg_wb (Nat.le_refl _) (by intro k hk; cases hk)
        have hbw2 := hbwa.trans (hbwb.mono hbwa.size)
        have hSwb := hSW _ hbw2
        refine hK.out _ _ (fun _ => hSwb) ?_
        clear hK
        (try simp only [Act.put, List.setIfInBounds_toArray, List.set_cons_zero, List.set_cons_succ])
        refine AnyK.one (i := 7) (by kernel_rfl) rfl (fun K' hK => ?_)
        go_simp
        refine hK.out _ _ (fun _ => hSwb) ?_
        clear hK
        (try simp only [Act.put, List.setIfInBounds_toArray, List.set_cons_zero, List.set_cons_succ])
        refine AnyK.done (by kernel_rfl) ?_ _
        go_wp2_with fail
        go_meet
        exact ⟨w4.heap.size, wa.heap.size, rfl, rfl, Nat.le_refl _, hbwa.size, by have h : w4.heap.size < wa.heap.size := hrwa.lt; omega, hrwa.call hbwb, hrwb, hbw2⟩
    · refine step_make_full (by rfl) _ _ 67 (by rfl) w4.heap.size 4 j0 (.bool false) 1 Try.underlying67 hj0 yz0 yz1 C (by rfl) (by rfl) (by rw [yz2]; omega) (by unfold maxLen; omega) (Nat.le_refl _) ?_
      intro wa hown_wa hg_wa
      go_simp
      have hrwa := RO.made hown_wa
      have hbwa : Below w4.heap.size w4 wa := (Below.refl _ _).drew.grown hg_wa (Nat.le_refl _) (by intro k hk; cases hk)
      have hSwa := hSW _ hbwa
      refine hK.out _ _ (fun _ => hSwa) ?_
      clear hK
      (try simp only [Act.put, List.setIfInBounds_toArray, List.set_cons_zero, List.set_cons_succ])
      refine AnyK.one (i := 2) (by kernel_rfl) rfl (fun K' hK => ?_)
      refine step_make_full (by rfl) _ _ 67 (by rfl) wa.heap.size 4 j0 (.bool false) 1 Try.underlying67 hj0 yz0 yz1 R (by rfl) (by rfl) (by rw [yz2]; omega) (by unfold maxLen; omega) (Nat.le_refl _) ?_
      intro wb hown_wb hg_wb
      go_simp
      have hrwb := RO.made hown_wb
      have hbwb : Below wa.heap.size wa wb := (Below.refl _ _).grown hg_wb (Nat.le_refl _) (by intro k hk; cases hk)
      have hbw2 := hbwa.trans (hbwb.mono hbwa.size)
      have hSwb := hSW _ hbw2
      refine hK.out _ _ (fun _ => hSwb) ?_
      clear hK
      (try simp only [Act.put, List.setIfInBounds_toArray, List.set_cons_zero, List.set_cons_succ])
      refine AnyK.one (i := 6) (by kernel_rfl) rfl (fun K' hK => ?_)
      go_simp
      refine hK.out _ _ (fun _ => hSwb) ?_
      clear hK
      (try simp only [Act.put, List.setIfInBounds_toArray, List.set_cons_zero, List.set_cons_succ])
      refine AnyK.one (i := 7) (by kernel_rfl) rfl (fun K' hK => ?_)
      go_simp
      refine hK.out _ _ (fun _ => hSwb) ?_
      clear hK
      (try simp only [Act.put, List.setIfInBounds_toArray, List.set_cons_zero, List.set_cons_succ])
      refine AnyK.done (by kernel_rfl) ?_ _
      go_wp2_with fail
      go_meet
      exact ⟨wa.heap.size, w4.heap.size, rfl, rfl, hbwa.size, Nat.le_refl _, by have h : w4.heap.size < wa.heap.size := hrwa.lt; omega, hrwb, hrwa.call hbwb, hbw2⟩
  case rest =>
    obtain ⟨gR, gC, rfl, rfl, hgR, hgC, hne, hrf, hrg, hb5⟩ := hcut
    obtain ⟨z, hz⟩ : ∃ z, z = QT.mk gP gRow gCol gOR gOC B AE cE R C E (fun _ => true) (fun _ => true) := ⟨_, rfl⟩
    obtain ⟨B7, hB7⟩ : ∃ B7, B7 = wc.heap.size := ⟨_, rfl⟩
    have hzF : Hid (RZF z w gR gC B7) := by
      refine ⟨fun x hx => ?_, hne, by rw [hB7]; exact ⟨hrf.lt, hrg.lt⟩, ⟨by omega, by omega, by have := hb5.size; omega⟩, by rw [hz]; exact hB⟩
      rw [hz] at hx
      have := hzl'.out x hx
      have := hb5.size
      omega
    have hZ0 : Hid (RZ z w #[.int .i64 (R : Int), .int .i64 (C : Int), .slice AE R cE] gR gC B7 row col [] (fun _ => false) (fun _ => false) (.slice none 0 0) wc) := by
      rw [hz]
      exact ⟨hO4.out.call hb5, hq5.out.call hb5, hrf, hrg, RowI.nil _ _, by omega⟩
    have hQ0 : Hid (QI E R row col [] (fun _ => false) (fun _ => false)) := QI.nil
    have hzR : z.R = R := by rw [hz]
    have hzC : z.C = C := by rw [hz]
    have hz1 : z.gRow = gRow := by rw [hz]
    have hz2 : z.gCol = gCol := by rw [hz]
    have hzP : Hid (∀ wx, QS z row col wx → wx.cell? ⟨gP, 1, none⟩ = some (.slice (some ⟨gRow, 0, none⟩) R R) ∧ wx.cell? ⟨gP, 2, none⟩ = some (.slice (some ⟨gCol, 0, none⟩) C C) ∧ RF wx gRow R row ∧ RF wx gCol C col) := by
      intro wx h
      rw [hz] at h
      exact ⟨h.bP.cell 1, h.bP.cell 2, h.row, h.col⟩
    have hzO : Hid (∀ t f g v7 wx, RZ z w #[.int .i64 (R : Int), .int .i64 (C : Int), .slice AE R cE] gR gC B7 row col t f g v7 wx → RO wx gR R f ∧ RO wx gC C g) := by
      intro t f g v7 wx h
      have h1 := h.rf
      have h2 := h.rg
      rw [hzR] at h1
      rw [hzC] at h2
      exact ⟨h1, h2⟩
    clear hzR hzC hz1 hz2 hz hB7 hrf hrg hb5 hzl' hO4 hq5 hgR hgC m0 m1 m2
    go_wp2_with fail
    go_loopw [7, 25] (fun v7 v25 wr => ∃ (i : Nat) (t : List Nat) (f : Nat → Bool), i ≤ R ∧ v25 = .int .i64 (i : Int) ∧ Hid (RZ z w #[.int .i64 (R : Int), .int .i64 (C : Int), .slice AE R cE] gR gC B7 row col t f (fun _ => false) v7 wr) ∧ Hid (QI E R row col t f (fun _ => false)) ∧ Hid (∀ x ∈ t, x < i) ∧ Hid (∀ x, x < i → row x < 0 → x ∈ t)) (fun _ i _ => R - (intOf i).toNat)
    case atStart => exact ⟨0, [], fun _ => false, by omega, rfl, hZ0, hQ0, (fun x hx => by cases hx), (fun x hx => by omega)⟩
    case round =>
      clear hZ0 hQ0
      obtain ⟨i, t, f, hi, rfl, hZ, hQ, hlt, hfr⟩ := hrel
      by_cases hiR : i < R
      · obtain ⟨cP1, cP2, hrw, hcl⟩ := hzP.out _ hZ.out.q
        have cRi := hrw.cell hiR
        have hiRi : (i : Int) < (R : Int) := by omega
        clear hcl
        by_cases hp : row i < 0
        · have hp' : decide (row i < 0) = true := by simpa using hp
          obtain ⟨hoR, hoC⟩ := hzO.out _ _ _ _ _ hZ.out
          have cFi := hoR.cell hiR
          have fFi := hoR.frozen i
          have hnt : i ∉ t := fun hm => by have := hlt.out i hm; omega
          have hQ2 : Hid (QI E R row col (t ++ [i]) (upd f i true) (fun _ => false)) := hQ.out.push hiR (.free i hiR hp) hnt
          have hlt2 : Hid (∀ x ∈ t ++ [i], x < i + 1) := fun x hx => by
            rcases List.mem_append.1 hx with hx | hx
            · have := hlt.out x hx; omega
            · have : x = i := by simpa using hx
              omega
          have hfr2 : Hid (∀ x, x < i + 1 → row x < 0 → x ∈ t ++ [i]) := fun x hx h0 => by
            by_cases e : x = i
            · rw [e]; simp
            · exact List.mem_append_left _ (hfr.out x (by omega) h0)
          have hZ2 := Lib.hid (hZ.out.setR hzF.out i true)
          have htl := hQ.out.len
          have htl2 := ti_len t
          clear hoR hoC hnt hQ hfr hlt
          go_upto_region 10 with fail
          obtain ⟨w6, hw6⟩ : ∃ w6, w6 = wr.setCell ⟨gR, i, none⟩ (.bool true) := ⟨_, rfl⟩
          rw [← hw6] at hZ2 ⊢
          clear hw6 cFi fFi cP1 cP2 cRi hrw hZ
          have hba : Below w6.heap.size w6 (w6.alloc (.cells #[.int .i64 (i : Int)] 3)) := (Below.refl _ _).alloc (Nat.le_refl _) _
          have hb7 := hZ2.out.b7
          go_wp2_with (at_builtin; refine wpList_app rfl _ _ rfl B7 _ _ rfl (hZ2.out.td.more _) (by omega) (by simp; omega) ⟨w6.heap.size, 0, none⟩ 1 (i : Int) rfl (cell_one_new _ _ _) ?_; intro v' w9 hr9 hg9 hat9)
          have hZ9 : Hid (RZ z w #[.int .i64 (R : Int), .int .i64 (C : Int), .slice AE R cE] gR gC B7 row col (t ++ [i]) (upd f i true) (fun _ => false) v' w9) := (hZ2.out.call hba).push hzF.out hr9 hg9
          go_roundw
          case rel => exact ⟨i + 1, _, _, by omega, by go_num, hZ9, hQ2, hlt2, hfr2⟩
          case measure => simp [intOf]; omega
        · have hp' : decide (row i < 0) = false := by simpa using hp
          have hlt2 : Hid (∀ x ∈ t, x < i + 1) := fun x hx => by have := hlt.out x hx; omega
          have hfr2 : Hid (∀ x, x < i + 1 → row x < 0 → x ∈ t) := fun x hx h0 => by
            by_cases e : x = i
            · rw [e] at h0; omega
            · exact hfr.out x (by omega) h0
          go_wp2_with fail
          go_roundw
          case rel => exact ⟨i + 1, _, _, by omega, by go_num, hZ, hQ, hlt2, hfr2⟩
          case measure => simp [intOf]; omega
      · have hfr2 : Hid (∀ x, x < R → row x < 0 → x ∈ t) := fun x hx h0 => hfr.out x (by omega) h0
        have hD0 : Hid (Dn E t (fun _ => false) 0) := fun m i hm => by omega
        clear hlt hfr
        go_wp2_with fail
        go_loopw [7, 9] (fun v7 v9 wr => ∃ (n : Nat) (t : List Nat) (f g : Nat → Bool), n ≤ t.length ∧ v9 = .int .i64 (n : Int) ∧ Hid (RZ z w #[.int .i64 (R : Int), .int .i64 (C : Int), .slice AE R cE] gR gC B7 row col t f g v7 wr) ∧ Hid (QI E R row col t f g) ∧ Hid (Dn E t g n) ∧ Hid (∀ x, x < R → row x < 0 → x ∈ t)) (fun _ n _ => R - (intOf n).toNat)
        case atStart => exact ⟨0, t, f, fun _ => false, by omega, rfl, hZ, hQ, hD0, hfr2⟩
        case round =>
          clear hZ hQ hD0 hfr2
          obtain ⟨n, t, f, g, hn, rfl, hZ, hQ, hD, hfr⟩ := hrel
          obtain ⟨A7, n7, c7, rfl, hil⟩ := hZ.out.td.il (by have := hQ.out.len; have := ti_len t; omega)
          have htl := hQ.out.len
          obtain rfl : n7 = t.length := by have h1 := hil.1; have h2 := ti_len t; omega
          by_cases hnl : n < t.length
          · obtain ⟨i, hti⟩ : ∃ i, t[n]? = some i := ⟨_, List.getElem?_eq_getElem hnl⟩
            have hmi := List.mem_of_getElem? hti
            have hiR := hQ.out.lt i hmi
            have hrxi := Lib.hid (hQ.out.rs i hmi)
            obtain ⟨g7, o7, x7, hA7, -, hx7, c7c⟩ := hil.cell hnl
            rw [ti_get hti] at hx7
            injection hx7 with hx7
            subst hx7
            subst hA7
            have hNi : N2 B wr AE R cE E := hN.below (hZ.out.own.1.mono hB)
            obtain ⟨gE, oE, l, A', n', c', hAE, hl, hcE, hl1⟩ := hNi.cell (j := i) hiR
            subst hAE
            have hEi : E.getD i [] = l := by rw [List.getD_eq_getElem?_getD, hl]; rfl
            have hll : ∀ k ∈ l, k < C := hI'.out.2.2.2 l (List.mem_of_getElem? hl)
            have hbw : Hid (∀ wx : World, Own w [(33, #[.int .i64 (R : Int), .int .i64 (C : Int), .slice (some ⟨gE, oE, none⟩) R cE])] wx → N1 B wx A' n' c' l) := by
              have h0 := hZ.out.own
              exact fun wx h => hl1.same fun k hk => (h.1.block k (by omega)).trans (h0.1.block k (by omega)).symm
            have hlen := hl1.1
            have hln := hl1.2.1
            have hlen' := Lib.hid hlen
            have hEi' := Lib.hid hEi
            have hti' := Lib.hid hti
            have hiRi : (i : Int) < (R : Int) := by omega
            have hnli : (n : Int) < (t.length : Int) := by omega
            obtain ⟨m0, m1, m2⟩ := cells3 hZ.out.own.b0
            clear hNi hl hl1 hEi hlen hti hmi hil
            go_upto_region 16 with fail
            have hZd := Lib.hid (hZ.out.call ((Below.refl _ _).drew))
            go_region
            clear m0 m1 m2 hcE c7c hZ
            go_wp2_with fail
            have hnlt : n < R := by omega
            go_loopw [7, 59] (fun v7 v59 wr => ∃ (j : Nat) (t : List Nat) (f g : Nat → Bool), j ≤ n' ∧ v59 = .int .i64 (j : Int) ∧ Hid (RZ z w #[.int .i64 (R : Int), .int .i64 (C : Int), .slice (some ⟨gE, oE, none⟩) R cE] gR gC B7 row col t f g v7 wr) ∧ Hid (QI E R row col t f g) ∧ Hid (Dn E t g n) ∧ Hid (∀ x, x < R → row x < 0 → x ∈ t) ∧ Hid (t[n]? = some i) ∧ Hid (∀ k ∈ l.take j, g k = true)) (fun _ j _ => n' - (intOf j).toNat)
            case atStart => exact ⟨0, t, f, g, by omega, rfl, hZd, hQ, hD, hfr, hti', (fun k hk => by simp at hk)⟩
            case round =>
              clear hZd hQ hD hfr hti' hnl hnli htl hn
              obtain ⟨j, t, f, g, hj, rfl, hZ, hQ, hD, hfr, hti, hg⟩ := hrel
              have hnt : n < t.length := (List.getElem?_eq_some_iff.1 hti.out).1
              have htl := hQ.out.len
              have htl2 := ti_len t
              by_cases hjl : j < n'
              · obtain ⟨gl, ol, k, hA', hk, hck⟩ := (hbw.out _ hZ.out.own).cell hjl
                have hkC : k < C := hll k (List.mem_of_getElem? hk)
                have hkCi : (k : Int) < C := by omega
                have hrk : Hid (RX E R row col false k) := .down i k hrxi.out (by rw [hEi'.out]; exact List.mem_of_getElem? hk)
                have hd : Hid (∀ x ∈ l.take (j + 1), x = k ∨ x ∈ l.take j) := fun x hx => by
                  have h1 := (List.getElem?_eq_some_iff.1 hk)
                  rw [List.take_add_one, hk] at hx
                  rcases List.mem_append.1 hx with hx | hx
                  · exact .inr hx
                  · exact .inl (by simpa using hx)
                subst hA'
                obtain ⟨hoR, hoC⟩ := hzO.out _ _ _ _ _ hZ.out
                have cUk := hoC.cell hkC
                have fUk := hoC.frozen k
                clear hoR hoC hk
                cases hgk : g k with
                | true =>
                  rw [hgk] at cUk
                  have hg2 : Hid (∀ x ∈ l.take (j + 1), g x = true) := fun x hx => by
                    rcases hd.out x hx with e | hx
                    · rw [e]; exact hgk
                    · exact hg.out x hx
                  clear hgk hg
                  go_wp2_with fail
                  exact ⟨⟨j + 1, t, f, g, by omega, by go_num, hZ, hQ, hD, hfr, hti, hg2⟩, by simp [intOf]; omega⟩
                | false =>
                  rw [hgk] at cUk
                  have hg2 : Hid (∀ x ∈ l.take (j + 1), upd g k true x = true) := fun x hx => by
                    rcases hd.out x hx with e | hx
                    · exact upd_iff.2 (.inl e)
                    · exact upd_iff.2 (.inr (hg.out x hx))
                  have hZ6 := Lib.hid (hZ.out.setC hzF.out k true)
                  have hD6 : Hid (Dn E t (upd g k true) n) := hD.out.acol k
                  clear hgk hg hD
                  go_upto_region 20 with fail
                  obtain ⟨w6, hw6⟩ : ∃ w6, w6 = wr.setCell ⟨gC, k, none⟩ (.bool true) := ⟨_, rfl⟩
                  rw [← hw6] at hZ6 ⊢
                  clear hw6 cUk fUk hck hZ
                  obtain ⟨-, cP2, -, hcl⟩ := hzP.out _ hZ6.out.q
                  have cCk := hcl.cell hkC
                  clear hcl
                  by_cases hp : 0 ≤ col k
                  · obtain ⟨cn, hcn⟩ : ∃ cn : Nat, col k = (cn : Int) := ⟨(col k).toNat, by omega⟩
                    have hcnR : cn < R := by have := (hmx'.out.co.ca k hkC hp).1; omega
                    have hcnRi : (cn : Int) < (R : Int) := by omega
                    rw [hcn] at cCk
                    have hcn' := Lib.hid hcn
                    have hp' : decide (0 ≤ (cn : Int)) = true := by simp
                    obtain ⟨hoR, -⟩ := hzO.out _ _ _ _ _ hZ6.out
                    have cRn := hoR.cell hcnR
                    have fRn := hoR.frozen cn
                    clear hcn hp hoR
                    cases hfn : f cn with
                    | true =>
                      rw [hfn] at cRn
                      have hQ6 : Hid (QI E R row col t f (upd g k true)) := hQ.out.acol hrk.out (fun _ => (hQ.out.ft _).1 (by rw [hcn'.out, Int.toNat_natCast]; exact hfn))
                      clear hfn hQ
                      go_wp2_with fail
                      exact ⟨⟨j + 1, t, f, upd g k true, by omega, by go_num, hZ6, hQ6, hD6, hfr, hti, hg2⟩, by simp [intOf]; omega⟩
                    | false =>
                      rw [hfn] at cRn
                      have hQ6 : Hid (QI E R row col (t ++ [cn]) (upd f cn true) (upd g k true)) := by
                        have h := hQ.out.colrow hrk.out (by rw [hcn'.out]; omega) (by rw [hcn'.out, Int.toNat_natCast]; exact hcnR) (fun hm => by have := (hQ.out.ft _).2 hm; rw [hcn'.out, Int.toNat_natCast, hfn] at this; cases this)
                        rw [hcn'.out, Int.toNat_natCast] at h
                        exact h
                      have hD7 : Hid (Dn E (t ++ [cn]) (upd g k true) n) := hD6.out.push (by omega) cn
                      have hfr7 : Hid (∀ x, x < R → row x < 0 → x ∈ t ++ [cn]) := fun x hx h0 => List.mem_append_left _ (hfr.out x hx h0)
                      have hti7 : Hid ((t ++ [cn])[n]? = some i) := by
                        show _ = _
                        rw [List.getElem?_append_left hnt]
                        exact hti.out
                      have hZ7 := Lib.hid (hZ6.out.setR hzF.out cn true)
                      clear hfn hQ
                      go_upto_region 23 with fail
                      obtain ⟨w7, hw7⟩ : ∃ w7, w7 = w6.setCell ⟨gR, cn, none⟩ (.bool true) := ⟨_, rfl⟩
                      rw [← hw7] at hZ7 ⊢
                      clear hw7 cRn fRn cP2 cCk hZ6
                      have hba : Below w7.heap.size w7 (w7.alloc (.cells #[.int .i64 (cn : Int)] 3)) := (Below.refl _ _).alloc (Nat.le_refl _) _
                      have hb7 := hZ7.out.b7
                      go_wp2_with (at_builtin; refine wpList_app rfl _ _ rfl B7 _ _ rfl (hZ7.out.td.more _) (by omega) (by simp; omega) ⟨w7.heap.size, 0, none⟩ 1 (cn : Int) rfl (cell_one_new _ _ _) ?_; intro v' w9 hr9 hg9 hat9)
                      have hZ9 := Lib.hid ((hZ7.out.call hba).push hzF.out hr9 hg9)
                      exact ⟨⟨j + 1, t ++ [cn], upd f cn true, upd g k true, by omega, by go_num, hZ9, hQ6, hD7, hfr7, hti7, hg2⟩, by simp [intOf]; omega⟩
                  · have hp' : decide (0 ≤ col k) = false := by simpa using hp
                    have hQ6 : Hid (QI E R row col t f (upd g k true)) := hQ.out.acol hrk.out (fun h => absurd h hp)
                    clear hQ
                    go_wp2_with fail
                    exact ⟨⟨j + 1, t, f, upd g k true, by omega, by go_num, hZ6, hQ6, hD6, hfr, hti, hg2⟩, by simp [intOf]; omega⟩
              · have hjn : j = n' := by omega
                have hD2 : Hid (Dn E t g (n + 1)) := by
                  refine hD.out.next hti.out (fun k hk => hg.out k ?_)
                  rw [hEi'.out] at hk
                  rw [List.take_of_length_le (by have := hlen'.out; omega)]
                  exact hk
                clear hD hg
                go_wp2_with fail
                exact ⟨⟨n + 1, t, f, g, by omega, by go_num, hZ, hQ, hD2, hfr⟩, by simp [intOf]; omega⟩
          · have hin' : n = t.length := by omega
            have hD2 : Dn E t g t.length := by rw [← hin']; exact hD.out
            have hdone := Lib.hid (hQ.out.done hD2 hfr.out)
            have hnli : ¬ ((n : Int) < (t.length : Int)) := by omega
            clear hD2 hil
            go_wp2_with fail
            go_ret2
            obtain ⟨hoR, hoC⟩ := hzO.out _ _ _ _ _ hZ.out
            exact ⟨gR, gC, f, g, rfl, hoR, hoC, hdone.out.1, hdone.out.2, hZ.out.own.1⟩

end Go.Proofs.Ytjbhnfejpgjghaa
