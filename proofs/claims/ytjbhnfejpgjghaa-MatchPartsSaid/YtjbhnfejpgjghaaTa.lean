/- The program's Parts: the search from rows without a column, plain. -/
import Derived.Test.YtjbhnfejpgjghaaSk
import Derived.Test.YtjbhnfejpgjghaaQa
import Derived.Test.YtjbhnfejpgjghaaSa
import Derived.Test.YtjbhnfejpgjghaaQe
namespace Go.Proofs.Ytjbhnfejpgjghaa
set_option linter.unusedSimpArgs false
set_option linter.unusedVariables false

def goPL (col : Nat → Int) (rec : Nat → CR → CR) : List Nat → CR → CR
  | [], st => st
  | k :: ks, st => if 0 ≤ col k then goPL col rec ks (rec (col k).toNat (st.markC k)) else goPL col rec ks (st.markC k)
def goP (E : List (List Nat)) (col : Nat → Int) : Nat → Nat → CR → CR
  | 0, _, st => st
  | f + 1, i, st => if st.rs i = true then st else goPL col (goP E col f) (E.getD i []) (st.markR i)

theorem goPL_le {col : Nat → Int} {rec : Nat → CR → CR} (hr : ∀ j st, CR.le st (rec j st)) : ∀ (ks : List Nat) (st : CR), CR.le st (goPL col rec ks st) := by
  intro ks
  induction ks with
  | nil => intro st; exact .refl _
  | cons k ks ih =>
    intro st
    unfold goPL
    split
    · exact ((CR.le.markC st k).trans (hr _ _)).trans (ih _)
    · exact (CR.le.markC st k).trans (ih _)
theorem goP_le (E : List (List Nat)) (col : Nat → Int) : ∀ (f i : Nat) (st : CR), CR.le st (goP E col f i st) := by
  intro f
  induction f with
  | zero => intro i st; exact .refl _
  | succ f ih =>
    intro i st
    unfold goP
    split
    · exact .refl _
    · exact (CR.le.markR st i).trans (goPL_le ih _ _)

/-- what is marked is reached -/
structure SndX (E : List (List Nat)) (R : Nat) (row col : Nat → Int) (st : CR) : Prop where
  c : ∀ k, st.cs k = true → RX E R row col false k
  r : ∀ r, st.rs r = true → RX E R row col true r
section
variable {E : List (List Nat)} {R C : Nat} {row col : Nat → Int}
theorem SndX.markC {st : CR} (h : SndX E R row col st) {k : Nat} (hk : RX E R row col false k) : SndX E R row col (st.markC k) :=
  ⟨fun x hx => by
    rcases upd_iff.1 hx with e | hx
    · rw [e]; exact hk
    · exact h.c x hx, h.r⟩
theorem SndX.markR {st : CR} (h : SndX E R row col st) {k : Nat} (hk : RX E R row col true k) : SndX E R row col (st.markR k) :=
  ⟨h.c, fun x hx => by
    rcases upd_iff.1 hx with e | hx
    · rw [e]; exact hk
    · exact h.r x hx⟩
theorem goP_snd : ∀ (f i : Nat) (st : CR), RX E R row col true i → SndX E R row col st → SndX E R row col (goP E col f i st) := by
  intro f
  induction f with
  | zero => intro i st _ h; exact h
  | succ f ih =>
    intro i st hi h
    have key : ∀ (ks : List Nat) (st : CR), (∀ k ∈ ks, RX E R row col false k) → SndX E R row col st → SndX E R row col (goPL col (goP E col f) ks st) := by
      intro ks
      induction ks with
      | nil => intro st _ h; exact h
      | cons k ks ih2 =>
        intro st hk h
        have hk0 := hk k (List.mem_cons_self ..)
        have hk1 : ∀ k ∈ ks, RX E R row col false k := fun x hx => hk x (List.mem_cons_of_mem _ hx)
        unfold goPL
        split
        · rename_i h0
          exact ih2 _ hk1 (ih _ _ (.back k hk0 h0) (h.markC hk0))
        · exact ih2 _ hk1 (h.markC hk0)
    unfold goP
    split
    · exact h
    · exact key _ _ (fun k hk => .down i k hi hk) (h.markR hi)

/-- nothing that is newly marked leads out -/
structure CloX (E : List (List Nat)) (col : Nat → Int) (st st' : CR) : Prop where
  r : ∀ r, st'.rs r = true → st.rs r = false → ∀ k ∈ E.getD r [], st'.cs k = true ∧ (0 ≤ col k → st'.rs (col k).toNat = true)
theorem CloX.refl (st : CR) : CloX E col st st := ⟨fun r h h' => by rw [h] at h'; cases h'⟩
theorem CloX.trans {a b c : CR} (h1 : CloX E col a b) (h2 : CloX E col b c) (l : CR.le b c) : CloX E col a c := by
  refine ⟨fun r hr hr' k hk => ?_⟩
  by_cases e : b.rs r = true
  · have h := h1.r r e hr' k hk
    exact ⟨l.c _ h.1, fun h0 => l.r _ (h.2 h0)⟩
  · exact h2.r r hr (by simpa using e) k hk
theorem goP_clo (hE : ∀ r k, k ∈ E.getD r [] → k < C) (hcol : ∀ k, k < C → 0 ≤ col k → (col k).toNat < R) : ∀ (f i : Nat) (st : CR), i < R → uns R st.rs < f → (goP E col f i st).rs i = true ∧ CloX E col st (goP E col f i st) := by
  intro f
  induction f with
  | zero => intro i st _ h; omega
  | succ f ih =>
    intro i st hi hu
    have key : ∀ (ks : List Nat) (st : CR), (∀ k ∈ ks, k < C) → uns R st.rs < f → CloX E col st (goPL col (goP E col f) ks st) ∧ ∀ k ∈ ks, (goPL col (goP E col f) ks st).cs k = true ∧ (0 ≤ col k → (goPL col (goP E col f) ks st).rs (col k).toNat = true) := by
      intro ks
      induction ks with
      | nil => intro st _ _; exact ⟨.refl _, fun k hk => by cases hk⟩
      | cons k ks ih2 =>
        intro st hks hu
        have hks2 : ∀ k ∈ ks, k < C := fun x hx => hks x (List.mem_cons_of_mem _ hx)
        have hm : CloX E col st (st.markC k) := ⟨fun r h h' => by (have h : st.rs r = true := h); rw [h] at h'; cases h'⟩
        unfold goPL
        split
        · rename_i h0
          have hk := hcol k (hks k (List.mem_cons_self ..)) h0
          obtain ⟨a1, a2⟩ := ih (col k).toNat (st.markC k) hk hu
          have hle := goP_le E col f (col k).toNat (st.markC k)
          have hu2 : uns R (goP E col f (col k).toNat (st.markC k)).rs < f := by
            have := uns_le (C := R) (s := st.rs) (fun x hx => hle.r x hx); omega
          obtain ⟨b1, b2⟩ := ih2 _ hks2 hu2
          have hle2 := goPL_le (col := col) (goP_le E col f) ks (goP E col f (col k).toNat (st.markC k))
          refine ⟨(hm.trans a2 hle).trans b1 hle2, fun x hx => ?_⟩
          rcases List.mem_cons.1 hx with e | hx
          · subst e
            exact ⟨hle2.c _ (hle.c _ (upd_same _ _ _)), fun _ => hle2.r _ a1⟩
          · exact b2 x hx
        · rename_i h0
          obtain ⟨b1, b2⟩ := ih2 (st.markC k) hks2 hu
          have hle2 := goPL_le (col := col) (goP_le E col f) ks (st.markC k)
          refine ⟨hm.trans b1 hle2, fun x hx => ?_⟩
          rcases List.mem_cons.1 hx with e | hx
          · subst e
            exact ⟨hle2.c _ (upd_same _ _ _), fun h => absurd h h0⟩
          · exact b2 x hx
    unfold goP
    split
    · rename_i h; exact ⟨h, .refl _⟩
    · rename_i h
      have h : st.rs i = false := by simpa using h
      have hu2 : uns R (st.markR i).rs < f := by
        have := uns_lt (C := R) (s := st.rs) (s' := upd st.rs i true) (fun x hx => upd_true hx) hi h (upd_same _ _ _)
        show uns R (upd st.rs i true) < f
        omega
      obtain ⟨r1, r2⟩ := key (E.getD i []) (st.markR i) (fun k hk => hE i k hk) hu2
      have hle := goPL_le (col := col) (goP_le E col f) (E.getD i []) (st.markR i)
      refine ⟨hle.r _ (upd_same _ _ _), ⟨fun r hr h0 k hk => ?_⟩⟩
      by_cases e : r = i
      · subst e; exact r2 k hk
      · exact r1.r r hr (by show upd st.rs i true r = false; rw [upd_other _ _ _ _ e]; exact h0) k hk

/-- from all rows without a column -/
def goPA (E : List (List Nat)) (R : Nat) (row col : Nat → Int) : Nat → CR
  | 0 => ⟨fun _ => false, fun _ => false⟩
  | n + 1 => if row n < 0 then goP E col (R + 1) n (goPA E R row col n) else goPA E R row col n
theorem goPA_spec (hE : ∀ r k, k ∈ E.getD r [] → k < C) (hcol : ∀ k, k < C → 0 ≤ col k → (col k).toNat < R) : (∀ r, (goPA E R row col R).rs r = true ↔ RX E R row col true r) ∧ ∀ k, (goPA E R row col R).cs k = true ↔ RX E R row col false k := by
  have key : ∀ n, n ≤ R → SndX E R row col (goPA E R row col n) ∧ CloX E col ⟨fun _ => false, fun _ => false⟩ (goPA E R row col n) ∧ ∀ i, i < n → row i < 0 → (goPA E R row col n).rs i = true := by
    intro n
    induction n with
    | zero => intro _; exact ⟨⟨fun k h => (by cases h), fun k h => (by cases h)⟩, .refl _, fun i hi => (by omega)⟩
    | succ n ih =>
      intro hn
      obtain ⟨a, b, c⟩ := ih (by omega)
      unfold goPA
      split
      · rename_i h0
        obtain ⟨d1, d2⟩ := goP_clo (E := E) hE hcol (R + 1) n (goPA E R row col n) (by omega) (by have := uns_all R (goPA E R row col n).rs; omega)
        have hle := goP_le E col (R + 1) n (goPA E R row col n)
        refine ⟨goP_snd _ _ _ (.free n (by omega) h0) a, b.trans d2 hle, fun i hi hr => ?_⟩
        by_cases e : i = n
        · rw [e]; exact d1
        · exact hle.r _ (c i (by omega) hr)
      · rename_i h0
        refine ⟨a, b, fun i hi hr => ?_⟩
        by_cases e : i = n
        · rw [e] at hr; omega
        · exact c i (by omega) hr
  obtain ⟨a, b, c⟩ := key R (Nat.le_refl _)
  have hall : ∀ t x, RX E R row col t x → if t = true then (goPA E R row col R).rs x = true else ((goPA E R row col R).cs x = true ∧ (0 ≤ col x → (goPA E R row col R).rs (col x).toNat = true)) := by
    intro t x h
    induction h with
    | free i hi h0 => exact c i hi h0
    | down i k _ hk ih => exact b.r i ih rfl k hk
    | back k _ h0 ih => exact ih.2 h0
  exact ⟨fun r => ⟨a.r r, fun h => hall _ _ h⟩, fun k => ⟨a.c k, fun h => (hall _ _ h).1⟩⟩
end

end Go.Proofs.Ytjbhnfejpgjghaa

/- The program's Parts: the walk of its search. -/
namespace Go.Proofs.Ytjbhnfejpgjghaa
open Go.RowKit
set_option linter.unusedSimpArgs false
set_option linter.unusedVariables false

structure WT where
  gRB : Nat
  gM : Nat
  gCB : Nat
  gP : Nat
  gO : Nat
  gR : Nat
  gC : Nat
  gRow : Nat
  gCol : Nat
  B : Nat
  AE : Option Addr
  cE : Nat
  R : Nat
  C : Nat
  E : List (List Nat)
  row : Nat → Int
  col : Nat → Int
def WT.caps (z : WT) : Array Value := #[.pointer (some ⟨z.gRB, 0, none⟩), .pointer (some ⟨z.gM, 0, none⟩), .pointer (some ⟨z.gCB, 0, none⟩), .pointer (some ⟨z.gP, 0, none⟩), .pointer (some ⟨z.gO, 0, none⟩)]
structure WT.Fine (z : WT) : Prop where
  inc : Inc z.R z.C z.E
  b : z.B ≤ z.gR ∧ z.B ≤ z.gC
  rc : z.gR ≠ z.gC
  no : ∀ g ∈ [z.gRB, z.gM, z.gCB, z.gP, z.gO, z.gRow, z.gCol], g ≠ z.gR ∧ g ≠ z.gC
  cl : ∀ k, k < z.C → 0 ≤ z.col k → (z.col k).toNat < z.R
def mrk (f : Nat → Bool) : Nat → Int := fun i => if f i = true then 0 else 1
theorem mrk_upd (f : Nat → Bool) (i j : Nat) : upd (mrk f) i 0 j = mrk (upd f i true) j := by
  unfold mrk upd
  by_cases e : j = i
  · simp [e]
  · simp [e]
structure WS (z : WT) (st : CR) (w : World) : Prop where
  bRB : Blk w z.gRB 23 #[.slice (some ⟨z.gR, 0, none⟩) z.R z.R]
  bM : Blk w z.gM 33 #[.int .i64 (z.R : Int), .int .i64 (z.C : Int), .slice z.AE z.R z.cE]
  bCB : Blk w z.gCB 23 #[.slice (some ⟨z.gC, 0, none⟩) z.C z.C]
  bP : Blk w z.gP 62 #[.slice (some ⟨z.gRow, 0, none⟩) z.R z.R, .slice (some ⟨z.gCol, 0, none⟩) z.C z.C]
  bO : Blk w z.gO 65 #[.func (.func 44) #[] z.caps]
  en : N2 z.B w z.AE z.R z.cE z.E
  row : RF w z.gRow z.R z.row
  col : RF w z.gCol z.C z.col
  rs : RF w z.gR z.R (mrk st.rs)
  cs : RF w z.gC z.C (mrk st.cs)
  sz : z.B ≤ w.heap.size
section
variable {z : WT} {st : CR} {w w' : World}
theorem WS.call (h : WS z st w) (hb : Below w.heap.size w w') : WS z st w' :=
  ⟨h.bRB.call hb, h.bM.call hb, h.bCB.call hb, h.bP.call hb, h.bO.call hb, h.en.below (hb.mono h.sz), h.row.call hb, h.col.call hb, h.rs.call hb, h.cs.call hb, Nat.le_trans h.sz hb.size⟩
theorem WS.drew (h : WS z st w) : WS z st w.drew := h.call (Below.refl _ _).drew
theorem WS.fr (hz : z.Fine) (h : WS z st w) (hf : Fr [z.gR, z.gC] w w') {st' : CR} (h1 : RF w' z.gR z.R (mrk st'.rs)) (h2 : RF w' z.gC z.C (mrk st'.cs)) : WS z st' w' := by
  have hn : ∀ g ∈ [z.gRB, z.gM, z.gCB, z.gP, z.gO, z.gRow, z.gCol], g ∉ [z.gR, z.gC] := fun g hg hm => by
    have := hz.no g hg
    simp at hm
    omega
  exact ⟨hf.blk h.bRB (hn _ (by simp)), hf.blk h.bM (hn _ (by simp)), hf.blk h.bCB (hn _ (by simp)), hf.blk h.bP (hn _ (by simp)), hf.blk h.bO (hn _ (by simp)), h.en.below (hf.below h.sz (by have := hz.b; simp; omega)), h.row.fr hf (hn _ (by simp)), h.col.fr hf (hn _ (by simp)), h1, h2, Nat.le_trans h.sz hf.size⟩
theorem WS.markR (hz : z.Fine) (h : WS z st w) (i : Nat) : WS z (st.markR i) (w.setCell ⟨z.gR, i, none⟩ (.int .i64 0)) ∧ Fr [z.gR, z.gC] w (w.setCell ⟨z.gR, i, none⟩ (.int .i64 0)) := by
  have hf : Fr [z.gR, z.gC] w (w.setCell ⟨z.gR, i, none⟩ (.int .i64 0)) := (Fr.refl _ _).set (by simp) _
  exact ⟨h.fr hz hf (RF.congr (h.rs.set i 0) (fun j _ => mrk_upd _ _ _)) (h.cs.other (Ne.symm hz.rc) _ _), hf⟩
theorem WS.markC (hz : z.Fine) (h : WS z st w) (i : Nat) : WS z (st.markC i) (w.setCell ⟨z.gC, i, none⟩ (.int .i64 0)) ∧ Fr [z.gR, z.gC] w (w.setCell ⟨z.gC, i, none⟩ (.int .i64 0)) := by
  have hf : Fr [z.gR, z.gC] w (w.setCell ⟨z.gC, i, none⟩ (.int .i64 0)) := (Fr.refl _ _).set (by simp) _
  exact ⟨h.fr hz hf (h.rs.other hz.rc _ _) (RF.congr (h.cs.set i 0) (fun j _ => mrk_upd _ _ _)), hf⟩
end

def PWp (z : WT) (w : World) (st : CR) (e : Ending) (w' : World) : Prop := e = .returned (.tuple #[]) ∧ WS z st w' ∧ Fr [z.gR, z.gC] w w'
def WQ1 (z : WT) (f : Nat) (l : List Nat) (s0 : CR) (w0 : World) (j : Nat) (wr : World) : Prop :=
  ∃ s, goPL z.col (goP z.E z.col f) l s0 = goPL z.col (goP z.E z.col f) (l.drop j) s ∧ uns z.R s.rs < f ∧ WS z s wr ∧ Fr [z.gR, z.gC] w0 wr

set_option maxRecDepth 100000 in
set_option maxHeartbeats 1000000 in
theorem go_over (z : WT) (hz : z.Fine) : ∀ (f i : Nat) (s : CR) (w : World), i < z.R → uns z.R s.rs < f → WS z s w →
    Calls Try.prog 44 #[.int .i64 (i : Int), .pointer (some ⟨z.gRB, 0, none⟩), .pointer (some ⟨z.gM, 0, none⟩), .pointer (some ⟨z.gCB, 0, none⟩), .pointer (some ⟨z.gP, 0, none⟩), .pointer (some ⟨z.gO, 0, none⟩)] w (PWp z w (goP z.E z.col f i s)) := by
  intro f
  induction f with
  | zero => intro i s w _ h _; omega
  | succ f ih =>
  intro i s w hi hun hg
  have hC := hz.inc.2.1
  have hR := hz.inc.1
  have hiR : (i : Int) < z.R := by omega
  have cRB := hg.bRB.cell 0
  have cRi := hg.rs.cell hi
  have fRi := hg.rs.frozen i
  by_cases hsi : s.rs i = true
  · have hgo : goP z.E z.col (f + 1) i s = s := by unfold goP; rw [if_pos hsi]
    rw [hgo]
    rw [show mrk s.rs i = 0 from if_pos hsi] at cRi
    have hP : Hid (PWp z w s (.returned (.tuple #[])) w) := ⟨rfl, hg, Fr.refl _ _⟩
    clear hg hgo hsi ih hun
    go_enter Try.func44, Try.ntmps44
    go_wp2_with fail
    exact bodyPost_ret (v := .tuple #[]) (by simp [results, Try.results44, go_sem]) rfl hP.out
  · have hsi : s.rs i = false := by simpa using hsi
    rw [show mrk s.rs i = 1 from if_neg (by rw [hsi]; simp)] at cRi
    obtain ⟨gE, oE, l, A', n', c', hAE, hl, hcE, hl1⟩ := hg.en.cell hi
    have hEi : z.E.getD i [] = l := by rw [List.getD_eq_getElem?_getD, hl]; rfl
    have hll : ∀ k ∈ l, k < z.C := hz.inc.2.2.2 l (List.mem_of_getElem? hl)
    have hgo : goP z.E z.col (f + 1) i s = goPL z.col (goP z.E z.col f) l (s.markR i) := by
      show (if s.rs i = true then _ else _) = _
      rw [if_neg (by rw [hsi]; simp), hEi]
    rw [hgo]
    have hun2 : uns z.R (s.markR i).rs < f := by
      have := uns_lt (C := z.R) (s := s.rs) (s' := upd s.rs i true) (fun x hx => upd_true hx) hi hsi (upd_same _ _ _)
      show uns z.R (upd s.rs i true) < f
      omega
    obtain ⟨hg5, hf5⟩ := hg.markR hz i
    have hcE5 := (hf5.below hg.sz (by have := hz.b; simp; omega)).cell (p := ⟨gE, oE + i, none⟩) (by
      rcases hg.en.2.2 with h0 | ⟨g, o, h0, h1, -⟩
      · omega
      · rw [hAE] at h0
        have e : gE = g := by simp at h0; exact h0.1
        show gE < z.B
        omega)
    rw [hcE] at hcE5
    have hun' := Lib.hid hun2
    have ih' := Lib.hid ih
    have hlen := Lib.hid hl1.1
    have hln := hl1.2.1
    have hl1' := Lib.hid hl1
    have hg' := Lib.hid hg
    clear hun hun2 ih hgo hsi hEi hl hl1 hg
    go_enter Try.func44, Try.ntmps44
    go_upto_region 2 with fail
    obtain ⟨w5, hw5⟩ : ∃ w5, w5 = w.setCell ⟨z.gR, i, none⟩ (.int .i64 0) := ⟨_, rfl⟩
    rw [← hw5] at hg5 hf5 hcE5 ⊢
    clear hw5 cRB cRi fRi hcE
    have hM2 : w5.cell? ⟨z.gM, 2, none⟩ = some (.slice z.AE z.R z.cE) := hg5.bM.cell 2
    rw [hAE] at hM2
    have hT : WQ1 z f l (s.markR i) w 0 w5 := ⟨s.markR i, rfl, hun'.out, hg5, hf5⟩
    clear hg5 hf5
    go_wp2_with fail
    go_loopw [23] (fun v23 wr => ∃ j : Nat, j ≤ n' ∧ v23 = .int .i64 j ∧ WQ1 z f l (s.markR i) w j wr) (fun i _ => n' - (intOf i).toNat)
    case atStart => exact ⟨0, by omega, rfl, hT⟩
    case round =>
      clear hT hM2 hcE5
      obtain ⟨j, hj, rfl, s1, he, hun1, hg1, hf1⟩ := hrel
      by_cases hjl : j < n'
      · obtain ⟨gl, ol, k, hA', hk, hck⟩ := (hl1'.out.below (hf1.below hg'.out.sz (by have := hz.b; simp; omega))).cell hjl
        subst hA'
        have hkC : k < z.C := hll k (List.mem_of_getElem? hk)
        have hkCi : (k : Int) < z.C := by omega
        have hd : l.drop j = k :: l.drop (j + 1) := by
          have h1 := (List.getElem?_eq_some_iff.1 hk).1
          rw [List.drop_eq_getElem_cons h1]
          congr 1
          exact (List.getElem?_eq_some_iff.1 hk).2
        rw [hd, goPL] at he
        have cCB := hg1.bCB.cell 0
        have cCk := hg1.cs.cell hkC
        have fCk := hg1.cs.frozen k
        obtain ⟨hg6, hf6⟩ := hg1.markC hz k
        have hf6 := hf1.trans hf6
        have he' := Lib.hid he
        have hg6' := Lib.hid hg6
        have hf6' := Lib.hid hf6
        clear he hd hg6 hf6 hk
        go_upto_region 6 with fail
        obtain ⟨w6, hw6⟩ : ∃ w6, w6 = wr.setCell ⟨z.gC, k, none⟩ (.int .i64 0) := ⟨_, rfl⟩
        rw [← hw6] at hg6' hf6' ⊢
        clear hw6 cCB cCk fCk hck hg1 hf1
        have cP1 : w6.cell? ⟨z.gP, 1, none⟩ = some (.slice (some ⟨z.gCol, 0, none⟩) z.C z.C) := hg6'.out.bP.cell 1
        have cColk := hg6'.out.col.cell hkC
        by_cases hp : 0 ≤ z.col k
        · obtain ⟨cn, hcn⟩ : ∃ cn : Nat, z.col k = (cn : Int) := ⟨(z.col k).toNat, by omega⟩
          have hcnR : cn < z.R := by have := hz.cl k hkC hp; omega
          have he2 : Hid (goPL z.col (goP z.E z.col f) l (s.markR i) = goPL z.col (goP z.E z.col f) (l.drop (j + 1)) (goP z.E z.col f cn (s1.markC k))) := by
            show _ = _
            rw [he'.out, if_pos hp, hcn, Int.toNat_natCast]
          rw [hcn] at cColk
          have hp' : decide (0 ≤ (cn : Int)) = true := by simp
          have hcn' := Lib.hid hcn
          clear hp hcn he'
          go_upto_region 7 with fail
          have hgd := hg6'.out.drew
          have cO : w6.cell? ⟨z.gO, 0, none⟩ = some (.func (.func 44) #[] #[.pointer (some ⟨z.gRB, 0, none⟩), .pointer (some ⟨z.gM, 0, none⟩), .pointer (some ⟨z.gCB, 0, none⟩), .pointer (some ⟨z.gP, 0, none⟩), .pointer (some ⟨z.gO, 0, none⟩)]) := hg6'.out.bO.cell 0
          have hS : (fun w' : World => w'.cell? ⟨z.gO, 0, none⟩ = some (.func (.func 44) #[] #[.pointer (some ⟨z.gRB, 0, none⟩), .pointer (some ⟨z.gM, 0, none⟩), .pointer (some ⟨z.gCB, 0, none⟩), .pointer (some ⟨z.gP, 0, none⟩), .pointer (some ⟨z.gO, 0, none⟩)]) ∧ w'.cell? ⟨z.gP, 1, none⟩ = some (.slice (some ⟨z.gCol, 0, none⟩) z.C z.C) ∧ w'.cell? ⟨z.gCol, k, none⟩ = some (.int .i64 (cn : Int))) w6.drew := ⟨cO, cP1, cColk⟩
          clear cO cP1 cColk
          go_region_held3 (fun w' : World => w'.cell? ⟨z.gO, 0, none⟩ = some (.func (.func 44) #[] #[.pointer (some ⟨z.gRB, 0, none⟩), .pointer (some ⟨z.gM, 0, none⟩), .pointer (some ⟨z.gCB, 0, none⟩), .pointer (some ⟨z.gP, 0, none⟩), .pointer (some ⟨z.gO, 0, none⟩)]) ∧ w'.cell? ⟨z.gP, 1, none⟩ = some (.slice (some ⟨z.gCol, 0, none⟩) z.C z.C) ∧ w'.cell? ⟨z.gCol, k, none⟩ = some (.int .i64 (cn : Int)))
            (first | (with_reducible exact hS))
            (first
              | (go_at_call 44; refine (ih'.out cn (s1.markC k) _ hcnR hun1 hgd).mono ?_; rintro e w10 ⟨rfl, hg10, hf10⟩; clear hS; have hS : (fun w' : World => w'.cell? ⟨z.gO, 0, none⟩ = some (.func (.func 44) #[] #[.pointer (some ⟨z.gRB, 0, none⟩), .pointer (some ⟨z.gM, 0, none⟩), .pointer (some ⟨z.gCB, 0, none⟩), .pointer (some ⟨z.gP, 0, none⟩), .pointer (some ⟨z.gO, 0, none⟩)]) ∧ w'.cell? ⟨z.gP, 1, none⟩ = some (.slice (some ⟨z.gCol, 0, none⟩) z.C z.C) ∧ w'.cell? ⟨z.gCol, k, none⟩ = some (.int .i64 (cn : Int))) w10 := ⟨hg10.bO.cell 0, hg10.bP.cell 1, by rw [← hcn'.out]; exact hg10.col.cell hkC⟩))
          clear hS
          have hun2 : Hid (uns z.R (goP z.E z.col f cn (s1.markC k)).rs < f) := by
            have hle := goP_le z.E z.col f cn (s1.markC k)
            have h1 := uns_le (C := z.R) (s := s1.rs) (fun x hx => hle.r x hx)
            show _ < _
            omega
          have hf11 := (hf6'.out.drew).trans hf10
          go_wp2_with fail
          exact round_next hjl ⟨_, he2.out, hun2.out, hg10, hf11⟩
        · have hp' : decide (0 ≤ z.col k) = false := by simpa using hp
          have he2 : Hid (goPL z.col (goP z.E z.col f) l (s.markR i) = goPL z.col (goP z.E z.col f) (l.drop (j + 1)) (s1.markC k)) := by
            show _ = _
            rw [he'.out, if_neg hp]
          clear hp he'
          go_wp2_with fail
          exact round_next hjl ⟨_, he2.out, hun1, hg6'.out, hf6'.out⟩
      · have hjl : l.length = j := by have := hlen.out; omega
        have hdn : l.drop j = [] := List.drop_eq_nil_of_le (by omega)
        rw [hdn, goPL] at he
        have hfin : PWp z w (goPL z.col (goP z.E z.col f) l (s.markR i)) (.returned (.tuple #[])) wr := by
          rw [he]
          exact ⟨rfl, hg1, hf1⟩
        have hfin' := Lib.hid hfin
        clear hfin he hg1 hf1
        go_wp2_with fail
        exact bodyPost_ret (v := .tuple #[]) (by simp [results, Try.results44, go_sem]) rfl hfin'.out

end Go.Proofs.Ytjbhnfejpgjghaa
