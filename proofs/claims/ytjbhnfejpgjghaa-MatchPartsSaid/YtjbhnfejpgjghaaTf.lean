/- The reference's list of perfect matchings: where all lies; a row that is copied by append. -/
import Derived.Deep.Upon
import Derived.Test.YtjbhnfejpgjghaaTe
import Derived.Test.YtjbhnfejpgjghaaPf
namespace Go.Proofs.Ytjbhnfejpgjghaa
open Go.RowKit
set_option linter.unusedSimpArgs false
set_option linter.unusedVariables false

/-- append([]int(nil), xs...): a row of its own that reads the same -/
theorem run_clone {w : World} {B : Nat} {v : Value} {l : List Int} {i0 : TypeInfo} (hi : Try.prog.info? 3 = some i0) (hz : i0.zero = some (.int .i64 0)) (h1 : i0.size = 1) (h8 : i0.bytes = 8) (hl : l.length ≤ 1000) (h : RowI w B v l) (ty : TypeId) :
    ∃ A c w', (Builtin.append_ #[23, 23] ty #[.slice none 0 0, v]).run Try.prog w = .ok (.slice A l.length c) w' ∧ RowI w' w.heap.size (.slice A l.length c) l ∧ Below w.heap.size w w' := by
  have h0 := h
  by_cases hn : l = []
  · subst hn
    have hsrc : Src Try.prog i0.size 23 v 0 [] w := by
      rcases h.2 with ⟨rfl, -⟩ | ⟨g, cap, cur, rfl, -⟩
      · exact Src.ofNil w Try.underlying23 0
      · exact Src.ofSlice w Try.underlying23 ⟨g, 0, none⟩ 0 cap [] (by simp) (fun j u hj => by simp at hj) (fun u hu => by cases hu)
    exact ⟨none, 0, w, run_append_nothing w 23 23 ty 3 i0 Try.underlying23 hi none 0 0 (Nat.le_refl _) v hsrc, RowI.nil _ _, Below.refl _ _⟩
  · have hpos : 0 < l.length := by cases l with | nil => exact absurd rfl hn | cons a l => simp
    rcases h.2 with ⟨-, h2⟩ | ⟨g, cap, cur, rfl, h3, h4, h5⟩
    · omega
    · have hc : ∀ j u, (vz l)[j]? = some u → w.cell? ((⟨g, 0, none⟩ : Addr).add j) = some u := World.ownsRow.cells h0 (g := g) rfl
      have hone : ∀ u ∈ vz l, u.oneCell' = true := fun u hu => by
        unfold vz at hu
        obtain ⟨x, -, rfl⟩ := List.mem_map.1 hu
        rfl
      obtain ⟨v1, w1, hr1, ho1, hg1, hn1, ha1⟩ := run_append_own_at (P := Try.prog) w w.heap.size 23 ty 3 i0 (.int .i64 0) 1 8 Try.underlying23 hi hz h1 h8 rfl (by omega) (.slice none 0 0) 0 [] (World.ownsRow_nil w _ _ _) ⟨g, 0, none⟩ l.length cap (vz l) (by rw [vz_len, Nat.mul_one]) hc hone (by unfold maxLen; omega) (by omega) (Nat.le_refl _)
      have hrow : RowI w1 w.heap.size v1 l := by
        unfold RowI
        simpa using ho1
      obtain ⟨A1, c1, e1⟩ := RowI.form hrow
      rw [e1] at hr1 hrow
      exact ⟨A1, c1, w1, hr1, hrow, (Below.refl _ _).grown hg1 (Nat.le_refl _) (fun b hb => by cases hb)⟩
theorem step_clone {w : World} {ops : Array Oper} {o : Oper} {a : Act} {K : Act → World → Prop} {Q : Exit → Act → World → Prop} {F : Prop} (hgd : o.guard = none) (s x : Operand) (ho : o.op = .call { callee := .builtin .append, args := #[s, x], argTypes := #[23, 23] })
    {B : Nat} {v : Value} {l : List Int} {i0 : TypeInfo} (hi : Try.prog.info? 3 = some i0) (hz : i0.zero = some (.int .i64 0)) (h1 : i0.size = 1) (h8 : i0.bytes = 8) (hs : a.eval s = .slice none 0 0) (hx : a.eval x = v) (h : RowI w B v l) (hl : l.length ≤ 1000)
    (hK : ∀ A c w', RowI w' w.heap.size (.slice A l.length c) l → Below w.heap.size w w' → K (a.put o.dst (.slice A l.length c)) w') :
    if Region.wanted o (yielded ops a.tmps) = true then Oper.wp Try.prog o a w K Q else F := by
  have hw : Region.wanted o (yielded ops a.tmps) = true := by simp [Region.wanted, hgd]
  rw [if_pos hw]
  obtain ⟨A, c, w', hr, r1, r2⟩ := run_clone hi hz h1 h8 hl h o.type
  unfold Oper.wp execOp
  simp only [ho, resolve, invoke, builtin, Sem.run_bind, Sem.run_pure, Result.andThen_ok, List.map_toArray, List.map_cons, List.map_nil, hs, hx, hr]
  exact hK A c w' r1 r2

structure LZ where
  B : Nat
  gX : Nat
  gC : Nat
  BB : Nat
  AE : Option Addr
  cE : Nat
  R : Nat
  E : List (List Nat)
  most : Nat
structure LZ.Fine (z : LZ) : Prop where
  inc : Inc z.R z.R z.E
  most : z.most ≤ 200
  b : z.B ≤ z.gX ∧ z.B ≤ z.gC
  ne : z.gX ≠ z.gC
  lt : z.gX < z.BB ∧ z.gC < z.BB
def LZ.box (z : LZ) (vw vo : Value) : Array Value := #[.int .i64 (z.R : Int), .int .i64 (z.R : Int), .slice z.AE z.R z.cE, .int .i64 (z.most : Int), vw, vo, .slice (some ⟨z.gC, 0, none⟩) z.R z.R]

structure LX (z : LZ) (way : List Int) (used : Nat → Bool) (out : List (List Int)) (vw vo : Value) (hs : List Value) (w : World) : Prop where
  bX : Blk w z.gX 74 (z.box vw vo)
  en : N2 z.B w z.AE z.R z.cE z.E
  now : RowI w z.BB vw way
  col : RO w z.gC z.R used
  row : w.ownsRow z.BB 23 1 vo out.length hs
  el : ∀ (j : Nat) (l : List Int) (h : Value), out[j]? = some l → hs[j]? = some h → RowI w z.BB h l
  sep : ∀ h ∈ hs, ∀ g, h.ownBlock = some g → vw.ownBlock ≠ some g
  sz : z.BB ≤ w.heap.size
  bs : z.B ≤ w.heap.size
section
variable {z : LZ} {way : List Int} {used : Nat → Bool} {out : List (List Int)} {vw vo : Value} {hs : List Value} {w w1 : World}
theorem LX.voAt (h : LX z way used out vw vo hs w) {g : Nat} (hg : vo.ownBlock = some g) : z.BB ≤ g ∧ g < w.heap.size := World.ownsRow.lt h.row g hg
theorem LX.voForm (h : LX z way used out vw vo hs w) : ∃ A c, vo = .slice A out.length c := by
  rcases h.row.2 with ⟨h1, h2⟩ | ⟨g, cap, cur, rfl, -⟩
  · exact ⟨none, 0, by rw [h1, h2]⟩
  · exact ⟨_, _, rfl⟩
theorem LX.voRow {B : Nat} {v : Value} {l : List Int} (h : LX z way used out vw vo hs w) (hr : RowI w B v l) {g : Nat} (hg : v.ownBlock = some g) : vo.ownBlock ≠ some g := row_type hr h.row (by decide) hg
theorem LX.elAt (h : LX z way used out vw vo hs w) {v : Value} (hv : v ∈ hs) {g : Nat} (hg : v.ownBlock = some g) : z.BB ≤ g ∧ g < w.heap.size := by
  obtain ⟨j, hj, rfl⟩ := List.getElem_of_mem hv
  have hl : j < out.length := by have := h.row.1; omega
  exact (h.el j out[j] hs[j] (List.getElem?_eq_getElem hl) (List.getElem?_eq_getElem hj)).at hg
theorem own_same {B : Nat} {v : Value} {n : Nat} {xs : List Value} {e : TypeId} (h : w.ownsRow B e 1 v n xs) (e' : ∀ g, v.ownBlock = some g → w1.heap[g]? = w.heap[g]?) : w1.ownsRow B e 1 v n xs := by
  obtain ⟨h1, h2⟩ := h
  refine ⟨h1, ?_⟩
  rcases h2 with h2 | ⟨g, cap, cur, rfl, h3, h4, h5⟩
  · exact .inl h2
  · exact .inr ⟨g, cap, cur, rfl, h3, (e' g rfl).trans h4, h5⟩
theorem LX.call (h : LX z way used out vw vo hs w) (hb : Below w.heap.size w w1) : LX z way used out vw vo hs w1 :=
  ⟨h.bX.call hb, h.en.below (hb.mono h.bs), h.now.call hb, h.col.call hb, own_same h.row (fun g e => hb.block g (h.voAt e).2), fun j l v hj hv => (h.el j l v hj hv).call hb, h.sep, Nat.le_trans h.sz hb.size, Nat.le_trans h.bs hb.size⟩
/-- a store to the columns -/
theorem LX.setC (hz : z.Fine) (h : LX z way used out vw vo hs w) (k : Nat) (b : Bool) : LX z way (upd used k b) out vw vo hs (w.setCell ⟨z.gC, k, none⟩ (.bool b)) := by
  have hf : Fr [z.gC] w (w.setCell ⟨z.gC, k, none⟩ (.bool b)) := (Fr.refl _ _).set (by simp) _
  have hl := hz.lt
  refine ⟨hf.blk h.bX (by simp; exact hz.ne), h.en.below (hf.below h.bs (by have := hz.b; simp; omega)), h.now.far hl.2 _ _, h.col.set k b, own_same h.row (fun g e => Below.heap_setCell _ _ _ _ (by have := (h.voAt e).1; show g ≠ z.gC; omega)), fun j l v hj hv => (h.el j l v hj hv).far hl.2 _ _, h.sep, Nat.le_trans h.sz hf.size, Nat.le_trans h.bs hf.size⟩
/-- the way is stored -/
theorem LX.setNow (hz : z.Fine) (h : LX z way used out vw vo hs w) {way' : List Int} {v' : Value} (hr : RowI w1 z.BB v' way') (hg : w.grownBy w1 vw.ownBlock) (hat : v'.ownBlock = vw.ownBlock ∨ v'.ownBlock = some w.heap.size) : LX z way' used out v' vo hs (w1.setCell ⟨z.gX, 4, none⟩ v') := by
  have hl := hz.lt
  have hat1 : ∀ x ∈ obs vw, z.BB ≤ x := fun x hx => (h.now.at (mem_obs.1 hx)).1
  have hf1 : Fr (obs vw) w w1 := Fr.grown hg
  have hf2 : Fr [z.gX] w1 (w1.setCell ⟨z.gX, 4, none⟩ v') := (Fr.refl _ _).set (by simp) _
  refine ⟨?_, (h.en.below (hf1.below h.bs (fun x hx => by have := hat1 x hx; have := hz.b; omega))).below (hf2.below (Nat.le_trans h.bs hf1.size) (by have := hz.b; simp; omega)), hr.far hl.1 _ _, (h.col.fr hf1 (fun hm => by have := hat1 _ hm; omega)).other (Ne.symm hz.ne) _ _, ?_, fun j l v hj hv => ?_, fun v hv g e => ?_, Nat.le_trans h.sz (Nat.le_trans hf1.size hf2.size), Nat.le_trans h.bs (Nat.le_trans hf1.size hf2.size)⟩
  · have h1 := (hf1.blk h.bX (fun hm => by have := hat1 _ hm; omega)).set 4 v'
    exact h1
  · refine own_same h.row (fun g e => ?_)
    rw [Below.heap_setCell w1 ⟨z.gX, 4, none⟩ v' g (by have := (h.voAt e).1; show g ≠ z.gX; omega)]
    exact hf1.block g (h.voAt e).2 (fun hm => h.voRow h.now (mem_obs.1 hm) e)
  · refine RowI.far (row_kept (h.el j l v hj hv) hg (fun g e1 e2 => h.sep v (List.mem_of_getElem? hv) g e1 e2.symm)) hl.1 _ _
  · rcases hat with h1 | h1
    · rw [h1]; exact h.sep v hv g e
    · rw [h1]
      intro e2
      injection e2 with e2
      have := (h.elAt hv e).2
      omega
/-- the way's last is taken off -/
theorem LX.pop (hz : z.Fine) {x : Int} {g cap : Nat} (h : LX z (way ++ [x]) used out (.slice (some ⟨g, 0, none⟩) (way.length + 1) cap) vo hs w) : LX z way used out (.slice (some ⟨g, 0, none⟩) way.length cap) vo hs (w.setCell ⟨z.gX, 4, none⟩ (.slice (some ⟨g, 0, none⟩) way.length cap)) := by
  have h1 := RowI.head h.now
  have hl := hz.lt
  have hf2 : Fr [z.gX] w (w.setCell ⟨z.gX, 4, none⟩ (.slice (some ⟨g, 0, none⟩) way.length cap)) := (Fr.refl _ _).set (by simp) _
  refine ⟨h.bX.set 4 _, h.en.below (hf2.below h.bs (by have := hz.b; simp; omega)), h1.far hl.1 _ _, h.col.other (Ne.symm hz.ne) _ _, own_same h.row (fun g' e => Below.heap_setCell _ _ _ _ (by have := (h.voAt e).1; show g' ≠ z.gX; omega)), fun j l v hj hv => (h.el j l v hj hv).far hl.1 _ _, fun v hv g' e => h.sep v hv g' e, Nat.le_trans h.sz hf2.size, Nat.le_trans h.bs hf2.size⟩
/-- a way is listed -/
theorem LX.push (hz : z.Fine) (h : LX z way used out vw vo hs w) {v' v2 : Value} {B' : Nat} (hB : z.BB ≤ B') (hv : RowI w B' v' way) (hvw : ∀ g, v'.ownBlock = some g → vw.ownBlock ≠ some g) (hg : w.grownBy w1 vo.ownBlock) (hr : w1.ownsRow z.BB 23 1 v2 (out.length + 1) (hs ++ [v'])) :
    LX z way used (out ++ [way]) vw v2 (hs ++ [v']) (w1.setCell ⟨z.gX, 5, none⟩ v2) := by
  have hl := hz.lt
  have hlen : hs.length = out.length := by have := h.row.1; omega
  have hat1 : ∀ x ∈ obs vo, z.BB ≤ x := fun x hx => (h.voAt (mem_obs.1 hx)).1
  have hf1 : Fr (obs vo) w w1 := Fr.grown hg
  have hf2 : Fr [z.gX] w1 (w1.setCell ⟨z.gX, 5, none⟩ v2) := (Fr.refl _ _).set (by simp) _
  have hel : ∀ (l : List Int) (v : Value), RowI w z.BB v l → RowI (w1.setCell ⟨z.gX, 5, none⟩ v2) z.BB v l := fun l v hv => by
    refine RowI.far (row_kept hv hg (fun g e1 e2 => h.voRow hv e1 e2.symm)) hl.1 _ _
  have hv0 := RowI.mono hv hB
  refine ⟨?_, (h.en.below (hf1.below h.bs (fun x hx => by have := hat1 x hx; have := hz.b; omega))).below (hf2.below (Nat.le_trans h.bs hf1.size) (by have := hz.b; simp; omega)), hel _ _ h.now, (h.col.fr hf1 (fun hm => by have := hat1 _ hm; omega)).other (Ne.symm hz.ne) _ _, ?_, fun j l v hj hv => ?_, fun v hv g e => ?_, Nat.le_trans h.sz (Nat.le_trans hf1.size hf2.size), Nat.le_trans h.bs (Nat.le_trans hf1.size hf2.size)⟩
  · have h1 := (hf1.blk h.bX (fun hm => by have := hat1 _ hm; omega)).set 5 v2
    exact h1
  · have h2 := own_same (w1 := w1.setCell ⟨z.gX, 5, none⟩ v2) hr (fun g e => Below.heap_setCell _ _ _ _ (by
      have := World.ownsRow.lt hr g e
      show g ≠ z.gX
      omega))
    simpa using h2
  · rcases Nat.lt_or_ge j out.length with hlj | hlj
    · rw [List.getElem?_append_left hlj] at hj
      rw [List.getElem?_append_left (by omega)] at hv
      exact hel _ _ (h.el j l v hj hv)
    · rw [List.getElem?_append_right hlj] at hj
      have : j = out.length := by
        have := (List.getElem?_eq_some_iff.1 hj).1
        simp at this
        omega
      subst this
      rw [List.getElem?_append_right (by omega), hlen] at hv
      simp at hj hv
      subst hj hv
      exact hel _ _ hv0
  · rcases List.mem_append.1 hv with hv | hv
    · exact h.sep v hv g e
    · have e2 : v = v' := by simpa using hv
      rw [e2] at e
      exact hvw g e
end

end Go.Proofs.Ytjbhnfejpgjghaa

/- The reference's list of perfect matchings: the method from. -/
namespace Go.Proofs.Ytjbhnfejpgjghaa
open Go.RowKit
set_option linter.unusedSimpArgs false
set_option linter.unusedVariables false

/-- what from adds -/
def gateF (z : LZ) (m : Nat) (way : List Int) (used : Nat → Bool) (out : List (List Int)) : List (List Int) :=
  if sz z.E (fun c => !used c) (fun r => decide (z.R - m ≤ r)) z.R z.R < m then out else perf z.E z.R z.R z.most m way used out
theorem gate_full {z : LZ} {m : Nat} {way : List Int} {used : Nat → Bool} {out : List (List Int)} (h : z.most < out.length) : gateF z m way used out = out := by
  have h1 : perf z.E z.R z.R z.most m way used out = out := by cases m <;> (unfold perf; rw [if_pos h])
  unfold gateF
  split
  · rfl
  · exact h1
theorem gate_len {z : LZ} {m : Nat} {way : List Int} {used : Nat → Bool} {out : List (List Int)} (h : out.length ≤ z.most + 1) : (gateF z m way used out).length ≤ z.most + 1 := by
  unfold gateF
  split
  · exact h
  · exact perf_len m way used out h
theorem gate_step {z : LZ} (hz : z.Fine) {m i k : Nat} {way : List Int} {used : Nat → Bool} {out : List (List Int)} {ks : List Nat} (hi : i + (m + 1) = z.R) (hu : used k = false) :
    perfL z.E z.R z.R i used (fun k o => perf z.E z.R z.R z.most m (way ++ [(k : Int)]) (upd used k true) o) (k :: ks) out = perfL z.E z.R z.R i used (fun k o => perf z.E z.R z.R z.most m (way ++ [(k : Int)]) (upd used k true) o) ks (gateF z m (way ++ [(k : Int)]) (upd used k true) out) := by
  have e : (fun r => decide (z.R - m ≤ r)) = fun r : Nat => decide (i < r) := by
    funext r
    rw [decide_eq_decide]
    omega
  have hle := (sz_all (ok := fun c => !(upd used k true) c) hz.inc.2.2.2 (show i < z.R by omega)).1
  unfold gateF
  rw [perfL, if_neg (by rw [hu]; simp), e]
  unfold fits
  by_cases h : sz z.E (fun c => !(upd used k true) c) (fun r => decide (i < r)) z.R z.R < m
  · rw [if_pos h, if_neg (by simp; omega)]
  · rw [if_neg h, if_pos (by simp; omega)]

def PFr (z : LZ) (way : List Int) (used : Nat → Bool) (out' : List (List Int)) (w : World) (e : Ending) (w' : World) : Prop :=
  e = .returned (.tuple #[]) ∧ ∃ vw vo hs, LX z way used out' vw vo hs w' ∧ Below z.B w w'

theorem LX.cells {z : LZ} {way : List Int} {used : Nat → Bool} {out : List (List Int)} {vw vo : Value} {hs : List Value} {w : World} (h : LX z way used out vw vo hs w) :
    (w.cell? ⟨z.gX, 0, none⟩ = some (.int .i64 (z.R : Int)) ∧ w.cell? ⟨z.gX, 1, none⟩ = some (.int .i64 (z.R : Int)) ∧ w.cell? ⟨z.gX, 2, none⟩ = some (.slice z.AE z.R z.cE)) ∧ w.cell? ⟨z.gX, 3, none⟩ = some (.int .i64 (z.most : Int)) ∧ w.cell? ⟨z.gX, 4, none⟩ = some vw ∧ w.cell? ⟨z.gX, 5, none⟩ = some vo ∧ w.cell? ⟨z.gX, 6, none⟩ = some (.slice (some ⟨z.gC, 0, none⟩) z.R z.R) :=
  ⟨⟨h.bX.cell 0, h.bX.cell 1, h.bX.cell 2⟩, h.bX.cell 3, h.bX.cell 4, h.bX.cell 5, h.bX.cell 6⟩

set_option maxRecDepth 100000 in
set_option maxHeartbeats 4000000 in
theorem ref_from_stop (z : LZ) (hz : z.Fine) (m i : Nat) (way : List Int) (used : Nat → Bool) (vw vo : Value) (hs : List Value) (out : List (List Int)) (w : World) (him : i + m = z.R) (hol : out.length ≤ z.most + 1) (hX : LX z way used out vw vo hs w)
    (hst : z.most < out.length ∨ sz z.E (fun c => !used c) (fun r => decide (i ≤ r)) z.R z.R < m) :
    Calls Try.prog 49 #[.pointer (some ⟨z.gX, 0, none⟩), .int .i64 (i : Int)] w (PFr z way used (gateF z m way used out) w) := by
  have hu := Try.underlying74
  have hu3 := Try.underlying33
  have hR := hz.inc.1
  have hmost := hz.most
  obtain ⟨Ao, co, hvo⟩ := hX.voForm
  obtain ⟨Aw, cw, hvw⟩ := hX.now.form
  subst hvo hvw
  have hX' := Lib.hid hX
  have hg : Hid (gateF z m way used out = out) := by
    rcases hst with h | h
    · exact gate_full h
    · show _ = _
      unfold gateF
      rw [if_pos]
      rw [show z.R - m = i by omega]
      exact h
  rw [hg.out]
  by_cases hA : z.most < out.length
  · obtain ⟨⟨c0, c1, c2⟩, c3, c4, c5, c6⟩ := hX.cells
    have hA' : decide (z.most < out.length) = true := by simpa using hA
    have hfin : Hid (∀ n, PFr z way used out w (.returned (.tuple #[])) (w.drewN n)) := fun n => ⟨rfl, _, _, _, hX'.out.call (bdN (Below.refl _ _) n), bdN (Below.refl _ _) n⟩
    clear hA hX c0 c1 c2 c4 c6 hst hg
    go_enter Try.func49, Try.ntmps49
    go_wp2_with fail
    go_quiet (fail)
    go_wp2_with fail
    exact bodyPost_ret (v := .tuple #[]) (by simp [results, Try.results49, go_sem]) rfl (hfin.out _)
  · have hB : sz z.E (fun c => !used c) (fun r => decide (i ≤ r)) z.R z.R < m := by rcases hst with h | h; exact absurd h hA; exact h
    have hA' : decide (z.most < out.length) = false := by simpa using hA
    obtain ⟨cq, hcq⟩ : ∃ cq, Hid (cq = sz z.E (fun c => !used c) (fun r => decide (i ≤ r)) z.R z.R) := ⟨_, rfl⟩
    rw [← hcq.out] at hB
    have hq : decide ((cq : Int) < (z.R : Int) - (i : Int)) = true := by simp; omega
    have hcqR : cq ≤ z.R := by omega
    have hwrap : IntKind.i64.wrap ((z.R : Int) - (i : Int)) = (z.R : Int) - (i : Int) := by rw [IntKind.wrap_i64]; omega
    clear hA hX hst hg hB
    go_enter Try.func49, Try.ntmps49
    go_wp2_with fail
    have hXd := Lib.hid (hX'.out.call (Below.refl _ _).drew)
    have hre := Lib.hid (ref_rest z.R z.R z.E hz.inc z.B z.AE z.cE w.drew hXd.out.bs hXd.out.en i z.gC (by omega) used hXd.out.col)
    rw [← hcq.out] at hre
    have hS : (fun w' : World => (w'.cell? ⟨z.gX, 0, none⟩ = some (.int .i64 (z.R : Int)) ∧ w'.cell? ⟨z.gX, 1, none⟩ = some (.int .i64 (z.R : Int)) ∧ w'.cell? ⟨z.gX, 2, none⟩ = some (.slice z.AE z.R z.cE)) ∧ w'.cell? ⟨z.gX, 3, none⟩ = some (.int .i64 (z.most : Int)) ∧ w'.cell? ⟨z.gX, 4, none⟩ = some (.slice Aw way.length cw) ∧ w'.cell? ⟨z.gX, 5, none⟩ = some (.slice Ao out.length co) ∧ w'.cell? ⟨z.gX, 6, none⟩ = some (.slice (some ⟨z.gC, 0, none⟩) z.R z.R)) w.drew := hXd.out.cells
    go_region_held3 (fun w' : World => (w'.cell? ⟨z.gX, 0, none⟩ = some (.int .i64 (z.R : Int)) ∧ w'.cell? ⟨z.gX, 1, none⟩ = some (.int .i64 (z.R : Int)) ∧ w'.cell? ⟨z.gX, 2, none⟩ = some (.slice z.AE z.R z.cE)) ∧ w'.cell? ⟨z.gX, 3, none⟩ = some (.int .i64 (z.most : Int)) ∧ w'.cell? ⟨z.gX, 4, none⟩ = some (.slice Aw way.length cw) ∧ w'.cell? ⟨z.gX, 5, none⟩ = some (.slice Ao out.length co) ∧ w'.cell? ⟨z.gX, 6, none⟩ = some (.slice (some ⟨z.gC, 0, none⟩) z.R z.R))
      (first | (with_reducible exact hS))
      (first
        | (go_at_call 63; (with_reducible refine hre.out.mono ?_); rintro e w2 ⟨rfl, hb2⟩; have hX2 := Lib.hid (hXd.out.call hb2); clear hS; have hS := hX2.out.cells))
    clear hS hre hXd
    have hlo2 : Hid (Below z.B w w2) := ((Below.refl z.B w).drew).trans (hb2.mono (by have := hX'.out.bs; exact this))
    go_wp2_with fail
    exact bodyPost_ret (v := .tuple #[]) (by simp [results, Try.results49, go_sem]) rfl ⟨rfl, _, _, _, hX2.out, hlo2.out⟩

end Go.Proofs.Ytjbhnfejpgjghaa
