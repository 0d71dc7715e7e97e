/- Perfect: closures; an append that leaves the source as it was; where all lies. -/
import Derived.Deep.DeepAppendRoom
import Derived.Maps.AppendAt
import Derived.Test.YtjbhnfejpgjghaaPc
import Derived.Test.YtjbhnfejpgjghaaNu
namespace Go.Proofs.Ytjbhnfejpgjghaa
open Go.RowKit
set_option linter.unusedSimpArgs false
set_option linter.unusedVariables false

set_option maxRecDepth 100000 in
theorem perf_1 (g i r : Nat) (w : World) (hi : i < 1000) (hr : r < 1000) (hb : Blk w g 3 #[.int .i64 (i : Int)]) :
    Calls Try.prog 40 #[.int .i64 (r : Int), .pointer (some ⟨g, 0, none⟩)] w fun e w' => e = .returned (.bool (decide (i < r))) ∧ Below w.heap.size w w' := by
  have hc : w.cell? ⟨g, 0, none⟩ = some (.int .i64 (i : Int)) := hb.cell 0
  have hd : decide ((i : Int) < (r : Int)) = decide (i < r) := by
    rw [decide_eq_decide]; omega
  obtain ⟨d, hd'⟩ : ∃ d, d = decide (i < r) := ⟨_, rfl⟩
  rw [← hd'] at hd ⊢
  have hd2 := Lib.hid hd'
  clear hd'
  go_enter Try.func40, Try.ntmps40
  go_wp2_with fail
  go_ret
  refine ⟨?_, Below.refl _ _⟩
  first | rfl | (simp; exact hd2.out.symm) | (rw [← hd]; rfl)

set_option maxRecDepth 100000 in
theorem perf_2 (g s s1 k : Nat) (w : World) (hk : k < 64) (hs : s < 18446744073709551616) (hb : Blk w g 55 #[.int .u64 (s : Int), .int .u64 (s1 : Int)]) :
    Calls Try.prog 41 #[.int .i64 (k : Int), .pointer (some ⟨g, 0, none⟩)] w fun e w' => e = .returned (.bool (!s.testBit k)) ∧ Below w.heap.size w w' := by
  have hu := Try.underlying55
  have hc0 : w.cell? ⟨g, 0, none⟩ = some (.int .u64 (s : Int)) := hb.cell 0
  have hc1 : w.cell? ⟨g, 1, none⟩ = some (.int .u64 (s1 : Int)) := hb.cell 1
  go_enter Try.func41, Try.ntmps41
  go_wp2_with (go_at_call 33; refine (m_has s s1 k _ hk hs).mono ?_; rintro e w2 ⟨rfl, hb2⟩)
  go_ret
  exact ⟨rfl, hb2⟩

theorem enters_perf1 (args : Array Value) (w : World) : (callFunc 40 args).run Try.prog w = .ok (.enter 40 args) w := enters_of Try.func40 (by kernel_rfl) rfl args w
theorem enters_perf2 (args : Array Value) (w : World) : (callFunc 41 args).run Try.prog w = .ok (.enter 41 args) w := enters_of Try.func41 (by kernel_rfl) rfl args w
set_option maxHeartbeats 1000000 in
/-- the rows behind i, the columns that are not in a set -/
theorem match_rest2 {R C : Nat} {E : List (List Nat)} (hI : Inc R C E) (B : Nat) (AE : Option Addr) (nE cE : Nat) (w : World) (gi gu i s s1 : Nat) (u : Nat → Bool) (hs : s < 18446744073709551616) (hsu : ∀ k, k < 64 → s.testBit k = u k) (hi : i < R)
    (hgi : Blk w gi 3 #[.int .i64 (i : Int)]) (hgu : Blk w gu 55 #[.int .u64 (s : Int), .int .u64 (s1 : Int)]) (hB : B ≤ w.heap.size) (hN : N2 B w AE nE cE E) :
    Calls Try.prog 39 #[.agg #[.int .i64 (R : Int), .int .i64 (C : Int), .slice AE nE cE], .func (.func 40) #[] #[.pointer (some ⟨gi, 0, none⟩)], .func (.func 41) #[] #[.pointer (some ⟨gu, 0, none⟩)]] w (PMx R C E (fun c => !u c) (fun r => decide (i < r)) w) := by
  show Calls _ _ _ _ (PM (mt gu (.cells #[.int .u64 (s : Int), .int .u64 (s1 : Int)] 55 (0, 0)) B AE nE cE 41 #[.pointer (some ⟨gu, 0, none⟩)] R C E (fun c => !u c)) (fun r => decide (i < r)) w)
  have hn : nE = R := by have := hN.1; have := hI.2.2.1; omega
  have hR := hI.1
  have hC := hI.2.1
  refine m_match (mt gu (.cells #[.int .u64 (s : Int), .int .u64 (s1 : Int)] 55 (0, 0)) B AE nE cE 41 #[.pointer (some ⟨gu, 0, none⟩)] R C E (fun c => !u c)) ?_ (fun r => decide (i < r)) 40 #[.pointer (some ⟨gi, 0, none⟩)] gi (.cells #[.int .i64 (i : Int)] 3 (0, 0)) ⟨enters_perf1, fun w r hw hr => perf_1 gi i r w (by omega) (by have : r < R := hr; omega) hw⟩ w ⟨hgi, hgi.lt⟩ ⟨hgu, hgu.lt⟩ hB hN ⟨hI.1, hI.2.1⟩
  intro gRow gCol h1 h2 h3 h4 h5
  refine ⟨⟨hI.1, hI.2.1, hn, hI.2.2.2⟩, ⟨h1, h2⟩, h3, ⟨h4, h5⟩, enters_perf2, fun w k hw hk => ?_⟩
  have hk : k < C := hk
  refine (perf_2 gu s s1 k w (by omega) hs hw).mono ?_
  rintro e w' ⟨rfl, hb⟩
  refine ⟨?_, hb⟩
  rw [hsu k (by omega)]
  rfl


/-- append of one number to a row of the call's own: in place, or in a new block; what the source tells stays -/
theorem run_append_way {w : World} {B : Nat} {v : Value} {l : List Int} {i0 : TypeInfo} (hi : Try.prog.info? 3 = some i0) (hz : i0.zero = some (.int .i64 0)) (h1 : i0.size = 1) (h8 : i0.bytes = 8) (hl : l.length ≤ 1000) (h : RowI w B v l) (hB : B ≤ w.heap.size) (ad : Addr) (c : Nat) (x : Int) (ty : TypeId) (hx : w.cell? (ad.add 0) = some (.int .i64 x)) :
    ∃ g cap w', (Builtin.append_ #[23, 23] ty #[v, .slice (some ad) 1 c]).run Try.prog w = .ok (.slice (some ⟨g, 0, none⟩) (l.length + 1) cap) w' ∧ RowI w' B (.slice (some ⟨g, 0, none⟩) (l.length + 1) cap) (l ++ [x]) ∧ w.grownBy w' v.ownBlock ∧ (v = .slice (some ⟨g, 0, none⟩) l.length cap ∨ g = w.heap.size) ∧ RowI w' B v l := by
  have hn : ∀ j u, [Value.int .i64 x][j]? = some u → w.cell? (ad.add j) = some u := fun j u hu => by
    cases j with
    | zero => have e : Value.int .i64 x = u := by simpa using hu
              rw [← e]; exact hx
    | succ j => simp at hu
  have hone : ∀ u ∈ [Value.int .i64 x], u.oneCell' = true := by intro u hu; simp at hu; subst hu; rfl
  have hfin : ∀ v' w' , w'.ownsRow B 3 1 v' (l.length + 1) (vz l ++ [.int .i64 x]) → RowI w' B v' (l ++ [x]) := fun v' w' h => by
    unfold RowI
    rw [vz_snoc]
    simpa using h
  have h0 := h
  obtain ⟨e1, e2⟩ := h0
  obtain ⟨v1, w1, hr1, ho1, hg1, hn1, ha1⟩ := run_append_own_at (P := Try.prog) w B 23 ty 3 i0 (.int .i64 0) 1 8 Try.underlying23 hi hz h1 h8 rfl (by omega) v l.length (vz l) h ad 1 c [.int .i64 x] (by simp) hn hone (by unfold maxLen; omega) (by omega) hB
  rcases e2 with ⟨rfl, e2⟩ | ⟨g, cap, cur, rfl, e3, e4, e5, e6, e7, e8⟩
  · have hl0 : l = [] := List.eq_nil_of_length_eq_zero e2
    subst hl0
    have hr := run_append_nil (P := Try.prog) w 23 ty 3 i0 (.int .i64 0) Try.underlying23 hi hz ad 1 c [.int .i64 x] (by simp [h1]) hn (by omega) (by omega) (by omega)
    rw [hr] at hr1
    injection hr1 with q1 q2
    subst q1 q2
    exact ⟨_, _, _, hr, hfin _ _ ho1, hg1, .inr rfl, RowI.nil _ _⟩
  · by_cases hroom : l.length + 1 ≤ cap
    · obtain ⟨w2, hr, ho, hg⟩ := run_append_own_spare (P := Try.prog) w B 23 ty 3 i0 1 Try.underlying23 hi h1 g l.length cap (vz l) h ad 1 c [.int .i64 x] (by simp) hn hone hroom
      refine ⟨g, cap, w2, hr, hfin _ _ ho, hg, .inl rfl, ⟨e1, .inr ?_⟩⟩
      rcases ho.2 with ⟨q, -⟩ | ⟨g', cap', cur', q, q3, q4, q5, q6, q7, q8⟩
      · cases q
      · obtain ⟨r1, r2⟩ : g = g' ∧ cap = cap' := by simpa using q
        subst r1 r2
        refine ⟨g, cap, cur', rfl, q3, q4, e5, q6, q7, ?_⟩
        have hlen : (vz l).length = l.length * 1 := e1
        have : cur'.toList.take (l.length * 1) = (cur'.toList.take ((l.length + 1) * 1)).take (l.length * 1) := by
          rw [List.take_take, Nat.min_eq_left (by omega)]
        rw [this, q8, ← hlen]
        exact List.take_left
    · have holds : ∀ j u, (vz l)[j]? = some u → w.cell? ((⟨g, 0, none⟩ : Addr).add j) = some u := World.ownsRow.cells h (g := g) rfl
      have hr := run_append_grow (P := Try.prog) w 23 ty 3 i0 (.int .i64 0) Try.underlying23 hi hz ⟨g, 0, none⟩ l.length cap (vz l) (by rw [h1]; exact e1) holds ad 1 c [.int .i64 x] (by simp [h1]) hn (by omega) (by omega) (growslice_fits (by omega) (by rw [h8]; omega))
      rw [hr] at hr1
      injection hr1 with q1 q2
      subst q1 q2
      exact ⟨_, _, _, hr, hfin _ _ ho1, hg1, .inr rfl, h.call ((Below.refl _ _).drew.alloc (Nat.le_refl _) _)⟩

theorem step_append_way {w : World} {ops : Array Oper} {o : Oper} {a : Act} {K : Act → World → Prop} {Q : Exit → Act → World → Prop} {F : Prop} (hgd : o.guard = none) (s x : Operand) (ho : o.op = .call { callee := .builtin .append, args := #[s, x], argTypes := #[23, 23] })
    {B : Nat} {v : Value} {l : List Int} {i0 : TypeInfo} (hi : Try.prog.info? 3 = some i0) (hz : i0.zero = some (.int .i64 0)) (h1 : i0.size = 1) (h8 : i0.bytes = 8) (hs : a.eval s = v) (h : RowI w B v l) (hl : l.length ≤ 1000) (hB : B ≤ w.heap.size) (ad : Addr) (c : Nat) (y : Int) (hx : a.eval x = .slice (some ad) 1 c) (hy : w.cell? (ad.add 0) = some (.int .i64 y))
    (hK : ∀ g cap w', RowI w' B (.slice (some ⟨g, 0, none⟩) (l.length + 1) cap) (l ++ [y]) → w.grownBy w' v.ownBlock → (v = .slice (some ⟨g, 0, none⟩) l.length cap ∨ g = w.heap.size) → RowI w' B v l → K (a.put o.dst (.slice (some ⟨g, 0, none⟩) (l.length + 1) cap)) w') :
    if Region.wanted o (yielded ops a.tmps) = true then Oper.wp Try.prog o a w K Q else F := by
  have hw : Region.wanted o (yielded ops a.tmps) = true := by simp [Region.wanted, hgd]
  rw [if_pos hw]
  obtain ⟨g, cap, w', hr, r1, r2, r3, r4⟩ := run_append_way hi hz h1 h8 hl h hB ad c y o.type hy
  unfold Oper.wp execOp
  simp only [ho, resolve, invoke, builtin, Sem.run_bind, Sem.run_pure, Result.andThen_ok, List.map_toArray, List.map_cons, List.map_nil, hs, hx, hr]
  exact hK g cap w' r1 r2 r3 r4

/-- a row that was read as a longer one's head -/
theorem RowI.head {w : World} {B : Nat} {g cap : Nat} {l : List Int} {x : Int} (h : RowI w B (.slice (some ⟨g, 0, none⟩) (l.length + 1) cap) (l ++ [x])) : RowI w B (.slice (some ⟨g, 0, none⟩) l.length cap) l := by
  obtain ⟨h1, h2⟩ := h
  refine ⟨by rw [vz_len, Nat.mul_one], .inr ?_⟩
  rcases h2 with ⟨q, -⟩ | ⟨g', cap', cur', q, q3, q4, q5, q6, q7, q8⟩
  · cases q
  · have r : g = g' ∧ cap = cap' := by simp at q; omega
    obtain ⟨r1, r2⟩ := r
    subst r1 r2
    refine ⟨g, cap, cur', rfl, q3, q4, by simp at q5; omega, q6, q7, ?_⟩
    have hlen : (vz l).length = l.length * 1 := by rw [vz_len, Nat.mul_one]
    have : cur'.toList.take (l.length * 1) = (cur'.toList.take ((l ++ [x]).length * 1)).take (l.length * 1) := by
      rw [List.take_take, Nat.min_eq_left (by simp)]
    rw [this, q8, vz_snoc, ← hlen]
    exact List.take_left

/-- the block of a value -/
def obs (v : Value) : List Nat := v.ownBlock.toList
theorem mem_obs {v : Value} {g : Nat} : g ∈ obs v ↔ v.ownBlock = some g := by
  unfold obs
  cases v.ownBlock with
  | none => simp
  | some h => simp; exact eq_comm

structure PF where
  B : Nat
  gOut : Nat
  gMost : Nat
  gM : Nat
  gGo : Nat
  BB : Nat
  AE : Option Addr
  cE : Nat
  R : Nat
  E : List (List Nat)
  most : Nat
def PF.caps (z : PF) : Array Value := #[.pointer (some ⟨z.gOut, 0, none⟩), .pointer (some ⟨z.gMost, 0, none⟩), .pointer (some ⟨z.gM, 0, none⟩), .pointer (some ⟨z.gGo, 0, none⟩)]
structure PF.Fine (z : PF) : Prop where
  inc : Inc z.R z.R z.E
  most : z.most ≤ 200
  bo : z.B ≤ z.gOut
  o1 : z.gOut ≠ z.gMost ∧ z.gOut ≠ z.gM ∧ z.gOut ≠ z.gGo
  lt : z.gOut < z.BB ∧ z.gMost < z.BB ∧ z.gM < z.BB ∧ z.gGo < z.BB

structure PS (z : PF) (vo : Value) (hs : List Value) (out : List (List Int)) (w : World) : Prop where
  bOut : Blk w z.gOut 22 #[vo]
  bMost : Blk w z.gMost 3 #[.int .i64 (z.most : Int)]
  bM : Blk w z.gM 33 #[.int .i64 (z.R : Int), .int .i64 (z.R : Int), .slice z.AE z.R z.cE]
  bGo : Blk w z.gGo 59 #[.func (.func 37) #[] z.caps]
  en : N2 z.B w z.AE z.R z.cE z.E
  row : w.ownsRow z.BB 23 1 vo out.length hs
  el : ∀ (j : Nat) (l : List Int) (h : Value), out[j]? = some l → hs[j]? = some h → RowI w z.BB h l
  sz : z.BB ≤ w.heap.size

theorem row_type {w : World} {B B' : Nat} {e e' : TypeId} {v v' : Value} {n n' : Nat} {xs xs' : List Value} (h : w.ownsRow B e 1 v n xs) (h' : w.ownsRow B' e' 1 v' n' xs') (hne : e ≠ e') {g : Nat} (hg : v.ownBlock = some g) : v'.ownBlock ≠ some g := by
  rcases h.2 with ⟨rfl, -⟩ | ⟨g1, cap, cur, rfl, -, h4, -⟩
  · cases hg
  · rcases h'.2 with ⟨rfl, -⟩ | ⟨g2, cap', cur', rfl, -, h4', -⟩
    · intro hc; cases hc
    · intro hc
      have e1 : g1 = g := by simpa [Value.ownBlock] using hg
      have e2 : g2 = g := by simpa [Value.ownBlock] using hc
      rw [e1] at h4
      rw [e2, h4] at h4'
      injection h4' with h5
      injection h5 with _ h6
      exact hne h6

end Go.Proofs.Ytjbhnfejpgjghaa
