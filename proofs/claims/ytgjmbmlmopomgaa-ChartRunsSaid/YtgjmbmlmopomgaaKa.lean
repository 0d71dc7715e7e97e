/- Opening of arguments: texts, numbers, truths, moves, machines, charts, configurations. -/
import Derived.Test.YtgjmbmlmopomgaaRows
import Derived.WalkKit
import Derived.ProofKit
import Derived.OpenShut
import Derived.ShutString
import Derived.ChangeOld
import Derived.Below
import Derived.SizedLaws
import Derived.Deep.Slices
import Derived.ChangeArms
import Derived.Test.YtgjmbmlmopomgaaEa
namespace Go.Proofs.Ytgjmbmlmopomgaa.opens
open Go.ChangeShapes Go.WideShapes Go.ChangeAt Go.RowKit
open Go.Deep
set_option linter.unusedSimpArgs false
set_option linter.unusedVariables false

theorem own : ownKnob Try.prog.godebug = none := by kernel_rfl
theorem laidOut : laidOutB Try.prog = true := by kernel_rfl

theorem addr_plain {w : World} {a : Addr} {v : Value} (h : w.cell? a = some v) : a = ⟨a.block, a.off, none⟩ ∧ a.block < w.heap.size := by
  unfold World.cell? at h
  split at h
  · rename_i c _ _ hb
    split at h
    · cases h
    · rename_i hs
      refine ⟨?_, (Array.getElem?_eq_some_iff.1 hb).1⟩
      obtain ⟨b, o, s⟩ := a
      cases s with
      | none => rfl
      | some s => simp at hs
  · cases h
theorem plain_cell {w : World} {a : Addr} {j : Nat} {v : Value} (e : a = ⟨a.block, a.off, none⟩) (h : w.cell? (a.add j) = some v) : w.cell? ⟨a.block, a.off + j, none⟩ = some v := by
  rw [← h]
  congr 1
  unfold Addr.add
  split
  · rename_i h
    subst h
    exact e.symm
  · rfl
theorem addr_add0 (g o j : Nat) : (⟨g, o, none⟩ : Addr).add j = ⟨g, o + j, none⟩ := by
  unfold Addr.add
  by_cases h : j = 0
  · simp [h]
  · simp [h]
theorem collect {α : Type} {P : Nat → α → Prop} : ∀ n, (∀ i, i < n → ∃ x, P i x) → ∃ l : List α, l.length = n ∧ ∀ i x, l[i]? = some x → P i x := by
  intro n
  induction n with
  | zero => intro _; exact ⟨[], rfl, fun i x h => by simp at h⟩
  | succ n ih =>
    intro h
    obtain ⟨l, hl, hp⟩ := ih fun i hi => h i (by omega)
    obtain ⟨x, hx⟩ := h n (by omega)
    refine ⟨l ++ [x], by simp [hl], fun i y hy => ?_⟩
    rcases Nat.lt_or_ge i n with h1 | h1
    · rw [List.getElem?_append_left (by omega)] at hy
      exact hp i y hy
    · rw [List.getElem?_append_right (by omega)] at hy
      have : i - l.length = 0 := by
        have := (List.getElem?_eq_some_iff.1 hy).1
        simp at this
        omega
      rw [this] at hy
      simp at hy
      subst hy
      obtain rfl : i = n := by omega
      exact hx

section
variable {H : Type} {enc : TypeId × Value → H} {W : World}
/-- no slice inside is too long -/
def Sz (t : TypeId) (d : DataW H) : Prop := ∀ k ∈ DataW.weights Try.prog t d, k ≤ reachBytes
theorem weightsAll_mem {P : Program} {e : TypeId} {d : DataW H} : ∀ {l : List (DataW H)}, d ∈ l → ∀ n ∈ DataW.weights P e d, n ∈ DataW.weightsAll P e l
  | [], h, _, _ => by cases h
  | x :: l, hd, n, hn => by
    simp only [DataW.weightsAll, List.mem_append]
    rcases List.mem_cons.1 hd with rfl | h
    · exact Or.inl hn
    · exact Or.inr (weightsAll_mem h n hn)
theorem Sz.slice {t e : TypeId} {el sp : List (DataW H)} (hu : Try.prog.underlying t = some (.slice e)) (h : Sz t (.slice el sp)) : (el.length + sp.length) * Try.prog.bytesOf e ≤ reachBytes ∧ ∀ x ∈ el, Sz e x := by
  unfold Sz at h
  simp only [DataW.weights, hu, List.mem_cons, List.mem_append] at h
  exact ⟨h _ (.inl rfl), fun x hx k hk => h k (.inr (.inl (weightsAll_mem hx k hk)))⟩
theorem Sz.field {t : TypeId} {fs : Array Field} {ds : List (DataW H)} (hu : Try.prog.underlying t = some (.struct fs)) (h : Sz t (.agg ds)) {j : Nat} {f : Field} {d : DataW H} (hf : fs[j]? = some f) (hd : ds[j]? = some d) : Sz f.type d := by
  unfold Sz at h
  simp only [DataW.weights, hu] at h
  intro k hk
  refine h k (DataW.weights_mem_each (j := j) ?_ hd k hk)
  rw [List.getElem?_map, Array.getElem?_toList, hf]
  rfl
theorem sz_of {ts : List TypeId} {ds : List (DataW H)} (hsz : (DataW.weightsEach Try.prog ts ds).all (· ≤ reachBytes) = true) {j : Nat} {t : TypeId} {d : DataW H} (ht : ts[j]? = some t) (hd : ds[j]? = some d) : Sz t d :=
  fun k hk => of_decide_eq_true (List.all_eq_true.1 hsz k (DataW.weights_mem_each ht hd k hk))

/-- a slice of k-cell elements -/
theorem row_of {t e : TypeId} {fuel k b : Nat} {v : Value} {y : DataW H × List MemPlace} (ht : Try.prog.underlying t = some (.slice e)) (hc : Try.prog.cellsOf e = k) (hk : 0 < k) (hb : Try.prog.bytesOf e = b)
    (h : DataW.trod enc Try.prog W 0 (fun _ => true) true fuel t [v] = some y) (hz : Sz t y.1) :
    v = .slice none 0 0 ∨ ∃ (a : Addr) (len cap n : Nat) (D : Nat → DataW H) (Pl : Nat → List MemPlace), v = .slice (some a) len cap ∧ len ≤ cap ∧ len * b ≤ reachBytes ∧
      (0 < len → a = ⟨a.block, a.off, none⟩ ∧ a.block < W.heap.size) ∧
      ∀ i, i < len → ∃ cs : List Value, cs.length = k ∧ (∀ j u, cs[j]? = some u → W.cell? ⟨a.block, a.off + (i * k + j), none⟩ = some u) ∧ DataW.trod enc Try.prog W 0 (fun _ => true) true n e cs = some (D i, Pl i) ∧ Sz e (D i) := by
  rcases open_slice ht h with ⟨h1, -⟩ | ⟨a, len, cap, m, n, D, Pl, hcs, -, hl, -, hm, rfl, hi⟩
  · simp at h1
    exact .inl h1
  · simp at hcs
    simp only [if_true] at hm
    subst hm
    obtain ⟨hz1, hz2⟩ := Sz.slice ht hz
    have hplain : 0 < len → a = ⟨a.block, a.off, none⟩ ∧ a.block < W.heap.size := fun h0 => by
      obtain ⟨cs', c1, -⟩ := hi 0 (by omega)
      rw [hc] at c1
      obtain ⟨_, hcl, hat⟩ := World.cells?_some c1
      have h2 := hat 0 (by omega)
      have hv : cs'[0]? = some (cs'[0]'(by omega)) := List.getElem?_eq_getElem (by omega)
      rw [hv] at h2
      have h3 : (a.add (0 * k)).add 0 = a := by simp [Addr.add]
      rw [h3] at h2
      exact addr_plain h2
    refine .inr ⟨a, len, m, n, D, Pl, hcs, hl, ?_, hplain, fun i hil => ?_⟩
    · rw [hb] at hz1
      simp at hz1
      exact Nat.le_trans (Nat.mul_le_mul_right b (by omega)) hz1
    · obtain ⟨cs', c1, c2⟩ := hi i (by omega)
      rw [hc] at c1
      obtain ⟨_, hcl, hat⟩ := World.cells?_some c1
      obtain ⟨e1, e2⟩ := hplain (by omega)
      refine ⟨cs', hcl, fun j u hj => ?_, c2, hz2 _ (List.mem_map.2 ⟨i, List.mem_range.2 hil, rfl⟩)⟩
      have hjk : j < k := by rw [← hcl]; exact (List.getElem?_eq_some_iff.1 hj).1
      have h2 := hat j hjk
      rw [hj] at h2
      rw [show (a.add (i * k)).add j = a.add (i * k + j) from by
        rw [e1, addr_add0, addr_add0, addr_add0]; simp only [Nat.add_assoc]] at h2
      exact plain_cell e1 h2
end

end Go.Proofs.Ytgjmbmlmopomgaa.opens

/- Texts, numbers, truths, moves, machines, charts, configurations that came in. -/
namespace Go.Proofs.Ytgjmbmlmopomgaa.opens
open Go.ChangeShapes Go.WideShapes Go.ChangeAt Go.RowKit
open Go.Deep
set_option linter.unusedSimpArgs false
set_option linter.unusedVariables false

theorem rb : reachBytes = 140737488351232 := rfl
theorem cStr : Try.prog.cellsOf 9 = 1 := by kernel_rfl
theorem cInt : Try.prog.cellsOf 3 = 1 := by kernel_rfl
theorem cBool : Try.prog.cellsOf 4 = 1 := by kernel_rfl
theorem cStrs : Try.prog.cellsOf 27 = 1 := by kernel_rfl
theorem cInts : Try.prog.cellsOf 25 = 1 := by kernel_rfl
theorem cBools : Try.prog.cellsOf 26 = 1 := by kernel_rfl
theorem cMoves : Try.prog.cellsOf 48 = 1 := by kernel_rfl
theorem cMachs : Try.prog.cellsOf 22 = 1 := by kernel_rfl
theorem cMove : Try.prog.cellsOf 52 = 7 := by kernel_rfl
theorem cPlace : Try.prog.cellsOf 47 = 2 := by kernel_rfl
theorem cMach : Try.prog.cellsOf 50 = 5 := by kernel_rfl
theorem cChart : Try.prog.cellsOf 24 = 1 := by kernel_rfl
theorem cConf : Try.prog.cellsOf 29 = 3 := by kernel_rfl
theorem yStr : Try.prog.bytesOf 9 = 16 := by kernel_rfl
theorem yInt : Try.prog.bytesOf 3 = 8 := by kernel_rfl
theorem yBool : Try.prog.bytesOf 4 = 1 := by kernel_rfl
theorem yStrs : Try.prog.bytesOf 27 = 24 := by kernel_rfl
theorem yMove : Try.prog.bytesOf 52 = 96 := by kernel_rfl
theorem yMach : Try.prog.bytesOf 50 = 72 := by kernel_rfl
theorem in64_of {a : Int} (h : (Lit.int .i64 a).wf = true) : In64 a := by
  simp [Lit.wf, IntKind.min, IntKind.max, IntKind.signed, IntKind.bits] at h
  unfold In64
  omega

section
variable {H : Type} {enc : TypeId × Value → H} {W : World} {fuel : Nat} {v : Value} {y : DataW H × List MemPlace}
theorem fld {n t o k : Nat} {f : Field} {cs : List Value} {x : Option (DataW H × List MemPlace)} (hg : DataW.trod enc Try.prog W 0 (fun _ => true) true n f.type ((cs.drop f.offset).take (Try.prog.cellsOf f.type)) = x) (hf : f.type = t) (ho : f.offset = o) (hc : Try.prog.cellsOf t = k) :
    DataW.trod enc Try.prog W 0 (fun _ => true) true n t ((cs.drop o).take k) = x := by
  subst hf
  subst ho
  subst hc
  exact hg
theorem sl_of (h : DataW.trod enc Try.prog W 0 (fun _ => true) true fuel 27 [v] = some y) (hz : Sz 27 y.1) : ∃ s : SL, v = .slice s.A s.n s.c ∧ s.ok W ∧ s.n ≤ 8796093021952 := by
  rcases row_of Try.underlying27 cStr (by decide) yStr h hz with rfl | ⟨a, len, cap, n, D, Pl, rfl, hl, hb, hp, hi⟩
  · exact ⟨⟨none, 0, 0, []⟩, rfl, ⟨rfl, Nat.le_refl _, Nat.zero_le _, fun x hx => by simp at hx, .inl rfl⟩, Nat.zero_le _⟩
  · obtain ⟨l, hll, hlp⟩ := collect (P := fun i (x : ByteArray) => x.size ≤ maxLen ∧ W.cell? ⟨a.block, a.off + i, none⟩ = some (.string x)) len fun i hil => by
      obtain ⟨cs, h1, h2, h3, h4⟩ := hi i hil
      obtain ⟨s, rfl, -, hs⟩ := DataW.trod_string Try.underlying9 h3
      have := h2 0 _ rfl
      rw [Nat.mul_one, Nat.add_zero] at this
      exact ⟨s, hs, this⟩
    refine ⟨⟨some a, len, cap, l⟩, rfl, ⟨hll, hl, by rw [rb] at hb; show len ≤ _; omega, fun x hx => ?_, ?_⟩, by rw [rb] at hb; show len ≤ _; omega⟩
    · obtain ⟨j, hj, rfl⟩ := List.mem_iff_getElem.1 hx
      exact (hlp j _ (List.getElem?_eq_getElem hj)).1
    · rcases Nat.eq_zero_or_pos len with h0 | h0
      · exact .inl h0
      · exact .inr ⟨a.block, a.off, by rw [← (hp h0).1], (hp h0).2, fun j x hj => (hlp j x hj).2⟩
theorem nl_of (h : DataW.trod enc Try.prog W 0 (fun _ => true) true fuel 25 [v] = some y) (hz : Sz 25 y.1) : ∃ s : NL, v = .slice s.A s.n s.c ∧ s.ok W := by
  rcases row_of Try.underlying25 cInt (by decide) yInt h hz with rfl | ⟨a, len, cap, n, D, Pl, rfl, hl, hb, hp, hi⟩
  · exact ⟨⟨none, 0, 0, []⟩, rfl, rfl, Nat.le_refl _, Nat.zero_le _, fun x hx => by simp at hx, .inl rfl⟩
  · obtain ⟨l, hll, hlp⟩ := collect (P := fun i (x : Int) => In64 x ∧ W.cell? ⟨a.block, a.off + i, none⟩ = some (.int .i64 x)) len fun i hil => by
      obtain ⟨cs, h1, h2, h3, h4⟩ := hi i hil
      obtain ⟨s, rfl, -, hs⟩ := DataW.trod_int Try.underlying3 h3
      have := h2 0 _ rfl
      rw [Nat.mul_one, Nat.add_zero] at this
      exact ⟨s, in64_of hs, this⟩
    refine ⟨⟨some a, len, cap, l⟩, rfl, hll, hl, by rw [rb] at hb; show len ≤ _; omega, fun x hx => ?_, ?_⟩
    · obtain ⟨j, hj, rfl⟩ := List.mem_iff_getElem.1 hx
      exact (hlp j _ (List.getElem?_eq_getElem hj)).1
    · rcases Nat.eq_zero_or_pos len with h0 | h0
      · exact .inl h0
      · exact .inr ⟨a.block, a.off, by rw [← (hp h0).1], (hp h0).2, fun j x hj => (hlp j x hj).2⟩
theorem bl_of (h : DataW.trod enc Try.prog W 0 (fun _ => true) true fuel 26 [v] = some y) (hz : Sz 26 y.1) : ∃ s : BL, v = .slice s.A s.n s.c ∧ s.ok W := by
  rcases row_of Try.underlying26 cBool (by decide) yBool h hz with rfl | ⟨a, len, cap, n, D, Pl, rfl, hl, hb, hp, hi⟩
  · exact ⟨⟨none, 0, 0, []⟩, rfl, rfl, Nat.le_refl _, Nat.zero_le _, .inl rfl⟩
  · obtain ⟨l, hll, hlp⟩ := collect (P := fun i (x : Bool) => W.cell? ⟨a.block, a.off + i, none⟩ = some (.bool x)) len fun i hil => by
      obtain ⟨cs, h1, h2, h3, h4⟩ := hi i hil
      obtain ⟨s, rfl, -⟩ := DataW.trod_bool Try.underlying4 h3
      have := h2 0 _ rfl
      rw [Nat.mul_one, Nat.add_zero] at this
      exact ⟨s, this⟩
    refine ⟨⟨some a, len, cap, l⟩, rfl, hll, hl, by rw [rb] at hb; show len ≤ _; omega, ?_⟩
    rcases Nat.eq_zero_or_pos len with h0 | h0
    · exact .inl h0
    · exact .inr ⟨a.block, a.off, by rw [← (hp h0).1], (hp h0).2, fun j x hj => hlp j x hj⟩
set_option maxRecDepth 100000 in
theorem mv_of {cs : List Value} (h : DataW.trod enc Try.prog W 0 (fun _ => true) true fuel 52 cs = some y) (hz : Sz 52 y.1) : ∃ m : MvV, cs = m.cs ∧ m.ok W := by
  obtain ⟨xs, n, -, rfl, hl, hxl, hg⟩ := DataW.trod_struct Try.underlying52 h
  rw [cMove] at hl
  match cs, hl with
  | [c0, c1, c2, c3, c4, c5, c6], _ =>
    match xs, hxl with
    | [x0, x1, x2, x3, x4, x5, x6], _ =>
      have z2 : Sz 27 x2.1 := Sz.field Try.underlying52 hz (j := 2) rfl rfl
      have z3 : Sz 27 x3.1 := Sz.field Try.underlying52 hz (j := 3) rfl rfl
      have z4 : Sz 27 x4.1 := Sz.field Try.underlying52 hz (j := 4) rfl rfl
      have g0 : DataW.trod enc Try.prog W 0 (fun _ => true) true n 3 [c0] = some x0 := fld (hg 0 _ rfl) (t := 3) (o := 0) rfl rfl cInt
      have g1 : DataW.trod enc Try.prog W 0 (fun _ => true) true n 3 [c1] = some x1 := fld (hg 1 _ rfl) (t := 3) (o := 1) rfl rfl cInt
      have g2 : DataW.trod enc Try.prog W 0 (fun _ => true) true n 27 [c2] = some x2 := fld (hg 2 _ rfl) (t := 27) (o := 2) rfl rfl cStrs
      have g3 : DataW.trod enc Try.prog W 0 (fun _ => true) true n 27 [c3] = some x3 := fld (hg 3 _ rfl) (t := 27) (o := 3) rfl rfl cStrs
      have g4 : DataW.trod enc Try.prog W 0 (fun _ => true) true n 27 [c4] = some x4 := fld (hg 4 _ rfl) (t := 27) (o := 4) rfl rfl cStrs
      have g5 : DataW.trod enc Try.prog W 0 (fun _ => true) true n 4 [c5] = some x5 := fld (hg 5 _ rfl) (t := 4) (o := 5) rfl rfl cBool
      have g6 : DataW.trod enc Try.prog W 0 (fun _ => true) true n 4 [c6] = some x6 := fld (hg 6 _ rfl) (t := 4) (o := 6) rfl rfl cBool
      obtain ⟨r0, e0, -, w0⟩ := DataW.trod_int Try.underlying3 g0
      obtain ⟨r1, e1, -, w1⟩ := DataW.trod_int Try.underlying3 g1
      obtain ⟨s2, e2, k2, -⟩ := sl_of g2 z2
      obtain ⟨s3, e3, k3, -⟩ := sl_of g3 z3
      obtain ⟨s4, e4, k4, -⟩ := sl_of g4 z4
      obtain ⟨b5, e5, -⟩ := DataW.trod_bool Try.underlying4 g5
      obtain ⟨b6, e6, -⟩ := DataW.trod_bool Try.underlying4 g6
      simp at e0 e1 e5 e6
      exact ⟨⟨r0, r1, s2, s3, s4, b5, b6⟩, by rw [e0, e1, e2, e3, e4, e5, e6]; rfl, in64_of w0, in64_of w1, k2, k3, k4⟩
set_option maxRecDepth 100000 in
theorem ml_of (h : DataW.trod enc Try.prog W 0 (fun _ => true) true fuel 48 [v] = some y) (hz : Sz 48 y.1) : ∃ s : ML, v = .slice s.A s.n s.c ∧ s.ok W := by
  rcases row_of Try.underlying48 cMove (by decide) yMove h hz with rfl | ⟨a, len, cap, n, D, Pl, rfl, hl, hb, hp, hi⟩
  · exact ⟨⟨none, 0, 0, []⟩, rfl, rfl, Nat.le_refl _, Nat.zero_le _, fun x hx => by simp at hx, .inl rfl⟩
  · obtain ⟨l, hll, hlp⟩ := collect (P := fun i (x : MvV) => x.ok W ∧ ∀ j u, x.cs[j]? = some u → W.cell? ⟨a.block, a.off + (i * 7 + j), none⟩ = some u) len fun i hil => by
      obtain ⟨cs, h1, h2, h3, h4⟩ := hi i hil
      obtain ⟨m, rfl, hm⟩ := mv_of h3 h4
      exact ⟨m, hm, h2⟩
    refine ⟨⟨some a, len, cap, l⟩, rfl, hll, hl, by rw [rb] at hb; show len ≤ _; omega, fun x hx => ?_, ?_⟩
    · obtain ⟨j, hj, rfl⟩ := List.mem_iff_getElem.1 hx
      exact (hlp j _ (List.getElem?_eq_getElem hj)).1
    · rcases Nat.eq_zero_or_pos len with h0 | h0
      · exact .inl h0
      · exact .inr ⟨a.block, a.off, by rw [← (hp h0).1], (hp h0).2, fun j x hj k u hu => by rw [Nat.add_assoc]; exact (hlp j x hj).2 k u hu⟩
set_option maxRecDepth 100000 in
theorem mc_of {cs : List Value} (h : DataW.trod enc Try.prog W 0 (fun _ => true) true fuel 50 cs = some y) (hz : Sz 50 y.1) : ∃ m : McV, cs = m.cs ∧ m.ok W := by
  obtain ⟨xs, n, -, rfl, hl, hxl, hg⟩ := DataW.trod_struct Try.underlying50 h
  rw [cMach] at hl
  match cs, hl with
  | [c0, c1, c2, c3, c4], _ =>
    match xs, hxl with
    | [x0, x1, x2, x3], _ =>
      have z1 : Sz 27 x1.1 := Sz.field Try.underlying50 hz (j := 1) rfl rfl
      have z3 : Sz 48 x3.1 := Sz.field Try.underlying50 hz (j := 3) rfl rfl
      have g0 : DataW.trod enc Try.prog W 0 (fun _ => true) true n 47 [c0, c1] = some x0 := fld (hg 0 _ rfl) (t := 47) (o := 0) rfl rfl cPlace
      have g1 : DataW.trod enc Try.prog W 0 (fun _ => true) true n 27 [c2] = some x1 := fld (hg 1 _ rfl) (t := 27) (o := 2) rfl rfl cStrs
      have g2 : DataW.trod enc Try.prog W 0 (fun _ => true) true n 3 [c3] = some x2 := fld (hg 2 _ rfl) (t := 3) (o := 3) rfl rfl cInt
      have g3 : DataW.trod enc Try.prog W 0 (fun _ => true) true n 48 [c4] = some x3 := fld (hg 3 _ rfl) (t := 48) (o := 4) rfl rfl cMoves
      obtain ⟨xs2, n2, -, -, -, hx2, hg2⟩ := DataW.trod_struct Try.underlying47 g0
      match xs2, hx2 with
      | [p0, p1], _ =>
        have f0 : DataW.trod enc Try.prog W 0 (fun _ => true) true n2 3 [c0] = some p0 := fld (hg2 0 _ rfl) (t := 3) (o := 0) rfl rfl cInt
        have f1 : DataW.trod enc Try.prog W 0 (fun _ => true) true n2 3 [c1] = some p1 := fld (hg2 1 _ rfl) (t := 3) (o := 1) rfl rfl cInt
        obtain ⟨r0, e0, -, w0⟩ := DataW.trod_int Try.underlying3 f0
        obtain ⟨r1, e1, -, w1⟩ := DataW.trod_int Try.underlying3 f1
        obtain ⟨s1, e2, k1, -⟩ := sl_of g1 z1
        obtain ⟨r2, e3, -, w2⟩ := DataW.trod_int Try.underlying3 g2
        obtain ⟨s3, e4, k3⟩ := ml_of g3 z3
        simp at e0 e1 e3
        exact ⟨⟨r0, r1, s1, r2, s3⟩, by rw [e0, e1, e2, e3, e4]; rfl, in64_of w0, in64_of w1, k1, in64_of w2, k3⟩
set_option maxRecDepth 100000 in
theorem cv_of (h : DataW.trod enc Try.prog W 0 (fun _ => true) true fuel 22 [v] = some y) (hz : Sz 22 y.1) : ∃ s : CV, v = .slice s.A s.n s.c ∧ s.ok W := by
  rcases row_of Try.underlying22 cMach (by decide) yMach h hz with rfl | ⟨a, len, cap, n, D, Pl, rfl, hl, hb, hp, hi⟩
  · exact ⟨⟨none, 0, 0, []⟩, rfl, rfl, Nat.le_refl _, Nat.zero_le _, fun x hx => by simp at hx, .inl rfl⟩
  · obtain ⟨l, hll, hlp⟩ := collect (P := fun i (x : McV) => x.ok W ∧ ∀ j u, x.cs[j]? = some u → W.cell? ⟨a.block, a.off + (i * 5 + j), none⟩ = some u) len fun i hil => by
      obtain ⟨cs, h1, h2, h3, h4⟩ := hi i hil
      obtain ⟨m, rfl, hm⟩ := mc_of h3 h4
      exact ⟨m, hm, h2⟩
    refine ⟨⟨some a, len, cap, l⟩, rfl, hll, hl, by rw [rb] at hb; show len ≤ _; omega, fun x hx => ?_, ?_⟩
    · obtain ⟨j, hj, rfl⟩ := List.mem_iff_getElem.1 hx
      exact (hlp j _ (List.getElem?_eq_getElem hj)).1
    · rcases Nat.eq_zero_or_pos len with h0 | h0
      · exact .inl h0
      · exact .inr ⟨a.block, a.off, by rw [← (hp h0).1], (hp h0).2, fun j x hj k u hu => by rw [Nat.add_assoc]; exact (hlp j x hj).2 k u hu⟩
set_option maxRecDepth 100000 in
theorem chart_of {cs : List Value} (h : DataW.trod enc Try.prog W 0 (fun _ => true) true fuel 24 cs = some y) (hz : Sz 24 y.1) : ∃ c : CV, cs = [.slice c.A c.n c.c] ∧ c.ok W := by
  obtain ⟨xs, n, -, rfl, hl, hxl, hg⟩ := DataW.trod_struct Try.underlying24 h
  rw [cChart] at hl
  match cs, hl with
  | [c0], _ =>
    match xs, hxl with
    | [x0], _ =>
      have z0 : Sz 22 x0.1 := Sz.field Try.underlying24 hz (j := 0) rfl rfl
      have g0 : DataW.trod enc Try.prog W 0 (fun _ => true) true n 22 [c0] = some x0 := fld (hg 0 _ rfl) (t := 22) (o := 0) rfl rfl cMachs
      obtain ⟨s, e, k⟩ := cv_of g0 z0
      exact ⟨s, by rw [e], k⟩
set_option maxRecDepth 100000 in
theorem conf_of {cs : List Value} (h : DataW.trod enc Try.prog W 0 (fun _ => true) true fuel 29 cs = some y) (hz : Sz 29 y.1) : ∃ g : GV, cs = [.slice g.st.A g.st.n g.st.c, .slice g.fr.A g.fr.n g.fr.c, .slice g.out.A g.out.n g.out.c] ∧ g.ok W ∧ g.out.n ≤ 8796093021952 := by
  obtain ⟨xs, n, -, rfl, hl, hxl, hg⟩ := DataW.trod_struct Try.underlying29 h
  rw [cConf] at hl
  match cs, hl with
  | [c0, c1, c2], _ =>
    match xs, hxl with
    | [x0, x1, x2], _ =>
      have z0 : Sz 25 x0.1 := Sz.field Try.underlying29 hz (j := 0) rfl rfl
      have z1 : Sz 26 x1.1 := Sz.field Try.underlying29 hz (j := 1) rfl rfl
      have z2 : Sz 27 x2.1 := Sz.field Try.underlying29 hz (j := 2) rfl rfl
      have g0 : DataW.trod enc Try.prog W 0 (fun _ => true) true n 25 [c0] = some x0 := fld (hg 0 _ rfl) (t := 25) (o := 0) rfl rfl cInts
      have g1 : DataW.trod enc Try.prog W 0 (fun _ => true) true n 26 [c1] = some x1 := fld (hg 1 _ rfl) (t := 26) (o := 1) rfl rfl cBools
      have g2 : DataW.trod enc Try.prog W 0 (fun _ => true) true n 27 [c2] = some x2 := fld (hg 2 _ rfl) (t := 27) (o := 2) rfl rfl cStrs
      obtain ⟨s0, e0, k0⟩ := nl_of g0 z0
      obtain ⟨s1, e1, k1⟩ := bl_of g1 z1
      obtain ⟨s2, e2, k2, k5⟩ := sl_of g2 z2
      exact ⟨⟨s0, s1, s2⟩, by rw [e0, e1, e2], ⟨k0, k1, k2⟩, k5⟩
end

end Go.Proofs.Ytgjmbmlmopomgaa.opens

/- Rows of texts that came in. -/
namespace Go.Proofs.Ytgjmbmlmopomgaa.opens
open Go.ChangeShapes Go.WideShapes Go.ChangeAt Go.RowKit
open Go.Deep
set_option linter.unusedSimpArgs false
set_option linter.unusedVariables false
section
variable {H : Type} {enc : TypeId × Value → H} {W : World} {fuel : Nat} {v : Value} {y : DataW H × List MemPlace}
theorem rl_of (h : DataW.trod enc Try.prog W 0 (fun _ => true) true fuel 54 [v] = some y) (hz : Sz 54 y.1) : ∃ s : RL, v = .slice s.A s.n s.c ∧ s.ok W := by
  rcases row_of Try.underlying54 cStrs (by decide) yStrs h hz with rfl | ⟨a, len, cap, n, D, Pl, rfl, hl, hb, hp, hi⟩
  · exact ⟨⟨none, 0, 0, []⟩, rfl, rfl, Nat.le_refl _, Nat.zero_le _, fun x hx => by simp at hx, .inl rfl⟩
  · obtain ⟨l, hll, hlp⟩ := collect (P := fun i (x : SL) => x.ok W ∧ W.cell? ⟨a.block, a.off + i, none⟩ = some (.slice x.A x.n x.c)) len fun i hil => by
      obtain ⟨cs, h1, h2, h3, h4⟩ := hi i hil
      match cs, h1 with
      | [c0], _ =>
        obtain ⟨s, rfl, hs, -⟩ := sl_of h3 h4
        have := h2 0 _ rfl
        rw [Nat.mul_one, Nat.add_zero] at this
        exact ⟨s, hs, this⟩
    refine ⟨⟨some a, len, cap, l⟩, rfl, hll, hl, by rw [rb] at hb; show len ≤ _; omega, fun x hx => ?_, ?_⟩
    · obtain ⟨j, hj, rfl⟩ := List.mem_iff_getElem.1 hx
      exact (hlp j _ (List.getElem?_eq_getElem hj)).1
    · rcases Nat.eq_zero_or_pos len with h0 | h0
      · exact .inl h0
      · exact .inr ⟨a.block, a.off, by rw [← (hp h0).1], (hp h0).2, fun j x hj => (hlp j x hj).2⟩
end

end Go.Proofs.Ytgjmbmlmopomgaa.opens
