/- A map of the call's own from pairs of words (match.bits) to numbers. -/
import Derived.Maps.Own
import Derived.Maps.OwnOps
import Derived.Maps.OwnSet
import Derived.WalkArith
import Derived.DeepKeys4
import Derived.Test.YtjbhnfejpgjghaaMa
import Derived.Test.YtjbhnfejpgjghaaMb
import Derived.Test.YtjbhnfejpgjghaaNp
namespace Go.Proofs.Ytjbhnfejpgjghaa
open Go.RowKit Go.Maps
set_option linter.unusedSimpArgs false
set_option linter.unusedVariables false

theorem laidK : laidOutB Try.prog = true := by kernel_rfl
theorem lawK : Keyed Try.prog 55 := Keyed.of_law (deep_law_laid laidK (m := 2) (by omega) (of_decide_eq_true (by kernel_rfl)) (by kernel_rfl) (by rw [Try.underlying55]))
theorem zeroK (w : World) : (zeroValue 3).run Try.prog w = .ok (.int .i64 0) w := by kernel_rfl

def kv (s i : Nat) : Value := .agg #[.int .u64 (s : Int), .int .u64 (i : Int)]
def kb (s i : Nat) : Lit := .string (keyBytes [.int .u64 (s : Int), .int .u64 (i : Int)])
theorem cellsK : Try.prog.cellsOf 55 = 2 := by kernel_rfl
theorem cellsU : Try.prog.cellsOf 53 = 1 := by kernel_rfl
theorem keyK {s i : Nat} (hs : s < 18446744073709551616) (hi : i < 18446744073709551616) : keyOf Try.prog 55 (kv s i) = some (kb s i) := by
  unfold kv kb
  simp [keyOf, Try.underlying55, Value.formed, cellsK, Value.cells]
  refine ⟨by kernel_rfl, [.int .u64 (s : Int), .int .u64 (i : Int)], ?_, rfl⟩
  have h1 : (Lit.int .u64 (s : Int)).wf = true := WalkArith.wf_u64 (by omega)
  have h2 : (Lit.int .u64 (i : Int)).wf = true := WalkArith.wf_u64 (by omega)
  have hr : List.range 2 = [0, 1] := rfl
  have hg : ∀ d, Try.prog.keyLits (d + 1 + 1) 55 [.int .u64 (s : Int), .int .u64 (i : Int)] = some [.int .u64 (s : Int), .int .u64 (i : Int)] := by
    intro d
    simp [Program.keyLits, Try.underlying55, Try.underlying53, cellsK, cellsU, h1, h2, hr, List.mapM_cons]
  exact hg 126
theorem kb_inj {s i t j : Nat} (hs : s < 18446744073709551616) (hi : i < 18446744073709551616) (ht : t < 18446744073709551616) (hj : j < 18446744073709551616) (e : kb s i = kb t j) : s = t ∧ i = j := by
  have h1 := keyK hs hi
  rw [e] at h1
  have h := lawK.inj h1 (keyK ht hj)
  unfold kv at h
  simp at h
  omega

/-- the kept numbers -/
def MM (w : World) (B k : Nat) (f : Nat → Nat → Option Int) : Prop :=
  ∃ D : DataW Unit, w.ownsMap Try.prog 55 (plainElem Try.prog 3) B k D ∧
    ∀ s i : Nat, s < 18446744073709551616 → i < 18446744073709551616 → Maps.has D (kb s i) = (f s i).isSome ∧ D.atKey (kb s i) (.lit (.int .i64 0)) = .lit (.int .i64 ((f s i).getD 0))

section
variable {w w' : World} {B k : Nat} {f : Nat → Nat → Option Int}
theorem MM.blk (h : MM w B k f) (e : w'.heap[B]? = w.heap[B]?) : MM w' B k f := by
  obtain ⟨D, ⟨es, c, h1, h2⟩, h3⟩ := h
  exact ⟨D, ⟨es, c, e.trans h1, h2⟩, h3⟩
theorem MM.lt (h : MM w B k f) : B < w.heap.size := by obtain ⟨D, h1, -⟩ := h; exact h1.lt
theorem MM.below {C : Nat} (h : MM w B k f) (hb : Below C w w') (hC : B < C) : MM w' B k f := h.blk (hb.block B hC)
theorem MM.call (h : MM w B k f) (hb : Below w.heap.size w w') : MM w' B k f := h.below hb h.lt
theorem MM.drew (h : MM w B k f) : MM w.drew B k f := h
theorem MM.more (h : MM w B k f) (o : Obj) : MM (w.alloc o) B k f := h.call ((Below.refl _ _).alloc (Nat.le_refl _) _)
theorem MM.new (w : World) : MM (w.alloc (.map #[] 0)) w.heap.size 0 (fun _ _ => none) := ⟨.map [], World.ownsMap_made _ _ _ _, fun _ _ _ _ => ⟨rfl, rfl⟩⟩

theorem MM.look (h : MM w B k f) {s i : Nat} (hs : s < 18446744073709551616) (hi : i < 18446744073709551616) :
    (Instr.lookup 51 (.map (some B)) (.agg #[.int .u64 (s : Int), .int .u64 (i : Int)]) true).run Try.prog w = .ok (.tuple #[.int .i64 ((f s i).getD 0), .bool (f s i).isSome]) w := by
  obtain ⟨D, h1, h2⟩ := h
  obtain ⟨v, ps, hrun, hv⟩ := h1.look_ok lawK Try.underlying51 (zeroK w) (plainElem_int Try.underlying3 (by decide)) (keyK hs hi)
  obtain ⟨a, rfl, hz, -⟩ := plainElem_int_inv Try.underlying3 hv
  obtain ⟨e1, e2⟩ := h2 s i hs hi
  rw [e2] at hz
  simp only [Prod.mk.injEq, DataW.lit.injEq, Lit.int.injEq, true_and, and_true] at hz
  unfold kv at hrun
  rw [hrun, e1, ← hz.1]
end

def upd2 (f : Nat → Nat → Option Int) (s i : Nat) (v : Int) : Nat → Nat → Option Int := fun t j => if t = s ∧ j = i then some v else f t j

theorem wpList_upM (w : World) {ops : Array Oper} {rest : List Oper} {o : Oper} {a : Act} {Q : Exit → Act → World → Prop}
    (hg : o.guard = none) (m x v : Operand) (hop : o.op = Op.mapUpdate 51 m x v) (B k : Nat) (f : Nat → Nat → Option Int) (hm : a.eval m = .map (some B)) (h : MM w B k f) (hk : k < maxLen)
    (s i : Nat) (j : Int) (hx : a.eval x = .agg #[.int .u64 (s : Int), .int .u64 (i : Int)]) (hv : a.eval v = .int .i64 j) (hs : s < 18446744073709551616) (hi : i < 18446744073709551616) (hj : In64 j)
    (hK : ∀ w', MM w' B (k + 1) (upd2 f s i j) → w.grownBy w' (some B) → wpList Try.prog ops Q rest (a.put o.dst undef) w') :
    wpList Try.prog ops Q (o :: rest) a w := by
  obtain ⟨D, h1, h2⟩ := h
  refine wpList_mapUpdate_own (H := Unit) w hg m x v _ hop _ _ lawK Try.underlying51 _ B k D hm h1 hk _ _ (kb s i) hx hv (keyK hs hi) _ [] (plainElem_int Try.underlying3 (WalkArith.wf_i64 (by unfold In64 at hj; omega))) ?_
  intro w' h3 h4
  refine hK w' ⟨_, h3, fun t y ht hy => ?_⟩ h4
  by_cases e : t = s ∧ y = i
  · obtain ⟨rfl, rfl⟩ := e
    rw [has_put_same h1.isMap (show WideAt.IsKeyLit (kb t y) from trivial), atKey_put_same h1.isMap (show WideAt.IsKeyLit (kb t y) from trivial)]
    simp [upd2]
  · have hne : kb t y ≠ kb s i := fun hh => e (kb_inj ht hy hs hi hh)
    rw [has_put_other hne, atKey_put_other hne, (h2 t y ht hy).1, (h2 t y ht hy).2]
    simp [upd2, e]

end Go.Proofs.Ytjbhnfejpgjghaa

/- The program's greatest weight: best, with what is kept in a map. -/
namespace Go.Proofs.Ytjbhnfejpgjghaa
open Go.RowKit Go.Maps
set_option linter.unusedSimpArgs false
set_option linter.unusedVariables false

structure BT where
  w0 : World
  A : Option Addr
  c : Nat
  ls : List (List Int)
  B : Nat
def BT.n (z : BT) : Nat := z.ls.length
def BT.Fine (z : BT) : Prop := L2 z.w0 z.A z.n z.c z.ls ∧ isT z.ls = true ∧ z.w0.heap.size ≤ z.B

def BK (z : BT) (k : Nat) (f : Nat → Nat → Option Int) (w : World) : Prop :=
  Below z.w0.heap.size z.w0 w ∧ MM w z.B k f ∧ ∀ s i v, i < z.n → s < 2 ^ z.n → f s i = some v → v = heavy z.ls (z.n - i) s

/-- how often is written at most -/
def ups : Nat → Nat
  | 0 => 0
  | m + 1 => 10 * ups m + 1
theorem ups_le : ∀ m, m ≤ 10 → ups m ≤ 1111111111 := by
  intro m hm
  have h : ∀ a b, a ≤ b → ups a ≤ ups b := by
    intro a b hab
    induction hab with
    | refl => exact Nat.le_refl _
    | step _ ih => exact Nat.le_trans ih (by show _ ≤ 10 * ups _ + 1; omega)
  exact Nat.le_trans (h m 10 hm) (by decide)

theorem blkP2 {w : World} {g : Nat} {t : TypeId} {a b : Value} (h : Blk w g t #[a, b]) : w.cell? ⟨g, 0, none⟩ = some a ∧ w.cell? ⟨g, 1, none⟩ = some b ∧ True := ⟨h.cell 0, h.cell 1, trivial⟩

def PB (z : BT) (k0 m : Nat) (w : World) (r : Int) (e : Ending) (w' : World) : Prop := e = .returned (.int .i64 r) ∧ Fr [z.B] w w' ∧ ∃ k f, k ≤ k0 + ups m ∧ BK z k f w'

theorem BK.call {z : BT} {k f} {w w' : World} (hz : z.Fine) (h : BK z k f w) (hb : Below w.heap.size w w') : BK z k f w' :=
  ⟨h.1.trans (hb.mono h.1.size), h.2.1.call hb, h.2.2⟩

def B1 (z : BT) (k0 m s s1 i : Nat) (l : List Int) (w : World) (gU gK : Nat) (v12 v38 : Value) (wr : World) : Prop :=
  ∃ (k : Nat) (out : Int) (kc : Nat) (f : Nat → Nat → Option Int), k ≤ z.n ∧ v38 = .int .i64 (k : Int) ∧ v12 = .int .i64 out ∧ -1 ≤ out ∧ out ≤ 3 * (m : Int) + 3 ∧ Hid (heavyL (heavy z.ls m) s 0 l (-1) = heavyL (heavy z.ls m) s k (l.drop k) out) ∧
    Hid (kc ≤ k0 + k * ups m) ∧ BK z kc f wr ∧ Fr [z.B] w wr ∧ Blk wr gU 55 #[.int .u64 (s : Int), .int .u64 (s1 : Int)] ∧ Blk wr gK 55 #[.int .u64 (s : Int), .int .u64 (i : Int)]

set_option maxRecDepth 100000 in
set_option maxHeartbeats 1000000 in
theorem m_best (z : BT) (hz : z.Fine) : ∀ (m i s s1 k0 : Nat) (f : Nat → Nat → Option Int) (w : World), i + m = z.n → s < 2 ^ z.n → k0 + ups m ≤ 1000000000000 → BK z k0 f w →
    Calls Try.prog 32 #[.slice z.A z.n z.c, .int .i64 (i : Int), .agg #[.int .u64 (s : Int), .int .u64 (s1 : Int)], .map (some z.B)] w (PB z k0 m w (heavy z.ls m s)) := by
  have hu := Try.underlying55
  intro m
  induction m with
  | zero =>
    intro i s s1 k0 f w hi hs hk0 hk
    have hin : i = z.n := by omega
    subst hin
    have hee : ((z.n : Int) == (z.n : Int)) = true := by simp
    have hk1 := BK.call hz hk (((Below.refl w.heap.size w).alloc (Nat.le_refl _) (.cells #[.int .u64 (s : Int), .int .u64 (s1 : Int)] 55)))
    have hf1 := (Fr.refl [z.B] w).alloc (.cells #[.int .u64 (s : Int), .int .u64 (s1 : Int)] 55)
    go_enter Try.func32, Try.ntmps32
    go_wp2_with fail
    go_ret
    exact ⟨rfl, hf1, k0, f, Nat.le_refl _, hk1⟩
  | succ m ih =>
    intro i s s1 k0 f w hi hs hk0 hk
    have ih' := Lib.hid ih
    clear ih
    obtain ⟨t1, t2, t3⟩ := isT_of hz.2.1
    have hn10 : z.n ≤ 10 := t2
    have hin : i < z.n := by omega
    have hne : ((i : Int) == (z.n : Int)) = false := by simp; omega
    have hs10 : s < 1024 := Nat.lt_of_lt_of_le hs (by have : 2 ^ z.n ≤ 2 ^ 10 := Nat.pow_le_pow_right (by omega) hn10; simpa using this)
    have hni : z.n - i = m + 1 := by omega
    have hb2 : Below w.heap.size w ((w.alloc (.cells #[.int .u64 (s : Int), .int .u64 (s1 : Int)] 55)).alloc (.cells #[.int .u64 (s : Int), .int .u64 (i : Int)] 55)) := ((Below.refl _ _).alloc (Nat.le_refl _) _).alloc (by simp) _
    have hO := Own.two w 55 55 #[.int .u64 (s : Int), .int .u64 (s1 : Int)] #[.int .u64 (s : Int), .int .u64 (i : Int)]
    have hk2 := BK.call hz hk hb2
    have hf2 : Fr [z.B] w _ := (Fr.refl [z.B] w).call hb2
    have hlk := hk2.2.1.look (s := s) (i := i) (by omega) (by omega)
    have hcv : IntKind.u64.wrap (i : Int) = (i : Int) := by rw [IntKind.wrap_u64]; omega
    cases hfs : f s i with
    | some v =>
      have hv := hk.2.2 s i v hin hs hfs
      rw [hni] at hv
      rw [hfs] at hlk
      rw [← hv]
      have hk2' := Lib.hid hk2
      have hf2' := Lib.hid hf2
      clear hk2 hf2 hO hk hfs hv
      go_enter Try.func32, Try.ntmps32
      go_wp2_with fail
      go_ret
      exact ⟨rfl, hf2'.out, k0, f, Nat.le_add_right _ _, hk2'.out⟩
    | none =>
      rw [hfs] at hlk
      obtain ⟨gA, oA, l, A', n', c', hA, hgA, hl, hcl0, hl1⟩ := hz.1.cell hin
      have hll := t3 l (List.mem_of_getElem? hl)
      have hn' : n' = z.n := hl1.1.symm.trans hll.1
      subst hn'
      have hlb := Lib.hid hll
      have hrow : z.ls.getD (z.ls.length - (m + 1)) [] = l := by
        have e : z.ls.length - (m + 1) = i := by have : z.ls.length = z.n := rfl; omega
        rw [e, List.getD_eq_getElem?_getD, hl]
        rfl
      have hhv : Hid (heavy z.ls (m + 1) s = heavyL (heavy z.ls m) s 0 l (-1)) := by show heavyL _ _ _ _ _ = _; rw [hrow]
      obtain ⟨w2, hw2⟩ : ∃ w2, w2 = (w.alloc (.cells #[.int .u64 (s : Int), .int .u64 (s1 : Int)] 55)).alloc (.cells #[.int .u64 (s : Int), .int .u64 (i : Int)] 55) := ⟨_, rfl⟩
      have hcl : ((w.alloc (.cells #[.int .u64 (s : Int), .int .u64 (s1 : Int)] 55)).alloc (.cells #[.int .u64 (s : Int), .int .u64 (i : Int)] 55)).cell? ⟨gA, oA + i, none⟩ = some (.slice A' z.n c') := by exact (hk2.1.cell (p := ⟨gA, oA + i, none⟩) hgA).trans hcl0
      have hl0' := Lib.hid (fun (wx : World) (hb : Below z.w0.heap.size z.w0 wx) => hl1.below hb (Nat.le_refl _))
      have hbd := Lib.hid (heavy_bd (ls := z.ls) (fun l hl x hx => (t3 l hl).2 x hx |>.2))
      have hbU : Blk w2 w.heap.size 55 #[.int .u64 (s : Int), .int .u64 (s1 : Int)] := by rw [hw2]; exact hO.b0
      have hbK : Blk w2 (w.heap.size + 1) 55 #[.int .u64 (s : Int), .int .u64 (i : Int)] := by rw [hw2]; exact hO.b1
      have hBlt : z.B < w.heap.size := hk.2.1.lt
      have hH : B1 z k0 m s s1 i l w w.heap.size (w.heap.size + 1) (.int .i64 (-1)) (.int .i64 0) w2 := ⟨0, -1, k0, f, by omega, rfl, rfl, by omega, by omega, rfl, by show k0 ≤ _; omega, by rw [hw2]; exact hk2, by rw [hw2]; exact hf2, hbU, hbK⟩
      have hA' := Lib.hid hA
      have hm10 : m ≤ 10 := by omega
      have ih2 := ih'.out
      rw [hA] at ih2 ⊢
      have ih3 := Lib.hid ih2
      have hib : (i : Int) < z.n := by omega
      have hul : ups (m + 1) = 10 * ups m + 1 := rfl
      have hul' := Lib.hid hul
      clear ih2 ih' hll hrow hl hk hl1 t3 hA hO hk2 hf2 hb2 hbU hbK hfs hcl0 hul
      go_enter Try.func32, Try.ntmps32
      go_upto_region 9 with fail
      rw [← hw2]
      clear hlk hw2
      obtain ⟨gU, hgU⟩ : ∃ gU, gU = w.heap.size := ⟨_, rfl⟩
      rw [← hgU] at hH hBlt ⊢
      have hgU' := Lib.hid hgU
      clear hgU
      go_loopw [12, 38] (fun v12 v38 wr => B1 z k0 m s s1 i l w gU (gU + 1) v12 v38 wr) (fun _ k _ => z.n - (intOf k).toNat)
      case atStart => exact hH
      case round =>
        clear hH hcl
        obtain ⟨k, out, kc, g, hk, rfl, rfl, ho1, ho2, hsc, hkc, hK, hF, hbU, hbK⟩ := hrel
        have cU0 : wr.cell? ⟨gU, 0, none⟩ = some (.int .u64 (s : Int)) := hbU.cell 0
        have cU1 : wr.cell? ⟨gU, 1, none⟩ = some (.int .u64 (s1 : Int)) := hbU.cell 1
        by_cases hkn : k < z.n
        · obtain ⟨gl, ol, x, hAl, hgl, hx, hx64, hcx⟩ := (hl0'.out _ hK.1).cell hkn
          have hd : l.drop k = x :: l.drop (k + 1) := by
            have h1 := (List.getElem?_eq_some_iff.1 hx).1
            rw [List.drop_eq_getElem_cons h1]
            congr 1
            exact (List.getElem?_eq_some_iff.1 hx).2
          rw [hd] at hsc
          have hx3 := hlb.out.2 x (List.mem_of_getElem? hx)
          subst hAl
          have hkc2 : Hid (kc ≤ k0 + (k + 1) * ups m) := Nat.le_trans hkc.out (Nat.add_le_add_left (Nat.mul_le_mul_right _ (Nat.le_succ k)) _)
          by_cases hx0 : x < 0
          · have hx0' : decide (x < 0) = true := by simpa using hx0
            have hsc2 : Hid (heavyL (heavy z.ls m) s 0 l (-1) = heavyL (heavy z.ls m) s (k + 1) (l.drop (k + 1)) out) := by
              show _ = _
              rw [hsc.out, heavyL, if_pos (by rw [hx0']; rfl)]
            go_wp2_with fail
            exact ⟨⟨k + 1, out, kc, g, by omega, by go_num, rfl, ho1, ho2, hsc2, hkc2, hK, hF, hbU, hbK⟩, by simp [intOf]; omega⟩
          · have hx0' : decide (x < 0) = false := by simpa using hx0
            have hk64 : k < 64 := by omega
            have hs64 : s < 18446744073709551616 := by omega
            have hBU : gU ∉ [z.B] := by simp; omega
            have hBK : gU + 1 ∉ [z.B] := by simp; omega
            cases hb : s.testBit k with
            | true =>
              have hsc2 : Hid (heavyL (heavy z.ls m) s 0 l (-1) = heavyL (heavy z.ls m) s (k + 1) (l.drop (k + 1)) out) := by
                show _ = _
                rw [hsc.out, heavyL, if_pos (by rw [hb]; simp)]
              go_wp2_with (first
                | (go_at_call 33; refine (m_has s s1 k _ hk64 hs64).mono ?_; rintro e w6 ⟨rfl, hb6⟩; rw [hb]))
              exact ⟨⟨k + 1, out, kc, g, by omega, by go_num, rfl, ho1, ho2, hsc2, hkc2, BK.call hz hK hb6, hF.call hb6, hbU.call hb6, hbK.call hb6⟩, by simp [intOf]; omega⟩
            | false =>
              have hsc2 : Hid (heavyL (heavy z.ls m) s 0 l (-1) = heavyL (heavy z.ls m) s (k + 1) (l.drop (k + 1)) (if 0 ≤ heavy z.ls m (s ||| 2 ^ k) then max out (heavy z.ls m (s ||| 2 ^ k) + x) else out)) := by
                show _ = _
                rw [hsc.out, heavyL, if_neg (by rw [hb, hx0']; simp)]
              have ht : s ||| 2 ^ k < 2 ^ z.n := Nat.or_lt_two_pow hs (Nat.pow_lt_pow_right (by omega) hkn)
              have hmw := m_with s s1 k
              obtain ⟨t, ht'⟩ : ∃ t, t = s ||| 2 ^ k := ⟨_, rfl⟩
              rw [← ht'] at ht hsc2 hmw
              have hmul : (k + 1) * ups m ≤ 10 * ups m := Nat.mul_le_mul_right _ (by omega)
              have hmul2 : (k + 1) * ups m = k * ups m + ups m := Nat.succ_mul _ _
              have hkb : kc + ups m ≤ 1000000000000 := by
                have h1 := hkc.out
                have h2 := hul'.out
                omega
              have ih4 := fun w' h => ih3.out (i + 1) t s1 kc g w' (by omega) ht hkb h
              simp only [show ((i + 1 : Nat) : Int) = (i : Int) + 1 from by omega] at ih4
              have hbt2 := hbd.out m t
              obtain ⟨rv, hrv⟩ : ∃ rv, rv = heavy z.ls m t := ⟨_, rfl⟩
              rw [← hrv] at hbt2 hsc2
              simp only [← hrv] at ih4
              have ih5 := Lib.hid ih4
              have hmw' := Lib.hid hmw
              have hmul3 := Lib.hid hmul2
              clear ih4 hmw ht' hrv hmul hmul2
              by_cases h0 : 0 ≤ rv
              · have h0' : decide (0 ≤ rv) = true := by simpa using h0
                have hsc3 := hsc2.out
                rw [if_pos h0, show max out (rv + x) = (if out < rv + x then rv + x else out) from by rw [Int.max_def]; split <;> split <;> omega] at hsc3
                have hsc4 := Lib.hid hsc3
                clear hsc3 hsc2
                go_wp2_with (first
                  | (go_at_call 33; refine (m_has s s1 k _ hk64 hs64).mono ?_; rintro e w6 ⟨rfl, hb6⟩; rw [hb]; have hbU6 := hbU.call hb6; obtain ⟨q0, q1, -⟩ := blkP2 hbU6)
                  | (go_at_call 34; refine (hmw'.out _ hk64 hs64).mono ?_; rintro e w7 ⟨rfl, hb7⟩; have hI := Lib.hid (ih5.out w7 (BK.call hz (BK.call hz hK hb6) hb7)))
                  | (go_at_call 32; (with_reducible refine hI.out.mono ?_); rintro e w8 ⟨rfl, hF8, kc2, g2, hkc8, hK8⟩))
                exact ⟨⟨k + 1, _, kc2, g2, by omega, by go_num, rfl, by split <;> omega, by split <;> omega, hsc4, (by have h1 := hkc.out; have h2 := hmul3.out; show kc2 ≤ _; omega), hK8, ((hF.call hb6).call hb7).trans hF8, hF8.blk (hbU6.call hb7) hBU, hF8.blk ((hbK.call hb6).call hb7) hBK⟩, by simp [intOf]; omega⟩
              · have h0' : decide (0 ≤ rv) = false := by simpa using h0
                have hsc3 := hsc2.out
                rw [if_neg h0] at hsc3
                have hsc4 := Lib.hid hsc3
                clear hsc3 hsc2
                go_wp2_with (first
                  | (go_at_call 33; refine (m_has s s1 k _ hk64 hs64).mono ?_; rintro e w6 ⟨rfl, hb6⟩; rw [hb]; have hbU6 := hbU.call hb6; obtain ⟨q0, q1, -⟩ := blkP2 hbU6)
                  | (go_at_call 34; refine (hmw'.out _ hk64 hs64).mono ?_; rintro e w7 ⟨rfl, hb7⟩; have hI := Lib.hid (ih5.out w7 (BK.call hz (BK.call hz hK hb6) hb7)))
                  | (go_at_call 32; (with_reducible refine hI.out.mono ?_); rintro e w8 ⟨rfl, hF8, kc2, g2, hkc8, hK8⟩))
                exact ⟨⟨k + 1, out, kc2, g2, by omega, by go_num, rfl, ho1, ho2, hsc4, (by have h1 := hkc.out; have h2 := hmul3.out; show kc2 ≤ _; omega), hK8, ((hF.call hb6).call hb7).trans hF8, hF8.blk (hbU6.call hb7) hBU, hF8.blk ((hbK.call hb6).call hb7) hBK⟩, by simp [intOf]; omega⟩
        · have hkn' : k = z.n := by omega
          have hdn : l.drop k = [] := List.drop_eq_nil_of_le (by have := hlb.out.1; have : z.ls.length = z.n := rfl; omega)
          rw [hdn] at hsc
          have hfin : Hid (heavy z.ls (m + 1) s = out) := by
            show _ = _
            rw [hhv.out, hsc.out, heavyL]
          have hmul : k * ups m ≤ 10 * ups m := Nat.mul_le_mul_right _ (by omega)
          have hkl : kc < maxLen := by
            have h1 := hkc.out
            have h2 := hul'.out
            unfold maxLen
            omega
          have hkc3 : Hid (kc + 1 ≤ k0 + ups (m + 1)) := by
            show _ ≤ _
            have h1 := hkc.out
            have h2 := hul'.out
            omega
          have cK0 : wr.cell? ⟨gU + 1, 0, none⟩ = some (.int .u64 (s : Int)) := hbK.cell 0
          have cK1 : wr.cell? ⟨gU + 1, 1, none⟩ = some (.int .u64 (i : Int)) := hbK.cell 1
          have ho64 : In64 out := by unfold In64; omega
          clear hmul
          go_wp2_with (at_mapUpdate; refine wpList_upM _ rfl _ _ _ rfl z.B kc g rfl hK.2.1 hkl s i out rfl rfl (by omega) (by omega) ho64 ?_; intro w3 hM hg3)
          go_ret
          refine ⟨by rw [hfin.out]; rfl, hF.trans ⟨hg3.os, hg3.tape, hg3.output, hg3.size, fun j hj hx => hg3.block j hj (fun e => by injection e with e; exact hx (by simp [e]))⟩, kc + 1, _, hkc3.out, hK.1.grown hg3 hK.1.size (fun b hb => by injection hb with hb; have := hz.2.2; omega), hM, ?_⟩
          intro t j v hj ht hv
          unfold upd2 at hv
          split at hv
          · rename_i he
            obtain ⟨rfl, rfl⟩ := he
            injection hv with hv
            rw [← hv, hni, hfin.out]
          · exact hK.2.2 t j v hj ht hv

end Go.Proofs.Ytjbhnfejpgjghaa
