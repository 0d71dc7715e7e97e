/- The program's enter, a closure that calls itself. -/
import Derived.Test.YtgjmbmlmopomgaaDb
namespace Go.Proofs.Ytgjmbmlmopomgaa
open Go.RowKit Go.Maps Lib
set_option linter.unusedSimpArgs false
set_option linter.unusedVariables false

/-- where a reaction's variables lie -/
structure ZP where
  c : CV
  w0 : World
  gC : Nat
  gO : Nat
  gN : Nat
  gX : Nat
  gS : Nat
  gF : Nat
  gE : Nat
  capS : Nat
  capF : Nat
def ZP.caps (z : ZP) : Array Value := #[.pointer (some ⟨z.gC, 0, none⟩), .pointer (some ⟨z.gO, 0, none⟩), .pointer (some ⟨z.gN, 0, none⟩), .pointer (some ⟨z.gX, 0, none⟩)]
def ZP.xs (z : ZP) : List Nat := [z.gS, z.gF, z.gE]
structure ZP.Fine (z : ZP) : Prop where
  six : z.c.n ≤ 6
  low : Low z.c.l
  ok : z.c.ok z.w0
  b : z.w0.heap.size ≤ z.gS ∧ z.w0.heap.size ≤ z.gF ∧ z.w0.heap.size ≤ z.gE
  sf : z.gS ≠ z.gF
  se : z.gS ≠ z.gE
  fe : z.gF ≠ z.gE
  no : ∀ g ∈ [z.gC, z.gO, z.gN, z.gX], g ∉ z.xs
/-- a reaction under way -/
structure ZS (z : ZP) (x : RS) (vO : Value) (w : World) : Prop where
  lo : Below z.w0.heap.size z.w0 w
  bC : Blk w z.gC 24 #[.slice z.c.A z.c.n z.c.c]
  bO : Blk w z.gO 29 #[.slice (some ⟨z.gS, 0, none⟩) z.c.n z.capS, .slice (some ⟨z.gF, 0, none⟩) z.c.n z.capF, vO]
  bN : Blk w z.gN 26 #[.slice (some ⟨z.gE, 0, none⟩) z.c.n z.c.n]
  bX : Blk w z.gX 81 #[.func (.func 50) #[] z.caps]
  rS : RW w 3 z.gS z.c.n z.capS (iv x.S)
  rF : RW w 4 z.gF z.c.n z.capF (bv x.F)
  rE : RW w 4 z.gE z.c.n z.c.n (bv x.E)
section
variable {z : ZP} {x : RS} {vO : Value} {w w' : World}
theorem ZS.call (h : ZS z x vO w) (hb : Below w.heap.size w w') : ZS z x vO w' :=
  ⟨h.lo.trans (hb.mono h.lo.size), h.bC.call hb, h.bO.call hb, h.bN.call hb, h.bX.call hb, h.rS.call hb, h.rF.call hb, h.rE.call hb⟩
theorem ZS.more (h : ZS z x vO w) (o : Obj) : ZS z x vO (w.alloc o) := h.call ((Below.refl _ _).alloc (Nat.le_refl _) _)
theorem ZS.drew (h : ZS z x vO w) : ZS z x vO w.drew := h.call (Below.refl _ _).drew
theorem ZP.Fine.mem (hz : z.Fine) {g : Nat} (h : g ∈ z.xs) : z.w0.heap.size ≤ g := by
  unfold ZP.xs at h
  simp only [List.mem_cons, List.not_mem_nil, or_false] at h
  obtain ⟨h1, h2, h3⟩ := hz.b
  rcases h with rfl | rfl | rfl <;> assumption
theorem ZP.Fine.ne (hz : z.Fine) {g : Nat} (h : g ∈ [z.gC, z.gO, z.gN, z.gX]) : g ≠ z.gS ∧ g ≠ z.gF ∧ g ≠ z.gE := by
  have := hz.no g h
  unfold ZP.xs at this
  simp only [List.mem_cons, List.not_mem_nil, or_false, not_or] at this
  exact this
theorem ZS.setS (hz : z.Fine) (h : ZS z x vO w) (i : Nat) (v : Int) : ZS z ⟨upd x.S i v, x.F, x.E⟩ vO (w.setCell ⟨z.gS, i, none⟩ (.int .i64 v)) :=
  ⟨h.lo.setCell (p := ⟨z.gS, i, none⟩) hz.b.1 _, h.bC.far (hz.ne (g := z.gC) (by simp)).1 _, h.bO.far (hz.ne (g := z.gO) (by simp)).1 _, h.bN.far (hz.ne (g := z.gN) (by simp)).1 _, h.bX.far (hz.ne (g := z.gX) (by simp)).1 _, h.rS.setI i v, h.rF.other hz.sf.symm _ _, h.rE.other hz.se.symm _ _⟩
theorem ZS.setF (hz : z.Fine) (h : ZS z x vO w) (i : Nat) (v : Bool) : ZS z ⟨x.S, upd x.F i v, x.E⟩ vO (w.setCell ⟨z.gF, i, none⟩ (.bool v)) :=
  ⟨h.lo.setCell (p := ⟨z.gF, i, none⟩) hz.b.2.1 _, h.bC.far (hz.ne (g := z.gC) (by simp)).2.1 _, h.bO.far (hz.ne (g := z.gO) (by simp)).2.1 _, h.bN.far (hz.ne (g := z.gN) (by simp)).2.1 _, h.bX.far (hz.ne (g := z.gX) (by simp)).2.1 _, h.rS.other hz.sf _ _, h.rF.setB i v, h.rE.other hz.fe.symm _ _⟩
theorem ZS.setE (hz : z.Fine) (h : ZS z x vO w) (i : Nat) (v : Bool) : ZS z ⟨x.S, x.F, upd x.E i v⟩ vO (w.setCell ⟨z.gE, i, none⟩ (.bool v)) :=
  ⟨h.lo.setCell (p := ⟨z.gE, i, none⟩) hz.b.2.2 _, h.bC.far (hz.ne (g := z.gC) (by simp)).2.2 _, h.bO.far (hz.ne (g := z.gO) (by simp)).2.2 _, h.bN.far (hz.ne (g := z.gN) (by simp)).2.2 _, h.bX.far (hz.ne (g := z.gX) (by simp)).2.2 _, h.rS.other hz.se _ _, h.rF.other hz.fe _ _, h.rE.setB i v⟩
/-- chart and frame -/
theorem ZS.chart (hz : z.Fine) (h : ZS z x vO w) : z.c.ok w := hz.ok.below h.lo (Nat.le_refl _)
end
theorem upd_self {α : Type} (f : Nat → α) (i : Nat) : upd f i (f i) = f := by
  funext j; unfold upd; by_cases h : j = i <;> simp [h]
theorem enters_react2 (args : Array Value) (w : World) : (callFunc 50 args).run Try.prog w = .ok (.enter 50 args) w := enters_of Try.func50 (by kernel_rfl) rfl args w

theorem Below.fr {w w' : World} {xs : List Nat} (h : Below w.heap.size w w') : Fr xs w w' := (Fr.refl xs w).call h
theorem bodyPost_norm {P : Program} {fn : Func} {R : Ending → World → Prop} {a : Act} {w : World} {v : Value}
    (hr : (results fn a.tmps).run P w = .ok v w) (hd : a.defers = []) (hR : R (.returned v) w) : bodyPost P fn R .normal a w :=
  ⟨hd, v, hr, hR⟩
theorem field_runner (a b c d e f : Value) (w : World) : (Instr.field 85 (.agg #[a, b, c, d, e, f]) 0).run Try.prog w = .ok (.agg #[a, b, c, d, e]) w := by
  unfold Instr.field
  simp only [Sem.run_bind, run_underlying Try.underlying85, Result.andThen_ok]
  have a3 := Try.isAgg83
  have z3 := Try.sizeOf83
  simp [part, asAgg, a3, z3, go_sem]

/-- the loop over the machines -/
def ZL (z : ZP) (keep : Bool) (f m : Nat) (x : RS) (vO : Value) (w : World) (v : Value) (wr : World) : Prop :=
  ∃ i : Nat, i ≤ z.c.n ∧ v = .int .i64 i ∧ ZS z (kids z.c.l keep (ent z.c.l keep f) m (x.S m) i x) vO wr ∧ Fr z.xs w wr

set_option maxRecDepth 100000 in
set_option maxHeartbeats 4000000 in
theorem p_enter (z : ZP) (hz : z.Fine) (keep : Bool) (vO : Value) : ∀ f m x w, m < z.c.n → z.c.n ≤ m + f → ZS z x vO w →
    Calls Try.prog 50 #[.int .i64 (m : Int), .bool keep, .pointer (some ⟨z.gC, 0, none⟩), .pointer (some ⟨z.gO, 0, none⟩), .pointer (some ⟨z.gN, 0, none⟩), .pointer (some ⟨z.gX, 0, none⟩)] w fun e w' => e = .returned (.tuple #[]) ∧ ZS z (ent z.c.l keep f m x) vO w' ∧ Fr z.xs w w' := by
  intro f
  induction f with
  | zero => intro m x w h1 h2; omega
  | succ f ih =>
    intro m x w hm hf hs
    replace ih := fun k x' w' (hk : m < k) (hkn : k < z.c.n) => ih k x' w' hkn (by omega)
    have hent : Hid (ent z.c.l keep (f + 1) m x = kids z.c.l keep (ent z.c.l keep f) m (x.S m) z.c.n x) := by
      show _ = _
      rw [ent, hz.ok.1]
    have h6 := hz.six
    obtain ⟨A0, hA0⟩ : ∃ A0, A0 = z.c.A := ⟨_, rfl⟩
    have a0 := hs.bC.cell 0
    simp only [List.getElem?_toArray, List.getElem?_cons_zero] at a0
    rw [← hA0] at a0
    replace hA0 := Lib.hid hA0
    replace ih := Lib.hid ih
    replace hs := Lib.hid hs
    have hfld := field_runner
    have hcaps : Hid (∀ a b, (#[a, b] ++ z.caps : Array Value) = #[a, b, .pointer (some ⟨z.gC, 0, none⟩), .pointer (some ⟨z.gO, 0, none⟩), .pointer (some ⟨z.gN, 0, none⟩), .pointer (some ⟨z.gX, 0, none⟩)]) := fun a b => by simp [ZP.caps]
    have hcall : Hid (∀ (args : Array Value) (w : World), (callFunc 50 args).run Try.prog w = .ok (.enter 50 args) w) := enters_react2
    go_enter Try.func50, Try.ntmps50
    go_wp2_with fail
    clear a0
    go_loopw [13] (fun v13 wr => ZL z keep f m x vO w v13 wr) (fun i _ => z.c.n - (intOf i).toNat)
    case atStart => exact ⟨0, by omega, rfl, hs.out, Fr.refl _ _⟩
    case round =>
      clear hs
      obtain ⟨i, hi, rfl, hS, hfr⟩ := hrel
      by_cases hlt : i < z.c.n
      · obtain ⟨g, o, n, hA, hg, hn, hmo, c0, c1, c2, c3, c4⟩ := (hS.chart hz).cell hlt
        have hkl := kids_low (keep := keep) hz.low f m (x.S m) x i m (Nat.le_refl _)
        have hkid : Hid (kids z.c.l keep (ent z.c.l keep f) m (x.S m) (i + 1) x = kid z.c.l keep (ent z.c.l keep f) m (x.S m) i (kids z.c.l keep (ent z.c.l keep f) m (x.S m) i x)) := rfl
        obtain ⟨y, hy⟩ : ∃ y, y = kids z.c.l keep (ent z.c.l keep f) m (x.S m) i x := ⟨_, rfl⟩
        rw [← hy] at hS hkl hkid
        clear hy
        have hSm := hS.rS.cell hm
        rw [show iv y.S m = .int .i64 (x.S m) by unfold iv; rw [hkl.1]] at hSm
        obtain ⟨s, hs⟩ : ∃ s, x.S m = s := ⟨_, rfl⟩
        rw [hs] at hSm hkid
        clear hkl
        obtain ⟨om, os, ⟨tA, tn, tc, tl⟩, fst, ⟨mA, mn, mc, ml⟩⟩ := n
        simp only at hA c0 c1 c2 c3 c4 hn
        clear hmo
        obtain rfl : A0 = some ⟨g, o, none⟩ := hA0.out.trans hA
        replace hA := Lib.hid hA
        have hown := fun w' => m_owned om os fst ⟨tA, tn, tc, tl⟩ ⟨mA, mn, mc, ml⟩ m s w'
        simp only at hown
        have hlm := fun h => owned_low (m := m) (s := s) hz.low hn h
        obtain ⟨b, hb⟩ : ∃ b, owned ⟨om, os, ⟨tA, tn, tc, tl⟩, fst, ⟨mA, mn, mc, ml⟩⟩ m s = b := ⟨_, rfl⟩
        simp only [hb] at hown hlm
        have hk2 : Hid (kids z.c.l keep (ent z.c.l keep f) m s (i + 1) x = if b = true then ent z.c.l keep f i (y.put i (if keep = true then y.S i else fst)) else y) := by
          show _ = _
          rw [hkid.out]
          unfold kid
          simp only [hn, hb]
        clear hkid hb
        have hO4 := Lib.hid (Own.one wr 50 #[.int .i64 om, .int .i64 os, .slice tA tn tc, .int .i64 fst, .slice mA mn mc])
        have hS4 := Lib.hid (hS.more (.cells #[.int .i64 om, .int .i64 os, .slice tA tn tc, .int .i64 fst, .slice mA mn mc] 50))
        have b0 := hS4.out.bO.cell 0
        have hSm4 := (hO4.out.1.cell (p := ⟨z.gS, m, none⟩) hS.rS.lt).trans hSm
        simp only [List.getElem?_toArray, List.getElem?_cons_zero, List.getElem?_cons_succ] at b0
        have hn1 : z.c.n ≤ 17592186044416 := by omega
        replace hn := Lib.hid hn
        replace hown := Lib.hid hown
        replace hS := Lib.hid hS
        have hT : (fun w' : World => w'.cell? ⟨wr.heap.size, 0, none⟩ = some (.int .i64 om) ∧ w'.cell? ⟨wr.heap.size, 1, none⟩ = some (.int .i64 os) ∧ w'.cell? ⟨wr.heap.size, 2, none⟩ = some (.slice tA tn tc) ∧ w'.cell? ⟨wr.heap.size, 3, none⟩ = some (.int .i64 fst) ∧ w'.cell? ⟨wr.heap.size, 4, none⟩ = some (.slice mA mn mc) ∧ w'.cell? ⟨z.gO, 0, none⟩ = some (.slice (some ⟨z.gS, 0, none⟩) z.c.n z.capS) ∧ w'.cell? ⟨z.gS, m, none⟩ = some (.int .i64 s)) (wr.alloc (.cells #[.int .i64 om, .int .i64 os, .slice tA tn tc, .int .i64 fst, .slice mA mn mc] 50)).drew := ⟨hO4.out.b0.cell 0, hO4.out.b0.cell 1, hO4.out.b0.cell 2, hO4.out.b0.cell 3, hO4.out.b0.cell 4, b0, hSm4⟩
        have hTc : Hid (∀ w', (fun w' : World => w'.cell? ⟨wr.heap.size, 0, none⟩ = some (.int .i64 om) ∧ w'.cell? ⟨wr.heap.size, 1, none⟩ = some (.int .i64 os) ∧ w'.cell? ⟨wr.heap.size, 2, none⟩ = some (.slice tA tn tc) ∧ w'.cell? ⟨wr.heap.size, 3, none⟩ = some (.int .i64 fst) ∧ w'.cell? ⟨wr.heap.size, 4, none⟩ = some (.slice mA mn mc) ∧ w'.cell? ⟨z.gO, 0, none⟩ = some (.slice (some ⟨z.gS, 0, none⟩) z.c.n z.capS) ∧ w'.cell? ⟨z.gS, m, none⟩ = some (.int .i64 s)) (wr.alloc (.cells #[.int .i64 om, .int .i64 os, .slice tA tn tc, .int .i64 fst, .slice mA mn mc] 50)).drew → Below (wr.alloc (.cells #[.int .i64 om, .int .i64 os, .slice tA tn tc, .int .i64 fst, .slice mA mn mc] 50)).drew.heap.size (wr.alloc (.cells #[.int .i64 om, .int .i64 os, .slice tA tn tc, .int .i64 fst, .slice mA mn mc] 50)).drew w' → (fun w' : World => w'.cell? ⟨wr.heap.size, 0, none⟩ = some (.int .i64 om) ∧ w'.cell? ⟨wr.heap.size, 1, none⟩ = some (.int .i64 os) ∧ w'.cell? ⟨wr.heap.size, 2, none⟩ = some (.slice tA tn tc) ∧ w'.cell? ⟨wr.heap.size, 3, none⟩ = some (.int .i64 fst) ∧ w'.cell? ⟨wr.heap.size, 4, none⟩ = some (.slice mA mn mc) ∧ w'.cell? ⟨z.gO, 0, none⟩ = some (.slice (some ⟨z.gS, 0, none⟩) z.c.n z.capS) ∧ w'.cell? ⟨z.gS, m, none⟩ = some (.int .i64 s)) w') := fun w' _ hb => ⟨(hO4.out.drew.call hb).b0.cell 0, (hO4.out.drew.call hb).b0.cell 1, (hO4.out.drew.call hb).b0.cell 2, (hO4.out.drew.call hb).b0.cell 3, (hO4.out.drew.call hb).b0.cell 4, (hS4.out.drew.call hb).bO.cell 0, (hb.cell (p := ⟨z.gS, m, none⟩) hS4.out.rS.lt).trans hSm4⟩
        simp only at hT
        go_upto_region 3 with fail
        cases b with
        | false =>
          go_region_held3 (fun w' : World => w'.cell? ⟨wr.heap.size, 0, none⟩ = some (.int .i64 om) ∧ w'.cell? ⟨wr.heap.size, 1, none⟩ = some (.int .i64 os) ∧ w'.cell? ⟨wr.heap.size, 2, none⟩ = some (.slice tA tn tc) ∧ w'.cell? ⟨wr.heap.size, 3, none⟩ = some (.int .i64 fst) ∧ w'.cell? ⟨wr.heap.size, 4, none⟩ = some (.slice mA mn mc) ∧ w'.cell? ⟨z.gO, 0, none⟩ = some (.slice (some ⟨z.gS, 0, none⟩) z.c.n z.capS) ∧ w'.cell? ⟨z.gS, m, none⟩ = some (.int .i64 s)) (first | (with_reducible exact hT)) (first | (go_at_call 51; refine (hown.out _).mono ?_; rintro e w5 ⟨rfl, hb5⟩; have hT := hTc.out _ hT hb5; have hO5 := Lib.hid (hO4.out.drew.call hb5); have hS5 := Lib.hid (hS4.out.drew.call hb5); replace hb5 := Lib.hid hb5))
          all_goals go_wp2_with fail
          all_goals go_roundw
          case rel => exact ⟨i + 1, hlt, by go_num, by rw [hs, hk2.out, if_neg (by simp)]; exact hS5.out, (hfr.call hO4.out.1.drew).call hb5.out⟩
          case measure => simp [intOf]; omega
        | true =>
          rw [if_pos rfl] at hk2
          have hmi := hlm rfl
          go_region_held3 (fun w' : World => w'.cell? ⟨wr.heap.size, 0, none⟩ = some (.int .i64 om) ∧ w'.cell? ⟨wr.heap.size, 1, none⟩ = some (.int .i64 os) ∧ w'.cell? ⟨wr.heap.size, 2, none⟩ = some (.slice tA tn tc) ∧ w'.cell? ⟨wr.heap.size, 3, none⟩ = some (.int .i64 fst) ∧ w'.cell? ⟨wr.heap.size, 4, none⟩ = some (.slice mA mn mc) ∧ w'.cell? ⟨z.gO, 0, none⟩ = some (.slice (some ⟨z.gS, 0, none⟩) z.c.n z.capS) ∧ w'.cell? ⟨z.gS, m, none⟩ = some (.int .i64 s)) (first | (with_reducible exact hT)) (first | (go_at_call 51; refine (hown.out _).mono ?_; rintro e w5 ⟨rfl, hb5⟩; have hT := hTc.out _ hT hb5; have hO5 := Lib.hid (hO4.out.drew.call hb5); have hS5 := Lib.hid (hS4.out.drew.call hb5); replace hb5 := Lib.hid hb5))
          have m3 := hO5.out.b0.cell 3
          have p0 := hS5.out.bO.cell 0
          have p1 := hS5.out.bO.cell 1
          have q0 := hS5.out.bN.cell 0
          have x0 := hS5.out.bX.cell 0
          have sc := hS5.out.rS.cell hlt
          have sf := hS5.out.rS.frozen i
          simp only [List.getElem?_toArray, List.getElem?_cons_zero, List.getElem?_cons_succ] at m3 p0 p1 q0 x0
          have hent2 := hcall.out
          cases keep with
          | false =>
            rw [if_neg (by simp)] at hk2
            have hS6 := Lib.hid (hS5.out.setS hz i fst)
            have p1b := hS6.out.bO.cell 1
            have q0b := hS6.out.bN.cell 0
            have x0b := hS6.out.bX.cell 0
            have fc := hS6.out.rF.cell hlt
            have ff := hS6.out.rF.frozen i
            have ec := hS6.out.rE.cell hlt
            have ef := hS6.out.rE.frozen i
            simp only [List.getElem?_toArray, List.getElem?_cons_zero, List.getElem?_cons_succ] at p1b q0b x0b
            have hS7 := Lib.hid (hS6.out.setF hz i true)
            have ec7 := hS7.out.rE.cell hlt
            have ef7 := hS7.out.rE.frozen i
            have hS8 := Lib.hid (hS7.out.setE hz i true)
            have hS8d := Lib.hid hS8.out.drew
            have hf8 := Lib.hid (((((hfr.call hO4.out.1.drew).call hb5.out).set (p := ⟨z.gS, i, none⟩) (by simp [ZP.xs]) (.int .i64 fst)).set (p := ⟨z.gF, i, none⟩) (by simp [ZP.xs]) (.bool true)).set (p := ⟨z.gE, i, none⟩) (by simp [ZP.xs]) (.bool true))
            have hf8d := Lib.hid hf8.out.drew
            clear hT hTc
            go_wp2_with fail
            go_region
            all_goals go_wp2_with (go_at_call 50; rw [hcaps.out]; first
              | (refine (ih.out i _ _ hmi hlt (by with_reducible exact hS8.out)).mono ?_; rintro e w9 ⟨rfl, hS9, hf9⟩; have hf10 := Lib.hid (hf8.out.trans hf9))
              | (refine (ih.out i _ _ hmi hlt (by with_reducible exact hS8d.out)).mono ?_; rintro e w9 ⟨rfl, hS9, hf9⟩; have hf10 := Lib.hid (hf8d.out.trans hf9)))
            all_goals replace hS9 := Lib.hid hS9
            all_goals go_roundw
            case rel => exact ⟨i + 1, hlt, by go_num, by rw [hs, hk2.out]; exact hS9.out, hf10.out⟩
            case measure => simp [intOf]; omega
          | true =>
            rw [if_pos rfl] at hk2
            have hS6 := Lib.hid hS5.out
            have p1b := hS6.out.bO.cell 1
            have q0b := hS6.out.bN.cell 0
            have x0b := hS6.out.bX.cell 0
            have fc := hS6.out.rF.cell hlt
            have ff := hS6.out.rF.frozen i
            have ec := hS6.out.rE.cell hlt
            have ef := hS6.out.rE.frozen i
            simp only [List.getElem?_toArray, List.getElem?_cons_zero, List.getElem?_cons_succ] at p1b q0b x0b
            have hS7 := Lib.hid (hS6.out.setF hz i true)
            have ec7 := hS7.out.rE.cell hlt
            have ef7 := hS7.out.rE.frozen i
            have hS8 := Lib.hid (hS7.out.setE hz i true)
            have hS8d := Lib.hid hS8.out.drew
            have hf8 := Lib.hid ((((hfr.call hO4.out.1.drew).call hb5.out).set (p := ⟨z.gF, i, none⟩) (by simp [ZP.xs]) (.bool true)).set (p := ⟨z.gE, i, none⟩) (by simp [ZP.xs]) (.bool true))
            have hf8d := Lib.hid hf8.out.drew
            have hpk : Hid (y.put i (y.S i) = ⟨y.S, upd y.F i true, upd y.E i true⟩) := by
              show _ = _
              unfold RS.put
              rw [upd_self]
            rw [hpk.out] at hk2
            clear hT hTc
            go_wp2_with fail
            go_region
            all_goals go_wp2_with (go_at_call 50; rw [hcaps.out]; first
              | (refine (ih.out i _ _ hmi hlt (by with_reducible exact hS8.out)).mono ?_; rintro e w9 ⟨rfl, hS9, hf9⟩; have hf10 := Lib.hid (hf8.out.trans hf9))
              | (refine (ih.out i _ _ hmi hlt (by with_reducible exact hS8d.out)).mono ?_; rintro e w9 ⟨rfl, hS9, hf9⟩; have hf10 := Lib.hid (hf8d.out.trans hf9)))
            all_goals replace hS9 := Lib.hid hS9
            all_goals go_roundw
            case rel => exact ⟨i + 1, hlt, by go_num, by rw [hs, hk2.out]; exact hS9.out, hf10.out⟩
            case measure => simp [intOf]; omega
      · obtain rfl : i = z.c.n := by omega
        replace hS := Lib.hid hS
        go_wp2_with fail
        have hfin : Hid (Ending.returned (.tuple #[]) = Ending.returned (.tuple #[]) ∧ ZS z (ent z.c.l keep (f + 1) m x) vO wr ∧ Fr z.xs w wr) := ⟨rfl, by rw [hent.out]; exact hS.out, hfr⟩
        exact bodyPost_norm (v := .tuple #[]) (by simp [results, Try.results50, go_sem]) rfl hfin.out

end Go.Proofs.Ytgjmbmlmopomgaa
