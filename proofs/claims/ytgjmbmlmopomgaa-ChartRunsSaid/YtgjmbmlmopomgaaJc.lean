/- The reference's Put. -/
import Derived.Test.YtgjmbmlmopomgaaJb
import Derived.Test.YtgjmbmlmopomgaaHb
import Derived.Test.YtgjmbmlmopomgaaZr1
import Derived.ArgAppend
namespace Go.Proofs.Ytgjmbmlmopomgaa
open Go.RowKit Go.Maps Lib
set_option linter.unusedSimpArgs false
set_option linter.unusedVariables false

theorem own_of_row {w : World} {B sz n : Nat} {e : TypeId} {v : Value} {xs : List Value} (h : w.ownsRow B e sz v n xs) (hn : 0 < n) : ∃ g c, v = .slice (some ⟨g, 0, none⟩) n c ∧ B ≤ g ∧ g < w.heap.size ∧ ∀ j u, xs[j]? = some u → w.cell? ⟨g, j, none⟩ = some u := by
  obtain ⟨g, cap, e1, h1, h2⟩ := h.form hn
  subst e1
  exact ⟨g, cap, rfl, (OR.at h rfl).1, h2, fun j u hj => by
    have := h.cells (g := g) rfl j u hj
    rw [addr_add, Nat.zero_add] at this
    exact this⟩
/-- a head of an argument, at its full capacity, and an own row behind it -/
theorem run_app_cap {w : World} {l : SL} (hl : l.ok w) {p : Nat} (hp : p ≤ l.n) {B m : Nat} {v : Value} {xs : List ByteArray} (hv : w.ownsRow B 9 1 v m (vS xs)) (hm : 0 < m) (hmn : p + m ≤ 1000000) (hxs : ∀ x ∈ xs, x.size ≤ maxLen) (ty : TypeId) :
    ∃ A' c' w', (Builtin.append_ #[27, 27] ty #[.slice l.A p p, v]).run Try.prog w = .ok (.slice A' (p + m) c') w' ∧ w'.ownsRow w.heap.size 9 1 (.slice A' (p + m) c') (p + m) (vS (l.l.take p ++ xs)) ∧ w.grownBy w' none := by
  obtain ⟨i0, hi0, hz0, hz1, hz2⟩ := infoS_parts
  obtain ⟨g, c, rfl, hBg, hg, hcell⟩ := own_of_row hv hm
  have hxl : xs.length = m := by have := hv.1; rw [vS_len] at this; omega
  obtain ⟨A, n, cc, ll⟩ := l
  obtain ⟨h1, h2, h3, h4, h5⟩ := hl
  simp only at hp h1 h2 h3 h4 h5 ⊢
  cases A with
  | none =>
    obtain rfl : n = 0 := by
      rcases h5 with h5 | ⟨g, o, e, _⟩
      · exact h5
      · cases e
    obtain rfl : p = 0 := by omega
    have hok : SL.ok w ⟨some ⟨g, 0, none⟩, m, c, xs⟩ := by
      refine ⟨hxl, ?_, (by show m ≤ _; omega), fun x hx => ?_, .inr ⟨g, 0, rfl, hg, fun j x hj => ?_⟩⟩
      · rcases hv.2 with ⟨e, _⟩ | ⟨g', cap, cur, e, _, _, h, _⟩
        · cases e
        · cases e; exact h
      · exact hxs x hx
      · rw [Nat.zero_add]
        exact hcell j _ (by unfold vS; rw [List.getElem?_map, hj]; rfl)
    obtain ⟨A', c', w', hr, h6, h7⟩ := run_app_S (World.ownsRow_nil w w.heap.size 9 1) (l := []) rfl ⟨some ⟨g, 0, none⟩, m, c, xs⟩ hok (by show (0 + m) * 16 ≤ _; omega) (Nat.le_refl _) ty
    exact ⟨A', c', w', hr, by rw [List.take_zero]; exact h6, h7⟩
  | some b =>
    have hb : ∀ j u, (vS (ll.take p))[j]? = some u → w.cell? (b.add j) = some u := by
      intro j u hj
      unfold vS at hj
      rw [List.getElem?_map] at hj
      cases e : (ll.take p)[j]? with
      | none => rw [e] at hj; cases hj
      | some x =>
        rw [e] at hj; cases hj
        have hjp : j < p := by
          have := (List.getElem?_eq_some_iff.1 e).1
          rw [List.length_take] at this; omega
        rcases h5 with h5 | ⟨g, o, e2, _, hc⟩
        · omega
        · cases e2
          rw [addr_add]
          exact hc j x (by rw [List.getElem?_take_of_lt hjp] at e; exact e)
    obtain ⟨v', w', hr, h6, h7⟩ := run_append_arg_grows (P := Try.prog) (w := w) 27 ty 9 i0 (.string ⟨#[]⟩) 1 16 Try.underlying27 hi0 hz0 hz1 hz2 rfl (by decide) b p p (vS (ll.take p)) (by rw [vS_len, List.length_take]; omega) hb ⟨g, 0, none⟩ m c (vS xs) (by rw [vS_len]; omega) (fun j u hj => by rw [addr_add, Nat.zero_add]; exact hcell j u hj) (by omega) (by unfold maxLen; omega) (by omega)
    have hap : vS (ll.take p) ++ vS xs = vS (ll.take p ++ xs) := by unfold vS; rw [List.map_append]
    rw [hap] at h6
    obtain ⟨A', c', rfl⟩ := OR.form h6
    exact ⟨A', c', w', hr, h6, h7⟩

theorem step_app {w w' : World} {ops : Array Oper} {o : Oper} {a : Act} {K : Act → World → Prop} {Q : Exit → Act → World → Prop} {F : Prop} (hgd : o.guard = none) (s x : Operand) (t : TypeId) (ho : o.op = .call { callee := .builtin .append, args := #[s, x], argTypes := #[t, t] })
    {v1 v2 v' : Value} (hs : a.eval s = v1) (hx : a.eval x = v2) (hr : (Builtin.append_ #[t, t] o.type #[v1, v2]).run Try.prog w = .ok v' w')
    (hK : K (a.put o.dst v') w') :
    if Region.wanted o (yielded ops a.tmps) = true then Oper.wp Try.prog o a w K Q else F := by
  have hw : Region.wanted o (yielded ops a.tmps) = true := by simp [Region.wanted, hgd]
  rw [if_pos hw]
  unfold Oper.wp execOp
  simp only [ho, resolve, invoke, builtin, Sem.run_bind, Sem.run_pure, Result.andThen_ok, List.map_toArray, List.map_cons, List.map_nil, hs, hx, hr]
  exact hK

/-- what stands behind place p of an argument -/
theorem SL.ok.dropAt {w : World} {l : SL} (h : l.ok w) {p : Nat} (hp : p ≤ l.n) {g o : Nat} (hA : l.A = some ⟨g, o, Option.none⟩) : SL.ok w ⟨some ⟨g, o + p, Option.none⟩, l.n - p, l.c - p, l.l.drop p⟩ := by
  obtain ⟨A, n, c, ll⟩ := l
  obtain ⟨h1, h2, h3, h4, h5⟩ := h
  simp only at hp hA h1 h2 h3 h4 h5 ⊢
  refine ⟨by simp [h1], by show n - p ≤ c - p; omega, by show n - p ≤ _; omega, fun x hx => h4 x (List.mem_of_mem_drop hx), ?_⟩
  rcases h5 with h5 | ⟨g', o', e, hg, hc⟩
  · exact .inl (by show n - p = 0; omega)
  · rw [hA] at e
    cases e
    refine .inr ⟨g, o + p, rfl, hg, fun j x hj => ?_⟩
    rw [List.getElem?_drop] at hj
    rw [Nat.add_assoc]
    exact hc (p + j) x hj
theorem own_one (w : World) (x : ByteArray) : (w.alloc (.cells #[.string x] 9)).ownsRow w.heap.size 9 1 (.slice (some ⟨w.heap.size, 0, Option.none⟩) 1 1) 1 (vS [x]) :=
  ⟨rfl, .inr ⟨w.heap.size, 1, #[.string x], rfl, Nat.le_refl _, heap_alloc_new w _, Nat.le_refl _, by decide, rfl, rfl⟩⟩

set_option maxRecDepth 100000 in
set_option maxHeartbeats 4000000 in
theorem r_put (l : SL) (x : ByteArray) (w : World) (hl : l.ok w) (hx : x.size ≤ maxLen) (hn : l.n ≤ 1000) :
    Calls Try.prog 56 #[.slice l.A l.n l.c, .string x] w fun e w' => ∃ t : SL, e = .returned (.slice t.A t.n t.c) ∧ t.ok w' ∧ t.l = putS l.l x ∧ Below w.heap.size w w' ∧ ∀ B, B ≤ w.heap.size → w.ownsRow B 9 1 (.slice l.A l.n l.c) l.n (vS l.l) → w'.ownsRow B 9 1 (.slice t.A t.n t.c) t.n (vS t.l) := by
  have hpt := fun k => @putS_at l.l x k
  obtain ⟨A, n, cc, ll⟩ := l
  have hll := hl.1
  simp only at hll hn hpt ⊢
  have hn2 : n ≤ 17592186044416 := by omega
  have hncc : n ≤ cc := hl.2.1
  replace hl := Lib.hid hl
  replace hpt := Lib.hid hpt
  have hb := Below.refl w.heap.size w
  go_enter Try.func56, Try.ntmps56
  go_wp2_with fail
  go_loopw [5] (fun v5 wr => wr = w ∧ RA w n (fun j => ∀ y, ll[j]? = some y → tlt y x = true) v5 w) (fun i _ => n - (intOf i).toNat)
  case atStart => exact ⟨rfl, hb, 0, by omega, rfl, fun j hj => absurd hj (Nat.not_lt_zero _)⟩
  case round =>
    obtain ⟨rfl, hbr, i, hi, rfl, hP⟩ := hrel
    replace hP := Lib.hid hP
    by_cases hlt : i < n
    · obtain ⟨g, o, y, hA, hg, hy, hys, c0⟩ := hl.out.cell hlt
      simp only at hA hy
      subst hA
      have hy' := Lib.hid hy
      clear hy
      cases hpx : tlt y x with
      | true =>
        have hbl : Op.bytesLess y.toList x.toList = true := hpx
        go_wp2_with fail
        go_roundw
        case rel => exact ⟨trivial, RA.next hbr hlt (by go_num) hP.out (fun z hz => by rw [hy'.out] at hz; cases hz; exact hpx)⟩
        case measure => simp [intOf]; omega
      | false =>
        have hbl : Op.bytesLess y.toList x.toList = false := hpx
        have hput := hpt.out i (by omega) hP.out (fun z hz => by rw [hy'.out] at hz; cases hz; exact hpx)
        rw [hy'.out] at hput
        cases heq : (y.toList == x.toList) with
        | true =>
          have hfin : Hid (ll = putS ll x) := by
            show _ = _
            rw [hput, if_pos (by simpa using heq)]
          clear hput
          go_wp2_with fail
          go_ret
          exact ⟨⟨some ⟨g, o, Option.none⟩, n, cc, ll⟩, rfl, hl.out, hfin.out, hbr, fun B _ h => h⟩
        | false =>
          have hfin : Hid (ll.take i ++ x :: ll.drop i = putS ll x) := by
            show _ = _
            rw [hput, if_neg (by simpa using heq)]
          clear hput
          go_upto_region 6 with fail
          obtain ⟨w0, hw0⟩ : ∃ w0, w0 = wr := ⟨_, rfl⟩
          subst hw0
          refine wp_region_K (S := fun _ => True) (K := []) (by kernel_rfl) ?_
          refine AnyK.take (i := 0) (v := .slice (some ⟨g, o, none⟩) n cc) rfl (by kernel_rfl) (by kernel_rfl) (by kernel_rfl) (by kernel_rfl) (by kernel_rfl) (by kernel_rfl) (fun _ _ _ h => h) (Or.inl ⟨by rfl, ?_⟩) trivial ?_
          · rintro w' -
            (try go_simp)
            all_goals (try (intro hh; first | omega | (exfalso; omega)))
          (try simp only [Act.put, List.setIfInBounds_toArray, List.set_cons_zero, List.set_cons_succ])
          refine AnyK.take (i := 1) (v := .int .i64 (i : Int)) rfl (by kernel_rfl) (by kernel_rfl) (by kernel_rfl) (by kernel_rfl) (by kernel_rfl) (by kernel_rfl) (fun _ _ _ h => h) (Or.inl ⟨by rfl, ?_⟩) trivial ?_
          · rintro w' -
            (try go_simp)
            all_goals (try (intro hh; first | omega | (exfalso; omega)))
          (try simp only [Act.put, List.setIfInBounds_toArray, List.set_cons_zero, List.set_cons_succ])
          refine AnyK.take (i := 2) (v := .int .i64 (i : Int)) rfl (by kernel_rfl) (by kernel_rfl) (by kernel_rfl) (by kernel_rfl) (by kernel_rfl) (by kernel_rfl) (fun _ _ _ h => h) (Or.inl ⟨by rfl, ?_⟩) trivial ?_
          · rintro w' -
            (try go_simp)
            all_goals (try (intro hh; first | omega | (exfalso; omega)))
          (try simp only [Act.put, List.setIfInBounds_toArray, List.set_cons_zero, List.set_cons_succ])
          refine AnyK.take (i := 6) (v := .slice (some ⟨g, o, none⟩) n cc) rfl (by kernel_rfl) (by kernel_rfl) (by kernel_rfl) (by kernel_rfl) (by kernel_rfl) (by kernel_rfl) (fun _ _ _ h => h) (Or.inl ⟨by rfl, ?_⟩) trivial ?_
          · rintro w' -
            (try go_simp)
            all_goals (try (intro hh; first | omega | (exfalso; omega)))
          (try simp only [Act.put, List.setIfInBounds_toArray, List.set_cons_zero, List.set_cons_succ])
          refine AnyK.take (i := 7) (v := .int .i64 (i : Int)) rfl (by kernel_rfl) (by kernel_rfl) (by kernel_rfl) (by kernel_rfl) (by kernel_rfl) (by kernel_rfl) (fun _ _ _ h => h) (Or.inl ⟨by rfl, ?_⟩) trivial ?_
          · rintro w' -
            (try go_simp)
            all_goals (try (intro hh; first | omega | (exfalso; omega)))
          (try simp only [Act.put, List.setIfInBounds_toArray, List.set_cons_zero, List.set_cons_succ])
          refine AnyK.take (i := 3) (v := .slice (some ⟨g, o, none⟩) i i) rfl (by kernel_rfl) (by kernel_rfl) (by kernel_rfl) (by kernel_rfl) (by kernel_rfl) (by kernel_rfl) (fun _ _ _ h => h) (Or.inl ⟨by rfl, ?_⟩) trivial ?_
          · rintro w' -
            (try go_simp)
            all_goals (try (intro hh; first | omega | (exfalso; omega)))
          (try simp only [Act.put, List.setIfInBounds_toArray, List.set_cons_zero, List.set_cons_succ])
          refine AnyK.take (i := 8) (v := .slice (some ⟨g, o + i, none⟩) (n - i) (cc - i)) rfl (by kernel_rfl) (by kernel_rfl) (by kernel_rfl) (by kernel_rfl) (by kernel_rfl) (by kernel_rfl) (fun _ _ _ h => h) (Or.inl ⟨by rfl, ?_⟩) trivial ?_
          · rintro w' -
            (try go_simp)
            all_goals (try (intro hh; first | omega | (exfalso; omega)))
          (try simp only [Act.put, List.setIfInBounds_toArray, List.set_cons_zero, List.set_cons_succ])
          (try clear hDD)
          refine AnyK.take (i := 4) (v := .string x) rfl (by kernel_rfl) (by kernel_rfl) (by kernel_rfl) (by kernel_rfl) (by kernel_rfl) (by kernel_rfl) (fun _ _ _ h => h) (Or.inl ⟨by rfl, ?_⟩) trivial ?_
          · rintro w' -
            (try go_simp)
            all_goals (try (intro hh; first | omega | (exfalso; omega)))
          (try simp only [Act.put, List.setIfInBounds_toArray, List.set_cons_zero, List.set_cons_succ])
          refine AnyK.one (i := 5) (by kernel_rfl) rfl (fun K' hK => ?_)
          go_simp
          refine hK.out _ _ (fun _ => trivial) ?_
          clear hK
          (try simp only [Act.put, List.setIfInBounds_toArray, List.set_cons_zero, List.set_cons_succ])
          have hrow := OR.drew (own_one w0 x)
          obtain ⟨w1, hw1⟩ : ∃ w1, w1 = (w0.alloc (.cells #[.string x] 9)).drew := ⟨_, rfl⟩
          rw [← hw1] at hrow ⊢
          have hb1 : Below w0.heap.size w0 w1 := by rw [hw1]; exact ((Below.refl _ _).alloc (Nat.le_refl _) _).drew
          have hsz : w0.heap.size ≤ w1.heap.size := hb1.size
          obtain ⟨A2, c2, w2, hrun2, hrow2, hgr2⟩ := run_app_S hrow rfl ⟨(some ⟨g, o + i, none⟩), (n - i), cc - i, ll.drop i⟩ (SL.ok.below (SL.ok.dropAt hl.out (p := i) (Nat.le_of_lt hlt) rfl) hb1 (Nat.le_refl _)) (by show (1 + (n - i)) * 16 ≤ _; omega) hsz 27
          obtain ⟨m2, hm2⟩ : ∃ m2, m2 = 1 + (n - i) := ⟨_, rfl⟩
          simp only [← hm2] at hrun2 hrow2
          refine AnyK.one (i := 9) (by kernel_rfl) rfl (fun K' hK => ?_)
          refine step_app (by rfl) (.tmp 38) (.tmp 41) 27 (by rfl) (by kernel_rfl) (by kernel_rfl) hrun2 ?_
          refine hK.out _ _ (fun _ => trivial) ?_
          clear hK
          (try simp only [Act.put, List.setIfInBounds_toArray, List.set_cons_zero, List.set_cons_succ])
          have hb2 : Below w0.heap.size w0 w2 := hb1.grown hgr2 hsz (fun b hb => (OR.at hrow hb).1)
          obtain ⟨A3, c3, w3, hrun3, hrow3, hgr3⟩ := run_app_cap (SL.ok.below hl.out hb2 (Nat.le_refl _)) (p := i) (by show i ≤ n; omega) hrow2 (by omega) (by omega) (fun z hz => by
            rcases List.mem_cons.1 hz with hz | hz
            · rw [hz]; exact hx
            · exact hl.out.2.2.2.1 z (List.mem_of_mem_drop hz)) 27
          obtain ⟨m3, hm3⟩ : ∃ m3, m3 = i + m2 := ⟨_, rfl⟩
          simp only [← hm3] at hrun3 hrow3
          refine AnyK.one (i := 10) (by kernel_rfl) rfl (fun K' hK => ?_)
          refine step_app (by rfl) (.tmp 36) (.tmp 42) 27 (by rfl) (by kernel_rfl) (by kernel_rfl) hrun3 ?_
          refine hK.out _ _ (fun _ => trivial) ?_
          clear hK
          (try simp only [Act.put, List.setIfInBounds_toArray, List.set_cons_zero, List.set_cons_succ])
          refine AnyK.one (i := 11) (by kernel_rfl) rfl (fun K' hK => ?_)
          go_simp
          refine hK.out _ _ (fun _ => trivial) ?_
          clear hK
          (try simp only [Act.put, List.setIfInBounds_toArray, List.set_cons_zero, List.set_cons_succ])
          refine AnyK.done (by kernel_rfl) ?_ _
          have hb3 : Below w0.heap.size w0 w3 := hb2.grown hgr3 hb2.size (fun b hb => by cases hb)
          have hsz2 : w0.heap.size ≤ w2.heap.size := hb2.size
          have hok : SL.ok w3 ⟨A3, m3, c3, putS ll x⟩ := by
            rw [← hfin.out]
            refine SL.row hrow3 ?_ (fun z hz => ?_) (by omega)
            · simp only [List.length_append, List.length_take, List.length_cons, List.length_drop, List.length_singleton]; omega
            · rcases List.mem_append.1 hz with hz | hz
              · exact hl.out.2.2.2.1 z (List.mem_of_mem_take hz)
              · rcases List.mem_cons.1 hz with hz | hz
                · rw [hz]; exact hx
                · exact hl.out.2.2.2.1 z (List.mem_of_mem_drop hz)
          have hnw : w3.ownsRow w2.heap.size 9 1 (.slice A3 m3 c3) m3 (vS (putS ll x)) := by rw [← hfin.out]; exact hrow3
          replace hnw := Lib.hid hnw
          replace hok := Lib.hid hok
          clear hrow3 hrow2 hrow hrun2 hrun3 hgr2 hgr3 hw1
          go_wp2_with fail
          all_goals go_ret
          all_goals exact ⟨⟨A3, m3, c3, putS ll x⟩, (by simp; omega), hok.out, rfl, hb3, fun B hB _ => OR.mono hnw.out (Nat.le_trans hB hsz2)⟩
    · have hput := hpt.out i (by omega) hP.out (fun z hz => by rw [List.getElem?_eq_none (by omega)] at hz; cases hz)
      have hfin : Hid (ll.take i ++ x :: ll.drop i = putS ll x) := by
        show _ = _
        rw [hput, List.getElem?_eq_none (by omega), if_neg (by simp)]
      clear hput
      obtain rfl : i = n := by omega
      cases A with
      | none =>
       obtain rfl : i = 0 := by
         rcases hl.out.2.2.2.2 with h5 | ⟨g, o, e, _⟩
         · exact h5
         · cases e
       go_upto_region 6 with fail
       obtain ⟨w0, hw0⟩ : ∃ w0, w0 = wr := ⟨_, rfl⟩
       subst hw0
       refine wp_region_K (S := fun _ => True) (K := []) (by kernel_rfl) ?_
       refine AnyK.take (i := 0) (v := .slice none 0 cc) rfl (by kernel_rfl) (by kernel_rfl) (by kernel_rfl) (by kernel_rfl) (by kernel_rfl) (by kernel_rfl) (fun _ _ _ h => h) (Or.inl ⟨by rfl, ?_⟩) trivial ?_
       · rintro w' -
         (try go_simp)
         all_goals (try (intro hh; first | omega | (exfalso; omega)))
       (try simp only [Act.put, List.setIfInBounds_toArray, List.set_cons_zero, List.set_cons_succ])
       refine AnyK.take (i := 1) (v := .int .i64 (0 : Int)) rfl (by kernel_rfl) (by kernel_rfl) (by kernel_rfl) (by kernel_rfl) (by kernel_rfl) (by kernel_rfl) (fun _ _ _ h => h) (Or.inl ⟨by rfl, ?_⟩) trivial ?_
       · rintro w' -
         (try go_simp)
         all_goals (try (intro hh; first | omega | (exfalso; omega)))
       (try simp only [Act.put, List.setIfInBounds_toArray, List.set_cons_zero, List.set_cons_succ])
       refine AnyK.take (i := 2) (v := .int .i64 (0 : Int)) rfl (by kernel_rfl) (by kernel_rfl) (by kernel_rfl) (by kernel_rfl) (by kernel_rfl) (by kernel_rfl) (fun _ _ _ h => h) (Or.inl ⟨by rfl, ?_⟩) trivial ?_
       · rintro w' -
         (try go_simp)
         all_goals (try (intro hh; first | omega | (exfalso; omega)))
       (try simp only [Act.put, List.setIfInBounds_toArray, List.set_cons_zero, List.set_cons_succ])
       refine AnyK.take (i := 6) (v := .slice none 0 cc) rfl (by kernel_rfl) (by kernel_rfl) (by kernel_rfl) (by kernel_rfl) (by kernel_rfl) (by kernel_rfl) (fun _ _ _ h => h) (Or.inl ⟨by rfl, ?_⟩) trivial ?_
       · rintro w' -
         (try go_simp)
         all_goals (try (intro hh; first | omega | (exfalso; omega)))
       (try simp only [Act.put, List.setIfInBounds_toArray, List.set_cons_zero, List.set_cons_succ])
       refine AnyK.take (i := 7) (v := .int .i64 (0 : Int)) rfl (by kernel_rfl) (by kernel_rfl) (by kernel_rfl) (by kernel_rfl) (by kernel_rfl) (by kernel_rfl) (fun _ _ _ h => h) (Or.inl ⟨by rfl, ?_⟩) trivial ?_
       · rintro w' -
         (try go_simp)
         all_goals (try (intro hh; first | omega | (exfalso; omega)))
       (try simp only [Act.put, List.setIfInBounds_toArray, List.set_cons_zero, List.set_cons_succ])
       refine AnyK.take (i := 3) (v := .slice none 0 0) rfl (by kernel_rfl) (by kernel_rfl) (by kernel_rfl) (by kernel_rfl) (by kernel_rfl) (by kernel_rfl) (fun _ _ _ h => h) (Or.inl ⟨by rfl, ?_⟩) trivial ?_
       · rintro w' -
         (try go_simp)
         all_goals (try (intro hh; first | omega | (exfalso; omega)))
       (try simp only [Act.put, List.setIfInBounds_toArray, List.set_cons_zero, List.set_cons_succ])
       refine AnyK.take (i := 8) (v := .slice none 0 (cc - 0)) rfl (by kernel_rfl) (by kernel_rfl) (by kernel_rfl) (by kernel_rfl) (by kernel_rfl) (by kernel_rfl) (fun _ _ _ h => h) (Or.inl ⟨by rfl, ?_⟩) trivial ?_
       · rintro w' -
         (try go_simp)
         all_goals (try (intro hh; first | omega | (exfalso; omega)))
       (try simp only [Act.put, List.setIfInBounds_toArray, List.set_cons_zero, List.set_cons_succ])
       (try clear hDD)
       refine AnyK.take (i := 4) (v := .string x) rfl (by kernel_rfl) (by kernel_rfl) (by kernel_rfl) (by kernel_rfl) (by kernel_rfl) (by kernel_rfl) (fun _ _ _ h => h) (Or.inl ⟨by rfl, ?_⟩) trivial ?_
       · rintro w' -
         (try go_simp)
         all_goals (try (intro hh; first | omega | (exfalso; omega)))
       (try simp only [Act.put, List.setIfInBounds_toArray, List.set_cons_zero, List.set_cons_succ])
       refine AnyK.one (i := 5) (by kernel_rfl) rfl (fun K' hK => ?_)
       go_simp
       refine hK.out _ _ (fun _ => trivial) ?_
       clear hK
       (try simp only [Act.put, List.setIfInBounds_toArray, List.set_cons_zero, List.set_cons_succ])
       have hrow := OR.drew (own_one w0 x)
       obtain ⟨w1, hw1⟩ : ∃ w1, w1 = (w0.alloc (.cells #[.string x] 9)).drew := ⟨_, rfl⟩
       rw [← hw1] at hrow ⊢
       have hb1 : Below w0.heap.size w0 w1 := by rw [hw1]; exact ((Below.refl _ _).alloc (Nat.le_refl _) _).drew
       have hsz : w0.heap.size ≤ w1.heap.size := hb1.size
       obtain ⟨A2, c2, w2, hrun2, hrow2, hgr2⟩ := run_app_S hrow rfl ⟨none, 0, cc - 0, ll.drop 0⟩ (SL.ok.below (⟨by rw [List.drop_of_length_le (by omega)]; rfl, Nat.zero_le _, Nat.zero_le _, (fun z hz => by rw [List.drop_of_length_le (by omega)] at hz; cases hz), .inl rfl⟩) hb1 (Nat.le_refl _)) (by show (1 + 0) * 16 ≤ _; omega) hsz 27
       obtain ⟨m2, hm2⟩ : ∃ m2, m2 = 1 + 0 := ⟨_, rfl⟩
       simp only [← hm2] at hrun2 hrow2
       refine AnyK.one (i := 9) (by kernel_rfl) rfl (fun K' hK => ?_)
       refine step_app (by rfl) (.tmp 38) (.tmp 41) 27 (by rfl) (by kernel_rfl) (by kernel_rfl) hrun2 ?_
       refine hK.out _ _ (fun _ => trivial) ?_
       clear hK
       (try simp only [Act.put, List.setIfInBounds_toArray, List.set_cons_zero, List.set_cons_succ])
       have hb2 : Below w0.heap.size w0 w2 := hb1.grown hgr2 hsz (fun b hb => (OR.at hrow hb).1)
       obtain ⟨A3, c3, w3, hrun3, hrow3, hgr3⟩ := run_app_cap (SL.ok.below hl.out hb2 (Nat.le_refl _)) (p := 0) (by show 0 ≤ 0; omega) hrow2 (by omega) (by omega) (fun z hz => by
         rcases List.mem_cons.1 hz with hz | hz
         · rw [hz]; exact hx
         · exact hl.out.2.2.2.1 z (List.mem_of_mem_drop hz)) 27
       obtain ⟨m3, hm3⟩ : ∃ m3, m3 = 0 + m2 := ⟨_, rfl⟩
       simp only [← hm3] at hrun3 hrow3
       refine AnyK.one (i := 10) (by kernel_rfl) rfl (fun K' hK => ?_)
       refine step_app (by rfl) (.tmp 36) (.tmp 42) 27 (by rfl) (by kernel_rfl) (by kernel_rfl) hrun3 ?_
       refine hK.out _ _ (fun _ => trivial) ?_
       clear hK
       (try simp only [Act.put, List.setIfInBounds_toArray, List.set_cons_zero, List.set_cons_succ])
       refine AnyK.one (i := 11) (by kernel_rfl) rfl (fun K' hK => ?_)
       go_simp
       refine hK.out _ _ (fun _ => trivial) ?_
       clear hK
       (try simp only [Act.put, List.setIfInBounds_toArray, List.set_cons_zero, List.set_cons_succ])
       refine AnyK.done (by kernel_rfl) ?_ _
       have hb3 : Below w0.heap.size w0 w3 := hb2.grown hgr3 hb2.size (fun b hb => by cases hb)
       have hsz2 : w0.heap.size ≤ w2.heap.size := hb2.size
       have hok : SL.ok w3 ⟨A3, m3, c3, putS ll x⟩ := by
         rw [← hfin.out]
         refine SL.row hrow3 ?_ (fun z hz => ?_) (by omega)
         · simp only [List.length_append, List.length_take, List.length_cons, List.length_drop, List.length_singleton]; omega
         · rcases List.mem_append.1 hz with hz | hz
           · exact hl.out.2.2.2.1 z (List.mem_of_mem_take hz)
           · rcases List.mem_cons.1 hz with hz | hz
             · rw [hz]; exact hx
             · exact hl.out.2.2.2.1 z (List.mem_of_mem_drop hz)
       have hnw : w3.ownsRow w2.heap.size 9 1 (.slice A3 m3 c3) m3 (vS (putS ll x)) := by rw [← hfin.out]; exact hrow3
       replace hnw := Lib.hid hnw
       replace hok := Lib.hid hok
       clear hrow3 hrow2 hrow hrun2 hrun3 hgr2 hgr3 hw1
       go_wp2_with fail
       all_goals go_ret
       all_goals exact ⟨⟨A3, m3, c3, putS ll x⟩, (by simp; omega), hok.out, rfl, hb3, fun B hB _ => OR.mono hnw.out (Nat.le_trans hB hsz2)⟩
      | some b =>
        obtain ⟨n, hnn⟩ : ∃ n, n = i := ⟨_, rfl⟩
        subst hnn
        obtain ⟨D, hDD⟩ : ∃ D, D = if cc = n then some b else some (b.add n) := ⟨_, rfl⟩
        go_upto_region 6 with fail
        obtain ⟨w0, hw0⟩ : ∃ w0, w0 = wr := ⟨_, rfl⟩
        subst hw0
        refine wp_region_K (S := fun _ => True) (K := []) (by kernel_rfl) ?_
        refine AnyK.take (i := 0) (v := .slice (some b) n cc) rfl (by kernel_rfl) (by kernel_rfl) (by kernel_rfl) (by kernel_rfl) (by kernel_rfl) (by kernel_rfl) (fun _ _ _ h => h) (Or.inl ⟨by rfl, ?_⟩) trivial ?_
        · rintro w' -
          (try go_simp)
          all_goals (try (intro hh; first | omega | (exfalso; omega)))
        (try simp only [Act.put, List.setIfInBounds_toArray, List.set_cons_zero, List.set_cons_succ])
        refine AnyK.take (i := 1) (v := .int .i64 (n : Int)) rfl (by kernel_rfl) (by kernel_rfl) (by kernel_rfl) (by kernel_rfl) (by kernel_rfl) (by kernel_rfl) (fun _ _ _ h => h) (Or.inl ⟨by rfl, ?_⟩) trivial ?_
        · rintro w' -
          (try go_simp)
          all_goals (try (intro hh; first | omega | (exfalso; omega)))
        (try simp only [Act.put, List.setIfInBounds_toArray, List.set_cons_zero, List.set_cons_succ])
        refine AnyK.take (i := 2) (v := .int .i64 (n : Int)) rfl (by kernel_rfl) (by kernel_rfl) (by kernel_rfl) (by kernel_rfl) (by kernel_rfl) (by kernel_rfl) (fun _ _ _ h => h) (Or.inl ⟨by rfl, ?_⟩) trivial ?_
        · rintro w' -
          (try go_simp)
          all_goals (try (intro hh; first | omega | (exfalso; omega)))
        (try simp only [Act.put, List.setIfInBounds_toArray, List.set_cons_zero, List.set_cons_succ])
        refine AnyK.take (i := 6) (v := .slice (some b) n cc) rfl (by kernel_rfl) (by kernel_rfl) (by kernel_rfl) (by kernel_rfl) (by kernel_rfl) (by kernel_rfl) (fun _ _ _ h => h) (Or.inl ⟨by rfl, ?_⟩) trivial ?_
        · rintro w' -
          (try go_simp)
          all_goals (try (intro hh; first | omega | (exfalso; omega)))
        (try simp only [Act.put, List.setIfInBounds_toArray, List.set_cons_zero, List.set_cons_succ])
        refine AnyK.take (i := 7) (v := .int .i64 (n : Int)) rfl (by kernel_rfl) (by kernel_rfl) (by kernel_rfl) (by kernel_rfl) (by kernel_rfl) (by kernel_rfl) (fun _ _ _ h => h) (Or.inl ⟨by rfl, ?_⟩) trivial ?_
        · rintro w' -
          (try go_simp)
          all_goals (try (intro hh; first | omega | (exfalso; omega)))
        (try simp only [Act.put, List.setIfInBounds_toArray, List.set_cons_zero, List.set_cons_succ])
        refine AnyK.take (i := 3) (v := .slice (some b) n n) rfl (by kernel_rfl) (by kernel_rfl) (by kernel_rfl) (by kernel_rfl) (by kernel_rfl) (by kernel_rfl) (fun _ _ _ h => h) (Or.inl ⟨by rfl, ?_⟩) trivial ?_
        · rintro w' -
          (try go_simp)
          all_goals (try (intro hh; first | omega | (exfalso; omega)))
          all_goals (skip)
        (try simp only [Act.put, List.setIfInBounds_toArray, List.set_cons_zero, List.set_cons_succ])
        refine AnyK.take (i := 8) (v := .slice D 0 (cc - n)) rfl (by kernel_rfl) (by kernel_rfl) (by kernel_rfl) (by kernel_rfl) (by kernel_rfl) (by kernel_rfl) (fun _ _ _ h => h) (Or.inl ⟨by rfl, ?_⟩) trivial ?_
        · rintro w' -
          (try go_simp)
          all_goals (try (intro hh; first | omega | (exfalso; omega)))
          all_goals (skip)
        (try simp only [Act.put, List.setIfInBounds_toArray, List.set_cons_zero, List.set_cons_succ])
        (try clear hDD)
        refine AnyK.take (i := 4) (v := .string x) rfl (by kernel_rfl) (by kernel_rfl) (by kernel_rfl) (by kernel_rfl) (by kernel_rfl) (by kernel_rfl) (fun _ _ _ h => h) (Or.inl ⟨by rfl, ?_⟩) trivial ?_
        · rintro w' -
          (try go_simp)
          all_goals (try (intro hh; first | omega | (exfalso; omega)))
        (try simp only [Act.put, List.setIfInBounds_toArray, List.set_cons_zero, List.set_cons_succ])
        refine AnyK.one (i := 5) (by kernel_rfl) rfl (fun K' hK => ?_)
        go_simp
        refine hK.out _ _ (fun _ => trivial) ?_
        clear hK
        (try simp only [Act.put, List.setIfInBounds_toArray, List.set_cons_zero, List.set_cons_succ])
        have hrow := OR.drew (own_one w0 x)
        obtain ⟨w1, hw1⟩ : ∃ w1, w1 = (w0.alloc (.cells #[.string x] 9)).drew := ⟨_, rfl⟩
        rw [← hw1] at hrow ⊢
        have hb1 : Below w0.heap.size w0 w1 := by rw [hw1]; exact ((Below.refl _ _).alloc (Nat.le_refl _) _).drew
        have hsz : w0.heap.size ≤ w1.heap.size := hb1.size
        obtain ⟨A2, c2, w2, hrun2, hrow2, hgr2⟩ := run_app_S hrow rfl ⟨D, 0, cc - n, ll.drop n⟩ (SL.ok.below (⟨by rw [List.drop_of_length_le (by omega)]; simp, Nat.zero_le _, Nat.zero_le _, (fun z hz => by rw [List.drop_of_length_le (by omega)] at hz; cases hz), .inl rfl⟩) hb1 (Nat.le_refl _)) (by show (1 + 0) * 16 ≤ _; omega) hsz 27
        obtain ⟨m2, hm2⟩ : ∃ m2, m2 = 1 + 0 := ⟨_, rfl⟩
        simp only [← hm2] at hrun2 hrow2
        refine AnyK.one (i := 9) (by kernel_rfl) rfl (fun K' hK => ?_)
        refine step_app (by rfl) (.tmp 38) (.tmp 41) 27 (by rfl) (by kernel_rfl) (by kernel_rfl) hrun2 ?_
        refine hK.out _ _ (fun _ => trivial) ?_
        clear hK
        (try simp only [Act.put, List.setIfInBounds_toArray, List.set_cons_zero, List.set_cons_succ])
        have hb2 : Below w0.heap.size w0 w2 := hb1.grown hgr2 hsz (fun b hb => (OR.at hrow hb).1)
        obtain ⟨A3, c3, w3, hrun3, hrow3, hgr3⟩ := run_app_cap (SL.ok.below hl.out hb2 (Nat.le_refl _)) (p := n) (by show n ≤ n; omega) hrow2 (by omega) (by omega) (fun z hz => by
          rcases List.mem_cons.1 hz with hz | hz
          · rw [hz]; exact hx
          · exact hl.out.2.2.2.1 z (List.mem_of_mem_drop hz)) 27
        obtain ⟨m3, hm3⟩ : ∃ m3, m3 = n + m2 := ⟨_, rfl⟩
        simp only [← hm3] at hrun3 hrow3
        refine AnyK.one (i := 10) (by kernel_rfl) rfl (fun K' hK => ?_)
        refine step_app (by rfl) (.tmp 36) (.tmp 42) 27 (by rfl) (by kernel_rfl) (by kernel_rfl) hrun3 ?_
        refine hK.out _ _ (fun _ => trivial) ?_
        clear hK
        (try simp only [Act.put, List.setIfInBounds_toArray, List.set_cons_zero, List.set_cons_succ])
        refine AnyK.one (i := 11) (by kernel_rfl) rfl (fun K' hK => ?_)
        go_simp
        refine hK.out _ _ (fun _ => trivial) ?_
        clear hK
        (try simp only [Act.put, List.setIfInBounds_toArray, List.set_cons_zero, List.set_cons_succ])
        refine AnyK.done (by kernel_rfl) ?_ _
        have hb3 : Below w0.heap.size w0 w3 := hb2.grown hgr3 hb2.size (fun b hb => by cases hb)
        have hsz2 : w0.heap.size ≤ w2.heap.size := hb2.size
        have hok : SL.ok w3 ⟨A3, m3, c3, putS ll x⟩ := by
          rw [← hfin.out]
          refine SL.row hrow3 ?_ (fun z hz => ?_) (by omega)
          · simp only [List.length_append, List.length_take, List.length_cons, List.length_drop, List.length_singleton]; omega
          · rcases List.mem_append.1 hz with hz | hz
            · exact hl.out.2.2.2.1 z (List.mem_of_mem_take hz)
            · rcases List.mem_cons.1 hz with hz | hz
              · rw [hz]; exact hx
              · exact hl.out.2.2.2.1 z (List.mem_of_mem_drop hz)
        have hnw : w3.ownsRow w2.heap.size 9 1 (.slice A3 m3 c3) m3 (vS (putS ll x)) := by rw [← hfin.out]; exact hrow3
        replace hnw := Lib.hid hnw
        replace hok := Lib.hid hok
        clear hrow3 hrow2 hrow hrun2 hrun3 hgr2 hgr3 hw1
        go_wp2_with fail
        all_goals go_ret
        all_goals exact ⟨⟨A3, m3, c3, putS ll x⟩, (by simp; omega), hok.out, rfl, hb3, fun B hB _ => OR.mono hnw.out (Nat.le_trans hB hsz2)⟩

end Go.Proofs.Ytgjmbmlmopomgaa
