/- Appending texts; two ints as a block. -/
import Derived.Deep.Upon
import Derived.Test.YtgjmbmlmopomgaaDg
namespace Go.Proofs.Ytgjmbmlmopomgaa
open Go.RowKit Go.Maps Lib
set_option linter.unusedSimpArgs false
set_option linter.unusedVariables false

theorem addr_add (g o j : Nat) : (⟨g, o, none⟩ : Addr).add j = ⟨g, o + j, none⟩ := by
  unfold Addr.add
  by_cases h : j = 0
  · simp [h]
  · simp [h]
theorem cell_two_new (w : World) (x y : Value) (t : TypeId) : ∀ j u, [x, y][j]? = some u → (w.alloc (.cells #[x, y] t)).cell? ((⟨w.heap.size, 0, none⟩ : Addr).add j) = some u := by
  intro j u hj
  have h := (Blk.new w t #[x, y]).cell j
  rw [show (#[x, y] : Array Value)[j]? = some u from by simpa using hj] at h
  rw [addr_add, Nat.zero_add]
  exact h
theorem run_app_S {w : World} {B n : Nat} {v : Value} {l : List ByteArray} (h : w.ownsRow B 9 1 v n (vS l)) (hl : l.length = n) (s : SL) (hs : s.ok w) (hbb : (n + s.n) * 16 ≤ 140737488355328) (hB : B ≤ w.heap.size) (ty : TypeId) :
    ∃ A' c' w', (Builtin.append_ #[27, 27] ty #[v, .slice s.A s.n s.c]).run Try.prog w = .ok (.slice A' (n + s.n) c') w' ∧ w'.ownsRow B 9 1 (.slice A' (n + s.n) c') (n + s.n) (vS (l ++ s.l)) ∧ w.grownBy w' v.ownBlock := by
  obtain ⟨i0, hi0, hz0, hz1, hz2⟩ := infoS_parts
  obtain ⟨A, m, c, sl⟩ := s
  obtain ⟨h1, h2, h3, h4, h5⟩ := hs
  simp only at h1 h2 h3 h4 h5 hbb ⊢
  by_cases h0 : m = 0
  · subst h0
    have e : sl = [] := List.eq_nil_of_length_eq_zero h1
    subst e
    rw [List.append_nil, Nat.add_zero]
    have hsrc : Src Try.prog i0.size 27 (.slice A 0 c) 0 [] w := by
      cases A with
      | none => exact Src.ofNil w Try.underlying27 c
      | some a => exact Src.ofSlice w Try.underlying27 a 0 c [] (by simp) (fun j u hj => by simp at hj) (fun u hu => by cases hu)
    rcases h.2 with ⟨rfl, h0⟩ | ⟨g, cap, cur, rfl, h6, h7, h8, h9⟩
    · subst h0
      exact ⟨none, 0, w, run_append_nothing w 27 27 ty 9 i0 Try.underlying27 hi0 none 0 0 (Nat.le_refl _) _ hsrc, h, gbr _ _⟩
    · exact ⟨some ⟨g, 0, none⟩, cap, w, run_append_nothing w 27 27 ty 9 i0 Try.underlying27 hi0 _ n cap h8 _ hsrc, h, gbr _ _⟩
  · obtain ⟨g, o, rfl, hg, hc⟩ := h5.resolve_left h0
    obtain ⟨g', cap, w', hr, h6, h7, h8, h9⟩ := run_append_lies (P := Try.prog) w 27 ty B 9 i0 (.string ⟨#[]⟩) 1 16 Try.underlying27 hi0 hz0 hz1 hz2 rfl (by decide) v n (vS l) h ⟨g, o, none⟩ m c (vS sl) (by rw [vS_len]; omega) (fun j u hj => by
        unfold vS at hj
        rw [List.getElem?_map] at hj
        cases e : sl[j]? with
        | none => rw [e] at hj; cases hj
        | some x => rw [e] at hj; cases hj; rw [addr_add]; exact hc j _ e) (fun u hu => by
        unfold vS at hu
        obtain ⟨x, -, rfl⟩ := List.mem_map.1 hu
        rfl) (by omega) (by unfold maxLen; omega) (by omega) hB _ rfl
    refine ⟨_, cap, w', hr, ?_, h7⟩
    unfold vS at h6 ⊢
    rw [List.map_append]
    exact h6
theorem app_S {ops : Array Oper} {rest : List Oper} {o : Oper} {a : Act} {Q : Exit → Act → World → Prop} {w : World} (hgd : o.guard = none) (s x : Operand)
    (ho : o.op = .call { callee := .builtin .append, args := #[s, x], argTypes := #[27, 27] })
    (B n : Nat) (v : Value) (l : List ByteArray) (hs : a.eval s = v) (h : w.ownsRow B 9 1 v n (vS l)) (hl : l.length = n) (hB : B ≤ w.heap.size)
    (y : SL) (hx : a.eval x = .slice y.A y.n y.c) (hy : y.ok w) (hyn : (n + y.n) * 16 ≤ 140737488355328)
    (hK : ∀ A' c' w', w'.ownsRow B 9 1 (.slice A' (n + y.n) c') (n + y.n) (vS (l ++ y.l)) → w.grownBy w' v.ownBlock → wpList Try.prog ops Q rest (a.put o.dst (.slice A' (n + y.n) c')) w') :
    wpList Try.prog ops Q (o :: rest) a w := by
  refine wpList_plain hgd fun K hK2 => ?_
  obtain ⟨A', c', w', hr, h1, h2⟩ := run_app_S h hl y hy hyn hB o.type
  unfold Oper.wp execOp
  simp only [ho, resolve, invoke, builtin, Sem.run_bind, Sem.run_pure, Result.andThen_ok, List.map_toArray, List.map_cons, List.map_nil, hs, hx, hr]
  exact hK2 _ _ (hK A' c' w' h1 h2)
theorem app_D {ops : Array Oper} {rest : List Oper} {o : Oper} {a : Act} {Q : Exit → Act → World → Prop} {w : World} (hgd : o.guard = none) (s x : Operand)
    (ho : o.op = .call { callee := .builtin .append, args := #[s, x], argTypes := #[38, 38] })
    (B n : Nat) (v : Value) (l : List (Nat × Nat)) (hs : a.eval s = v) (h : w.ownsRow B 42 2 v n (dv l)) (hl : n ≤ 1000000) (hB : B ≤ w.heap.size)
    (ad : Addr) (c : Nat) (p : Nat × Nat) (hx : a.eval x = .slice (some ad) 1 c) (hy : ∀ j u, [Value.int .i64 (p.1 : Int), Value.int .i64 (p.2 : Int)][j]? = some u → w.cell? (ad.add j) = some u)
    (hK : ∀ g cap w', w'.ownsRow B 42 2 (.slice (some ⟨g, 0, none⟩) (n + 1) cap) (n + 1) (dv (l ++ [p])) → w.grownBy w' v.ownBlock → (v.ownBlock = some g ∨ g = w.heap.size) → wpList Try.prog ops Q rest (a.put o.dst (.slice (some ⟨g, 0, none⟩) (n + 1) cap)) w') :
    wpList Try.prog ops Q (o :: rest) a w := by
  obtain ⟨i0, hi0, hz0, hz1, hz2⟩ := infoD_parts
  refine wpList_append_lies w hgd s x 38 ho B 42 i0 (.agg #[.int .i64 0, .int .i64 0]) 2 16 Try.underlying38 hi0 hz0 hz1 hz2 rfl (by decide) v n (dv l) hs h ad 1 c [.int .i64 (p.1 : Int), .int .i64 (p.2 : Int)] hx rfl hy (by intro u hu; simp at hu; rcases hu with rfl | rfl <;> rfl) (by omega) (by unfold maxLen; omega) (by omega) hB _ rfl ?_
  intro g cap w' h1 h2 h3 h4
  exact hK g cap w' (by rw [dv_snoc]; exact h1) h2 h3

end Go.Proofs.Ytgjmbmlmopomgaa
