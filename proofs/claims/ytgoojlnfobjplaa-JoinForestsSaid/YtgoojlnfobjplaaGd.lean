/- The reference: a part's root, two parts joined. -/
import Derived.Test.YtgoojlnfobjplaaGc
namespace Go.Proofs.Ytgoojlnfobjplaa
open Go.RowKit Go.Maps
set_option linter.unusedSimpArgs false
set_option linter.unusedVariables false

/-- a row of labels of the call's own -/
def TR (w : World) (g N : Nat) (S : Nat → Nat) : Prop := w.ownsRow g 3 1 (.slice (some ⟨g, 0, none⟩) N N) N (vi ((List.range N).map S)) ∧ ∀ i, i < N → S i < N

theorem vi_set (l : List Nat) (i v : Nat) : (vi l).set i (.int .i64 (v : Int)) = vi (l.set i v) := by simp [vi, List.map_set]
theorem range_set (N i v : Nat) (S : Nat → Nat) : ((List.range N).map S).set i v = (List.range N).map (upd S i v) := by
  apply List.ext_getElem?
  intro k
  by_cases hk : k < N
  · by_cases e : i = k
    · subst e
      rw [List.getElem?_set_self (by simpa using hk)]
      simp [hk, upd]
    · rw [List.getElem?_set_ne e]
      have e2 : ¬ k = i := fun h => e h.symm
      simp [hk, upd, e2]
  · rw [List.getElem?_eq_none (by simp; omega), List.getElem?_eq_none (by simp; omega)]

section
variable {w w' : World} {g N : Nat} {S : Nat → Nat}
theorem TR.lt (h : TR w g N S) : g < w.heap.size := (h.1.lt g rfl).2
theorem TR.cell (h : TR w g N S) {i : Nat} (hi : i < N) : w.cell? ⟨g, i, none⟩ = some (.int .i64 (S i : Int)) := by
  rw [h.1.cellAt i (by omega)]
  exact vi_get _ _ _ (by simp [hi])
theorem TR.frozen (h : TR w g N S) (i : Nat) : w.frozen? ⟨g, i, none⟩ = false := h.1.frozenAt i
theorem TR.grown (h : TR w g N S) {row : Option Nat} (hg : w.grownBy w' row) (hr : row ≠ some g) : TR w' g N S := ⟨h.1.kept hg (.inr (by simp [Value.ownBlock]; exact fun e => hr e.symm)), h.2⟩
theorem TR.below {C : Nat} (h : TR w g N S) (hb : Below C w w') (hC : g < C) : TR w' g N S := by
  refine ⟨?_, h.2⟩
  obtain ⟨h1, h2⟩ := h.1
  refine ⟨h1, ?_⟩
  rcases h2 with ⟨e, -⟩ | ⟨g', cap, cur, e, h3, h4, h5⟩
  · cases e
  · have e2 : g = g' := by injection e with e _ _; injection e with e; injection e
    exact .inr ⟨g', cap, cur, e, h3, (hb.block g' (by omega)).trans h4, h5⟩
theorem TR.call (h : TR w g N S) (hb : Below w.heap.size w w') : TR w' g N S := h.below hb h.lt
theorem TR.drew (h : TR w g N S) : TR w.drew g N S := h
theorem TR.drewN (h : TR w g N S) (k : Nat) : TR (w.drewN k) g N S := h
theorem TR.set (h : TR w g N S) (i v : Nat) (hv : v < N) {u : Int} (hu : (v : Int) = u) : TR (w.setCell ⟨g, i, none⟩ (.int .i64 u)) g N (upd S i v) := by
  subst hu
  refine ⟨?_, fun j hj => ?_⟩
  · have h1 := (h.1.stored i (.int .i64 (v : Int))).1
    rw [vi_set, range_set] at h1
    exact h1
  · unfold upd
    split
    · exact hv
    · exact h.2 j hj
theorem TR.congr (h : TR w g N S) {S' : Nat → Nat} (e : ∀ i, i < N → S' i = S i) : TR w g N S' := by
  refine ⟨?_, fun i hi => by rw [e i hi]; exact h.2 i hi⟩
  rw [show (List.range N).map S' = (List.range N).map S from List.map_congr_left (fun i hi => e i (by simpa using hi))]
  exact h.1
end

set_option maxRecDepth 100000 in
theorem ref11_hasRoot (g N : Nat) (S : Nat → Nat) (A : Option Addr) (n c : Nat) (rs : List Int) (a : Nat) (w : World) (hN : N ≤ 64) (hT : TR w g N S) (h3 : L1 w A n c rs) (hnn : Hid (∀ r ∈ rs, ∃ x : Nat, r = (x : Int) ∧ x < N)) (ha : a < N) :
    Calls Try.prog 41 #[.slice (some ⟨g, 0, none⟩) N N, .slice A n c, .int .i64 a] w fun e w' => e = .returned (.bool (hasR (rs.map Int.toNat) S a)) ∧ Below w.heap.size w w' := by
  have hb3 : n ≤ 17592186044416 := h3.2.1
  have hl3 := Lib.hid h3.1
  have hgl := hT.lt
  go_enter Try.func41, Try.ntmps41
  go_wp2_with fail
  go_loopw [11] (fun v11 wr => ∃ j : Nat, j ≤ n ∧ v11 = .int .i64 j ∧ Hid (hasR ((rs.map Int.toNat).take j) S a = false) ∧ Hid (Below w.heap.size w wr)) (fun j _ => n - (intOf j).toNat)
  case atStart => exact ⟨0, by omega, rfl, by show _ = _; simp [hasR], Below.refl _ _⟩
  case round =>
    obtain ⟨j, hj, rfl, hh, hb⟩ := hrel
    by_cases hlt : j < n
    · obtain ⟨ga, oa, z, rfl, hga, hz, -, hcz'⟩ := h3.cell hlt
      obtain ⟨x, rfl, hx⟩ := hnn.out _ (List.mem_of_getElem? hz)
      have hcz := (hb.out.cell (p := ⟨ga, oa + j, none⟩) hga).trans hcz'
      have hT2 := hT.below hb.out hgl
      have hcx := hT2.cell hx
      have hca := hT2.cell ha
      have hz1 := Lib.hid hz
      clear hz hcz'
      have hSx := hT.2 x hx
      have hSa := hT.2 a ha
      by_cases he : S x = S a
      · have he' : ((S x : Int) == (S a : Int)) = true := by simp [he]
        have hans : Hid (hasR (rs.map Int.toNat) S a = true) := by
          show _ = _
          unfold hasR
          exact any_of_at (root_at hz1.out) (by simp [he])
        clear he
        go_wp2_with fail
        go_quiet (fail)
        go_wp2_with fail
        go_ret
        rw [hans.out]
        exact ⟨rfl, bdN hb.out _⟩
      · have he' : ((S x : Int) == (S a : Int)) = false := by simp; omega
        have hst : Hid (hasR ((rs.map Int.toNat).take (j + 1)) S a = false) := by
          have h := hh.out
          show _ = _
          unfold hasR at h ⊢
          rw [any_take (root_at hz1.out), h]
          simp [he]
        go_wp2_with fail
        go_quiet (fail)
        go_wp2_with fail
        go_roundw
        case rel => exact ⟨j + 1, by omega, by go_num, hst, bdN hb.out _⟩
        case measure => simp [intOf]; omega
    · have : n = j := by omega
      subst this
      have hans : Hid (hasR (rs.map Int.toNat) S a = false) := by
        have h := hh.out
        rwa [List.take_of_length_le (by rw [List.length_map, hl3.out]; exact Nat.le_refl _)] at h
      go_wp2_with fail
      go_ret
      rw [hans.out]
      exact ⟨rfl, hb.out⟩

set_option maxRecDepth 100000 in
theorem ref11_hasRootQ (g N : Nat) (S : Nat → Nat) (A : Option Addr) (n c : Nat) (rs : List Int) (a : Nat) (w : World) (hN : N ≤ 64) (hT : TR w g N S) (h3 : L1 w A n c rs) (hnn : Hid (∀ r ∈ rs, ∃ x : Nat, r = (x : Int) ∧ x < N)) (ha : a < N) :
    Calls Try.prog 41 #[.slice (some ⟨g, 0, none⟩) N N, .slice A n c, .int .i64 a] w fun e w' => e = .returned (.bool (hasR (rs.map Int.toNat) S a)) ∧ ∃ k, w' = w.drewN k := by
  have hb3 : n ≤ 17592186044416 := h3.2.1
  have hl3 := Lib.hid h3.1
  have hgl := hT.lt
  go_enter Try.func41, Try.ntmps41
  go_wp2_with fail
  go_loopw [11] (fun v11 wr => ∃ j : Nat, j ≤ n ∧ v11 = .int .i64 j ∧ Hid (hasR ((rs.map Int.toNat).take j) S a = false) ∧ Hid (∃ k, wr = w.drewN k)) (fun j _ => n - (intOf j).toNat)
  case atStart => exact ⟨0, by omega, rfl, by show _ = _; simp [hasR], ⟨0, rfl⟩⟩
  case round =>
    obtain ⟨j, hj, rfl, hh, hw⟩ := hrel
    have hb : Hid (Below w.heap.size w wr) := by obtain ⟨k, rfl⟩ := hw.out; exact bdN (Below.refl _ _) _
    by_cases hlt : j < n
    · obtain ⟨ga, oa, z, rfl, hga, hz, -, hcz'⟩ := h3.cell hlt
      obtain ⟨x, rfl, hx⟩ := hnn.out _ (List.mem_of_getElem? hz)
      have hcz := (hb.out.cell (p := ⟨ga, oa + j, none⟩) hga).trans hcz'
      have hT2 := hT.below hb.out hgl
      have hcx := hT2.cell hx
      have hca := hT2.cell ha
      have hz1 := Lib.hid hz
      clear hz hcz'
      have hSx := hT.2 x hx
      have hSa := hT.2 a ha
      by_cases he : S x = S a
      · have he' : ((S x : Int) == (S a : Int)) = true := by simp [he]
        have hans : Hid (hasR (rs.map Int.toNat) S a = true) := by
          show _ = _
          unfold hasR
          exact any_of_at (root_at hz1.out) (by simp [he])
        clear he
        go_wp2_with fail
        go_quiet (fail)
        go_wp2_with fail
        go_ret
        rw [hans.out]
        exact ⟨rfl, by obtain ⟨k, hk⟩ := hw.out; exact ⟨k + _, by rw [hk, World.drewN_drewN]⟩⟩
      · have he' : ((S x : Int) == (S a : Int)) = false := by simp; omega
        have hst : Hid (hasR ((rs.map Int.toNat).take (j + 1)) S a = false) := by
          have h := hh.out
          show _ = _
          unfold hasR at h ⊢
          rw [any_take (root_at hz1.out), h]
          simp [he]
        go_wp2_with fail
        go_quiet (fail)
        go_wp2_with fail
        go_roundw
        case rel => exact ⟨j + 1, by omega, by go_num, hst, by obtain ⟨k, hk⟩ := hw.out; exact ⟨k + _, by rw [hk, World.drewN_drewN]⟩⟩
        case measure => simp [intOf]; omega
    · have : n = j := by omega
      subst this
      have hans : Hid (hasR (rs.map Int.toNat) S a = false) := by
        have h := hh.out
        rwa [List.take_of_length_le (by rw [List.length_map, hl3.out]; exact Nat.le_refl _)] at h
      go_wp2_with fail
      go_ret
      rw [hans.out]
      exact ⟨rfl, hw.out⟩

/-- labels under way -/
def mid (S : Nat → Nat) (x y i : Nat) : Nat → Nat := fun z => if z < i then lab S x y z else S z

theorem lab_lt {N x y : Nat} {S : Nat → Nat} (h : ∀ i, i < N → S i < N) (hx : x < N) (hy : y < N) : min (S x) (S y) < N := by
  have := h x hx
  omega

def PRJoin (w : World) (g N : Nat) (S : Nat → Nat) (x y : Nat) (e : Ending) (w' : World) : Prop :=
  ∃ c : Bool, e = .returned (.bool c) ∧ Hid ((c = true ∧ S x ≠ S y ∧ TR w' g N (lab S x y)) ∨ (c = false ∧ S x = S y ∧ TR w' g N S)) ∧ w.grownBy w' (some g)

theorem gb_drewN {a w : World} {row : Option Nat} (h : a.grownBy w row) (n : Nat) : a.grownBy (w.drewN n) row := ⟨h.os, h.tape, h.output, h.size, h.block⟩
theorem gb_set {a w : World} {g : Nat} (h : a.grownBy w (some g)) (i : Nat) (u : Value) : a.grownBy (w.setCell ⟨g, i, none⟩ u) (some g) :=
  ⟨h.os, h.tape, h.output, by simpa [World.setCell] using h.size, fun j hj hne => (Below.heap_setCell w ⟨g, i, none⟩ u j (by rintro rfl; exact hne rfl)).trans (h.block j hj hne)⟩

set_option maxRecDepth 100000 in
theorem ref11_join (g N : Nat) (S : Nat → Nat) (x y : Nat) (w : World) (hN : N ≤ 64) (hT : TR w g N S) (hx : x < N) (hy : y < N) :
    Calls Try.prog 40 #[.slice (some ⟨g, 0, none⟩) N N, .int .i64 x, .int .i64 y] w (PRJoin w g N S x y) := by
  have hcx := hT.cell hx
  have hcy := hT.cell hy
  have hSx := hT.2 x hx
  have hSy := hT.2 y hy
  have hg0 : w.grownBy w (some g) := ⟨rfl, rfl, rfl, Nat.le_refl _, fun _ _ _ => rfl⟩
  by_cases he : S x = S y
  · have he' : ((S x : Int) == (S y : Int)) = true := by simp [he]
    have he := Lib.hid he
    go_enter Try.func40, Try.ntmps40
    go_wp2_with fail
    go_quiet (fail)
    go_wp2_with fail
    go_ret
    exact ⟨false, rfl, .inr ⟨rfl, he.out, hT.drewN _⟩, gb_drewN hg0 _⟩
  · have he' : ((S x : Int) == (S y : Int)) = false := by simp; omega
    have he2 := Lib.hid he
    by_cases hxy : (S x : Int) < (S y : Int)
    · have hxy2 : decide ((S x : Int) < (S y : Int)) = true := by simpa using hxy
      have hmm : Hid (max (S x) (S y) = S y ∧ min (S x) (S y) = S x) := by show _ ∧ _; omega
      go_enter Try.func40, Try.ntmps40
      go_wp2_with fail
      go_quiet (fail)
      go_upto_region 3 with (fail)
      go_quiet (fail)
      go_wp2_with fail
      go_loopw [39] (fun v39 wr => ∃ i : Nat, i ≤ N ∧ v39 = .int .i64 i ∧ Hid (TR wr g N (mid S x y i)) ∧ Hid (w.grownBy wr (some g))) (fun i _ => N - (intOf i).toNat)
      case atStart => exact ⟨0, by omega, rfl, (hT.congr (fun i hi => by simp [mid])), gb_drewN hg0 _⟩
      case round =>
        obtain ⟨i, hi, rfl, hTi, hgi⟩ := hrel
        by_cases hlt : i < N
        · have hci := hTi.out.cell hlt
          rw [show mid S x y i i = S i by simp [mid]] at hci
          have hfi := hTi.out.frozen i
          have hSi := hT.2 i hlt
          by_cases hm : S i = S y
          · have hm' : ((S i : Int) == (S y : Int)) = true := by simp [hm]
            have hlab : Hid (lab S x y i = S x) := by show _ = _; unfold lab; rw [hmm.out.1, hmm.out.2, if_pos hm]
            have hset : Hid (TR (wr.setCell ⟨g, i, none⟩ (.int .i64 (S x : Int))) g N (mid S x y (i + 1))) := by
              refine (hTi.out.set i (S x) (by omega) rfl).congr (fun j hj => ?_)
              unfold upd mid
              by_cases e : j = i
              · subst e; rw [if_pos (by omega), if_pos rfl, hlab.out]
              · rw [if_neg e]
                by_cases e2 : j < i
                · rw [if_pos (by omega), if_pos e2]
                · rw [if_neg (by omega), if_neg e2]
            have hgs := Lib.hid (gb_set hgi.out i (.int .i64 (S x : Int)))
            clear hm
            go_wp2_with fail
            go_roundw
            case rel => exact ⟨i + 1, by omega, by go_num, hset, hgs⟩
            case measure => simp [intOf]; omega
          · have hm' : ((S i : Int) == (S y : Int)) = false := by simp; omega
            have hset : Hid (TR wr g N (mid S x y (i + 1))) := by
              refine hTi.out.congr (fun j hj => ?_)
              unfold mid
              by_cases e : j = i
              · subst e
                rw [if_pos (by omega), if_neg (by omega)]
                unfold lab
                rw [hmm.out.1, if_neg hm]
              · by_cases e2 : j < i
                · rw [if_pos (by omega), if_pos e2]
                · rw [if_neg (by omega), if_neg e2]
            go_wp2_with fail
            go_roundw
            case rel => exact ⟨i + 1, by omega, by go_num, hset, hgi⟩
            case measure => simp [intOf]; omega
        · have : N = i := by omega
          subst this
          go_wp2_with fail
          go_ret
          exact ⟨true, rfl, .inl ⟨rfl, he2.out, hTi.out.congr (fun j hj => by unfold mid; rw [if_pos hj])⟩, hgi.out⟩
    · have hxy2 : decide ((S x : Int) < (S y : Int)) = false := by simpa using hxy
      have hxy3 : (S y : Int) < (S x : Int) := by omega
      have hmm : Hid (max (S x) (S y) = S x ∧ min (S x) (S y) = S y) := by show _ ∧ _; omega
      go_enter Try.func40, Try.ntmps40
      go_wp2_with fail
      go_quiet (fail)
      go_upto_region 3 with (fail)
      go_quiet (fail)
      go_wp2_with fail
      go_loopw [39] (fun v39 wr => ∃ i : Nat, i ≤ N ∧ v39 = .int .i64 i ∧ Hid (TR wr g N (mid S x y i)) ∧ Hid (w.grownBy wr (some g))) (fun i _ => N - (intOf i).toNat)
      case atStart => exact ⟨0, by omega, rfl, (hT.congr (fun i hi => by simp [mid])), gb_drewN hg0 _⟩
      case round =>
        obtain ⟨i, hi, rfl, hTi, hgi⟩ := hrel
        by_cases hlt : i < N
        · have hci := hTi.out.cell hlt
          rw [show mid S x y i i = S i by simp [mid]] at hci
          have hfi := hTi.out.frozen i
          have hSi := hT.2 i hlt
          by_cases hm : S i = S x
          · have hm' : ((S i : Int) == (S x : Int)) = true := by simp [hm]
            have hlab : Hid (lab S x y i = S y) := by show _ = _; unfold lab; rw [hmm.out.1, hmm.out.2, if_pos hm]
            have hset : Hid (TR (wr.setCell ⟨g, i, none⟩ (.int .i64 (S y : Int))) g N (mid S x y (i + 1))) := by
              refine (hTi.out.set i (S y) (by omega) rfl).congr (fun j hj => ?_)
              unfold upd mid
              by_cases e : j = i
              · subst e; rw [if_pos (by omega), if_pos rfl, hlab.out]
              · rw [if_neg e]
                by_cases e2 : j < i
                · rw [if_pos (by omega), if_pos e2]
                · rw [if_neg (by omega), if_neg e2]
            have hgs := Lib.hid (gb_set hgi.out i (.int .i64 (S y : Int)))
            clear hm
            go_wp2_with fail
            go_roundw
            case rel => exact ⟨i + 1, by omega, by go_num, hset, hgs⟩
            case measure => simp [intOf]; omega
          · have hm' : ((S i : Int) == (S x : Int)) = false := by simp; omega
            have hset : Hid (TR wr g N (mid S x y (i + 1))) := by
              refine hTi.out.congr (fun j hj => ?_)
              unfold mid
              by_cases e : j = i
              · subst e
                rw [if_pos (by omega), if_neg (by omega)]
                unfold lab
                rw [hmm.out.1, if_neg hm]
              · by_cases e2 : j < i
                · rw [if_pos (by omega), if_pos e2]
                · rw [if_neg (by omega), if_neg e2]
            go_wp2_with fail
            go_roundw
            case rel => exact ⟨i + 1, by omega, by go_num, hset, hgi⟩
            case measure => simp [intOf]; omega
        · have : N = i := by omega
          subst this
          go_wp2_with fail
          go_ret
          exact ⟨true, rfl, .inl ⟨rfl, he2.out, hTi.out.congr (fun j hj => by unfold mid; rw [if_pos hj])⟩, hgi.out⟩

end Go.Proofs.Ytgoojlnfobjplaa
