/- Configurations as plain lists; a run; a reaction leaves a configuration that is as it must be. -/
import Derived.Test.YtgjmbmlmopomgaaEg
namespace Go.Proofs.Ytgjmbmlmopomgaa
open Go.RowKit Go.Maps Lib
set_option linter.unusedSimpArgs false
set_option linter.unusedVariables false

/-- a configuration's lists -/
structure CF where
  s : List Int
  f : List Bool
  o : List ByteArray
def GV.cf (g : GV) : CF := ⟨g.st.l, g.fr.l, g.out.l⟩
def CF.rx (l : List McV) (x : CF) (i : List ByteArray) : RX := rall l (fnI x.s) (fnB x.f) (fun s => inS i s || inS x.o s)
def RX.cf (n : Nat) (r : RX) : CF := ⟨(List.range n).map r.x.S, (List.range n).map r.x.F, outS r.O⟩
def CF.step (l : List McV) (x : CF) (i : List ByteArray) : CF := (x.rx l i).cf l.length
def CF.run (l : List McV) (x : CF) (ins : List (List ByteArray)) : CF := ins.foldl (CF.step l) x
def CF.outs (l : List McV) : CF → List (List ByteArray) → List (List ByteArray)
  | _, [] => []
  | x, i :: r => (x.step l i).o :: CF.outs l (x.step l i) r

theorem CF.run_append (l : List McV) (x : CF) (a b : List (List ByteArray)) : x.run l (a ++ b) = (x.run l a).run l b := by
  unfold CF.run
  rw [List.foldl_append]
theorem CF.run_snoc (l : List McV) (x : CF) (a : List (List ByteArray)) (i : List ByteArray) : x.run l (a ++ [i]) = (x.run l a).step l i := by
  rw [CF.run_append]
  rfl
theorem CF.outs_append (l : List McV) (a b : List (List ByteArray)) : ∀ x : CF, x.outs l (a ++ b) = x.outs l a ++ (x.run l a).outs l b := by
  induction a with
  | nil => intro x; rfl
  | cons i a ih =>
    intro x
    show (x.step l i).o :: (x.step l i).outs l (a ++ b) = _
    rw [ih]
    rfl
theorem CF.outs_snoc (l : List McV) (x : CF) (a : List (List ByteArray)) (i : List ByteArray) : x.outs l (a ++ [i]) = x.outs l a ++ [(x.run l (a ++ [i])).o] := by
  rw [CF.outs_append, CF.run_snoc]
  rfl
theorem CF.outs_len (l : List McV) (a : List (List ByteArray)) : ∀ x : CF, (x.outs l a).length = a.length := by
  induction a with
  | nil => intro x; rfl
  | cons i a ih =>
    intro x
    show ((x.step l i).outs l a).length + 1 = _
    rw [ih]
    rfl
theorem CF.outs_at (l : List McV) (x : CF) (a : List (List ByteArray)) {k : Nat} (hk : k < a.length) : (x.outs l a)[k]? = some (x.run l (a.take (k + 1))).o := by
  have h : a = a.take (k + 1) ++ a.drop (k + 1) := (List.take_append_drop _ _).symm
  have h1 : x.outs l a = x.outs l (a.take (k + 1)) ++ (x.run l (a.take (k + 1))).outs l (a.drop (k + 1)) := by
    rw [← CF.outs_append, ← h]
  rw [h1, List.getElem?_append_left (by rw [CF.outs_len, List.length_take]; omega)]
  have e : a.take (k + 1) = a.take k ++ [a[k]] := List.take_succ_eq_append_getElem hk
  rw [e, CF.outs_snoc, List.getElem?_append_right (by rw [CF.outs_len, List.length_take]; omega), CF.outs_len, List.length_take, show k - min k a.length = 0 by omega]
  rfl
theorem reacted_rx (c : CV) (g : GV) (i : SL) : reacted c g i = g.cf.rx c.l i.l := rfl

/-- as it must be -/
structure CF.Fine (c : CV) (x : CF) : Prop where
  n : x.s.length = c.n
  m : x.f.length = c.n
  r : rises x.o = true
  s : x.o.all simple = true
  k : statesOk c.l x.s = true

theorem bytesLess_lt : ∀ (x y : List UInt8), Op.bytesLess x y = decide (x < y)
  | [], [] => by simp [Op.bytesLess]
  | _ :: _, [] => by simp [Op.bytesLess]
  | [], _ :: _ => by simp [Op.bytesLess]
  | a :: x, b :: y => by
    rw [Op.bytesLess, bytesLess_lt x y]
    simp only [List.cons_lt_cons_iff]
    by_cases h1 : a < b <;> by_cases h2 : a = b <;> by_cases h3 : x < y <;> simp [h1, h2, h3]

theorem srtS_pw (l : List ByteArray) : (srtS l).Pairwise (· ≤ ·) := by
  unfold srtS
  have h := List.pairwise_mergeSort (le := fun (x y : List UInt8) => decide (x ≤ y)) (fun a b c h1 h2 => by
    simp only [decide_eq_true_eq] at h1 h2 ⊢
    exact List.le_trans h1 h2) (fun a b => by
    rcases List.le_total a b with h | h <;> simp [h]) (l.map ByteArray.toList)
  exact h.imp fun h => by simpa using h
theorem compact_pw {l : List (List UInt8)} (h : l.Pairwise (· ≤ ·)) : (Lib.compact l).Pairwise (· < ·) := by
  unfold Lib.compact Lib.compactUpTo
  rw [List.pairwise_map, List.pairwise_filter]
  refine (List.pairwise_lt_range (n := l.length)).imp_of_mem ?_
  intro a b ha hb hlt ka kb
  have ha' := List.mem_range.1 ha
  have hb' := List.mem_range.1 hb
  rw [List.pairwise_iff_getElem] at h
  unfold Lib.keeps at kb
  simp only [decide_eq_true_eq] at kb
  rcases kb with kb | kb
  · omega
  · have e1 : l.toArray[b]! = l[b] := by simp [hb']
    have e2 : l.toArray[b - 1]! = l[b - 1] := by simp [show b - 1 < l.length by omega]
    have e3 : l.toArray[a]! = l[a] := by simp [ha']
    rw [e1, e2] at kb
    rw [e1, e3]
    have h1 : l[b - 1] < l[b] := Std.lt_of_le_of_ne (h (b - 1) b (by omega) hb' (by omega)) (fun e => kb e.symm)
    by_cases hab : a = b - 1
    · subst hab; exact h1
    · exact List.lt_of_le_of_lt (h a (b - 1) ha' (by omega) (by omega)) h1
theorem outS_pw (l : List ByteArray) : ((outS l).map ByteArray.toList).Pairwise (· < ·) := by
  unfold outS
  rw [List.map_map]
  have : (ByteArray.toList ∘ bk) = id := by
    funext s
    exact toList_bk s
  rw [this, List.map_id]
  exact compact_pw (srtS_pw l)
theorem rises_of {l : List ByteArray} (h : (l.map ByteArray.toList).Pairwise (· < ·)) : rises l = true := by
  unfold rises
  rw [List.all_eq_true]
  intro i hi
  have hi' := List.mem_range.1 hi
  by_cases h0 : i = 0
  · simp [h0]
  · rw [List.pairwise_iff_getElem] at h
    have e1 : l[i]? = some l[i] := List.getElem?_eq_getElem hi'
    have e2 : l[i - 1]? = some l[i - 1] := List.getElem?_eq_getElem (by omega)
    rw [lessAt_eq e1 e2, bytesLess_lt]
    have h1 := h (i - 1) i (by simp; omega) (by simpa using hi') (by omega)
    simp only [List.getElem_map] at h1
    simp [h1]

/-- what is emitted is what some move emits; the states are states -/
structure RO2 (c : CV) (r : RX) : Prop where
  o : ∀ x ∈ r.O, simple x = true
  s : ∀ k m, c.l[k]? = some m → okIdx m.st.n (r.x.S k) = true
theorem rto_fine {c : CV} (hv : c.valid = 0) (gS : Nat → Int) (gF : Nat → Bool) (th : ByteArray → Bool) (hS : ∀ k m, c.l[k]? = some m → okIdx m.st.n (gS k) = true) : ∀ i, RO2 c (rto c.l gS gF th i ⟨⟨gS, gF, fun _ => false⟩, [], []⟩) := by
  intro i
  induction i with
  | zero => exact ⟨by simp [rto], hS⟩
  | succ i ih =>
    show RO2 c (rstep _ _ _ _ _ _)
    generalize rto c.l gS gF th i ⟨⟨gS, gF, fun _ => false⟩, [], []⟩ = r at ih ⊢
    unfold rstep
    cases hm : c.l[i]? with
    | none => exact ih
    | some m =>
      simp only
      by_cases hcnd : (actv c.l gS i && !r.x.E i && actv c.l r.x.S i) = true
      · rw [if_pos hcnd]
        cases hk : m.mv.l.findIdx? (openM (gS i) (gF i) th) with
        | none => exact ⟨ih.o, ih.s⟩
        | some k =>
          simp only
          cases hv2 : m.mv.l[k]? with
          | none => exact ih
          | some v =>
            have hf := fineAll_at (CV.fineOf hv).2.2 hm
            unfold McV.fine at hf
            simp only [Bool.and_eq_true] at hf
            have hvf := List.all_eq_true.1 hf.2 v (List.mem_of_getElem? hv2)
            unfold MvV.fine at hvf
            simp only [Bool.and_eq_true] at hvf
            refine ⟨fun x hx => ?_, ?_⟩
            · rcases List.mem_append.1 hx with hx | hx
              · exact ih.o x hx
              · exact List.all_eq_true.1 hvf.2 x hx
            · have := ent_all (keep := v.keep) (CV.low hv) (fun j z => ∀ m, c.l[j]? = some m → okIdx m.st.n z = true) (fun j n hn m hm => by
                rw [hn] at hm
                cases hm
                have hf := fineAll_at (CV.fineOf hv).2.2 hn
                unfold McV.fine at hf
                simp only [Bool.and_eq_true] at hf
                exact hf.1.1.1) c.l.length i (r.x.mv i v.dst) (fun j m2 hm2 => by
                by_cases hj : j = i
                · subst hj
                  simp only [RS.mv, upd_same]
                  rw [hm] at hm2
                  cases hm2
                  exact hvf.1.1.1.2
                · simp only [RS.mv, upd_other _ _ _ _ hj]
                  exact ih.s j m2 hm2)
              exact fun k m hk => this k m hk
      · rw [if_neg hcnd]; exact ih
theorem statesOk_at {l : List McV} {s : List Int} (h : statesOk l s = true) {k : Nat} (hk : k < s.length) {m : McV} (hm : l[k]? = some m) : okIdx m.st.n (fnI s k) = true := by
  unfold statesOk at h
  have := List.all_eq_true.1 h k (List.mem_range.2 hk)
  rw [hm] at this
  exact this

theorem CF.Fine.step {c : CV} {x : CF} (hx : x.Fine c) (hv : c.valid = 0) (hl : c.l.length = c.n) (i : List ByteArray) : (x.step c.l i).Fine c := by
  have hr := rto_fine hv (fnI x.s) (fnB x.f) (fun s => inS i s || inS x.o s) (fun k m hm => statesOk_at hx.k (by rw [hx.n, ← hl]; exact (List.getElem?_eq_some_iff.1 hm).1) hm) c.l.length
  refine ⟨by simp [CF.step, RX.cf, hl], by simp [CF.step, RX.cf, hl], rises_of (outS_pw _), ?_, ?_⟩
  · rw [List.all_eq_true]
    intro s hs
    exact hr.o s (outS_mem hs)
  · refine st_yes (n := c.n) (by simp [CF.step, RX.cf, hl]) (fun k hk m z hm hz => ?_) hl
    have h1 := hr.s k m hm
    have h2 : z = (x.rx c.l i).x.S k := by
      have h3 : ((List.range c.l.length).map (x.rx c.l i).x.S)[k]? = some z := hz
      rw [List.getElem?_map, List.getElem?_range (by omega)] at h3
      simpa using h3.symm
    rw [h2]
    exact h1
theorem CF.Fine.run {c : CV} (hv : c.valid = 0) (hl : c.l.length = c.n) (ins : List (List ByteArray)) : ∀ {x : CF}, x.Fine c → (x.run c.l ins).Fine c := by
  induction ins with
  | nil => intro x hx; exact hx
  | cons i r ih => intro x hx; exact ih (hx.step hv hl i)
theorem GV.known_cf {c : CV} {g : GV} {w : World} (hg : g.ok w) (h : g.known c = 0) : c.valid = 0 ∧ g.cf.Fine c := by
  obtain ⟨hv, hf⟩ := GV.known_fine h
  refine ⟨hv, ?_⟩
  unfold GV.fine at hf
  simp only [Bool.and_eq_true, beq_iff_eq] at hf
  exact ⟨by rw [← hf.1.1.1.1]; exact hg.1.1, by rw [← hf.1.1.1.2]; exact hg.2.1.1, hf.1.1.2, hf.1.2, hf.2⟩
theorem GV.cf_known {c : CV} {g : GV} {w : World} (hg : g.ok w) (hv : c.valid = 0) (h : g.cf.Fine c) : g.known c = 0 := by
  unfold GV.known
  rw [if_pos hv, if_pos]
  unfold GV.fine
  simp only [Bool.and_eq_true, beq_iff_eq]
  exact ⟨⟨⟨⟨by rw [← h.n]; exact hg.1.1.symm, by rw [← h.m]; exact hg.2.1.1.symm⟩, h.r⟩, h.s⟩, h.k⟩
theorem outS_len {c : CV} {w : World} (hc : c.ok w) (hv : c.valid = 0) (x : CF) (i : List ByteArray) (hS : ∀ z ∈ x.s, In64 z) : (x.step c.l i).o.length ≤ 384 := by
  have h := (rto_bound hc hv (fnI x.s) (fnB x.f) (fun s => inS i s || inS x.o s) (fnI_in64 hS) c.l.length).o
  have h6 := CV.six hv
  have hl := hc.1
  have : (outS (x.rx c.l i).O).length ≤ (x.rx c.l i).O.length := by
    unfold outS
    rw [List.length_map]
    refine Nat.le_trans (compact_length_le _) ?_
    rw [srtS_len]
    exact Nat.le_refl _
  show (outS (x.rx c.l i).O).length ≤ _
  have h2 : (x.rx c.l i).O.length ≤ 64 * c.l.length := h
  omega
theorem simple_size {s : ByteArray} (h : simple s = true) : s.size ≤ 16 := by
  unfold simple at h
  simp only [Bool.and_eq_true, decide_eq_true_eq] at h
  exact h.1.1.1.2

end Go.Proofs.Ytgjmbmlmopomgaa
