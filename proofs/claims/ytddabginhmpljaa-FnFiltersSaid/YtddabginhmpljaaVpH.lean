/- Plain law: keys put into filters; filters that are drawn. -/
import Derived.Test.YtddabginhmpljaaVpG
namespace Go.Vf
set_option linter.unusedVariables false
set_option linter.unusedSimpArgs false

/-- these places are set beside those that were -/
def SetTo (f g : List Bool) (s : List Int) : Prop := g.length = 64 ∧ ∀ j, j < 64 → g.getD j false = (f.getD j false || s.any fun b => b.toNat == j)

theorem setLoop {N : Nat} {f : List Bool} {s : List Int} {F : (Int × ((List Bool) × Unit) → Option ((List Bool) × Unit)) → Int × ((List Bool) × Unit) → Option ((List Bool) × Unit)} (hN : s.length < N) (hf : f.length = 64) (hs : ∀ x, x ∈ s → 0 ≤ x ∧ x < 61)
    (hend : ∀ self (e : Int × ((List Bool) × Unit)), e.1 = s.length → F self e = some (e.2.1, ()))
    (hstep : ∀ self (e : Int × ((List Bool) × Unit)) (P : (List Bool) × Unit → Prop), 0 ≤ e.1 → e.1 < s.length → e.2.1.length = 64 → Ret (self (e.1 + 1, (e.2.1.set (s.getD e.1.toNat 0).toNat true, ()))) P → Ret (F self e) P) :
    Ret (iter N F (0, (f, ()))) (fun j => SetTo f j.1 s) := by
  refine Ret.iter (fun e => 0 ≤ e.1 ∧ e.1 ≤ (s.length : Int) ∧ SetTo f e.2.1 (s.take e.1.toNat)) (fun e => ((s.length : Int) - e.1).toNat) ⟨by simp, by simp, hf, fun j hj => by simp⟩ (by simp; omega) (fun self e he ih => ?_)
  obtain ⟨q1, q2, q3, q4⟩ := he
  by_cases h : e.1 = s.length
  · rw [hend self e h]
    refine Ret.ret ⟨q3, fun j hj => ?_⟩
    rw [q4 j hj, List.take_of_length_le (by omega)]
  · refine hstep self e _ q1 (by omega) q3 (ih _ ⟨by simp; omega, by simp; omega, by simp [q3], fun j hj => ?_⟩ (by simp; omega))
    have hm := hs _ (getD_mem s e.1.toNat (by omega))
    rw [getD_set _ _ _ _ _ (by omega), show (e.1 + 1).toNat = e.1.toNat + 1 by omega, List.take_add_one, List.any_append]
    have hg : s[e.1.toNat]?.toList.any (fun b => b.toNat == j) = ((s.getD e.1.toNat 0).toNat == j) := by
      rw [List.getD_eq_getElem?_getD, List.getElem?_eq_getElem (by omega)]
      simp
    rw [hg]
    split
    · rename_i hh
      rw [hh]; simp
    · rename_i hh
      rw [q4 j hj]
      have : ((s.getD e.1.toNat 0).toNat == j) = false := by
        simp only [beq_eq_false_iff_ne, ne_eq]; exact fun h => hh h.symm
      rw [this]; simp

theorem spec_put_ret {N : Nat} {f : List Bool} {k : Int} (hN : 1000000 < N) (hf : f.length = 64) (h0 : 0 ≤ k) (h1 : k ≤ 1000000) : Ret (spec_l13Put N f k) (fun z => z.1.1.length = 64) := by
  unfold spec_l13Put
  refine Ret.bind (Ret.of_eq (P := fun r => r.1.1 = bits k) (specBits_eq hN (by omega) h1) rfl) (fun r hr => ?_)
  rw [hr]
  have hl := bitsTo_length k 3
  have hl' : (bits k).length ≤ 3 := hl
  refine Ret.bind (setLoop (s := bits k) (f := f) (by omega) hf (bits_range h0) (fun self e h => ?_) (fun self e P h2 h3 h4 hs => ?_)) (fun j hj => Ret.ret hj.1)
  · simp [h]
  · have hm := bits_range h0 _ (getD_mem (bits k) e.1.toNat (by omega))
    refine Ret.ite (fun _ => ?_) (fun h6 => by simp at h6; omega)
    refine Ret.guard (by simp; omega) (Ret.guard (by simp only [Bool.and_eq_true, decide_eq_true_eq]; omega) ?_)
    extract_lets v
    rw [wrap_id (a := e.1 + 1) (by omega) (by omega)]
    exact hs

theorem put_ret2 {N : Nat} {f : List Bool} {k : Int} (hN : 1000000 < N) (hf : f.length = 64) : Ret (impl_PutFilter N f k) (fun z => z.1.2.1 = decide (0 ≤ k ∧ k ≤ 9999) ∧ (0 ≤ k ∧ k ≤ 9999 → SetTo f z.1.1 (bits k))) := by
  unfold impl_PutFilter
  rw [good_eq, isKey_eq]
  refine Ret.bind (Q := fun j => j.1 = !decide (0 ≤ k ∧ k ≤ 9999)) ⟨(!decide (0 ≤ k ∧ k ≤ 9999), ()), by simp [hf], rfl⟩ (fun j hj => ?_)
  refine Ret.ite (fun h => ?_) (fun h => ?_)
  · rw [hj] at h
    have h1 : ¬ (0 ≤ k ∧ k ≤ 9999) := by simpa only [Bool.not_eq_true', decide_eq_false_iff_not] using h
    exact Ret.ret ⟨by simp only [h1, decide_false], fun h => absurd h h1⟩
  · rw [hj] at h
    have h1 : 0 ≤ k ∧ k ≤ 9999 := by simpa only [Bool.not_eq_false', decide_eq_true_eq] using h
    refine Ret.bind (Q := fun r => r.1.1 = f) (Ret.guard (by simp [hf]) (Ret.ret rfl)) (fun r4 h4 => ?_)
    refine Ret.bind (Ret.of_eq (P := fun r => r.1.1 = bits k) (implBits_eq hN (by omega) (by omega)) rfl) (fun r hr => ?_)
    rw [hr, h4]
    have hl := bitsTo_length k 3
    have hl' : (bits k).length ≤ 3 := hl
    refine Ret.bind (setLoop (s := bits k) (f := f) (by omega) hf (bits_range h1.1) (fun self e h => ?_) (fun self e P h2 h3 h4 hs => ?_)) (fun j hj => Ret.ret ⟨by simp [h1], fun _ => hj⟩)
    · simp [h]
    · have hm := bits_range h1.1 _ (getD_mem (bits k) e.1.toNat (by omega))
      refine Ret.ite (fun _ => ?_) (fun h6 => by simp at h6; omega)
      refine Ret.guard (by simp; omega) (Ret.guard (by simp only [Bool.and_eq_true, decide_eq_true_eq]; omega) ?_)
      extract_lets v
      rw [wrap_id (a := e.1 + 1) (by omega) (by omega)]
      exact hs

/-! ### a filter of a list -/

def Has (f : List Bool) (l : List Int) : Prop := f.length = 64 ∧ ∀ j, j < 64 → f.getD j false = l.any fun k => (bits k).any fun b => b.toNat == j

theorem Has.unique {f g : List Bool} {l : List Int} (h : Has f l) (k : Has g l) : f = g := ext_getD false (h.1.trans k.1.symm) (fun j hj => by
  have hj' : j < 64 := by rw [← h.1]; exact hj
  rw [h.2 j hj', k.2 j hj'])

theorem Has.join {f g : List Bool} {l m : List Int} (h : Has f l) (k : Has g m) : Has (joinF f g) (l ++ m) :=
  ⟨joinF_length h.1 k.1, fun j hj => by rw [joinF_getD (h.1.trans k.1.symm), h.2 j hj, k.2 j hj, List.any_append]⟩

def Keys (l : List Int) : Prop := l.length ≤ 80 ∧ ∀ k, k ∈ l → 0 ≤ k ∧ k ≤ 9999

theorem of_ret {N : Nat} {l : List Int} (hN : 1000000 < N) (hl : l.length ≤ 1000) : Ret (impl_FilterOf N l) (fun z => (z.1.2.1 = true ∧ Keys l ∧ Has z.1.1 l) ∨ (z.1.2.1 = false ∧ ¬ Keys l)) := by
  unfold impl_FilterOf
  refine Ret.ite (fun h => ?_) (fun h => ?_)
  · have h1 : (l.length : Int) > 80 := by simpa using h
    exact Ret.ret (.inr ⟨rfl, fun hk => by have := hk.1; omega⟩)
  · have h1 : l.length ≤ 80 := by have := of_decide_eq_false h; omega
    refine Ret.bind (Ret.of_eq (P := fun r => r.1.1 = List.replicate 64 false) (new_eq N) rfl) (fun r hr => ?_)
    rw [hr]
    refine Ret.seg (fun j => Keys l ∧ Has j.1 l) ?_ (fun _ => rfl) (fun e he => Ret.ret (.inl ⟨rfl, he⟩))
    refine Ret.iter (fun e => 0 ≤ e.1 ∧ e.1 ≤ (l.length : Int) ∧ Has e.2.1 (l.take e.1.toNat) ∧ ∀ k, k ∈ l.take e.1.toNat → 0 ≤ k ∧ k ≤ 9999) (fun e => ((l.length : Int) - e.1).toNat)
      ⟨by simp, by simp, ⟨by simp, fun j hj => (by
        show (List.replicate 64 false).getD j false = false
        rw [List.getD_eq_getElem?_getD, List.getElem?_replicate]
        split <;> rfl)⟩, by simp⟩ (by simp; omega) (fun self e he ih => ?_)
    obtain ⟨q1, q2, q3, q4⟩ := he
    refine Ret.ite (fun h2 => ?_) (fun h2 => ?_)
    · have h3 : e.1 < (l.length : Int) := by simpa using h2
      refine Ret.guard (by simp; omega) ?_
      refine Ret.bind (put_ret2 hN q3.1) (fun z hz => ?_)
      obtain ⟨hz1, hz2⟩ := hz
      have hmem := getD_mem l e.1.toNat (by omega)
      refine Ret.ite (fun h4 => ?_) (fun h4 => ?_)
      · rw [hz1] at h4
        have h5 : ¬ (0 ≤ l.getD e.1.toNat 0 ∧ l.getD e.1.toNat 0 ≤ 9999) := by simpa only [Bool.not_eq_true', decide_eq_false_iff_not] using h4
        exact Ret.ret (.inr ⟨rfl, fun hk => h5 (hk.2 _ hmem)⟩)
      · rw [hz1] at h4
        have h5 : 0 ≤ l.getD e.1.toNat 0 ∧ l.getD e.1.toNat 0 ≤ 9999 := by simpa only [Bool.not_eq_false', decide_eq_true_eq] using h4
        have h6 := hz2 h5
        have htk : l.take (e.1.toNat + 1) = l.take e.1.toNat ++ [l.getD e.1.toNat 0] := by
          rw [List.take_add_one, List.getD_eq_getElem?_getD, List.getElem?_eq_getElem (by omega)]; rfl
        refine ih _ ?_ ?_
        · simp only [wrap_id (a := e.1 + 1) (by omega) (by omega)]
          refine ⟨by omega, by omega, ?_, ?_⟩
          · rw [show (e.1 + 1).toNat = e.1.toNat + 1 by omega, htk]
            refine ⟨h6.1, fun j hj => ?_⟩
            rw [h6.2 j hj, q3.2 j hj, List.any_append]
            simp
          · rw [show (e.1 + 1).toNat = e.1.toNat + 1 by omega, htk]
            intro k hk
            simp only [List.mem_append, List.mem_singleton] at hk
            rcases hk with hk | hk
            · exact q4 k hk
            · rw [hk]; exact h5
        · simp only [wrap_id (a := e.1 + 1) (by omega) (by omega)]; omega
    · have h3 : ¬ e.1 < (l.length : Int) := by simpa using h2
      rw [List.take_of_length_le (by omega)] at q3 q4
      exact Ret.ret ⟨⟨h1, q4⟩, q3⟩

/-! ### draws -/

theorem filter_ret {N : Nat} {c : List Int} {a sd : Int} (hN : 1000000 < N) (hc : Bytes c) (h0 : 0 ≤ a) (h1 : a ≤ 999990000) :
    Ret (spec_l1Cur_filter N (c, (a, sd))) (fun z => z.1.1.length ≤ 64 ∧ a ≤ z.2.1.2.1 ∧ z.2.1.2.1 ≤ a + 40) := by
  unfold spec_l1Cur_filter
  refine Ret.bind (Ret.of_eq (P := fun r => r.1.1 = List.replicate 64 false) (snew_eq N) rfl) (fun r hr => ?_)
  refine Ret.bind (pick_ret hc h0 (by omega)) (fun r2 h2 => ?_)
  obtain ⟨p1, p2, p3, p4⟩ := h2
  have p2' : r2.1.1 ≤ 7 := by rcases p2 with p | p <;> omega
  refine Ret.bind (Q := fun (j : (((List Int) × (Int × Int)) × ((List Bool) × Unit))) => j.2.1.length = 64 ∧ a ≤ j.1.2.1 ∧ j.1.2.1 ≤ a + 30) ?_ (fun j hj => ?_)
  · rw [hr]
    refine Ret.iter (fun e => 0 ≤ e.1 ∧ e.1 ≤ 7 ∧ a ≤ e.2.1.2.1 ∧ e.2.1.2.1 ≤ a + 16 - 2 * e.1 ∧ e.2.2.1.length = 64) (fun e => e.1.toNat) ⟨p1, p2', p3, by show r2.2.1.2.1 ≤ a + 16 - 2 * r2.1.1; omega, by simp⟩ (by show r2.1.1.toNat < N; omega) (fun self e he ih => ?_)
    obtain ⟨q1, q2, q3, q4, q5⟩ := he
    refine Ret.ite (fun h => ?_) (fun h => Ret.ret ⟨q5, q3, by show e.2.1.2.1 ≤ a + 30; omega⟩)
    have hp : e.1 > 0 := by simpa using h
    refine Ret.bind (pick_ret (a := e.2.1.2.1) (sd := e.2.1.2.2) hc (by omega) (by omega)) (fun r5 h5 => ?_)
    obtain ⟨s1, s2, s3, s4⟩ := h5
    refine Ret.bind (spec_put_ret hN q5 s1 (by rcases s2 with s | s <;> omega)) (fun r6 h6 => ?_)
    refine ih _ ?_ ?_
    · simp only [wrap_id (a := e.1 - 1) (by omega) (by omega)]
      exact ⟨by omega, by omega, by omega, by omega, h6⟩
    · simp only [wrap_id (a := e.1 - 1) (by omega) (by omega)]; omega
  · obtain ⟨q1, q2, q3⟩ := hj
    refine Ret.bind (one_ret (a := j.1.2.1) (sd := j.1.2.2) hc (by omega) (by omega)) (fun r8 h8 => ?_)
    refine Ret.bind (Q := fun (t : (List Bool) × Unit) => t.1.length ≤ 64) ?_ (fun t ht => Ret.ret ⟨ht, by show a ≤ r8.2.1.2.1; omega, by show r8.2.1.2.1 ≤ a + 40; omega⟩)
    refine Ret.ite (fun _ => Ret.guard (by simp [q1]) (Ret.ret (by simp; omega))) (fun _ => Ret.ret (by show j.2.1.length ≤ 64; omega))

theorem drawJoin_ret {N : Nat} {c : List Int} (hN : 1000000 < N) (hc : Bytes c) : Ret (spec_DrawJoinFilters N c) (fun _ => True) := by
  unfold spec_DrawJoinFilters
  refine Ret.bind (filter_ret hN hc (by omega) (by omega)) (fun r hr => ?_)
  exact Ret.bind (filter_ret (a := r.2.1.2.1) (sd := r.2.1.2.2) hN hc (by omega) (by omega)) (fun r2 hr2 => Ret.ret trivial)

theorem drawOnes_ret {N : Nat} {c : List Int} (hN : 1000000 < N) (hc : Bytes c) : Ret (spec_DrawOnesIn N c) (fun _ => True) := by
  unfold spec_DrawOnesIn spec_DrawGoodFilter
  refine Ret.bind (Q := fun _ => True) ?_ (fun r hr => Ret.ret trivial)
  exact Ret.bind (filter_ret hN hc (by omega) (by omega)) (fun r hr => Ret.ret trivial)

theorem drawBits_ret {N : Nat} {c : List Int} (hc : Bytes c) : Ret (spec_DrawBitsFor N c) (fun z => -1 ≤ z.1.1 ∧ z.1.1 ≤ 10000) := by
  unfold spec_DrawBitsFor
  exact Ret.bind (key12_ret hc (by omega) (by omega)) (fun r hr => Ret.ret ⟨hr.1, hr.2.1⟩)

theorem drawOf_ret {N : Nat} {c : List Int} (hN : 1000000 < N) (hc : Bytes c) : Ret (spec_DrawFilterOf N c) (fun z => z.1.1.length ≤ 100) := by
  unfold spec_DrawFilterOf
  refine Ret.bind (pick_ret hc (by omega) (by omega)) (fun r1 h1 => ?_)
  obtain ⟨p1, p2, p3, p4⟩ := h1
  have p2' : r1.1.1 ≤ 7 := by rcases p2 with p | p <;> omega
  refine Ret.bind (one_ret (a := r1.2.1.2.1) (sd := r1.2.1.2.2) hc (by omega) (by omega)) (fun r2 h2 => ?_)
  refine Ret.bind (Q := fun (j : Int × (((List Int) × (Int × Int)) × Unit)) => 0 ≤ j.1 ∧ j.1 ≤ 82 ∧ 0 ≤ j.2.1.2.1 ∧ j.2.1.2.1 ≤ 10) ?_ (fun j hj => ?_)
  · refine Ret.ite (fun _ => ?_) (fun _ => Ret.ret ⟨p1, by show r1.1.1 ≤ 82; omega, by show 0 ≤ r2.2.1.2.1; omega, by show r2.2.1.2.1 ≤ 10; omega⟩)
    refine Ret.bind (pick_ret (a := r2.2.1.2.1) (sd := r2.2.1.2.2) hc (by omega) (by omega)) (fun r3 h3 => Ret.ret ?_)
    obtain ⟨s1, s2, s3, s4⟩ := h3
    have s2' : r3.1.1 ≤ 1 := by rcases s2 with s | s <;> omega
    have hw : IntKind.i64.wrap (80 + r3.1.1) = 80 + r3.1.1 := wrap_id (by omega) (by omega)
    exact ⟨by show 0 ≤ IntKind.i64.wrap (80 + r3.1.1); omega, by show IntKind.i64.wrap (80 + r3.1.1) ≤ 82; omega, by show 0 ≤ r3.2.1.2.1; omega, by show r3.2.1.2.1 ≤ 10; omega⟩
  · obtain ⟨q1, q2, q3, q4⟩ := hj
    refine Ret.bind (Q := fun (t : (List Int) × Unit) => t.1.length ≤ 100) ?_ (fun t ht => Ret.ret ht)
    refine Ret.iter (fun e => 0 ≤ e.2.1 ∧ e.2.1 ≤ 82 ∧ (e.1.length : Int) = j.1 - e.2.1 ∧ 0 ≤ e.2.2.1.2.1 ∧ e.2.2.1.2.1 ≤ 10 + 6 * (e.1.length : Int)) (fun e => e.2.1.toNat) ⟨q1, q2, by simp, q3, by simpa using q4⟩ (by show j.1.toNat < N; omega) (fun self e he ih => ?_)
    obtain ⟨t1, t2, t3, t4, t5⟩ := he
    refine Ret.ite (fun h => ?_) (fun h => Ret.ret (by show e.1.length ≤ 100; omega))
    have hp : e.2.1 > 0 := by simpa using h
    refine Ret.bind (key12_ret (a := e.2.2.1.2.1) (sd := e.2.2.1.2.2) hc (by omega) (by omega)) (fun r7 h7 => ?_)
    refine Ret.guard (by simp; omega) (ih _ ?_ ?_)
    · simp only [wrap_id (a := e.2.1 - 1) (by omega) (by omega)]
      exact ⟨by omega, by omega, by simp; omega, by omega, by simp; omega⟩
    · simp only [wrap_id (a := e.2.1 - 1) (by omega) (by omega)]; omega
end Go.Vf
