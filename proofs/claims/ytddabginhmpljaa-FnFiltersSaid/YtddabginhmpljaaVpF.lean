/- Plain law: filters joined and met. -/
import Derived.Test.YtddabginhmpljaaVpE
namespace Go.Vf
set_option linter.unusedVariables false
set_option linter.unusedSimpArgs false

theorem getD_set {α : Type} (l : List α) (i j : Nat) (x d : α) (hi : i < l.length) : (l.set i x).getD j d = if j = i then x else l.getD j d := by
  simp only [List.getD_eq_getElem?_getD, List.getElem?_set]
  by_cases h : i = j
  · subst h; simp [hi]
  · simp [h, Ne.symm h]

theorem ext_getD {α : Type} {l m : List α} (d : α) (hl : l.length = m.length) (h : ∀ j, j < l.length → l.getD j d = m.getD j d) : l = m := by
  refine List.ext_getElem hl (fun i h1 h2 => ?_)
  have := h i h1
  simpa [List.getD_eq_getElem?_getD, List.getElem?_eq_getElem h1, List.getElem?_eq_getElem h2] using this

def joinF (a b : List Bool) : List Bool := List.zipWith (· || ·) a b
def meetF (a b : List Bool) : List Bool := List.zipWith (· && ·) a b

theorem joinF_length {a b : List Bool} (ha : a.length = 64) (hb : b.length = 64) : (joinF a b).length = 64 := by simp [joinF, ha, hb]
theorem meetF_length {a b : List Bool} (ha : a.length = 64) (hb : b.length = 64) : (meetF a b).length = 64 := by simp [meetF, ha, hb]

theorem joinF_getD {a b : List Bool} (h : a.length = b.length) (j : Nat) : (joinF a b).getD j false = (a.getD j false || b.getD j false) := by
  simp only [joinF, List.getD_eq_getElem?_getD, List.getElem?_zipWith]
  by_cases hj : j < a.length
  · rw [List.getElem?_eq_getElem hj, List.getElem?_eq_getElem (by omega : j < b.length)]; rfl
  · rw [List.getElem?_eq_none (by omega), List.getElem?_eq_none (by omega : b.length ≤ j)]; rfl

theorem meetF_getD {a b : List Bool} (h : a.length = b.length) (j : Nat) : (meetF a b).getD j false = (a.getD j false && b.getD j false) := by
  simp only [meetF, List.getD_eq_getElem?_getD, List.getElem?_zipWith]
  by_cases hj : j < a.length
  · rw [List.getElem?_eq_getElem hj, List.getElem?_eq_getElem (by omega : j < b.length)]; rfl
  · rw [List.getElem?_eq_none (by omega), List.getElem?_eq_none (by omega : b.length ≤ j)]; rfl

/-- what a filter made of two is, with whether it is one -/
def twoF (f : List Bool → List Bool → List Bool) (a b : List Bool) : List Bool × (Bool × Unit) := if a.length = 64 ∧ b.length = 64 then (f a b, (true, ())) else ([], (false, ()))

theorem good_eq (N : Nat) (f : List Bool) : impl_GoodFilter N f = some ((decide (f.length = 64), ()), ((), ())) := by
  unfold impl_GoodFilter
  have : ((f.length : Int) == 64) = decide (f.length = 64) := by
    show decide ((f.length : Int) = 64) = _
    exact decide_eq_decide.2 (by omega)
  rw [this]

theorem sgood_eq (N : Nat) (f : List Bool) : spec_GoodFilter N f = some ((decide (f.length = 64), ()), ((), ())) := good_eq N f

theorem new_eq (N : Nat) : impl_NewFilter N = some ((List.replicate 64 false, ()), ()) := rfl
theorem snew_eq (N : Nat) : spec_NewFilter N = some ((List.replicate 64 false, ()), ()) := rfl

theorem notGood (N : Nat) (a b : List Bool) : Ret (Option.bind (impl_GoodFilter N a) fun r1 => bif (!r1.1.1) then some (true, ()) else Option.bind (impl_GoodFilter N b) fun r2 => some ((!r2.1.1), ())) (fun j => j.1 = !decide (a.length = 64 ∧ b.length = 64)) := by
  rw [good_eq, good_eq]
  by_cases h1 : a.length = 64 <;> by_cases h2 : b.length = 64 <;> simp [h1, h2, Ret]

theorem fill {N : Nat} {g l0 : List Bool} {F : (Int × ((List Bool) × Unit) → Option ((List Bool) × Unit)) → Int × ((List Bool) × Unit) → Option ((List Bool) × Unit)} (hN : 1000000 < N) (hg : g.length = 64) (h0 : l0.length = 64)
    (hend : ∀ self (e : Int × ((List Bool) × Unit)), e.1 = 64 → e.2.1.length = 64 → F self e = some (e.2.1, ()))
    (hstep : ∀ self (e : Int × ((List Bool) × Unit)) (P : (List Bool) × Unit → Prop), 0 ≤ e.1 → e.1 < 64 → e.2.1.length = 64 → e.2.1.getD e.1.toNat false = l0.getD e.1.toNat false → Ret (self (e.1 + 1, (e.2.1.set e.1.toNat (g.getD e.1.toNat false), ()))) P → Ret (F self e) P) :
    Ret (iter N F (0, (l0, ()))) (fun j => j.1 = g) := by
  refine Ret.iter (fun e => 0 ≤ e.1 ∧ e.1 ≤ 64 ∧ e.2.1.length = 64 ∧ (∀ j : Nat, (j : Int) < e.1 → e.2.1.getD j false = g.getD j false) ∧ ∀ j : Nat, e.1 ≤ (j : Int) → e.2.1.getD j false = l0.getD j false) (fun e => (64 - e.1).toNat) ⟨by simp, by simp, h0, fun j hj => by simp at hj; omega, fun _ _ => rfl⟩ (by simp; omega) (fun self e he ih => ?_)
  obtain ⟨q1, q2, q3, q4, q5⟩ := he
  by_cases h : e.1 = 64
  · rw [hend self e h q3]
    exact Ret.ret (ext_getD (l := e.2.1) false (by omega) (fun j hj => q4 j (by omega)))
  · refine hstep self e _ q1 (by omega) q3 (q5 _ (by omega)) (ih _ ⟨by simp; omega, by simp; omega, by simp [q3], fun j hj => ?_, fun j hj => ?_⟩ (by simp; omega))
    · simp only at hj
      rw [getD_set _ _ _ _ _ (by omega)]
      split
      · rename_i hh; rw [hh]
      · exact q4 j (by omega)
    · simp only at hj
      rw [getD_set _ _ _ _ _ (by omega), if_neg (by omega)]
      exact q5 j (by omega)

theorem join_eq {N : Nat} (hN : 1000000 < N) (a b : List Bool) : impl_JoinFilters N a b = some (twoF joinF a b, ((), ((), ()))) := by
  refine Ret.eq ?_
  unfold impl_JoinFilters impl_combined_impl_JoinFilters_1
  refine Ret.bind (Q := fun r => r.1 = twoF joinF a b) ?_ (fun r hr => Ret.ret (by rw [← hr]))
  refine Ret.bind (notGood N a b) (fun j hj => Ret.ite (fun h => ?_) (fun h => ?_))
  · rw [hj] at h
    have h1 : ¬ (a.length = 64 ∧ b.length = 64) := by simpa only [Bool.not_eq_true', decide_eq_false_iff_not] using h
    exact Ret.ret (by rw [twoF, if_neg h1])
  · rw [hj] at h
    have h1 : a.length = 64 ∧ b.length = 64 := by simpa using h
    refine Ret.bind (Q := fun r => r.1.1 = List.replicate 64 false) (Ret.of_eq (new_eq N) rfl) (fun r hr => ?_)
    rw [hr]
    refine Ret.bind (Q := fun j => j.1 = joinF a b) ?_ (fun j hj => Ret.ret (by rw [twoF, if_pos h1, hj]))
    refine fill (g := joinF a b) hN (joinF_length h1.1 h1.2) (by simp) (fun self e h2 h3 => ?_) (fun self e P h2 h3 h4 h5 hs => ?_)
    · simp [h2]
    · refine Ret.ite (fun _ => ?_) (fun h6 => by simp at h6; omega)
      refine Ret.guard (by simp; omega) (Ret.guard (by simp; omega) ?_)
      refine Ret.bind (Q := fun r => r.1.1 = (joinF a b).getD e.1.toNat false) ?_ (fun r hr => ?_)
      · rw [joinF_getD (by omega)]
        unfold impl_JoinFilters_1
        cases a.getD e.1.toNat false <;> simp [Ret]
      · refine Ret.guard (by simp; omega) ?_
        rw [hr, wrap_id (a := e.1 + 1) (by omega) (by omega)]
        exact hs

theorem meet_eq {N : Nat} (hN : 1000000 < N) (a b : List Bool) : impl_MeetFilters N a b = some (twoF meetF a b, ((), ((), ()))) := by
  refine Ret.eq ?_
  unfold impl_MeetFilters impl_combined_impl_MeetFilters_1
  refine Ret.bind (Q := fun r => r.1 = twoF meetF a b) ?_ (fun r hr => Ret.ret (by rw [← hr]))
  refine Ret.bind (notGood N a b) (fun j hj => Ret.ite (fun h => ?_) (fun h => ?_))
  · rw [hj] at h
    have h1 : ¬ (a.length = 64 ∧ b.length = 64) := by simpa only [Bool.not_eq_true', decide_eq_false_iff_not] using h
    exact Ret.ret (by rw [twoF, if_neg h1])
  · rw [hj] at h
    have h1 : a.length = 64 ∧ b.length = 64 := by simpa using h
    refine Ret.bind (Q := fun r => r.1.1 = List.replicate 64 false) (Ret.of_eq (new_eq N) rfl) (fun r hr => ?_)
    rw [hr]
    refine Ret.bind (Q := fun j => j.1 = meetF a b) ?_ (fun j hj => Ret.ret (by rw [twoF, if_pos h1, hj]))
    refine fill (g := meetF a b) hN (meetF_length h1.1 h1.2) (by simp) (fun self e h2 h3 => ?_) (fun self e P h2 h3 h4 h5 hs => ?_)
    · simp [h2]
    · refine Ret.ite (fun _ => ?_) (fun h6 => by simp at h6; omega)
      refine Ret.guard (by simp; omega) (Ret.guard (by simp; omega) ?_)
      refine Ret.bind (Q := fun r => r.1.1 = (meetF a b).getD e.1.toNat false) ?_ (fun r hr => ?_)
      · rw [meetF_getD (by omega)]
        unfold impl_MeetFilters_1
        cases a.getD e.1.toNat false <;> simp [Ret]
      · refine Ret.guard (by simp; omega) ?_
        rw [hr, wrap_id (a := e.1 + 1) (by omega) (by omega)]
        exact hs

theorem sjoin_eq {N : Nat} (hN : 1000000 < N) (a b : List Bool) : spec_JoinFilters N a b = some (twoF joinF a b, ((), ((), ()))) := by
  refine Ret.eq ?_
  unfold spec_JoinFilters
  refine Ret.bind (notGood N a b) (fun j hj => Ret.ite (fun h => ?_) (fun h => ?_))
  · rw [hj] at h
    have h1 : ¬ (a.length = 64 ∧ b.length = 64) := by simpa only [Bool.not_eq_true', decide_eq_false_iff_not] using h
    exact Ret.ret (by rw [twoF, if_neg h1])
  · rw [hj] at h
    have h1 : a.length = 64 ∧ b.length = 64 := by simpa using h
    refine Ret.bind (Q := fun r => r.1.1 = a) (Ret.guard (by simp [h1.1]) (Ret.ret (by simp))) (fun r hr => ?_)
    rw [hr]
    refine Ret.bind (Q := fun j => j.1 = joinF a b) ?_ (fun j hj => Ret.ret (by rw [twoF, if_pos h1, hj]))
    refine fill (g := joinF a b) hN (joinF_length h1.1 h1.2) h1.1 (fun self e h2 h3 => ?_) (fun self e P h2 h3 h4 h5 hs => ?_)
    · simp [h2, h1.2]
    · refine Ret.ite (fun _ => ?_) (fun h6 => by simp at h6; omega)
      refine Ret.guard (by simp; omega) ?_
      rw [joinF_getD (by omega), ← h5] at hs
      refine Ret.bind (Q := fun r => r.1 = e.2.1.set e.1.toNat (e.2.1.getD e.1.toNat false || b.getD e.1.toNat false)) ?_ (fun r hr => ?_)
      · refine Ret.guard (by simp; omega) (Ret.ite (fun h7 => Ret.guard (by simp; omega) (Ret.ret (by rw [h7]; rfl))) (fun h7 => Ret.guard (by simp; omega) (Ret.ret (by rw [h7]; rfl))))
      · rw [hr, wrap_id (a := e.1 + 1) (by omega) (by omega)]
        exact hs

theorem smeet_eq {N : Nat} (hN : 1000000 < N) (a b : List Bool) : spec_MeetFilters N a b = some (twoF meetF a b, ((), ((), ()))) := by
  refine Ret.eq ?_
  unfold spec_MeetFilters
  refine Ret.bind (notGood N a b) (fun j hj => Ret.ite (fun h => ?_) (fun h => ?_))
  · rw [hj] at h
    have h1 : ¬ (a.length = 64 ∧ b.length = 64) := by simpa only [Bool.not_eq_true', decide_eq_false_iff_not] using h
    exact Ret.ret (by rw [twoF, if_neg h1])
  · rw [hj] at h
    have h1 : a.length = 64 ∧ b.length = 64 := by simpa using h
    refine Ret.bind (Q := fun r => r.1.1 = a) (Ret.guard (by simp [h1.1]) (Ret.ret (by simp))) (fun r hr => ?_)
    rw [hr]
    refine Ret.bind (Q := fun j => j.1 = meetF a b) ?_ (fun j hj => Ret.ret (by rw [twoF, if_pos h1, hj]))
    refine fill (g := meetF a b) hN (meetF_length h1.1 h1.2) h1.1 (fun self e h2 h3 => ?_) (fun self e P h2 h3 h4 h5 hs => ?_)
    · simp [h2, h1.2]
    · refine Ret.ite (fun _ => ?_) (fun h6 => by simp at h6; omega)
      refine Ret.guard (by simp; omega) ?_
      rw [meetF_getD (by omega), ← h5] at hs
      refine Ret.bind (Q := fun r => r.1 = e.2.1.set e.1.toNat (e.2.1.getD e.1.toNat false && b.getD e.1.toNat false)) ?_ (fun r hr => ?_)
      · refine Ret.guard (by simp; omega) (Ret.ite (fun h7 => Ret.guard (by simp; omega) (Ret.ret (by rw [h7]; rfl))) (fun h7 => Ret.guard (by simp; omega) (Ret.ret (by rw [h7]; rfl))))
      · rw [hr, wrap_id (a := e.1 + 1) (by omega) (by omega)]
        exact hs
end Go.Vf
