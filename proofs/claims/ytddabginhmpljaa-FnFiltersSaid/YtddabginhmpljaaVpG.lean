/- Plain law: keys in filters, and how many places are set. -/
import Derived.Test.YtddabginhmpljaaVpF
namespace Go.Vf
set_option linter.unusedVariables false
set_option linter.unusedSimpArgs false

def setAll (f : List Bool) (s : List Int) : Bool := s.all fun b => f.getD b.toNat false

theorem index_ret {N : Nat} {s : List Int} {f : List Bool} (hN : s.length < N) (hl : s.length ≤ 1000000) (hs : ∀ x, x ∈ s → 0 ≤ x ∧ x < (f.length : Int)) :
    Ret (slices_IndexFunc_int_int_impl_MayHave_1 N s f) (fun z => decide (z.1.1 ≥ 0) = !setAll f s) := by
  unfold slices_IndexFunc_int_int_impl_MayHave_1
  refine Ret.seg (fun _ => setAll f s = true) ?_ (fun _ => rfl) (fun e he => Ret.ret (by rw [he]; rfl))
  refine Ret.iter (fun e => 0 ≤ e.1 ∧ e.1 ≤ (s.length : Int) ∧ ∀ j : Nat, (j : Int) < e.1 → f.getD (s.getD j 0).toNat false = true) (fun e => ((s.length : Int) - e.1).toNat) ⟨by simp, by simp, fun j hj => by simp at hj; omega⟩ (by simp; omega) (fun self e he ih => ?_)
  obtain ⟨q1, q2, q3⟩ := he
  refine Ret.ite (fun h => ?_) (fun h => ?_)
  · have h1 : e.1 < (s.length : Int) := by simpa using h
    refine Ret.guard (by simp; omega) ?_
    have hm := getD_mem s e.1.toNat (by omega)
    refine Ret.bind (Q := fun r => r.1.1 = !f.getD (s.getD e.1.toNat 0).toNat false) ?_ (fun r hr => ?_)
    · have := hs _ hm
      exact Ret.guard (by simp only [Bool.and_eq_true, decide_eq_true_eq]; exact this) (Ret.ret rfl)
    · refine Ret.ite (fun h2 => ?_) (fun h2 => ?_)
      · rw [hr] at h2
        refine Ret.ret ?_
        show decide (e.1 ≥ 0) = !setAll f s
        have hb : setAll f s = false := by
          unfold setAll
          rw [List.all_eq_false]
          exact ⟨_, hm, by simpa using h2⟩
        rw [hb]; simp; omega
      · rw [hr] at h2
        refine ih _ ?_ ?_
        · simp only [wrap_id (a := e.1 + 1) (by omega) (by omega)]
          refine ⟨by omega, by omega, fun j hj => ?_⟩
          by_cases hje : (j : Int) = e.1
          · have : j = e.1.toNat := by omega
            rw [this]; simpa using h2
          · exact q3 j (by omega)
        · simp only [wrap_id (a := e.1 + 1) (by omega) (by omega)]; omega
  · have h1 : ¬ e.1 < (s.length : Int) := by simpa using h
    refine Ret.ret ?_
    show setAll f s = true
    unfold setAll
    rw [List.all_eq_true]
    intro x hx
    obtain ⟨j, hj, rfl⟩ := List.getElem_of_mem hx
    have := q3 j (by omega)
    simpa [List.getD_eq_getElem?_getD, List.getElem?_eq_getElem hj] using this

theorem may_eq {N : Nat} {f : List Bool} {k : Int} (hN : 1000000 < N) (hf : f.length = 64) (h0 : 0 ≤ k) (h1 : k ≤ 9999) : impl_MayHave N f k = some ((setAll f (bits k), (true, ())), ((), ((), ()))) := by
  refine Ret.eq ?_
  unfold impl_MayHave
  rw [good_eq, isKey_eq]
  refine Ret.bind (Q := fun j => j.1 = false) ⟨(false, ()), by simp [hf, h0, h1], rfl⟩ (fun j hj => ?_)
  rw [hj]
  refine Ret.bind (Ret.of_eq (P := fun r => r.1.1 = bits k) (implBits_eq hN (by omega) (by omega)) rfl) (fun r hr => ?_)
  refine Ret.bind (Q := fun r5 => r5.1.1 = !setAll f (bits k)) ?_ (fun r5 h5 => Ret.ret (by rw [h5]; simp))
  have hl := bitsTo_length k 3
  refine Ret.bind (index_ret (f := f) (by rw [hr]; unfold bits; omega) (by rw [hr]; unfold bits; omega) (fun x hx => by
    rw [hr] at hx
    have := bits_range h0 x hx
    omega)) (fun z hz => Ret.ret ?_)
  rw [hr] at hz
  exact hz

theorem setAll_meet {a b : List Bool} (h : a.length = b.length) (s : List Int) : setAll (meetF a b) s = (setAll a s && setAll b s) := by
  unfold setAll
  induction s with
  | nil => rfl
  | cons x xs ih =>
    simp only [List.all_cons]
    rw [ih, meetF_getD h]
    generalize a.getD x.toNat false = p
    generalize b.getD x.toNat false = q
    generalize (xs.all fun b => a.getD b.toNat false) = r
    generalize (xs.all fun i => b.getD i.toNat false) = t
    cases p <;> cases q <;> cases r <;> cases t <;> rfl

theorem setAll_join {a b : List Bool} (h : a.length = b.length) (s : List Int) (hs : setAll a s = true ∨ setAll b s = true) : setAll (joinF a b) s = true := by
  unfold setAll at *
  rw [List.all_eq_true]
  intro x hx
  rw [joinF_getD h]
  rcases hs with q | q
  · rw [List.all_eq_true] at q; simp only [q x hx, Bool.true_or]
  · rw [List.all_eq_true] at q; simp only [q x hx, Bool.or_true]

/-! ### how many are set -/

def ones (f : List Bool) : Nat := f.countP id
def onesF (f : List Bool) : Int × (Bool × Unit) := if f.length = 64 then ((ones f : Int), (true, ())) else (0, (false, ()))

theorem ones_le (f : List Bool) : ones f ≤ f.length := List.countP_le_length

theorem ones_take (f : List Bool) (i : Nat) : ones (f.take (i + 1)) = ones (f.take i) + if f.getD i false then 1 else 0 := by
  unfold ones
  rw [List.take_add_one, List.countP_append]
  congr 1
  simp only [List.getD_eq_getElem?_getD]
  cases f[i]? with
  | none => rfl
  | some b => cases b <;> rfl

theorem ones_join_meet : ∀ {a b : List Bool}, a.length = b.length → ones (joinF a b) + ones (meetF a b) = ones a + ones b
  | [], [], _ => rfl
  | x :: xs, y :: ys, h => by
    have := ones_join_meet (a := xs) (b := ys) (by simpa using h)
    unfold ones joinF meetF at *
    simp only [List.zipWith_cons_cons, List.countP_cons]
    cases x <;> cases y <;> simp <;> omega
  | [], _ :: _, h => by simp at h
  | _ :: _, [], h => by simp at h

theorem ones_eq {N : Nat} (hN : 1000000 < N) (f : List Bool) : impl_OnesIn N f = some (onesF f, ((), ())) := by
  refine Ret.eq ?_
  unfold impl_OnesIn
  refine Ret.bind (Ret.of_eq (P := fun r => r.1.1 = decide (f.length = 64)) (good_eq N f) rfl) (fun r hr => Ret.ite (fun h => ?_) (fun h => ?_))
  · rw [hr] at h
    have h1 : ¬ f.length = 64 := by simpa using h
    exact Ret.ret (by rw [onesF, if_neg h1])
  · rw [hr] at h
    have h1 : f.length = 64 := by simpa using h
    refine Ret.bind (Q := fun j => j.1 = (ones f : Int)) ?_ (fun j hj => Ret.ret (by rw [onesF, if_pos h1, hj]))
    refine Ret.iter (fun e => 0 ≤ e.2.1 ∧ e.2.1 ≤ 64 ∧ e.1 = (ones (f.take e.2.1.toNat) : Int)) (fun e => (64 - e.2.1).toNat) ⟨by simp, by simp, by simp [ones]⟩ (by simp; omega) (fun self e he ih => ?_)
    obtain ⟨q1, q2, q3⟩ := he
    refine Ret.ite (fun h2 => ?_) (fun h2 => ?_)
    · have h3 : e.2.1 < 64 := by simpa [h1] using h2
      refine Ret.guard (by simp; omega) ?_
      have hle := ones_le (f.take e.2.1.toNat)
      have hle2 : ones (f.take e.2.1.toNat) ≤ 64 := by simp at hle; omega
      have hst := ones_take f e.2.1.toNat
      refine Ret.bind (Q := fun j => j.1 = (ones (f.take (e.2.1.toNat + 1)) : Int)) ?_ (fun j hj => ?_)
      · refine Ret.ite (fun h4 => Ret.ret ?_) (fun h4 => Ret.ret ?_)
        · rw [hst, if_pos h4]
          show IntKind.i64.wrap (e.1 + 1) = _
          rw [wrap_id (by omega) (by omega)]; omega
        · rw [hst, if_neg (by rw [h4]; decide)]
          show e.1 = _
          omega
      · refine ih _ ?_ ?_
        · simp only [wrap_id (a := e.2.1 + 1) (by omega) (by omega)]
          refine ⟨by omega, by omega, ?_⟩
          rw [hj, show (e.2.1 + 1).toNat = e.2.1.toNat + 1 by omega]
        · simp only [wrap_id (a := e.2.1 + 1) (by omega) (by omega)]; omega
    · have h3 : ¬ e.2.1 < 64 := by simpa [h1] using h2
      refine Ret.ret ?_
      show e.1 = _
      rw [q3, List.take_of_length_le (by omega)]

theorem sones_eq {N : Nat} (hN : 1000000 < N) (f : List Bool) : spec_OnesIn N f = some (onesF f, ((), ())) := by
  refine Ret.eq ?_
  unfold spec_OnesIn
  refine Ret.bind (Ret.of_eq (P := fun r => r.1.1 = decide (f.length = 64)) (sgood_eq N f) rfl) (fun r hr => Ret.ite (fun h => ?_) (fun h => ?_))
  · rw [hr] at h
    have h1 : ¬ f.length = 64 := by simpa using h
    exact Ret.ret (by rw [onesF, if_neg h1])
  · rw [hr] at h
    have h1 : f.length = 64 := by simpa using h
    refine Ret.bind (Q := fun j => j.1 = (ones f : Int)) ?_ (fun j hj => Ret.ret (by rw [onesF, if_pos h1, hj]))
    refine Ret.iter (fun e => 0 ≤ e.2.1 ∧ e.2.1 ≤ 64 ∧ e.1 = (ones (f.take e.2.1.toNat) : Int)) (fun e => (64 - e.2.1).toNat) ⟨by simp, by simp, by simp [ones]⟩ (by simp; omega) (fun self e he ih => ?_)
    obtain ⟨q1, q2, q3⟩ := he
    refine Ret.ite (fun h2 => ?_) (fun h2 => ?_)
    · have h3 : e.2.1 < 64 := by simpa [h1] using h2
      refine Ret.guard (by simp; omega) ?_
      have hle := ones_le (f.take e.2.1.toNat)
      have hle2 : ones (f.take e.2.1.toNat) ≤ 64 := by simp at hle; omega
      have hst := ones_take f e.2.1.toNat
      refine Ret.bind (Q := fun j => j.1.1 = if f.getD e.2.1.toNat false then 1 else 0) ?_ (fun j hj => ?_)
      · exact Ret.ite (fun h4 => Ret.ret (by rw [if_pos h4])) (fun h4 => Ret.ret (by rw [if_neg (by rw [h4]; decide)]))
      · have hw : IntKind.i64.wrap (e.1 + j.1.1) = (ones (f.take (e.2.1.toNat + 1)) : Int) := by
          rw [hst, hj]
          split <;> rw [wrap_id (by omega) (by omega)] <;> omega
        refine ih _ ?_ ?_
        · simp only [wrap_id (a := e.2.1 + 1) (by omega) (by omega), hw]
          refine ⟨by omega, by omega, ?_⟩
          rw [show (e.2.1 + 1).toNat = e.2.1.toNat + 1 by omega]
        · simp only [wrap_id (a := e.2.1 + 1) (by omega) (by omega)]; omega
    · have h3 : ¬ e.2.1 < 64 := by simpa [h1] using h2
      refine Ret.ret ?_
      show e.1 = _
      rw [q3, List.take_of_length_le (by omega)]
end Go.Vf
