/- Plain law: the places of a key, by the program and by the reference. -/
import Derived.Test.YtddabginhmpljaaVpD
namespace Go.Vf
set_option linter.unusedVariables false
set_option linter.unusedSimpArgs false

def bitAt (k i : Int) : Int := Int.tmod (k * (2 * i + 7) + 13 * i) 61
def bitsTo (k : Int) : Nat → List Int
  | 0 => []
  | n + 1 => putF (bitsTo k n) (bitAt k n)
def rawTo (k : Int) : Nat → List Int
  | 0 => []
  | n + 1 => rawTo k n ++ [bitAt k n]
/-- the places of a key -/
def bits (k : Int) : List Int := bitsTo k 3

theorem putF_mem {l : List Int} {n x : Int} : x ∈ putF l n ↔ x ∈ l ∨ x = n := by
  induction l with
  | nil => simp [putF]
  | cons y ys ih =>
    simp only [putF]
    split
    · simp [ih, or_assoc]
    · split
      · rename_i h; subst h; simp; intro h; exact .inl h
      · simp; constructor
        · rintro (h | h | h) <;> simp [h]
        · rintro ((h | h) | h) <;> simp [h]

theorem putF_length (l : List Int) (n : Int) : (putF l n).length ≤ l.length + 1 := by
  induction l with
  | nil => simp [putF]
  | cons y ys ih =>
    simp only [putF]
    split
    · simp; omega
    · split <;> simp

theorem bitsTo_length (k : Int) (n : Nat) : (bitsTo k n).length ≤ n := by
  induction n with
  | zero => simp [bitsTo]
  | succ n ih => simp only [bitsTo]; have := putF_length (bitsTo k n) (bitAt k n); omega

theorem rawTo_length (k : Int) (n : Nat) : (rawTo k n).length = n := by
  induction n with
  | zero => simp [rawTo]
  | succ n ih => simp [rawTo, ih]

theorem bitAt_range {k : Int} (hk : 0 ≤ k) (n : Nat) : 0 ≤ bitAt k n ∧ bitAt k n < 61 := by
  have h1 : 0 ≤ k * (2 * (n : Int) + 7) := Int.mul_nonneg hk (by omega)
  exact ⟨Int.tmod_nonneg _ (by omega), Int.tmod_lt_of_pos _ (by decide)⟩

theorem bits_range {k : Int} (hk : 0 ≤ k) : ∀ b, b ∈ bits k → 0 ≤ b ∧ b < 61 := by
  intro b hb
  simp only [bits, bitsTo, putF_mem, List.not_mem_nil, false_or] at hb
  rcases hb with (h | h) | h <;> rw [h] <;> exact bitAt_range hk _

theorem step_eq {k i : Int} (hk : -1 ≤ k) (hk2 : k ≤ 1000000) (h0 : 0 ≤ i) (h3 : i ≤ 3) : Int.tmod (IntKind.i64.wrap (IntKind.i64.wrap (k * IntKind.i64.wrap (IntKind.i64.wrap (2 * i) + 7)) + IntKind.i64.wrap (13 * i))) 61 = bitAt k i := by
  have h1 : -1 * 13 ≤ k * (2 * i + 7) ∧ k * (2 * i + 7) ≤ 1000000 * 13 := by
    have h5 : 0 ≤ (k + 1) * (2 * i + 7) := Int.mul_nonneg (by omega) (by omega)
    have h6 : 0 ≤ (1000000 - k) * (2 * i + 7) := Int.mul_nonneg (by omega) (by omega)
    rw [Int.add_mul] at h5
    rw [Int.sub_mul] at h6
    generalize k * (2 * i + 7) = q at *
    omega
  rw [wrap_id (a := 2 * i) (by omega) (by omega), wrap_id (a := 2 * i + 7) (by omega) (by omega), wrap_id (a := 13 * i) (by omega) (by omega), wrap_id (a := k * (2 * i + 7)) (by omega) (by omega), wrap_id (by omega) (by omega)]
  rfl

theorem specBits_eq {N : Nat} {k : Int} (hN : 1000000 < N) (hk : -1 ≤ k) (hk2 : k ≤ 1000000) : spec_l13Bits N k = some ((bits k, ()), ((), ())) := by
  refine Ret.eq ?_
  unfold spec_l13Bits
  refine Ret.bind (Q := fun j => j.1 = bits k) ?_ (fun j hj => Ret.ret (by rw [hj]))
  refine Ret.iter (fun e => ∃ n : Nat, n ≤ 3 ∧ e.2.1 = n ∧ e.1 = bitsTo k n) (fun e => (3 - e.2.1).toNat) ⟨0, by omega, rfl, rfl⟩ (by show (3 : Int).toNat < N; have : (3 : Int).toNat = 3 := rfl; omega) (fun self e he ih => ?_)
  obtain ⟨n, h1, h2, h3⟩ := he
  refine Ret.ite (fun h => ?_) (fun h => ?_)
  · have hn : e.2.1 < 3 := by simpa using h
    extract_lets v3 v4
    refine Ret.guard (by decide) ?_
    have hv : Int.tmod v4 61 = bitAt k n := by
      have := step_eq (k := k) (i := e.2.1) hk hk2 (by omega) (by omega)
      rw [h2] at this
      rw [← this, ← h2]
    have hl := bitsTo_length k n
    rw [hv, h3, put_ret (by omega) (by omega)]
    refine ih _ ⟨n + 1, by omega, ?_, rfl⟩ ?_
    · simp only [wrap_id (a := e.2.1 + 1) (by omega) (by omega)]; omega
    · simp only [wrap_id (a := e.2.1 + 1) (by omega) (by omega)]; omega
  · have hn : ¬ e.2.1 < 3 := by simpa using h
    have : n = 3 := by omega
    subst this
    exact Ret.ret h3

theorem implBits_eq {N : Nat} {k : Int} (hN : 1000000 < N) (hk : -1 ≤ k) (hk2 : k ≤ 1000000) : impl_bitsFor N k = some ((bits k, ()), ((), ())) := by
  refine Ret.eq ?_
  unfold impl_bitsFor
  refine Ret.bind (Q := fun j => j.1 = rawTo k 3) ?_ (fun j hj => ?_)
  · refine Ret.iter (fun e => ∃ n : Nat, n ≤ 3 ∧ e.2.1 = n ∧ e.1 = rawTo k n) (fun e => (3 - e.2.1).toNat) ⟨0, by omega, rfl, rfl⟩ (by show (3 : Int).toNat < N; have : (3 : Int).toNat = 3 := rfl; omega) (fun self e he ih => ?_)
    obtain ⟨n, h1, h2, h3⟩ := he
    refine Ret.ite (fun h => ?_) (fun h => ?_)
    · have hn : e.2.1 < 3 := by simpa using h
      extract_lets v3 v4 v5
      have hv : Int.tmod v4 61 = bitAt k n := by
        have := step_eq (k := k) (i := e.2.1) hk hk2 (by omega) (by omega)
        rw [h2] at this
        rw [← this, ← h2]
      have hl := rawTo_length k n
      refine Ret.guard (by decide) (Ret.guard (by rw [h3]; simp [hl]; omega) (ih _ ⟨n + 1, by omega, ?_, ?_⟩ ?_))
      · simp only [wrap_id (a := e.2.1 + 1) (by omega) (by omega)]; omega
      · show e.1 ++ [Int.tmod v4 61] = rawTo k (n + 1)
        rw [h3, hv]; rfl
      · simp only [wrap_id (a := e.2.1 + 1) (by omega) (by omega)]; omega
    · have hn : ¬ e.2.1 < 3 := by simpa using h
      have : n = 3 := by omega
      subst this
      exact Ret.ret h3
  · have hb : compactI (sortI j.1) = bits k := by
      rw [hj]
      show compactI (sortI [bitAt k 0, bitAt k 1, bitAt k 2]) = _
      rw [bits3]
      rfl
    have hl := rawTo_length k 3
    have hs : (sortI j.1).length = 3 := by unfold sortI; rw [List.length_mergeSort, hj, hl]
    refine Ret.bind (Q := fun r => r.2.1 = sortI j.1) (Ret.guard (by rw [hj]; simp [hl]) (Ret.ret rfl)) (fun r hr => ?_)
    refine Ret.bind (Q := fun q => q.1.1 = bits k) (Ret.guard (by rw [hr]; simp [hs]) (Ret.ret (by show compactI r.2.1 = _; rw [hr, hb]))) (fun q hq => Ret.ret (by rw [hq]))

theorem isKey_eq (N : Nat) (k : Int) : impl_isKey N k = some ((decide (0 ≤ k ∧ k ≤ 9999), ()), ((), ())) := by
  unfold impl_isKey impl_within
  by_cases h : 0 ≤ k
  · simp [h]
  · simp [h]

theorem l12Key_eq (N : Nat) (k : Int) : spec_l12Key N k = some ((decide (0 ≤ k ∧ k ≤ 9999), ()), ((), ())) := by
  unfold spec_l12Key spec_l1In
  by_cases h : 0 ≤ k
  · simp [h]
  · simp [h]
end Go.Vf
