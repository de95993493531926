/- Plain law: the places of a key in a filter. -/
import Derived.Test.YtddabginhmpljaaVpC
namespace Go.Vf
def putF : List Int → Int → List Int
  | [], n => [n]
  | x :: xs, n => if x < n then x :: putF xs n else if x = n then x :: xs else n :: x :: xs

theorem sort3 (a b c : Int) : sortI [a, b, c] = if a ≤ b then (if a ≤ c then (if b ≤ c then [a, b, c] else [a, c, b]) else [c, a, b]) else (if b ≤ c then (if a ≤ c then [b, a, c] else [b, c, a]) else [c, b, a]) := by
  simp [sortI, List.mergeSort, List.MergeSort.Internal.splitInTwo, List.merge]
  (repeat' split) <;> simp [*] <;> omega

theorem c3 (a b c : Int) : compactI [a, b, c] = if a = b then (if b = c then [a] else [a, c]) else (if b = c then [a, b] else [a, b, c]) := by
  have k0 : Go.Lib.keeps #[a, b, c] 0 = true := by simp [Go.Lib.keeps]
  have k1 : Go.Lib.keeps #[a, b, c] 1 = !decide (a = b) := by
    by_cases h : a = b
    · simp [Go.Lib.keeps, h]
    · simp [Go.Lib.keeps, h, Ne.symm h]
  have k2 : Go.Lib.keeps #[a, b, c] 2 = !decide (b = c) := by
    by_cases h : b = c
    · simp [Go.Lib.keeps, h]
    · simp [Go.Lib.keeps, h, Ne.symm h]
  have hr : List.range 3 = [0, 1, 2] := rfl
  show ((List.range 3).filter (Go.Lib.keeps #[a, b, c])).map _ = _
  rw [hr]
  simp only [List.filter_cons, List.filter_nil, k0, k1, k2]
  by_cases h1 : a = b
  · by_cases h2 : b = c
    · simp [h1, h2]
    · simp [h1, h2]
  · by_cases h2 : b = c
    · subst h2; simp [h1]
    · simp [h1, h2]

theorem bits3 (a b c : Int) : compactI (sortI [a, b, c]) = putF (putF (putF [] a) b) c := by
  rw [sort3]
  (repeat' split) <;> rw [c3] <;> simp only [putF] <;> (repeat' split) <;> simp only [putF] <;> (repeat' split) <;> first | rfl | (exfalso; omega) | simp_all | omega

/-! ### the places of a key -/

theorem putF_at : ∀ (l : List Int) (n : Int) (j : Nat), j ≤ l.length → (∀ i, i < j → l.getD i 0 < n) → (j < l.length → n ≤ l.getD j 0) →
    putF l n = if j < l.length ∧ l.getD j 0 = n then l else l.take j ++ [n] ++ l.drop j
  | [], n, j, hj, _, _ => by simp at hj; subst hj; simp [putF]
  | x :: xs, n, 0, hj, _, h2 => by
    have hx : n ≤ x := by simpa using h2 (by simp)
    simp only [putF]
    by_cases h : x = n
    · subst h; simp
    · rw [if_neg (by omega), if_neg h]; simp [h]
  | x :: xs, n, j + 1, hj, h1, h2 => by
    have hx : x < n := by simpa using h1 0 (by omega)
    have := putF_at xs n j (by simpa using hj) (fun i hi => by simpa using h1 (i + 1) (by omega)) (fun h => by simpa using h2 (by simpa using h))
    simp only [putF, if_pos hx, this]
    simp only [List.length_cons, List.getD_cons_succ, List.take_succ_cons, List.drop_succ_cons, Nat.add_lt_add_iff_right]
    split <;> simp

theorem put_ret {N : Nat} {l : List Int} {n : Int} (hN : l.length < N) (hl : l.length ≤ 1000000) : spec_l1Put N l n = some ((putF l n, ()), ((), ((), ()))) := by
  refine Ret.eq ?_
  unfold spec_l1Put
  refine Ret.bind (Q := fun j => 0 ≤ j.1 ∧ j.1 ≤ (l.length : Int) ∧ (∀ i, i < j.1.toNat → l.getD i 0 < n) ∧ (j.1 < (l.length : Int) → n ≤ l.getD j.1.toNat 0)) ?_ (fun j hj => ?_)
  · refine Ret.iter (fun e => 0 ≤ e.1 ∧ e.1 ≤ (l.length : Int) ∧ ∀ i, i < e.1.toNat → l.getD i 0 < n) (fun e => ((l.length : Int) - e.1).toNat) (by simp) (by simp; omega) (fun self e he ih => ?_)
    obtain ⟨q1, q2, q3⟩ := he
    refine Ret.bind (Q := fun b => b.1 = decide (e.1 < (l.length : Int) ∧ l.getD e.1.toNat 0 < n)) ?_ (fun b hb => ?_)
    · refine Ret.ite (fun h => ?_) (fun h => ?_)
      · have h1 : e.1 < (l.length : Int) := by simpa using h
        exact Ret.guard (by simp; omega) (Ret.ret (by simp [h1]))
      · have h1 : ¬ e.1 < (l.length : Int) := by simpa using h
        exact Ret.ret (by simp [h1])
    · refine Ret.ite (fun h => ?_) (fun h => ?_)
      · rw [hb] at h
        have h1 := of_decide_eq_true h
        refine ih _ ?_ ?_
        · simp only [wrap_id (a := e.1 + 1) (by omega) (by omega)]
          refine ⟨by omega, by omega, fun i hi => ?_⟩
          by_cases hie : i = e.1.toNat
          · rw [hie]; exact h1.2
          · exact q3 i (by omega)
        · simp only [wrap_id (a := e.1 + 1) (by omega) (by omega)]; omega
      · rw [hb] at h
        have h1 := of_decide_eq_false h
        exact Ret.ret ⟨q1, q2, q3, fun h2 => Int.not_lt.1 (fun h3 => h1 ⟨h2, h3⟩)⟩
  · obtain ⟨q1, q2, q3, q4⟩ := hj
    have hp := putF_at l n j.1.toNat (by omega) q3 (fun h => q4 (by omega))
    refine Ret.bind (Q := fun b => b.1 = decide (j.1 < (l.length : Int) ∧ l.getD j.1.toNat 0 = n)) ?_ (fun b hb => ?_)
    · refine Ret.ite (fun h => ?_) (fun h => ?_)
      · have h1 : j.1 < (l.length : Int) := by simpa using h
        exact Ret.guard (by simp; omega) (Ret.ret (by simp only [h1, true_and]; rfl))
      · have h1 : ¬ j.1 < (l.length : Int) := by simpa using h
        exact Ret.ret (by simp [h1])
    · refine Ret.ite (fun h => ?_) (fun h => ?_)
      · rw [hb] at h
        have h1 := of_decide_eq_true h
        rw [if_pos ⟨by omega, h1.2⟩] at hp
        exact Ret.ret (by rw [hp])
      · rw [hb] at h
        have h1 := of_decide_eq_false h
        rw [if_neg (fun h2 => h1 ⟨by omega, h2.2⟩)] at hp
        have hjl : j.1.toNat ≤ l.length := by omega
        refine Ret.guard (by simp; omega) (Ret.guard (by simp; omega) ?_)
        extract_lets v6 v7
        refine Ret.guard (by simp [v6]; omega) (Ret.guard (by simp; omega) (Ret.guard (by simp [v6]; omega) (Ret.ret ?_)))
        simp only [hp, v7, v6, List.nil_append, List.drop_zero, List.take_length]
end Go.Vf
