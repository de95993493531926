/- Plain law: two lists compared; a number of bytes. -/
import Derived.Test.YtddabginhmpljaaVpB
namespace Go.Vf
set_option linter.unusedVariables false
set_option linter.unusedSimpArgs false

theorem sameBools_ret {N : Nat} {a : List Bool} (hN : a.length < N) (hl : a.length ≤ 1000000000) : Ret (laws_sameBools N a a) (fun z => z.1.1 = true) := by
  unfold laws_sameBools
  refine Ret.ite (fun h => by simp at h) (fun _ => ?_)
  refine Ret.seg (fun _ => True) ?_ (fun _ => rfl) (fun e _ => Ret.ret rfl)
  refine Ret.iter (fun e => 0 ≤ e.1 ∧ e.1 ≤ (a.length : Int)) (fun e => ((a.length : Int) - e.1).toNat) (by simp) (by simp; omega) (fun self e he ih => ?_)
  refine Ret.ite (fun h => ?_) (fun h => Ret.ret trivial)
  have h1 : e.1 < (a.length : Int) := by simpa using h
  refine Ret.guard (by simp; omega) (Ret.guard (by simp; omega) ?_)
  extract_lets v
  refine Ret.ite (fun h2 => by simp [v] at h2) (fun _ => ?_)
  refine ih _ ?_ ?_
  · simp only [wrap_id (a := e.1 + 1) (by omega) (by omega)]; omega
  · simp only [wrap_id (a := e.1 + 1) (by omega) (by omega)]; omega

theorem sameInts_ret {N : Nat} {a : List Int} (hN : a.length < N) (hl : a.length ≤ 1000000000) : Ret (laws_sameInts N a a) (fun z => z.1.1 = true) := by
  unfold laws_sameInts
  refine Ret.ite (fun h => by simp at h) (fun _ => ?_)
  refine Ret.seg (fun _ => True) ?_ (fun _ => rfl) (fun e _ => Ret.ret rfl)
  refine Ret.iter (fun e => 0 ≤ e.1 ∧ e.1 ≤ (a.length : Int)) (fun e => ((a.length : Int) - e.1).toNat) (by simp) (by simp; omega) (fun self e he ih => ?_)
  refine Ret.ite (fun h => ?_) (fun h => Ret.ret trivial)
  have h1 : e.1 < (a.length : Int) := by simpa using h
  refine Ret.guard (by simp; omega) (Ret.guard (by simp; omega) ?_)
  extract_lets v
  refine Ret.ite (fun h2 => by simp [v] at h2) (fun _ => ?_)
  refine ih _ ?_ ?_
  · simp only [wrap_id (a := e.1 + 1) (by omega) (by omega)]; omega
  · simp only [wrap_id (a := e.1 + 1) (by omega) (by omega)]; omega

theorem numberOf_ret {N : Nat} {c : List Int} (hc : Bytes c) (hN : c.length < N) : Ret (laws_numberOf N c) (fun z => 0 ≤ z.1.1 ∧ z.1.1 < 1000003) := by
  have hl := hc.1
  unfold laws_numberOf
  refine Ret.bind (Q := fun j => 0 ≤ j.1 ∧ j.1 < 1000003) ?_ (fun j hj => Ret.ret hj)
  refine Ret.iter (fun e => 0 ≤ e.2.1 ∧ e.2.1 ≤ (c.length : Int) ∧ 0 ≤ e.1 ∧ e.1 < 1000003) (fun e => ((c.length : Int) - e.2.1).toNat) (by simp) (by simp; omega) (fun self e he ih => ?_)
  obtain ⟨q1, q2, q3, q4⟩ := he
  refine Ret.ite (fun h => ?_) (fun h => Ret.ret ⟨q3, q4⟩)
  have h1 : e.2.1 < (c.length : Int) := by simpa using h
  have hb := hc.2 _ (getD_mem c e.2.1.toNat (by omega))
  refine Ret.guard (by simp; omega) ?_
  extract_lets v
  have hv : v = 31 * e.1 + c.getD e.2.1.toNat 0 := by
    show IntKind.i64.wrap (IntKind.i64.wrap (31 * e.1) + IntKind.i64.wrap (c.getD e.2.1.toNat 0)) = _
    rw [wrap_id (a := 31 * e.1) (by omega) (by omega), wrap_id (a := c.getD e.2.1.toNat 0) (by omega) (by omega), wrap_id (by omega) (by omega)]
  refine Ret.guard (by decide) (ih _ ?_ ?_)
  · simp only [wrap_id (a := e.2.1 + 1) (by omega) (by omega)]
    refine ⟨by omega, by omega, Int.tmod_nonneg _ (by omega), Int.tmod_lt_of_pos _ (by omega)⟩
  · simp only [wrap_id (a := e.2.1 + 1) (by omega) (by omega)]; omega
end Go.Vf
