/- Plain law: the cursor that draws. -/
import Derived.Test.YtddabginhmpljaaVpA
import Derived.Test.YtddabginhmpljaaFnFiltersNat
namespace Go.Vf
set_option linter.unusedVariables false
set_option linter.unusedSimpArgs false

def Bytes (c : List Int) : Prop := c.length ≤ 9223372036854775807 ∧ ∀ n ∈ c, 0 ≤ n ∧ n ≤ 255

theorem getD_mem (c : List Int) (i : Nat) (h : i < c.length) : c.getD i 0 ∈ c := by
  rw [List.getD_eq_getElem?_getD, List.getElem?_eq_getElem h]; exact List.getElem_mem h

theorem bAnd_255 (v : Int) : 0 ≤ bAnd .u64 v 255 ∧ bAnd .u64 v 255 ≤ 255 := by
  have h : (BitVec.ofInt IntKind.u64.bits v &&& BitVec.ofInt IntKind.u64.bits 255).toNat ≤ 255 := by
    rw [BitVec.toNat_and]
    refine Nat.le_trans Nat.and_le_right ?_
    decide
  unfold bAnd
  generalize (BitVec.ofInt IntKind.u64.bits v &&& BitVec.ofInt IntKind.u64.bits 255).toNat = m at h
  rw [IntWalk.u64_in _ ⟨by omega, by omega⟩]
  omega

theorem next_ret {N : Nat} {c : List Int} {a sd : Int} (hc : Bytes c) (h0 : 0 ≤ a) (h1 : a ≤ 1000000000) :
    Ret (spec_l1Cur_next N (c, (a, sd))) (fun z => 0 ≤ z.1.1 ∧ z.1.1 ≤ 255 ∧ z.2.1.2.1 = a + 1) := by
  unfold spec_l1Cur_next
  refine Ret.bind (Q := fun r => 0 ≤ r.1 ∧ r.1 ≤ 255) ?_ (fun r hr => ?_)
  · refine Ret.ite (fun h => ?_) (fun h => Ret.ret ⟨by decide, by decide⟩)
    have h2 : a < (c.length : Int) := by simpa using h
    refine Ret.guard (by simp; omega) (Ret.ret ?_)
    have := hc.2 _ (getD_mem c a.toNat (by omega))
    show 0 ≤ IntKind.i64.wrap (c.getD a.toNat 0) ∧ IntKind.i64.wrap (c.getD a.toNat 0) ≤ 255
    rw [wrap_id (by omega) (by omega)]
    exact this
  · extract_lets v2 v3 v4
    refine Ret.ite (fun _ => Ret.ret ⟨hr.1, hr.2, ?_⟩) (fun _ => Ret.guard (by decide) (Ret.ret ⟨?_, ?_, ?_⟩))
    · exact wrap_id (by show _ ≤ a + 1; omega) (by show a + 1 ≤ _; omega)
    · have := bAnd_255 v4
      show 0 ≤ IntKind.i64.wrap _
      rw [wrap_id (by omega) (by omega)]; exact this.1
    · have := bAnd_255 v4
      show IntKind.i64.wrap _ ≤ 255
      rw [wrap_id (by omega) (by omega)]; exact this.2
    · exact wrap_id (by show _ ≤ a + 1; omega) (by show a + 1 ≤ _; omega)

theorem pick_ret {N : Nat} {c : List Int} {a sd n : Int} (hc : Bytes c) (h0 : 0 ≤ a) (h1 : a ≤ 999999990) :
    Ret (spec_l1Cur_pick N (c, (a, sd)) n) (fun z => 0 ≤ z.1.1 ∧ (z.1.1 = 0 ∨ z.1.1 < n) ∧ a ≤ z.2.1.2.1 ∧ z.2.1.2.1 ≤ a + 2) := by
  unfold spec_l1Cur_pick
  refine Ret.ite (fun h => Ret.ret ⟨Int.le_refl 0, .inl rfl, Int.le_refl _, by show a ≤ a + 2; omega⟩) (fun h => ?_)
  have hn : 1 < n := by simpa using h
  refine Ret.bind (next_ret hc h0 (by omega)) (fun r1 hr1 => ?_)
  obtain ⟨q1, q2, q3⟩ := hr1
  refine Ret.bind (Q := fun (j : Int × (((List Int) × (Int × Int)) × Unit)) => 0 ≤ j.1 ∧ a ≤ j.2.1.2.1 ∧ j.2.1.2.1 ≤ a + 2) ?_ (fun j hj => ?_)
  · refine Ret.ite (fun _ => ?_) (fun _ => Ret.ret ⟨q1, by show a ≤ r1.2.1.2.1; omega, by show r1.2.1.2.1 ≤ a + 2; omega⟩)
    have hr := next_ret (N := N) (c := c) (a := r1.2.1.2.1) (sd := r1.2.1.2.2) hc (by omega) (by omega)
    refine Ret.bind hr (fun r2 hr2 => ?_)
    obtain ⟨p1, p2, p3⟩ := hr2
    extract_lets v
    refine Ret.ret ⟨?_, by show a ≤ r2.2.1.2.1; omega, by show r2.2.1.2.1 ≤ a + 2; omega⟩
    show 0 ≤ IntKind.i64.wrap (IntKind.i64.wrap (r1.1.1 * 256) + r2.1.1)
    rw [wrap_id (a := r1.1.1 * 256) (by omega) (by omega), wrap_id (by omega) (by omega)]
    omega
  · refine Ret.guard (by simp; omega) (Ret.ret ⟨?_, .inr ?_, hj.2.1, hj.2.2⟩)
    · exact Int.tmod_nonneg _ hj.1
    · exact Int.tmod_lt_of_pos _ (by omega)

theorem one_ret {N : Nat} {c : List Int} {a sd n : Int} (hc : Bytes c) (h0 : 0 ≤ a) (h1 : a ≤ 999999990) :
    Ret (spec_l1Cur_one N (c, (a, sd)) n) (fun z => a ≤ z.2.1.2.1 ∧ z.2.1.2.1 ≤ a + 2) :=
  Ret.bind (pick_ret hc h0 h1) (fun r hr => Ret.ret hr.2.2)

theorem among_ret {N : Nat} {c : List Int} {a sd : Int} {l : List Int} (hc : Bytes c) (h0 : 0 ≤ a) (h1 : a ≤ 999999990) (hl : l ≠ []) :
    Ret (spec_l1Cur_among N (c, (a, sd)) l) (fun z => z.1.1 ∈ l ∧ a ≤ z.2.1.2.1 ∧ z.2.1.2.1 ≤ a + 2) := by
  refine Ret.bind (pick_ret hc h0 h1) (fun r hr => ?_)
  have hlp : 0 < l.length := List.length_pos_iff.2 hl
  have : r.1.1 < (l.length : Int) := by
    rcases hr.2.1 with h | h
    · rw [h]; omega
    · exact h
  refine Ret.guard (by simp; omega) (Ret.ret ⟨?_, hr.2.2⟩)
  exact getD_mem l _ (by omega)

theorem key12_ret {N : Nat} {c : List Int} {a sd : Int} (hc : Bytes c) (h0 : 0 ≤ a) (h1 : a ≤ 999999900) :
    Ret (spec_l1Cur_key12 N (c, (a, sd))) (fun z => -1 ≤ z.1.1 ∧ z.1.1 ≤ 10000 ∧ a ≤ z.2.1.2.1 ∧ z.2.1.2.1 ≤ a + 6) := by
  unfold spec_l1Cur_key12
  refine Ret.bind (one_ret hc h0 (by omega)) (fun r1 hr1 => Ret.ite (fun _ => ?_) (fun _ => ?_))
  · refine Ret.bind (among_ret (a := r1.2.1.2.1) (sd := r1.2.1.2.2) hc (by omega) (by omega) (by simp)) (fun r3 hr3 => Ret.ret ?_)
    obtain ⟨p1, p2, p3⟩ := hr3
    simp only [List.mem_cons, List.not_mem_nil, or_false] at p1
    exact ⟨by show -1 ≤ r3.1.1; omega, by show r3.1.1 ≤ 10000; omega, by show a ≤ r3.2.1.2.1; omega, by show r3.2.1.2.1 ≤ a + 6; omega⟩
  · refine Ret.bind (pick_ret (a := r1.2.1.2.1) (sd := r1.2.1.2.2) hc (by omega) (by omega)) (fun r4 hr4 => ?_)
    refine Ret.bind (among_ret (a := r4.2.1.2.1) (sd := r4.2.1.2.2) hc (by omega) (by omega) (by simp)) (fun r6 hr6 => Ret.ret ?_)
    obtain ⟨p1, p2, p3⟩ := hr6
    obtain ⟨q1, q2, q3, q4⟩ := hr4
    simp only [List.mem_cons, List.not_mem_nil, or_false] at p1
    have hb : 0 ≤ r4.1.1 * r6.1.1 ∧ r4.1.1 * r6.1.1 ≤ 3509 := by
      rcases p1 with h | h | h | h <;> rw [h] <;> omega
    have hw : IntKind.i64.wrap (r4.1.1 * r6.1.1) = r4.1.1 * r6.1.1 := wrap_id (by omega) (by omega)
    exact ⟨by show -1 ≤ IntKind.i64.wrap (r4.1.1 * r6.1.1); omega, by show IntKind.i64.wrap (r4.1.1 * r6.1.1) ≤ 10000; omega, by show a ≤ r6.2.1.2.1; omega, by show r6.2.1.2.1 ≤ a + 6; omega⟩
end Go.Vf
