/- Plain law: FnFilters. -/
import Derived.Test.YtddabginhmpljaaVpH
namespace Go.Vf
set_option linter.unusedVariables false
set_option linter.unusedSimpArgs false

theorem twoF_length (f : List Bool → List Bool → List Bool) (hf : ∀ a b : List Bool, a.length = 64 → b.length = 64 → (f a b).length = 64) (a b : List Bool) : (twoF f a b).1.length ≤ 64 := by
  unfold twoF
  split
  · rename_i h; simp [hf a b h.1 h.2]
  · simp

theorem twoF_ok {f : List Bool → List Bool → List Bool} {a b : List Bool} (h : (twoF f a b).2.1 = true) : a.length = 64 ∧ b.length = 64 := by
  unfold twoF at h
  split at h
  · rename_i h1; exact h1
  · cases h

theorem twoF_of {f : List Bool → List Bool → List Bool} {a b : List Bool} (h1 : a.length = 64) (h2 : b.length = 64) : twoF f a b = (f a b, (true, ())) := by
  unfold twoF; rw [if_pos ⟨h1, h2⟩]

theorem bitsFor_eq {N : Nat} {k : Int} (hN : 1000000 < N) (hk : -1 ≤ k) (hk2 : k ≤ 10000) : ∃ q : List Int × (Bool × Unit), impl_BitsFor N k = some (q, ((), ())) ∧ spec_BitsFor N k = some (q, ((), ())) ∧ q.1.length ≤ 3 := by
  unfold impl_BitsFor spec_BitsFor
  rw [isKey_eq, l12Key_eq, implBits_eq hN hk (by omega), specBits_eq hN hk (by omega)]
  by_cases h : 0 ≤ k ∧ k ≤ 9999
  · refine ⟨(bits k, (true, ())), by simp [h], by simp [h], bitsTo_length k 3⟩
  · have hd : decide (0 ≤ k ∧ k ≤ 9999) = false := by simpa only [decide_eq_false_iff_not] using h
    refine ⟨([], (false, ())), ?_, ?_, by simp⟩ <;> simp only [hd, Option.bind_some, Bool.not_false, cond_true]

/-- the drawn key, by the joined filter and by the met one -/
theorem part1 {N : Nat} {a b : List Bool} {k : Int} (hN : 1000000 < N) (ha : a.length = 64) (hb : b.length = 64) (h0 : 0 ≤ k) (h1 : k ≤ 9999) {r11 r12 r13 r14 : (Bool × (Bool × Unit)) × (Unit × (Unit × Unit))}
    (h11 : r11.1 = (setAll a (bits k), (true, ()))) (h12 : r12.1 = (setAll b (bits k), (true, ()))) (h13 : r13.1 = (setAll (joinF a b) (bits k), (true, ()))) (h14 : r14.1 = (setAll (meetF a b) (bits k), (true, ()))) :
    r11.1.2.1 = true ∧ r12.1.2.1 = true ∧ r13.1.2.1 = true ∧ r14.1.2.1 = true ∧ (r11.1.1 = true → r13.1.1 = true) ∧ (r12.1.1 = true → r13.1.1 = true) ∧ r14.1.1 = (r11.1.1 && r12.1.1) := by
  rw [h11, h12, h13, h14]
  exact ⟨rfl, rfl, rfl, rfl, fun h => setAll_join (ha.trans hb.symm) _ (.inl h), fun h => setAll_join (ha.trans hb.symm) _ (.inr h), setAll_meet (ha.trans hb.symm) _⟩

theorem filters_true {N : Nat} {x y : List Int} (hN : 1000000 < N) (hx : Bytes x) (hy : Bytes y) (hxN : x.length < N) (hyN : y.length < N) : Ret (laws_FnFilters N x y) (fun z => z = ((true, ()), ((), ((), ())))) := by
  unfold laws_FnFilters
  extract_lets v1
  refine Ret.ite (fun _ => Ret.ret rfl) (fun _ => ?_)
  refine Ret.bind (drawJoin_ret hN hx) (fun r2 _ => ?_)
  generalize r2.1.1 = a
  generalize r2.1.2.1 = b
  refine Ret.bind (Ret.of_eq (P := fun r => r.1 = twoF joinF a b) (join_eq hN a b) rfl) (fun r3 h3 => ?_)
  refine Ret.bind (Ret.of_eq (P := fun r => r.1 = twoF joinF a b) (sjoin_eq hN a b) rfl) (fun r4 h4 => ?_)
  refine Ret.bind (Ret.of_eq (P := fun r => r.1 = twoF meetF a b) (meet_eq hN a b) rfl) (fun r5 h5 => ?_)
  refine Ret.bind (Ret.of_eq (P := fun r => r.1 = twoF meetF a b) (smeet_eq hN a b) rfl) (fun r6 h6 => ?_)
  have l3 : r3.1.1.length ≤ 64 := by rw [h3]; exact twoF_length _ (fun _ _ => joinF_length) a b
  have l5 : r5.1.1.length ≤ 64 := by rw [h5]; exact twoF_length _ (fun _ _ => meetF_length) a b
  refine Ret.bind (Q := fun j => j.1 = false) ?_ (fun j9 h9 => ?_)
  · rw [show r4.1 = r3.1 from h4.trans h3.symm, show r6.1 = r5.1 from h6.trans h5.symm]
    refine Ret.ite (fun h => by simp at h) (fun _ => ?_)
    refine Ret.bind (sameBools_ret (by omega) (by omega)) (fun r7 h7 => ?_)
    refine Ret.ite (fun h => by rw [h7] at h; cases h) (fun _ => ?_)
    refine Ret.ite (fun h => by simp at h) (fun _ => ?_)
    exact Ret.bind (sameBools_ret (by omega) (by omega)) (fun r8 h8 => Ret.ret (by rw [h8]; rfl))
  refine Ret.ite (fun h => by rw [h9] at h; cases h) (fun _ => ?_)
  refine Ret.seg (fun _ => True) ?_ (fun _ => rfl) (fun j22 _ => ?_)
  · refine Ret.ite (fun h => ?_) (fun _ => Ret.ret trivial)
    rw [h3] at h
    obtain ⟨ha, hb⟩ := twoF_ok h
    rw [twoF_of ha hb] at h3 h5
    refine Ret.bind (numberOf_ret hy hyN) (fun r10 h10 => Ret.guard (by decide) ?_)
    have hk0 : 0 ≤ Int.tmod r10.1.1 10000 := Int.tmod_nonneg _ h10.1
    have hk1 : Int.tmod r10.1.1 10000 ≤ 9999 := by have := Int.tmod_lt_of_pos r10.1.1 (b := 10000) (by decide); omega
    generalize Int.tmod r10.1.1 10000 = k at hk0 hk1
    rw [show r3.1.1 = joinF a b by rw [h3], show r5.1.1 = meetF a b by rw [h5]]
    refine Ret.bind (Ret.of_eq (P := fun r => r.1 = (setAll a (bits k), (true, ()))) (may_eq hN ha hk0 hk1) rfl) (fun r11 h11 => ?_)
    refine Ret.bind (Ret.of_eq (P := fun r => r.1 = (setAll b (bits k), (true, ()))) (may_eq hN hb hk0 hk1) rfl) (fun r12 h12 => ?_)
    refine Ret.bind (Ret.of_eq (P := fun r => r.1 = (setAll (joinF a b) (bits k), (true, ()))) (may_eq hN (joinF_length ha hb) hk0 hk1) rfl) (fun r13 h13 => ?_)
    refine Ret.bind (Ret.of_eq (P := fun r => r.1 = (setAll (meetF a b) (bits k), (true, ()))) (may_eq hN (meetF_length ha hb) hk0 hk1) rfl) (fun r14 h14 => ?_)
    obtain ⟨p1, p2, p3, p4, p5, p6, p7⟩ := part1 hN ha hb hk0 hk1 h11 h12 h13 h14
    refine Ret.bind (Q := fun j => j.1 = false) ?_ (fun j15 h15 => ?_)
    · simp only [p1, p2, p3, p4, p7]
      cases q1 : r11.1.1 <;> cases q2 : r12.1.1 <;> simp_all [Ret]
    refine Ret.ite (fun h => by rw [h15] at h; cases h) (fun _ => ?_)
    refine Ret.bind (Ret.of_eq (P := fun r => r.1 = onesF a) (ones_eq hN a) rfl) (fun r16 h16 => ?_)
    refine Ret.bind (Ret.of_eq (P := fun r => r.1 = onesF b) (ones_eq hN b) rfl) (fun r17 h17 => ?_)
    refine Ret.bind (Ret.of_eq (P := fun r => r.1 = onesF (joinF a b)) (ones_eq hN _) rfl) (fun r18 h18 => ?_)
    refine Ret.bind (Ret.of_eq (P := fun r => r.1 = onesF (meetF a b)) (ones_eq hN _) rfl) (fun r19 h19 => ?_)
    rw [onesF, if_pos ha] at h16
    rw [onesF, if_pos hb] at h17
    rw [onesF, if_pos (joinF_length ha hb)] at h18
    rw [onesF, if_pos (meetF_length ha hb)] at h19
    refine Ret.bind (Q := fun j => j.1 = false) ?_ (fun j21 h21 => ?_)
    · extract_lets v20
      rw [h16, h17, h18, h19]
      refine Ret.ite (fun h => by cases h) (fun _ => Ret.ite (fun h => by cases h) (fun _ => Ret.ite (fun h => by cases h) (fun _ => Ret.ite (fun h => by cases h) (fun _ => Ret.ret ?_))))
      show (IntKind.i64.wrap (r16.1.1 + r17.1.1) != IntKind.i64.wrap (r18.1.1 + r19.1.1)) = false
      rw [h16, h17, h18, h19]
      have := ones_join_meet (ha.trans hb.symm)
      have h : (ones a : Int) + ones b = ones (joinF a b) + ones (meetF a b) := by omega
      simp only [h]
      simp
    exact Ret.ite (fun h => by rw [h21] at h; cases h) (fun _ => Ret.ret trivial)
  refine Ret.bind (drawOf_ret hN hy) (fun r23 h23 => ?_)
  generalize r23.1.1 = l at h23
  refine Ret.bind (numberOf_ret hx hxN) (fun r24 h24 => ?_)
  have hw : IntKind.i64.wrap ((l.length : Int) + 1) = l.length + 1 := wrap_id (by omega) (by omega)
  rw [hw]
  refine Ret.guard (by simp; omega) ?_
  have hv0 : 0 ≤ Int.tmod r24.1.1 (l.length + 1) := Int.tmod_nonneg _ h24.1
  have hv1 : Int.tmod r24.1.1 (l.length + 1) < l.length + 1 := Int.tmod_lt_of_pos _ (by omega)
  generalize Int.tmod r24.1.1 (l.length + 1) = v at hv0 hv1
  extract_lets v27
  refine Ret.guard (by simp; omega) ?_
  refine Ret.bind (of_ret (l := (l.take v.toNat).drop 0) hN (by simp; omega)) (fun r26 h26 => ?_)
  refine Ret.guard (by simp; omega) ?_
  refine Ret.bind (of_ret (l := (l.take l.length).drop v.toNat) hN (by simp; omega)) (fun r28 h28 => ?_)
  refine Ret.bind (of_ret (l := l) hN (by omega)) (fun r29 h29 => ?_)
  rw [List.drop_zero] at h26
  rw [List.take_length] at h28
  refine Ret.seg (fun _ => True) ?_ (fun _ => rfl) (fun j33 _ => ?_)
  · refine Ret.ite (fun h => ?_) (fun _ => Ret.ret trivial)
    rcases h29 with ⟨_, hK, hH⟩ | ⟨h29, _⟩
    · rcases h26 with ⟨g26, _, H26⟩ | ⟨_, n26⟩
      · rcases h28 with ⟨g28, _, H28⟩ | ⟨_, n28⟩
        · refine Ret.bind (Ret.of_eq (P := fun r => r.1 = twoF joinF r26.1.1 r28.1.1) (join_eq hN _ _) rfl) (fun r30 h30 => ?_)
          rw [twoF_of H26.1 H28.1] at h30
          have hj := H26.join H28
          rw [List.take_append_drop] at hj
          have he : r30.1.1 = r29.1.1 := by rw [h30]; exact hj.unique hH
          have hlen : r29.1.1.length = 64 := hH.1
          refine Ret.bind (Q := fun j => j.1 = false) ?_ (fun j32 h32 => ?_)
          · rw [g26, g28, he, show r30.1.2.1 = true by rw [h30]]
            refine Ret.ite (fun h => by cases h) (fun _ => Ret.ite (fun h => by cases h) (fun _ => Ret.ite (fun h => by cases h) (fun _ => ?_)))
            exact Ret.bind (sameBools_ret (by omega) (by omega)) (fun r31 h31 => Ret.ret (by rw [h31]; rfl))
          · exact Ret.ite (fun h => by rw [h32] at h; cases h) (fun _ => Ret.ret trivial)
        · exact absurd ⟨by have := hK.1; simp; omega, fun k hk => hK.2 k (List.mem_of_mem_drop hk)⟩ n28
      · exact absurd ⟨by have := hK.1; simp; omega, fun k hk => hK.2 k (List.mem_of_mem_take hk)⟩ n26
    · rw [h29] at h; cases h
  refine Ret.bind (drawBits_ret hy) (fun r34 h34 => ?_)
  obtain ⟨q, e1, e2, hq⟩ := bitsFor_eq hN h34.1 h34.2
  refine Ret.bind (Ret.of_eq (P := fun r => r.1 = q) e1 rfl) (fun r35 h35 => ?_)
  refine Ret.bind (Ret.of_eq (P := fun r => r.1 = q) e2 rfl) (fun r36 h36 => ?_)
  refine Ret.bind (drawOnes_ret hN hy) (fun r37 _ => ?_)
  refine Ret.bind (Ret.of_eq (P := fun r => r.1 = onesF r37.1.1) (ones_eq hN _) rfl) (fun r38 h38 => ?_)
  refine Ret.bind (Ret.of_eq (P := fun r => r.1 = onesF r37.1.1) (sones_eq hN _) rfl) (fun r39 h39 => ?_)
  refine Ret.bind (Ret.of_eq (P := fun r => r.1.1 = List.replicate 64 false) (new_eq N) rfl) (fun r40 h40 => ?_)
  refine Ret.bind (Q := fun j => j.1 = true) ?_ (fun j45 h45 => Ret.ret (by rw [h45]))
  rw [h35, h36, h38, h39, h40]
  refine Ret.ite (fun _ => ?_) (fun h => by simp at h)
  refine Ret.bind (sameInts_ret (by omega) (by omega)) (fun r41 h41 => ?_)
  refine Ret.ite (fun _ => ?_) (fun h => by rw [h41] at h; cases h)
  refine Ret.ite (fun _ => ?_) (fun h => by simp at h)
  refine Ret.ite (fun _ => ?_) (fun h => by simp at h)
  refine Ret.bind (Ret.of_eq (P := fun r => r.1.1 = true) (good_eq N _) (by simp)) (fun r42 h42 => ?_)
  refine Ret.ite (fun _ => ?_) (fun h => by rw [h42] at h; cases h)
  refine Ret.bind (Ret.of_eq (P := fun r => r.1.1 = List.replicate 64 false) (snew_eq N) rfl) (fun r43 h43 => ?_)
  rw [h43]
  exact Ret.bind (sameBools_ret (by simp; omega) (by simp)) (fun r44 h44 => Ret.ret h44)
end Go.Vf
