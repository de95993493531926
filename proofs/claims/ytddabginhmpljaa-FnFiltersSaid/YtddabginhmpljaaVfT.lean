/- From a function's run on data to its contract: the end. -/
import Derived.Test.YtddabginhmpljaaVfS
namespace Go.Vf
set_option linter.unusedVariables false
set_option linter.unusedSimpArgs false
set_option linter.unnecessarySimpa false

section
variable {P : Program} {C : Ctx} {w0 : World} {F0 : List Nat} {n : Nat} {ρ : Nat → RB} {U V : Nat → Prop} {σ : State} {a : Act} {w : World}

def resRun (a : Act) : ResultVar → Sem Value
  | .tmp t => pure (a.tmps.getD t undef)
  | .cell t ty => do loadVar ty (← asAddr (a.tmps.getD t undef))

theorem finRes_ok (hC : CtxOk P C) : ∀ {rs : List (Bool × Ty)} {vs : List ResultVar} {σ σ' : State} {z : den (resT rs)}, Rel w0 F0 n ρ U V σ a w → finRes C rs vs σ = some (z, σ') →
    Rel w0 F0 n ρ U V σ' a w ∧ Less ρ σ σ' ∧ ∃ us o, (vs.mapM (resRun a)).run P w = .ok us w ∧ ResOk w rs us z o ∧ o.Nodup ∧ Gone ρ σ σ' o
  | [], vs, σ, σ', z, hR, h => by
    cases vs with
    | nil =>
      simp only [finRes, Option.some.injEq, Prod.mk.injEq] at h
      obtain ⟨_, rfl⟩ := h
      exact ⟨hR, .refl _ _, [], [], rfl, ⟨rfl, rfl⟩, by simp, by intro b hb; cases hb⟩
    | cons v vs => simp [finRes] at h
  | r :: rs, vs, σ, σ', z, hR, h => by
    cases vs with
    | nil => simp [finRes] at h
    | cons v vs =>
      cases v with
      | tmp t =>
        simp only [finRes, Option.bind_eq_some_iff, Option.some.injEq, Prod.mk.injEq] at h
        obtain ⟨⟨x, σ1, ts⟩, h1, ⟨y, σ2⟩, h2, rfl, rfl⟩ := h
        obtain ⟨s, hs, h1⟩ := onSv_some h1
        have hv := hR.sl t
        rw [hs] at hv
        obtain ⟨hR1, hL1, cs, F, rr, k1, k2, k3, k4, _⟩ := takeV_ok (p := .own) rfl hR h1 hv
        have hrr : rr = [] := k2.noRo
        subst hrr
        obtain ⟨hR2, hL2, us, o, q1, q2, q3, q4⟩ := finRes_ok hC hR1 h2
        refine ⟨hR2, hL1.trans hL2, a.tmps.getD t undef :: us, F ++ o, ?_, ⟨_, _, cs, F, o, rfl, k1, k2, q2, rfl⟩, k4.nodup k3 q4 q3, k4.app hL1 q4 hL2⟩
        simp only [List.mapM_cons, resRun, Sem.run_bind, Sem.run_pure, Result.andThen_ok, q1]
      | cell t ty =>
        simp only [finRes] at h
        split at h
        · rename_i hty
          simp only [Option.bind_eq_some_iff, Option.some.injEq, Prod.mk.injEq] at h
          obtain ⟨⟨x, σ1, ts⟩, h1, ⟨y, σ2⟩, h2, rfl, rfl⟩ := h
          obtain ⟨s, hs, h1⟩ := onSv_some h1
          have hv := hR.sl t
          rw [hs] at hv
          obtain ⟨hR1, hL1, F, k1, k2, k3⟩ := takeBoxes_ok (vs := [a.tmps.getD t undef]) hR h1 (.cons hv .nil)
          obtain ⟨v, vs', blk, cs, o1, F2, hvs, hva, hh, hrd, hB2, hFe⟩ := k1
          obtain ⟨hvs1, hvs2⟩ := List.cons.inj hvs
          subst hvs1
          obtain ⟨_, hF2⟩ := hB2
          subst hF2
          simp only [List.append_nil] at hFe
          subst hFe
          obtain ⟨hR2, hL2, us, o, q1, q2, q3, q4⟩ := finRes_ok hC hR1 h2
          have hT := hC.ty ty r.1 r.2 hty
          have hrun := loadVar_run hT w ⟨blk, 0, none⟩ cs.toList (by simpa using hrd.length) (fun j u hu => by
            rw [add_mk, cell_of_row w _ _ cs ty (0, 0) hh]
            simpa using hu)
          have k3' : Gone ρ σ σ1 o1 := fun b hb => k3 b (by simp [hb])
          have hval : ∃ u, (loadVar ty ⟨blk, 0, none⟩).run P w = .ok u w ∧ VOk r.1 u cs.toList := by
            cases hg : r.1 with
            | true => exact ⟨_, hrun.1 hg, rfl⟩
            | false =>
              have hl := hT.one hg
              have hl2 := hrd.length
              rw [hl] at hl2
              obtain ⟨u, hu⟩ := List.length_eq_one_iff.1 hl2
              exact ⟨u, hrun.2 hg u hu, hu⟩
          obtain ⟨u, hu1, hu2⟩ := hval
          refine ⟨hR2, hL1.trans hL2, u :: us, o1 ++ o, ?_, ⟨_, _, cs.toList, o1, o, rfl, hu2, hrd, q2, rfl⟩, k3'.nodup (List.nodup_cons.1 k2).2 q4 q3, k3'.app hL1 q4 hL2⟩
          simp only [List.mapM_cons, resRun, hva, asAddr, Sem.run_bind, Sem.run_pure, Result.andThen_ok, hu1, q1]
        · cases h

theorem keepS_ok {ρi : Nat → RB} {Ui : Nat → Prop} (hZ : ∀ j, Ui j → (ρ j).v = (ρi j).v) {T : Ty} : ∀ {l0 ls : List Lf} {c d : List Value} {z : den T}, LfsOk ρi Ui l0 c → LfsOk ρ U ls d → c.length = size T → keepS T l0 ls = some z → Keep T c d z := by
  induction T with
  | pair a b iha ihb =>
    intro l0 ls c d z h0 h1 hc h
    simp only [keepS, Option.bind_eq_some_iff] at h
    obtain ⟨x, k1, y, k2, hz⟩ := h
    cases hz
    have hc' : c.length = size a + size b := hc
    refine ⟨c.take (size a), c.drop (size a), d.take (size a), d.drop (size a), (List.take_append_drop _ _).symm, (List.take_append_drop _ _).symm, iha (h0.take _) (h1.take _) (by simp [hc']) k1, ihb (h0.drop _) (h1.drop _) (by simp [hc']) k2⟩
  | unit =>
    intro l0 ls c d z h0 h1 hc h
    have := keepS_len h
    have hd := h1.length
    exact ⟨List.length_eq_zero_iff.1 hc, List.length_eq_zero_iff.1 (by rw [hd, this]; rfl)⟩
  | int k =>
    intro l0 ls c d z h0 h1 hc h
    rw [keepS_int h] at h1
    refine ⟨hc, ?_⟩
    cases h1 with
    | cons q1 q2 => cases q2; rw [q1.1]
  | bool =>
    intro l0 ls c d z h0 h1 hc h
    rw [keepS_bool h] at h1
    refine ⟨hc, ?_⟩
    cases h1 with
    | cons q1 q2 => cases q2; rw [q1.1]
  | str =>
    intro l0 ls c d z h0 h1 hc h
    rw [keepS_str h] at h1
    refine ⟨hc, ?_⟩
    cases h1 with
    | cons q1 q2 => cases q2; rw [q1.1]
  | sl t e ih =>
    intro l0 ls c d z h0 h1 hc h
    obtain ⟨i, e1, e2, e3⟩ := keepS_sl h
    rw [e1] at h0
    rw [e2] at h1
    refine ⟨hc, ?_⟩
    cases h1 with
    | cons q1 q2 =>
      cases q2
      cases h0 with
      | cons p1 p2 =>
        cases p2
        rw [q1.2.1, p1.2.1, hZ i p1.1]

theorem fin1_ok {p : PT} {bad : Bool} {i : Nat} {σ' : State} {z : den p.aft} {ts : List Nat} {v : Value} {x : den p.ownP} {y : den p.roP} {F r : List Nat} {w1 : World}
    {w0i : World} {F0i : List Nat} {ni : Nat} {ρi : Nat → RB} {Ui Vi : Nat → Prop} {σi : State} {ai : Act} (hRi : Rel w0i F0i ni ρi Ui Vi σi ai w1) (hvi : ai.tmps.getD i undef = v) (hZ : ∀ j, Ui j → (ρ j).v = (ρi j).v)
    (hR : Rel w0 F0 n ρ U V σ a w) (h : fin1 p bad (σ.sl i) (σi.sl i) σi σ = some (z, σ', ts)) (hv : bad = false → a.tmps.getD i undef = v) (hA : Arg1Ok w1 p v x y F r) :
    Rel w0 F0 n ρ U V σ' a w ∧ Less ρ σ σ' ∧ ∃ o1 o2, BoxesOk w p.boxes (ptrsOf p v) (p.bx z) o1 ∧ Io1Ok w1 w p v z o2 ∧ (o1 ++ o2).Nodup ∧ Gone ρ σ σ' (o1 ++ o2) := by
  cases p with
  | sbox t T =>
    cases bad with
    | true => cases h
    | false =>
      simp only [fin1, cond_false] at h
      split at h
      · rename_i k hsl
        split at h
        · rename_i t' ls hrk
          split at h
          · rename_i k' hsli
            split at h
            · rename_i t0 ls0 hrk0
              cases ht : Nat.beq t' t with
              | false => rw [ht] at h; cases h
              | true =>
                rw [ht] at h
                have ht' := Nat.eq_of_beq_eq_true ht
                subst ht'
                simp only [cond_true, Option.bind_eq_some_iff, Option.some.injEq, Prod.mk.injEq] at h
                obtain ⟨z', hz, rfl, rfl, rfl⟩ := h
                obtain ⟨blk, cs, hval, hh, hrd, rfl⟩ := hA
                have h1 := hR.sl i
                rw [hsl, hv rfl, hval] at h1
                obtain ⟨hU, hb1⟩ := h1
                have hb1' : (ρ k).b = blk := by simp at hb1; exact hb1.symm
                have h2 := hRi.sl i
                rw [hsli, hvi, hval] at h2
                obtain ⟨hUi, hb2⟩ := h2
                have hb2' : (ρi k').b = blk := by simp at hb2; exact hb2.symm
                have hE := hR.ent k (by rw [hrk]; trivial)
                rw [hrk] at hE
                obtain ⟨cs', hh', hls'⟩ := hE
                have hEi := hRi.ent k' (by rw [hrk0]; trivial)
                rw [hrk0] at hEi
                obtain ⟨cs0, hh0, hls0⟩ := hEi
                rw [hb2', hh] at hh0
                cases hh0
                have hbo : (ρ k).b ∈ ownB (σ.reg k) (ρ k) := by rw [hrk]; simp [ownB]
                refine ⟨hR.kill k, ⟨rfl, rfl, rfl, fun j => ?_⟩, [], [blk], ⟨rfl, rfl⟩, ⟨blk, cs, cs', hval, hh, by rw [← hb1']; exact hh', keepS_ok hZ hls0 hls' hrd.length hz, rfl⟩, by simp, fun b hb => ?_⟩
                · by_cases hj : j = k
                  · subst hj; exact .inr (by simp)
                  · exact .inl (upd_ne _ _ hj)
                · simp only [List.nil_append, List.mem_singleton] at hb
                  rw [hb, ← hb1']
                  refine ⟨⟨k, hbo⟩, fun j hj => ?_⟩
                  by_cases hjk : j = k
                  · subst hjk; simp [ownB] at hj
                  · simp only [upd_ne _ _ hjk] at hj
                    exact hR.disj k j (Ne.symm hjk) _ hbo hj
            · cases h
          · cases h
        · cases h
      · cases h
  | val m g T =>
    have h0 : some ((), σ, ([] : List Nat)) = some (z, σ', ts) := h
    cases h0
    exact ⟨hR, .refl _ _, [], [], ⟨rfl, rfl⟩, rfl, by simp, by intro b hb; cases hb⟩
  | box t T =>
    cases bad with
    | true => cases h
    | false =>
      obtain ⟨s, hs, h1⟩ := onSv_some (show (onSv (σ.sl i) fun s => takeBoxes [(t, T)] [s] σ) = some (z, σ', ts) from h)
      have hsl := hR.sl i
      rw [hs, hv rfl] at hsl
      obtain ⟨k1, k2, o, k3, k4, k5⟩ := takeBoxes_ok (vs := [v]) hR h1 (.cons hsl .nil)
      exact ⟨k1, k2, o, [], k3, rfl, by simpa using k4, by simpa using k5⟩
  | fn f caps =>
    cases bad with
    | true => cases h
    | false =>
      obtain ⟨g, ss, hs, h1⟩ := onFn_some (show (onFn (σ.sl i) fun _ ss => takeBoxes caps ss σ) = some (z, σ', ts) from h)
      have hsl := hR.sl i
      rw [hs, hv rfl] at hsl
      obtain ⟨vs, rfl, hvs⟩ := hsl
      obtain ⟨k1, k2, o, k3, k4, k5⟩ := takeBoxes_ok hR h1 hvs
      exact ⟨k1, k2, o, [], k3, rfl, by simpa using k4, by simpa using k5⟩
  | rvar t T =>
    have h0 : some ((), σ, ([] : List Nat)) = some (z, σ', ts) := h
    cases h0
    exact ⟨hR, .refl _ _, [], [], ⟨rfl, rfl⟩, rfl, by simp, by intro b hb; cases hb⟩
  | rfn f caps =>
    have h0 : some ((), σ, ([] : List Nat)) = some (z, σ', ts) := h
    cases h0
    exact ⟨hR, .refl _ _, [], [], ⟨rfl, rfl⟩, rfl, by simp, by intro b hb; cases hb⟩
  | io g T =>
    cases bad with
    | true => cases h
    | false =>
      obtain ⟨s, hs, h1⟩ := onSv_some (show (onSv (σ.sl i) fun s => takeV .own g T s σ) = some (z, σ', ts) from h)
      have hsl := hR.sl i
      rw [hs, hv rfl] at hsl
      obtain ⟨k1, k2, cs, o, r, k3, k4, k5, k6, _⟩ := takeV_ok (p := .own) rfl hR h1 hsl
      have hr : r = [] := k4.noRo
      subst hr
      exact ⟨k1, k2, [], o, ⟨rfl, rfl⟩, ⟨cs, k3, k4⟩, by simpa using k5, by simpa using k6⟩

theorem nodup_mid {a b c d : List Nat} (h : ((a ++ b) ++ (c ++ d)).Nodup) : ((a ++ c) ++ (b ++ d)).Nodup := by
  refine (List.Perm.nodup_iff ?_).1 h
  simp only [List.append_assoc]
  refine List.Perm.append_left a ?_
  rw [← List.append_assoc, ← List.append_assoc]
  exact List.Perm.append_right _ List.perm_append_comm

theorem finBoxes_ok {w1 : World} {tr : Tr} {w0i : World} {F0i : List Nat} {ni : Nat} {ρi : Nat → RB} {Ui Vi : Nat → Prop} {σi : State} {ai : Act} (hRi : Rel w0i F0i ni ρi Ui Vi σi ai w1) (hZ : ∀ j, Ui j → (ρ j).v = (ρi j).v) : ∀ {ps : List PT} {i : Nat} {σ σ' : State} {z : den (boxT ps)} {vs : List Value} {x : den (ownT ps)} {y : den (roT ps)} {F r : List Nat}, Rel w0 F0 n ρ U V σ a w → finBoxes ps i σi σ tr = some (z, σ') →
    (∀ j v, vs[j]? = some v → ai.tmps.getD (i + j) undef = v) → (∀ j v, vs[j]? = some v → (i + j) ∉ tr.ws → a.tmps.getD (i + j) undef = v) → ArgsOk w1 ps vs x y F r → Rel w0 F0 n ρ U V σ' a w ∧ Less ρ σ σ' ∧ ∃ o1 o2, AfterOk w ps vs z o1 ∧ IosOk w1 w ps vs z o2 ∧ (o1 ++ o2).Nodup ∧ Gone ρ σ σ' (o1 ++ o2)
  | [], i, σ, σ', z, vs, x, y, F, r, hR, h, hvi, hv, hA => by
    simp only [finBoxes, Option.some.injEq, Prod.mk.injEq] at h
    obtain ⟨_, rfl⟩ := h
    exact ⟨hR, .refl _ _, [], [], rfl, rfl, by simp, by intro b hb; cases hb⟩
  | p :: ps, i, σ, σ', z, vs, x, y, F, r, hR, h, hvi, hv, hA => by
    obtain ⟨v, vs', F1, F2, r1, r2, rfl, h1, h2, rfl, rfl⟩ := hA
    simp only [finBoxes, Option.bind_eq_some_iff, Option.some.injEq, Prod.mk.injEq] at h
    obtain ⟨⟨z1, σ1, ts⟩, h3, ⟨z2, σ2⟩, h4, rfl, rfl⟩ := h
    obtain ⟨k1, k2, o1, p1, k3, k6, k4, k5⟩ := fin1_ok (v := v) hRi (by have := hvi 0 v rfl; rwa [Nat.add_zero] at this) hZ hR h3 (fun hb => by
      have := hv 0 v rfl (fun hm => by rw [Nat.add_zero] at hm; rw [memN_of hm] at hb; cases hb)
      rwa [Nat.add_zero] at this) h1
    obtain ⟨q1, q2, o2, p2, q3, q6, q4, q5⟩ := finBoxes_ok hRi hZ (x := x.2) (y := y.2) k1 h4 (fun j u hu => by have := hvi (j + 1) u (by simpa using hu); rwa [show i + (j + 1) = i + 1 + j by omega] at this) (fun j u hu hn => by
      have := hv (j + 1) u (by simpa using hu) (by rwa [show i + (j + 1) = i + 1 + j by omega])
      rwa [show i + (j + 1) = i + 1 + j by omega] at this) h2
    refine ⟨q1, k2.trans q2, o1 ++ o2, p1 ++ p2, ⟨v, vs', o1, o2, rfl, k3, q3, rfl⟩, ⟨v, vs', p1, p2, rfl, k6, q6, rfl⟩, nodup_mid (k5.nodup k4 q5 q4), fun b hb => ?_⟩
    refine (k5.app k2 q5 q2) b ?_
    simp only [List.mem_append] at hb ⊢
    rcases hb with (h | h) | (h | h)
    · exact .inl (.inl h)
    · exact .inr (.inl h)
    · exact .inl (.inr h)
    · exact .inr (.inr h)
end

theorem argsOk_length {w : World} : ∀ {ps : List PT} {vs : List Value} {x : den (ownT ps)} {y : den (roT ps)} {F r : List Nat}, ArgsOk w ps vs x y F r → vs.length = ps.length
  | [], _, _, _, _, _, h => by rw [h.1]; rfl
  | p :: ps, _, x, y, _, _, h => by
    obtain ⟨v, vs', F1, F2, r1, r2, rfl, _, h2, _, _⟩ := h
    simp [argsOk_length h2]

theorem results_run {P : Program} {fn : Func} {a : Act} {w : World} {us : List Value} (h : (fn.results.toList.mapM (resRun a)).run P w = .ok us w) : (results fn a.tmps).run P w = .ok (packV us) w := by
  have h1 : (fn.results.mapM (resRun a)).run P w = .ok us.toArray w := by
    rw [Array.mapM_eq_mapM_toList, Sem.run_map, h]
    rfl
  unfold results
  rw [Sem.run_bind]
  refine Eq.trans (congrArg (fun q => Result.andThen q _) h1) ?_
  rfl

open Classical in
theorem contract_of_run {P : Program} {C : Ctx} (hC : CtxOk P C) {K : FuncId → List Ctr} (hK : ∀ f c, c ∈ K f → Contract P f c) (H : Hints) {f : FuncId} {fn : Func} (hf : P.funcs[f]? = some fn) (hname : (fn.name == "runtime.NumGoroutine") = false) {code : Code} (hb : fn.body = some code)
    (ps : List PT) (rs : List (Bool × Ty)) (hlen : ps.length ≤ fn.ntmps) (F : Nat → den (ownT ps) → den (roT ps) → Option (den (.pair (resT rs) (boxT ps))))
    (heq : ∀ N x y, run C K H fn.ntmps N code _ (initS ps 0 x y state0) ⟨[], []⟩ (fin C ps rs fn.results.toList (initS ps 0 x y state0)) = F N x y) : Contract P f ⟨ps, rs, F⟩ := by
  refine ⟨⟨fn, hf, hname, by rw [hb]; rfl⟩, fun N w args x y z Fb r hA hn hrF hz => ?_⟩
  refine calls_of_wp hf hb ?_
  have hal := argsOk_length hA
  simp only [Array.length_toList] at hal
  have hlen' : ps.length ≤ fn.ntmps := hlen
  have hsize : (args ++ Array.replicate (fn.ntmps - args.size) undef).size = fn.ntmps := by
    simp only [Array.size_append, Array.size_replicate]
    have : args.size = ps.length := hal
    omega
  have hget : ∀ j v, args.toList[j]? = some v → (args ++ Array.replicate (fn.ntmps - args.size) undef).getD j undef = v := by
    intro j v hj
    have hj' : args[j]? = some v := by simpa using hj
    rw [Array.getD_eq_getD_getElem?, Array.getElem?_append_left (Array.getElem?_eq_some_iff.1 hj').1, hj']
    rfl
  have h0 : Rel w Fb fn.ntmps (fun _ => ⟨.slice none 0 0, 0, [], []⟩) (fun _ => False) (fun _ => False) state0 { tmps := args ++ Array.replicate (fn.ntmps - args.size) undef, defers := [] } w :=
    { tm := hsize, df := rfl, sl := fun _ => trivial, ent := fun i hl => hl.elim, disj := fun i j _ b hb => by simp [state0, ownB] at hb, nodup := fun i => by simp [state0, ownB], ro := fun i j b hb => by simp [state0, roB] at hb,
      vw := fun i p v t e xs x he => (by cases he), vck := fun i p v t e xs x he => (by cases he), vck2 := fun i v hv => (by cases hv), new := fun _ _ => rfl, inF := fun i b hb => by simp [state0, ownB] at hb, frm := Frame.refl w Fb }
  obtain ⟨ρ, U, V, hR, hL, _⟩ := initS_ok (i := 0) (x := x) (y := y) (r := r) h0 ⟨fun i hi => hi.elim, fun i hi => hi.elim⟩ (fun j v hj => by rw [Nat.zero_add]; exact hget j v hj) hA hn (fun b hb => ⟨fun j => ⟨fun h => by simp [state0, ownB] at h, fun h => by simp [state0, roB] at h⟩, .inl hb⟩) (fun b hb => ⟨fun j h => by simp [state0, ownB] at h, hrF b hb⟩)
  have hrun := heq N x y
  rw [show F N x y = some z from hz] at hrun
  refine run_sound hC hK H N code (fun i => if U i then some (ρ i).v else none) _ _ _ _ _ _ z _ _ w hrun ⟨ρ, U, V, hR, hL, fun i v h => by
    by_cases hu : U i
    · simp only [hu, if_true, Option.some.injEq] at h; exact ⟨hu, h⟩
    · simp [hu] at h⟩ (.refl _ _) (fun ex σ' tr' a' w' hex hS ht => ?_)
  obtain ⟨ρ', U', V', hR', hL', hZ'⟩ := hS
  have hZ : ∀ j, U j → (ρ' j).v = (ρ j).v := fun j hj => (hZ' j (ρ j).v (by simp [hj])).2
  have key : ((finRes C rs fn.results.toList σ').bind fun p => (finBoxes ps 0 (initS ps 0 x y state0) p.2 tr').bind fun q => some (p.1, q.1)) = some z →
      a'.defers = [] ∧ ∃ v, (results fn a'.tmps).run P w' = .ok v w' ∧ ∃ vs o1 o2 o3, Ending.returned v = .returned (packV vs) ∧ Frame w Fb w' ∧ ResOk w' rs vs z.1 o1 ∧ AfterOk w' ps args.toList z.2 o2 ∧ IosOk w w' ps args.toList z.2 o3 ∧ (o1 ++ o2 ++ o3).Nodup ∧ ∀ b, b ∈ o1 ++ o2 ++ o3 → b ∈ Fb ∨ w.heap.size ≤ b := by
    intro h
    obtain ⟨⟨z1, σ1⟩, h1, h⟩ := Option.bind_eq_some_iff.1 h
    obtain ⟨⟨z2, σ2⟩, h2, h⟩ := Option.bind_eq_some_iff.1 h
    cases h
    obtain ⟨hR1, hL1, us, o1, k1, k2, k3, k4⟩ := finRes_ok hC hR' h1
    obtain ⟨hR2, hL2, o2, o3, q1, q4, q2, q3⟩ := finBoxes_ok hR hZ (vs := args.toList) (x := x) (y := y) hR1 h2 (fun j v hj => by rw [Nat.zero_add]; exact hget j v hj) (fun j v hj hm => by
      rw [Nat.zero_add] at hm ⊢
      rw [ht.tm j hm]
      exact hget j v hj) hA
    have hG := k4.app hL1 q3 hL2
    refine ⟨hR'.df, packV us, results_run k1, us, o1, o2, o3, rfl, hR'.frm, k2, q1, q4, by rw [List.append_assoc]; exact k4.nodup k3 q3 q2, fun b hb => ?_⟩
    rw [List.append_assoc] at hb
    obtain ⟨j, hj⟩ := (hG b hb).1
    exact hR'.inF j b hj
  cases ex with
  | normal => exact key hex
  | ret => exact key hex
  | exit id => cases hex
end Go.Vf
