/- What an operation leaves as it was. -/
import Derived.Test.YtddabginhmpljaaVfO
namespace Go.Vf
set_option linter.unusedVariables false
set_option linter.unusedSimpArgs false

/-- slots stay, and entries but these and new ones -/
structure Kp (σ σ' : State) (ts : List Nat) : Prop where
  sl : σ'.sl = σ.sl
  reg0 : ∀ i, ¬ (σ.nx ≤ i ∧ i < σ'.nx) → i ∉ ts → σ'.reg i = σ.reg i
  nx : σ.nx ≤ σ'.nx
  ck : σ.ck ≤ σ'.ck

theorem Kp.reg {σ σ' : State} {ts : List Nat} (h : Kp σ σ' ts) : ∀ i, i < σ.nx → i ∉ ts → σ'.reg i = σ.reg i := fun i hi hn => h.reg0 i (by omega) hn

theorem Kp.refl (σ : State) (ts : List Nat) : Kp σ σ ts := ⟨rfl, fun _ _ _ => rfl, Nat.le_refl _, Nat.le_refl _⟩
theorem Kp.trans {a b c : State} {t1 t2 : List Nat} (h : Kp a b t1) (k : Kp b c t2) : Kp a c (t1 ++ t2) :=
  ⟨k.sl.trans h.sl, fun i hi hn => by
    simp only [List.mem_append, not_or] at hn
    have h1 := h.nx
    have h2 := k.nx
    exact (k.reg0 i (by omega) hn.2).trans (h.reg0 i (by omega) hn.1), Nat.le_trans h.nx k.nx, Nat.le_trans h.ck k.ck⟩
theorem Kp.mono {a b : State} {t1 t2 : List Nat} (h : Kp a b t1) (hs : ∀ i, i ∈ t1 → i ∈ t2) : Kp a b t2 := ⟨h.sl, fun i hi hn => h.reg0 i hi (fun q => hn (hs i q)), h.nx, h.ck⟩
theorem Kp.newEnt (σ : State) (e : Ent) : Kp σ (newEnt σ e) [] := ⟨rfl, fun i hi _ => upd_ne _ _ (fun e => hi (by subst e; exact ⟨Nat.le_refl _, Nat.lt_succ_self _⟩)), Nat.le_succ _, Nat.le_succ _⟩
theorem Kp.upd (σ : State) (i : Nat) (e : Ent) (c : Nat) (hc : σ.ck ≤ c) : Kp σ { σ with reg := upd σ.reg i e, ck := c } [i] := ⟨rfl, fun j _ hn => upd_ne _ _ (by simpa using hn), Nat.le_refl _, hc⟩

theorem take_kp {p : Pm} {T : Ty} : ∀ {σ σ' : State} {ls rest : List Lf} {x : den T}, take p T ls σ = some (x, rest, σ') → Kp σ σ' (refs ls) ∧ ∀ i, i ∈ refs rest → i ∈ refs ls := by
  induction T with
  | int k =>
    intro σ σ' ls rest x h
    cases ls with
    | nil => simp [take] at h
    | cons l ls => cases l with
      | sc v => cases v <;> simp [take] at h; obtain ⟨_, _, rfl, rfl⟩ := h; exact ⟨.refl _ _, fun i hi => hi⟩
      | _ => simp [take] at h
  | bool =>
    intro σ σ' ls rest x h
    cases ls with
    | nil => simp [take] at h
    | cons l ls => cases l with
      | sc v => cases v <;> simp [take] at h; obtain ⟨_, rfl, rfl⟩ := h; exact ⟨.refl _ _, fun i hi => hi⟩
      | _ => simp [take] at h
  | str =>
    intro σ σ' ls rest x h
    cases ls with
    | nil => simp [take] at h
    | cons l ls => cases l with
      | sc v => cases v <;> simp [take] at h; obtain ⟨_, rfl, rfl⟩ := h; exact ⟨.refl _ _, fun i hi => hi⟩
      | _ => simp [take] at h
  | unit => intro σ σ' ls rest x h; simp [take] at h; obtain ⟨rfl, rfl⟩ := h; exact ⟨.refl _ _, fun i hi => hi⟩
  | pair A B iha ihb =>
    intro σ σ' ls rest x h
    simp only [take, Option.bind_eq_some_iff, Option.some.injEq, Prod.mk.injEq] at h
    obtain ⟨⟨y, l1, σ1⟩, h1, ⟨z, l2, σ2⟩, h2, _, rfl, rfl⟩ := h
    obtain ⟨k1, m1⟩ := iha h1
    obtain ⟨k2, m2⟩ := ihb h2
    exact ⟨(k1.trans k2).mono (fun i hi => by simp only [List.mem_append] at hi; exact hi.elim id (fun h => m1 i h)), fun i hi => m1 i (m2 i hi)⟩
  | sl t e _ =>
    intro σ σ' ls rest x h
    cases ls with
    | nil => simp [take] at h
    | cons l ls => cases l with
      | nil => simp only [take, Option.some.injEq, Prod.mk.injEq] at h; obtain ⟨_, rfl, rfl⟩ := h; exact ⟨.refl _ _, fun i hi => hi⟩
      | ref i =>
        simp only [take] at h
        split at h
        · split at h
          · cases p with
            | ro =>
              simp only at h
              split at h
              · simp only [Option.some.injEq, Prod.mk.injEq] at h
                obtain ⟨_, rfl, rfl⟩ := h
                exact ⟨.refl _ _, fun i hi => by simp [refs, hi]⟩
              · cases h
            | own =>
              simp only at h
              split at h
              · simp only [Option.some.injEq, Prod.mk.injEq] at h
                obtain ⟨_, rfl, rfl⟩ := h
                exact ⟨(Kp.upd σ i .dead σ.ck (Nat.le_refl _)).mono (fun j hj => by simp at hj; simp [refs, hj]), fun i hi => by simp [refs, hi]⟩
              · cases h
            | own1 =>
              simp only at h
              split at h
              · simp only [Option.some.injEq, Prod.mk.injEq] at h
                obtain ⟨_, rfl, rfl⟩ := h
                exact ⟨(Kp.upd σ i .dead σ.ck (Nat.le_refl _)).mono (fun j hj => by simp at hj; simp [refs, hj]), fun i hi => by simp [refs, hi]⟩
              · cases h
          · cases h
        · cases h
      | _ => simp [take] at h

theorem give_kp (k : Kd) (T : Ty) : ∀ (x : den T) (σ : State), Kp σ (give k T x σ).2 [] := by
  induction T with
  | pair A B iha ihb => intro x σ; have := (iha x.1 σ).trans (ihb x.2 (give k A x.1 σ).2); exact this
  | sl t e _ => intro x σ; exact Kp.newEnt σ _
  | _ => intro x σ; exact .refl _ _

theorem takeAll_kp {T : Ty} : ∀ {k : Nat} {l : List (Nat × AV)} {σ σ' : State} {xs : List (den T)}, takeAll T k l σ = some (xs, σ') → Kp σ σ' (l.flatMap fun p => match p.2 with | .sv s => refs s.leaves | _ => [])
  | k, [], σ, σ', xs, h => by simp [takeAll] at h; obtain ⟨_, rfl⟩ := h; exact .refl _ _
  | k, (i, av) :: l, σ, σ', xs, h => by
    cases av with
    | sv s =>
      simp only [takeAll] at h
      split at h
      · simp only [Option.bind_eq_some_iff, Option.some.injEq, Prod.mk.injEq] at h
        obtain ⟨⟨y, rest, σ1⟩, h1, ⟨zs, σ2⟩, h2, _, rfl⟩ := h
        simp only [List.flatMap_cons]
        exact (take_kp h1).1.trans (takeAll_kp h2)
      · cases h
    | _ => simp [takeAll] at h

theorem step_kp {C : Ctx} {σ : State} {op : Op} {ck : Bool} {out : Out} (h : step C σ op = some (.plain ck out)) : Kp σ out.st (touch σ op) := by
  cases op with
  | move x => simp only [step, Option.some.injEq, SR.plain.injEq] at h; obtain ⟨_, rfl⟩ := h; exact .refl _ _
  | assign x => simp only [step, Option.some.injEq, SR.plain.injEq] at h; obtain ⟨_, rfl⟩ := h; exact .refl _ _
  | pick c x y =>
    simp only [step] at h
    split at h
    · split at h <;> (simp only [Option.some.injEq, SR.plain.injEq] at h; obtain ⟨_, rfl⟩ := h; exact .refl _ _)
    · cases h
  | alloc t =>
    simp only [step] at h
    split at h
    · simp only [Option.some.injEq, SR.plain.injEq] at h; obtain ⟨_, rfl⟩ := h; exact Kp.newEnt _ _
    · cases h
  | box t x =>
    simp only [step] at h
    split at h
    · split at h
      · simp only [Option.some.injEq, SR.plain.injEq] at h; obtain ⟨_, rfl⟩ := h; exact Kp.newEnt _ _
      · cases h
    · cases h
  | build t ps =>
    simp only [step] at h
    split at h
    · simp only [Option.bind_eq_some_iff, Option.some.injEq, SR.plain.injEq] at h
      obtain ⟨ls, _, _, rfl⟩ := h
      exact .refl _ _
    · cases h
  | buildSlice t m ps =>
    simp only [step] at h
    split at h
    · split at h
      · split at h
        · simp only [Option.bind_eq_some_iff, Option.some.injEq, SR.plain.injEq] at h
          obtain ⟨⟨xs, σ1⟩, hx, _, rfl⟩ := h
          refine ((takeAll_kp hx).trans (Kp.newEnt σ1 _)).mono (fun i hi => ?_)
          simp only [List.append_nil, List.flatMap_map] at hi
          exact hi
        · cases h
      · cases h
    · cases h
  | load t x =>
    simp only [step] at h
    split at h
    · split at h
      · split at h
        · split at h
          · simp only [Option.bind_eq_some_iff, Option.some.injEq, SR.plain.injEq] at h
            obtain ⟨s, _, _, rfl⟩ := h
            exact .refl _ _
          · cases h
        · cases h
      · split at h
        · split at h
          · simp only [Option.bind_eq_some_iff, Option.some.injEq, SR.plain.injEq] at h
            obtain ⟨y, _, s, _, _, rfl⟩ := h
            exact (give_kp _ _ _ _).mono (by simp)
          · cases h
        · cases h
      · cases h
    · cases h
  | store t x y =>
    simp only [step] at h
    split at h
    · split at h
      · rename_i i k s hx hy
        split at h
        · split at h
          · simp only [Option.some.injEq, SR.plain.injEq] at h
            obtain ⟨_, rfl⟩ := h
            simp only [touch, hx, hy]
            exact Kp.upd σ i _ σ.ck (Nat.le_refl _)
          · cases h
        · cases h
      · rename_i i j sz k s hx hy
        split at h
        · simp only [Option.bind_eq_some_iff] at h
          obtain ⟨⟨q, rest, σ1⟩, htk, h⟩ := h
          simp only at h
          split at h
          · split at h
            · simp only [Option.bind_eq_some_iff, Option.some.injEq, SR.plain.injEq] at h
              obtain ⟨z, _, _, rfl⟩ := h
              simp only [touch, hx, hy]
              refine ((take_kp htk).1.trans (Kp.upd σ1 i _ (σ1.ck + 1) (Nat.le_succ _))).mono (fun j hj => ?_)
              simp at hj ⊢
              exact hj.symm
            · cases h
          · cases h
        · cases h
      · cases h
    · cases h
  | nilCheck x =>
    simp only [step] at h
    split at h
    · simp only [Option.some.injEq, SR.plain.injEq] at h; obtain ⟨_, rfl⟩ := h; exact .refl _ _
    · simp only [Option.some.injEq, SR.plain.injEq] at h; obtain ⟨_, rfl⟩ := h; exact .refl _ _
    · cases h
  | binOp op t x y t2 =>
    simp only [step] at h
    split at h
    · split at h
      · simp only [Option.bind_eq_some_iff, Option.some.injEq, SR.plain.injEq] at h
        obtain ⟨q, _, _, rfl⟩ := h
        exact .refl _ _
      · cases h
    · simp only [Option.bind_eq_some_iff, Option.some.injEq, SR.plain.injEq] at h
      obtain ⟨q, _, _, rfl⟩ := h
      exact .refl _ _
    · split at h
      · split at h
        · simp only [Option.bind_eq_some_iff] at h
          obtain ⟨p, _, q, _, h⟩ := h
          split at h
          · split at h
            · simp only [Option.some.injEq, SR.plain.injEq] at h; obtain ⟨_, rfl⟩ := h; exact .refl _ _
            · simp only [Option.some.injEq, SR.plain.injEq] at h; obtain ⟨_, rfl⟩ := h; exact .refl _ _
            · cases h
          · cases h
        · cases h
      · cases h
    · cases h
  | unOp op t x =>
    simp only [step] at h
    split at h
    · simp only [Option.bind_eq_some_iff, Option.some.injEq, SR.plain.injEq] at h
      obtain ⟨q, _, _, rfl⟩ := h
      exact .refl _ _
    · cases h
  | convert s d x =>
    simp only [step] at h
    split at h
    · split at h
      · simp only [Option.some.injEq, SR.plain.injEq] at h; obtain ⟨_, rfl⟩ := h; exact .refl _ _
      · simp only [Option.some.injEq, SR.plain.injEq] at h; obtain ⟨_, rfl⟩ := h; exact .refl _ _
      · split at h
        · split at h
          · simp only [Option.bind_eq_some_iff, Option.some.injEq, SR.plain.injEq] at h
            obtain ⟨q, _, _, rfl⟩ := h
            exact .refl _ _
          · cases h
        · cases h
      · cases h
    · cases h
  | makeFunc f first caps =>
    cases f with
    | func f =>
      simp only [step] at h
      split at h
      · simp only [Option.bind_eq_some_iff, Option.some.injEq, SR.plain.injEq] at h
        obtain ⟨q, _, _, rfl⟩ := h
        exact .refl _ _
      · cases h
    | _ => simp [step] at h
  | makeSlice t l c =>
    simp only [step] at h
    split at h
    · split at h
      · split at h
        · simp only [Option.some.injEq, SR.plain.injEq] at h; obtain ⟨_, rfl⟩ := h; exact Kp.newEnt _ _
        · cases h
      · cases h
    · cases h
  | slice t x lo hi mx =>
    cases mx with
    | some y => simp [step] at h
    | none =>
      simp only [step] at h
      split at h
      · split at h
        · split at h
          · simp only [Option.some.injEq, SR.plain.injEq] at h; obtain ⟨_, rfl⟩ := h; exact .refl _ _
          · cases h
        · split at h
          · split at h
            · simp only [Option.some.injEq, SR.plain.injEq] at h; obtain ⟨_, rfl⟩ := h; exact Kp.newEnt _ _
            · cases h
          · cases h
        · cases h
      · cases h
  | fieldAddr t x f =>
    simp only [step] at h
    split at h
    · simp only [Option.some.injEq, SR.plain.injEq] at h; obtain ⟨_, rfl⟩ := h; exact .refl _ _
    · simp only [Option.some.injEq, SR.plain.injEq] at h; obtain ⟨_, rfl⟩ := h; exact .refl _ _
    · cases h
  | field t x f =>
    simp only [step] at h
    split at h
    · split at h
      · split at h
        · simp only [Option.bind_eq_some_iff, Option.some.injEq, SR.plain.injEq] at h
          obtain ⟨q, _, _, rfl⟩ := h
          exact .refl _ _
        · cases h
      · cases h
    · cases h
  | indexAddr t x ix =>
    simp only [step] at h
    split at h
    · split at h
      · split at h
        · simp only [Option.some.injEq, SR.plain.injEq] at h; obtain ⟨_, rfl⟩ := h; exact .refl _ _
        · cases h
      · cases h
    · cases h
  | index t x ix =>
    simp only [step] at h
    split at h
    · split at h
      · simp only [Option.some.injEq, SR.plain.injEq] at h; obtain ⟨_, rfl⟩ := h; exact .refl _ _
      · cases h
    · cases h
  | extract x ix =>
    simp only [step] at h
    split at h
    · simp only [Option.bind_eq_some_iff, Option.some.injEq, SR.plain.injEq] at h
      obtain ⟨q, _, _, rfl⟩ := h
      exact .refl _ _
    · cases h
  | _ => simp [step] at h

theorem stepB_kp {C : Ctx} {σ : State} {b : Builtin} {xs : List Operand} {tys : List TypeId} {ck : Bool} {out : Out} {ts : List Nat} (h : stepB C σ b xs tys = some (.plain ck out, ts)) : Kp σ out.st ts := by
  unfold stepB at h
  split at h
  · split at h
    · split at h
      · simp only [Option.some.injEq, Prod.mk.injEq, SR.plain.injEq] at h; obtain ⟨⟨_, rfl⟩, _⟩ := h; exact .refl _ _
      · cases h
    · split at h
      · simp only [Option.some.injEq, Prod.mk.injEq, SR.plain.injEq] at h; obtain ⟨⟨_, rfl⟩, _⟩ := h; exact .refl _ _
      · cases h
    · split at h
      · split at h
        · simp only [Option.some.injEq, Prod.mk.injEq, SR.plain.injEq] at h; obtain ⟨⟨_, rfl⟩, _⟩ := h; exact .refl _ _
        · cases h
      · cases h
    · cases h
  · split at h
    · simp only [Option.some.injEq, Prod.mk.injEq, SR.plain.injEq] at h; obtain ⟨⟨_, rfl⟩, _⟩ := h; exact .refl _ _
    · cases h
  · split at h
    · split at h
      · split at h
        · split at h
          · simp only [Option.bind_eq_some_iff, Option.some.injEq, Prod.mk.injEq, SR.plain.injEq] at h
            obtain ⟨⟨p, rs, σ1⟩, h1, q, _, ⟨_, rfl⟩, rfl⟩ := h
            exact ((take_kp h1).1.trans (Kp.newEnt σ1 _)).mono (by simp)
          · simp only [Option.bind_eq_some_iff, Option.some.injEq, Prod.mk.injEq, SR.plain.injEq] at h
            obtain ⟨⟨p, rs, σ1⟩, h1, ⟨q, rx, σ2⟩, h2, ⟨_, rfl⟩, rfl⟩ := h
            exact (((take_kp h1).1.trans (take_kp h2).1).trans (Kp.newEnt σ2 _)).mono (by simp)
        · cases h
      · cases h
    · cases h
  · cases h

theorem takeV_kp {p : Pm} {g : Bool} {T : Ty} {s : SV} {σ σ' : State} {x : den T} {ts : List Nat} (h : takeV p g T s σ = some (x, σ', ts)) : Kp σ σ' ts := by
  unfold takeV at h
  split at h
  · simp only [Option.bind_eq_some_iff] at h
    obtain ⟨⟨y, rest, σ1⟩, h1, h2⟩ := h
    simp only at h2
    split at h2
    · cases h2; exact (take_kp h1).1
    · cases h2
  · cases h

theorem takeBoxes_kp : ∀ {bs : Boxes} {ss : List SV} {σ σ' : State} {x : den (capsT bs)} {ts : List Nat}, takeBoxes bs ss σ = some (x, σ', ts) → Kp σ σ' ts ∧ ∀ i, i ∈ idsOf ss → i ∈ ts
  | [], ss, σ, σ', x, ts, h => by
    cases ss with
    | nil => simp only [takeBoxes, Option.some.injEq, Prod.mk.injEq] at h; obtain ⟨_, rfl, rfl⟩ := h; exact ⟨.refl _ _, fun i hi => (by cases hi)⟩
    | cons s ss => simp [takeBoxes] at h
  | b :: bs, ss, σ, σ', x, ts, h => by
    cases ss with
    | nil => simp [takeBoxes] at h
    | cons s ss =>
      cases s with
      | agg ls => simp [takeBoxes] at h
      | lf l =>
        cases l with
        | ptr i k =>
          cases k with
          | succ k => simp [takeBoxes] at h
          | zero =>
            simp only [takeBoxes] at h
            split at h
            · split at h
              · simp only [Option.bind_eq_some_iff] at h
                obtain ⟨⟨y, rest, σ1⟩, h1, h2⟩ := h
                simp only at h2
                split at h2
                · simp only [Option.bind_eq_some_iff, Option.some.injEq, Prod.mk.injEq] at h2
                  obtain ⟨⟨q, σ2, ts2⟩, h3, _, rfl, rfl⟩ := h2
                  obtain ⟨k3, m3⟩ := takeBoxes_kp h3
                  refine ⟨(((Kp.upd σ i .dead σ.ck (Nat.le_refl _)).trans (take_kp h1).1).trans k3).mono (by simp), fun j hj => ?_⟩
                  simp only [idsOf, List.mem_cons] at hj
                  simp only [List.cons_append, List.mem_cons, List.mem_append]
                  rcases hj with hj | hj
                  · exact .inl hj
                  · exact .inr (.inr (m3 j hj))
                · cases h2
              · cases h
            · cases h
        | _ => simp [takeBoxes] at h

theorem take1_kp {p : PT} {av : AV} {σ σ' : State} {x : den p.ownP} {ts : List Nat} (h : take1 p av σ = some (x, σ', ts)) : Kp σ σ' ts ∧ ∀ i, i ∈ idsOf (ptrsS p av) → i ∈ ts := by
  cases p with
  | val m g T =>
    refine ⟨?_, fun i hi => by cases av <;> cases hi⟩
    cases m with
    | ro =>
      have hs1 : σ = σ' := by
        have h0 : some ((), σ, ([] : List Nat)) = some (x, σ', ts) := h
        exact congrArg (fun o : Option (Unit × State × List Nat) => (o.getD ((), σ, [])).2.1) h0
      subst hs1
      exact .refl _ _
    | own => obtain ⟨s, rfl, h0⟩ := onSv_some (show (onSv av fun s => takeV .own g T s σ) = some (x, σ', ts) from h); exact takeV_kp h0
    | own1 => obtain ⟨s, rfl, h0⟩ := onSv_some (show (onSv av fun s => takeV .own1 g T s σ) = some (x, σ', ts) from h); exact takeV_kp h0
  | box t T =>
    obtain ⟨s, rfl, h0⟩ := onSv_some (show (onSv av fun s => takeBoxes [(t, T)] [s] σ) = some (x, σ', ts) from h)
    exact takeBoxes_kp h0
  | fn f caps =>
    obtain ⟨f', ss, rfl, h0⟩ := onFn_some (show (onFn av fun f' ss => if f' = f then takeBoxes caps ss σ else none) = some (x, σ', ts) from h)
    split at h0
    · exact takeBoxes_kp h0
    · cases h0
  | io g T =>
    refine ⟨?_, fun i hi => by cases av <;> cases hi⟩
    obtain ⟨s, rfl, h0⟩ := onSv_some (show (onSv av fun s => takeV .own g T s σ) = some (x, σ', ts) from h)
    exact takeV_kp h0
  | sbox t T =>
    refine ⟨?_, fun i hi => by cases av <;> cases hi⟩
    simp only [take1] at h
    split at h
    · rename_i i
      split at h
      · split at h
        · cases h
          exact Kp.upd σ i .dead σ.ck (Nat.le_refl _)
        · cases h
      · cases h
    · cases h
  | rvar t T =>
    refine ⟨?_, fun i hi => by cases av <;> cases hi⟩
    have hs1 : σ = σ' := by
      have h0 : some ((), σ, ([] : List Nat)) = some (x, σ', ts) := h
      exact congrArg (fun o : Option (Unit × State × List Nat) => (o.getD ((), σ, [])).2.1) h0
    subst hs1
    exact .refl _ _
  | rfn f caps =>
    refine ⟨?_, fun i hi => by cases av <;> cases hi⟩
    have hs1 : σ = σ' := by
      have h0 : some ((), σ, ([] : List Nat)) = some (x, σ', ts) := h
      exact congrArg (fun o : Option (Unit × State × List Nat) => (o.getD ((), σ, [])).2.1) h0
    subst hs1
    exact .refl _ _

theorem takeArgs_kp : ∀ {ps : List PT} {as : List AV} {σ σ' : State} {x : den (ownT ps)} {ts : List Nat}, takeArgs ps as σ = some (x, σ', ts) → Kp σ σ' ts ∧ ∀ i, i ∈ idsAll ps as → i ∈ ts
  | [], as, σ, σ', x, ts, h => by
    cases as with
    | nil => simp only [takeArgs, Option.some.injEq, Prod.mk.injEq] at h; obtain ⟨_, rfl, rfl⟩ := h; exact ⟨.refl _ _, fun i hi => (by cases hi)⟩
    | cons _ _ => simp [takeArgs] at h
  | p :: ps, as, σ, σ', x, ts, h => by
    cases as with
    | nil => simp [takeArgs] at h
    | cons av as =>
      simp only [takeArgs, Option.bind_eq_some_iff, Option.some.injEq, Prod.mk.injEq] at h
      obtain ⟨⟨x1, σ1, ts1⟩, h1, ⟨x2, σ2, ts2⟩, h2, _, rfl, rfl⟩ := h
      obtain ⟨k1, m1⟩ := take1_kp h1
      obtain ⟨k2, m2⟩ := takeArgs_kp h2
      refine ⟨k1.trans k2, fun i hi => ?_⟩
      simp only [idsAll, List.mem_append] at hi ⊢
      rcases hi with hi | hi
      · exact .inl (m1 i hi)
      · exact .inr (m2 i hi)

theorem giveRes_kp : ∀ {rs : List (Bool × Ty)} {z : den (resT rs)} {σ σ' : State} {ss : List SV}, giveRes rs z σ = some (ss, σ') → Kp σ σ' []
  | [], z, σ, σ', ss, h => by simp only [giveRes, Option.some.injEq, Prod.mk.injEq] at h; obtain ⟨_, rfl⟩ := h; exact .refl _ _
  | r :: rs, z, σ, σ', ss, h => by
    simp only [giveRes, Option.bind_eq_some_iff, Option.some.injEq, Prod.mk.injEq] at h
    obtain ⟨s, _, ⟨q1, q2⟩, h2, _, rfl⟩ := h
    exact (give_kp _ _ _ _).trans (giveRes_kp h2)

theorem giveBoxes_kp : ∀ (bs : Boxes) (ss : List SV) (x : den (capsT bs)) (σ : State), Kp σ (giveBoxes bs ss x σ) (idsOf ss)
  | [], ss, x, σ => by cases ss <;> exact .refl _ _
  | b :: bs, [], x, σ => .refl _ _
  | b :: bs, s :: ss, x, σ => by
    cases s with
    | agg ls => exact .refl _ _
    | lf l =>
      cases l with
      | ptr i k =>
        have h1 := ((give_kp .own b.2 x.1 σ).trans (Kp.upd (give .own b.2 x.1 σ).2 i (.box b.1 (give .own b.2 x.1 σ).1) (give .own b.2 x.1 σ).2.ck (Nat.le_refl _))).trans (giveBoxes_kp bs ss x.2 _)
        exact h1.mono (by simp [idsOf])
      | _ => exact .refl _ _

theorem giveAfter_kp : ∀ (ps : List PT) (as : List AV) (z : den (boxT ps)) (σ : State), Kp σ (giveAfter ps as z σ) (idsAll ps as)
  | [], as, z, σ => by cases as <;> exact .refl _ _
  | p :: ps, [], z, σ => .refl _ _
  | p :: ps, a :: as, z, σ => (giveBoxes_kp p.boxes (ptrsS p a) (p.bx z.1) σ).trans (giveAfter_kp ps as z.2 _)

theorem giveIO_kp {T : Ty} : ∀ (ls : List Lf) (z : den T) (σ : State), Kp σ (giveIO T ls z σ).2 (refs ls) := by
  induction T with
  | pair x y iha ihb =>
    intro ls z σ
    simp only [giveIO]
    refine ((iha ls z.1 σ).trans (ihb _ z.2 _)).mono (fun i hi => ?_)
    simp only [List.mem_append] at hi
    rcases hi with hi | hi
    · exact hi
    · rw [giveIO_rest] at hi
      exact refs_drop _ _ _ hi
  | sl t e ih =>
    intro ls z σ
    cases ls with
    | nil => simp only [giveIO]; exact .refl _ _
    | cons l ls =>
      cases l with
      | ref i =>
        simp only [giveIO]
        split
        · exact (Kp.upd σ i (.lst .own t e z σ.ck) (σ.ck + 1) (Nat.le_succ _)).mono (fun j hj => by simp at hj; subst hj; simp [refs])
        · exact .refl _ _
      | _ => simp only [giveIO]; exact .refl _ _
  | _ => intro ls z σ; simp only [giveIO]; exact .refl _ _

theorem giveIOs_kp : ∀ (ps : List PT) (as : List AV) (z : den (boxT ps)) (σ0 σ : State), Kp σ (giveIOs ps as z σ0 σ) (ioIds ps as)
  | [], as, z, σ0, σ => by cases as <;> exact .refl _ _
  | p :: ps, [], z, σ0, σ => .refl _ _
  | p :: ps, av :: as, z, σ0, σ => by
    simp only [giveIOs, ioIds]
    refine Kp.trans ?_ (giveIOs_kp ps as z.2 σ0 _)
    cases p with
    | sbox t T =>
      simp only [giveIO1]
      split
      · rename_i i
        split
        · split
          · exact Kp.upd σ i _ σ.ck (Nat.le_refl _)
          · exact .refl _ _
        · exact .refl _ _
      · exact .refl _ _
    | io g T =>
      cases av with
      | sv s =>
        simp only [giveIO1]
        split
        · exact giveIO_kp _ _ _
        · exact .refl _ _
      | _ => exact .refl _ _
    | _ => exact .refl _ _

theorem stepC_kp {c : Ctr} {N : Nat} {as : List AV} {σ : State} {sr : SR} {ts : List Nat} {out : Out} (h : stepC c N as σ = some (sr, ts)) (hg : sr.gives out) : Kp σ out.st ts := by
  unfold stepC at h
  simp only [Option.bind_eq_some_iff, Option.some.injEq, Prod.mk.injEq] at h
  obtain ⟨⟨x, σ1, ts1⟩, h1, y, h2, rfl, rfl⟩ := h
  obtain ⟨z, hz, rfl⟩ := hg
  obtain ⟨k1, m1⟩ := takeArgs_kp h1
  unfold callOut
  cases hgr : giveRes c.rs z.1 σ1 with
  | none => simp only [hgr]; exact k1
  | some q =>
    obtain ⟨rs, σ2⟩ := q
    simp only [hgr]
    refine (((k1.trans (giveRes_kp hgr)).trans (giveAfter_kp c.ps as z.2 σ2)).trans (giveIOs_kp c.ps as z.2 _ _)).mono (fun i hi => ?_)
    simp only [List.append_nil, List.mem_append] at hi
    rcases hi with (hi | hi) | hi
    · exact hi
    · exact m1 i hi
    · exact takeArgs_ioIds h1 i hi

theorem cutOp_kp {C : Ctx} {σ : State} {op : Op} {sr : SR} {ts : List Nat} {out : Out} (h : cutOp C σ op = some (sr, ts)) (hg : sr.gives out) : Kp σ out.st ts := by
  unfold cutOp at h
  split at h
  · rename_i t k lo hi
    cases hc : C.cut k with
    | false => rw [hc] at h; cases h
    | true =>
      rw [hc] at h
      simp only [cond_true] at h
      split at h
      · split at h
        · split at h
          · split at h
            · cases h
              obtain ⟨_, rfl⟩ := hg
              refine ⟨rfl, fun j hj hn => ?_, Nat.le_succ _, Nat.le_succ _⟩
              simp only [List.mem_singleton] at hn
              have h1 : j ≠ σ.nx := fun e => hj ⟨by omega, by show j < σ.nx + 1; omega⟩
              show upd (upd σ.reg _ .dead) σ.nx _ j = _
              rw [upd_ne _ _ h1, upd_ne _ _ hn]
            · cases h
          · cases h
        · cases h
      · cases h
  · cases h

theorem stepT_kp {C : Ctx} {K : FuncId → List Ctr} {N : Nat} {σ : State} {op : Op} {sr : SR} {ts : List Nat} {out : Out} (h : stepT C K N σ op = some (sr, ts)) (hg : sr.gives out) : Kp σ out.st ts := by
  have hplain : (match cutOp C σ op with
    | some r => some r
    | none => match step C σ op with
      | some (.plain ck o) => some (SR.plain ck o, touch σ op)
      | _ => none) = some (sr, ts) → Kp σ out.st ts := by
    intro h
    split at h
    · rename_i r hs
      cases h
      exact cutOp_kp hs hg
    split at h
    · rename_i ck o' hs
      cases h
      obtain ⟨_, rfl⟩ := hg
      exact step_kp hs
    · cases h
  cases op with
  | call c =>
    simp only [stepT] at h
    split at h
    · split at h
      · rename_i ck o' ts' hs
        cases h
        obtain ⟨_, rfl⟩ := hg
        exact stepB_kp hs
      · cases h
    · obtain ⟨f, ss, he, h1⟩ := onFn_some h
      obtain ⟨c', hc', h2⟩ := stepK_some h1
      exact stepC_kp h2 hg
    · cases h
  | _ => exact hplain h
end Go.Vf
