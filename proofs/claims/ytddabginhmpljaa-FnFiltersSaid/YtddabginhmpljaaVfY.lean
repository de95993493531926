/- A region without an order: what its run in text order says. -/
import Derived.Test.YtddabginhmpljaaVfX
namespace Go.Vf
set_option linter.unusedVariables false
set_option linter.unusedSimpArgs false

structure Ev where
  r : Rec
  σ : State
  out : State
  av : AV

def Ev.next (e : Ev) : State := match e.r.dst with
  | some d => { merge e.σ e.r.lo e.r.ts e.out with sl := upd e.σ.sl d e.av }
  | none => merge e.σ e.r.lo e.r.ts e.out

/-- the guard of an operation, as the state has it: on or off -/
def Wants (all : Array Oper) (o : Oper) (σ : State) (b : Bool) : Prop := match o.guard with
  | none => b = true
  | some (j, q) => ∃ d, (all[j]?).bind (·.dst) = some d ∧ ((∃ v, σ.sl d = .sv (.lf (.sc (.bool v))) ∧ b = (v == q)) ∨ (σ.sl d = .no ∧ b = false))

structure EvOk (C : Ctx) (K : FuncId → List Ctr) (nt N : Nat) (all : Array Oper) (j : Nat) (σ : State) (rs : List Rec) (e : Ev) : Prop where
  op : ∃ o, all[j]? = some o ∧ e.r.us = usOf all o ∧ e.r.dst = o.dst ∧ e.r.bef = befOf rs j (preds o) ∧ (∀ p, p ∈ preds o → p < j) ∧
    ((Wants all o σ true ∧ ∃ sr, stepT C K N (restr e.r.us e.r.R σ) o.op = some (sr, e.r.ts) ∧ sr.gives ⟨e.av, e.out⟩) ∨ (Wants all o σ false ∧ e.av = .no ∧ e.out = σ ∧ e.r.ts = []))
  st : e.σ = σ
  lo : e.r.lo = σ.nx
  hi : e.r.hi = e.out.nx
  nx : σ.nx ≤ e.out.nx
  ck : σ.ck ≤ e.out.ck
  ts : ∀ i, i ∈ e.r.ts → i ∈ e.r.R
  eff : ∀ i, i ∈ e.r.ts ∨ (e.r.lo ≤ i ∧ i < e.r.hi) → (∀ p v t T xs x, e.out.reg i = .lst (.view p v) t T xs x → p ∈ e.r.R ∨ (e.r.lo ≤ p ∧ p < e.r.hi)) ∧ ∀ v, (e.out.reg i).ver = some v → σ.ck ≤ v ∧ v < e.out.ck
  ap : apartAll e.r j rs = true
  dst : ∀ d, e.r.dst = some d → d < nt

inductive Evs (C : Ctx) (K : FuncId → List Ctr) (nt N : Nat) (all : Array Oper) : Nat → State → List Rec → List Ev → State → Prop
  | nil {j : Nat} {σ : State} {rs : List Rec} (h : all.size ≤ j) : Evs C K nt N all j σ rs [] σ
  | cons {j : Nat} {σ σf : State} {rs : List Rec} {e : Ev} {es : List Ev} (h : EvOk C K nt N all j σ rs e) (k : Evs C K nt N all (j + 1) e.next (e.r :: rs) es σf) : Evs C K nt N all j σ rs (e :: es) σf

theorem setLit_id {σ : State} {d : Nat} {b : Bool} (h : σ.sl d = .sv (.lf (.sc (.bool b)))) : setLit σ d b = σ := by
  have : upd σ.sl d (.sv (.lf (.sc (.bool b)))) = σ.sl := by
    funext t
    by_cases ht : t = d
    · subst ht; simp [h]
    · exact upd_ne _ _ ht
  unfold setLit
  rw [this]

/-- what a run notes: slots written, entries turned -/
def Noted (tr tr' : Tr) (es : List Ev) : Prop := (∀ t, t ∉ tr'.ws → t ∉ tr.ws ∧ ∀ e, e ∈ es → e.r.dst ≠ some t) ∧ ∀ i, i ∉ tr'.ts → i ∉ tr.ts ∧ ∀ e, e ∈ es → i ∉ e.r.ts

theorem runD_evs {C : Ctx} {K : FuncId → List Ctr} {nt N : Nat} {all : Array Oper} {R : Type} {k : State → Tr → Option R} {r : R} : ∀ (os : List Oper) (j : Nat) (σ : State) (tr : Tr) (rs : List Rec), os = all.toList.drop j → runD C K nt N all R os j σ tr rs k = some r →
    ∃ es σf tr', Evs C K nt N all j σ rs es σf ∧ k σf tr' = some r ∧ Noted tr tr' es
  | [], j, σ, tr, rs, hos, h => ⟨[], σ, tr, .nil (by simpa using hos.symm), h, fun t ht => ⟨ht, by simp⟩, fun i hi => ⟨hi, by simp⟩⟩
  | o :: os, j, σ, tr, rs, hos, h => by
    have hj : j < all.size := by
      refine Nat.lt_of_not_le (fun hle => ?_)
      rw [List.drop_of_length_le (by simpa using hle)] at hos
      cases hos
    have ho : all[j]? = some o := by
      have := congrArg List.head? hos
      simp [List.head?_drop] at this
      exact this.symm
    have hos' : os = all.toList.drop (j + 1) := by
      have := congrArg List.tail hos
      simpa using this
    have ih := runD_evs (C := C) (K := K) (nt := nt) (N := N) (all := all) (k := k) (r := r) os (j + 1)
    have hfin : ∀ (Rd : List Nat) (out : Out) (ts : List Nat), ((Wants all o σ true ∧ ∃ sr, stepT C K N (restr (usOf all o) Rd σ) o.op = some (sr, ts) ∧ sr.gives out) ∨ (Wants all o σ false ∧ out.v = .no ∧ out.st = σ ∧ ts = [])) →
        (bif (predsOk j (preds o) && allIn Rd ts && Nat.ble σ.nx out.st.nx && Nat.ble σ.ck out.st.ck && effOk Rd σ.nx out.st.nx σ.ck out.st.ck out.st (ts ++ fromTo σ.nx (out.st.nx - σ.nx)) && apartAll ⟨usOf all o, o.dst, Rd, ts, σ.nx, out.st.nx, befOf rs j (preds o)⟩ j rs) then (match o.dst with
        | some d => bif Nat.blt d nt then runD C K nt N all R os (j + 1) { merge σ σ.nx ts out.st with sl := upd σ.sl d out.v } ⟨d :: tr.ws, ts ++ tr.ts⟩ (⟨usOf all o, o.dst, Rd, ts, σ.nx, out.st.nx, befOf rs j (preds o)⟩ :: rs) k else none
        | none => runD C K nt N all R os (j + 1) (merge σ σ.nx ts out.st) ⟨tr.ws, ts ++ tr.ts⟩ (⟨usOf all o, o.dst, Rd, ts, σ.nx, out.st.nx, befOf rs j (preds o)⟩ :: rs) k) else none) = some r →
        ∃ es σf tr', Evs C K nt N all j σ rs es σf ∧ k σf tr' = some r ∧ Noted tr tr' es := by
      intro Rd out ts hx hb
      rw [Bool.cond_eq_ite] at hb
      split at hb
      · rename_i hc
        simp only [Bool.and_eq_true] at hc
        obtain ⟨⟨⟨⟨⟨h1, h2⟩, h3⟩, h4⟩, h5⟩, h6⟩ := hc
        have hev : (∀ d, o.dst = some d → d < nt) → EvOk C K nt N all j σ rs ⟨⟨usOf all o, o.dst, Rd, ts, σ.nx, out.st.nx, befOf rs j (preds o)⟩, σ, out.st, out.v⟩ := fun hd =>
          { op := ⟨o, ho, rfl, rfl, rfl, predsOk_spec h1, hx⟩
            st := rfl
            lo := rfl
            hi := rfl
            nx := Nat.le_of_ble_eq_true h3
            ck := Nat.le_of_ble_eq_true h4
            ts := fun i hi => of_memN (allIn_spec h2 i hi)
            eff := fun i hi => effOk_spec h5 i (by
              simp only [List.mem_append]
              rcases hi with hi | hi
              · exact .inl hi
              · exact .inr (mem_fromTo hi.1 (by have := hi.2; have := Nat.le_of_ble_eq_true h3; simp only at *; omega)))
            ap := h6
            dst := hd }
        cases hd : o.dst with
        | none =>
          rw [hd] at hb
          simp only at hb
          obtain ⟨es, σf, tr', k1, k2, k3⟩ := ih _ _ _ hos' hb
          refine ⟨_ :: es, σf, tr', .cons (hev (by intro d h; rw [hd] at h; cases h)) (by rw [Ev.next]; simp only [hd]; exact k1), k2, ?_, ?_⟩
          · intro t ht
            obtain ⟨q1, q2⟩ := k3.1 t ht
            refine ⟨q1, fun e he => ?_⟩
            simp only [List.mem_cons] at he
            rcases he with he | he
            · subst he; simp [hd]
            · exact q2 e he
          · intro i hi
            obtain ⟨q1, q2⟩ := k3.2 i hi
            simp only [List.mem_append, not_or] at q1
            refine ⟨q1.2, fun e he => ?_⟩
            simp only [List.mem_cons] at he
            rcases he with he | he
            · subst he; exact q1.1
            · exact q2 e he
        | some d =>
          rw [hd] at hb
          simp only at hb
          cases hdn : Nat.blt d nt with
          | false => rw [hdn] at hb; cases hb
          | true =>
            rw [hdn] at hb
            obtain ⟨es, σf, tr', k1, k2, k3⟩ := ih _ _ _ hos' hb
            refine ⟨_ :: es, σf, tr', .cons (hev (by intro d' h; rw [hd] at h; cases h; rw [Nat.blt_eq] at hdn; exact hdn)) (by rw [Ev.next]; simp only [hd]; exact k1), k2, ?_, ?_⟩
            · intro t ht
              obtain ⟨q1, q2⟩ := k3.1 t ht
              simp only [List.mem_cons, not_or] at q1
              refine ⟨q1.2, fun e he => ?_⟩
              simp only [List.mem_cons] at he
              rcases he with he | he
              · subst he; simp [hd]; exact fun h => q1.1 h.symm
              · exact q2 e he
            · intro i hi
              obtain ⟨q1, q2⟩ := k3.2 i hi
              simp only [List.mem_append, not_or] at q1
              refine ⟨q1.2, fun e he => ?_⟩
              simp only [List.mem_cons] at he
              rcases he with he | he
              · subst he; exact q1.1
              · exact q2 e he
      · cases hb
    have hgo : Wants all o σ true → (match stepT C K N (restr (usOf all o) (readsOf σ (usOf all o)) σ) o.op with
      | none => none
      | some (.plain ck out, ts) => bif ck then (bif (predsOk j (preds o) && allIn (readsOf σ (usOf all o)) ts && Nat.ble σ.nx out.st.nx && Nat.ble σ.ck out.st.ck && effOk (readsOf σ (usOf all o)) σ.nx out.st.nx σ.ck out.st.ck out.st (ts ++ fromTo σ.nx (out.st.nx - σ.nx)) && apartAll ⟨usOf all o, o.dst, readsOf σ (usOf all o), ts, σ.nx, out.st.nx, befOf rs j (preds o)⟩ j rs) then (match o.dst with
        | some d => bif Nat.blt d nt then runD C K nt N all R os (j + 1) { merge σ σ.nx ts out.st with sl := upd σ.sl d out.v } ⟨d :: tr.ws, ts ++ tr.ts⟩ (⟨usOf all o, o.dst, readsOf σ (usOf all o), ts, σ.nx, out.st.nx, befOf rs j (preds o)⟩ :: rs) k else none
        | none => runD C K nt N all R os (j + 1) (merge σ σ.nx ts out.st) ⟨tr.ws, ts ++ tr.ts⟩ (⟨usOf all o, o.dst, readsOf σ (usOf all o), ts, σ.nx, out.st.nx, befOf rs j (preds o)⟩ :: rs) k) else none) else none
      | some (.call _ m f, ts) => m.bind fun x => (bif (predsOk j (preds o) && allIn (readsOf σ (usOf all o)) ts && Nat.ble σ.nx (f x).st.nx && Nat.ble σ.ck (f x).st.ck && effOk (readsOf σ (usOf all o)) σ.nx (f x).st.nx σ.ck (f x).st.ck (f x).st (ts ++ fromTo σ.nx ((f x).st.nx - σ.nx)) && apartAll ⟨usOf all o, o.dst, readsOf σ (usOf all o), ts, σ.nx, (f x).st.nx, befOf rs j (preds o)⟩ j rs) then (match o.dst with
        | some d => bif Nat.blt d nt then runD C K nt N all R os (j + 1) { merge σ σ.nx ts (f x).st with sl := upd σ.sl d (f x).v } ⟨d :: tr.ws, ts ++ tr.ts⟩ (⟨usOf all o, o.dst, readsOf σ (usOf all o), ts, σ.nx, (f x).st.nx, befOf rs j (preds o)⟩ :: rs) k else none
        | none => runD C K nt N all R os (j + 1) (merge σ σ.nx ts (f x).st) ⟨tr.ws, ts ++ tr.ts⟩ (⟨usOf all o, o.dst, readsOf σ (usOf all o), ts, σ.nx, (f x).st.nx, befOf rs j (preds o)⟩ :: rs) k) else none)) = some r →
        ∃ es σf tr', Evs C K nt N all j σ rs es σf ∧ k σf tr' = some r ∧ Noted tr tr' es := by
      intro hw h
      split at h
      · cases h
      · rename_i ck out ts hs
        cases ck with
        | false => cases h
        | true => exact hfin _ out ts (.inl ⟨hw, _, hs, rfl, rfl⟩) h
      · rename_i T m f ts hs
        obtain ⟨x, hx, h⟩ := Option.bind_eq_some_iff.1 h
        exact hfin _ (f x) ts (.inl ⟨hw, _, hs, x, hx, rfl⟩) h
    simp only [runD] at h
    cases hg : o.guard with
    | none => rw [hg] at h; exact hgo (by simp [Wants, hg]) h
    | some jq =>
      obtain ⟨jg, q⟩ := jq
      rw [hg] at h
      simp only at h
      cases hd : (all[jg]?).bind (·.dst) with
      | none => rw [hd] at h; cases h
      | some d =>
        rw [hd] at h
        simp only at h
        split at h
        · rename_i b hs
          cases b with
          | true =>
            simp only [cond_true, setLit_id hs] at h
            cases q with
            | true => exact hgo (by simp [Wants, hg, hd, hs]) h
            | false => exact hfin [] ⟨.no, σ⟩ [] (.inr ⟨by simp [Wants, hg, hd, hs], rfl, rfl, rfl⟩) h
          | false =>
            simp only [cond_false, setLit_id hs] at h
            cases q with
            | false => exact hgo (by simp [Wants, hg, hd, hs]) h
            | true => exact hfin [] ⟨.no, σ⟩ [] (.inr ⟨by simp [Wants, hg, hd, hs], rfl, rfl, rfl⟩) h
        · rename_i hs
          exact hfin [] ⟨.no, σ⟩ [] (.inr ⟨by simp [Wants, hg, hd, hs], rfl, rfl, rfl⟩) h
        · cases h
end Go.Vf
