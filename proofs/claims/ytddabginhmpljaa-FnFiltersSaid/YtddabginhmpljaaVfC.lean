/- From cells' values to data ('take') and back ('give'). -/
import Derived.Test.YtddabginhmpljaaVfB
namespace Go.Vf
set_option linter.unusedVariables false
set_option linter.unusedSimpArgs false

def liveB (reg : Nat → Ent) : Ent → Bool
  | .dead => false
  | .lst (.view p v) _ _ _ _ => match (reg p).ver with
    | some u => Nat.beq u v
    | none => false
  | _ => true

theorem liveB_spec {reg : Nat → Ent} {e : Ent} (h : liveB reg e = true) : liveE reg e := by
  cases e with
  | dead => simp [liveB] at h
  | box t ls => trivial
  | lst k t e xs v =>
    cases k with
    | view p u =>
      simp only [liveB] at h
      show (reg p).ver = some u
      split at h
      · rename_i u' hu; rw [hu, Nat.eq_of_beq_eq_true h]
      · cases h
    | _ => trivial

def kdTop (p : Pm) (k : Kd) : Bool :=
  match p, k with
  | .own, .own | .own1, .own1 => true
  | _, _ => false

def take (p : Pm) : (T : Ty) → List Lf → State → Option (den T × List Lf × State)
  | .int k, .sc (.int k' n) :: ls, σ => if k = k' then some (n, ls, σ) else none
  | .bool, .sc (.bool b) :: ls, σ => some (b, ls, σ)
  | .str, .sc (.string s) :: ls, σ => some (s, ls, σ)
  | .unit, ls, σ => some ((), ls, σ)
  | .pair a b, ls, σ => (take p a ls σ).bind fun y => (take p b y.2.1 y.2.2).bind fun z => some ((y.1, z.1), z.2.1, z.2.2)
  | .sl t e, .nil :: ls, σ => some ([], ls, σ)
  | .sl t e, .ref i :: ls, σ => match σ.reg i with
    | .lst k t' e' xs v => if h : e' = e then
        (match p with
        | .ro => if liveB σ.reg (.lst k t' e' xs v) then some (h ▸ xs, ls, σ) else none
        | p => if kdTop p k && Nat.beq t' t then some (h ▸ xs, ls, { σ with reg := upd σ.reg i .dead }) else none)
      else none
    | _ => none
  | _, _, _ => none

def refs : List Lf → List Nat
  | [] => []
  | .ref i :: ls => i :: refs ls
  | _ :: ls => refs ls

/-- taking turns only the entries that stand there -/
theorem take_off {p : Pm} {T : Ty} : ∀ {σ σ' : State} {ls rest : List Lf} {x : den T}, take p T ls σ = some (x, rest, σ') → ∀ i, i ∉ refs ls → σ'.reg i = σ.reg i := by
  have key : ∀ {σ σ' : State} {ls rest : List Lf} {x : den T}, take p T ls σ = some (x, rest, σ') → (∀ i, i ∉ refs ls → σ'.reg i = σ.reg i) ∧ ∀ i, i ∈ refs rest → i ∈ refs ls := by
    induction T with
    | int k =>
      intro σ σ' ls rest x h
      cases ls with
      | nil => simp [take] at h
      | cons l ls => cases l with
        | sc v => cases v <;> simp [take] at h; obtain ⟨_, _, rfl, rfl⟩ := h; exact ⟨fun _ _ => rfl, fun i hi => hi⟩
        | _ => simp [take] at h
    | bool =>
      intro σ σ' ls rest x h
      cases ls with
      | nil => simp [take] at h
      | cons l ls => cases l with
        | sc v => cases v <;> simp [take] at h; obtain ⟨_, rfl, rfl⟩ := h; exact ⟨fun _ _ => rfl, fun i hi => hi⟩
        | _ => simp [take] at h
    | str =>
      intro σ σ' ls rest x h
      cases ls with
      | nil => simp [take] at h
      | cons l ls => cases l with
        | sc v => cases v <;> simp [take] at h; obtain ⟨_, rfl, rfl⟩ := h; exact ⟨fun _ _ => rfl, fun i hi => hi⟩
        | _ => simp [take] at h
    | unit => intro σ σ' ls rest x h; simp [take] at h; obtain ⟨rfl, rfl⟩ := h; exact ⟨fun _ _ => rfl, fun i hi => hi⟩
    | pair A B iha ihb =>
      intro σ σ' ls rest x h
      simp only [take, Option.bind_eq_some_iff, Option.some.injEq, Prod.mk.injEq] at h
      obtain ⟨⟨y, l1, σ1⟩, h1, ⟨z, l2, σ2⟩, h2, _, rfl, rfl⟩ := h
      obtain ⟨k1, m1⟩ := iha h1
      obtain ⟨k2, m2⟩ := ihb h2
      exact ⟨fun i hi => (k2 i (fun h => hi (m1 i h))).trans (k1 i hi), fun i hi => m1 i (m2 i hi)⟩
    | sl t e _ =>
      intro σ σ' ls rest x h
      cases ls with
      | nil => simp [take] at h
      | cons l ls => cases l with
        | nil => simp only [take, Option.some.injEq, Prod.mk.injEq] at h; obtain ⟨_, rfl, rfl⟩ := h; exact ⟨fun _ _ => rfl, fun i hi => hi⟩
        | ref i =>
          have hk : ∀ j, j ∉ refs (.ref i :: ls) → upd σ.reg i .dead j = σ.reg j := fun j hj => upd_ne _ _ (fun e => hj (by simp [refs, e]))
          simp only [take] at h
          split at h
          · split at h
            · cases p with
              | ro =>
                simp only at h
                split at h
                · simp only [Option.some.injEq, Prod.mk.injEq] at h
                  obtain ⟨_, rfl, rfl⟩ := h
                  exact ⟨fun _ _ => rfl, fun i hi => by simp [refs, hi]⟩
                · cases h
              | own =>
                simp only at h
                split at h
                · simp only [Option.some.injEq, Prod.mk.injEq] at h
                  obtain ⟨_, rfl, rfl⟩ := h
                  exact ⟨hk, fun i hi => by simp [refs, hi]⟩
                · cases h
              | own1 =>
                simp only at h
                split at h
                · simp only [Option.some.injEq, Prod.mk.injEq] at h
                  obtain ⟨_, rfl, rfl⟩ := h
                  exact ⟨hk, fun i hi => by simp [refs, hi]⟩
                · cases h
            · cases h
          · cases h
        | _ => simp [take] at h
  intro σ σ' ls rest x h
  exact (key h).1

/-- what taking leaves of an entry's blocks -/
structure Less (ρ : Nat → RB) (σ σ' : State) : Prop where
  sl : σ'.sl = σ.sl
  nx : σ'.nx = σ.nx
  ck : σ'.ck = σ.ck
  reg : ∀ j, σ'.reg j = σ.reg j ∨ σ'.reg j = .dead

theorem Less.refl (ρ : Nat → RB) (σ : State) : Less ρ σ σ := ⟨rfl, rfl, rfl, fun _ => .inl rfl⟩
theorem Less.trans {ρ : Nat → RB} {a b c : State} (h : Less ρ a b) (k : Less ρ b c) : Less ρ a c :=
  ⟨k.sl.trans h.sl, k.nx.trans h.nx, k.ck.trans h.ck, fun j => by
    rcases k.reg j with e | e
    · rw [e]; exact h.reg j
    · exact .inr e⟩

theorem Less.own {ρ : Nat → RB} {σ σ' : State} (h : Less ρ σ σ') (j b : Nat) (hb : b ∈ ownB (σ'.reg j) (ρ j)) : b ∈ ownB (σ.reg j) (ρ j) := by
  rcases h.reg j with e | e
  · rwa [e] at hb
  · rw [e] at hb; simp [ownB] at hb

theorem Less.ro {ρ : Nat → RB} {σ σ' : State} (h : Less ρ σ σ') (j b : Nat) (hb : b ∈ roB (σ'.reg j) (ρ j)) : b ∈ roB (σ.reg j) (ρ j) := by
  rcases h.reg j with e | e
  · rwa [e] at hb
  · rw [e] at hb; simp [roB] at hb

theorem Elems.noRo {α : Type} {R : List Value → α → List Nat → List Nat → Prop} {sz : Nat} (hR : ∀ c x o r, R c x o r → r = []) :
    ∀ {xs : List α} {cs : List Value} {o r : List Nat}, Elems R sz cs xs o r → r = []
  | [], _, _, _, h => h.2.2
  | x :: xs, _, _, _, h => by
    obtain ⟨c1, c2, o1, o2, r1, r2, _, _, h1, h2, rfl, rfl⟩ := h
    simp [hR _ _ _ _ h1, h2.noRo hR]

theorem Rd.noRo {w : World} {T : Ty} {cs : List Value} {x : den T} {o r : List Nat} (h : Rd w .own T cs x o r) : r = [] := by
  induction T generalizing cs o r with
  | pair a b' iha ihb =>
    obtain ⟨c1, c2, o1, o2, r1, r2, _, h1, h2, rfl, rfl⟩ := h
    simp [iha h1, ihb h2]
  | sl t e ih =>
    obtain ⟨v, es, o0, r0, o', r', _, h1, h2, rfl, rfl⟩ := h
    obtain ⟨_, _, rfl⟩ := h1
    simp [h2.noRo (fun c x o r hx => ih hx)]
  | _ => exact h.2.2

theorem LfsOk.length {ρ : Nat → RB} {U : Nat → Prop} {ls : List Lf} {cs : List Value} (h : LfsOk ρ U ls cs) : cs.length = ls.length := by
  induction h with
  | nil => rfl
  | cons _ _ ih => simp [ih]

theorem LfsOk.append {ρ : Nat → RB} {U : Nat → Prop} {l1 l2 : List Lf} {c1 c2 : List Value} (h1 : LfsOk ρ U l1 c1) (h2 : LfsOk ρ U l2 c2) : LfsOk ρ U (l1 ++ l2) (c1 ++ c2) := by
  induction h1 with
  | nil => exact h2
  | cons h _ ih => exact .cons h ih

theorem Rd.slice {w : World} {p : Pm} {t : TypeId} {e : Ty} {v : Value} {xs : List (den e)} {o r : List Nat} (h : Rd w p (.sl t e) [v] xs o r) : ∃ a n c, v = .slice a n c := by
  obtain ⟨v', es, o0, r0, o', r', hc, h1, _⟩ := h
  cases hc
  cases hp : p.top with
  | true =>
    rw [hp] at h1
    rcases h1.1.2 with ⟨a, rfl, _⟩ | ⟨g, off, cap, cur, rfl, _⟩
    · exact ⟨_, _, _, rfl⟩
    · exact ⟨_, _, _, rfl⟩
  | false =>
    rw [hp] at h1
    obtain ⟨_, ⟨a, c, rfl, _⟩, _⟩ := h1
    exact ⟨_, _, _, rfl⟩

/-- the empty list, read off a nil slice -/
theorem Rd.nilSlice (w : World) (p : Pm) (t : TypeId) (e : Ty) : Rd w p (.sl t e) [.slice none 0 0] ([] : List (den e)) [] [] := by
  refine ⟨.slice none 0 0, [], [], [], [], [], rfl, ?_, ⟨rfl, rfl, rfl⟩, rfl, rfl⟩
  cases p <;> first
    | exact ⟨OwnR.nil w t (size e), rfl⟩
    | exact ⟨by simp, ⟨none, 0, rfl, Nat.le_refl _, by simp, .inl ⟨rfl, rfl, rfl⟩⟩, rfl⟩

section
variable {w0 : World} {F0 : List Nat} {n : Nat} {ρ : Nat → RB} {U V : Nat → Prop} {a : Act} {w : World}

theorem take_ro {T : Ty} : ∀ {σ σ' : State} {ls rest : List Lf} {x : den T} {cs : List Value}, Rel w0 F0 n ρ U V σ a w → take .ro T ls σ = some (x, rest, σ') → LfsOk ρ U ls cs →
    σ' = σ ∧ ∃ c1 c2 r, cs = c1 ++ c2 ∧ LfsOk ρ U rest c2 ∧ Rd w .ro T c1 x [] r ∧ ∀ b, b ∈ r → ∃ j, b ∈ ownB (σ.reg j) (ρ j) ∨ b ∈ roB (σ.reg j) (ρ j) := by
  induction T with
  | int k =>
    intro σ σ' ls rest x cs hR ht hl
    cases ls with
    | nil => simp [take] at ht
    | cons l ls =>
      cases hl with
      | cons h1 h2 =>
        cases l with
        | sc v =>
          cases v <;> simp [take] at ht
          obtain ⟨rfl, rfl, rfl, rfl⟩ := ht
          obtain ⟨rfl, _⟩ := h1
          exact ⟨rfl, _, _, [], rfl, h2, ⟨rfl, rfl, rfl⟩, by simp⟩
        | _ => simp [take] at ht
  | bool =>
    intro σ σ' ls rest x cs hR ht hl
    cases ls with
    | nil => simp [take] at ht
    | cons l ls =>
      cases hl with
      | cons h1 h2 =>
        cases l with
        | sc v =>
          cases v <;> simp [take] at ht
          obtain ⟨rfl, rfl, rfl⟩ := ht
          obtain ⟨rfl, _⟩ := h1
          exact ⟨rfl, _, _, [], rfl, h2, ⟨rfl, rfl, rfl⟩, by simp⟩
        | _ => simp [take] at ht
  | str =>
    intro σ σ' ls rest x cs hR ht hl
    cases ls with
    | nil => simp [take] at ht
    | cons l ls =>
      cases hl with
      | cons h1 h2 =>
        cases l with
        | sc v =>
          cases v <;> simp [take] at ht
          obtain ⟨rfl, rfl, rfl⟩ := ht
          obtain ⟨rfl, _⟩ := h1
          exact ⟨rfl, _, _, [], rfl, h2, ⟨rfl, rfl, rfl⟩, by simp⟩
        | _ => simp [take] at ht
  | unit =>
    intro σ σ' ls rest x cs hR ht hl
    simp [take] at ht
    obtain ⟨rfl, rfl⟩ := ht
    exact ⟨rfl, [], cs, [], rfl, hl, ⟨rfl, rfl, rfl⟩, by simp⟩
  | pair A B iha ihb =>
    intro σ σ' ls rest x cs hR ht hl
    simp only [take, Option.bind_eq_some_iff] at ht
    obtain ⟨⟨y, l1, σ1⟩, h1, ⟨z, l2, σ2⟩, h2, h3⟩ := ht
    simp only [Option.some.injEq, Prod.mk.injEq] at h3
    obtain ⟨rfl, rfl, rfl⟩ := h3
    obtain ⟨rfl, c1, c2, r1, rfl, k2, k3, k4⟩ := iha hR h1 hl
    obtain ⟨rfl, c3, c4, r2, rfl, k6, k7, k8⟩ := ihb hR h2 k2
    refine ⟨rfl, c1 ++ c3, c4, r1 ++ r2, by simp, k6, ⟨c1, c3, [], [], r1, r2, rfl, k3, k7, rfl, rfl⟩, fun b hb => ?_⟩
    simp only [List.mem_append] at hb
    rcases hb with hb | hb
    · exact k4 b hb
    · exact k8 b hb
  | sl t e _ =>
    intro σ σ' ls rest x cs hR ht hl
    cases ls with
    | nil => simp [take] at ht
    | cons l ls =>
      cases hl with
      | cons h1 h2 =>
        cases l with
        | nil =>
          simp only [take, Option.some.injEq, Prod.mk.injEq] at ht
          obtain ⟨rfl, rfl, rfl⟩ := ht
          cases h1
          exact ⟨rfl, [_], _, [], rfl, h2, Rd.nilSlice w .ro t e, by simp⟩
        | ref i =>
          simp only [take] at ht
          cases hr : σ.reg i with
          | dead => simp [hr] at ht
          | box t' ls' => simp [hr] at ht
          | lst k t' e' xs ver =>
            simp only [hr] at ht
            split at ht
            · rename_i he
              subst he
              split at ht
              · rename_i hlive
                simp only [Option.some.injEq, Prod.mk.injEq] at ht
                obtain ⟨rfl, rfl, rfl⟩ := ht
                have hlv := liveB_spec hlive
                have hE := hR.ent i (by rw [hr]; exact hlv)
                rw [hr] at hE
                obtain ⟨r', k1, k2⟩ := Rd.ro hE
                obtain ⟨hi, rfl, _⟩ := h1
                -- the type of the elements stands in the kind alone
                refine ⟨rfl, [_], _, r', rfl, h2, ?_, fun b hb => hR.all (i := i) (by rw [hr]; exact hlv) (by rw [hr]; exact k2 b hb)⟩
                obtain ⟨v, es, o0, r0, o', r'', q1, q2, q3, q4, q5⟩ := k1
                exact ⟨v, es, o0, r0, o', r'', q1, q2, q3, q4, q5⟩
              · cases ht
            · cases ht
        | _ => simp [take] at ht

theorem take_own {p : Pm} (hp : p.top = true) {T : Ty} : ∀ {σ σ' : State} {ls rest : List Lf} {x : den T} {cs : List Value}, Rel w0 F0 n ρ U V σ a w → take p T ls σ = some (x, rest, σ') → LfsOk ρ U ls cs →
    Rel w0 F0 n ρ U V σ' a w ∧ Less ρ σ σ' ∧ ∃ c1 c2 o r, cs = c1 ++ c2 ∧ LfsOk ρ U rest c2 ∧ Rd w p T c1 x o r ∧ o.Nodup ∧
      (∀ b, b ∈ o → (∃ j, b ∈ ownB (σ.reg j) (ρ j)) ∧ (∀ j, b ∉ ownB (σ'.reg j) (ρ j))) ∧ (∀ b, b ∈ r → ∃ j, b ∈ roB (σ.reg j) (ρ j)) := by
  induction T with
  | int k =>
    intro σ σ' ls rest x cs hR ht hl
    cases ls with
    | nil => simp [take] at ht
    | cons l ls =>
      cases hl with
      | cons h1 h2 =>
        cases l with
        | sc v =>
          cases v <;> simp [take] at ht
          obtain ⟨rfl, rfl, rfl, rfl⟩ := ht
          obtain ⟨rfl, _⟩ := h1
          exact ⟨hR, .refl _ _, _, _, [], [], rfl, h2, ⟨rfl, rfl, rfl⟩, by simp, by simp, by simp⟩
        | _ => simp [take] at ht
  | bool =>
    intro σ σ' ls rest x cs hR ht hl
    cases ls with
    | nil => simp [take] at ht
    | cons l ls =>
      cases hl with
      | cons h1 h2 =>
        cases l with
        | sc v =>
          cases v <;> simp [take] at ht
          obtain ⟨rfl, rfl, rfl⟩ := ht
          obtain ⟨rfl, _⟩ := h1
          exact ⟨hR, .refl _ _, _, _, [], [], rfl, h2, ⟨rfl, rfl, rfl⟩, by simp, by simp, by simp⟩
        | _ => simp [take] at ht
  | str =>
    intro σ σ' ls rest x cs hR ht hl
    cases ls with
    | nil => simp [take] at ht
    | cons l ls =>
      cases hl with
      | cons h1 h2 =>
        cases l with
        | sc v =>
          cases v <;> simp [take] at ht
          obtain ⟨rfl, rfl, rfl⟩ := ht
          obtain ⟨rfl, _⟩ := h1
          exact ⟨hR, .refl _ _, _, _, [], [], rfl, h2, ⟨rfl, rfl, rfl⟩, by simp, by simp, by simp⟩
        | _ => simp [take] at ht
  | unit =>
    intro σ σ' ls rest x cs hR ht hl
    simp [take] at ht
    obtain ⟨rfl, rfl⟩ := ht
    exact ⟨hR, .refl _ _, [], cs, [], [], rfl, hl, ⟨rfl, rfl, rfl⟩, by simp, by simp, by simp⟩
  | pair A B iha ihb =>
    intro σ σ' ls rest x cs hR ht hl
    simp only [take, Option.bind_eq_some_iff] at ht
    obtain ⟨⟨y, l1, σ1⟩, h1, ⟨z, l2, σ2⟩, h2, h3⟩ := ht
    simp only [Option.some.injEq, Prod.mk.injEq] at h3
    obtain ⟨rfl, rfl, rfl⟩ := h3
    obtain ⟨hR1, hL1, c1, c2, o1, r1, rfl, k2, k3, k4, k5, k6⟩ := iha hR h1 hl
    obtain ⟨hR2, hL2, c3, c4, o2, r2, rfl, q2, q3, q4, q5, q6⟩ := ihb hR1 h2 k2
    refine ⟨hR2, hL1.trans hL2, c1 ++ c3, c4, o1 ++ o2, r1 ++ r2, by simp, q2, ⟨c1, c3, o1, o2, r1, r2, rfl, k3, q3, rfl, rfl⟩, ?_, fun b hb => ?_, fun b hb => ?_⟩
    · refine List.nodup_append.2 ⟨k4, q4, fun b hb b' hb' e => ?_⟩
      subst e
      obtain ⟨j, hj⟩ := (q5 b hb').1
      exact (k5 b hb).2 j hj
    · simp only [List.mem_append] at hb
      rcases hb with hb | hb
      · exact ⟨(k5 b hb).1, fun j hj => (k5 b hb).2 j (hL2.own j b hj)⟩
      · obtain ⟨⟨j, hj⟩, h5⟩ := q5 b hb
        exact ⟨⟨j, hL1.own j b hj⟩, h5⟩
    · simp only [List.mem_append] at hb
      rcases hb with hb | hb
      · exact k6 b hb
      · obtain ⟨j, hj⟩ := q6 b hb
        exact ⟨j, hL1.ro j b hj⟩
  | sl t e _ =>
    intro σ σ' ls rest x cs hR ht hl
    cases ls with
    | nil => simp [take] at ht
    | cons l ls =>
      cases hl with
      | cons h1 h2 =>
        cases l with
        | nil =>
          simp only [take, Option.some.injEq, Prod.mk.injEq] at ht
          obtain ⟨rfl, rfl, rfl⟩ := ht
          cases h1
          exact ⟨hR, .refl _ _, [_], _, [], [], rfl, h2, Rd.nilSlice w p t e, by simp, by simp, by simp⟩
        | ref i =>
          simp only [take] at ht
          cases hr : σ.reg i with
          | dead => simp [hr] at ht
          | box t' ls' => simp [hr] at ht
          | lst k t' e' xs ver =>
            simp only [hr] at ht
            split at ht
            · rename_i he
              subst he
              have ht2 : (if kdTop p k && Nat.beq t' t then some (xs, ls, { σ with reg := upd σ.reg i .dead }) else none) = some (x, rest, σ') := by
                cases p with
                | ro => simp [Pm.top] at hp
                | own => exact ht
                | own1 => exact ht
              split at ht2
              · rename_i hc
                simp only [Bool.and_eq_true] at hc
                obtain ⟨hk, htt⟩ := hc
                have htt := Nat.eq_of_beq_eq_true htt
                subst htt
                cases ht2
                have hkp : k.pm = p ∧ (k = .own ∨ k = .own1) := by cases p <;> cases k <;> simp_all [kdTop, Kd.pm]
                have hlv : liveE σ.reg (σ.reg i) := by rw [hr]; rcases hkp.2 with rfl | rfl <;> trivial
                have hE := hR.ent i hlv
                rw [hr] at hE
                obtain ⟨hi, rfl, _⟩ := h1
                have ho : ∀ b, b ∈ (ρ i).o → b ∈ ownB (σ.reg i) (ρ i) := by intro b hb; rw [hr]; rcases hkp.2 with rfl | rfl <;> exact hb
                have hr' : ∀ b, b ∈ (ρ i).r → b ∈ roB (σ.reg i) (ρ i) := by intro b hb; rw [hr]; rcases hkp.2 with rfl | rfl <;> exact hb
                refine ⟨hR.kill i, ⟨rfl, rfl, rfl, fun j => ?_⟩, [_], _, (ρ i).o, (ρ i).r, rfl, h2, ?_, ?_, fun b hb => ⟨⟨i, ho b hb⟩, fun j hj => ?_⟩, fun b hb => ⟨i, hr' b hb⟩⟩
                · by_cases hj : j = i
                  · subst hj; exact .inr (by simp)
                  · exact .inl (upd_ne _ _ hj)
                · have : Rd w k.pm (.sl t' e') [(ρ i).v] xs (ρ i).o (ρ i).r := hE
                  rw [hkp.1] at this; exact this
                · have := hR.nodup i
                  rw [hr] at this
                  rcases hkp.2 with rfl | rfl <;> exact this
                · by_cases hji : j = i
                  · subst hji; simp [ownB] at hj
                  · simp only [upd_ne _ _ hji] at hj
                    exact hR.disj i j (Ne.symm hji) b (ho b hb) hj
              · cases ht2
            · cases ht
        | _ => simp [take] at ht

/-! ### From data to values -/

theorem ownB_lst {k : Kd} {t : TypeId} {e : Ty} {xs : List (den e)} {v b : Nat} {rb : RB} (h : b ∈ ownB (.lst k t e xs v) rb) : b ∈ rb.o := by
  cases k <;> first | exact h | cases h

theorem roB_lst {k : Kd} {t : TypeId} {e : Ty} {xs : List (den e)} {v b : Nat} {rb : RB} (h : b ∈ roB (.lst k t e xs v) rb) : b ∈ rb.r ∧ ∀ p u, k ≠ .view p u := by
  cases k <;> first | exact ⟨h, fun _ _ h => by cases h⟩ | cases h

theorem ver_lst {k : Kd} {t : TypeId} {e : Ty} {xs : List (den e)} {v u : Nat} (h : (Ent.lst k t e xs v).ver = some u) : u = v := by
  cases k <;> first | exact (Option.some.inj h).symm | cases h

def give (k : Kd) : (T : Ty) → den T → State → List Lf × State
  | .int k', x, σ => ([.sc (.int k' x)], σ)
  | .bool, x, σ => ([.sc (.bool x)], σ)
  | .str, x, σ => ([.sc (.string x)], σ)
  | .unit, _, σ => ([], σ)
  | .pair a b, x, σ => ((give k a x.1 σ).1 ++ (give k b x.2 (give k a x.1 σ).2).1, (give k b x.2 (give k a x.1 σ).2).2)
  | .sl t e, xs, σ => ([.ref σ.nx], { σ with reg := upd σ.reg σ.nx (.lst k t e xs σ.ck), nx := σ.nx + 1, ck := σ.ck + 1 })

/-- what the blocks of new data must be -/
structure GiveOk (w0 : World) (F0 : List Nat) (ρ : Nat → RB) (U V : Nat → Prop) (σ : State) (k : Kd) (o r : List Nat) : Prop where
  nodup : o.Nodup
  own : ∀ b, b ∈ o → (∀ j, b ∉ ownB (σ.reg j) (ρ j) ∧ b ∉ roB (σ.reg j) (ρ j)) ∧ (b ∈ F0 ∨ w0.heap.size ≤ b) ∧ b ∉ r
  ro : (∀ p v, k ≠ .view p v) → ∀ b, b ∈ r → ∀ j, b ∉ ownB (σ.reg j) (ρ j)
  vw : ∀ p v, k = .view p v → U p ∧ V v ∧ ((σ.reg p).ver = some v → ∀ b, b ∈ r → b ∈ ownB (σ.reg p) (ρ p) ∨ b ∈ roB (σ.reg p) (ρ p))

/-- the numbers of entries and versions between two states are free -/
def Free (U V : Nat → Prop) (σ σ' : State) : Prop := (∀ i, σ.nx ≤ i → i < σ'.nx → ¬ U i) ∧ ∀ v, σ.ck ≤ v → v < σ'.ck → ¬ V v

/-- what giving adds -/
structure More (ρ ρ' : Nat → RB) (U U' V V' : Nat → Prop) (σ σ' : State) : Prop where
  sl : σ'.sl = σ.sl
  nx : σ.nx ≤ σ'.nx
  ck : σ.ck ≤ σ'.ck
  rho : ∀ i, U i → ρ' i = ρ i
  reg : ∀ i, ¬ (σ.nx ≤ i ∧ i < σ'.nx) → σ'.reg i = σ.reg i
  u : ∀ i, U' i ↔ U i ∨ (σ.nx ≤ i ∧ i < σ'.nx)
  v : ∀ i, (V i → V' i) ∧ (V' i → V i ∨ (σ.ck ≤ i ∧ i < σ'.ck))

theorem More.refl (ρ : Nat → RB) (U V : Nat → Prop) (σ : State) : More ρ ρ U U V V σ σ := ⟨rfl, Nat.le_refl _, Nat.le_refl _, fun _ _ => rfl, fun _ _ => rfl, fun i => ⟨.inl, fun h => h.elim id (fun h => by omega)⟩, fun i => ⟨id, .inl⟩⟩
theorem More.trans {ρ ρ' ρ'' : Nat → RB} {U U' U'' V V' V'' : Nat → Prop} {a b c : State} (h : More ρ ρ' U U' V V' a b) (k : More ρ' ρ'' U' U'' V' V'' b c) : More ρ ρ'' U U'' V V'' a c :=
  ⟨k.sl.trans h.sl, Nat.le_trans h.nx k.nx, Nat.le_trans h.ck k.ck, fun i hi => (k.rho i ((h.u i).2 (.inl hi))).trans (h.rho i hi),
    fun i hi => (k.reg i (fun q => hi ⟨Nat.le_trans h.nx q.1, q.2⟩)).trans (h.reg i (fun q => hi ⟨q.1, Nat.lt_of_lt_of_le q.2 k.nx⟩)),
    fun i => by
      rw [k.u i, h.u i]
      have h1 := h.nx
      have h2 := k.nx
      constructor
      · rintro ((hu | hu) | hu)
        · exact .inl hu
        · exact .inr ⟨hu.1, by omega⟩
        · exact .inr ⟨by omega, hu.2⟩
      · rintro (hu | hu)
        · exact .inl (.inl hu)
        · by_cases hb : i < b.nx
          · exact .inl (.inr ⟨hu.1, hb⟩)
          · exact .inr ⟨by omega, hu.2⟩,
    fun i => ⟨fun hv => (k.v i).1 ((h.v i).1 hv), fun hv => by
      have h1 := h.ck
      have h2 := k.ck
      rcases (k.v i).2 hv with q | q
      · rcases (h.v i).2 q with q | q
        · exact .inl q
        · exact .inr ⟨q.1, by omega⟩
      · exact .inr ⟨by omega, q.2⟩⟩⟩

theorem give_nx (k : Kd) (T : Ty) : ∀ (x : den T) (σ : State), σ.nx ≤ (give k T x σ).2.nx ∧ σ.ck ≤ (give k T x σ).2.ck := by
  induction T with
  | pair A B iha ihb =>
    intro x σ
    have h1 := iha x.1 σ
    have h2 := ihb x.2 (give k A x.1 σ).2
    exact ⟨Nat.le_trans h1.1 h2.1, Nat.le_trans h1.2 h2.2⟩
  | sl t e _ => intro x σ; exact ⟨Nat.le_succ _, Nat.le_succ _⟩
  | _ => intro x σ; exact ⟨Nat.le_refl _, Nat.le_refl _⟩

theorem give_ok {k : Kd} {T : Ty} : ∀ {ρ : Nat → RB} {U V : Nat → Prop} {σ : State} {x : den T} {cs : List Value} {o r : List Nat}, Rel w0 F0 n ρ U V σ a w → Rd w k.pm T cs x o r → GiveOk w0 F0 ρ U V σ k o r → Free U V σ (give k T x σ).2 →
    ∃ ρ' U' V', Rel w0 F0 n ρ' U' V' (give k T x σ).2 a w ∧ LfsOk ρ' U' (give k T x σ).1 cs ∧ More ρ ρ' U U' V V' σ (give k T x σ).2 ∧
      (∀ j b, b ∈ ownB ((give k T x σ).2.reg j) (ρ' j) → b ∈ ownB (σ.reg j) (ρ j) ∨ b ∈ o) ∧ (∀ j b, b ∈ roB ((give k T x σ).2.reg j) (ρ' j) → b ∈ roB (σ.reg j) (ρ j) ∨ (b ∈ r ∧ ∀ p v, k ≠ .view p v)) := by
  induction T with
  | int k' =>
    intro ρ U V σ x cs o r hR hx hG hF
    obtain ⟨rfl, rfl, rfl⟩ := hx
    exact ⟨ρ, U, V, hR, .cons ⟨rfl, rfl⟩ .nil, .refl _ _ _ _, fun j b hb => .inl hb, fun j b hb => .inl hb⟩
  | bool =>
    intro ρ U V σ x cs o r hR hx hG hF
    obtain ⟨rfl, rfl, rfl⟩ := hx
    exact ⟨ρ, U, V, hR, .cons ⟨rfl, rfl⟩ .nil, .refl _ _ _ _, fun j b hb => .inl hb, fun j b hb => .inl hb⟩
  | str =>
    intro ρ U V σ x cs o r hR hx hG hF
    obtain ⟨rfl, rfl, rfl⟩ := hx
    exact ⟨ρ, U, V, hR, .cons ⟨rfl, rfl⟩ .nil, .refl _ _ _ _, fun j b hb => .inl hb, fun j b hb => .inl hb⟩
  | unit =>
    intro ρ U V σ x cs o r hR hx hG hF
    obtain ⟨rfl, rfl, rfl⟩ := hx
    exact ⟨ρ, U, V, hR, .nil, .refl _ _ _ _, fun j b hb => .inl hb, fun j b hb => .inl hb⟩
  | pair A B iha ihb =>
    intro ρ U V σ x cs o r hR hx hG hF
    obtain ⟨c1, c2, o1, o2, r1, r2, rfl, h1, h2, rfl, rfl⟩ := hx
    have hnd := List.nodup_append.1 hG.nodup
    have n1 := give_nx k A x.1 σ
    have n2 := give_nx k B x.2 (give k A x.1 σ).2
    have hF1 : Free U V σ (give k A x.1 σ).2 := ⟨fun i q1 q2 => hF.1 i q1 (Nat.lt_of_lt_of_le q2 n2.1), fun i q1 q2 => hF.2 i q1 (Nat.lt_of_lt_of_le q2 n2.2)⟩
    obtain ⟨ρ1, U1, V1, hR1, hL1, hM1, hO1, hQ1⟩ := iha (x := x.1) hR h1
      ⟨hnd.1, fun b hb => by have := hG.own b (by simp [hb]); exact ⟨this.1, this.2.1, fun h => this.2.2 (by simp [h])⟩, fun hk b hb => hG.ro hk b (by simp [hb]),
        fun p v hk => ⟨(hG.vw p v hk).1, (hG.vw p v hk).2.1, fun hv b hb => (hG.vw p v hk).2.2 hv b (by simp [hb])⟩⟩ hF1
    have hF2 : Free U1 V1 (give k A x.1 σ).2 (give k B x.2 (give k A x.1 σ).2).2 := ⟨fun i q1 q2 hu => by
      rcases (hM1.u i).1 hu with q | q
      · exact hF.1 i (Nat.le_trans n1.1 q1) q2 q
      · omega, fun i q1 q2 hu => by
      rcases (hM1.v i).2 hu with q | q
      · exact hF.2 i (Nat.le_trans n1.2 q1) q2 q
      · omega⟩
    obtain ⟨ρ2, U2, V2, hR2, hL2, hM2, hO2, hQ2⟩ := ihb (x := x.2) hR1 h2
      ⟨hnd.2.1, fun b hb => by
        have := hG.own b (by simp [hb])
        refine ⟨fun j => ⟨fun h => ?_, fun h => ?_⟩, this.2.1, fun h => this.2.2 (by simp [h])⟩
        · rcases hO1 j b h with h' | h'
          · exact (this.1 j).1 h'
          · exact hnd.2.2 b h' b hb rfl
        · rcases hQ1 j b h with h' | h'
          · exact (this.1 j).2 h'
          · exact this.2.2 (by simp [h'.1]), fun hk b hb j h => by
        rcases hO1 j b h with h' | h'
        · exact hG.ro hk b (by simp [hb]) j h'
        · exact (hG.own b (by simp [h'])).2.2 (by simp [hb]), fun p v hk => by
        obtain ⟨g1, g2, g3⟩ := hG.vw p v hk
        have hp : ¬ (σ.nx ≤ p ∧ p < (give k A x.1 σ).2.nx) := fun q => hF1.1 p q.1 q.2 g1
        refine ⟨(hM1.u p).2 (.inl g1), (hM1.v v).1 g2, fun hv b hb => ?_⟩
        rw [hM1.reg p hp] at hv ⊢
        rw [hM1.rho p g1]
        exact g3 hv b (by simp [hb])⟩ hF2
    refine ⟨ρ2, U2, V2, hR2, ?_, hM1.trans hM2, fun j b hb => ?_, fun j b hb => ?_⟩
    · exact (hL1.mono (fun i hi => (hM2.u i).2 (.inl hi)) (fun i hi => by rw [hM2.rho i hi]; exact ⟨rfl, rfl⟩)).append hL2
    · rcases hO2 j b hb with h' | h'
      · rcases hO1 j b h' with h'' | h''
        · exact .inl h''
        · exact .inr (by simp [h''])
      · exact .inr (by simp [h'])
    · rcases hQ2 j b hb with h' | h'
      · rcases hQ1 j b h' with h'' | h''
        · exact .inl h''
        · exact .inr ⟨by simp [h''.1], h''.2⟩
      · exact .inr ⟨by simp [h'.1], h'.2⟩
  | sl t e _ =>
    intro ρ U V σ x cs o r hR hx hG hF
    have hx' := hx
    obtain ⟨v, es, o0, r0, o', r', rfl, _⟩ := hx
    have hbl : ∀ b, b ∈ o ++ r → b < w.heap.size := Rd.lt hx'
    have hrono : ∀ p u, k = .view p u → o = [] := fun p u hk => by rw [hk] at hx'; exact Rd.noOwn (T := .sl t e) hx'
    have hsl : ∃ a n c, v = .slice a n c := Rd.slice hx'
    have hnu : ¬ U σ.nx := hF.1 σ.nx (Nat.le_refl _) (Nat.lt_succ_self _)
    have hnv : ¬ V σ.ck := hF.2 σ.ck (Nat.le_refl _) (Nat.lt_succ_self _)
    have hlay := hR.lay σ.nx (.lst k t e x σ.ck) ⟨v, 0, o, r⟩ (hR.new σ.nx hnu) (fun h => absurd h hnu) hx' ?_ ?_ ?_ ?_ ?_ (σ.nx + 1) (σ.ck + 1)
    · refine ⟨upd ρ σ.nx ⟨v, 0, o, r⟩, _, _, hlay, .cons ⟨.inr rfl, by simp, hsl⟩ .nil, ⟨rfl, Nat.le_succ _, Nat.le_succ _, fun i hi => upd_ne _ _ (fun e1 => hnu (e1 ▸ hi)), fun i hi => upd_ne _ _ (fun e1 => hi ⟨by omega, by show i < σ.nx + 1; omega⟩), fun i => ?_, fun i => ⟨.inl, fun hi => ?_⟩⟩, fun j b hb => ?_, fun j b hb => ?_⟩
      · show U i ∨ i = σ.nx ↔ U i ∨ (σ.nx ≤ i ∧ i < σ.nx + 1)
        constructor <;> (rintro (h | h); exact .inl h; exact .inr (by omega))
      · rcases hi with hi | hi
        · exact .inl hi
        · right
          have : i = σ.ck := ver_lst hi
          show σ.ck ≤ i ∧ i < σ.ck + 1
          omega
      · by_cases hj : j = σ.nx
        · subst hj
          simp only [give, upd_same] at hb
          exact .inr (ownB_lst hb)
        · simp only [give, upd_ne _ _ hj] at hb; exact .inl hb
      · by_cases hj : j = σ.nx
        · subst hj
          simp only [give, upd_same] at hb
          exact .inr (roB_lst hb)
        · simp only [give, upd_ne _ _ hj] at hb; exact .inl hb
    · cases k <;> first | exact hG.nodup | exact List.nodup_nil
    · intro b hb
      have hb' : b ∈ o := ownB_lst hb
      have := hG.own b hb'
      exact ⟨this.1, this.2.1, fun h => this.2.2 (roB_lst h).1⟩
    · intro b hb j
      have hb' := roB_lst hb
      exact hG.ro hb'.2 b hb'.1 j
    · intro p u t' e' xs y heq
      cases heq
      obtain ⟨g1, g2, g3⟩ := hG.vw p u rfl
      exact ⟨fun e1 => hnu (e1 ▸ g1), g2, g3⟩
    · intro u hu
      have : u = σ.ck := ver_lst hu
      rw [this]; exact hnv
end
end Go.Vf
