/- What is known of types, as lists, checked against a program. -/
import Derived.Test.YtddabginhmpljaaVfT
namespace Go.Vf
set_option linter.unusedVariables false
set_option linter.unusedSimpArgs false

/-- types: is it a struct, its kind; element types of slices; fields: where, of which type -/
structure CtxD where
  tys : List (TypeId × Bool × Ty)
  els : List (TypeId × TypeId)
  flds : List (TypeId × List (Nat × TypeId))
  eqs : List TypeId
  srcs : List TypeId

def find {α : Type} (t : TypeId) : List (TypeId × α) → Option α
  | [] => none
  | p :: ps => bif Nat.beq p.1 t then some p.2 else find t ps

def CtxD.ctx (D : CtxD) : Ctx where
  ty := fun t => find t D.tys
  fld := fun t i => match find t D.flds with
    | some l => l[i]?
    | none => none
  el := fun t => find t D.els
  eq := fun t => memN t D.eqs
  src := fun t => memN t D.srcs
  cut := fun _ => false

theorem find_mem {α : Type} {t : TypeId} {l : List (TypeId × α)} {x : α} (h : find t l = some x) : (t, x) ∈ l := by
  induction l with
  | nil => cases h
  | cons p ps ih =>
    simp only [find] at h
    cases hb : Nat.beq p.1 t with
    | true =>
      rw [hb] at h
      have := Nat.eq_of_beq_eq_true hb
      simp only [cond_true, Option.some.injEq] at h
      subst this; subst h
      simp
    | false => rw [hb] at h; simp [ih h]

def zeroB : List Value → List Value → Bool
  | [], [] => true
  | .int k n :: vs, .int k' m :: us => decide (k = k') && (n == m) && zeroB vs us
  | .bool a :: vs, .bool b :: us => (a == b) && zeroB vs us
  | .string a :: vs, .string b :: us => decide (a = b) && zeroB vs us
  | .slice none 0 0 :: vs, .slice none 0 0 :: us => zeroB vs us
  | _, _ => false

theorem zeroB_spec : ∀ {vs us : List Value}, zeroB vs us = true → vs = us := by
  intro vs us h
  induction vs, us using zeroB.induct with
  | case1 => rfl
  | case2 k n vs k' m us ih => simp [zeroB] at h; obtain ⟨⟨rfl, rfl⟩, h⟩ := h; rw [ih h]
  | case3 a vs b us ih => simp [zeroB] at h; obtain ⟨rfl, h⟩ := h; rw [ih h]
  | case4 a vs b us ih => simp [zeroB] at h; obtain ⟨rfl, h⟩ := h; rw [ih h]
  | case5 vs us ih => simp [zeroB] at h; rw [ih h]
  | case6 vs us h1 h2 h3 h4 h5 => simp [zeroB] at h

def kindB (g : Bool) (T : Ty) (d : TypeDesc) : Bool :=
  match d with
  | .struct _ => g
  | .array _ _ => g
  | .int k => !g && (match T with
    | .int k' => decide (k = k')
    | _ => false)
  | .string => !g && (match T with
    | .str => true
    | _ => false)
  | .bool => !g && (match T with
    | .bool => true
    | _ => false)
  | _ => !g && (match T with
    | .sl _ _ => true
    | _ => false)

def tyB (P : Program) (t : TypeId) (g : Bool) (T : Ty) : Bool :=
  match P.info? t, P.underlying t with
  | some i, some d => (match i.zero with
    | some z => Nat.beq i.size (size T) && Nat.ble i.bytes 128 && zeroB z.cells.toList (zeroC T) && Nat.blt 0 (size T) && (g || Nat.beq (size T) 1) && kindB g T d
    | none => false)
  | _, _ => false

theorem tyB_spec {P : Program} {t : TypeId} {g : Bool} {T : Ty} (h : tyB P t g T = true) : TyOk P t g T := by
  unfold tyB at h
  split at h
  · rename_i i d hi hd
    split at h
    · rename_i z hz
      simp only [Bool.and_eq_true, Bool.or_eq_true] at h
      obtain ⟨⟨⟨⟨⟨h1, h2⟩, h3⟩, h4⟩, h5⟩, h6⟩ := h
      have h1 := Nat.eq_of_beq_eq_true h1
      have h2 := Nat.le_of_ble_eq_true h2
      have h3 := zeroB_spec h3
      rw [Nat.blt_eq] at h4
      refine ⟨⟨i, z, hi, hz, h1, h2, h3⟩, ⟨d, hd, ?_⟩, h4, fun hg => ?_, fun k hT hg => ?_, fun hT hg => ?_, fun hT hg => ?_⟩
      · cases d <;> cases g <;> simp_all [kindB]
      · subst hg; simp at h5; exact h5
      · subst hT; subst hg; cases d <;> simp_all [kindB]
      · subst hT; subst hg; cases d <;> simp_all [kindB]
      · subst hT; subst hg; cases d <;> simp_all [kindB]
    · cases h
  · cases h

def fldB (P : Program) (t : TypeId) : Nat → List (Nat × TypeId) → Bool
  | _, [] => true
  | i, p :: ps => (match P.underlying t with
    | some (.struct fs) => (match fs[i]? with
      | some fd => Nat.beq fd.offset p.1 && Nat.beq fd.type p.2 && (match P.info? fd.type with
        | some j => !(Nat.beq j.size 0)
        | none => false)
      | none => false)
    | _ => false) && fldB P t (i + 1) ps

theorem fldB_spec {P : Program} {t : TypeId} : ∀ {l : List (Nat × TypeId)} {i : Nat}, fldB P t i l = true → ∀ j off f, l[j]? = some (off, f) → ∃ fs fd, P.underlying t = some (.struct fs) ∧ fs[i + j]? = some fd ∧ fd.offset = off ∧ fd.type = f ∧ ∃ k, P.info? f = some k ∧ k.size ≠ 0
  | [], i, h, j, off, f, hj => by simp at hj
  | p :: ps, i, h, j, off, f, hj => by
    simp only [fldB, Bool.and_eq_true] at h
    obtain ⟨h1, h2⟩ := h
    cases j with
    | zero =>
      simp at hj
      subst hj
      split at h1
      · rename_i fs hu
        split at h1
        · rename_i fd hfd
          simp only [Bool.and_eq_true] at h1
          obtain ⟨⟨h3, h4⟩, h5⟩ := h1
          have h3 := Nat.eq_of_beq_eq_true h3
          have h4 := Nat.eq_of_beq_eq_true h4
          split at h5
          · rename_i k hk
            refine ⟨fs, fd, hu, by simpa using hfd, h3, h4, k, by rw [← hk]; exact congrArg _ h4.symm, fun e => ?_⟩
            rw [e] at h5
            cases h5
          · cases h5
        · cases h1
      · cases h1
    | succ j =>
      have := fldB_spec h2 j off f (by simpa using hj)
      rwa [show i + (j + 1) = i + 1 + j by omega]

def bldB (P : Program) (t : TypeId) : Bool := match P.underlying t with
  | some (.struct fs) => fs.toList.all fun fd => (P.info? fd.type).isSome
  | _ => false

theorem bldB_spec {P : Program} {t : TypeId} (h : bldB P t = true) : ∃ fs, P.underlying t = some (.struct fs) ∧ ∀ fd, fd ∈ fs → ∃ i, P.info? fd.type = some i := by
  unfold bldB at h
  split at h
  · rename_i fs hu
    refine ⟨fs, hu, fun fd hfd => ?_⟩
    rw [List.all_eq_true] at h
    exact Option.isSome_iff_exists.1 (h fd (by simpa using hfd))
  · cases h

def elB (P : Program) (t e : TypeId) : Bool := match P.underlying t with
  | some (.slice e') => Nat.beq e' e
  | _ => false

def CtxD.ok (D : CtxD) (P : Program) : Bool :=
  P.follows .mixedOrders && D.tys.all (fun p => tyB P p.1 p.2.1 p.2.2) && D.flds.all (fun p => fldB P p.1 0 p.2) && D.els.all (fun p => elB P p.1 p.2) && D.tys.all (fun p => !p.2.1 || bldB P p.1) && D.srcs.all (fun t => (P.underlying t).isSome)

/-! ### Short words for printed texts -/

/-- with these cuts -/
def Ctx.cuts (C : Ctx) (l : List Nat) : Ctx := { C with cut := fun k => memN k l }

theorem CtxOk.cuts {P : Program} {C : Ctx} (h : CtxOk P C) (l : List Nat) : CtxOk P (C.cuts l) := { h with }

def mkH (l : List (Nat × Lay)) (b c r : List (Nat × SegH)) : Hints := ⟨fun i => find i l, fun i => find i b, fun i => find i c, fun i => find i r⟩

/-- the contracts of a list, by function -/
def Kof : List (FuncId × Ctr) → FuncId → List Ctr
  | [], _ => []
  | p :: ps, f => bif Nat.beq p.1 f then p.2 :: Kof ps f else Kof ps f

def KOk (P : Program) : List (FuncId × Ctr) → Prop
  | [] => True
  | p :: ps => Contract P p.1 p.2 ∧ KOk P ps

theorem Kof_ok {P : Program} : ∀ {l : List (FuncId × Ctr)}, KOk P l → ∀ f c, c ∈ Kof l f → Contract P f c
  | [], _, f, c, h => by cases h
  | p :: ps, hk, f, c, h => by
    unfold Kof at h
    cases hb : Nat.beq p.1 f with
    | false => rw [hb] at h; exact Kof_ok hk.2 f c h
    | true =>
      rw [hb] at h
      have := Nat.eq_of_beq_eq_true hb
      simp only [cond_true, List.mem_cons] at h
      rcases h with h | h
      · subst h; rw [← this]; exact hk.1
      · exact Kof_ok hk.2 f c h

/-- structs that are compared -/
def EqOk (P : Program) (t : TypeId) (T : Ty) : Prop :=
  ∀ (w : World) (op : BinOp) (x y : Operand) (cs cs' : List Value) (a b : den T) (r r' : List Nat), Rd w .ro T cs a [] r → Rd w .ro T cs' b [] r' →
    (do eqGuard op t x y (.agg cs.toArray) (.agg cs'.toArray); binOp .eql t (.agg cs.toArray) (.agg cs'.toArray) : Sem Value).run P w = .ok (.bool (eqD T a b)) w ∧
    (do eqGuard op t x y (.agg cs.toArray) (.agg cs'.toArray); binOp .neq t (.agg cs.toArray) (.agg cs'.toArray) : Sem Value).run P w = .ok (.bool (!(eqD T a b))) w

theorem CtxD.ctxOk {D : CtxD} {P : Program} (h : D.ok P = true) (heq : ∀ t T, t ∈ D.eqs → find t D.tys = some (true, T) → EqOk P t T) : CtxOk P D.ctx := by
  simp only [CtxD.ok, Bool.and_eq_true, List.all_eq_true] at h
  obtain ⟨⟨⟨⟨⟨h0, h1⟩, h2⟩, h3⟩, h4⟩, h5⟩ := h
  refine ⟨h0, fun t g T ht => tyB_spec (h1 _ (find_mem ht)), fun t i off f hf => ?_, fun t e he => ?_, fun t T ht => ?_, fun t ht => ?_, fun t T he ht => ?_⟩
  · simp only [CtxD.ctx] at hf
    split at hf
    · rename_i l hl
      have := fldB_spec (h2 _ (find_mem hl)) i off f hf
      simpa using this
    · cases hf
  · have := h3 _ (find_mem he)
    unfold elB at this
    split at this
    · rename_i e' hu
      rw [Nat.eq_of_beq_eq_true this] at hu
      exact hu
    · cases this
  · have := h4 _ (find_mem ht)
    simp only [Bool.not_true, Bool.false_or] at this
    exact bldB_spec this
  · have := h5 t (of_memN ht)
    exact Option.isSome_iff_exists.1 this
  · exact heq t T (of_memN he) ht
end Go.Vf
