/- The state of the executor: slots and entries; what it says of a frame and a world; the four moves that keep it. -/
import Derived.Test.YtddabginhmpljaaVfA
namespace Go.Vf
set_option linter.unusedVariables false
set_option linter.unusedSimpArgs false

/-- a cell's value, by what is known of it: a scalar; the slice of an entry; a nil slice; a nil pointer; the address of cell k of a variable; the address of cell k of element j of an entry -/
inductive Lf where
  | sc (v : Value)
  | ref (i : Nat)
  | nil
  | nilp
  | ptr (i k : Nat)
  | el (i j sz k : Nat)

inductive SV where
  | lf (l : Lf)
  | agg (ls : List Lf)

inductive AV where
  | undef
  | no
  | sv (v : SV)
  | tup (vs : List SV)
  | fn (f : FuncId) (caps : List SV)

/-- whose a list's memory is: the call's own; of which the elements' slices are only read; only read; a part of entry p as it stood at version v -/
inductive Kd where
  | own | own1 | ro
  | view (p v : Nat)

def Kd.pm : Kd → Pm
  | .own => .own
  | .own1 => .own1
  | _ => .ro

inductive Ent where
  | dead
  | lst (k : Kd) (t : TypeId) (e : Ty) (xs : List (den e)) (ver : Nat)
  | box (t : TypeId) (cells : List Lf)

def Ent.ver : Ent → Option Nat
  | .lst .own _ _ _ v | .lst .own1 _ _ _ v => some v
  | _ => none

structure State where
  sl : Nat → AV
  reg : Nat → Ent
  nx : Nat
  ck : Nat

def upd {α : Type} (f : Nat → α) (i : Nat) (x : α) : Nat → α := fun j => bif Nat.beq j i then x else f j

@[simp] theorem upd_same {α : Type} (f : Nat → α) (i : Nat) (x : α) : upd f i x i = x := by simp [upd]
theorem upd_ne {α : Type} (f : Nat → α) {i j : Nat} (x : α) (h : j ≠ i) : upd f i x j = f j := by
  have : Nat.beq j i = false := by
    cases hb : Nat.beq j i with
    | false => rfl
    | true => exact absurd (Nat.eq_of_beq_eq_true hb) h
  simp [upd, this]

/-- what an entry stands for: a slice's value, a variable's block, the blocks that are owned, those that are only read -/
structure RB where
  v : Value
  b : Nat
  o : List Nat
  r : List Nat

def ownB (e : Ent) (rb : RB) : List Nat :=
  match e with
  | .lst .own _ _ _ _ | .lst .own1 _ _ _ _ => rb.o
  | .box _ _ => [rb.b]
  | _ => []

def roB (e : Ent) (rb : RB) : List Nat :=
  match e with
  | .lst .own _ _ _ _ | .lst .own1 _ _ _ _ | .lst .ro _ _ _ _ => rb.r
  | _ => []

def isSc : Value → Bool
  | .int _ _ | .bool _ | .string _ => true
  | _ => false

def LfOk (ρ : Nat → RB) (U : Nat → Prop) : Lf → Value → Prop
  | .sc v, u => u = v ∧ isSc v = true
  | .ref i, u => U i ∧ u = (ρ i).v ∧ ∃ a n c, u = .slice a n c
  | .nil, u => u = .slice none 0 0
  | .nilp, u => u = .pointer none
  | .ptr i k, u => U i ∧ u = .pointer (some ⟨(ρ i).b, k, none⟩)
  | .el i j sz k, u => U i ∧ ∃ ad n c, (ρ i).v = .slice (some ad) n c ∧ ad.spot = none ∧ j < n ∧ u = .pointer (some (ad.add (j * sz + k)))

inductive LfsOk (ρ : Nat → RB) (U : Nat → Prop) : List Lf → List Value → Prop
  | nil : LfsOk ρ U [] []
  | cons {l : Lf} {v : Value} {ls : List Lf} {vs : List Value} : LfOk ρ U l v → LfsOk ρ U ls vs → LfsOk ρ U (l :: ls) (v :: vs)

def SVOk (ρ : Nat → RB) (U : Nat → Prop) : SV → Value → Prop
  | .lf l, u => LfOk ρ U l u
  | .agg ls, u => ∃ cs, u = .agg cs ∧ LfsOk ρ U ls cs.toList

inductive SVsOk (ρ : Nat → RB) (U : Nat → Prop) : List SV → List Value → Prop
  | nil : SVsOk ρ U [] []
  | cons {l : SV} {v : Value} {ls : List SV} {vs : List Value} : SVOk ρ U l v → SVsOk ρ U ls vs → SVsOk ρ U (l :: ls) (v :: vs)

def AVOk (ρ : Nat → RB) (U : Nat → Prop) : AV → Value → Prop
  | .undef, _ => True
  | .no, u => u = undef
  | .sv s, u => SVOk ρ U s u
  | .tup ss, u => ∃ vs, u = .tuple vs ∧ SVsOk ρ U ss vs.toList
  | .fn f ss, u => ∃ vs, u = .func (.func f) #[] vs ∧ SVsOk ρ U ss vs.toList

/-- an entry that says something now -/
def liveE (reg : Nat → Ent) : Ent → Prop
  | .dead => False
  | .lst (.view p v) _ _ _ _ => (reg p).ver = some v
  | _ => True

def EntOk (w : World) (ρ : Nat → RB) (U : Nat → Prop) (e : Ent) (rb : RB) : Prop :=
  match e with
  | .dead => True
  | .lst k t e xs _ => Rd w k.pm (.sl t e) [rb.v] xs rb.o rb.r
  | .box t ls => ∃ cs : Array Value, w.heap[rb.b]? = some (.cells cs t (0, 0)) ∧ LfsOk ρ U ls cs.toList

/-- since the call began only blocks of F0 have turned -/
structure Frame (w0 : World) (F0 : List Nat) (w : World) : Prop where
  os : w.os = w0.os
  tape : w.tape = w0.tape
  output : w.output = w0.output
  size : w0.heap.size ≤ w.heap.size
  block : ∀ b, b < w0.heap.size → b ∉ F0 → w.heap[b]? = w0.heap[b]?

theorem Frame.refl (w : World) (F : List Nat) : Frame w F w := ⟨rfl, rfl, rfl, Nat.le_refl _, fun _ _ _ => rfl⟩

structure Rel (w0 : World) (F0 : List Nat) (n : Nat) (ρ : Nat → RB) (U V : Nat → Prop) (σ : State) (a : Act) (w : World) : Prop where
  tm : a.tmps.size = n
  df : a.defers = []
  sl : ∀ t, AVOk ρ U (σ.sl t) (a.tmps.getD t undef)
  ent : ∀ i, liveE σ.reg (σ.reg i) → EntOk w ρ U (σ.reg i) (ρ i)
  disj : ∀ i j, i ≠ j → ∀ b, b ∈ ownB (σ.reg i) (ρ i) → b ∉ ownB (σ.reg j) (ρ j)
  nodup : ∀ i, (ownB (σ.reg i) (ρ i)).Nodup
  ro : ∀ i j b, b ∈ roB (σ.reg i) (ρ i) → b ∉ ownB (σ.reg j) (ρ j)
  vw : ∀ i p v t e xs x, σ.reg i = .lst (.view p v) t e xs x → (σ.reg p).ver = some v → ∀ b, b ∈ (ρ i).r → b ∈ ownB (σ.reg p) (ρ p) ∨ b ∈ roB (σ.reg p) (ρ p)
  vck : ∀ i p v t e xs x, σ.reg i = .lst (.view p v) t e xs x → V v
  vck2 : ∀ i v, (σ.reg i).ver = some v → V v
  new : ∀ i, ¬ U i → σ.reg i = .dead
  inF : ∀ i b, b ∈ ownB (σ.reg i) (ρ i) → b ∈ F0 ∨ w0.heap.size ≤ b
  frm : Frame w0 F0 w

/-! ### Values under another naming -/

theorem LfOk.mono {ρ ρ' : Nat → RB} {U U' : Nat → Prop} (hn : ∀ i, U i → U' i) (h : ∀ i, U i → (ρ' i).v = (ρ i).v ∧ (ρ' i).b = (ρ i).b) : ∀ {l : Lf} {v : Value}, LfOk ρ U l v → LfOk ρ' U' l v
  | .sc _, _, hl => hl
  | .ref i, _, hl => ⟨hn _ hl.1, by rw [(h i hl.1).1]; exact hl.2⟩
  | .nil, _, hl => hl
  | .nilp, _, hl => hl
  | .ptr i k, _, hl => ⟨hn _ hl.1, by rw [(h i hl.1).2]; exact hl.2⟩
  | .el i j sz k, _, hl => ⟨hn _ hl.1, by rw [(h i hl.1).1]; exact hl.2⟩

theorem LfsOk.mono {ρ ρ' : Nat → RB} {U U' : Nat → Prop} (hn : ∀ i, U i → U' i) (h : ∀ i, U i → (ρ' i).v = (ρ i).v ∧ (ρ' i).b = (ρ i).b) {ls : List Lf} {vs : List Value} (hl : LfsOk ρ U ls vs) : LfsOk ρ' U' ls vs := by
  induction hl with
  | nil => exact .nil
  | cons h1 _ ih => exact .cons (h1.mono hn h) ih

theorem SVOk.mono {ρ ρ' : Nat → RB} {U U' : Nat → Prop} (hn : ∀ i, U i → U' i) (h : ∀ i, U i → (ρ' i).v = (ρ i).v ∧ (ρ' i).b = (ρ i).b) {s : SV} {v : Value} (hl : SVOk ρ U s v) : SVOk ρ' U' s v := by
  cases s with
  | lf l => exact LfOk.mono hn h hl
  | agg ls => obtain ⟨cs, rfl, h2⟩ := hl; exact ⟨cs, rfl, h2.mono hn h⟩

theorem SVsOk.mono {ρ ρ' : Nat → RB} {U U' : Nat → Prop} (hn : ∀ i, U i → U' i) (h : ∀ i, U i → (ρ' i).v = (ρ i).v ∧ (ρ' i).b = (ρ i).b) {ls : List SV} {vs : List Value} (hl : SVsOk ρ U ls vs) : SVsOk ρ' U' ls vs := by
  induction hl with
  | nil => exact .nil
  | cons h1 _ ih => exact .cons (h1.mono hn h) ih

theorem AVOk.mono {ρ ρ' : Nat → RB} {U U' : Nat → Prop} (hn : ∀ i, U i → U' i) (h : ∀ i, U i → (ρ' i).v = (ρ i).v ∧ (ρ' i).b = (ρ i).b) {s : AV} {v : Value} (hl : AVOk ρ U s v) : AVOk ρ' U' s v := by
  cases s with
  | undef => trivial
  | no => exact hl
  | sv s => exact SVOk.mono hn h hl
  | tup ss => obtain ⟨vs, rfl, h2⟩ := hl; exact ⟨vs, rfl, h2.mono hn h⟩
  | fn f ss => obtain ⟨vs, rfl, h2⟩ := hl; exact ⟨vs, rfl, h2.mono hn h⟩

theorem EntOk.mono {w : World} {ρ ρ' : Nat → RB} {U U' : Nat → Prop} (hn : ∀ i, U i → U' i) (h : ∀ i, U i → (ρ' i).v = (ρ i).v ∧ (ρ' i).b = (ρ i).b) {e : Ent} {rb : RB} (hl : EntOk w ρ U e rb) : EntOk w ρ' U' e rb := by
  cases e with
  | dead => trivial
  | lst k t e xs v => exact hl
  | box t ls => obtain ⟨cs, h1, h2⟩ := hl; exact ⟨cs, h1, h2.mono hn h⟩

/-- the blocks on which an entry leans -/
def allB (e : Ent) (rb : RB) : List Nat :=
  match e with
  | .dead => []
  | .lst _ _ _ _ _ => rb.o ++ rb.r
  | .box _ _ => [rb.b]

theorem EntOk.same {w w' : World} {ρ : Nat → RB} {U : Nat → Prop} {e : Ent} {rb : RB} (hl : EntOk w ρ U e rb) (hs : Same w w' (allB e rb)) : EntOk w' ρ U e rb := by
  cases e with
  | dead => trivial
  | lst k t e xs v => exact Rd.same hl hs
  | box t ls => obtain ⟨cs, h1, h2⟩ := hl; exact ⟨cs, by rw [hs.2 _ (by simp [allB])]; exact h1, h2⟩

theorem EntOk.lt {w : World} {ρ : Nat → RB} {U : Nat → Prop} {e : Ent} {rb : RB} (hl : EntOk w ρ U e rb) : ∀ b, b ∈ allB e rb → b < w.heap.size := by
  cases e with
  | dead => intro b hb; simp [allB] at hb
  | lst k t e xs v => exact Rd.lt hl
  | box t ls =>
    obtain ⟨cs, h1, h2⟩ := hl
    intro b hb
    simp [allB] at hb; subst hb
    exact (Array.getElem?_eq_some_iff.1 h1).1

theorem own_sub_all {e : Ent} {rb : RB} : ∀ b, b ∈ ownB e rb → b ∈ allB e rb := by
  intro b hb
  cases e with
  | dead => simp [ownB] at hb
  | lst k t e xs v => cases k <;> simp_all [ownB, allB]
  | box t ls => simpa [ownB, allB] using hb

theorem ro_sub_all {e : Ent} {rb : RB} : ∀ b, b ∈ roB e rb → b ∈ allB e rb := by
  intro b hb
  cases e with
  | dead => simp [roB] at hb
  | lst k t e xs v => cases k <;> simp_all [roB, allB]
  | box t ls => simp [roB] at hb

theorem live_of_own {reg : Nat → Ent} {e : Ent} {rb : RB} {b : Nat} (h : b ∈ ownB e rb) : liveE reg e := by
  cases e with
  | dead => simp [ownB] at h
  | lst k t e xs v => cases k <;> simp_all [ownB, liveE]
  | box t ls => trivial

theorem live_of_ro {reg : Nat → Ent} {e : Ent} {rb : RB} {b : Nat} (h : b ∈ roB e rb) : liveE reg e := by
  cases e with
  | dead => simp [roB] at h
  | lst k t e xs v => cases k <;> simp_all [roB, liveE]
  | box t ls => trivial

section
variable {w0 : World} {F0 : List Nat} {n : Nat} {ρ : Nat → RB} {U V : Nat → Prop} {σ : State} {a : Act} {w : World}

theorem Rel.own_lt (h : Rel w0 F0 n ρ U V σ a w) {i b : Nat} (hb : b ∈ ownB (σ.reg i) (ρ i)) : b < w.heap.size :=
  (h.ent i (live_of_own hb)).lt b (own_sub_all b hb)

theorem Rel.ro_lt (h : Rel w0 F0 n ρ U V σ a w) {i b : Nat} (hb : b ∈ roB (σ.reg i) (ρ i)) : b < w.heap.size :=
  (h.ent i (live_of_ro hb)).lt b (ro_sub_all b hb)

theorem Rd.ro_o {w : World} {k : Kd} {t : TypeId} {e : Ty} {xs : List (den e)} {cs : List Value} {o r : List Nat} (h : Rd w k.pm (.sl t e) cs xs o r) (hk : k.pm = .ro) : o = [] := by
  rw [hk] at h; exact Rd.noOwn (T := .sl t e) h

/-- every block on which a live entry leans is some entry's own or only read -/
theorem Rel.all (h : Rel w0 F0 n ρ U V σ a w) {i b : Nat} (hl : liveE σ.reg (σ.reg i)) (hb : b ∈ allB (σ.reg i) (ρ i)) : ∃ j, b ∈ ownB (σ.reg j) (ρ j) ∨ b ∈ roB (σ.reg j) (ρ j) := by
  have he := h.ent i hl
  cases hr : σ.reg i with
  | dead => simp [hr, allB] at hb
  | box t ls => exact ⟨i, .inl (by simpa [hr, allB, ownB] using hb)⟩
  | lst k t e xs v =>
    rw [hr] at hb he hl
    simp only [allB, List.mem_append] at hb
    cases k with
    | own => rcases hb with hb | hb; exact ⟨i, .inl (by simpa [hr, ownB] using hb)⟩; exact ⟨i, .inr (by simpa [hr, roB] using hb)⟩
    | own1 => rcases hb with hb | hb; exact ⟨i, .inl (by simpa [hr, ownB] using hb)⟩; exact ⟨i, .inr (by simpa [hr, roB] using hb)⟩
    | ro =>
      have ho : (ρ i).o = [] := Rd.ro_o (k := .ro) he rfl
      rcases hb with hb | hb
      · simp [ho] at hb
      · exact ⟨i, .inr (by simpa [hr, roB] using hb)⟩
    | view p v' =>
      have ho : (ρ i).o = [] := Rd.ro_o (k := .view p v') he rfl
      rcases hb with hb | hb
      · simp [ho] at hb
      · exact ⟨p, h.vw i p v' t e xs v hr hl b hb⟩

/-! ### The four moves -/

theorem Rel.slot (h : Rel w0 F0 n ρ U V σ a w) (d : Nat) (av : AV) (v : Value) (hv : AVOk ρ U av v) (hd : d < n) :
    Rel w0 F0 n ρ U V { σ with sl := upd σ.sl d av } (a.put (some d) v) w := by
  refine { h with tm := by simp [Act.put, h.tm], df := h.df, sl := fun t => ?_ }
  by_cases ht : t = d
  · subst ht
    simp only [upd_same, Act.put]
    have : t < a.tmps.size := by rw [h.tm]; exact hd
    simpa [this] using hv
  · rw [show ({ σ with sl := upd σ.sl d av } : State).sl t = σ.sl t from upd_ne _ _ ht]
    have : ((a.put (some d) v).tmps.getD t undef) = a.tmps.getD t undef := by
      simp [Act.put, Array.getElem?_setIfInBounds_ne (Ne.symm ht)]
    rw [this]; exact h.sl t

/-- nothing is written to a slot -/
theorem Rel.slotNone (h : Rel w0 F0 n ρ U V σ a w) (v : Value) : Rel w0 F0 n ρ U V σ (a.put none v) w := h

/-- an entry is given up -/
theorem Rel.kill (h : Rel w0 F0 n ρ U V σ a w) (i : Nat) : Rel w0 F0 n ρ U V { σ with reg := upd σ.reg i .dead } a w := by
  have hown : ∀ j b, b ∈ ownB (upd σ.reg i .dead j) (ρ j) → b ∈ ownB (σ.reg j) (ρ j) ∧ j ≠ i := by
    intro j b hb
    by_cases hj : j = i
    · subst hj; simp [ownB] at hb
    · rw [upd_ne _ _ hj] at hb; exact ⟨hb, hj⟩
  have hro : ∀ j b, b ∈ roB (upd σ.reg i .dead j) (ρ j) → b ∈ roB (σ.reg j) (ρ j) := by
    intro j b hb
    by_cases hj : j = i
    · subst hj; simp [roB] at hb
    · rw [upd_ne _ _ hj] at hb; exact hb
  have hver : ∀ j v, (upd σ.reg i .dead j).ver = some v → (σ.reg j).ver = some v ∧ j ≠ i := by
    intro j v hv
    by_cases hj : j = i
    · subst hj; simp [Ent.ver] at hv
    · rw [upd_ne _ _ hj] at hv; exact ⟨hv, hj⟩
  have hlst : ∀ j, upd σ.reg i .dead j = σ.reg j ∨ upd σ.reg i .dead j = .dead := by
    intro j
    by_cases hj : j = i
    · subst hj; exact .inr (by simp)
    · exact .inl (upd_ne _ _ hj)
  refine { tm := h.tm, df := h.df, sl := h.sl, ent := fun j hl => ?_, disj := fun j k hjk b hb hb' => h.disj j k hjk b (hown j b hb).1 (hown k b hb').1, nodup := fun j => ?_,
           ro := fun j k b hb hb' => h.ro j k b (hro j b hb) (hown k b hb').1, vw := fun j p v t e xs x he hv b hb => ?_, vck := fun j p v t e xs x he => ?_, vck2 := fun j v hv => h.vck2 j v (hver j v hv).1,
           new := fun j hj => ?_, inF := fun j b hb => h.inF j b (hown j b hb).1, frm := h.frm }
  · rcases hlst j with e | e
    · simp only [e] at hl ⊢
      refine h.ent j ?_
      cases hr : σ.reg j with
      | dead => rw [hr] at hl; exact hl
      | box t ls => trivial
      | lst k t e xs v =>
        rw [hr] at hl
        cases k with
        | view p v' => exact (hver p v' hl).1
        | _ => trivial
    · simp only [e] at hl ⊢; exact hl.elim
  · rcases hlst j with e | e <;> simp only [e]
    · exact h.nodup j
    · simp [ownB]
  · have hj : upd σ.reg i .dead j = σ.reg j := by
      rcases hlst j with e1 | e1
      · exact e1
      · simp only [e1] at he; cases he
    have hp := hver p v hv
    have := h.vw j p v t e xs x (by rw [← hj]; exact he) hp.1 b hb
    have e2 : upd σ.reg i .dead p = σ.reg p := upd_ne _ _ hp.2
    simp only [e2]; exact this
  · rcases hlst j with e1 | e1
    · exact h.vck j p v t e xs x (by rw [← e1]; exact he)
    · simp only [e1] at he; cases he
  · rcases hlst j with e1 | e1
    · show upd σ.reg i .dead j = .dead
      rw [e1]; exact h.new j hj
    · exact e1

/-- the world turns where no live entry leans -/
theorem Rel.world (h : Rel w0 F0 n ρ U V σ a w) {w' : World} (hf : Frame w0 F0 w') (hs : w.heap.size ≤ w'.heap.size)
    (hb : ∀ i b, (b ∈ ownB (σ.reg i) (ρ i) ∨ b ∈ roB (σ.reg i) (ρ i)) → w'.heap[b]? = w.heap[b]?) : Rel w0 F0 n ρ U V σ a w' :=
  { h with
    ent := fun i hl => (h.ent i hl).same ⟨hs, fun b hb' => by obtain ⟨j, hj⟩ := h.all hl hb'; exact hb j b hj⟩
    frm := hf }

/-- an entry is laid: a new one, or one that had been given up, for the same value -/
theorem Rel.lay (h : Rel w0 F0 n ρ U V σ a w) (i : Nat) (e : Ent) (rb : RB) (hdead : σ.reg i = .dead) (hsame : U i → rb.v = (ρ i).v ∧ rb.b = (ρ i).b)
    (hok : EntOk w (upd ρ i rb) (fun j => U j ∨ j = i) e rb) (hnd : (ownB e rb).Nodup)
    (hown : ∀ b, b ∈ ownB e rb → (∀ j, b ∉ ownB (σ.reg j) (ρ j) ∧ b ∉ roB (σ.reg j) (ρ j)) ∧ (b ∈ F0 ∨ w0.heap.size ≤ b) ∧ b ∉ roB e rb)
    (hro : ∀ b, b ∈ roB e rb → ∀ j, b ∉ ownB (σ.reg j) (ρ j))
    (hvw : ∀ p v t e' xs x, e = .lst (.view p v) t e' xs x → p ≠ i ∧ V v ∧ ((σ.reg p).ver = some v → ∀ b, b ∈ rb.r → b ∈ ownB (σ.reg p) (ρ p) ∨ b ∈ roB (σ.reg p) (ρ p)))
    (hver : ∀ v, e.ver = some v → ¬ V v) (nx' ck' : Nat) :
    Rel w0 F0 n (upd ρ i rb) (fun j => U j ∨ j = i) (fun v => V v ∨ e.ver = some v) { σ with reg := upd σ.reg i e, nx := nx', ck := ck' } a w := by
  have hnx : ∀ j, U j → (fun j => U j ∨ j = i) j := fun j hj => .inl hj
  have hvb : ∀ j, U j → (upd ρ i rb j).v = (ρ j).v ∧ (upd ρ i rb j).b = (ρ j).b := by
    intro j hj
    by_cases hji : j = i
    · subst hji; rw [upd_same]; exact hsame hj
    · rw [upd_ne _ _ hji]; exact ⟨rfl, rfl⟩
  have hcase : ∀ j, (j = i ∧ upd σ.reg i e j = e ∧ upd ρ i rb j = rb) ∨ (j ≠ i ∧ upd σ.reg i e j = σ.reg j ∧ upd ρ i rb j = ρ j) := by
    intro j
    by_cases hj : j = i
    · subst hj; exact .inl ⟨rfl, by simp, by simp⟩
    · exact .inr ⟨hj, upd_ne _ _ hj, upd_ne _ _ hj⟩
  refine { tm := h.tm, df := h.df, sl := fun t => (h.sl t).mono hnx hvb, ent := fun j hl => ?_, disj := fun j k hjk b hb hb' => ?_, nodup := fun j => ?_,
           ro := fun j k b hb hb' => ?_, vw := fun j p v t e' xs x he hv b hb => ?_, vck := fun j p v t e' xs x he => ?_, vck2 := fun j v hv => ?_,
           new := fun j hj => ?_, inF := fun j b hb => ?_, frm := h.frm }
  · rcases hcase j with ⟨_, e1, e2⟩ | ⟨hj, e1, e2⟩
    · simp only [e1, e2]; exact hok
    · simp only [e1, e2] at hl ⊢
      refine (h.ent j ?_).mono hnx hvb
      cases hr : σ.reg j with
      | dead => rw [hr] at hl; exact hl
      | box t ls => trivial
      | lst k t e' xs v =>
        rw [hr] at hl
        cases k with
        | view p v' =>
          show (σ.reg p).ver = some v'
          have hl' : (upd σ.reg i e p).ver = some v' := hl
          rcases hcase p with ⟨_, e3, _⟩ | ⟨_, e3, _⟩
          · rw [e3] at hl'
            exact absurd (h.vck j p v' t e' xs v hr) (hver v' hl')
          · rw [e3] at hl'; exact hl'
        | _ => trivial
  · rcases hcase j with ⟨hj, e1, e2⟩ | ⟨hj, e1, e2⟩ <;> rcases hcase k with ⟨hk, e3, e4⟩ | ⟨hk, e3, e4⟩ <;> simp only [e1, e2, e3, e4] at hb hb'
    · exact hjk (hj.trans hk.symm)
    · exact ((hown b hb).1 k).1 hb'
    · exact ((hown b hb').1 j).1 hb
    · exact h.disj j k hjk b hb hb'
  · rcases hcase j with ⟨_, e1, e2⟩ | ⟨_, e1, e2⟩ <;> simp only [e1, e2]
    · exact hnd
    · exact h.nodup j
  · rcases hcase j with ⟨hj, e1, e2⟩ | ⟨hj, e1, e2⟩ <;> rcases hcase k with ⟨hk, e3, e4⟩ | ⟨hk, e3, e4⟩ <;> simp only [e1, e2, e3, e4] at hb hb'
    · exact (hown b hb').2.2 hb
    · exact hro b hb k hb'
    · exact ((hown b hb').1 j).2 hb
    · exact h.ro j k b hb hb'
  · rcases hcase j with ⟨hj, e1, e2⟩ | ⟨hj, e1, e2⟩
    · simp only [e1] at he
      obtain ⟨hp, hvc, hh⟩ := hvw p v t e' xs x he
      have e3 : upd σ.reg i e p = σ.reg p := upd_ne _ _ hp
      have e4 : upd ρ i rb p = ρ p := upd_ne _ _ hp
      simp only [e2] at hb
      simp only [e3] at hv
      simp only [e3, e4]
      exact hh hv b hb
    · simp only [e1] at he
      rcases hcase p with ⟨hp, e3, e4⟩ | ⟨hp, e3, e4⟩
      · simp only [e3] at hv
        exact absurd (h.vck j p v t e' xs x he) (hver v hv)
      · simp only [e3] at hv
        simp only [e2] at hb
        simp only [e3, e4]
        exact h.vw j p v t e' xs x he hv b hb
  · rcases hcase j with ⟨hj, e1, e2⟩ | ⟨hj, e1, e2⟩ <;> simp only [e1] at he
    · exact .inl (hvw p v t e' xs x he).2.1
    · exact .inl (h.vck j p v t e' xs x he)
  · rcases hcase j with ⟨hj, e1, e2⟩ | ⟨hj, e1, e2⟩ <;> simp only [e1] at hv
    · exact .inr hv
    · exact .inl (h.vck2 j v hv)
  · have hji : j ≠ i := fun e1 => hj (.inr e1)
    show upd σ.reg i e j = .dead
    rw [upd_ne _ _ hji]
    exact h.new j (fun hu => hj (.inl hu))
  · rcases hcase j with ⟨hj, e1, e2⟩ | ⟨hj, e1, e2⟩ <;> simp only [e1, e2] at hb
    · exact (hown b hb).2.1
    · exact h.inF j b hb
end
end Go.Vf
