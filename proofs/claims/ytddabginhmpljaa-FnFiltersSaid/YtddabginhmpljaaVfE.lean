/- One plain operation is what the model does. -/
import Derived.Test.YtddabginhmpljaaVfD
import Derived.Laws.Rows
import Derived.Laws.BytesArg
import Derived.Laws.StructEq
namespace Go.Vf
set_option linter.unusedVariables false
set_option linter.unusedSimpArgs false

structure TyOk (P : Program) (t : TypeId) (g : Bool) (T : Ty) : Prop where
  info : ∃ i z, P.info? t = some i ∧ i.zero = some z ∧ i.size = size T ∧ i.bytes ≤ 128 ∧ z.cells.toList = zeroC T
  agg : ∃ d, P.underlying t = some d ∧ (match d with | .struct _ | .array _ _ => true | _ => false) = g
  pos : 0 < size T
  one : g = false → size T = 1
  int : ∀ k, T = .int k → g = false → P.underlying t = some (.int k)
  str : T = .str → g = false → P.underlying t = some .string
  bool : T = .bool → g = false → P.underlying t = some .bool

structure CtxOk (P : Program) (C : Ctx) : Prop where
  mixed : P.follows .mixedOrders = true
  ty : ∀ t g T, C.ty t = some (g, T) → TyOk P t g T
  fld : ∀ t i off f, C.fld t i = some (off, f) → ∃ fs fd, P.underlying t = some (.struct fs) ∧ fs[i]? = some fd ∧ fd.offset = off ∧ fd.type = f ∧ ∃ j, P.info? f = some j ∧ j.size ≠ 0
  el : ∀ t e, C.el t = some e → P.underlying t = some (.slice e)
  bld : ∀ t T, C.ty t = some (true, T) → ∃ fs, P.underlying t = some (.struct fs) ∧ ∀ fd, fd ∈ fs → ∃ i, P.info? fd.type = some i
  src : ∀ t, C.src t = true → ∃ u, P.underlying t = some u
  eq : ∀ t T, C.eq t = true → C.ty t = some (true, T) → ∀ (w : World) (op : BinOp) (x y : Operand) (cs cs' : List Value) (a b : den T) (r r' : List Nat), Rd w .ro T cs a [] r → Rd w .ro T cs' b [] r' →
    (do eqGuard op t x y (.agg cs.toArray) (.agg cs'.toArray); binOp .eql t (.agg cs.toArray) (.agg cs'.toArray) : Sem Value).run P w = .ok (.bool (eqD T a b)) w ∧
    (do eqGuard op t x y (.agg cs.toArray) (.agg cs'.toArray); binOp .neq t (.agg cs.toArray) (.agg cs'.toArray) : Sem Value).run P w = .ok (.bool (!(eqD T a b))) w

/-- the ghost numbers grow by what the state's counters say -/
structure Grow (ρ ρ' : Nat → RB) (U U' V V' : Nat → Prop) (σ σ' : State) (w w' : World) (ts : List Nat) : Prop where
  size : w.heap.size ≤ w'.heap.size
  still : ∀ b, b < w.heap.size → (∀ i, i ∈ ts → b ∉ ownB (σ.reg i) (ρ i)) → w'.heap[b]? = w.heap[b]?
  off : ∀ i, U i → i ∉ ts → ρ' i = ρ i
  ros : ∀ i b, b ∈ roB (σ'.reg i) (ρ' i) → ∃ j, b ∈ roB (σ.reg j) (ρ j)
  rho : ∀ i, U i → (ρ' i).v = (ρ i).v ∧ (ρ' i).b = (ρ i).b
  u : ∀ i, U i → U' i
  u' : ∀ i, U' i → U i ∨ (σ.nx ≤ i ∧ i < σ'.nx)
  v : ∀ i, V i → V' i
  v' : ∀ i, V' i → V i ∨ (σ.ck ≤ i ∧ i < σ'.ck)

theorem Grow.refl (ρ : Nat → RB) (U V : Nat → Prop) (σ : State) (w : World) (ts : List Nat) : Grow ρ ρ U U V V σ σ w w ts := ⟨Nat.le_refl _, fun _ _ _ => rfl, fun _ _ _ => rfl, fun i b hb => ⟨i, hb⟩, fun _ _ => ⟨rfl, rfl⟩, fun _ => id, fun _ => .inl, fun _ => id, fun _ => .inl⟩
theorem More.grow {ρ ρ' : Nat → RB} {U U' V V' : Nat → Prop} {σ σ' : State} (h : More ρ ρ' U U' V V' σ σ') (w : World) (ts : List Nat) (hq : ∀ i b, b ∈ roB (σ'.reg i) (ρ' i) → ∃ j, b ∈ roB (σ.reg j) (ρ j)) : Grow ρ ρ' U U' V V' σ σ' w w ts :=
  ⟨Nat.le_refl _, fun _ _ _ => rfl, fun i hi _ => h.rho i hi, hq, fun i hi => by rw [h.rho i hi]; exact ⟨rfl, rfl⟩, fun i hi => (h.u i).2 (.inl hi), fun i hi => (h.u i).1 hi, fun i hi => (h.v i).1 hi, fun i hi => (h.v i).2 hi⟩

def Done (P : Program) (w0 : World) (F0 : List Nat) (n : Nat) (ρ : Nat → RB) (U V : Nat → Prop) (σ : State) (a : Act) (w : World) (o : Oper) (ts : List Nat) (out : Out) : Prop :=
  ∃ v w', ((execOp a.eval o).run P w = .ok (.value v) w' ∨ ((execOp a.eval o).run P w = .ok .skip w' ∧ v = undef)) ∧
    ∃ ρ' U' V', Rel w0 F0 n ρ' U' V' out.st a w' ∧ AVOk ρ' U' out.v v ∧ Grow ρ ρ' U U' V V' σ out.st w w' ts

theorem isSc_cells {v : Value} (h : isSc v = true) : v.cells = #[v] := by cases v <;> simp_all [isSc, Value.cells]
theorem isSc_one {v : Value} (h : isSc v = true) : v.oneCell' = true := by cases v <;> simp_all [isSc, Value.oneCell']

theorem LfOk.cells {ρ : Nat → RB} {U : Nat → Prop} {l : Lf} {v : Value} (h : LfOk ρ U l v) : v.cells = #[v] ∧ v.oneCell' = true := by
  cases l with
  | sc u => obtain ⟨rfl, h⟩ := h; exact ⟨isSc_cells h, isSc_one h⟩
  | ref i => obtain ⟨_, _, a, n, c, rfl⟩ := h; exact ⟨rfl, rfl⟩
  | nil => cases h; exact ⟨rfl, rfl⟩
  | nilp => cases h; exact ⟨rfl, rfl⟩
  | ptr i k => obtain ⟨_, rfl⟩ := h; exact ⟨rfl, rfl⟩
  | el i j sz k => obtain ⟨_, ad, n, c, _, _, _, rfl⟩ := h; exact ⟨rfl, rfl⟩

theorem LfsOk.one {ρ : Nat → RB} {U : Nat → Prop} {ls : List Lf} {cs : List Value} (h : LfsOk ρ U ls cs) : ∀ v, v ∈ cs → v.oneCell' = true := by
  induction h with
  | nil => intro v hv; cases hv
  | cons h1 _ ih =>
    intro v hv
    cases hv with
    | head => exact h1.cells.2
    | tail _ hv => exact ih v hv

theorem LfsOk.take {ρ : Nat → RB} {U : Nat → Prop} {ls : List Lf} {cs : List Value} (h : LfsOk ρ U ls cs) : ∀ k, LfsOk ρ U (ls.take k) (cs.take k) := by
  induction h with
  | nil => intro k; simp; exact .nil
  | cons h1 _ ih => intro k; cases k with
    | zero => exact .nil
    | succ k => exact .cons h1 (ih k)

theorem LfsOk.drop {ρ : Nat → RB} {U : Nat → Prop} {ls : List Lf} {cs : List Value} (h : LfsOk ρ U ls cs) : ∀ k, LfsOk ρ U (ls.drop k) (cs.drop k) := by
  induction h with
  | nil => intro k; simp; exact .nil
  | cons h1 h2 ih => intro k; cases k with
    | zero => exact .cons h1 h2
    | succ k => exact ih k

/-- the cells of a value -/
theorem SVOk.leaves {ρ : Nat → RB} {U : Nat → Prop} {s : SV} {v : Value} (h : SVOk ρ U s v) : LfsOk ρ U s.leaves v.cells.toList := by
  cases s with
  | lf l => have h' : LfOk ρ U l v := h; rw [h'.cells.1]; exact .cons h' .nil
  | agg ls => obtain ⟨cs, rfl, h⟩ := h; exact h

theorem pack_ok {ρ : Nat → RB} {U : Nat → Prop} {g : Bool} {ls : List Lf} {cs : List Value} {s : SV} (h : LfsOk ρ U ls cs) (hp : pack g ls = some s) :
    (g = true ∧ SVOk ρ U s (.agg cs.toArray)) ∨ (g = false ∧ ∃ u, cs = [u] ∧ SVOk ρ U s u) := by
  cases g with
  | true => simp [pack] at hp; subst hp; exact .inl ⟨rfl, cs.toArray, rfl, by simpa using h⟩
  | false =>
    right
    refine ⟨rfl, ?_⟩
    cases h with
    | nil => simp [pack] at hp
    | cons h1 h2 =>
      cases h2 with
      | nil => simp [pack] at hp; subst hp; exact ⟨_, rfl, h1⟩
      | cons _ _ => simp [pack] at hp

theorem add_add (ad : Addr) (hs : ad.spot = none) (m k : Nat) : (ad.add m).add k = ad.add (m + k) := by
  obtain ⟨b, off, sp⟩ := ad
  simp only at hs
  subst hs
  unfold Addr.add
  split <;> split <;> split <;> simp_all <;> omega

theorem add_mk (b o k : Nat) : (⟨b, o, none⟩ : Addr).add k = ⟨b, o + k, none⟩ := by unfold Addr.add; split <;> simp_all

section
variable {P : Program} {C : Ctx} {w0 : World} {F0 : List Nat} {n : Nat} {ρ : Nat → RB} {U V : Nat → Prop} {σ : State} {a : Act} {w : World} {ts : List Nat}

theorem ofConst_ok (ρ : Nat → RB) (U : Nat → Prop) (v : Value) : AVOk ρ U (ofConst v) v := by
  unfold ofConst
  split <;> first
    | trivial
    | exact ⟨rfl, rfl⟩
    | exact rfl

theorem ev_ok (hR : Rel w0 F0 n ρ U V σ a w) (x : Operand) : AVOk ρ U (ev σ x) (a.eval x) := by
  cases x with
  | tmp t => exact hR.sl t
  | const v => exact ofConst_ok ρ U v
  | global g => trivial
  | func f => exact ⟨#[], rfl, .nil⟩

theorem ev_sv (hR : Rel w0 F0 n ρ U V σ a w) {x : Operand} {s : SV} (h : ev σ x = .sv s) : SVOk ρ U s (a.eval x) := by
  have := ev_ok hR x
  rw [h] at this
  exact this

theorem ev_lf (hR : Rel w0 F0 n ρ U V σ a w) {x : Operand} {l : Lf} (h : ev σ x = .sv (.lf l)) : LfOk ρ U l (a.eval x) := ev_sv hR h

theorem ev_sc (hR : Rel w0 F0 n ρ U V σ a w) {x : Operand} {v : Value} (h : ev σ x = .sv (.lf (.sc v))) : a.eval x = v ∧ isSc v = true := ev_lf hR h

/-- a plain operation that leaves the world and the entries alone -/
theorem done_value {o : Oper} {v : Value} {av : AV} (hR : Rel w0 F0 n ρ U V σ a w) (hr : (execOp a.eval o).run P w = .ok (.value v) w) (hv : AVOk ρ U av v) : Done P w0 F0 n ρ U V σ a w o ts ⟨av, σ⟩ :=
  ⟨v, w, .inl hr, ρ, U, V, hR, hv, .refl _ _ _ _ _ _⟩

theorem isAgg_run {P : Program} {t : TypeId} {g : Bool} {T : Ty} (h : TyOk P t g T) (w : World) : (isAgg t).run P w = .ok g w := by
  obtain ⟨d, hd, hg⟩ := h.agg
  unfold isAgg
  rw [Sem.run_bind, run_underlying hd w]
  cases d <;> simp_all

theorem sizeOf_run {P : Program} {t : TypeId} {g : Bool} {T : Ty} (h : TyOk P t g T) (w : World) : (sizeOf t).run P w = .ok (size T) w := by
  obtain ⟨i, z, h1, _, h3, _⟩ := h.info
  simp [sizeOf, typeInfo, h1, h3]

/-- a variable is read -/
theorem loadVar_run {P : Program} {t : TypeId} {g : Bool} {T : Ty} (h : TyOk P t g T) (w : World) (ad : Addr) (cs : List Value) (hl : cs.length = size T) (hc : ∀ j v, cs[j]? = some v → w.cell? (ad.add j) = some v) :
    (g = true → (loadVar t ad).run P w = .ok (.agg cs.toArray) w) ∧ (g = false → ∀ u, cs = [u] → (loadVar t ad).run P w = .ok u w) := by
  refine ⟨fun hg => ?_, fun hg u hu => ?_⟩
  · subst hg
    have h1 := run_loadCells_list (P := P) w ad cs hc
    rw [hl] at h1
    simp [loadVar, isAgg_run h w, sizeOf_run h w, h1]
  · subst hg; subst hu
    have h1 := hc 0 u rfl
    have h2 : ad.add 0 = ad := by simp [Addr.add]
    rw [h2] at h1
    simp [loadVar, isAgg_run h w, h1]

theorem zeroL_ok (ρ : Nat → RB) (U : Nat → Prop) (T : Ty) : LfsOk ρ U (zeroL T) (zeroC T) := by
  induction T with
  | int k => exact .cons ⟨rfl, rfl⟩ .nil
  | bool => exact .cons ⟨rfl, rfl⟩ .nil
  | str => exact .cons ⟨rfl, rfl⟩ .nil
  | unit => exact .nil
  | pair A B iha ihb => exact iha.append ihb
  | sl t e _ => exact .cons rfl .nil

theorem zeroL_length (T : Ty) : (zeroL T).length = size T := by
  induction T <;> simp [zeroL, size, *]

theorem hal_old (w : World) (o : Obj) (i : Nat) (h : i < w.heap.size) : (w.alloc o).heap[i]? = w.heap[i]? := by
  show (w.heap.push o)[i]? = w.heap[i]?
  rw [Array.getElem?_push, if_neg (Nat.ne_of_lt h)]

theorem hal_new (w : World) (o : Obj) : (w.alloc o).heap[w.heap.size]? = some o := by
  show (w.heap.push o)[w.heap.size]? = some o
  simp

/-- a new variable -/
theorem Rel.newBox (hR : Rel w0 F0 n ρ U V σ a w) (t : TypeId) (ls : List Lf) (cs : Array Value) (hl : LfsOk ρ U ls cs.toList) (hnu : ¬ U σ.nx) :
    ∃ ρ' U' V', Rel w0 F0 n ρ' U' V' (newEnt σ (.box t ls)) a (w.alloc (.cells cs t)) ∧ AVOk ρ' U' (.sv (.lf (.ptr σ.nx 0))) (.pointer (some ⟨w.heap.size, 0, none⟩)) ∧ Grow ρ ρ' U U' V V' σ (newEnt σ (.box t ls)) w (w.alloc (.cells cs t)) ts := by
  have hw := hR.world (w' := w.alloc (.cells cs t)) ⟨hR.frm.os, hR.frm.tape, hR.frm.output, by have := hR.frm.size; simp; omega, fun b hb hF => by rw [hal_old w _ b (Nat.lt_of_lt_of_le hb hR.frm.size)]; exact hR.frm.block b hb hF⟩ (by simp)
    (fun i b hb => hal_old w _ b (hb.elim (fun h => hR.own_lt h) (fun h => hR.ro_lt h)))
  have hfresh : ∀ j, w.heap.size ∉ ownB (σ.reg j) (ρ j) ∧ w.heap.size ∉ roB (σ.reg j) (ρ j) := fun j => ⟨fun h => Nat.lt_irrefl _ (hR.own_lt h), fun h => Nat.lt_irrefl _ (hR.ro_lt h)⟩
  have hlay := hw.lay σ.nx (.box t ls) ⟨.slice none 0 0, w.heap.size, [], []⟩ (hR.new _ hnu) (fun h => absurd h hnu)
    ⟨cs, hal_new w _, hl.mono (fun i hi => .inl hi) (fun i hi => by have hne : i ≠ σ.nx := (fun e => by subst e; exact hnu hi); rw [upd_ne _ _ hne]; exact ⟨rfl, rfl⟩)⟩ (by simp [ownB])
    (fun b hb => by simp [ownB] at hb; subst hb; exact ⟨hfresh, .inr hR.frm.size, by simp [roB]⟩) (fun b hb => by simp [roB] at hb) (fun p v t' e' xs x he => by cases he) (fun v hv => by cases hv) (σ.nx + 1) (σ.ck + 1)
  refine ⟨_, _, _, hlay, ⟨.inr rfl, by simp⟩, ⟨by simp, fun b hb _ => hal_old w _ b hb, fun i hi _ => upd_ne ρ _ (show i ≠ σ.nx from fun e => hnu (e ▸ hi)), fun i b hb => (by
    by_cases hi : i = σ.nx
    · subst hi; simp [newEnt, roB] at hb
    · simp only [newEnt, upd_ne _ _ hi] at hb; exact ⟨i, hb⟩), fun i hi => (by rw [upd_ne ρ _ (show i ≠ σ.nx from fun e => hnu (e ▸ hi))]; exact ⟨rfl, rfl⟩), fun i => .inl, fun i hi => ?_, fun i => .inl, fun i hi => hi.elim .inl (fun h => by cases h)⟩⟩
  rcases hi with hi | hi
  · exact .inl hi
  · right
    show σ.nx ≤ i ∧ i < σ.nx + 1
    omega

theorem d_move {o : Oper} {out : Out} {x : Operand} (hR : Rel w0 F0 n ρ U V σ a w) (ho : o.op = .move x ∨ o.op = .assign x) (hout : out = ⟨ev σ x, σ⟩) : Done P w0 F0 n ρ U V σ a w o ts out := by
  subst hout
  refine done_value (v := a.eval x) hR ?_ (ev_ok hR x)
  rcases ho with ho | ho <;> simp [execOp, ho]

theorem d_pick {o : Oper} {c x y : Operand} {q : Bool} (hR : Rel w0 F0 n ρ U V σ a w) (ho : o.op = .pick c x y) (hc : ev σ c = .sv (.lf (.sc (.bool q)))) : Done P w0 F0 n ρ U V σ a w o ts ⟨bif q then ev σ x else ev σ y, σ⟩ := by
  have h1 := (ev_sc hR hc).1
  refine done_value (v := if q then a.eval x else a.eval y) hR ?_ ?_
  · simp [execOp, ho, h1, asBool]
  · cases q
    · simpa using ev_ok hR y
    · simpa using ev_ok hR x

theorem d_alloc (hC : CtxOk P C) {o : Oper} {t : TypeId} {g : Bool} {T : Ty} (hR : Rel w0 F0 n ρ U V σ a w) (ho : o.op = .alloc t) (ht : C.ty t = some (g, T)) (hnu : ¬ U σ.nx) :
    Done P w0 F0 n ρ U V σ a w o ts ⟨.sv (.lf (.ptr σ.nx 0)), newEnt σ (.box t (zeroL T))⟩ := by
  obtain ⟨i, z, h1, h2, h3, _, h5⟩ := (hC.ty _ _ _ ht).info
  obtain ⟨ρ', U', V', k1, k2, k3⟩ := hR.newBox t (zeroL T) z.cells (by rw [h5]; exact zeroL_ok ρ U T) hnu
  refine ⟨_, _, .inl ?_, ρ', U', V', k1, k2, k3⟩
  simp [execOp, ho, Instr.alloc, zeroValue, typeInfo, h1, h2, newVar, newRow]

theorem d_box (hC : CtxOk P C) {o : Oper} {t : TypeId} {x : Operand} {s : SV} (hR : Rel w0 F0 n ρ U V σ a w) (ho : o.op = .box t x) (hx : ev σ x = .sv s) (hnu : ¬ U σ.nx) :
    Done P w0 F0 n ρ U V σ a w o ts ⟨.sv (.lf (.ptr σ.nx 0)), newEnt σ (.box t s.leaves)⟩ := by
  obtain ⟨ρ', U', V', k1, k2, k3⟩ := hR.newBox t s.leaves (a.eval x).cells (ev_sv hR hx).leaves hnu
  refine ⟨_, _, .inl ?_, ρ', U', V', k1, k2, k3⟩
  simp [execOp, ho, Instr.box, newVar, newRow]

end
end Go.Vf
