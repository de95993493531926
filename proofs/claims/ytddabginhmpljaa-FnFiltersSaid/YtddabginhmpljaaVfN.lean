/- The executor of a function's code. -/
import Derived.Test.YtddabginhmpljaaVfM
namespace Go.Vf
set_option linter.unusedVariables false
set_option linter.unusedSimpArgs false

def flat : Ty → Bool
  | .pair a b => flat a && flat b
  | .sl _ _ => false
  | _ => true

/-! ### Words of printed texts -/

def bAnd (k : IntKind) (a b : Int) : Int := k.wrap (BitVec.ofInt k.bits a &&& BitVec.ofInt k.bits b).toNat
def bOr (k : IntKind) (a b : Int) : Int := k.wrap (BitVec.ofInt k.bits a ||| BitVec.ofInt k.bits b).toNat
def bXor (k : IntKind) (a b : Int) : Int := k.wrap (BitVec.ofInt k.bits a ^^^ BitVec.ofInt k.bits b).toNat
def bAndNot (k : IntKind) (a b : Int) : Int := k.wrap (BitVec.ofInt k.bits a &&& ~~~BitVec.ofInt k.bits b).toNat

def minI (a b : Int) : Int := bif decide (b < a) then b else a
def app {e : Ty} (xs ys : List (den e)) : List (den e) := xs ++ ys
def len {e : Ty} (xs : List (den e)) : Nat := xs.length

/-- one operation: what it comes to, and the entries that it may turn -/
def stepB (C : Ctx) (σ : State) (b : Builtin) (xs : List Operand) (ts : List TypeId) : Option (SR × List Nat) :=
  match b, xs, ts with
  | .len, [x], [t] => match ev σ x with
    | .sv (.lf (.sc (.string s))) => if C.ty t = some (false, .str) then some (.plain true ⟨.sv (.lf (.sc (.int .i64 s.size))), σ⟩, []) else none
    | .sv (.lf .nil) => if (C.el t).isSome then some (.plain true ⟨.sv (.lf (.sc (.int .i64 0))), σ⟩, []) else none
    | .sv (.lf (.ref i)) => match σ.reg i with
      | .lst k t' e ys ver => if liveB σ.reg (.lst k t' e ys ver) ∧ (C.el t).isSome then some (.plain true ⟨.sv (.lf (.sc (.int .i64 ys.length))), σ⟩, []) else none
      | _ => none
    | _ => none
  | .min, [x, y], _ => match ev σ x, ev σ y with
    | .sv (.lf (.sc (.int .i64 a))), .sv (.lf (.sc (.int .i64 b))) => some (.plain true ⟨.sv (.lf (.sc (.int .i64 (minI a b)))), σ⟩, [])
    | _, _ => none
  | .append, [s, x], [t, t2] => if t = t2 then match C.el t with
    | some te => match C.ty te, ev σ s, ev σ x with
      | some (_, e), .sv (.lf s), .sv (.lf x) => match flat e with
        | true => (take .own (.sl te e) [s] σ).bind fun p => (take .ro (.sl te e) [x] σ).bind fun q =>
            some (.plain (decide (len p.1 + len q.1 ≤ 1099511627776)) ⟨.sv (.lf (.ref p.2.2.nx)), newEnt p.2.2 (.lst .own te e (app p.1 q.1) p.2.2.ck)⟩, refs [s])
        | false => (take .own (.sl te e) [s] σ).bind fun p => (take .own (.sl te e) [x] p.2.2).bind fun q =>
            some (.plain (decide (len p.1 + len q.1 ≤ 1099511627776)) ⟨.sv (.lf (.ref q.2.2.nx)), newEnt q.2.2 (.lst .own te e (app p.1 q.1) q.2.2.ck)⟩, refs [s] ++ refs [x])
      | _, _, _ => none
    | none => none else none
  | _, _, _ => none

def touch (σ : State) : Op → List Nat
  | .store _ x y => match ev σ x, ev σ y with
    | .sv (.lf (.ptr i _)), .sv _ => [i]
    | .sv (.lf (.el i _ _ _)), .sv s => i :: refs s.leaves
    | _, _ => []
  | .buildSlice _ _ ps => ps.toList.flatMap fun p => match ev σ p.2 with
    | .sv s => refs s.leaves
    | _ => []
  | _ => []

/-- the first of the contracts that fits -/
def stepK (N : Nat) (as : List AV) (σ : State) : List Ctr → Option (SR × List Nat)
  | [] => none
  | c :: cs => match stepC c N as σ with
    | some r => some r
    | none => stepK N as σ cs

/-- a cut that keeps what is cut as the call's own; which ones are such is told by the slots that are cut -/
def cutOp (C : Ctx) (σ : State) : Op → Option (SR × List Nat)
  | .slice t (.tmp k) lo hi none => bif C.cut k then (match optInt σ lo, optInt σ hi with
    | some lo, some hi => match σ.sl k with
      | .sv (.lf (.ref i)) => match σ.reg i with
        | .lst .own t' e xs ver => if C.el t = some t' ∧ (C.ty t').map (·.2) = some e then
            some (.plain (cutOf xs.length lo hi).1 ⟨.sv (.lf (.ref σ.nx)), newEnt { σ with reg := upd σ.reg i .dead } (.lst .own t' e ((xs.take (cutOf xs.length lo hi).2.2.toNat).drop (cutOf xs.length lo hi).2.1.toNat) σ.ck)⟩, [i]) else none
        | _ => none
      | _ => none
    | _, _ => none) else none
  | _ => none

def stepT (C : Ctx) (K : FuncId → List Ctr) (N : Nat) (σ : State) (op : Op) : Option (SR × List Nat) :=
  match op with
  | .call c => match c.callee with
    | .builtin b => match stepB C σ b c.args.toList c.argTypes.toList with
      | some (.plain ck o, ts) => some (.plain ck o, ts)
      | _ => none
    | .value fo => onFn (ev σ fo) fun f ss => stepK N (c.args.toList.map (ev σ) ++ ss.map AV.sv) σ (K f)
    | _ => none
  | op => match cutOp C σ op with
    | some r => some r
    | none => match step C σ op with
      | some (.plain ck o) => some (.plain ck o, touch σ op)
      | _ => none

/-! ### Layouts -/

/-- the scalars of a variable whose slices stayed -/
def keepS : (T : Ty) → List Lf → List Lf → Option (den T)
  | .int k, _, [.sc (.int k' n)] => if k = k' then some n else none
  | .bool, _, [.sc (.bool b)] => some b
  | .str, _, [.sc (.string s)] => some s
  | .unit, _, [] => some ()
  | .pair a b, l0, ls => (keepS a (l0.take (size a)) (ls.take (size a))).bind fun x => (keepS b (l0.drop (size a)) (ls.drop (size a))).bind fun y => some (x, y)
  | .sl _ _, [.ref i], [.ref j] => bif Nat.beq i j then some [] else none
  | _, _, _ => none

/-- what is carried past a joint: a slot's own value; a slot's list that is only read; the variable behind a slot; the list at a place of a slot's value, or of the variable behind it, in place; the variable behind a slot, whose lists stay -/
inductive LV where
  | slot (s : Nat) (g : Bool) (T : Ty)
  | ro (s : Nat) (t : TypeId) (e : Ty)
  | box (s : Nat) (t : TypeId) (T : Ty)
  | ent (s k : Nat) (t : TypeId) (e : Ty)
  | sbox (s : Nat) (t : TypeId) (T : Ty)

def LV.ty : LV → Ty
  | .slot _ _ T => T
  | .ro _ t e => .sl t e
  | .box _ _ T => T
  | .ent _ _ t e => .sl t e
  | .sbox _ _ T => T

def envTy : List LV → Ty
  | [] => .unit
  | v :: vs => .pair v.ty (envTy vs)

structure Lay where
  vs : List LV
  ws : List Nat

def slotsOf : List LV → List Nat
  | [] => []
  | .slot s _ _ :: vs => s :: slotsOf vs
  | .ro s _ _ :: vs => s :: slotsOf vs
  | _ :: vs => slotsOf vs

/-- every slot that a joint sets or forgets -/
def Lay.all (L : Lay) : List Nat := slotsOf L.vs ++ L.ws

/-- the list at a place of a slot's value, or of the variable behind it -/
def leafAt (σ : State) (s k : Nat) : Option Nat := match σ.sl s with
  | .sv (.lf (.ref i)) => some i
  | .sv (.agg ls) => match ls[k]? with
    | some (.ref i) => some i
    | _ => none
  | .sv (.lf (.ptr b 0)) => match σ.reg b with
    | .box _ ls => match ls[k]? with
      | some (.ref i) => some i
      | _ => none
    | _ => none
  | _ => none

def abs1 (v : LV) (σ0 σ : State) : Option (den v.ty × State × List Nat) :=
  match v with
  | .slot s g T => onSv (σ.sl s) fun x => takeV .own g T x σ
  | .ro s t e => match σ.sl s with
    | .sv (.lf .nil) => some ([], σ, [])
    | .sv (.lf (.ref i)) => match σ.reg i with
      | .lst .ro t' e' xs _ => if h : e' = e then (if t' = t then some (h ▸ xs, σ, []) else none) else none
      | _ => none
    | _ => none
  | .box s t T => onSv (σ.sl s) fun x => (takeBoxes [(t, T)] [x] σ).bind fun p => some (p.1.1, p.2.1, p.2.2)
  | .ent s k t e => match leafAt σ s k with
    | some i => (take .own (.sl t e) [.ref i] σ).bind fun p => some (p.1, p.2.2, [i])
    | none => none
  | .sbox s t T => match σ0.sl s with
    | .sv (.lf (.ptr i 0)) => match σ0.reg i with
      | .box _ ls0 => match σ.sl s with
        | .sv (.lf (.ptr j 0)) => bif Nat.beq i j then (match σ.reg j with
          | .box t' ls => bif Nat.beq t' t then (keepS T ls0 ls).bind fun x => some (x, { σ with reg := upd σ.reg j .dead }, [j]) else none
          | _ => none) else none
        | _ => none
      | _ => none
    | _ => none

def abs : (vs : List LV) → State → State → Option (den (envTy vs) × State × List Nat)
  | [], _, σ => some ((), σ, [])
  | v :: vs, σ0, σ => (abs1 v σ0 σ).bind fun p => (abs vs σ0 p.2.1).bind fun q => some ((p.1, q.1), q.2.1, p.2.2 ++ q.2.2)

def isDead : Ent → Bool
  | .dead => true
  | _ => false

def con1 (v : LV) (x : den v.ty) (σ0 σ : State) : State :=
  match v with
  | .slot s g T => match pack g (give .own T x σ).1 with
    | some sv => { (give .own T x σ).2 with sl := upd (give .own T x σ).2.sl s (.sv sv) }
    | none => σ
  | .ro s t e => { newEnt σ (.lst .ro t e x σ.ck) with sl := upd σ.sl s (.sv (.lf (.ref σ.nx))) }
  | .box s t T => match σ.sl s with
    | .sv (.lf (.ptr i k)) => match σ.reg i with
      | .dead => giveBoxes [(t, T)] [.lf (.ptr i k)] (x, ()) σ
      | _ => σ
    | _ => σ
  | .ent s k t e => match leafAt σ s k with
    | some i => match σ.reg i with
      | .dead => { σ with reg := upd σ.reg i (.lst .own t e x σ.ck), ck := σ.ck + 1 }
      | _ => σ
    | none => σ
  | .sbox s t T => match σ0.sl s with
    | .sv (.lf (.ptr i 0)) => match σ0.reg i with
      | .box _ ls0 => match σ.sl s with
        | .sv (.lf (.ptr j 0)) => bif Nat.beq i j then (match σ.reg j with
          | .dead => { σ with reg := upd σ.reg j (.box t (keepL T ls0 x)) }
          | _ => σ) else σ
        | _ => σ
      | _ => σ
    | _ => σ

def con : (vs : List LV) → den (envTy vs) → State → State → State
  | [], _, _, σ => σ
  | v :: vs, x, σ0, σ => con vs x.2 σ0 (con1 v x.1 σ0 σ)

def memN (x : Nat) : List Nat → Bool
  | [] => false
  | y :: ys => bif Nat.beq x y then true else memN x ys

def clear (ws : List Nat) (σ : State) : State := { σ with sl := fun t => bif memN t ws then .undef else σ.sl t }

/-- the entries behind a slot's value -/
def behind (σ : State) : List Lf → List Nat
  | [] => []
  | .ref i :: ls => i :: behind σ ls
  | .ptr i _ :: ls => i :: ((match σ.reg i with
    | .box _ cs => refs cs
    | _ => []) ++ behind σ ls)
  | _ :: ls => behind σ ls

def killAll : List Nat → State → State
  | [], σ => σ
  | i :: is, σ => killAll is { σ with reg := upd σ.reg i .dead }

/-- what is given up: all behind a slot (0), or the variable behind it alone (1), or the list at a place of it -/
def deadIds (σ : State) : List (Nat × Nat) → List Nat
  | [] => []
  | (s, 0) :: ss => (match σ.sl s with
    | .sv v => behind σ v.leaves
    | _ => []) ++ deadIds σ ss
  | (s, 1) :: ss => (match σ.sl s with
    | .sv (.lf (.ptr i _)) => [i]
    | _ => []) ++ deadIds σ ss
  | (s, k + 2) :: ss => (match leafAt σ s k with
    | some i => [i]
    | none => []) ++ deadIds σ ss

structure Tr where
  ws : List Nat
  ts : List Nat

def Tr.add (a b : Tr) : Tr := ⟨a.ws ++ b.ws, a.ts ++ b.ts⟩

def allIn (ws : List Nat) : List Nat → Bool
  | [] => true
  | t :: ts => bif memN t ws then allIn ws ts else false

def allDead (σ : State) : List Nat → Bool
  | [] => true
  | i :: is => bif Nat.ble σ.nx i then allDead σ is else bif isDead (σ.reg i) then allDead σ is else false

/-- what was turned may be laid anew -/
def Tr.ok (tr : Tr) (L : Lay) (B : State) : Bool := bif allIn L.all tr.ws then allDead B tr.ts else false

/-- a part of a state: these slots, these entries -/
def restr (us R : List Nat) (σ : State) : State := { σ with sl := fun t => bif memN t us then σ.sl t else .undef, reg := fun i => bif memN i R then σ.reg i else .dead }

/-- what a step on a part left (entries in ts and new ones), put back into the whole -/
def merge (σ : State) (lo : Nat) (ts : List Nat) (out : State) : State :=
  { σ with reg := fun i => bif memN i ts then out.reg i else bif Nat.ble lo i then (bif Nat.blt i out.nx then out.reg i else σ.reg i) else σ.reg i, nx := out.nx, ck := out.ck }

structure SegH where
  L : Lay
  out : Bool
  dead : List (Nat × Nat)

structure Hints where
  loop : Nat → Option Lay
  blk : Nat → Option SegH
  cnd : Nat → Option SegH
  rgn : Nat → Option SegH

inductive Ex where
  | normal
  | exit (id : Nat)
  | ret

def iter {α β : Type} : Nat → ((α → Option β) → α → Option β) → α → Option β
  | 0, _, _ => none
  | n + 1, F, e => F (iter n F) e

def first : Code → Nat
  | .region id _ _ => id
  | .seq a _ => first a
  | .block _ c => first c
  | .loop c => first c
  | .cond _ a _ => first a
  | _ => 0

/-- the key of a condition: its first region -/
def firstC (a b : Code) : Nat := match first a with
  | 0 => first b
  | n => n

def afterOp (R : Type) (nt : Nat) (dst : Option Nat) (out : Out) (ts : List Nat) (tr : Tr) (k : State → Tr → Option R) : Option R :=
  match dst with
  | some d => bif Nat.blt d nt then k { out.st with sl := upd out.st.sl d out.v } ⟨d :: tr.ws, ts ++ tr.ts⟩ else none
  | none => k out.st ⟨tr.ws, ts ++ tr.ts⟩

def doOp (R : Type) (nt : Nat) (dst : Option Nat) (s : Option (SR × List Nat)) (tr : Tr) (k : State → Tr → Option R) : Option R :=
  match s with
  | none => none
  | some (.plain ck out, ts) => bif ck then afterOp R nt dst out ts tr k else none
  | some (.call _ m f, ts) => m.bind fun x => afterOp R nt dst (f x) ts tr k

def setLit (σ : State) (d : Nat) (b : Bool) : State := { σ with sl := upd σ.sl d (.sv (.lf (.sc (.bool b)))) }

def runOps (C : Ctx) (K : FuncId → List Ctr) (nt N : Nat) (all : Array Oper) (R : Type) : List Oper → State → Tr → (State → Tr → Option R) → Option R
  | [], σ, tr, k => k σ tr
  | o :: os, σ, tr, k =>
    match o.guard with
    | none => doOp R nt o.dst (stepT C K N σ o.op) tr fun σ' tr' => runOps C K nt N all R os σ' tr' k
    | some (j, q) => match (all[j]?).bind (·.dst) with
      | none => none
      | some d => match σ.sl d with
        | .sv (.lf (.sc (.bool b))) =>
          bif b then (match q with
            | true => doOp R nt o.dst (stepT C K N (setLit σ d true) o.op) ⟨d :: tr.ws, tr.ts⟩ fun σ' tr' => runOps C K nt N all R os σ' tr' k
            | false => afterOp R nt o.dst ⟨.no, setLit σ d true⟩ [] ⟨d :: tr.ws, tr.ts⟩ fun σ' tr' => runOps C K nt N all R os σ' tr' k)
          else (match q with
            | false => doOp R nt o.dst (stepT C K N (setLit σ d false) o.op) ⟨d :: tr.ws, tr.ts⟩ fun σ' tr' => runOps C K nt N all R os σ' tr' k
            | true => afterOp R nt o.dst ⟨.no, setLit σ d false⟩ [] ⟨d :: tr.ws, tr.ts⟩ fun σ' tr' => runOps C K nt N all R os σ' tr' k)
        | .no => afterOp R nt o.dst ⟨.no, σ⟩ [] tr fun σ' tr' => runOps C K nt N all R os σ' tr' k
        | _ => none

/-! ### Regions whose operations may come in any order -/

def opTmps : List Operand → List Nat
  | [] => []
  | .tmp t :: xs => t :: opTmps xs
  | _ :: xs => opTmps xs

/-- the slots that an operation looks at -/
def usOf (all : Array Oper) (o : Oper) : List Nat := opTmps o.op.operands.toList ++ (match o.guard with
  | some (j, _) => (match (all[j]?).bind (·.dst) with
    | some d => [d]
    | none => [])
  | none => [])

def lfIds : List Lf → List Nat
  | [] => []
  | .ref i :: ls => i :: lfIds ls
  | .ptr i _ :: ls => i :: lfIds ls
  | .el i _ _ _ :: ls => i :: lfIds ls
  | _ :: ls => lfIds ls

def svIds : List SV → List Nat
  | [] => []
  | s :: ss => lfIds s.leaves ++ svIds ss

def avIds : AV → List Nat
  | .sv s => lfIds s.leaves
  | .tup ss => svIds ss
  | .fn _ ss => svIds ss
  | _ => []

def slIds (σ : State) : List Nat → List Nat
  | [] => []
  | t :: ts => avIds (σ.sl t) ++ slIds σ ts

def boxIds (σ : State) : List Nat → List Nat
  | [] => []
  | i :: is => (match σ.reg i with
    | .box _ cs => lfIds cs
    | _ => []) ++ boxIds σ is

def parIds (σ : State) : List Nat → List Nat
  | [] => []
  | i :: is => (match σ.reg i with
    | .lst (.view p _) _ _ _ _ => [p]
    | _ => []) ++ parIds σ is

/-- the entries that an operation may look at -/
def readsOf (σ : State) (us : List Nat) : List Nat :=
  (slIds σ us ++ boxIds σ (slIds σ us)) ++ parIds σ (slIds σ us ++ boxIds σ (slIds σ us))

def fromTo (lo : Nat) : Nat → List Nat
  | 0 => []
  | n + 1 => lo :: fromTo (lo + 1) n

def effOk1 (R : List Nat) (lo hi cl ch : Nat) (e : Ent) : Bool := match e with
  | .lst (.view p _) _ _ _ _ => bif memN p R then true else bif Nat.ble lo p then Nat.blt p hi else false
  | .lst .own _ _ _ v => Nat.ble cl v && Nat.blt v ch
  | .lst .own1 _ _ _ v => Nat.ble cl v && Nat.blt v ch
  | _ => true

def effOk (R : List Nat) (lo hi cl ch : Nat) (out : State) : List Nat → Bool
  | [] => true
  | i :: is => bif effOk1 R lo hi cl ch (out.reg i) then effOk R lo hi cl ch out is else false

/-- what is noted of an operation in a region without an order -/
structure Rec where
  us : List Nat
  dst : Option Nat
  R : List Nat
  ts : List Nat
  lo : Nat
  hi : Nat
  bef : List Nat

def addAll : List Nat → List Nat → List Nat
  | [], ys => ys
  | x :: xs, ys => bif memN x ys then addAll xs ys else addAll xs (x :: ys)

def preds (o : Oper) : List Nat := (o.after.toList.filter fun e => Region.binds .any e).map (·.on)

/-- all that must come before: rs are the records so far, the last one first; j is the number of the operation -/
def befOf (rs : List Rec) (j : Nat) : List Nat → List Nat
  | [] => []
  | p :: ps => addAll (p :: (match rs[j - 1 - p]? with
    | some r => r.bef
    | none => [])) (befOf rs j ps)

def none2 (xs ys : List Nat) : Bool := match xs with
  | [] => true
  | x :: xs => bif memN x ys then false else none2 xs ys

/-- none of xs lies in a range -/
def noneIn (lo hi : Nat) : List Nat → Bool
  | [] => true
  | x :: xs => bif Nat.ble lo x then (bif Nat.blt x hi then false else noneIn lo hi xs) else noneIn lo hi xs

def dstOf (r : Rec) : List Nat := match r.dst with
  | some d => [d]
  | none => []

/-- two operations that may come in either order -/
def apart2 (a b : Rec) : Bool :=
  none2 a.ts (b.R ++ b.ts) && none2 b.ts (a.R ++ a.ts) && noneIn a.lo a.hi (b.R ++ b.ts) && noneIn b.lo b.hi (a.R ++ a.ts) && none2 (dstOf a) (b.us ++ dstOf b) && none2 (dstOf b) a.us

/-- record r, number j, against those before it -/
def apartAll (r : Rec) : Nat → List Rec → Bool
  | _, [] => true
  | j, q :: rs => bif memN (j - 1) r.bef then apartAll r (j - 1) rs else bif apart2 q r then apartAll r (j - 1) rs else false

def predsOk (j : Nat) : List Nat → Bool
  | [] => true
  | p :: ps => bif Nat.blt p j then predsOk j ps else false

def runD (C : Ctx) (K : FuncId → List Ctr) (nt N : Nat) (all : Array Oper) (R : Type) : List Oper → Nat → State → Tr → List Rec → (State → Tr → Option R) → Option R
  | [], _, σ, tr, rs, k => k σ tr
  | o :: os, j, σ, tr, rs, k =>
    let bef := befOf rs j (preds o)
    let fin := fun (σ : State) (tr : Tr) (Rd : List Nat) (out : Out) (ts : List Nat) =>
      let r : Rec := ⟨usOf all o, o.dst, Rd, ts, σ.nx, out.st.nx, bef⟩
      bif (predsOk j (preds o) && allIn Rd ts && Nat.ble σ.nx out.st.nx && Nat.ble σ.ck out.st.ck && effOk Rd σ.nx out.st.nx σ.ck out.st.ck out.st (ts ++ fromTo σ.nx (out.st.nx - σ.nx)) && apartAll r j rs) then (match o.dst with
        | some d => bif Nat.blt d nt then runD C K nt N all R os (j + 1) { merge σ σ.nx ts out.st with sl := upd σ.sl d out.v } ⟨d :: tr.ws, ts ++ tr.ts⟩ (r :: rs) k else none
        | none => runD C K nt N all R os (j + 1) (merge σ σ.nx ts out.st) ⟨tr.ws, ts ++ tr.ts⟩ (r :: rs) k) else none
    let go := fun (σ : State) (tr : Tr) => match stepT C K N (restr (usOf all o) (readsOf σ (usOf all o)) σ) o.op with
      | none => none
      | some (.plain ck out, ts) => bif ck then fin σ tr (readsOf σ (usOf all o)) out ts else none
      | some (.call _ m f, ts) => m.bind fun x => fin σ tr (readsOf σ (usOf all o)) (f x) ts
    match o.guard with
    | none => go σ tr
    | some (jg, q) => match (all[jg]?).bind (·.dst) with
      | none => none
      | some d => match σ.sl d with
        | .sv (.lf (.sc (.bool b))) =>
          bif b then (match q with
            | true => go (setLit σ d true) tr
            | false => fin (setLit σ d true) tr [] ⟨.no, setLit σ d true⟩ [])
          else (match q with
            | false => go (setLit σ d false) tr
            | true => fin (setLit σ d false) tr [] ⟨.no, setLit σ d false⟩ [])
        | .no => fin σ tr [] ⟨.no, σ⟩ []
        | _ => none
/-- what stands for sure behind such a part -/
def segB (h : SegH) (σ : State) : State := clear h.L.all (killAll (deadIds σ h.dead) σ)

/-- a part of the code that ends in one way, behind which only what its hint names is known -/
def seg (h : Option SegH) (rn : (R : Type) → State → Tr → (Ex → State → Tr → Option R) → Option R) (R : Type) (σ : State) (tr : Tr) (k : Ex → State → Tr → Option R) : Option R :=
  match h with
  | none => rn R σ tr k
  | some h =>
    match h.out with
    | false => (rn (den (envTy h.L.vs)) σ ⟨[], []⟩ fun ex σ' tr' => match ex with
        | .normal => (abs h.L.vs σ σ').bind fun q => bif (Tr.add tr' ⟨[], q.2.2⟩).ok h.L (segB h σ) then some q.1 else none
        | _ => none).bind fun e => k .normal (con h.L.vs e σ (segB h σ)) ⟨tr.ws ++ h.L.all, tr.ts ++ deadIds σ h.dead⟩
    | true => (rn (Sum R (den (envTy h.L.vs))) σ ⟨[], []⟩ fun ex σ' tr' => match ex with
        | .normal => (abs h.L.vs σ σ').bind fun q => bif (Tr.add tr' ⟨[], q.2.2⟩).ok h.L (segB h σ) then some (.inr q.1) else none
        | ex => (k ex σ' (tr.add tr')).bind fun r => some (.inl r)).bind fun s => match s with
          | .inl r => some r
          | .inr e => k .normal (con h.L.vs e σ (segB h σ)) ⟨tr.ws ++ h.L.all, tr.ts ++ deadIds σ h.dead⟩

def run (C : Ctx) (K : FuncId → List Ctr) (H : Hints) (nt N : Nat) : Code → (R : Type) → State → Tr → (Ex → State → Tr → Option R) → Option R
  | .skip, _, σ, tr, k => k .normal σ tr
  | .region id ops false, R, σ, tr, k => seg (H.rgn id) (fun R σ tr k => runOps C K nt N ops R ops.toList σ tr (k .normal)) R σ tr k
  | .region id ops true, R, σ, tr, k => seg (H.rgn id) (fun R σ tr k => runD C K nt N ops R ops.toList 0 σ tr [] (k .normal)) R σ tr k
  | .seq a b, R, σ, tr, k => run C K H nt N a R σ tr fun ex σ' tr' => match ex with
    | .normal => run C K H nt N b R σ' tr' k
    | ex => k ex σ' tr'
  | .cond c a b, R, σ, tr, k => seg (H.cnd (firstC a b)) (fun R σ tr k => match ev σ c with
    | .sv (.lf (.sc (.bool q))) => bif q then run C K H nt N a R σ tr k else run C K H nt N b R σ tr k
    | _ => none) R σ tr k
  | .block id c, R, σ, tr, k => seg (H.blk id) (fun R σ tr k => run C K H nt N c R σ tr fun ex σ' tr' => match ex with
    | .exit j => bif Nat.beq j id then k .normal σ' tr' else k (.exit j) σ' tr'
    | ex => k ex σ' tr') R σ tr k
  | .loop c, R, σ, tr, k => match H.loop (first c) with
    | none => none
    | some L => (abs L.vs σ σ).bind fun p =>
        iter N (fun self e => run C K H nt N c R (con L.vs e σ (clear L.all p.2.1)) ⟨[], []⟩ fun ex σ' tr' => match ex with
          | .normal => (abs L.vs σ σ').bind fun q => bif (Tr.add tr' ⟨[], q.2.2⟩).ok L (clear L.all p.2.1) then self q.1 else none
          | ex => k ex σ' ⟨tr.ws ++ (L.all ++ tr'.ws), tr.ts ++ (p.2.2 ++ tr'.ts)⟩) p.1
  | .exit id, _, σ, tr, k => k (.exit id) σ tr
  | .ret, _, σ, tr, k => k .ret σ tr
  | _, _, _, _, _ => none
end Go.Vf
