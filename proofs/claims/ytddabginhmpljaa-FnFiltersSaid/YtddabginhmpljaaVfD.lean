/- One operation, carried out on the state: plain ones. -/
import Derived.Test.YtddabginhmpljaaVfC
import Derived.WalkKit
namespace Go.Vf
set_option linter.unusedVariables false
set_option linter.unusedSimpArgs false

/-- what is known of types: is it a struct, its kind; a struct's fields; a slice's element type; a struct that is compared cell by cell -/
structure Ctx where
  ty : TypeId → Option (Bool × Ty)
  fld : TypeId → Nat → Option (Nat × TypeId)
  el : TypeId → Option TypeId
  eq : TypeId → Bool
  src : TypeId → Bool
  cut : Nat → Bool

structure Out where
  v : AV
  st : State

/-- what an operation comes to: under a condition, or behind a call's data -/
inductive SR where
  | plain (ck : Bool) (o : Out)
  | call (T : Ty) (m : Option (den T)) (f : den T → Out)

def SR.gives : SR → Out → Prop
  | .plain ck o, out => ck = true ∧ out = o
  | .call T m f, out => ∃ x, m = some x ∧ out = f x

def ofConst : Value → AV
  | .int k n => .sv (.lf (.sc (.int k n)))
  | .bool b => .sv (.lf (.sc (.bool b)))
  | .string s => .sv (.lf (.sc (.string s)))
  | .slice none 0 0 => .sv (.lf .nil)
  | .pointer none => .sv (.lf .nilp)
  | _ => .undef

def ev (σ : State) : Operand → AV
  | .tmp t => σ.sl t
  | .const v => ofConst v
  | .func f => .fn f []
  | .global _ => .undef

def SV.leaves : SV → List Lf
  | .lf l => [l]
  | .agg ls => ls

def pack (g : Bool) (ls : List Lf) : Option SV :=
  match g with
  | true => some (.agg ls)
  | false => match ls with
    | [l] => some (.lf l)
    | _ => none

def zeroL : Ty → List Lf
  | .int k => [.sc (.int k 0)]
  | .bool => [.sc (.bool false)]
  | .str => [.sc (.string ByteArray.empty)]
  | .unit => []
  | .pair a b => zeroL a ++ zeroL b
  | .sl _ _ => [.nil]

/-- the part of a kind at a cell -/
def getAt : (T : Ty) → den T → Nat → (U : Ty) → Option (den U)
  | .pair a b, x, k, U => if h : Ty.pair a b = U then (if k = 0 then some (h ▸ x) else none) else if k < size a then getAt a x.1 k U else getAt b x.2 (k - size a) U
  | T, x, k, U => if h : T = U then (if k = 0 then some (h ▸ x) else none) else none

def putAt : (T : Ty) → den T → Nat → (U : Ty) → den U → Option (den T)
  | .pair a b, x, k, U, y => if h : U = Ty.pair a b then (if k = 0 then some (h ▸ y) else none) else if k < size a then (putAt a x.1 k U y).bind fun z => some (z, x.2) else (putAt b x.2 (k - size a) U y).bind fun z => some (x.1, z)
  | T, x, k, U, y => if h : U = T then (if k = 0 then some (h ▸ y) else none) else none

/-- the kind of what is read out of an entry -/
def partKd (i : Nat) (ver : Nat) : Kd → Kd
  | .own | .own1 => .view i ver
  | k => k

def bitsOf (op : BinOp) (k : IntKind) (a b : Int) : Option Int :=
  let x := BitVec.ofInt k.bits a
  let y := BitVec.ofInt k.bits b
  match op with
  | .and => some (k.wrap (x &&& y).toNat)
  | .or => some (k.wrap (x ||| y).toNat)
  | .xor => some (k.wrap (x ^^^ y).toNat)
  | .andNot => some (k.wrap (x &&& ~~~y).toNat)
  | _ => none

def shOf (k : IntKind) (b : Int) : Nat := min b.toNat k.bits

def scBin (op : BinOp) : Value → Value → Option (Bool × Value)
  | .int k a, .int k' b =>
    match op with
    | .shl => some (decide (0 ≤ b), .int k (k.wrap (a * 2 ^ shOf k b)))
    | .shr => some (decide (0 ≤ b), .int k (a.fdiv (2 ^ shOf k b)))
    | _ => if k = k' then
      match op with
      | .add => some (true, .int k (k.wrap (a + b)))
      | .sub => some (true, .int k (k.wrap (a - b)))
      | .mul => some (true, .int k (k.wrap (a * b)))
      | .quo => some (b != 0, .int k (k.wrap (a.tdiv b)))
      | .rem => some (b != 0, .int k (a.tmod b))
      | .eql => some (true, .bool (a == b))
      | .neq => some (true, .bool (a != b))
      | .lss => some (true, .bool (decide (a < b)))
      | .leq => some (true, .bool (decide (a ≤ b)))
      | .gtr => some (true, .bool (decide (a > b)))
      | .geq => some (true, .bool (decide (a ≥ b)))
      | op => (bitsOf op k a b).bind fun n => some (true, .int k n)
      else none
  | .string a, .string b =>
    match op with
    | .add => some (decide (a.size + b.size ≤ 9223372036854775807), .string (a ++ b))
    | .eql => some (true, .bool (a.toList == b.toList))
    | .neq => some (true, .bool (!(a.toList == b.toList)))
    | _ => none
  | _, _ => none

def boolBin (op : BinOp) (a b : Bool) : Option Bool :=
  match op with
  | .eql => some (a == b)
  | .neq => some (!(a == b))
  | _ => none

def scUn (op : UnOp) : Value → Option Value
  | .int k n => match op with
    | .neg => some (.int k (k.wrap (0 - n)))
    | .xor => (bitsOf .xor k (if k.signed then -1 else k.max) n).bind fun m => some (.int k m)
    | _ => none
  | .bool b => match op with
    | .not => some (.bool (!b))
    | _ => none
  | _ => none

/-- byte i of a text -/
def bt (s : ByteArray) (i : Int) : Int := ((s.data.getD i.toNat 0).toNat : Int)

def eqI (a b : Int) : Bool := a == b
def eqB (a b : Bool) : Bool := a == b
def eqS (a b : ByteArray) : Bool := a.toList == b.toList

def eqD : (T : Ty) → den T → den T → Bool
  | .int _, a, b => eqI a b
  | .bool, a, b => eqB a b
  | .str, a, b => eqS a b
  | .unit, _, _ => true
  | .pair A B, a, b => eqD A a.1 b.1 && eqD B a.2 b.2
  | .sl _ _, _, _ => false

def partsL (C : Ctx) (σ : State) (t : TypeId) : List (Nat × Operand) → List Lf → Option (List Lf)
  | [], ls => some ls
  | (i, x) :: ps, ls => match C.fld t i, ev σ x with
    | some (off, f), .sv s => match C.ty f with
      | some (_, F) => if s.leaves.length = size F ∧ off + size F ≤ ls.length then partsL C σ t ps (ls.take off ++ s.leaves ++ ls.drop (off + size F)) else none
      | none => none
    | _, _ => none

/-- the elements of a literal, one after the other -/
def takeAll (T : Ty) : Nat → List (Nat × AV) → State → Option (List (den T) × State)
  | _, [], σ => some ([], σ)
  | k, (i, .sv s) :: ps, σ => if i = k ∧ s.leaves.length = size T then (take .own T s.leaves σ).bind fun y => (takeAll T (k + 1) ps y.2.2).bind fun z => some (y.1 :: z.1, z.2) else none
  | _, _, _ => none

def newEnt (σ : State) (e : Ent) : State := { σ with reg := upd σ.reg σ.nx e, nx := σ.nx + 1, ck := σ.ck + 1 }

def sameOpd : Operand → Operand → Bool
  | .tmp a, .tmp b => Nat.beq a b
  | .const (.int .i64 a), .const (.int .i64 b) => a == b
  | _, _ => false

def opdInt (σ : State) (x : Operand) : Option Int := match ev σ x with
  | .sv (.lf (.sc (.int _ n))) => some n
  | _ => none

def optInt (σ : State) : Option Operand → Option (Option Int)
  | none => some none
  | some x => (opdInt σ x).map some

/-- the bounds of a cut: the condition, from where, to where -/
def cutOf (len : Int) : Option Int → Option Int → Bool × Int × Int
  | none, none => (true, 0, len)
  | some l, none => (decide (0 ≤ l) && decide (l ≤ len), l, len)
  | none, some h => (decide (0 ≤ h) && decide (h ≤ len), 0, h)
  | some l, some h => (decide (0 ≤ l) && (decide (l ≤ h) && decide (h ≤ len)), l, h)

def step (C : Ctx) (σ : State) : Op → Option SR
  | .move x | .assign x => some (.plain true ⟨ev σ x, σ⟩)
  | .pick c a b => match ev σ c with
    | .sv (.lf (.sc (.bool q))) => match ev σ a, ev σ b with
      | .sv (.lf (.sc (.bool x))), .sv (.lf (.sc (.bool y))) => some (.plain true ⟨.sv (.lf (.sc (.bool (bif q then x else y)))), σ⟩)
      | x, y => some (.plain true ⟨bif q then x else y, σ⟩)
    | _ => none
  | .alloc t => match C.ty t with
    | some (_, T) => some (.plain true ⟨.sv (.lf (.ptr σ.nx 0)), newEnt σ (.box t (zeroL T))⟩)
    | none => none
  | .box t x => match C.ty t, ev σ x with
    | some (_, T), .sv s => if s.leaves.length = size T then some (.plain true ⟨.sv (.lf (.ptr σ.nx 0)), newEnt σ (.box t s.leaves)⟩) else none
    | _, _ => none
  | .build t ps => match C.ty t with
    | some (true, T) => (partsL C σ t ps.toList (zeroL T)).bind fun ls => some (.plain true ⟨.sv (.agg ls), σ⟩)
    | _ => none
  | .buildSlice t n ps => match C.el t with
    | some e => match C.ty e with
      | some (_, T) => if ps.size = n ∧ n * size T ≤ 16777216 then (takeAll T 0 (ps.toList.map fun p => (p.1, ev σ p.2)) σ).bind fun y => some (.plain true ⟨.sv (.lf (.ref y.2.nx)), newEnt y.2 (.lst .own e T y.1 y.2.ck)⟩) else none
      | none => none
    | none => none
  | .load t x => match C.ty t with
    | some (g, U) => match ev σ x with
      | .sv (.lf (.ptr i k)) => match σ.reg i with
        | .box _ cells => if k + size U ≤ cells.length then (pack g ((cells.drop k).take (size U))).bind fun s => some (.plain true ⟨.sv s, σ⟩) else none
        | _ => none
      | .sv (.lf (.el i j sz k)) => match σ.reg i with
        | .lst kd t' e xs ver => if liveB σ.reg (.lst kd t' e xs ver) ∧ sz = size e then
            (getAt e (xs.getD j (zeroD e)) k U).bind fun y => (pack g (give (partKd i ver kd) U y σ).1).bind fun s => some (.plain true ⟨.sv s, (give (partKd i ver kd) U y σ).2⟩)
          else none
        | _ => none
      | _ => none
    | none => none
  | .store t x y => match C.ty t with
    | some (g, U) => match ev σ x, ev σ y with
      | .sv (.lf (.ptr i k)), .sv s => match σ.reg i with
        | .box t' cells => if k + size U ≤ cells.length ∧ s.leaves.length = size U then some (.plain true ⟨.undef, { σ with reg := upd σ.reg i (.box t' (cells.take k ++ s.leaves ++ cells.drop (k + size U))) }⟩) else none
        | _ => none
      | .sv (.lf (.el i j sz k)), .sv s => if s.leaves.length = size U then (take .own U s.leaves σ).bind fun q => match q.2.2.reg i with
        | .lst .own t' e xs ver => if sz = size e then
            (putAt e (xs.getD j (zeroD e)) k U q.1).bind fun z => some (.plain true ⟨.undef, { q.2.2 with reg := upd q.2.2.reg i (.lst .own t' e (xs.set j z) q.2.2.ck), ck := q.2.2.ck + 1 }⟩)
          else none
        | _ => none else none
      | _, _ => none
    | none => none
  | .nilCheck x => match ev σ x with
    | .sv (.lf (.ptr i k)) => some (.plain true ⟨.sv (.lf (.ptr i k)), σ⟩)
    | .sv (.lf (.el i j sz k)) => some (.plain true ⟨.sv (.lf (.el i j sz k)), σ⟩)
    | _ => none
  | .binOp op t x y _ => match ev σ x, ev σ y with
    | .sv (.lf (.sc (.bool a))), .sv (.lf (.sc (.bool b))) => match C.ty t with
      | some (false, .bool) => (boolBin op a b).bind fun q => some (.plain true ⟨.sv (.lf (.sc (.bool q))), σ⟩)
      | _ => none
    | .sv (.lf (.sc a)), .sv (.lf (.sc b)) => (scBin op a b).bind fun q => some (.plain q.1 ⟨.sv (.lf (.sc q.2)), σ⟩)
    | .sv (.agg ls), .sv (.agg ls') => if C.eq t then match C.ty t with
      | some (true, T) => (take .ro T ls σ).bind fun p => (take .ro T ls' σ).bind fun q =>
          if p.2.1.isEmpty ∧ q.2.1.isEmpty then (match op with
          | .eql => some (.plain true ⟨.sv (.lf (.sc (.bool (eqD T p.1 q.1)))), σ⟩)
          | .neq => some (.plain true ⟨.sv (.lf (.sc (.bool (!(eqD T p.1 q.1))))), σ⟩)
          | _ => none) else none
      | _ => none else none
    | _, _ => none
  | .unOp op _ x => match ev σ x with
    | .sv (.lf (.sc a)) => (scUn op a).bind fun v => some (.plain true ⟨.sv (.lf (.sc v)), σ⟩)
    | _ => none
  | .convert s d x => if C.src s then match ev σ x, C.ty d with
    | .sv (.lf (.sc (.int _ n))), some (false, .int k) => some (.plain true ⟨.sv (.lf (.sc (.int k (k.wrap n)))), σ⟩)
    | .sv (.lf (.sc (.string b))), some (false, .str) => some (.plain true ⟨.sv (.lf (.sc (.string b))), σ⟩)
    | .sv (.lf (.ref i)), some (false, .str) => match C.el s with
      | some e => match C.ty e with
        | some (false, .int .u8) => (take .ro (.sl e (.int .u8)) [.ref i] σ).bind fun p => some (.plain true ⟨.sv (.lf (.sc (.string (strOfNums p.1)))), σ⟩)
        | _ => none
      | none => none
    | _, _ => none else none
  | .makeFunc (.func f) first caps => if first.size = 0 then
      (caps.toList.mapM fun x => match ev σ x with | .sv s => some s | _ => none).bind fun ss => some (.plain true ⟨.fn f ss, σ⟩) else none
  | .makeSlice t l c => match C.el t, opdInt σ l with
    | some e, some n => match C.ty e with
      | some (_, T) => if sameOpd l c then some (.plain (decide (0 ≤ n) && decide (n ≤ 1099511627776)) ⟨.sv (.lf (.ref σ.nx)), newEnt σ (.lst .own e T (List.replicate n.toNat (zeroD T)) σ.ck)⟩) else none
      | none => none
    | _, _ => none
  | .slice t x lo hi none => match optInt σ lo, optInt σ hi with
    | some lo, some hi => match ev σ x with
      | .sv (.lf (.sc (.string s))) => if C.ty t = some (false, .str) then some (.plain (cutOf s.size lo hi).1 ⟨.sv (.lf (.sc (.string (s.extract (cutOf s.size lo hi).2.1.toNat (cutOf s.size lo hi).2.2.toNat)))), σ⟩) else none
      | .sv (.lf (.ref i)) => match σ.reg i with
        | .lst kd t' e xs ver => if liveB σ.reg (.lst kd t' e xs ver) ∧ C.el t = some t' ∧ (C.ty t').map (·.2) = some e then
            some (.plain (cutOf xs.length lo hi).1 ⟨.sv (.lf (.ref σ.nx)), newEnt σ (.lst (partKd i ver kd) t' e ((xs.take (cutOf xs.length lo hi).2.2.toNat).drop (cutOf xs.length lo hi).2.1.toNat) σ.ck)⟩) else none
        | _ => none
      | _ => none
    | _, _ => none
  | .fieldAddr t x f => match C.fld t f, ev σ x with
    | some (off, _), .sv (.lf (.ptr i k)) => some (.plain true ⟨.sv (.lf (.ptr i (k + off))), σ⟩)
    | some (off, _), .sv (.lf (.el i j sz k)) => some (.plain true ⟨.sv (.lf (.el i j sz (k + off))), σ⟩)
    | _, _ => none
  | .field t x f => match C.fld t f, ev σ x with
    | some (off, tf), .sv (.agg ls) => match C.ty tf with
      | some (g, F) => if off + size F ≤ ls.length then (pack g ((ls.drop off).take (size F))).bind fun s => some (.plain true ⟨.sv s, σ⟩) else none
      | none => none
    | _, _ => none
  | .indexAddr t x ix => match ev σ x, opdInt σ ix with
    | .sv (.lf (.ref i)), some n => match σ.reg i, C.el t with
      | .lst kd t' e xs ver, some t2 => if liveB σ.reg (.lst kd t' e xs ver) ∧ t2 = t' ∧ (C.ty t').map (·.2) = some e then
          some (.plain (decide (0 ≤ n) && decide (n < xs.length)) ⟨.sv (.lf (.el i n.toNat (size e) 0)), σ⟩) else none
      | _, _ => none
    | _, _ => none
  | .index t x ix => match ev σ x, opdInt σ ix with
    | .sv (.lf (.sc (.string s))), some n => if C.ty t = some (false, .str) then some (.plain (decide (0 ≤ n) && decide (n < s.size)) ⟨.sv (.lf (.sc (.int .u8 (bt s n)))), σ⟩) else none
    | _, _ => none
  | .extract x ix => match ev σ x with
    | .tup ss => (ss[ix]?).bind fun s => some (.plain true ⟨.sv s, σ⟩)
    | _ => none
  | _ => none

end Go.Vf
