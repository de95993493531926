/- Contracts of functions, and what a call of one does. -/
import Derived.Test.YtddabginhmpljaaVfJ
namespace Go.Vf
set_option linter.unusedVariables false
set_option linter.unusedSimpArgs false

/-- variables that a call reads and writes through their addresses -/
abbrev Boxes := List (TypeId × Ty)

/-- what a parameter is: a value (p: whose its slices are; g: is it a struct); the address of a variable; a fixed function with the addresses of the variables that it holds; the same, only read; a value whose slices are the call's own and stay where they are; the address of a variable whose slices are only read and stay as they are -/
inductive PT where
  | val (p : Pm) (g : Bool) (T : Ty)
  | box (t : TypeId) (T : Ty)
  | fn (f : FuncId) (caps : Boxes)
  | rvar (t : TypeId) (T : Ty)
  | rfn (f : FuncId) (caps : Boxes)
  | io (g : Bool) (T : Ty)
  | sbox (t : TypeId) (T : Ty)

def capsT : Boxes → Ty
  | [] => .unit
  | b :: bs => .pair b.2 (capsT bs)

def PT.ownP : PT → Ty
  | .val .ro _ _ => .unit
  | .val _ _ T => T
  | .box t T => capsT [(t, T)]
  | .fn _ caps => capsT caps
  | .rvar _ _ => .unit
  | .rfn _ _ => .unit
  | .io _ T => T
  | .sbox _ _ => .unit

def PT.roP : PT → Ty
  | .sbox _ T => T
  | .val .ro _ T => T
  | .rvar t T => capsT [(t, T)]
  | .rfn _ caps => capsT caps
  | _ => .unit

def PT.boxes : PT → Boxes
  | .val _ _ _ => []
  | .box t T => [(t, T)]
  | .fn _ caps => caps
  | .rvar _ _ => []
  | .rfn _ _ => []
  | .io _ _ => []
  | .sbox _ _ => []

/-- what is told of a parameter behind the call -/
def PT.aft : PT → Ty
  | .io _ T => T
  | .sbox _ T => T
  | p => capsT p.boxes

def PT.bx : (p : PT) → den p.aft → den (capsT p.boxes)
  | .io _ _, _ => ()
  | .sbox _ _, _ => ()
  | .val _ _ _, z => z
  | .box _ _, z => z
  | .fn _ _, z => z
  | .rvar _ _, z => z
  | .rfn _ _, z => z

def ownT : List PT → Ty
  | [] => .unit
  | p :: ps => .pair p.ownP (ownT ps)

def roT : List PT → Ty
  | [] => .unit
  | p :: ps => .pair p.roP (roT ps)

def boxT : List PT → Ty
  | [] => .unit
  | p :: ps => .pair p.aft (boxT ps)

def resT : List (Bool × Ty) → Ty
  | [] => .unit
  | r :: rs => .pair r.2 (resT rs)

structure Ctr where
  ps : List PT
  rs : List (Bool × Ty)
  F : Nat → den (ownT ps) → den (roT ps) → Option (den (.pair (resT rs) (boxT ps)))

/-- the cells of a value -/
def VOk (g : Bool) (v : Value) (cs : List Value) : Prop := match g with
  | true => v = .agg cs.toArray
  | false => cs = [v]

def BoxesOk (w : World) : (bs : Boxes) → List Value → den (capsT bs) → List Nat → Prop
  | [], vs, _, F => vs = [] ∧ F = []
  | b :: bs, vs, x, F => ∃ v vs' blk cs o1 F2, vs = v :: vs' ∧ v = .pointer (some ⟨blk, 0, none⟩) ∧ w.heap[blk]? = some (.cells cs b.1 (0, 0)) ∧ Rd w .own b.2 cs.toList x.1 o1 [] ∧ BoxesOk w bs vs' x.2 F2 ∧ F = (blk :: o1) ++ F2

/-- variables that are only read -/
def RvsOk (w : World) : (bs : Boxes) → List Value → den (capsT bs) → List Nat → Prop
  | [], vs, _, r => vs = [] ∧ r = []
  | b :: bs, vs, y, r => ∃ v vs' ad cs r1 r2, vs = v :: vs' ∧ v = .pointer (some ad) ∧ ad.spot = none ∧ ad.block < w.heap.size ∧ (∀ j u, cs[j]? = some u → w.cell? (ad.add j) = some u) ∧ Rd w .ro b.2 cs y.1 [] r1 ∧ RvsOk w bs vs' y.2 r2 ∧ r = (ad.block :: r1) ++ r2

/-- one argument: its data, the blocks that are the call's, those that are only read -/
def Arg1Ok (w : World) : (p : PT) → Value → den p.ownP → den p.roP → List Nat → List Nat → Prop
  | .val .ro g T, v, _, y, F, r => ∃ cs, VOk g v cs ∧ Rd w .ro T cs y [] r ∧ F = []
  | .val .own g T, v, x, _, F, r => ∃ cs, VOk g v cs ∧ Rd w .own T cs x F r
  | .val .own1 g T, v, x, _, F, r => ∃ cs, VOk g v cs ∧ Rd w .own1 T cs x F r
  | .box t T, v, x, _, F, r => BoxesOk w [(t, T)] [v] x F ∧ r = []
  | .fn f caps, v, x, _, F, r => ∃ vs, v = .func (.func f) #[] vs ∧ BoxesOk w caps vs.toList x F ∧ r = []
  | .rvar t T, v, _, y, F, r => RvsOk w [(t, T)] [v] y r ∧ F = []
  | .rfn f caps, v, _, y, F, r => ∃ vs, v = .func (.func f) #[] vs ∧ RvsOk w caps vs.toList y r ∧ F = []
  | .io g T, v, x, _, F, r => ∃ cs, VOk g v cs ∧ Rd w .own T cs x F [] ∧ r = []
  | .sbox t T, v, _, y, F, r => ∃ blk cs, v = .pointer (some ⟨blk, 0, none⟩) ∧ w.heap[blk]? = some (.cells cs t (0, 0)) ∧ Rd w .ro T cs.toList y [] r ∧ F = [blk]

def ArgsOk (w : World) : (ps : List PT) → List Value → den (ownT ps) → den (roT ps) → List Nat → List Nat → Prop
  | [], vs, _, _, F, r => vs = [] ∧ F = [] ∧ r = []
  | p :: ps, vs, x, y, F, r => ∃ v vs' F1 F2 r1 r2, vs = v :: vs' ∧ Arg1Ok w p v x.1 y.1 F1 r1 ∧ ArgsOk w ps vs' x.2 y.2 F2 r2 ∧ F = F1 ++ F2 ∧ r = r1 ++ r2

def ResOk (w : World) : (rs : List (Bool × Ty)) → List Value → den (resT rs) → List Nat → Prop
  | [], vs, _, o => vs = [] ∧ o = []
  | r :: rs, vs, z, o => ∃ v vs' cs o1 o2, vs = v :: vs' ∧ VOk r.1 v cs ∧ Rd w .own r.2 cs z.1 o1 [] ∧ ResOk w rs vs' z.2 o2 ∧ o = o1 ++ o2

/-- the values behind which an argument's variables lie -/
def ptrsOf : PT → Value → List Value
  | .val _ _ _, _ => []
  | .box _ _, v => [v]
  | .fn _ _, .func _ _ vs => vs.toList
  | .fn _ _, _ => []
  | .rvar _ _, _ => []
  | .rfn _ _, _ => []
  | .io _ _, _ => []
  | .sbox _ _, _ => []

def AfterOk (w : World) : (ps : List PT) → List Value → den (boxT ps) → List Nat → Prop
  | [], vs, _, o => o = []
  | p :: ps, vs, z, o => ∃ v vs' o1 o2, vs = v :: vs' ∧ BoxesOk w p.boxes (ptrsOf p v) (p.bx z.1) o1 ∧ AfterOk w ps vs' z.2 o2 ∧ o = o1 ++ o2

/-- the values whose slices stay where they are, behind the call -/
def Keep : (T : Ty) → List Value → List Value → den T → Prop
  | .int k, c, d, z => c.length = 1 ∧ d = [.int k z]
  | .bool, c, d, z => c.length = 1 ∧ d = [.bool z]
  | .str, c, d, z => c.length = 1 ∧ d = [.string z]
  | .unit, c, d, _ => c = [] ∧ d = []
  | .pair a b, c, d, z => ∃ c1 c2 d1 d2, c = c1 ++ c2 ∧ d = d1 ++ d2 ∧ Keep a c1 d1 z.1 ∧ Keep b c2 d2 z.2
  | .sl _ _, c, d, _ => c.length = 1 ∧ d = c

def Io1Ok (w0 w : World) : (p : PT) → Value → den p.aft → List Nat → Prop
  | .sbox t T, v, z, o => ∃ blk cs cs', v = .pointer (some ⟨blk, 0, none⟩) ∧ w0.heap[blk]? = some (.cells cs t (0, 0)) ∧ w.heap[blk]? = some (.cells cs' t (0, 0)) ∧ Keep T cs.toList cs'.toList z ∧ o = [blk]
  | .io g T, v, z, o => ∃ cs, VOk g v cs ∧ Rd w .own T cs z o []
  | .val _ _ _, _, _, o => o = []
  | .box _ _, _, _, o => o = []
  | .fn _ _, _, _, o => o = []
  | .rvar _ _, _, _, o => o = []
  | .rfn _ _, _, _, o => o = []

def IosOk (w0 w : World) : (ps : List PT) → List Value → den (boxT ps) → List Nat → Prop
  | [], vs, _, o => o = []
  | p :: ps, vs, z, o => ∃ v vs' o1 o2, vs = v :: vs' ∧ Io1Ok w0 w p v z.1 o1 ∧ IosOk w0 w ps vs' z.2 o2 ∧ o = o1 ++ o2

/-- a function's result values as one -/
def packV (vs : List Value) : Value := if h : vs.toArray.size = 1 then vs.toArray[0] else .tuple vs.toArray

def Contract (P : Program) (f : FuncId) (c : Ctr) : Prop :=
  (∃ fn, P.funcs[f]? = some fn ∧ (fn.name == "runtime.NumGoroutine") = false ∧ fn.body.isNone = false) ∧
  ∀ (N : Nat) (w : World) (args : Array Value) (x : den (ownT c.ps)) (y : den (roT c.ps)) (z : den (.pair (resT c.rs) (boxT c.ps))) (F r : List Nat),
    ArgsOk w c.ps args.toList x y F r → F.Nodup → (∀ b, b ∈ r → b ∉ F) → c.F N x y = some z →
    Calls P f args w fun e w' => ∃ vs o1 o2 o3, e = .returned (packV vs) ∧ Frame w F w' ∧ ResOk w' c.rs vs z.1 o1 ∧ AfterOk w' c.ps args.toList z.2 o2 ∧ IosOk w w' c.ps args.toList z.2 o3 ∧ (o1 ++ o2 ++ o3).Nodup ∧ ∀ b, b ∈ o1 ++ o2 ++ o3 → b ∈ F ∨ w.heap.size ≤ b

/-! ### The caller's side -/

def shp : Bool → SV → Bool
  | true, .agg _ => true
  | false, .lf _ => true
  | _, _ => false

def takeBoxes : (bs : Boxes) → List SV → State → Option (den (capsT bs) × State × List Nat)
  | [], [], σ => some ((), σ, [])
  | b :: bs, .lf (.ptr i 0) :: ss, σ => match σ.reg i with
    | .box t ls => if t = b.1 then (take .own b.2 ls { σ with reg := upd σ.reg i .dead }).bind fun p =>
        if p.2.1.isEmpty then (takeBoxes bs ss p.2.2).bind fun q => some ((p.1, q.1), q.2.1, i :: refs ls ++ q.2.2) else none else none
    | _ => none
  | _, _, _ => none

def ptrsS : PT → AV → List SV
  | .box _ _, .sv s => [s]
  | .fn _ _, .fn _ ss => ss
  | _, _ => []

def takeV (p : Pm) (g : Bool) (T : Ty) (s : SV) (σ : State) : Option (den T × State × List Nat) :=
  if shp g s then (take p T s.leaves σ).bind fun q => if q.2.1.isEmpty then some (q.1, q.2.2, refs s.leaves) else none else none

def onSv {α : Type} (av : AV) (f : SV → Option α) : Option α := match av with
  | .sv s => f s
  | _ => none

def onFn {α : Type} (av : AV) (f : FuncId → List SV → Option α) : Option α := match av with
  | .fn g ss => f g ss
  | _ => none

def take1 (p : PT) (av : AV) (σ : State) : Option (den p.ownP × State × List Nat) := match p with
  | .val .ro g T => some ((), σ, [])
  | .val .own g T => onSv av fun s => takeV .own g T s σ
  | .val .own1 g T => onSv av fun s => takeV .own1 g T s σ
  | .box t T => onSv av fun s => takeBoxes [(t, T)] [s] σ
  | .fn f caps => onFn av fun f' ss => if f' = f then takeBoxes caps ss σ else none
  | .rvar _ _ => some ((), σ, [])
  | .rfn _ _ => some ((), σ, [])
  | .io g T => onSv av fun s => takeV .own g T s σ
  | .sbox t T => match av with
    | .sv (.lf (.ptr i 0)) => match σ.reg i with
      | .box t' _ => if t' = t then some ((), { σ with reg := upd σ.reg i .dead }, [i]) else none
      | _ => none
    | _ => none

def roVars : (bs : Boxes) → List SV → State → Option (den (capsT bs))
  | [], [], _ => some ()
  | b :: bs, .lf (.ptr i 0) :: ss, σ => match σ.reg i with
    | .box t ls => if t = b.1 then (take .ro b.2 ls σ).bind fun p => if p.2.1.isEmpty then (roVars bs ss σ).bind fun q => some (p.1, q) else none else none
    | _ => none
  | b :: bs, .lf (.el i j sz 0) :: ss, σ => match σ.reg i with
    | .lst kd t e xs ver => if h : e = b.2 then (if liveB σ.reg (.lst kd t e xs ver) ∧ sz = size e then (roVars bs ss σ).bind fun q => some (h ▸ xs.getD j (zeroD e), q) else none) else none
    | _ => none
  | _, _, _ => none

def roV (g : Bool) (T : Ty) (s : SV) (σ : State) : Option (den T) :=
  if shp g s then (take .ro T s.leaves σ).bind fun q => if q.2.1.isEmpty then some q.1 else none else none

def ro1 (p : PT) (av : AV) (σ0 σ : State) : Option (den p.roP) := match p with
  | .sbox t T => match av with
    | .sv (.lf (.ptr i 0)) => match σ0.reg i with
      | .box _ ls => (take .ro T ls σ).bind fun q => if q.2.1.isEmpty then some q.1 else none
      | _ => none
    | _ => none
  | .val .ro g T => onSv av fun s => roV g T s σ
  | .val .own _ _ => some ()
  | .val .own1 _ _ => some ()
  | .box _ _ => some ()
  | .fn _ _ => some ()
  | .rvar t T => onSv av fun s => roVars [(t, T)] [s] σ
  | .rfn f caps => onFn av fun f' ss => if f' = f then roVars caps ss σ else none
  | .io _ _ => some ()

def takeArgs : (ps : List PT) → List AV → State → Option (den (ownT ps) × State × List Nat)
  | [], [], σ => some ((), σ, [])
  | p :: ps, a :: as, σ => (take1 p a σ).bind fun x => (takeArgs ps as x.2.1).bind fun q => some ((x.1, q.1), q.2.1, x.2.2 ++ q.2.2)
  | _, _, _ => none

def roArgs : (ps : List PT) → List AV → State → State → Option (den (roT ps))
  | [], [], _, σ => some ()
  | p :: ps, a :: as, σ0, σ => (ro1 p a σ0 σ).bind fun x => (roArgs ps as σ0 σ).bind fun q => some (x, q)
  | _, _, _, _ => none

def giveRes : (rs : List (Bool × Ty)) → den (resT rs) → State → Option (List SV × State)
  | [], _, σ => some ([], σ)
  | r :: rs, z, σ => (pack r.1 (give .own r.2 z.1 σ).1).bind fun s => (giveRes rs z.2 (give .own r.2 z.1 σ).2).bind fun q => some (s :: q.1, q.2)

def giveBoxes : (bs : Boxes) → List SV → den (capsT bs) → State → State
  | b :: bs, .lf (.ptr i _) :: ss, x, σ => giveBoxes bs ss x.2 { (give .own b.2 x.1 σ).2 with reg := upd (give .own b.2 x.1 σ).2.reg i (.box b.1 (give .own b.2 x.1 σ).1) }
  | _, _, _, σ => σ

def giveAfter : (ps : List PT) → List AV → den (boxT ps) → State → State
  | p :: ps, a :: as, z, σ => giveAfter ps as z.2 (giveBoxes p.boxes (ptrsS p a) (p.bx z.1) σ)
  | _, _, _, σ => σ

/-- lists laid anew where they were -/
def giveIO : (T : Ty) → List Lf → den T → State → List Lf × State
  | .pair a b, ls, z, σ => giveIO b (giveIO a ls z.1 σ).1 z.2 (giveIO a ls z.1 σ).2
  | .unit, ls, _, σ => (ls, σ)
  | .sl t e, ls, z, σ => match ls with
    | .ref i :: rest => (rest, match σ.reg i with
      | .dead => { σ with reg := upd σ.reg i (.lst .own t e z σ.ck), ck := σ.ck + 1 }
      | _ => σ)
    | ls => (ls.drop 1, σ)
  | .int _, ls, _, σ => (ls.drop 1, σ)
  | .bool, ls, _, σ => (ls.drop 1, σ)
  | .str, ls, _, σ => (ls.drop 1, σ)

/-- a variable's cells with new scalars -/
def keepL : (T : Ty) → List Lf → den T → List Lf
  | .int k, _, z => [.sc (.int k z)]
  | .bool, _, z => [.sc (.bool z)]
  | .str, _, z => [.sc (.string z)]
  | .unit, _, _ => []
  | .pair a b, ls, z => keepL a (ls.take (size a)) z.1 ++ keepL b (ls.drop (size a)) z.2
  | .sl _ _, ls, _ => ls.take 1

def giveIO1 (p : PT) (a : AV) (z : den p.aft) (σ0 σ : State) : State := match p with
  | .sbox t T => match a with
    | .sv (.lf (.ptr i 0)) => match σ0.reg i with
      | .box _ ls => match σ.reg i with
        | .dead => { σ with reg := upd σ.reg i (.box t (keepL T ls z)) }
        | _ => σ
      | _ => σ
    | _ => σ
  | .io g T => match a with
    | .sv s => if shp g s then (giveIO T s.leaves z σ).2 else σ
    | _ => σ
  | _ => σ

def giveIOs : (ps : List PT) → List AV → den (boxT ps) → State → State → State
  | p :: ps, a :: as, z, σ0, σ => giveIOs ps as z.2 σ0 (giveIO1 p a z.1 σ0 σ)
  | _, _, _, _, σ => σ

def packS : List SV → AV
  | [s] => .sv s
  | ss => .tup ss

def callOut (c : Ctr) (as : List AV) (σ0 σ : State) (z : den (.pair (resT c.rs) (boxT c.ps))) : Out := match giveRes c.rs z.1 σ with
  | some q => ⟨packS q.1, giveIOs c.ps as z.2 σ0 (giveAfter c.ps as z.2 q.2)⟩
  | none => ⟨.undef, σ⟩

/-- a call of a function with a contract -/
def stepC (c : Ctr) (N : Nat) (as : List AV) (σ : State) : Option (SR × List Nat) :=
  (takeArgs c.ps as σ).bind fun p => (roArgs c.ps as σ p.2.1).bind fun y =>
    some (.call (.pair (resT c.rs) (boxT c.ps)) (c.F N p.1 y) (callOut c as σ p.2.1), p.2.2)

section
variable {P : Program} {C : Ctx} {w0 : World} {F0 : List Nat} {n : Nat} {ρ : Nat → RB} {U V : Nat → Prop} {σ : State} {a : Act} {w : World}

/-- blocks that were some entries' own and are nobody's now -/
def Gone (ρ : Nat → RB) (σ σ' : State) (F : List Nat) : Prop := ∀ b, b ∈ F → (∃ j, b ∈ ownB (σ.reg j) (ρ j)) ∧ ∀ j, b ∉ ownB (σ'.reg j) (ρ j)

theorem Gone.app {σ' σ'' : State} {F1 F2 : List Nat} (h1 : Gone ρ σ σ' F1) (l1 : Less ρ σ σ') (h2 : Gone ρ σ' σ'' F2) (l2 : Less ρ σ' σ'') : Gone ρ σ σ'' (F1 ++ F2) := by
  intro b hb
  simp only [List.mem_append] at hb
  rcases hb with hb | hb
  · exact ⟨(h1 b hb).1, fun j hj => (h1 b hb).2 j (l2.own j b hj)⟩
  · obtain ⟨⟨j, hj⟩, h5⟩ := h2 b hb
    exact ⟨⟨j, l1.own j b hj⟩, h5⟩

theorem Gone.nodup {σ' σ'' : State} {F1 F2 : List Nat} (h1 : Gone ρ σ σ' F1) (n1 : F1.Nodup) (h2 : Gone ρ σ' σ'' F2) (n2 : F2.Nodup) : (F1 ++ F2).Nodup :=
  List.nodup_append.2 ⟨n1, n2, fun b hb b' hb' e => by
    subst e
    obtain ⟨j, hj⟩ := (h2 b hb').1
    exact (h1 b hb).2 j hj⟩

theorem takeV_ok {p : Pm} (hp : p.top = true) {g : Bool} {T : Ty} {s : SV} {σ' : State} {x : den T} {ts : List Nat} {v : Value} (hR : Rel w0 F0 n ρ U V σ a w) (h : takeV p g T s σ = some (x, σ', ts)) (hv : SVOk ρ U s v) :
    Rel w0 F0 n ρ U V σ' a w ∧ Less ρ σ σ' ∧ ∃ cs F r, VOk g v cs ∧ Rd w p T cs x F r ∧ F.Nodup ∧ Gone ρ σ σ' F ∧ ∀ b, b ∈ r → ∃ j, b ∈ roB (σ.reg j) (ρ j) := by
  unfold takeV at h
  split at h
  · rename_i hs
    simp only [Option.bind_eq_some_iff] at h
    obtain ⟨⟨y, rest, σ1⟩, h1, h2⟩ := h
    simp only at h2
    split at h2
    · rename_i hr
      cases h2
      have hr' : rest = [] := by simpa using hr
      subst hr'
      obtain ⟨hR1, hL, c1, c2, o, r, hcs, hn, hrd, hnd, ho, hro⟩ := take_own hp hR h1 hv.leaves
      cases hn
      simp only [List.append_nil] at hcs
      refine ⟨hR1, hL, c1, o, r, ?_, hrd, hnd, ho, hro⟩
      cases s with
      | agg ls =>
        cases g with
        | false => simp [shp] at hs
        | true =>
          obtain ⟨cs, rfl, _⟩ := hv
          show Value.agg cs = .agg c1.toArray
          congr 1
          apply Array.ext'
          simpa [Value.cells] using hcs
      | lf l =>
        cases g with
        | true => simp [shp] at hs
        | false =>
          have h5 : LfOk ρ U l v := hv
          rw [h5.cells.1] at hcs
          show c1 = [v]
          simpa using hcs.symm
    · cases h2
  · cases h

theorem takeBoxes_ok : ∀ {bs : Boxes} {ss : List SV} {σ σ' : State} {x : den (capsT bs)} {ts : List Nat} {vs : List Value}, Rel w0 F0 n ρ U V σ a w → takeBoxes bs ss σ = some (x, σ', ts) → SVsOk ρ U ss vs →
    Rel w0 F0 n ρ U V σ' a w ∧ Less ρ σ σ' ∧ ∃ F, BoxesOk w bs vs x F ∧ F.Nodup ∧ Gone ρ σ σ' F
  | [], ss, σ, σ', x, ts, vs, hR, h, hv => by
    cases ss with
    | nil =>
      simp only [takeBoxes, Option.some.injEq, Prod.mk.injEq] at h
      obtain ⟨_, rfl, _⟩ := h
      cases hv
      exact ⟨hR, .refl _ _, [], ⟨rfl, rfl⟩, by simp, by intro b hb; cases hb⟩
    | cons s ss => simp [takeBoxes] at h
  | b :: bs, ss, σ, σ', x, ts, vs, hR, h, hv => by
    cases ss with
    | nil => simp [takeBoxes] at h
    | cons s ss =>
      cases s with
      | agg ls => simp [takeBoxes] at h
      | lf l =>
        cases l with
        | ptr i k =>
          cases k with
          | succ k => simp [takeBoxes] at h
          | zero =>
            simp only [takeBoxes] at h
            split at h
            · rename_i t ls hr
              split at h
              · rename_i ht
                subst ht
                simp only [Option.bind_eq_some_iff] at h
                obtain ⟨⟨y, rest, σ1⟩, h1, h2⟩ := h
                simp only at h2
                split at h2
                · rename_i hre
                  have hre' : rest = [] := by simpa using hre
                  subst hre'
                  simp only [Option.bind_eq_some_iff, Option.some.injEq, Prod.mk.injEq] at h2
                  obtain ⟨⟨q, σ2, ts2⟩, h3, rfl, rfl, rfl⟩ := h2
                  cases hv with
                  | cons hv1 hv2 =>
                    obtain ⟨hU, rfl⟩ := hv1
                    have hE := hR.ent i (by rw [hr]; trivial)
                    rw [hr] at hE
                    obtain ⟨cs, hh, hls⟩ := hE
                    have hK := hR.kill i
                    obtain ⟨hR1, hL1, c1, c2, o, r, hcs, hn, hrd, hnd, ho, hro⟩ := take_own (p := .own) rfl hK h1 hls
                    cases hn
                    simp only [List.append_nil] at hcs
                    subst hcs
                    have er : r = [] := hrd.noRo
                    subst er
                    obtain ⟨hR2, hL2, F, hB, hnd2, hG⟩ := takeBoxes_ok hR1 h3 hv2
                    have hL0 : Less ρ σ { σ with reg := upd σ.reg i .dead } := ⟨rfl, rfl, rfl, fun j => by
                      by_cases hj : j = i
                      · subst hj; exact .inr (by simp)
                      · exact .inl (upd_ne _ _ hj)⟩
                    have hbi : (ρ i).b ∈ ownB (σ.reg i) (ρ i) := by rw [hr]; simp [ownB]
                    have hG1 : Gone ρ σ σ1 ((ρ i).b :: o) := by
                      intro b' hb'
                      simp only [List.mem_cons] at hb'
                      rcases hb' with hb' | hb'
                      · subst hb'
                        refine ⟨⟨i, hbi⟩, fun j hj => ?_⟩
                        have h9 := hL1.own j _ hj
                        by_cases hji : j = i
                        · subst hji; simp [ownB] at h9
                        · simp only [upd_ne _ _ hji] at h9
                          exact hR.disj i j (Ne.symm hji) _ hbi h9
                      · obtain ⟨⟨j, hj⟩, h9⟩ := ho b' hb'
                        exact ⟨⟨j, hL0.own j b' hj⟩, h9⟩
                    have hn1 : ((ρ i).b :: o).Nodup := by
                      refine List.nodup_cons.2 ⟨fun hb' => ?_, hnd⟩
                      obtain ⟨j, hj⟩ := (ho _ hb').1
                      by_cases hji : j = i
                      · subst hji; simp [ownB] at hj
                      · simp only [upd_ne _ _ hji] at hj
                        exact hR.disj i j (Ne.symm hji) _ hbi hj
                    refine ⟨hR2, (hL0.trans hL1).trans hL2, ((ρ i).b :: o) ++ F, ⟨_, _, (ρ i).b, cs, o, F, rfl, rfl, hh, hrd, hB, rfl⟩, hG1.nodup hn1 hG hnd2, hG1.app (hL0.trans hL1) hG hL2⟩
                · cases h2
              · cases h
            · cases h
        | _ => simp [takeBoxes] at h

/-- values of what stands in slots -/
inductive AVsOk (ρ : Nat → RB) (U : Nat → Prop) : List AV → List Value → Prop
  | nil : AVsOk ρ U [] []
  | cons {l : AV} {v : Value} {ls : List AV} {vs : List Value} : AVOk ρ U l v → AVsOk ρ U ls vs → AVsOk ρ U (l :: ls) (v :: vs)

theorem onSv_some {α : Type} {av : AV} {f : SV → Option α} {x : α} (h : onSv av f = some x) : ∃ s, av = .sv s ∧ f s = some x := by
  cases av with
  | sv s => exact ⟨s, rfl, h⟩
  | _ => cases h

theorem onFn_some {α : Type} {av : AV} {f : FuncId → List SV → Option α} {x : α} (h : onFn av f = some x) : ∃ g ss, av = .fn g ss ∧ f g ss = some x := by
  cases av with
  | fn g ss => exact ⟨g, ss, rfl, h⟩
  | _ => cases h

theorem roV_ok {g : Bool} {T : Ty} {s : SV} {y : den T} {v : Value} (hR : Rel w0 F0 n ρ U V σ a w) (h : roV g T s σ = some y) (hv : SVOk ρ U s v) :
    ∃ cs r, VOk g v cs ∧ Rd w .ro T cs y [] r ∧ ∀ b, b ∈ r → ∃ j, b ∈ ownB (σ.reg j) (ρ j) ∨ b ∈ roB (σ.reg j) (ρ j) := by
  unfold roV at h
  split at h
  · rename_i hs
    simp only [Option.bind_eq_some_iff] at h
    obtain ⟨⟨y', rest, σ1⟩, h1, h2⟩ := h
    simp only at h2
    split at h2
    · rename_i hre
      cases h2
      have hre' : rest = [] := by simpa using hre
      subst hre'
      obtain ⟨_, c1, c2, r, hcs, hn, hrd, hr⟩ := take_ro hR h1 hv.leaves
      cases hn
      simp only [List.append_nil] at hcs
      refine ⟨c1, r, ?_, hrd, hr⟩
      cases s with
      | agg ls =>
        cases g with
        | false => simp [shp] at hs
        | true =>
          obtain ⟨cs, rfl, _⟩ := hv
          show Value.agg cs = .agg c1.toArray
          congr 1
          apply Array.ext'
          simpa [Value.cells] using hcs
      | lf l =>
        cases g with
        | true => simp [shp] at hs
        | false =>
          have h5 : LfOk ρ U l v := hv
          rw [h5.cells.1] at hcs
          show c1 = [v]
          simpa using hcs.symm
    · cases h2
  · cases h

theorem roVars_ok (hR : Rel w0 F0 n ρ U V σ a w) : ∀ {bs : Boxes} {ss : List SV} {y : den (capsT bs)} {vs : List Value}, roVars bs ss σ = some y → SVsOk ρ U ss vs →
    ∃ r, RvsOk w bs vs y r ∧ ∀ b, b ∈ r → ∃ j, b ∈ ownB (σ.reg j) (ρ j) ∨ b ∈ roB (σ.reg j) (ρ j)
  | [], ss, y, vs, h, hv => by
    cases ss with
    | nil => cases hv; exact ⟨[], ⟨rfl, rfl⟩, by simp⟩
    | cons s ss => simp [roVars] at h
  | b :: bs, ss, y, vs, h, hv => by
    cases ss with
    | nil => simp [roVars] at h
    | cons s ss =>
      cases s with
      | agg ls => simp [roVars] at h
      | lf l =>
        cases hv with
        | @cons _ v _ vs' hv1 hv2 =>
          cases l with
          | ptr i k =>
            cases k with
            | succ k => simp [roVars] at h
            | zero =>
              simp only [roVars] at h
              split at h
              · rename_i t ls hr
                split at h
                · simp only [Option.bind_eq_some_iff] at h
                  obtain ⟨⟨x, rest, σ1⟩, h1, h⟩ := h
                  simp only at h
                  split at h
                  · rename_i hre
                    have hre' : rest = [] := by simpa using hre
                    subst hre'
                    simp only [Option.bind_eq_some_iff] at h
                    obtain ⟨q, h2, h9⟩ := h
                    cases h9
                    obtain ⟨hU, hval⟩ := hv1
                    have hE := hR.ent i (by rw [hr]; trivial)
                    rw [hr] at hE
                    obtain ⟨cs, hh, hls⟩ := hE
                    obtain ⟨_, c1, c2, r1, hcs, hn, hrd, hr1⟩ := take_ro hR h1 hls
                    cases hn
                    simp only [List.append_nil] at hcs
                    subst hcs
                    obtain ⟨r2, k1, k2⟩ := roVars_ok hR h2 hv2
                    have hown : (ρ i).b ∈ ownB (σ.reg i) (ρ i) := by rw [hr]; simp [ownB]
                    refine ⟨((ρ i).b :: r1) ++ r2, ⟨v, vs', ⟨(ρ i).b, 0, none⟩, cs.toList, r1, r2, rfl, hval, rfl, hR.own_lt hown, fun j u hu => ?_, hrd, k1, rfl⟩, fun b' hb' => ?_⟩
                    · rw [add_mk, cell_of_row w _ _ cs t (0, 0) hh]
                      simpa using hu
                    · simp only [List.cons_append, List.mem_cons, List.mem_append] at hb'
                      rcases hb' with hb' | hb' | hb'
                      · subst hb'; exact ⟨i, .inl hown⟩
                      · exact hr1 b' hb'
                      · exact k2 b' hb'
                  · cases h
                · cases h
              · cases h
          | el i j sz k =>
            cases k with
            | succ k => simp [roVars] at h
            | zero =>
              simp only [roVars] at h
              split at h
              · rename_i kd t e xs ver hr
                split at h
                · rename_i he
                  split at h
                  · rename_i hlv
                    obtain ⟨hlv, hsz⟩ := hlv
                    simp only [Option.bind_eq_some_iff] at h
                    obtain ⟨q, h2, h9⟩ := h
                    cases h9
                    obtain ⟨b1, b2⟩ := b
                    simp only at he
                    subst he
                    obtain ⟨hU, ad, m, c, hv, hsp0, hj, hx'⟩ := hv1
                    have hl := liveB_spec hlv
                    have hE := hR.ent i (by rw [hr]; exact hl)
                    rw [hr] at hE
                    have hE' : Rd w kd.pm (.sl t e) [(ρ i).v] xs (ρ i).o (ρ i).r := hE
                    obtain ⟨r0, hE2, hr0⟩ := hE'.ro
                    rw [hv] at hE2
                    obtain ⟨v0, es, o0, q0, o', q', hc, e1, e2, e3, e4⟩ := hE2
                    cases hc
                    have hjl : j < xs.length := asked_lt e1 hj
                    obtain ⟨cA, cE, cB, oA, o1, oB, rA, r1, rB, rfl, k1, k2, k3, k4, k5, _⟩ := e2.get (zeroD e) j hjl
                    have hdl := k3.length
                    have hallb : ∀ b', b' ∈ (ρ i).o ++ (ρ i).r → ∃ j', b' ∈ ownB (σ.reg j') (ρ j') ∨ b' ∈ roB (σ.reg j') (ρ j') := fun b' hb' => hR.all (i := i) (by rw [hr]; exact hl) (by rw [hr]; exact hb')
                    have ho1 : o1 = [] := k3.noOwn
                    subst ho1
                    obtain ⟨r2, p1, p2⟩ := roVars_ok hR h2 hv2
                    obtain ⟨_, ⟨a', c', hA1, hA2, hA3, hA4⟩, _⟩ := e1
                    injection hA1 with f1 f2 f3
                    subst f1; subst f2; subst f3
                    rcases hA4 with ⟨hz, _, _⟩ | ⟨ad', g1, g2, g3, g4, g5⟩
                    · omega
                    · injection g1 with g1
                      subst g1
                      refine ⟨(ad.block :: r1) ++ r2, ⟨v, vs', ad.add (j * sz), cE, r1, r2, rfl, by rw [hx', Nat.add_zero], ?_, ?_, fun j' u hu => ?_, k3, p1, ?_⟩, fun b' hb' => ?_⟩
                      · unfold Addr.add; split <;> simp [hsp0]
                      · have : (ad.add (j * sz)).block = ad.block := by unfold Addr.add; split <;> rfl
                        rw [this]; exact g5
                      · rw [add_add ad hsp0]
                        refine g3 _ u ?_
                        have hlt : j' < cE.length := by
                          rcases Nat.lt_or_ge j' cE.length with h | h
                          · exact h
                          · rw [List.getElem?_eq_none h] at hu; cases hu
                        have e5 : j * sz + j' = cA.length + j' := by rw [k1, hsz]
                        rw [e5, List.append_assoc, List.getElem?_append_right (Nat.le_add_right _ _), Nat.add_sub_cancel_left, List.getElem?_append_left hlt]
                        exact hu
                      · have : (ad.add (j * sz)).block = ad.block := by unfold Addr.add; split <;> rfl
                        rw [this]
                      · simp only [List.cons_append, List.mem_cons, List.mem_append] at hb'
                        rcases hb' with hb' | hb' | hb'
                        · subst hb'
                          exact hallb _ (hr0 _ (by rw [e4, g4]; simp))
                        · exact hallb _ (hr0 _ (by rw [e4, k5]; simp [hb']))
                        · exact p2 b' hb'
                  · cases h
                · cases h
              · cases h
          | _ => simp [roVars] at h

theorem arg1_ok {p : PT} {av : AV} {σ' σf σi : State} {x : den p.ownP} {y : den p.roP} {ts : List Nat} {v : Value} (hR : Rel w0 F0 n ρ U V σ a w) (hLi : Less ρ σi σ) (h : take1 p av σ = some (x, σ', ts)) (hRf : Rel w0 F0 n ρ U V σf a w) (hy : ro1 p av σi σf = some y) (hv : AVOk ρ U av v) :
    Rel w0 F0 n ρ U V σ' a w ∧ Less ρ σ σ' ∧ ∃ F r, Arg1Ok w p v x y F r ∧ F.Nodup ∧ Gone ρ σ σ' F ∧ ∀ b, b ∈ r → ∃ j, b ∈ roB (σ.reg j) (ρ j) ∨ b ∈ ownB (σf.reg j) (ρ j) ∨ b ∈ roB (σf.reg j) (ρ j) := by
  cases p with
  | val m g T =>
    cases m with
    | ro =>
      have hs1 : σ = σ' := by
        have h0 : some ((), σ, ([] : List Nat)) = some (x, σ', ts) := h
        exact congrArg (fun o : Option (Unit × State × List Nat) => (o.getD ((), σ, [])).2.1) h0
      subst hs1
      have hy' : (onSv av fun s => roV g T s σf) = some y := hy
      obtain ⟨s, rfl, h1⟩ := onSv_some hy'
      obtain ⟨cs, r, k1, k2, k3⟩ := roV_ok hRf h1 hv
      refine ⟨hR, .refl _ _, [], r, ⟨cs, k1, k2, rfl⟩, by simp, (by intro b hb; cases hb), fun b hb => ?_⟩
      obtain ⟨j, hj⟩ := k3 b hb
      exact ⟨j, .inr hj⟩
    | own =>
      have h' : (onSv av fun s => takeV .own g T s σ) = some (x, σ', ts) := h
      obtain ⟨s, rfl, h0⟩ := onSv_some h'
      obtain ⟨h1, h2, cs, F, r, h3, h4, h5, h6, h7⟩ := takeV_ok (p := .own) rfl hR h0 hv
      refine ⟨h1, h2, F, r, ⟨cs, h3, h4⟩, h5, h6, fun b hb => ?_⟩
      obtain ⟨j, hj⟩ := h7 b hb
      exact ⟨j, .inl hj⟩
    | own1 =>
      have h' : (onSv av fun s => takeV .own1 g T s σ) = some (x, σ', ts) := h
      obtain ⟨s, rfl, h0⟩ := onSv_some h'
      obtain ⟨h1, h2, cs, F, r, h3, h4, h5, h6, h7⟩ := takeV_ok (p := .own1) rfl hR h0 hv
      refine ⟨h1, h2, F, r, ⟨cs, h3, h4⟩, h5, h6, fun b hb => ?_⟩
      obtain ⟨j, hj⟩ := h7 b hb
      exact ⟨j, .inl hj⟩
  | box t T =>
    have h' : (onSv av fun s => takeBoxes [(t, T)] [s] σ) = some (x, σ', ts) := h
    obtain ⟨s, rfl, h0⟩ := onSv_some h'
    obtain ⟨h1, h2, F, h3, h4, h5⟩ := takeBoxes_ok (vs := [v]) hR h0 (.cons hv .nil)
    exact ⟨h1, h2, F, [], ⟨h3, rfl⟩, h4, h5, by simp⟩
  | fn f caps =>
    have h' : (onFn av fun f' ss => if f' = f then takeBoxes caps ss σ else none) = some (x, σ', ts) := h
    obtain ⟨f', ss, rfl, h0⟩ := onFn_some h'
    split at h0
    · rename_i hf
      subst hf
      obtain ⟨vs, rfl, hvs⟩ := hv
      obtain ⟨h1, h2, F, h3, h4, h5⟩ := takeBoxes_ok hR h0 hvs
      exact ⟨h1, h2, F, [], ⟨vs, rfl, h3, rfl⟩, h4, h5, by simp⟩
    · cases h0
  | sbox t T =>
    simp only [take1] at h
    split at h
    · rename_i i
      split at h
      · rename_i t' ls hr
        split at h
        · rename_i ht
          subst ht
          cases h
          simp only [ro1] at hy
          have hri : σi.reg i = .box t' ls := by
            rcases hLi.reg i with e | e
            · rw [← e]; exact hr
            · rw [e] at hr; cases hr
          rw [hri] at hy
          simp only [Option.bind_eq_some_iff] at hy
          obtain ⟨⟨y', rest, σ2⟩, h1, h2⟩ := hy
          simp only at h2
          split at h2
          · rename_i hre
            cases h2
            have hre' : rest = [] := by simpa using hre
            subst hre'
            obtain ⟨hU, rfl⟩ := hv
            have hE := hR.ent i (by rw [hr]; trivial)
            rw [hr] at hE
            obtain ⟨cs, hh, hls⟩ := hE
            obtain ⟨_, c1, c2, r, hcs, hn, hrd, hr1⟩ := take_ro hRf h1 hls
            cases hn
            simp only [List.append_nil] at hcs
            subst hcs
            have hbi : (ρ i).b ∈ ownB (σ.reg i) (ρ i) := by rw [hr]; simp [ownB]
            refine ⟨hR.kill i, ⟨rfl, rfl, rfl, fun j => ?_⟩, [(ρ i).b], r, ⟨(ρ i).b, cs, rfl, hh, hrd, rfl⟩, by simp, fun b hb => ?_, fun b hb => (hr1 b hb).imp fun j hj => .inr hj⟩
            · by_cases hj : j = i
              · subst hj; exact .inr (by simp)
              · exact .inl (upd_ne _ _ hj)
            · simp only [List.mem_singleton] at hb
              subst hb
              refine ⟨⟨i, hbi⟩, fun j hj => ?_⟩
              by_cases hji : j = i
              · subst hji; simp [ownB] at hj
              · simp only [upd_ne _ _ hji] at hj
                exact hR.disj i j (Ne.symm hji) _ hbi hj
          · cases h2
        · cases h
      · cases h
    · cases h
  | io g T =>
    have h' : (onSv av fun s => takeV .own g T s σ) = some (x, σ', ts) := h
    obtain ⟨s, rfl, h0⟩ := onSv_some h'
    obtain ⟨h1, h2, cs, F, r, h3, h4, h5, h6, h7⟩ := takeV_ok (p := .own) rfl hR h0 hv
    have hr : r = [] := h4.noRo
    subst hr
    exact ⟨h1, h2, F, [], ⟨cs, h3, h4, rfl⟩, h5, h6, by simp⟩
  | rvar t T =>
    have hs1 : σ = σ' := by
      have h0 : some ((), σ, ([] : List Nat)) = some (x, σ', ts) := h
      exact congrArg (fun o : Option (Unit × State × List Nat) => (o.getD ((), σ, [])).2.1) h0
    subst hs1
    obtain ⟨s, rfl, h1⟩ := onSv_some (show (onSv av fun s => roVars [(t, T)] [s] σf) = some y from hy)
    obtain ⟨r, k1, k2⟩ := roVars_ok (vs := [v]) hRf h1 (.cons hv .nil)
    exact ⟨hR, .refl _ _, [], r, ⟨k1, rfl⟩, by simp, (by intro b hb; cases hb), fun b hb => (k2 b hb).imp fun j hj => .inr hj⟩
  | rfn f caps =>
    have hs1 : σ = σ' := by
      have h0 : some ((), σ, ([] : List Nat)) = some (x, σ', ts) := h
      exact congrArg (fun o : Option (Unit × State × List Nat) => (o.getD ((), σ, [])).2.1) h0
    subst hs1
    obtain ⟨f', ss, rfl, h0⟩ := onFn_some (show (onFn av fun f' ss => if f' = f then roVars caps ss σf else none) = some y from hy)
    split at h0
    · rename_i hf
      subst hf
      obtain ⟨vs, rfl, hvs⟩ := hv
      obtain ⟨r, k1, k2⟩ := roVars_ok hRf h0 hvs
      exact ⟨hR, .refl _ _, [], r, ⟨vs, rfl, k1, rfl⟩, by simp, (by intro b hb; cases hb), fun b hb => (k2 b hb).imp fun j hj => .inr hj⟩
    · cases h0

theorem args_ok {σi : State} : ∀ {ps : List PT} {as : List AV} {σ σ' σf : State} {x : den (ownT ps)} {y : den (roT ps)} {ts : List Nat} {vs : List Value}, Rel w0 F0 n ρ U V σ a w → Less ρ σi σ → takeArgs ps as σ = some (x, σ', ts) →
    Rel w0 F0 n ρ U V σf a w → roArgs ps as σi σf = some y → AVsOk ρ U as vs →
    Rel w0 F0 n ρ U V σ' a w ∧ Less ρ σ σ' ∧ ∃ F r, ArgsOk w ps vs x y F r ∧ F.Nodup ∧ Gone ρ σ σ' F ∧ ∀ b, b ∈ r → ∃ j, b ∈ roB (σ.reg j) (ρ j) ∨ b ∈ ownB (σf.reg j) (ρ j) ∨ b ∈ roB (σf.reg j) (ρ j)
  | [], as, σ, σ', σf, x, y, ts, vs, hR, hLi, h, hRf, hy, hv => by
    cases as with
    | nil =>
      simp only [takeArgs, Option.some.injEq, Prod.mk.injEq] at h
      obtain ⟨_, rfl, _⟩ := h
      cases hv
      exact ⟨hR, .refl _ _, [], [], ⟨rfl, rfl, rfl⟩, by simp, (by intro b hb; cases hb), by simp⟩
    | cons _ _ => simp [takeArgs] at h
  | p :: ps, as, σ, σ', σf, x, y, ts, vs, hR, hLi, h, hRf, hy, hv => by
    cases as with
    | nil => simp [takeArgs] at h
    | cons av as =>
      simp only [takeArgs, Option.bind_eq_some_iff, Option.some.injEq, Prod.mk.injEq] at h
      obtain ⟨⟨x1, σ1, ts1⟩, h1, ⟨x2, σ2, ts2⟩, h2, rfl, rfl, rfl⟩ := h
      simp only [roArgs, Option.bind_eq_some_iff] at hy
      obtain ⟨y1, hy1, y2, hy2, hy3⟩ := hy
      cases hy3
      cases hv with
      | cons hv1 hv2 =>
        obtain ⟨hR1, hL1, F1, r1, k1, n1, g1, q1⟩ := arg1_ok hR hLi h1 hRf hy1 hv1
        obtain ⟨hR2, hL2, F2, r2, a2, n2, g2, q2⟩ := args_ok hR1 (hLi.trans hL1) h2 hRf hy2 hv2
        refine ⟨hR2, hL1.trans hL2, F1 ++ F2, r1 ++ r2, ⟨_, _, F1, F2, r1, r2, rfl, k1, a2, rfl, rfl⟩, g1.nodup n1 g2 n2, g1.app hL1 g2 hL2, fun b hb => ?_⟩
        simp only [List.mem_append] at hb
        rcases hb with hb | hb
        · exact q1 b hb
        · obtain ⟨j, hj⟩ := q2 b hb
          rcases hj with hj | hj
          · exact ⟨j, .inl (hL1.ro j b hj)⟩
          · exact ⟨j, .inr hj⟩

/-- what giving adds, at these old entries and at new ones -/
structure Mo (ρ ρ' : Nat → RB) (U U' V V' : Nat → Prop) (σ σ' : State) (ids o : List Nat) : Prop where
  sl : σ'.sl = σ.sl
  nx : σ.nx ≤ σ'.nx
  ck : σ.ck ≤ σ'.ck
  rho : ∀ i, U i → ρ' i = ρ i
  reg : ∀ i, ¬ (σ.nx ≤ i ∧ i < σ'.nx) → i ∉ ids → σ'.reg i = σ.reg i
  u : ∀ i, U' i ↔ U i ∨ (σ.nx ≤ i ∧ i < σ'.nx)
  v : ∀ i, (V i → V' i) ∧ (V' i → V i ∨ (σ.ck ≤ i ∧ i < σ'.ck))
  own : ∀ j b, b ∈ ownB (σ'.reg j) (ρ' j) → b ∈ ownB (σ.reg j) (ρ j) ∨ b ∈ o
  ro : ∀ j b, b ∈ roB (σ'.reg j) (ρ' j) → b ∈ roB (σ.reg j) (ρ j)

theorem Mo.refl (ρ : Nat → RB) (U V : Nat → Prop) (σ : State) : Mo ρ ρ U U V V σ σ [] [] :=
  ⟨rfl, Nat.le_refl _, Nat.le_refl _, fun _ _ => rfl, fun _ _ _ => rfl, fun i => ⟨.inl, fun h => h.elim id (fun h => by omega)⟩, fun i => ⟨id, .inl⟩, fun _ _ => .inl, fun _ _ => id⟩

theorem Mo.trans {ρ ρ' ρ'' : Nat → RB} {U U' U'' V V' V'' : Nat → Prop} {a b c : State} {i1 i2 o1 o2 : List Nat} (h : Mo ρ ρ' U U' V V' a b i1 o1) (k : Mo ρ' ρ'' U' U'' V' V'' b c i2 o2) : Mo ρ ρ'' U U'' V V'' a c (i1 ++ i2) (o1 ++ o2) := by
  have h1 := h.nx
  have h2 := k.nx
  have h3 := h.ck
  have h4 := k.ck
  refine ⟨k.sl.trans h.sl, Nat.le_trans h.nx k.nx, Nat.le_trans h.ck k.ck, fun i hi => (k.rho i ((h.u i).2 (.inl hi))).trans (h.rho i hi), fun i hi hn => ?_, fun i => ?_, fun i => ⟨fun hv => (k.v i).1 ((h.v i).1 hv), fun hv => ?_⟩, fun j b hb => ?_, fun j b hb => h.ro j b (k.ro j b hb)⟩
  · simp only [List.mem_append, not_or] at hn
    exact (k.reg i (fun q => hi ⟨Nat.le_trans h.nx q.1, q.2⟩) hn.2).trans (h.reg i (fun q => hi ⟨q.1, Nat.lt_of_lt_of_le q.2 k.nx⟩) hn.1)
  · rw [k.u i, h.u i]
    constructor
    · rintro ((hu | hu) | hu)
      · exact .inl hu
      · exact .inr ⟨hu.1, by omega⟩
      · exact .inr ⟨by omega, hu.2⟩
    · rintro (hu | hu)
      · exact .inl (.inl hu)
      · by_cases hb : i < b.nx
        · exact .inl (.inr ⟨hu.1, hb⟩)
        · exact .inr ⟨by omega, hu.2⟩
  · rcases (k.v i).2 hv with q | q
    · rcases (h.v i).2 q with q | q
      · exact .inl q
      · exact .inr ⟨q.1, by omega⟩
    · exact .inr ⟨by omega, q.2⟩
  · simp only [List.mem_append]
    rcases k.own j b hb with q | q
    · rcases h.own j b q with q | q
      · exact .inl q
      · exact .inr (.inl q)
    · exact .inr (.inr q)

theorem Mo.grow {ρ ρ' : Nat → RB} {U U' V V' : Nat → Prop} {σ σ' : State} {ids o : List Nat} (h : Mo ρ ρ' U U' V V' σ σ' ids o) (w : World) (ts : List Nat) : Grow ρ ρ' U U' V V' σ σ' w w ts :=
  ⟨Nat.le_refl _, fun _ _ _ => rfl, fun i hi _ => h.rho i hi, fun i b hb => ⟨i, h.ro i b hb⟩, fun i hi => by rw [h.rho i hi]; exact ⟨rfl, rfl⟩, fun i hi => (h.u i).2 (.inl hi), fun i hi => (h.u i).1 hi, fun i hi => (h.v i).1 hi, fun i hi => (h.v i).2 hi⟩

/-- blocks that may become a new entry's own -/
def Fr (w0 : World) (F0 : List Nat) (ρ : Nat → RB) (σ : State) (o : List Nat) : Prop := ∀ b, b ∈ o → (∀ j, b ∉ ownB (σ.reg j) (ρ j) ∧ b ∉ roB (σ.reg j) (ρ j)) ∧ (b ∈ F0 ∨ w0.heap.size ≤ b)

theorem Fr.sub {o o' : List Nat} (h : Fr w0 F0 ρ σ o) (hs : ∀ b, b ∈ o' → b ∈ o) : Fr w0 F0 ρ σ o' := fun b hb => h b (hs b hb)

theorem Fr.mo {ρ' : Nat → RB} {U' V' : Nat → Prop} {σ' : State} {ids o1 o2 : List Nat} (h : Fr w0 F0 ρ σ (o1 ++ o2)) (hn : (o1 ++ o2).Nodup) (m : Mo ρ ρ' U U' V V' σ σ' ids o1) : Fr w0 F0 ρ' σ' o2 := by
  intro b hb
  have h1 := h b (by simp [hb])
  refine ⟨fun j => ⟨fun hj => ?_, fun hj => (h1.1 j).2 (m.ro j b hj)⟩, h1.2⟩
  rcases m.own j b hj with q | q
  · exact (h1.1 j).1 q
  · exact (List.nodup_append.1 hn).2.2 b q b hb rfl

theorem Free.mono {σ' σ'' : State} (h : Free U V σ σ'') (h1 : σ'.nx ≤ σ''.nx) (h2 : σ'.ck ≤ σ''.ck) : Free U V σ σ' :=
  ⟨fun i q1 q2 => h.1 i q1 (by omega), fun v q1 q2 => h.2 v q1 (by omega)⟩

theorem Free.after {ρ' : Nat → RB} {U' V' : Nat → Prop} {σ' σ'' : State} {ids o : List Nat} (h : Free U V σ σ'') (m : Mo ρ ρ' U U' V V' σ σ' ids o) : Free U' V' σ' σ'' := by
  have h1 := m.nx
  have h2 := m.ck
  refine ⟨fun i q1 q2 hu => ?_, fun v q1 q2 hv => ?_⟩
  · rcases (m.u i).1 hu with q | q
    · exact h.1 i (by omega) q2 q
    · omega
  · rcases (m.v v).2 hv with q | q
    · exact h.2 v (by omega) q2 q
    · omega

theorem giveOwn {T : Ty} {x : den T} {cs : List Value} {o : List Nat} (hR : Rel w0 F0 n ρ U V σ a w) (hx : Rd w .own T cs x o []) (hn : o.Nodup) (hf : Fr w0 F0 ρ σ o) (hF : Free U V σ (give .own T x σ).2) :
    ∃ ρ' U' V', Rel w0 F0 n ρ' U' V' (give .own T x σ).2 a w ∧ LfsOk ρ' U' (give .own T x σ).1 cs ∧ Mo ρ ρ' U U' V V' σ (give .own T x σ).2 [] o := by
  obtain ⟨ρ', U', V', h1, h2, h3, h4, h5⟩ := give_ok (k := .own) hR hx ⟨hn, fun b hb => ⟨(hf b hb).1, (hf b hb).2, by simp⟩, by simp, fun p v h => by cases h⟩ hF
  refine ⟨ρ', U', V', h1, h2, ⟨h3.sl, h3.nx, h3.ck, h3.rho, fun i hi _ => h3.reg i hi, h3.u, h3.v, h4, fun j b hb => ?_⟩⟩
  rcases h5 j b hb with h | h
  · exact h
  · cases h.1

theorem giveRes_nx : ∀ {rs : List (Bool × Ty)} {z : den (resT rs)} {σ σ' : State} {ss : List SV}, giveRes rs z σ = some (ss, σ') → σ.nx ≤ σ'.nx ∧ σ.ck ≤ σ'.ck
  | [], z, σ, σ', ss, h => by simp only [giveRes, Option.some.injEq, Prod.mk.injEq] at h; obtain ⟨_, rfl⟩ := h; exact ⟨Nat.le_refl _, Nat.le_refl _⟩
  | r :: rs, z, σ, σ', ss, h => by
    simp only [giveRes, Option.bind_eq_some_iff, Option.some.injEq, Prod.mk.injEq] at h
    obtain ⟨s, _, ⟨q1, q2⟩, h2, _, rfl⟩ := h
    have h3 := giveRes_nx h2
    have h4 := give_nx .own r.2 z.1 σ
    exact ⟨Nat.le_trans h4.1 h3.1, Nat.le_trans h4.2 h3.2⟩

theorem giveRes_ok : ∀ {rs : List (Bool × Ty)} {z : den (resT rs)} {ρ : Nat → RB} {U V : Nat → Prop} {σ σ' : State} {ss : List SV} {vs : List Value} {o : List Nat}, Rel w0 F0 n ρ U V σ a w → ResOk w rs vs z o → o.Nodup → Fr w0 F0 ρ σ o → giveRes rs z σ = some (ss, σ') → Free U V σ σ' →
    ∃ ρ' U' V', Rel w0 F0 n ρ' U' V' σ' a w ∧ SVsOk ρ' U' ss vs ∧ Mo ρ ρ' U U' V V' σ σ' [] o
  | [], z, ρ, U, V, σ, σ', ss, vs, o, hR, hz, hn, hf, h, hF => by
    simp only [giveRes, Option.some.injEq, Prod.mk.injEq] at h
    obtain ⟨rfl, rfl⟩ := h
    obtain ⟨rfl, rfl⟩ := hz
    exact ⟨ρ, U, V, hR, .nil, .refl _ _ _ _⟩
  | r :: rs, z, ρ, U, V, σ, σ', ss, vs, o, hR, hz, hn, hf, h, hF => by
    simp only [giveRes, Option.bind_eq_some_iff, Option.some.injEq, Prod.mk.injEq] at h
    obtain ⟨s, hs, ⟨q1, q2⟩, h2, rfl, rfl⟩ := h
    obtain ⟨v, vs', cs, o1, o2, rfl, hv, hrd, hres, rfl⟩ := hz
    have hn' := List.nodup_append.1 hn
    have h3 := giveRes_nx h2
    obtain ⟨ρ1, U1, V1, hR1, hL1, hM1⟩ := giveOwn hR hrd hn'.1 (hf.sub (fun b hb => by simp [hb])) (hF.mono h3.1 h3.2)
    obtain ⟨ρ2, U2, V2, hR2, hL2, hM2⟩ := giveRes_ok hR1 hres hn'.2.1 (hf.mo hn hM1) h2 (hF.after hM1)
    refine ⟨ρ2, U2, V2, hR2, .cons ?_ hL2, ?_⟩
    · refine SVOk.mono (fun i hi => (hM2.u i).2 (.inl hi)) (fun i hi => by rw [hM2.rho i hi]; exact ⟨rfl, rfl⟩) ?_
      rcases pack_ok hL1 hs with ⟨hg, h5⟩ | ⟨hg, u, hu, h5⟩
      · rw [hg] at hv
        have hv' : v = .agg cs.toArray := hv
        rw [hv']; exact h5
      · rw [hg] at hv
        have hv' : cs = [v] := hv
        rw [hv'] at hu
        cases hu
        exact h5
    · have := hM1.trans hM2
      simpa using this

def idsOf : List SV → List Nat
  | [] => []
  | .lf (.ptr i _) :: ss => i :: idsOf ss
  | _ :: ss => idsOf ss

theorem giveBoxes_nx : ∀ (bs : Boxes) (ss : List SV) (x : den (capsT bs)) (σ : State), σ.nx ≤ (giveBoxes bs ss x σ).nx ∧ σ.ck ≤ (giveBoxes bs ss x σ).ck
  | [], ss, x, σ => by cases ss <;> exact ⟨Nat.le_refl _, Nat.le_refl _⟩
  | b :: bs, [], x, σ => ⟨Nat.le_refl _, Nat.le_refl _⟩
  | b :: bs, s :: ss, x, σ => by
    have hid : σ.nx ≤ σ.nx ∧ σ.ck ≤ σ.ck := ⟨Nat.le_refl _, Nat.le_refl _⟩
    cases s with
    | agg ls => exact hid
    | lf l =>
      cases l with
      | ptr i k =>
        have h1 := giveBoxes_nx bs ss x.2 { (give .own b.2 x.1 σ).2 with reg := upd (give .own b.2 x.1 σ).2.reg i (.box b.1 (give .own b.2 x.1 σ).1) }
        have h2 := give_nx .own b.2 x.1 σ
        simp only [giveBoxes]
        simp only at h1
        exact ⟨by omega, by omega⟩
      | _ => exact hid

theorem giveBoxes_ok : ∀ {bs : Boxes} {x : den (capsT bs)} {ρ : Nat → RB} {U V : Nat → Prop} {σ : State} {ss : List SV} {vs : List Value} {o : List Nat}, Rel w0 F0 n ρ U V σ a w → BoxesOk w bs vs x o → SVsOk ρ U ss vs →
    (∀ i, i ∈ idsOf ss → σ.reg i = .dead) → o.Nodup → Fr w0 F0 ρ σ o → Free U V σ (giveBoxes bs ss x σ) → (∀ s, s ∈ ss → ∃ i k, s = .lf (.ptr i k)) →
    ∃ ρ' U' V', Rel w0 F0 n ρ' U' V' (giveBoxes bs ss x σ) a w ∧ Mo ρ ρ' U U' V V' σ (giveBoxes bs ss x σ) (idsOf ss) o
  | [], x, ρ, U, V, σ, ss, vs, o, hR, hB, hS, hd, hn, hf, hF, hp => by
    obtain ⟨rfl, rfl⟩ := hB
    cases hS
    exact ⟨ρ, U, V, hR, .refl _ _ _ _⟩
  | b :: bs, x, ρ, U, V, σ, ss, vs, o, hR, hB, hS, hd, hn, hf, hF, hp => by
    obtain ⟨v, vs', blk, cs, o1, o2, rfl, hv, hh, hrd, hB2, rfl⟩ := hB
    cases hS with
    | @cons s _ ss' _ hS1 hS2 =>
      obtain ⟨i, k, rfl⟩ := hp s (by simp)
      obtain ⟨hU, hv2⟩ := hS1
      rw [hv] at hv2
      injection hv2 with hv2
      injection hv2 with hv2
      injection hv2 with e1 e2 _
      subst e2
      have hdi : σ.reg i = .dead := hd i (by simp [idsOf])
      have hn' := List.nodup_append.1 hn
      have hn1 := List.nodup_cons.1 hn'.1
      have hnx1 := giveBoxes_nx bs ss' x.2 { (give .own b.2 x.1 σ).2 with reg := upd (give .own b.2 x.1 σ).2.reg i (.box b.1 (give .own b.2 x.1 σ).1) }
      simp only at hnx1
      obtain ⟨ρ1, U1, V1, hR1, hL1, hM1⟩ := giveOwn hR hrd hn1.2 (hf.sub (fun b hb => by simp [hb])) (hF.mono hnx1.1 hnx1.2)
      have hrho : ρ1 i = ρ i := hM1.rho i hU
      have hU1 : U1 i := (hM1.u i).2 (.inl hU)
      have hni : ¬ (σ.nx ≤ i ∧ i < (give .own b.2 x.1 σ).2.nx) := fun q => hF.1 i q.1 (Nat.lt_of_lt_of_le q.2 hnx1.1) hU
      have hd1 : (give .own b.2 x.1 σ).2.reg i = .dead := (hM1.reg i hni (by simp)).trans hdi
      have hup : upd ρ1 i (ρ1 i) = ρ1 := by
        funext j
        by_cases hj : j = i
        · subst hj; simp
        · exact upd_ne _ _ hj
      have hUU : (fun j => U1 j ∨ j = i) = U1 := by
        funext j
        exact propext ⟨fun h => h.elim id (fun e => e ▸ hU1), .inl⟩
      have hVV : (fun v => V1 v ∨ (Ent.box b.1 (give .own b.2 x.1 σ).1).ver = some v) = V1 := by
        funext j
        exact propext ⟨fun h => h.elim id (fun e => by cases e), .inl⟩
      have hlay := hR1.lay i (.box b.1 (give .own b.2 x.1 σ).1) (ρ1 i) hd1 (fun _ => ⟨rfl, rfl⟩) ⟨cs, by rw [hrho, ← e1]; exact hh, by rw [hup, hUU]; exact hL1⟩ (by simp [ownB]) (fun b' hb' => by
          simp only [ownB, List.mem_singleton] at hb'
          rw [hrho, ← e1] at hb'
          subst hb'
          have h5 := hf b' (by simp)
          refine ⟨fun j => ⟨fun hj => ?_, fun hj => (h5.1 j).2 (hM1.ro j b' hj)⟩, h5.2, by simp [roB]⟩
          rcases hM1.own j b' hj with q | q
          · exact (h5.1 j).1 q
          · exact hn1.1 q) (fun b' hb' => by simp [roB] at hb') (fun p v t' e' xs x he => by cases he) (fun v hv => by cases hv) (give .own b.2 x.1 σ).2.nx (give .own b.2 x.1 σ).2.ck
      rw [hup, hUU, hVV] at hlay
      have hM2 : Mo ρ1 ρ1 U1 U1 V1 V1 (give .own b.2 x.1 σ).2 { (give .own b.2 x.1 σ).2 with reg := upd (give .own b.2 x.1 σ).2.reg i (.box b.1 (give .own b.2 x.1 σ).1) } [i] [blk] :=
        ⟨rfl, Nat.le_refl _, Nat.le_refl _, fun _ _ => rfl, fun j _ hj => upd_ne _ _ (by simpa using hj), fun j => ⟨.inl, fun h => h.elim id (fun h => by simp only at h; omega)⟩, fun j => ⟨id, .inl⟩,
          fun j b' hb' => by
            by_cases hj : j = i
            · subst hj
              simp only [upd_same, ownB, List.mem_singleton] at hb'
              rw [hrho, ← e1] at hb'
              exact .inr (by simp [hb'])
            · simp only [upd_ne _ _ hj] at hb'; exact .inl hb', fun j b' hb' => by
            by_cases hj : j = i
            · subst hj; simp [roB] at hb'
            · simp only [upd_ne _ _ hj] at hb'; exact hb'⟩
      have hM12 := hM1.trans hM2
      have hn3 : ((o1 ++ [blk]) ++ o2).Nodup := by
        refine List.nodup_append.2 ⟨List.nodup_append.2 ⟨hn1.2, by simp, fun b1 h1 b2 h2 e => ?_⟩, hn'.2.1, fun b1 h1 b2 h2 e => ?_⟩
        · simp at h2; subst h2; subst e; exact hn1.1 h1
        · refine hn'.2.2 b1 ?_ b2 h2 e
          simp at h1 ⊢
          rcases h1 with h1 | h1
          · exact .inr h1
          · exact .inl h1
      have hf3 : Fr w0 F0 ρ σ ((o1 ++ [blk]) ++ o2) := hf.sub (fun b' hb' => by
        simp at hb' ⊢
        rcases hb' with h | h | h
        · exact .inr (.inl h)
        · exact .inl h
        · exact .inr (.inr h))
      have hS3 := SVsOk.mono (ρ' := ρ1) (U' := U1) (fun j hj => (hM12.u j).2 (.inl hj)) (fun j hj => by rw [hM12.rho j hj]; exact ⟨rfl, rfl⟩) hS2
      have hids : ∀ (l : List SV) (us : List Value) (bs : Boxes) (x : den (capsT bs)) (F : List Nat), SVsOk ρ U l us → BoxesOk w bs us x F → (∀ s, s ∈ l → ∃ i k, s = .lf (.ptr i k)) → ∀ j, j ∈ idsOf l → U j ∧ (ρ j).b ∈ F := by
        intro l
        induction l with
        | nil => intro us bs x F _ _ _ j hj; cases hj
        | cons s l ih =>
          intro us bs x F hl hb hpp j hj
          cases hl with
          | cons h1 h2 =>
            obtain ⟨i', k', rfl⟩ := hpp s (by simp)
            cases bs with
            | nil => obtain ⟨hb1, _⟩ := hb; cases hb1
            | cons b' bs' =>
              obtain ⟨v', vs', blk', cs', p1, p2, hb1, hb2, _, _, hb5, rfl⟩ := hb
              cases hb1
              simp only [idsOf, List.mem_cons] at hj
              rcases hj with hj | hj
              · subst hj
                refine ⟨h1.1, ?_⟩
                have h3 := h1.2
                rw [hb2] at h3
                injection h3 with h3
                injection h3 with h3
                injection h3 with h3 _ _
                simp [h3]
              · have := ih _ _ _ _ h2 hb5 (fun s hs => hpp s (by simp [hs])) j hj
                exact ⟨this.1, by simp [this.2]⟩
      obtain ⟨ρ3, U3, V3, hR3, hM3⟩ := giveBoxes_ok (x := x.2) hlay hB2 hS3 (fun j hj => by
          obtain ⟨hUj, hbj⟩ := hids _ _ _ _ _ hS2 hB2 (fun s hs => hp s (by simp [hs])) j hj
          have hji : j ≠ i := by
            intro e
            subst e
            rw [← e1] at hbj
            exact hn'.2.2 blk (by simp) blk hbj rfl
          show upd _ i _ j = _
          rw [upd_ne _ _ hji, hM1.reg j (fun q => hF.1 j q.1 (Nat.lt_of_lt_of_le q.2 hnx1.1) hUj) (by simp)]
          exact hd j (by simp [idsOf, hj])) hn'.2.1 (hf3.mo hn3 hM12) (hF.after hM12) (fun s hs => hp s (by simp [hs]))
      refine ⟨ρ3, U3, V3, hR3, ?_⟩
      have h9 := hM12.trans hM3
      refine ⟨h9.sl, h9.nx, h9.ck, h9.rho, fun j q1 q2 => h9.reg j q1 (by simpa [idsOf] using q2), h9.u, h9.v, fun j b' hb' => ?_, h9.ro⟩
      rcases h9.own j b' hb' with q | q
      · exact .inl q
      · right
        simp at q ⊢
        rcases q with q | q | q
        · exact .inr (.inl q)
        · exact .inl q
        · exact .inr (.inr q)

def PtrSh (ss : List SV) : Prop := ∀ s, s ∈ ss → ∃ i k, s = .lf (.ptr i k)

theorem boxes_ids : ∀ {l : List SV} {us : List Value} {bs : Boxes} {x : den (capsT bs)} {F : List Nat}, SVsOk ρ U l us → BoxesOk w bs us x F → PtrSh l → ∀ j, j ∈ idsOf l → U j ∧ (ρ j).b ∈ F
  | [], us, bs, x, F, _, _, _, j, hj => by cases hj
  | s :: l, us, bs, x, F, hl, hb, hpp, j, hj => by
    cases hl with
    | cons h1 h2 =>
      obtain ⟨i', k', rfl⟩ := hpp s (by simp)
      cases bs with
      | nil => obtain ⟨hb1, _⟩ := hb; cases hb1
      | cons b' bs' =>
        obtain ⟨v', vs', blk', cs', p1, p2, hb1, hb2, _, _, hb5, rfl⟩ := hb
        cases hb1
        simp only [idsOf, List.mem_cons] at hj
        rcases hj with hj | hj
        · subst hj
          refine ⟨h1.1, ?_⟩
          have h3 := h1.2
          rw [hb2] at h3
          injection h3 with h3
          injection h3 with h3
          injection h3 with h3 _ _
          simp [h3]
        · have := boxes_ids h2 hb5 (fun s hs => hpp s (by simp [hs])) j hj
          exact ⟨this.1, by simp [this.2]⟩

theorem takeBoxes_dead : ∀ {bs : Boxes} {ss : List SV} {σ σ' : State} {x : den (capsT bs)} {ts : List Nat} {vs : List Value}, Rel w0 F0 n ρ U V σ a w → takeBoxes bs ss σ = some (x, σ', ts) → SVsOk ρ U ss vs →
    PtrSh ss ∧ ∀ i, i ∈ idsOf ss → σ'.reg i = .dead
  | [], ss, σ, σ', x, ts, vs, hR, h, hv => by
    cases ss with
    | nil => exact ⟨fun s hs => (by cases hs), fun i hi => (by cases hi)⟩
    | cons s ss => simp [takeBoxes] at h
  | b :: bs, ss, σ, σ', x, ts, vs, hR, h, hv => by
    cases ss with
    | nil => simp [takeBoxes] at h
    | cons s ss =>
      cases s with
      | agg ls => simp [takeBoxes] at h
      | lf l =>
        cases l with
        | ptr i k =>
          cases k with
          | succ k => simp [takeBoxes] at h
          | zero =>
            simp only [takeBoxes] at h
            split at h
            · rename_i t ls hr
              split at h
              · rename_i ht
                subst ht
                simp only [Option.bind_eq_some_iff] at h
                obtain ⟨⟨y, rest, σ1⟩, h1, h2⟩ := h
                simp only at h2
                split at h2
                · simp only [Option.bind_eq_some_iff, Option.some.injEq, Prod.mk.injEq] at h2
                  obtain ⟨⟨q, σ2, ts2⟩, h3, rfl, rfl, rfl⟩ := h2
                  cases hv with
                  | cons hv1 hv2 =>
                    obtain ⟨hU, rfl⟩ := hv1
                    have hE := hR.ent i (by rw [hr]; trivial)
                    rw [hr] at hE
                    obtain ⟨cs, hh, hls⟩ := hE
                    obtain ⟨hR1, hL1, _⟩ := take_own (p := .own) rfl (hR.kill i) h1 hls
                    obtain ⟨hP, hD⟩ := takeBoxes_dead hR1 h3 hv2
                    obtain ⟨_, hL2, _⟩ := takeBoxes_ok hR1 h3 hv2
                    refine ⟨fun s hs => ?_, fun j hj => ?_⟩
                    · simp only [List.mem_cons] at hs
                      rcases hs with hs | hs
                      · exact ⟨i, 0, hs⟩
                      · exact hP s hs
                    · simp only [idsOf, List.mem_cons] at hj
                      rcases hj with hj | hj
                      · subst hj
                        rcases hL2.reg j with e | e
                        · show σ2.reg j = _
                          rw [e]
                          rcases hL1.reg j with e | e
                          · exact e.trans (by simp)
                          · exact e
                        · exact e
                      · exact hD j hj
                · cases h2
              · cases h
            · cases h
        | _ => simp [takeBoxes] at h

/-- the variables behind the arguments, given up for the call -/
def PtrsOk (ρ : Nat → RB) (U : Nat → Prop) (σ : State) : List PT → List AV → List Value → Prop
  | [], as, vs => as = [] ∧ vs = []
  | p :: ps, as, vs => ∃ a as' v vs', as = a :: as' ∧ vs = v :: vs' ∧ SVsOk ρ U (ptrsS p a) (ptrsOf p v) ∧ PtrSh (ptrsS p a) ∧ (∀ i, i ∈ idsOf (ptrsS p a) → σ.reg i = .dead) ∧ PtrsOk ρ U σ ps as' vs'

theorem PtrsOk.mono {ρ' : Nat → RB} {U' : Nat → Prop} {σ' : State} : ∀ {ps : List PT} {as : List AV} {vs : List Value}, PtrsOk ρ U σ ps as vs → (∀ i, U i → U' i) → (∀ i, U i → (ρ' i).v = (ρ i).v ∧ (ρ' i).b = (ρ i).b) →
    (∀ p a v i, SVsOk ρ U (ptrsS p a) (ptrsOf p v) → a ∈ as → i ∈ idsOf (ptrsS p a) → σ.reg i = .dead → σ'.reg i = .dead) → PtrsOk ρ' U' σ' ps as vs
  | [], _, _, h, _, _, _ => h
  | p :: ps, _, _, h, hu, hv, hd => by
    obtain ⟨a, as', v, vs', rfl, rfl, h1, h2, h3, h4⟩ := h
    exact ⟨a, as', v, vs', rfl, rfl, h1.mono hu hv, h2, fun i hi => hd p a v i h1 (by simp) hi (h3 i hi), h4.mono hu hv (fun p' a' v' i h5 h6 => hd p' a' v' i h5 (by simp [h6]))⟩

theorem take1_ptrs {p : PT} {av : AV} {σ' : State} {x : den p.ownP} {ts : List Nat} {v : Value} (hR : Rel w0 F0 n ρ U V σ a w) (h : take1 p av σ = some (x, σ', ts)) (hv : AVOk ρ U av v) :
    SVsOk ρ U (ptrsS p av) (ptrsOf p v) ∧ PtrSh (ptrsS p av) ∧ ∀ i, i ∈ idsOf (ptrsS p av) → σ'.reg i = .dead := by
  cases p with
  | val m g T => cases av <;> exact ⟨.nil, fun s hs => (by cases hs), fun i hi => (by cases hi)⟩
  | box t T =>
    have h' : (onSv av fun s => takeBoxes [(t, T)] [s] σ) = some (x, σ', ts) := h
    obtain ⟨s, rfl, h0⟩ := onSv_some h'
    have hs : SVsOk ρ U [s] [v] := .cons hv .nil
    obtain ⟨h1, h2⟩ := takeBoxes_dead hR h0 hs
    exact ⟨hs, h1, h2⟩
  | fn f caps =>
    have h' : (onFn av fun f' ss => if f' = f then takeBoxes caps ss σ else none) = some (x, σ', ts) := h
    obtain ⟨f', ss, rfl, h0⟩ := onFn_some h'
    split at h0
    · obtain ⟨vs, rfl, hvs⟩ := hv
      obtain ⟨h1, h2⟩ := takeBoxes_dead hR h0 hvs
      exact ⟨hvs, h1, h2⟩
    · cases h0
  | io g T => cases av <;> exact ⟨.nil, fun s hs => (by cases hs), fun i hi => (by cases hi)⟩
  | sbox t T => cases av <;> exact ⟨.nil, fun s hs => (by cases hs), fun i hi => (by cases hi)⟩
  | rvar t T => cases av <;> exact ⟨.nil, fun s hs => (by cases hs), fun i hi => (by cases hi)⟩
  | rfn f caps => cases av <;> exact ⟨.nil, fun s hs => (by cases hs), fun i hi => (by cases hi)⟩

theorem takeArgs_less : ∀ {ps : List PT} {as : List AV} {σ σ' : State} {x : den (ownT ps)} {ts : List Nat} {vs : List Value}, Rel w0 F0 n ρ U V σ a w → takeArgs ps as σ = some (x, σ', ts) → AVsOk ρ U as vs →
    Rel w0 F0 n ρ U V σ' a w ∧ Less ρ σ σ' ∧ PtrsOk ρ U σ' ps as vs
  | [], as, σ, σ', x, ts, vs, hR, h, hv => by
    cases as with
    | nil =>
      simp only [takeArgs, Option.some.injEq, Prod.mk.injEq] at h
      obtain ⟨_, rfl, _⟩ := h
      cases hv
      exact ⟨hR, .refl _ _, rfl, rfl⟩
    | cons _ _ => simp [takeArgs] at h
  | p :: ps, as, σ, σ', x, ts, vs, hR, h, hv => by
    cases as with
    | nil => simp [takeArgs] at h
    | cons av as =>
      simp only [takeArgs, Option.bind_eq_some_iff, Option.some.injEq, Prod.mk.injEq] at h
      obtain ⟨⟨x1, σ1, ts1⟩, h1, ⟨x2, σ2, ts2⟩, h2, rfl, rfl, rfl⟩ := h
      cases hv with
      | cons hv1 hv2 =>
        obtain ⟨hR1, hL1⟩ : Rel w0 F0 n ρ U V σ1 a w ∧ Less ρ σ σ1 := by
          cases p with
          | val m g T =>
            cases m with
            | ro =>
              have hs1 : σ = σ1 := by
                have h0 : some ((), σ, ([] : List Nat)) = some (x1, σ1, ts1) := h1
                exact congrArg (fun o : Option (Unit × State × List Nat) => (o.getD ((), σ, [])).2.1) h0
              subst hs1
              exact ⟨hR, .refl _ _⟩
            | own => obtain ⟨s, rfl, h0⟩ := onSv_some (show (onSv av fun s => takeV .own g T s σ) = some (x1, σ1, ts1) from h1); have := takeV_ok (p := .own) rfl hR h0 hv1; exact ⟨this.1, this.2.1⟩
            | own1 => obtain ⟨s, rfl, h0⟩ := onSv_some (show (onSv av fun s => takeV .own1 g T s σ) = some (x1, σ1, ts1) from h1); have := takeV_ok (p := .own1) rfl hR h0 hv1; exact ⟨this.1, this.2.1⟩
          | box t T =>
            obtain ⟨s, rfl, h0⟩ := onSv_some (show (onSv av fun s => takeBoxes [(t, T)] [s] σ) = some (x1, σ1, ts1) from h1)
            have := takeBoxes_ok (vs := [_]) hR h0 (.cons hv1 .nil)
            exact ⟨this.1, this.2.1⟩
          | fn f caps =>
            obtain ⟨f', ss, rfl, h0⟩ := onFn_some (show (onFn av fun f' ss => if f' = f then takeBoxes caps ss σ else none) = some (x1, σ1, ts1) from h1)
            split at h0
            · obtain ⟨vs, rfl, hvs⟩ := hv1
              have := takeBoxes_ok hR h0 hvs
              exact ⟨this.1, this.2.1⟩
            · cases h0
          | io g T => obtain ⟨s, rfl, h0⟩ := onSv_some (show (onSv av fun s => takeV .own g T s σ) = some (x1, σ1, ts1) from h1); have := takeV_ok (p := .own) rfl hR h0 hv1; exact ⟨this.1, this.2.1⟩
          | sbox t T =>
            simp only [take1] at h1
            split at h1
            · rename_i i
              split at h1
              · split at h1
                · cases h1
                  refine ⟨hR.kill i, ⟨rfl, rfl, rfl, fun j => ?_⟩⟩
                  by_cases hj : j = i
                  · subst hj; exact .inr (by simp)
                  · exact .inl (upd_ne _ _ hj)
                · cases h1
              · cases h1
            · cases h1
          | rvar t T =>
            have hs1 : σ = σ1 := by
              have h0 : some ((), σ, ([] : List Nat)) = some (x1, σ1, ts1) := h1
              exact congrArg (fun o : Option (Unit × State × List Nat) => (o.getD ((), σ, [])).2.1) h0
            subst hs1
            exact ⟨hR, .refl _ _⟩
          | rfn f caps =>
            have hs1 : σ = σ1 := by
              have h0 : some ((), σ, ([] : List Nat)) = some (x1, σ1, ts1) := h1
              exact congrArg (fun o : Option (Unit × State × List Nat) => (o.getD ((), σ, [])).2.1) h0
            subst hs1
            exact ⟨hR, .refl _ _⟩
        obtain ⟨k1, k2, k3⟩ := take1_ptrs hR h1 hv1
        obtain ⟨hR2, hL2, k4⟩ := takeArgs_less hR1 h2 hv2
        refine ⟨hR2, hL1.trans hL2, _, _, _, _, rfl, rfl, k1, k2, fun i hi => ?_, k4⟩
        rcases hL2.reg i with e | e
        · rw [e]; exact k3 i hi
        · exact e

def idsAll : List PT → List AV → List Nat
  | p :: ps, a :: as => idsOf (ptrsS p a) ++ idsAll ps as
  | _, _ => []

theorem after_ids : ∀ {ps : List PT} {as : List AV} {vs : List Value} {z : den (boxT ps)} {o : List Nat}, PtrsOk ρ U σ ps as vs → AfterOk w ps vs z o → ∀ j, j ∈ idsAll ps as → U j ∧ (ρ j).b ∈ o
  | [], as, vs, z, o, hp, hA, j, hj => by cases as <;> cases hj
  | p :: ps, as, vs, z, o, hp, hA, j, hj => by
    obtain ⟨a, as', v, vs', rfl, rfl, h1, h2, h3, h4⟩ := hp
    obtain ⟨v2, vs2, o1, o2, he, hB, hA2, rfl⟩ := hA
    cases he
    simp only [idsAll, List.mem_append] at hj
    rcases hj with hj | hj
    · have := boxes_ids h1 hB h2 j hj
      exact ⟨this.1, by simp [this.2]⟩
    · have := after_ids h4 hA2 j hj
      exact ⟨this.1, by simp [this.2]⟩

theorem giveAfter_nx : ∀ (ps : List PT) (as : List AV) (z : den (boxT ps)) (σ : State), σ.nx ≤ (giveAfter ps as z σ).nx ∧ σ.ck ≤ (giveAfter ps as z σ).ck
  | [], as, z, σ => by cases as <;> exact ⟨Nat.le_refl _, Nat.le_refl _⟩
  | p :: ps, [], z, σ => ⟨Nat.le_refl _, Nat.le_refl _⟩
  | p :: ps, a :: as, z, σ => by
    have h1 := giveBoxes_nx p.boxes (ptrsS p a) (p.bx z.1) σ
    have h2 := giveAfter_nx ps as z.2 (giveBoxes p.boxes (ptrsS p a) (p.bx z.1) σ)
    exact ⟨Nat.le_trans h1.1 h2.1, Nat.le_trans h1.2 h2.2⟩

theorem PtrsOk.upd {ρ' : Nat → RB} {U' : Nat → Prop} {σ' : State} : ∀ {ps : List PT} {as : List AV} {vs : List Value}, PtrsOk ρ U σ ps as vs → (∀ i, U i → U' i) → (∀ i, U i → ρ' i = ρ i) →
    (∀ i, i ∈ idsAll ps as → σ.reg i = .dead → σ'.reg i = .dead) → PtrsOk ρ' U' σ' ps as vs
  | [], _, _, h, _, _, _ => h
  | p :: ps, _, _, h, hu, hv, hd => by
    obtain ⟨a, as', v, vs', rfl, rfl, h1, h2, h3, h4⟩ := h
    exact ⟨a, as', v, vs', rfl, rfl, h1.mono hu (fun i hi => by rw [hv i hi]; exact ⟨rfl, rfl⟩), h2, fun i hi => hd i (by simp [idsAll, hi]) (h3 i hi), h4.upd hu hv (fun i h5 => hd i (by simp [idsAll, h5]))⟩

theorem giveAfter_ok : ∀ {ps : List PT} {as : List AV} {vs : List Value} {z : den (boxT ps)} {ρ : Nat → RB} {U V : Nat → Prop} {σ : State} {o : List Nat}, Rel w0 F0 n ρ U V σ a w → AfterOk w ps vs z o → PtrsOk ρ U σ ps as vs → o.Nodup → Fr w0 F0 ρ σ o → Free U V σ (giveAfter ps as z σ) →
    ∃ ρ' U' V', Rel w0 F0 n ρ' U' V' (giveAfter ps as z σ) a w ∧ Mo ρ ρ' U U' V V' σ (giveAfter ps as z σ) (idsAll ps as) o
  | [], as, vs, z, ρ, U, V, σ, o, hR, hA, hP, hn, hf, hF => by
    obtain ⟨rfl, rfl⟩ := hP
    have ho : o = [] := hA
    subst ho
    exact ⟨ρ, U, V, hR, .refl _ _ _ _⟩
  | p :: ps, as, vs, z, ρ, U, V, σ, o, hR, hA, hP, hn, hf, hF => by
    have hP0 := hP
    have hA0 := hA
    obtain ⟨av, as', v, vs', rfl, rfl, h1, h2, h3, h4⟩ := hP
    obtain ⟨v2, vs2, o1, o2, he, hB, hA2, rfl⟩ := hA
    cases he
    have hn' := List.nodup_append.1 hn
    have hnx := giveAfter_nx ps as' z.2 (giveBoxes p.boxes (ptrsS p av) (p.bx z.1) σ)
    obtain ⟨ρ1, U1, V1, hR1, hM1⟩ := giveBoxes_ok hR hB h1 h3 hn'.1 (hf.sub (fun b hb => by simp [hb])) (hF.mono hnx.1 hnx.2) h2
    have hnx1 := giveBoxes_nx p.boxes (ptrsS p av) (p.bx z.1) σ
    obtain ⟨ρ2, U2, V2, hR2, hM2⟩ := giveAfter_ok (z := z.2) hR1 hA2 (h4.upd (fun i hi => (hM1.u i).2 (.inl hi)) hM1.rho (fun i hi hd => by
      obtain ⟨hUi, hbi⟩ := after_ids h4 hA2 i hi
      rw [hM1.reg i (fun q => hF.1 i q.1 (Nat.lt_of_lt_of_le q.2 hnx.1) hUi) (fun hi2 => hn'.2.2 _ (boxes_ids h1 hB h2 i hi2).2 _ hbi rfl)]
      exact hd)) hn'.2.1 (hf.mo hn hM1) (hF.after hM1)
    exact ⟨ρ2, U2, V2, hR2, hM1.trans hM2⟩

/-! ### Values whose slices stay where they are -/

structure Mi (ρ ρ' : Nat → RB) (U U' V V' : Nat → Prop) (σ σ' : State) (ids o : List Nat) : Prop where
  sl : σ'.sl = σ.sl
  nx : σ'.nx = σ.nx
  ck : σ.ck ≤ σ'.ck
  off : ∀ i, i ∉ ids → ρ' i = ρ i
  rho : ∀ i, (ρ' i).v = (ρ i).v ∧ (ρ' i).b = (ρ i).b
  reg : ∀ i, i ∉ ids → σ'.reg i = σ.reg i
  u : ∀ i, U' i ↔ U i
  v : ∀ i, (V i → V' i) ∧ (V' i → V i ∨ (σ.ck ≤ i ∧ i < σ'.ck))
  own : ∀ j b, b ∈ ownB (σ'.reg j) (ρ' j) → b ∈ ownB (σ.reg j) (ρ j) ∨ b ∈ o
  ro : ∀ j b, b ∈ roB (σ'.reg j) (ρ' j) → b ∈ roB (σ.reg j) (ρ j)

theorem Mi.refl (ρ : Nat → RB) (U V : Nat → Prop) (σ : State) (ids o : List Nat) : Mi ρ ρ U U V V σ σ ids o :=
  ⟨rfl, rfl, Nat.le_refl _, fun _ _ => rfl, fun _ => ⟨rfl, rfl⟩, fun _ _ => rfl, fun _ => .rfl, fun _ => ⟨id, .inl⟩, fun _ _ => .inl, fun _ _ => id⟩

theorem Mi.trans {ρ ρ' ρ'' : Nat → RB} {U U' U'' V V' V'' : Nat → Prop} {a b c : State} {i1 i2 o1 o2 : List Nat} (h : Mi ρ ρ' U U' V V' a b i1 o1) (k : Mi ρ' ρ'' U' U'' V' V'' b c i2 o2) : Mi ρ ρ'' U U'' V V'' a c (i1 ++ i2) (o1 ++ o2) := by
  have h3 := h.ck
  have h4 := k.ck
  refine ⟨k.sl.trans h.sl, k.nx.trans h.nx, Nat.le_trans h.ck k.ck, fun i hi => ?_, fun i => ⟨(k.rho i).1.trans (h.rho i).1, (k.rho i).2.trans (h.rho i).2⟩, fun i hi => ?_, fun i => (k.u i).trans (h.u i), fun i => ⟨fun hv => (k.v i).1 ((h.v i).1 hv), fun hv => ?_⟩, fun j b hb => ?_, fun j b hb => h.ro j b (k.ro j b hb)⟩
  · simp only [List.mem_append, not_or] at hi
    exact (k.off i hi.2).trans (h.off i hi.1)
  · simp only [List.mem_append, not_or] at hi
    exact (k.reg i hi.2).trans (h.reg i hi.1)
  · rcases (k.v i).2 hv with q | q
    · rcases (h.v i).2 q with q | q
      · exact .inl q
      · exact .inr ⟨q.1, by omega⟩
    · exact .inr ⟨by omega, q.2⟩
  · simp only [List.mem_append]
    rcases k.own j b hb with q | q
    · rcases h.own j b q with q | q
      · exact .inl q
      · exact .inr (.inl q)
    · exact .inr (.inr q)

theorem Mi.sub {ρ ρ' : Nat → RB} {U U' V V' : Nat → Prop} {σ σ' : State} {ids ids' o o' : List Nat} (h : Mi ρ ρ' U U' V V' σ σ' ids o) (hi : ∀ i, i ∈ ids → i ∈ ids') (ho : ∀ b, b ∈ o → b ∈ o') : Mi ρ ρ' U U' V V' σ σ' ids' o' :=
  { h with off := fun i hn => h.off i (fun q => hn (hi i q)), reg := fun i hn => h.reg i (fun q => hn (hi i q)), own := fun j b hb => (h.own j b hb).imp id (ho b) }

theorem giveIO_rest {T : Ty} : ∀ (ls : List Lf) (z : den T) (σ : State), (giveIO T ls z σ).1 = ls.drop (size T) := by
  induction T with
  | pair a b iha ihb =>
    intro ls z σ
    simp only [giveIO, size]
    rw [ihb, iha, List.drop_drop]
  | unit => intro ls z σ; simp [giveIO, size]
  | sl t e ih =>
    intro ls z σ
    cases ls with
    | nil => simp [giveIO]
    | cons l ls => cases l <;> simp [giveIO, size]
  | _ => intro ls z σ; simp [giveIO, size]

theorem refs_drop : ∀ (k : Nat) (ls : List Lf) (i : Nat), i ∈ refs (ls.drop k) → i ∈ refs ls
  | 0, ls, i, h => by simpa using h
  | k + 1, [], i, h => by simpa using h
  | k + 1, l :: ls, i, h => by
    have := refs_drop k ls i (by simpa using h)
    cases l <;> simp [refs, this]

theorem giveIO_ck {T : Ty} : ∀ (ls : List Lf) (z : den T) (σ : State), σ.ck ≤ (giveIO T ls z σ).2.ck := by
  induction T with
  | pair a b iha ihb =>
    intro ls z σ
    simp only [giveIO]
    exact Nat.le_trans (iha _ _ _) (ihb _ _ _)
  | sl t e ih =>
    intro ls z σ
    cases ls with
    | nil => simp [giveIO]
    | cons l ls =>
      cases l with
      | ref i =>
        simp only [giveIO]
        split
        · exact Nat.le_succ _
        · exact Nat.le_refl _
      | _ => simp [giveIO]
  | _ => intro ls z σ; simp [giveIO]

theorem giveIO_ok {T : Ty} : ∀ {ρ : Nat → RB} {U V : Nat → Prop} {σ : State} {ls : List Lf} {z : den T} {c1 c2 : List Value} {o : List Nat}, Rel w0 F0 n ρ U V σ a w → LfsOk ρ U ls (c1 ++ c2) → Rd w .own T c1 z o [] → o.Nodup → Fr w0 F0 ρ σ o →
    (∀ v, σ.ck ≤ v → v < (giveIO T ls z σ).2.ck → ¬ V v) → ∃ ρ' U' V', Rel w0 F0 n ρ' U' V' (giveIO T ls z σ).2 a w ∧ LfsOk ρ' U' (giveIO T ls z σ).1 c2 ∧ Mi ρ ρ' U U' V V' σ (giveIO T ls z σ).2 (refs ls) o := by
  have one : ∀ {T : Ty} {ρ : Nat → RB} {U V : Nat → Prop} {σ : State} {ls : List Lf} {z : den T} {c1 c2 : List Value} {o : List Nat}, Rel w0 F0 n ρ U V σ a w → LfsOk ρ U ls (c1 ++ c2) → c1.length = size T → (giveIO T ls z σ).2 = σ →
      ∃ ρ' U' V', Rel w0 F0 n ρ' U' V' (giveIO T ls z σ).2 a w ∧ LfsOk ρ' U' (giveIO T ls z σ).1 c2 ∧ Mi ρ ρ' U U' V V' σ (giveIO T ls z σ).2 (refs ls) o := by
    intro T ρ U V σ ls z c1 c2 o hR hL hl he
    rw [he, giveIO_rest]
    refine ⟨ρ, U, V, hR, ?_, .refl _ _ _ _ _ _⟩
    have := hL.drop (size T)
    rwa [← hl, List.drop_left, hl] at this
  induction T with
  | pair x y iha ihb =>
    intro ρ U V σ ls z c1 c2 o hR hL hz hn hf hck
    obtain ⟨d1, d2, o1, o2, r1, r2, rfl, h1, h2, rfl, hr⟩ := hz
    have hr1 : r1 = [] := h1.noRo
    have hr2 : r2 = [] := h2.noRo
    subst hr1; subst hr2
    have hn' := List.nodup_append.1 hn
    simp only [giveIO] at hck ⊢
    have hc2 := giveIO_ck (T := y) (giveIO x ls z.1 σ).1 z.2 (giveIO x ls z.1 σ).2
    obtain ⟨ρ1, U1, V1, k1, k2, k3⟩ := iha (c2 := d2 ++ c2) hR (by rwa [List.append_assoc] at hL) h1 hn'.1 (hf.sub (fun b hb => by simp [hb])) (fun v q1 q2 => hck v q1 (Nat.lt_of_lt_of_le q2 hc2))
    obtain ⟨ρ2, U2, V2, m1, m2, m3⟩ := ihb k1 k2 h2 hn'.2.1 (fun b hb => by
      have h5 := hf b (by simp [hb])
      refine ⟨fun j => ⟨fun hj => ?_, fun hj => (h5.1 j).2 (k3.ro j b hj)⟩, h5.2⟩
      rcases k3.own j b hj with q | q
      · exact (h5.1 j).1 q
      · exact hn'.2.2 b q b hb rfl) (fun v q1 q2 hv => by
      have h6 := k3.ck
      rcases (k3.v v).2 hv with q | q
      · exact hck v (by omega) q2 q
      · omega)
    refine ⟨ρ2, U2, V2, m1, m2, (k3.trans m3).sub (fun i hi => ?_) (fun _ => id)⟩
    simp only [List.mem_append] at hi
    rcases hi with hi | hi
    · exact hi
    · rw [giveIO_rest] at hi
      exact refs_drop _ _ _ hi
  | sl t e ih =>
    intro ρ U V σ ls z c1 c2 o hR hL hz hn hf hck
    have hl := hz.length
    cases ls with
    | nil => exact one hR hL hl rfl
    | cons l ls =>
      cases l with
      | ref i =>
        simp only [giveIO] at hck ⊢
        cases hd : σ.reg i with
        | dead =>
          rw [hd] at hck
          obtain ⟨v', es, o0, r0, o', r', hc1, _⟩ := id hz
          subst hc1
          cases hL with
          | cons hL1 hL2 =>
            obtain ⟨hU, hv, _⟩ := hL1
            subst hv
            have hlay := hR.lay i (.lst .own t e z σ.ck) ⟨(ρ i).v, (ρ i).b, o, []⟩ hd (fun _ => ⟨rfl, rfl⟩) hz hn (fun b hb => ⟨(hf b hb).1, (hf b hb).2, by simp [roB]⟩) (fun b hb => by simp [roB] at hb) (fun p v t' e' xs x he => by cases he)
              (fun v hv => by have := ver_lst hv; subst this; exact hck _ (Nat.le_refl _) (Nat.lt_succ_self _)) σ.nx (σ.ck + 1)
            have hrho : ∀ j, (upd ρ i ⟨(ρ i).v, (ρ i).b, o, []⟩ j).v = (ρ j).v ∧ (upd ρ i ⟨(ρ i).v, (ρ i).b, o, []⟩ j).b = (ρ j).b := by
              intro j
              by_cases hj : j = i
              · subst hj; simp
              · rw [upd_ne _ _ hj]; exact ⟨rfl, rfl⟩
            refine ⟨_, _, _, hlay, LfsOk.mono (fun _ h => .inl h) (fun j _ => hrho j) (by simpa using hL2), ⟨rfl, rfl, Nat.le_succ _, fun j hj => upd_ne _ _ (fun e => hj (by subst e; simp [refs])), hrho, fun j hj => upd_ne _ _ (fun e => hj (by subst e; simp [refs])), fun j => ⟨fun h => h.elim id (fun e => e ▸ hU), .inl⟩, fun v => ⟨.inl, fun h => h.imp id (fun h => ?_)⟩, fun j b hb => ?_, fun j b hb => ?_⟩⟩
            · have := ver_lst h; subst this; exact ⟨Nat.le_refl _, Nat.lt_succ_self _⟩
            · by_cases hj : j = i
              · subst hj
                simp only [upd_same] at hb
                exact .inr hb
              · simp only [upd_ne _ _ hj] at hb
                exact .inl hb
            · by_cases hj : j = i
              · subst hj; simp [roB] at hb
              · simp only [upd_ne _ _ hj] at hb; exact hb
        | lst k' t' e' xs ver =>
          have := one (z := z) (o := o) hR hL hl (by simp [giveIO, hd])
          simpa [giveIO, hd] using this
        | box t' cells =>
          have := one (z := z) (o := o) hR hL hl (by simp [giveIO, hd])
          simpa [giveIO, hd] using this
      | _ => exact one hR hL hl rfl
  | unit => intro ρ U V σ ls z c1 c2 o hR hL hz hn hf hck; exact one hR hL hz.length rfl
  | int k => intro ρ U V σ ls z c1 c2 o hR hL hz hn hf hck; exact one hR hL hz.length rfl
  | bool => intro ρ U V σ ls z c1 c2 o hR hL hz hn hf hck; exact one hR hL hz.length rfl
  | str => intro ρ U V σ ls z c1 c2 o hR hL hz hn hf hck; exact one hR hL hz.length rfl

/-- the entries that may be laid anew -/
def ioIds1 (p : PT) (a : AV) : List Nat := match p with
  | .io _ _ => match a with
    | .sv s => refs s.leaves
    | _ => []
  | .sbox _ _ => match a with
    | .sv (.lf (.ptr i 0)) => [i]
    | _ => []
  | _ => []

def ioIds : List PT → List AV → List Nat
  | p :: ps, a :: as => ioIds1 p a ++ ioIds ps as
  | _, _ => []

theorem giveIO1_ck (p : PT) (av : AV) (z : den p.aft) (σ0 σ : State) : σ.ck ≤ (giveIO1 p av z σ0 σ).ck := by
  cases p with
  | io g T =>
    cases av with
    | sv s =>
      simp only [giveIO1]
      split
      · exact giveIO_ck _ _ _
      · exact Nat.le_refl _
    | _ => exact Nat.le_refl _
  | sbox t T =>
    simp only [giveIO1]
    split
    · split
      · split <;> exact Nat.le_refl _
      · exact Nat.le_refl _
    · exact Nat.le_refl _
  | _ => exact Nat.le_refl _

theorem giveIOs_ck : ∀ (ps : List PT) (as : List AV) (z : den (boxT ps)) (σ0 σ : State), σ.ck ≤ (giveIOs ps as z σ0 σ).ck
  | [], as, z, σ0, σ => by cases as <;> exact Nat.le_refl _
  | p :: ps, [], z, σ0, σ => Nat.le_refl _
  | p :: ps, av :: as, z, σ0, σ => Nat.le_trans (giveIO1_ck p av z.1 σ0 σ) (giveIOs_ck ps as z.2 σ0 _)

theorem LfsOk.length' {ls : List Lf} {cs : List Value} (h : LfsOk ρ U ls cs) : ls.length = cs.length := h.length.symm

theorem Keep.length {T : Ty} : ∀ {c d : List Value} {z : den T}, Keep T c d z → c.length = size T ∧ d.length = size T := by
  induction T with
  | pair a b iha ihb =>
    intro c d z h
    obtain ⟨c1, c2, d1, d2, rfl, rfl, h1, h2⟩ := h
    obtain ⟨q1, q2⟩ := iha h1
    obtain ⟨q3, q4⟩ := ihb h2
    simp [size, q1, q2, q3, q4]
  | unit => intro c d z h; obtain ⟨rfl, rfl⟩ := h; simp [size]
  | _ => intro c d z h; obtain ⟨h1, rfl⟩ := h; simp [size, h1]

theorem keepL_ok {T : Ty} : ∀ {ls : List Lf} {c d : List Value} {z : den T}, LfsOk ρ U ls c → Keep T c d z → LfsOk ρ U (keepL T ls z) d := by
  induction T with
  | pair a b iha ihb =>
    intro ls c d z hl h
    obtain ⟨c1, c2, d1, d2, rfl, rfl, h1, h2⟩ := h
    have hl1 := h1.length.1
    have e1 := hl.take (size a)
    have e2 := hl.drop (size a)
    rw [← hl1, List.take_left, hl1] at e1
    rw [← hl1, List.drop_left, hl1] at e2
    exact (iha e1 h1).append (ihb e2 h2)
  | unit => intro ls c d z hl h; obtain ⟨rfl, rfl⟩ := h; exact .nil
  | int k => intro ls c d z hl h; obtain ⟨_, rfl⟩ := h; exact .cons ⟨rfl, rfl⟩ .nil
  | bool => intro ls c d z hl h; obtain ⟨_, rfl⟩ := h; exact .cons ⟨rfl, rfl⟩ .nil
  | str => intro ls c d z hl h; obtain ⟨_, rfl⟩ := h; exact .cons ⟨rfl, rfl⟩ .nil
  | sl t e ih =>
    intro ls c d z hl h
    obtain ⟨h1, rfl⟩ := h
    have h0 := hl.length
    have := hl.take 1
    rw [List.take_of_length_le (l := d) (by omega)] at this
    exact this

/-- the variables as they stood ahead of the call -/
def Bx (wi : World) (ρ : Nat → RB) (U : Nat → Prop) (σ0 : State) : Prop := ∀ i t ls, σ0.reg i = .box t ls → ∃ cs : Array Value, wi.heap[(ρ i).b]? = some (.cells cs t (0, 0)) ∧ LfsOk ρ U ls cs.toList

theorem Bx.mono {wi : World} {ρ' : Nat → RB} {U' : Nat → Prop} {σ0 : State} (h : Bx wi ρ U σ0) (hu : ∀ i, U i → U' i) (hv : ∀ i, U i → (ρ' i).v = (ρ i).v ∧ (ρ' i).b = (ρ i).b) (hb : ∀ i t ls, σ0.reg i = .box t ls → U i) : Bx wi ρ' U' σ0 := by
  intro i t ls hr
  obtain ⟨cs, h1, h2⟩ := h i t ls hr
  exact ⟨cs, by rw [(hv i (hb i t ls hr)).2]; exact h1, h2.mono hu hv⟩

theorem giveIO1_ok {wi : World} {p : PT} {av : AV} {v : Value} {z : den p.aft} {o : List Nat} {σ0 : State} (hR : Rel w0 F0 n ρ U V σ a w) (hB : Bx wi ρ U σ0) (hI : Io1Ok wi w p v z o) (hv : AVOk ρ U av v) (hn : o.Nodup) (hf : Fr w0 F0 ρ σ o) (hck : ∀ v, σ.ck ≤ v → v < (giveIO1 p av z σ0 σ).ck → ¬ V v) :
    ∃ ρ' U' V', Rel w0 F0 n ρ' U' V' (giveIO1 p av z σ0 σ) a w ∧ Mi ρ ρ' U U' V V' σ (giveIO1 p av z σ0 σ) (ioIds1 p av) o := by
  cases p with
  | io g T =>
    cases av with
    | sv s =>
      simp only [giveIO1] at hck ⊢
      split
      · rename_i hs
        rw [if_pos hs] at hck
        obtain ⟨cs, h1, h2⟩ := hI
        have hl : LfsOk ρ U s.leaves (cs ++ []) := by
          have h3 := SVOk.leaves (s := s) hv
          rw [List.append_nil]
          cases g with
          | true =>
            have h1' : v = .agg cs.toArray := h1
            rw [h1'] at h3
            simpa [Value.cells] using h3
          | false =>
            have h1' : cs = [v] := h1
            cases s with
            | agg ls => simp [shp] at hs
            | lf l =>
              have h5 : LfOk ρ U l v := hv
              rw [h1']
              exact .cons h5 .nil
        obtain ⟨ρ', U', V', k1, _, k3⟩ := giveIO_ok hR hl h2 hn hf hck
        exact ⟨ρ', U', V', k1, k3⟩
      · exact ⟨ρ, U, V, hR, .refl _ _ _ _ _ _⟩
    | _ => exact ⟨ρ, U, V, hR, .refl _ _ _ _ _ _⟩
  | sbox t T =>
    simp only [giveIO1]
    split
    · rename_i i
      split
      · rename_i t0 ls h0
        split
        · rename_i hd
          obtain ⟨blk, cs, cs', hv1, hh, hh', hk, rfl⟩ := hI
          obtain ⟨hU, hv2⟩ := hv
          have hbe : (ρ i).b = blk := by
            rw [hv1] at hv2
            injection hv2 with hv2
            injection hv2 with hv2
            injection hv2 with e1 _ _
            exact e1.symm
          obtain ⟨cs0, h1, h2⟩ := hB i t0 ls h0
          rw [hbe, hh] at h1
          cases h1
          have hup : upd ρ i (ρ i) = ρ := by
            funext j
            by_cases hj : j = i
            · subst hj; simp
            · exact upd_ne _ _ hj
          have hUU : (fun j => U j ∨ j = i) = U := by
            funext j
            exact propext ⟨fun h => h.elim id (fun e => e ▸ hU), .inl⟩
          have hVV : (fun v => V v ∨ (Ent.box t (keepL T ls z)).ver = some v) = V := by
            funext v
            exact propext ⟨fun h => h.elim id (fun h => by cases h), .inl⟩
          have hlay := hR.lay i (.box t (keepL T ls z)) (ρ i) hd (fun _ => ⟨rfl, rfl⟩) ⟨cs', by rw [hbe]; exact hh', by rw [hup, hUU]; exact keepL_ok h2 hk⟩ (by simp [ownB]) (fun b' hb' => by
            simp only [ownB, List.mem_singleton] at hb'
            subst hb'
            have h5 := hf (ρ i).b (by simp [hbe])
            exact ⟨h5.1, h5.2, by simp [roB]⟩) (fun b' hb' => by simp [roB] at hb') (fun p v t' e' xs x he => by cases he) (fun v hv => by cases hv) σ.nx σ.ck
          rw [hup, hUU, hVV] at hlay
          refine ⟨ρ, U, V, hlay, ⟨rfl, rfl, Nat.le_refl _, fun _ _ => rfl, fun _ => ⟨rfl, rfl⟩, fun j hj => upd_ne _ _ (fun e => hj (by subst e; simp [ioIds1])), fun _ => .rfl, fun _ => ⟨id, .inl⟩, fun j b hb => ?_, fun j b hb => ?_⟩⟩
          · by_cases hj : j = i
            · subst hj
              simp only [upd_same, ownB, List.mem_singleton] at hb
              exact .inr (by simp [hb, hbe])
            · simp only [upd_ne _ _ hj] at hb
              exact .inl hb
          · by_cases hj : j = i
            · subst hj; simp [roB] at hb
            · simp only [upd_ne _ _ hj] at hb; exact hb
        · exact ⟨ρ, U, V, hR, .refl _ _ _ _ _ _⟩
      · exact ⟨ρ, U, V, hR, .refl _ _ _ _ _ _⟩
    · exact ⟨ρ, U, V, hR, .refl _ _ _ _ _ _⟩
  | _ => exact ⟨ρ, U, V, hR, .refl _ _ _ _ _ _⟩

theorem AVsOk.mono {ρ' : Nat → RB} {U' : Nat → Prop} (hn : ∀ i, U i → U' i) (h : ∀ i, U i → (ρ' i).v = (ρ i).v ∧ (ρ' i).b = (ρ i).b) {as : List AV} {vs : List Value} (hl : AVsOk ρ U as vs) : AVsOk ρ' U' as vs := by
  induction hl with
  | nil => exact .nil
  | cons h1 _ ih => exact .cons (h1.mono hn h) ih

theorem giveIOs_ok {wi : World} {σ0 : State} : ∀ {ps : List PT} {as : List AV} {vs : List Value} {z : den (boxT ps)} {ρ : Nat → RB} {U V : Nat → Prop} {σ : State} {o : List Nat}, Rel w0 F0 n ρ U V σ a w → Bx wi ρ U σ0 → (∀ i t ls, σ0.reg i = .box t ls → U i) → IosOk wi w ps vs z o → AVsOk ρ U as vs → o.Nodup → Fr w0 F0 ρ σ o →
    (∀ v, σ.ck ≤ v → v < (giveIOs ps as z σ0 σ).ck → ¬ V v) → ∃ ρ' U' V', Rel w0 F0 n ρ' U' V' (giveIOs ps as z σ0 σ) a w ∧ Mi ρ ρ' U U' V V' σ (giveIOs ps as z σ0 σ) (ioIds ps as) o
  | [], as, vs, z, ρ, U, V, σ, o, hR, hB, hbu, hI, hA, hn, hf, hck => by
    cases as <;> exact ⟨ρ, U, V, hR, .refl _ _ _ _ _ _⟩
  | p :: ps, [], vs, z, ρ, U, V, σ, o, hR, hB, hbu, hI, hA, hn, hf, hck => ⟨ρ, U, V, hR, .refl _ _ _ _ _ _⟩
  | p :: ps, av :: as, vs, z, ρ, U, V, σ, o, hR, hB, hbu, hI, hA, hn, hf, hck => by
    obtain ⟨v, vs', o1, o2, rfl, h1, h2, rfl⟩ := hI
    cases hA with
    | cons hA1 hA2 =>
      have hn' := List.nodup_append.1 hn
      simp only [giveIOs] at hck ⊢
      have hc := giveIOs_ck ps as z.2 σ0 (giveIO1 p av z.1 σ0 σ)
      obtain ⟨ρ1, U1, V1, k1, k3⟩ := giveIO1_ok hR hB h1 hA1 hn'.1 (hf.sub (fun b hb => by simp [hb])) (fun v q1 q2 => hck v q1 (Nat.lt_of_lt_of_le q2 hc))
      obtain ⟨ρ2, U2, V2, m1, m3⟩ := giveIOs_ok (z := z.2) k1 (hB.mono (fun i hi => (k3.u i).2 hi) (fun i _ => k3.rho i) hbu) (fun i t ls h => (k3.u i).2 (hbu i t ls h)) h2 (hA2.mono (fun i hi => (k3.u i).2 hi) (fun i _ => k3.rho i)) hn'.2.1 (fun b hb => by
        have h5 := hf b (by simp [hb])
        refine ⟨fun j => ⟨fun hj => ?_, fun hj => (h5.1 j).2 (k3.ro j b hj)⟩, h5.2⟩
        rcases k3.own j b hj with q | q
        · exact (h5.1 j).1 q
        · exact hn'.2.2 b q b hb rfl) (fun v q1 q2 hv => by
        have h6 := k3.ck
        rcases (k3.v v).2 hv with q | q
        · exact hck v (by omega) q2 q
        · omega)
      exact ⟨ρ2, U2, V2, m1, k3.trans m3⟩
end
end Go.Vf
