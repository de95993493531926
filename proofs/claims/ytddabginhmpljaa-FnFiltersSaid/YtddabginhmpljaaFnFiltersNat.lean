/- Native functions: what the Go functions compute. Printed by a program of this session's. -/
import Derived.Test.YtddabginhmpljaaVhA
namespace Go.Vf
set_option linter.unusedVariables false

def spec_NewFilter (N : Nat) : Option (((List Bool) × Unit) × Unit) :=
  bif (decide (0 ≤ (64 : Int)) && decide ((64 : Int) ≤ 1099511627776)) then
  some (((List.replicate (Int.toNat (64 : Int)) false), ()), ())
  else none

def spec_l1Cur_next (N : Nat) (c_0 : ((List Int) × (Int × Int))) : Option ((Int × Unit) × (((List Int) × (Int × Int)) × Unit)) :=
  Option.bind (α := (Int × Unit)) (bif (decide (c_0.2.1 < (c_0.1.length : Int))) then
  bif (decide (0 ≤ c_0.2.1) && decide (c_0.2.1 < (c_0.1.length : Int))) then
  some ((IntKind.wrap .i64 (c_0.1.getD (Int.toNat c_0.2.1) (0 : Int))), ())
  else none
  else
  some ((0 : Int), ())) fun j1 =>
  let v2 : Int := (IntKind.wrap .u64 ((IntKind.wrap .u64 (c_0.2.2 * (6364136223846793005 : Int))) + (IntKind.wrap .u64 j1.1)))
  let v3 : Bool := (decide ((IntKind.wrap .i64 (c_0.2.1 + (1 : Int))) ≤ (c_0.1.length : Int)))
  bif v3 then
  some ((j1.1, ()), ((([] : (List Int)), ((IntKind.wrap .i64 (c_0.2.1 + (1 : Int))), (IntKind.wrap .u64 (v2 + (1442695040888963407 : Int))))), ()))
  else
  bif decide (0 ≤ (40 : Int)) then
  let v4 : Int := (Int.fdiv (IntKind.wrap .u64 (v2 + (1442695040888963407 : Int))) (2 ^ shOf .u64 (40 : Int)))
  some (((IntKind.wrap .i64 (bAnd .u64 v4 (255 : Int))), ()), ((([] : (List Int)), ((IntKind.wrap .i64 (c_0.2.1 + (1 : Int))), (IntKind.wrap .u64 (v2 + (1442695040888963407 : Int))))), ()))
  else none

def spec_l1Cur_pick (N : Nat) (c_0 : ((List Int) × (Int × Int))) (n_1 : Int) : Option ((Int × Unit) × (((List Int) × (Int × Int)) × (Unit × Unit))) :=
  bif (decide (n_1 ≤ (1 : Int))) then
  some (((0 : Int), ()), ((([] : (List Int)), c_0.2), ((), ())))
  else
  Option.bind (spec_l1Cur_next N c_0) fun r1 =>
  Option.bind (α := (Int × (((List Int) × (Int × Int)) × Unit))) (bif (decide (n_1 > (200 : Int))) then
  Option.bind (spec_l1Cur_next N (c_0.1, r1.2.1.2)) fun r2 =>
  let v3 : Int := (IntKind.wrap .i64 ((IntKind.wrap .i64 (r1.1.1 * (256 : Int))) + r2.1.1))
  some (v3, ((([] : (List Int)), r2.2.1.2), ()))
  else
  some (r1.1.1, ((([] : (List Int)), r1.2.1.2), ()))) fun j4 =>
  bif (n_1 != 0) then
  some (((Int.tmod j4.1 n_1), ()), ((([] : (List Int)), j4.2.1.2), ((), ())))
  else none

def spec_l1Put (N : Nat) (l_0 : (List Int)) (n_1 : Int) : Option (((List Int) × Unit) × (Unit × (Unit × Unit))) :=
  Option.bind (α := (Int × Unit)) (iter N (fun self1 (e2 : (Int × Unit)) =>
  Option.bind (α := (Bool × Unit)) (bif (decide (e2.1 < (l_0.length : Int))) then
  bif (decide (0 ≤ e2.1) && decide (e2.1 < (l_0.length : Int))) then
  some ((decide ((l_0.getD (Int.toNat e2.1) (0 : Int)) < n_1)), ())
  else none
  else
  some (false, ())) fun j3 =>
  bif j3.1 then
  self1 ((IntKind.wrap .i64 (e2.1 + (1 : Int))), ())
  else
  some (e2.1, ())) ((0 : Int), ())) fun j4 =>
  Option.bind (α := (Bool × Unit)) (bif (decide (j4.1 < (l_0.length : Int))) then
  bif (decide (0 ≤ j4.1) && decide (j4.1 < (l_0.length : Int))) then
  some (((l_0.getD (Int.toNat j4.1) (0 : Int)) == n_1), ())
  else none
  else
  some (false, ())) fun j5 =>
  bif j5.1 then
  some ((l_0, ()), ((), ((), ())))
  else
  bif (decide (0 ≤ j4.1) && decide (j4.1 ≤ (l_0.length : Int))) then
  bif decide (([] : (List Int)).length + ((l_0.take (Int.toNat j4.1)).drop 0).length ≤ 1099511627776) then
  let v6 : List Int := (([] : (List Int)) ++ ((l_0.take (Int.toNat j4.1)).drop 0))
  bif decide (v6.length + ([n_1] : List Int).length ≤ 1099511627776) then
  bif (decide (0 ≤ j4.1) && decide (j4.1 ≤ (l_0.length : Int))) then
  bif decide ((v6 ++ ([n_1] : List Int)).length + ((l_0.take l_0.length).drop (Int.toNat j4.1)).length ≤ 1099511627776) then
  let v7 : List Int := ((v6 ++ ([n_1] : List Int)) ++ ((l_0.take l_0.length).drop (Int.toNat j4.1)))
  some ((v7, ()), ((), ((), ())))
  else none
  else none
  else none
  else none
  else none

def spec_l13Bits (N : Nat) (key_0 : Int) : Option (((List Int) × Unit) × (Unit × Unit)) :=
  Option.bind (α := ((List Int) × Unit)) (iter N (fun self1 (e2 : ((List Int) × (Int × Unit))) =>
  bif (decide (e2.2.1 < (3 : Int))) then
  let v3 : Int := (IntKind.wrap .i64 ((IntKind.wrap .i64 ((2 : Int) * e2.2.1)) + (7 : Int)))
  let v4 : Int := (IntKind.wrap .i64 ((IntKind.wrap .i64 (key_0 * v3)) + (IntKind.wrap .i64 ((13 : Int) * e2.2.1))))
  bif ((61 : Int) != 0) then
  Option.bind (spec_l1Put N e2.1 (Int.tmod v4 (61 : Int))) fun r5 =>
  self1 (r5.1.1, ((IntKind.wrap .i64 (e2.2.1 + (1 : Int))), ()))
  else none
  else
  some (e2.1, ())) (([] : (List Int)), ((0 : Int), ()))) fun j6 =>
  some ((j6.1, ()), ((), ()))

def spec_l13Put (N : Nat) (f_0 : (List Bool)) (key_1 : Int) : Option (((List Bool) × Unit) × (Unit × (Unit × Unit))) :=
  Option.bind (spec_l13Bits N key_1) fun r1 =>
  Option.bind (α := ((List Bool) × Unit)) (iter N (fun self2 (e3 : (Int × ((List Bool) × Unit))) =>
  bif (decide (e3.1 < (r1.1.1.length : Int))) then
  bif (decide (0 ≤ e3.1) && decide (e3.1 < (r1.1.1.length : Int))) then
  bif (decide (0 ≤ (r1.1.1.getD (Int.toNat e3.1) (0 : Int))) && decide ((r1.1.1.getD (Int.toNat e3.1) (0 : Int)) < (e3.2.1.length : Int))) then
  let v4 : List Bool := (e3.2.1.set (Int.toNat (r1.1.1.getD (Int.toNat e3.1) (0 : Int))) true)
  self2 ((IntKind.wrap .i64 (e3.1 + (1 : Int))), (v4, ()))
  else none
  else none
  else
  some (e3.2.1, ())) ((0 : Int), (f_0, ()))) fun j5 =>
  some ((j5.1, ()), ((), ((), ())))

def spec_l1Cur_one (N : Nat) (c_0 : ((List Int) × (Int × Int))) (n_1 : Int) : Option ((Bool × Unit) × (((List Int) × (Int × Int)) × (Unit × Unit))) :=
  Option.bind (spec_l1Cur_pick N c_0 n_1) fun r1 =>
  some (((r1.1.1 == (0 : Int)), ()), ((([] : (List Int)), r1.2.1.2), ((), ())))

def spec_l1Cur_filter (N : Nat) (c_0 : ((List Int) × (Int × Int))) : Option (((List Bool) × Unit) × (((List Int) × (Int × Int)) × Unit)) :=
  Option.bind (spec_NewFilter N) fun r1 =>
  Option.bind (spec_l1Cur_pick N c_0 (8 : Int)) fun r2 =>
  Option.bind (α := (((List Int) × (Int × Int)) × ((List Bool) × Unit))) (iter N (fun self3 (e4 : (Int × (((List Int) × (Int × Int)) × ((List Bool) × Unit)))) =>
  bif (decide (e4.1 > (0 : Int))) then
  Option.bind (spec_l1Cur_pick N (c_0.1, e4.2.1.2) (10000 : Int)) fun r5 =>
  Option.bind (spec_l13Put N e4.2.2.1 r5.1.1) fun r6 =>
  self3 ((IntKind.wrap .i64 (e4.1 - (1 : Int))), ((([] : (List Int)), r5.2.1.2), (r6.1.1, ())))
  else
  some ((([] : (List Int)), e4.2.1.2), (e4.2.2.1, ()))) (r2.1.1, ((([] : (List Int)), r2.2.1.2), (r1.1.1, ())))) fun j7 =>
  Option.bind (spec_l1Cur_one N (c_0.1, j7.1.2) (30 : Int)) fun r8 =>
  Option.bind (α := ((List Bool) × Unit)) (bif r8.1.1 then
  bif (decide (0 ≤ (60 : Int)) && decide ((60 : Int) ≤ (j7.2.1.length : Int))) then
  some (((j7.2.1.take (Int.toNat (60 : Int))).drop 0), ())
  else none
  else
  some (j7.2.1, ())) fun j9 =>
  some ((j9.1, ()), ((([] : (List Int)), r8.2.1.2), ()))

def spec_DrawJoinFilters (N : Nat) (code_0 : (List Int)) : Option (((List Bool) × ((List Bool) × Unit)) × (Unit × Unit)) :=
  Option.bind (spec_l1Cur_filter N (code_0, ((0 : Int), (0 : Int)))) fun r1 =>
  Option.bind (spec_l1Cur_filter N (code_0, r1.2.1.2)) fun r2 =>
  some ((r1.1.1, (r2.1.1, ())), ((), ()))

def impl_GoodFilter (N : Nat) (f_0 : (List Bool)) : Option ((Bool × Unit) × (Unit × Unit)) :=
  some ((((f_0.length : Int) == (64 : Int)), ()), ((), ()))

def impl_NewFilter (N : Nat) : Option (((List Bool) × Unit) × Unit) :=
  bif (decide (0 ≤ (64 : Int)) && decide ((64 : Int) ≤ 1099511627776)) then
  some (((List.replicate (Int.toNat (64 : Int)) false), ()), ())
  else none

def impl_JoinFilters_1 (N : Nat) (x_0 : Bool) (y_1 : Bool) : Option ((Bool × Unit) × (Unit × (Unit × Unit))) :=
  Option.bind (α := (Bool × Unit)) (bif x_0 then
  some (true, ())
  else
  some (y_1, ())) fun j1 =>
  some ((j1.1, ()), ((), ((), ())))

def impl_combined_impl_JoinFilters_1 (N : Nat) (a_0 : (List Bool)) (b_1 : (List Bool)) : Option (((List Bool) × (Bool × Unit)) × (Unit × (Unit × (Unit × Unit)))) :=
  Option.bind (α := (Bool × Unit)) (Option.bind (impl_GoodFilter N a_0) fun r1 =>
  bif (!r1.1.1) then
  some (true, ())
  else
  Option.bind (impl_GoodFilter N b_1) fun r2 =>
  some ((!r2.1.1), ())) fun j3 =>
  bif j3.1 then
  some ((([] : (List Bool)), (false, ())), ((), ((), ((), ()))))
  else
  Option.bind (impl_NewFilter N) fun r4 =>
  Option.bind (α := ((List Bool) × Unit)) (iter N (fun self5 (e6 : (Int × ((List Bool) × Unit))) =>
  bif (decide (e6.1 < (r4.1.1.length : Int))) then
  bif (decide (0 ≤ e6.1) && decide (e6.1 < (a_0.length : Int))) then
  bif (decide (0 ≤ e6.1) && decide (e6.1 < (b_1.length : Int))) then
  Option.bind (impl_JoinFilters_1 N (a_0.getD (Int.toNat e6.1) false) (b_1.getD (Int.toNat e6.1) false)) fun r7 =>
  bif (decide (0 ≤ e6.1) && decide (e6.1 < (e6.2.1.length : Int))) then
  self5 ((IntKind.wrap .i64 (e6.1 + (1 : Int))), ((e6.2.1.set (Int.toNat e6.1) r7.1.1), ()))
  else none
  else none
  else none
  else
  some (e6.2.1, ())) ((0 : Int), (r4.1.1, ()))) fun j8 =>
  some ((j8.1, (true, ())), ((), ((), ((), ()))))

def impl_JoinFilters (N : Nat) (a_0 : (List Bool)) (b_1 : (List Bool)) : Option (((List Bool) × (Bool × Unit)) × (Unit × (Unit × Unit))) :=
  Option.bind (impl_combined_impl_JoinFilters_1 N a_0 b_1) fun r1 =>
  some ((r1.1.1, (r1.1.2.1, ())), ((), ((), ())))

def spec_GoodFilter (N : Nat) (f_0 : (List Bool)) : Option ((Bool × Unit) × (Unit × Unit)) :=
  some ((((f_0.length : Int) == (64 : Int)), ()), ((), ()))

def spec_l13Own (N : Nat) (f_0 : (List Bool)) : Option (((List Bool) × Unit) × (Unit × Unit)) :=
  bif decide (([] : List Bool).length + f_0.length ≤ 1099511627776) then
  some (((([] : List Bool) ++ f_0), ()), ((), ()))
  else none

def spec_JoinFilters (N : Nat) (a_0 : (List Bool)) (b_1 : (List Bool)) : Option (((List Bool) × (Bool × Unit)) × (Unit × (Unit × Unit))) :=
  Option.bind (α := (Bool × Unit)) (Option.bind (spec_GoodFilter N a_0) fun r1 =>
  bif (!r1.1.1) then
  some (true, ())
  else
  Option.bind (spec_GoodFilter N b_1) fun r2 =>
  some ((!r2.1.1), ())) fun j3 =>
  bif j3.1 then
  some ((([] : (List Bool)), (false, ())), ((), ((), ())))
  else
  Option.bind (spec_l13Own N a_0) fun r4 =>
  Option.bind (α := ((List Bool) × Unit)) (iter N (fun self5 (e6 : (Int × ((List Bool) × Unit))) =>
  bif (decide (e6.1 < (b_1.length : Int))) then
  bif (decide (0 ≤ e6.1) && decide (e6.1 < (b_1.length : Int))) then
  Option.bind (α := ((List Bool) × Unit)) (bif (decide (0 ≤ e6.1) && decide (e6.1 < (e6.2.1.length : Int))) then
  bif (e6.2.1.getD (Int.toNat e6.1) false) then
  bif (decide (0 ≤ e6.1) && decide (e6.1 < (e6.2.1.length : Int))) then
  some ((e6.2.1.set (Int.toNat e6.1) true), ())
  else none
  else
  bif (decide (0 ≤ e6.1) && decide (e6.1 < (e6.2.1.length : Int))) then
  let v7 : List Bool := (e6.2.1.set (Int.toNat e6.1) (b_1.getD (Int.toNat e6.1) false))
  some (v7, ())
  else none
  else none) fun j8 =>
  self5 ((IntKind.wrap .i64 (e6.1 + (1 : Int))), (j8.1, ()))
  else none
  else
  some (e6.2.1, ())) ((0 : Int), (r4.1.1, ()))) fun j9 =>
  some ((j9.1, (true, ())), ((), ((), ())))

def impl_MeetFilters_1 (N : Nat) (x_0 : Bool) (y_1 : Bool) : Option ((Bool × Unit) × (Unit × (Unit × Unit))) :=
  Option.bind (α := (Bool × Unit)) (bif x_0 then
  some (y_1, ())
  else
  some (false, ())) fun j1 =>
  some ((j1.1, ()), ((), ((), ())))

def impl_combined_impl_MeetFilters_1 (N : Nat) (a_0 : (List Bool)) (b_1 : (List Bool)) : Option (((List Bool) × (Bool × Unit)) × (Unit × (Unit × (Unit × Unit)))) :=
  Option.bind (α := (Bool × Unit)) (Option.bind (impl_GoodFilter N a_0) fun r1 =>
  bif (!r1.1.1) then
  some (true, ())
  else
  Option.bind (impl_GoodFilter N b_1) fun r2 =>
  some ((!r2.1.1), ())) fun j3 =>
  bif j3.1 then
  some ((([] : (List Bool)), (false, ())), ((), ((), ((), ()))))
  else
  Option.bind (impl_NewFilter N) fun r4 =>
  Option.bind (α := ((List Bool) × Unit)) (iter N (fun self5 (e6 : (Int × ((List Bool) × Unit))) =>
  bif (decide (e6.1 < (r4.1.1.length : Int))) then
  bif (decide (0 ≤ e6.1) && decide (e6.1 < (a_0.length : Int))) then
  bif (decide (0 ≤ e6.1) && decide (e6.1 < (b_1.length : Int))) then
  Option.bind (impl_MeetFilters_1 N (a_0.getD (Int.toNat e6.1) false) (b_1.getD (Int.toNat e6.1) false)) fun r7 =>
  bif (decide (0 ≤ e6.1) && decide (e6.1 < (e6.2.1.length : Int))) then
  self5 ((IntKind.wrap .i64 (e6.1 + (1 : Int))), ((e6.2.1.set (Int.toNat e6.1) r7.1.1), ()))
  else none
  else none
  else none
  else
  some (e6.2.1, ())) ((0 : Int), (r4.1.1, ()))) fun j8 =>
  some ((j8.1, (true, ())), ((), ((), ((), ()))))

def impl_MeetFilters (N : Nat) (a_0 : (List Bool)) (b_1 : (List Bool)) : Option (((List Bool) × (Bool × Unit)) × (Unit × (Unit × Unit))) :=
  Option.bind (impl_combined_impl_MeetFilters_1 N a_0 b_1) fun r1 =>
  some ((r1.1.1, (r1.1.2.1, ())), ((), ((), ())))

def spec_MeetFilters (N : Nat) (a_0 : (List Bool)) (b_1 : (List Bool)) : Option (((List Bool) × (Bool × Unit)) × (Unit × (Unit × Unit))) :=
  Option.bind (α := (Bool × Unit)) (Option.bind (spec_GoodFilter N a_0) fun r1 =>
  bif (!r1.1.1) then
  some (true, ())
  else
  Option.bind (spec_GoodFilter N b_1) fun r2 =>
  some ((!r2.1.1), ())) fun j3 =>
  bif j3.1 then
  some ((([] : (List Bool)), (false, ())), ((), ((), ())))
  else
  Option.bind (spec_l13Own N a_0) fun r4 =>
  Option.bind (α := ((List Bool) × Unit)) (iter N (fun self5 (e6 : (Int × ((List Bool) × Unit))) =>
  bif (decide (e6.1 < (b_1.length : Int))) then
  bif (decide (0 ≤ e6.1) && decide (e6.1 < (b_1.length : Int))) then
  Option.bind (α := ((List Bool) × Unit)) (bif (decide (0 ≤ e6.1) && decide (e6.1 < (e6.2.1.length : Int))) then
  bif (e6.2.1.getD (Int.toNat e6.1) false) then
  bif (decide (0 ≤ e6.1) && decide (e6.1 < (e6.2.1.length : Int))) then
  let v7 : List Bool := (e6.2.1.set (Int.toNat e6.1) (b_1.getD (Int.toNat e6.1) false))
  some (v7, ())
  else none
  else
  bif (decide (0 ≤ e6.1) && decide (e6.1 < (e6.2.1.length : Int))) then
  some ((e6.2.1.set (Int.toNat e6.1) false), ())
  else none
  else none) fun j8 =>
  self5 ((IntKind.wrap .i64 (e6.1 + (1 : Int))), (j8.1, ()))
  else none
  else
  some (e6.2.1, ())) ((0 : Int), (r4.1.1, ()))) fun j9 =>
  some ((j9.1, (true, ())), ((), ((), ())))

def laws_sameBools (N : Nat) (a_0 : (List Bool)) (b_1 : (List Bool)) : Option ((Bool × Unit) × (Unit × (Unit × Unit))) :=
  bif ((a_0.length : Int) != (b_1.length : Int)) then
  some ((false, ()), ((), ((), ())))
  else
  Option.bind (α := Sum ((Bool × Unit) × (Unit × (Unit × Unit))) Unit) (iter N (fun self1 (e2 : (Int × Unit)) =>
  bif (decide (e2.1 < (a_0.length : Int))) then
  bif (decide (0 ≤ e2.1) && decide (e2.1 < (a_0.length : Int))) then
  bif (decide (0 ≤ e2.1) && decide (e2.1 < (b_1.length : Int))) then
  let v3 : Bool := (!((a_0.getD (Int.toNat e2.1) false) == (b_1.getD (Int.toNat e2.1) false)))
  bif v3 then
  Option.bind (some ((false, ()), ((), ((), ())))) fun q => some (Sum.inl q)
  else
  self1 ((IntKind.wrap .i64 (e2.1 + (1 : Int))), ())
  else none
  else none
  else
  some (Sum.inr ())) ((0 : Int), ())) fun q => match q with
  | .inl q => some q
  | .inr j4 =>
  some ((true, ()), ((), ((), ())))

def laws_numberOf (N : Nat) (b_0 : (List Int)) : Option ((Int × Unit) × (Unit × Unit)) :=
  Option.bind (α := (Int × Unit)) (iter N (fun self1 (e2 : (Int × (Int × Unit))) =>
  bif (decide (e2.2.1 < (b_0.length : Int))) then
  bif (decide (0 ≤ e2.2.1) && decide (e2.2.1 < (b_0.length : Int))) then
  let v3 : Int := (IntKind.wrap .i64 ((IntKind.wrap .i64 ((31 : Int) * e2.1)) + (IntKind.wrap .i64 (b_0.getD (Int.toNat e2.2.1) (0 : Int)))))
  bif ((1000003 : Int) != 0) then
  self1 ((Int.tmod v3 (1000003 : Int)), ((IntKind.wrap .i64 (e2.2.1 + (1 : Int))), ()))
  else none
  else none
  else
  some (e2.1, ())) ((0 : Int), ((0 : Int), ()))) fun j4 =>
  some ((j4.1, ()), ((), ()))

def impl_within (N : Nat) (n_0 : Int) (low_1 : Int) (high_2 : Int) : Option ((Bool × Unit) × (Unit × (Unit × (Unit × Unit)))) :=
  Option.bind (α := (Bool × Unit)) (bif (decide (n_0 ≥ low_1)) then
  some ((decide (n_0 ≤ high_2)), ())
  else
  some (false, ())) fun j1 =>
  some ((j1.1, ()), ((), ((), ((), ()))))

def impl_isKey (N : Nat) (key_0 : Int) : Option ((Bool × Unit) × (Unit × Unit)) :=
  Option.bind (impl_within N key_0 (0 : Int) (9999 : Int)) fun r1 =>
  some ((r1.1.1, ()), ((), ()))

def impl_bitsFor (N : Nat) (key_0 : Int) : Option (((List Int) × Unit) × (Unit × Unit)) :=
  Option.bind (α := ((List Int) × Unit)) (iter N (fun self1 (e2 : ((List Int) × (Int × Unit))) =>
  bif (decide (e2.2.1 < (3 : Int))) then
  let v3 : Int := (IntKind.wrap .i64 ((IntKind.wrap .i64 ((2 : Int) * e2.2.1)) + (7 : Int)))
  let v4 : Int := (IntKind.wrap .i64 ((IntKind.wrap .i64 (key_0 * v3)) + (IntKind.wrap .i64 ((13 : Int) * e2.2.1))))
  bif ((61 : Int) != 0) then
  bif decide (e2.1.length + ([(Int.tmod v4 (61 : Int))] : List Int).length ≤ 1099511627776) then
  let v5 : List Int := (e2.1 ++ ([(Int.tmod v4 (61 : Int))] : List Int))
  self1 (v5, ((IntKind.wrap .i64 (e2.2.1 + (1 : Int))), ()))
  else none
  else none
  else
  some (e2.1, ())) (([] : List Int), ((0 : Int), ()))) fun j6 =>
  Option.bind (sortF j6.1) fun r7 =>
  Option.bind (compactF r7.2.1) fun r8 =>
  some ((r8.1.1, ()), ((), ()))

def impl_MayHave_1 (N : Nat) (k_0 : Int) (p_1 : (List Bool)) : Option ((Bool × Unit) × (Unit × (Unit × Unit))) :=
  bif (decide (0 ≤ k_0) && decide (k_0 < (p_1.length : Int))) then
  some (((!(p_1.getD (Int.toNat k_0) false)), ()), ((), ((), ())))
  else none

def slices_IndexFunc_int_int_impl_MayHave_1 (N : Nat) (s_0 : (List Int)) (f_1_0 : (List Bool)) : Option ((Int × Unit) × (Unit × (Unit × Unit))) :=
  Option.bind (α := Sum ((Int × Unit) × (Unit × (Unit × Unit))) Unit) (iter N (fun self1 (e2 : (Int × Unit)) =>
  bif (decide (e2.1 < (s_0.length : Int))) then
  bif (decide (0 ≤ e2.1) && decide (e2.1 < (s_0.length : Int))) then
  Option.bind (impl_MayHave_1 N (s_0.getD (Int.toNat e2.1) (0 : Int)) f_1_0) fun r3 =>
  bif r3.1.1 then
  Option.bind (some ((e2.1, ()), ((), ((), ())))) fun q => some (Sum.inl q)
  else
  self1 ((IntKind.wrap .i64 (e2.1 + (1 : Int))), ())
  else none
  else
  some (Sum.inr ())) ((0 : Int), ())) fun q => match q with
  | .inl q => some q
  | .inr j4 =>
  some (((-1 : Int), ()), ((), ((), ())))

def slices_ContainsFunc_int_int_impl_MayHave_1 (N : Nat) (s_0 : (List Int)) (f_1_0 : (List Bool)) : Option ((Bool × Unit) × (Unit × (Unit × Unit))) :=
  Option.bind (slices_IndexFunc_int_int_impl_MayHave_1 N s_0 f_1_0) fun r1 =>
  some (((decide (r1.1.1 ≥ (0 : Int))), ()), ((), ((), ())))

def impl_MayHave (N : Nat) (f_0 : (List Bool)) (key_1 : Int) : Option ((Bool × (Bool × Unit)) × (Unit × (Unit × Unit))) :=
  Option.bind (α := (Bool × Unit)) (Option.bind (impl_GoodFilter N f_0) fun r1 =>
  bif (!r1.1.1) then
  some (true, ())
  else
  Option.bind (impl_isKey N key_1) fun r2 =>
  some ((!r2.1.1), ())) fun j3 =>
  bif j3.1 then
  some ((false, (false, ())), ((), ((), ())))
  else
  Option.bind (impl_bitsFor N key_1) fun r4 =>
  Option.bind (slices_ContainsFunc_int_int_impl_MayHave_1 N r4.1.1 f_0) fun r5 =>
  some (((!r5.1.1), (true, ())), ((), ((), ())))

def impl_OnesIn (N : Nat) (f_0 : (List Bool)) : Option ((Int × (Bool × Unit)) × (Unit × Unit)) :=
  Option.bind (impl_GoodFilter N f_0) fun r1 =>
  bif (!r1.1.1) then
  some (((0 : Int), (false, ())), ((), ()))
  else
  Option.bind (α := (Int × Unit)) (iter N (fun self2 (e3 : (Int × (Int × Unit))) =>
  bif (decide (e3.2.1 < (f_0.length : Int))) then
  bif (decide (0 ≤ e3.2.1) && decide (e3.2.1 < (f_0.length : Int))) then
  Option.bind (α := (Int × Unit)) (bif (f_0.getD (Int.toNat e3.2.1) false) then
  some ((IntKind.wrap .i64 (e3.1 + (1 : Int))), ())
  else
  some (e3.1, ())) fun j4 =>
  self2 (j4.1, ((IntKind.wrap .i64 (e3.2.1 + (1 : Int))), ()))
  else none
  else
  some (e3.1, ())) ((0 : Int), ((0 : Int), ()))) fun j5 =>
  some ((j5.1, (true, ())), ((), ()))

def spec_l1Cur_among (N : Nat) (c_0 : ((List Int) × (Int × Int))) (list_1 : (List Int)) : Option ((Int × Unit) × (((List Int) × (Int × Int)) × (Unit × Unit))) :=
  Option.bind (spec_l1Cur_pick N c_0 (list_1.length : Int)) fun r1 =>
  bif (decide (0 ≤ r1.1.1) && decide (r1.1.1 < (list_1.length : Int))) then
  some (((list_1.getD (Int.toNat r1.1.1) (0 : Int)), ()), ((([] : (List Int)), r1.2.1.2), ((), ())))
  else none

def spec_l1Cur_key12 (N : Nat) (c_0 : ((List Int) × (Int × Int))) : Option ((Int × Unit) × (((List Int) × (Int × Int)) × Unit)) :=
  Option.bind (spec_l1Cur_one N c_0 (30 : Int)) fun r1 =>
  bif r1.1.1 then
  let v2 : List Int := ([(-1 : Int), (9999 : Int), (10000 : Int)] : List Int)
  Option.bind (spec_l1Cur_among N (c_0.1, r1.2.1.2) v2) fun r3 =>
  some ((r3.1.1, ()), ((([] : (List Int)), r3.2.1.2), ()))
  else
  Option.bind (spec_l1Cur_pick N (c_0.1, r1.2.1.2) (30 : Int)) fun r4 =>
  let v5 : List Int := ([(1 : Int), (1 : Int), (11 : Int), (121 : Int)] : List Int)
  Option.bind (spec_l1Cur_among N (c_0.1, r4.2.1.2) v5) fun r6 =>
  some (((IntKind.wrap .i64 (r4.1.1 * r6.1.1)), ()), ((([] : (List Int)), r6.2.1.2), ()))

def spec_DrawFilterOf (N : Nat) (code_0 : (List Int)) : Option (((List Int) × Unit) × (Unit × Unit)) :=
  Option.bind (spec_l1Cur_pick N (code_0, ((0 : Int), (0 : Int))) (8 : Int)) fun r1 =>
  Option.bind (spec_l1Cur_one N (code_0, r1.2.1.2) (20 : Int)) fun r2 =>
  Option.bind (α := (Int × (((List Int) × (Int × Int)) × Unit))) (bif r2.1.1 then
  Option.bind (spec_l1Cur_pick N (code_0, r2.2.1.2) (2 : Int)) fun r3 =>
  some ((IntKind.wrap .i64 ((80 : Int) + r3.1.1)), ((([] : (List Int)), r3.2.1.2), ()))
  else
  some (r1.1.1, ((([] : (List Int)), r2.2.1.2), ()))) fun j4 =>
  Option.bind (α := ((List Int) × Unit)) (iter N (fun self5 (e6 : ((List Int) × (Int × (((List Int) × (Int × Int)) × Unit)))) =>
  bif (decide (e6.2.1 > (0 : Int))) then
  Option.bind (spec_l1Cur_key12 N (code_0, e6.2.2.1.2)) fun r7 =>
  bif decide (e6.1.length + ([r7.1.1] : List Int).length ≤ 1099511627776) then
  self5 ((e6.1 ++ ([r7.1.1] : List Int)), ((IntKind.wrap .i64 (e6.2.1 - (1 : Int))), ((([] : (List Int)), r7.2.1.2), ())))
  else none
  else
  some (e6.1, ())) (([] : (List Int)), (j4.1, ((([] : (List Int)), j4.2.1.2), ())))) fun j8 =>
  some ((j8.1, ()), ((), ()))

def impl_PutFilter (N : Nat) (f_0 : (List Bool)) (key_1 : Int) : Option (((List Bool) × (Bool × Unit)) × (Unit × (Unit × Unit))) :=
  Option.bind (α := (Bool × Unit)) (Option.bind (impl_GoodFilter N f_0) fun r1 =>
  bif (!r1.1.1) then
  some (true, ())
  else
  Option.bind (impl_isKey N key_1) fun r2 =>
  some ((!r2.1.1), ())) fun j3 =>
  bif j3.1 then
  some ((([] : (List Bool)), (false, ())), ((), ((), ())))
  else
  Option.bind (cloneF f_0) fun r4 =>
  Option.bind (impl_bitsFor N key_1) fun r5 =>
  Option.bind (α := ((List Bool) × Unit)) (iter N (fun self6 (e7 : (Int × ((List Bool) × Unit))) =>
  bif (decide (e7.1 < (r5.1.1.length : Int))) then
  bif (decide (0 ≤ e7.1) && decide (e7.1 < (r5.1.1.length : Int))) then
  bif (decide (0 ≤ (r5.1.1.getD (Int.toNat e7.1) (0 : Int))) && decide ((r5.1.1.getD (Int.toNat e7.1) (0 : Int)) < (e7.2.1.length : Int))) then
  let v8 : List Bool := (e7.2.1.set (Int.toNat (r5.1.1.getD (Int.toNat e7.1) (0 : Int))) true)
  self6 ((IntKind.wrap .i64 (e7.1 + (1 : Int))), (v8, ()))
  else none
  else none
  else
  some (e7.2.1, ())) ((0 : Int), (r4.1.1, ()))) fun j9 =>
  some ((j9.1, (true, ())), ((), ((), ())))

def impl_FilterOf (N : Nat) (l_0 : (List Int)) : Option (((List Bool) × (Bool × Unit)) × (Unit × Unit)) :=
  bif (decide ((l_0.length : Int) > (80 : Int))) then
  some ((([] : (List Bool)), (false, ())), ((), ()))
  else
  Option.bind (impl_NewFilter N) fun r1 =>
  Option.bind (α := Sum (((List Bool) × (Bool × Unit)) × (Unit × Unit)) ((List Bool) × Unit)) (iter N (fun self2 (e3 : (Int × ((List Bool) × Unit))) =>
  bif (decide (e3.1 < (l_0.length : Int))) then
  bif (decide (0 ≤ e3.1) && decide (e3.1 < (l_0.length : Int))) then
  Option.bind (impl_PutFilter N e3.2.1 (l_0.getD (Int.toNat e3.1) (0 : Int))) fun r4 =>
  bif (!r4.1.2.1) then
  Option.bind (some ((([] : (List Bool)), (false, ())), ((), ()))) fun q => some (Sum.inl q)
  else
  self2 ((IntKind.wrap .i64 (e3.1 + (1 : Int))), (r4.1.1, ()))
  else none
  else
  some (Sum.inr (e3.2.1, ()))) ((0 : Int), (r1.1.1, ()))) fun q => match q with
  | .inl q => some q
  | .inr j5 =>
  some ((j5.1, (true, ())), ((), ()))

def spec_DrawBitsFor (N : Nat) (code_0 : (List Int)) : Option ((Int × Unit) × (Unit × Unit)) :=
  Option.bind (spec_l1Cur_key12 N (code_0, ((0 : Int), (0 : Int)))) fun r1 =>
  some ((r1.1.1, ()), ((), ()))

def impl_BitsFor (N : Nat) (key_0 : Int) : Option (((List Int) × (Bool × Unit)) × (Unit × Unit)) :=
  Option.bind (impl_isKey N key_0) fun r1 =>
  bif (!r1.1.1) then
  some ((([] : (List Int)), (false, ())), ((), ()))
  else
  Option.bind (impl_bitsFor N key_0) fun r2 =>
  some ((r2.1.1, (true, ())), ((), ()))

def spec_l1In (N : Nat) (n_0 : Int) (lo_1 : Int) (hi_2 : Int) : Option ((Bool × Unit) × (Unit × (Unit × (Unit × Unit)))) :=
  Option.bind (α := (Bool × Unit)) (bif (decide (n_0 ≥ lo_1)) then
  some ((decide (n_0 ≤ hi_2)), ())
  else
  some (false, ())) fun j1 =>
  some ((j1.1, ()), ((), ((), ((), ()))))

def spec_l12Key (N : Nat) (key_0 : Int) : Option ((Bool × Unit) × (Unit × Unit)) :=
  Option.bind (spec_l1In N key_0 (0 : Int) (9999 : Int)) fun r1 =>
  some ((r1.1.1, ()), ((), ()))

def spec_BitsFor (N : Nat) (key_0 : Int) : Option (((List Int) × (Bool × Unit)) × (Unit × Unit)) :=
  Option.bind (spec_l12Key N key_0) fun r1 =>
  bif (!r1.1.1) then
  some ((([] : (List Int)), (false, ())), ((), ()))
  else
  Option.bind (spec_l13Bits N key_0) fun r2 =>
  some ((r2.1.1, (true, ())), ((), ()))

def spec_DrawGoodFilter (N : Nat) (code_0 : (List Int)) : Option (((List Bool) × Unit) × (Unit × Unit)) :=
  Option.bind (spec_l1Cur_filter N (code_0, ((0 : Int), (0 : Int)))) fun r1 =>
  some ((r1.1.1, ()), ((), ()))

def spec_DrawOnesIn (N : Nat) (code_0 : (List Int)) : Option (((List Bool) × Unit) × (Unit × Unit)) :=
  Option.bind (spec_DrawGoodFilter N code_0) fun r1 =>
  some ((r1.1.1, ()), ((), ()))

def spec_l8Bit (N : Nat) (b_0 : Bool) : Option ((Int × Unit) × (Unit × Unit)) :=
  bif b_0 then
  some (((1 : Int), ()), ((), ()))
  else
  some (((0 : Int), ()), ((), ()))

def spec_OnesIn (N : Nat) (f_0 : (List Bool)) : Option ((Int × (Bool × Unit)) × (Unit × Unit)) :=
  Option.bind (spec_GoodFilter N f_0) fun r1 =>
  bif (!r1.1.1) then
  some (((0 : Int), (false, ())), ((), ()))
  else
  Option.bind (α := (Int × Unit)) (iter N (fun self2 (e3 : (Int × (Int × Unit))) =>
  bif (decide (e3.2.1 < (f_0.length : Int))) then
  bif (decide (0 ≤ e3.2.1) && decide (e3.2.1 < (f_0.length : Int))) then
  Option.bind (spec_l8Bit N (f_0.getD (Int.toNat e3.2.1) false)) fun r4 =>
  self2 ((IntKind.wrap .i64 (e3.1 + r4.1.1)), ((IntKind.wrap .i64 (e3.2.1 + (1 : Int))), ()))
  else none
  else
  some (e3.1, ())) ((0 : Int), ((0 : Int), ()))) fun j5 =>
  some ((j5.1, (true, ())), ((), ()))

def laws_sameInts (N : Nat) (a_0 : (List Int)) (b_1 : (List Int)) : Option ((Bool × Unit) × (Unit × (Unit × Unit))) :=
  bif ((a_0.length : Int) != (b_1.length : Int)) then
  some ((false, ()), ((), ((), ())))
  else
  Option.bind (α := Sum ((Bool × Unit) × (Unit × (Unit × Unit))) Unit) (iter N (fun self1 (e2 : (Int × Unit)) =>
  bif (decide (e2.1 < (a_0.length : Int))) then
  bif (decide (0 ≤ e2.1) && decide (e2.1 < (a_0.length : Int))) then
  bif (decide (0 ≤ e2.1) && decide (e2.1 < (b_1.length : Int))) then
  let v3 : Bool := ((a_0.getD (Int.toNat e2.1) (0 : Int)) != (b_1.getD (Int.toNat e2.1) (0 : Int)))
  bif v3 then
  Option.bind (some ((false, ()), ((), ((), ())))) fun q => some (Sum.inl q)
  else
  self1 ((IntKind.wrap .i64 (e2.1 + (1 : Int))), ())
  else none
  else none
  else
  some (Sum.inr ())) ((0 : Int), ())) fun q => match q with
  | .inl q => some q
  | .inr j4 =>
  some ((true, ()), ((), ((), ())))

def laws_FnFilters (N : Nat) (app_0 : (List Int)) (p_1 : (List Int)) : Option ((Bool × Unit) × (Unit × (Unit × Unit))) :=
  let v1 : Bool := (decide ((IntKind.wrap .i64 ((app_0.length : Int) + (p_1.length : Int))) > (1048576 : Int)))
  bif v1 then
  some ((true, ()), ((), ((), ())))
  else
  Option.bind (spec_DrawJoinFilters N app_0) fun r2 =>
  Option.bind (impl_JoinFilters N r2.1.1 r2.1.2.1) fun r3 =>
  Option.bind (spec_JoinFilters N r2.1.1 r2.1.2.1) fun r4 =>
  Option.bind (impl_MeetFilters N r2.1.1 r2.1.2.1) fun r5 =>
  Option.bind (spec_MeetFilters N r2.1.1 r2.1.2.1) fun r6 =>
  Option.bind (α := (Bool × Unit)) (bif (!(r3.1.2.1 == r4.1.2.1)) then
  some (true, ())
  else
  Option.bind (laws_sameBools N r3.1.1 r4.1.1) fun r7 =>
  bif (!r7.1.1) then
  some (true, ())
  else
  bif (!(r5.1.2.1 == r6.1.2.1)) then
  some (true, ())
  else
  Option.bind (laws_sameBools N r5.1.1 r6.1.1) fun r8 =>
  some ((!r8.1.1), ())) fun j9 =>
  bif j9.1 then
  some ((false, ()), ((), ((), ())))
  else
  Option.bind (α := Sum ((Bool × Unit) × (Unit × (Unit × Unit))) Unit) (bif r3.1.2.1 then
  Option.bind (laws_numberOf N p_1) fun r10 =>
  bif ((10000 : Int) != 0) then
  Option.bind (impl_MayHave N r2.1.1 (Int.tmod r10.1.1 (10000 : Int))) fun r11 =>
  Option.bind (impl_MayHave N r2.1.2.1 (Int.tmod r10.1.1 (10000 : Int))) fun r12 =>
  Option.bind (impl_MayHave N r3.1.1 (Int.tmod r10.1.1 (10000 : Int))) fun r13 =>
  Option.bind (impl_MayHave N r5.1.1 (Int.tmod r10.1.1 (10000 : Int))) fun r14 =>
  Option.bind (α := (Bool × Unit)) (bif (!r11.1.2.1) then
  some (true, ())
  else
  bif (!r12.1.2.1) then
  some (true, ())
  else
  bif (!r13.1.2.1) then
  some (true, ())
  else
  bif (!r14.1.2.1) then
  some (true, ())
  else
  bif r11.1.1 then
  bif (!r13.1.1) then
  some (true, ())
  else
  bif r11.1.1 then
  some ((!(r14.1.1 == r12.1.1)), ())
  else
  some ((!(r14.1.1 == false)), ())
  else
  bif r12.1.1 then
  bif (!r13.1.1) then
  some (true, ())
  else
  bif r11.1.1 then
  some ((!(r14.1.1 == r12.1.1)), ())
  else
  some ((!(r14.1.1 == false)), ())
  else
  bif r11.1.1 then
  some ((!(r14.1.1 == r12.1.1)), ())
  else
  some ((!(r14.1.1 == false)), ())) fun j15 =>
  bif j15.1 then
  Option.bind (some ((false, ()), ((), ((), ())))) fun q => some (Sum.inl q)
  else
  Option.bind (impl_OnesIn N r2.1.1) fun r16 =>
  Option.bind (impl_OnesIn N r2.1.2.1) fun r17 =>
  Option.bind (impl_OnesIn N r3.1.1) fun r18 =>
  Option.bind (impl_OnesIn N r5.1.1) fun r19 =>
  Option.bind (α := (Bool × Unit)) (bif (!r16.1.2.1) then
  some (true, ())
  else
  bif (!r17.1.2.1) then
  some (true, ())
  else
  bif (!r18.1.2.1) then
  some (true, ())
  else
  bif (!r19.1.2.1) then
  some (true, ())
  else
  let v20 : Bool := ((IntKind.wrap .i64 (r16.1.1 + r17.1.1)) != (IntKind.wrap .i64 (r18.1.1 + r19.1.1)))
  some (v20, ())) fun j21 =>
  bif j21.1 then
  Option.bind (some ((false, ()), ((), ((), ())))) fun q => some (Sum.inl q)
  else
  some (Sum.inr ())
  else none
  else
  some (Sum.inr ())) fun q => match q with
  | .inl q => some q
  | .inr j22 =>
  Option.bind (spec_DrawFilterOf N p_1) fun r23 =>
  Option.bind (laws_numberOf N app_0) fun r24 =>
  bif ((IntKind.wrap .i64 ((r23.1.1.length : Int) + (1 : Int))) != 0) then
  let v25 : Int := (Int.tmod r24.1.1 (IntKind.wrap .i64 ((r23.1.1.length : Int) + (1 : Int))))
  bif (decide (0 ≤ v25) && decide (v25 ≤ (r23.1.1.length : Int))) then
  Option.bind (impl_FilterOf N ((r23.1.1.take (Int.toNat v25)).drop 0)) fun r26 =>
  bif (decide (0 ≤ v25) && decide (v25 ≤ (r23.1.1.length : Int))) then
  let v27 : List Int := ((r23.1.1.take r23.1.1.length).drop (Int.toNat v25))
  Option.bind (impl_FilterOf N v27) fun r28 =>
  Option.bind (impl_FilterOf N r23.1.1) fun r29 =>
  Option.bind (α := Sum ((Bool × Unit) × (Unit × (Unit × Unit))) Unit) (bif r29.1.2.1 then
  Option.bind (impl_JoinFilters N r26.1.1 r28.1.1) fun r30 =>
  Option.bind (α := (Bool × Unit)) (bif (!r26.1.2.1) then
  some (true, ())
  else
  bif (!r28.1.2.1) then
  some (true, ())
  else
  bif (!r30.1.2.1) then
  some (true, ())
  else
  Option.bind (laws_sameBools N r30.1.1 r29.1.1) fun r31 =>
  some ((!r31.1.1), ())) fun j32 =>
  bif j32.1 then
  Option.bind (some ((false, ()), ((), ((), ())))) fun q => some (Sum.inl q)
  else
  some (Sum.inr ())
  else
  some (Sum.inr ())) fun q => match q with
  | .inl q => some q
  | .inr j33 =>
  Option.bind (spec_DrawBitsFor N p_1) fun r34 =>
  Option.bind (impl_BitsFor N r34.1.1) fun r35 =>
  Option.bind (spec_BitsFor N r34.1.1) fun r36 =>
  Option.bind (spec_DrawOnesIn N p_1) fun r37 =>
  Option.bind (impl_OnesIn N r37.1.1) fun r38 =>
  Option.bind (spec_OnesIn N r37.1.1) fun r39 =>
  Option.bind (impl_NewFilter N) fun r40 =>
  Option.bind (α := (Bool × Unit)) (bif (r35.1.2.1 == r36.1.2.1) then
  Option.bind (laws_sameInts N r35.1.1 r36.1.1) fun r41 =>
  bif r41.1.1 then
  bif (r38.1.2.1 == r39.1.2.1) then
  bif (r38.1.1 == r39.1.1) then
  Option.bind (impl_GoodFilter N r40.1.1) fun r42 =>
  bif r42.1.1 then
  Option.bind (spec_NewFilter N) fun r43 =>
  Option.bind (laws_sameBools N r40.1.1 r43.1.1) fun r44 =>
  some (r44.1.1, ())
  else
  some (false, ())
  else
  some (false, ())
  else
  some (false, ())
  else
  some (false, ())
  else
  some (false, ())) fun j45 =>
  some ((j45.1, ()), ((), ((), ())))
  else none
  else none
  else none

end Go.Vf
