/- The Go functions compute what the native functions say. Printed by a program of this session's. -/
import Derived.Test.YtddabginhmpljaaVfU
import Derived.KernelRfl
import Derived.WalkKit
import Derived.Lib.Walk
import Derived.Lib.SliceRun
import Derived.Lib.Hide
import Derived.Below
import Derived.Test.YtddabginhmpljaaShelf
import Derived.Test.YtddabginhmpljaaVhA
import Derived.Test.YtddabginhmpljaaFnFiltersNat
import Derived.Test.YtddabginhmpljaaProg
namespace Go.Vf
open Go Go.Proofs Go.RowKit
set_option linter.unusedVariables false

def tD : CtxD := ⟨[(3, false, (.int .i64)), (4, false, .bool), (5, false, (.int .u8)), (9, false, .str), (22, false, (.sl 5 (.int .u8))), (23, false, (.sl 4 .bool)), (25, true, (.sl 4 .bool)), (36, false, (.sl 3 (.int .i64))), (106, true, (.pair (.int .i64) (.int .i64))), (125, false, (.int .u64)), (127, true, (.pair (.sl 5 (.int .u8)) (.pair (.int .i64) (.int .u64)))), (164, true, (.pair .bool (.pair (.int .i64) (.int .i64))))], [(22, 5), (23, 4), (36, 3)], [(25, [(0, 23)]), (127, [(0, 22), (1, 3), (2, 125)])], [], [3, 5, 125]⟩
theorem tOk : CtxOk Go.Proofs.Try.prog tD.ctx := CtxD.ctxOk (by kernel_rfl) (by intro t T h; cases h)

def c_h202 : Ctr := ⟨[(.io false (.sl 3 (.int .i64)))], [], fun _ x _ => sortF x.1⟩
theorem k_h202 : Contract Go.Proofs.Try.prog 202 c_h202 := ctr_sort (HasBody.of Try.func202 (by kernel_rfl) (by kernel_rfl)) Try.slices_Sort_int Try.slices_Sort_int_none

def c_h150 : Ctr := ⟨[(.val .own false (.sl 3 (.int .i64)))], [(false, (.sl 3 (.int .i64)))], fun _ x _ => compactF x.1⟩
theorem k_h150 : Contract Go.Proofs.Try.prog 150 c_h150 := ctr_compact (HasBody.of Try.func150 (by kernel_rfl) (by kernel_rfl)) Try.slices_Compact_int_arr Try.slices_Compact_int_empty

set_option maxRecDepth 100000 in
set_option maxHeartbeats 2000000 in
theorem clone204 (a : Addr) (n c k : Nat) (cs : List Value) (i : TypeInfo) (z : Value) (hz : i.zero = some z) (hi : Try.prog.info? 4 = some i) (hs : i.size = k) (hzs : z.cells.size = k) (hk : 0 < k) (w : World) (hl : cs.length = n * k) (hn : n ≤ maxLen) (hb : n * i.bytes ≤ 140737488355328)
    (hc : ∀ j u, cs[j]? = some u → w.cell? (a.add j) = some u) (h1 : ∀ u ∈ cs, u.oneCell' = true) :
    Calls Try.prog 204 #[.slice (some a) n c] w fun e w' => ∃ v', e = .returned v' ∧ w'.ownsRow w.heap.size 4 k v' n cs ∧ Below w.heap.size w w' := by
  have q22 : ∀ (w : World) (a : Option Addr) (n c n' c' : Nat), (binOp .eql 23 (.slice a n c) (.slice none n' c')).run Try.prog w = .ok (.bool a.isNone) w := fun w a n c n' c' => Lib.run_eql_slice_nil w _ _ a n c n' c' Try.underlying23
  have A := Lib.hid hc
  have HL := Lib.hid hl
  have H1 := Lib.hid h1
  have HI := Lib.hid hi
  have HS := Lib.hid hs
  have HZ := Lib.hid hz
  have HZS := Lib.hid hzs
  clear hc hl h1 hi hs hz hzs
  go_enter Try.func204, Try.ntmps204
  go_wp2_with (at_builtin; refine wpList_append_own _ rfl _ _ 23 rfl w.heap.size 4 i z k i.bytes Try.underlying23 HI.out HZ.out HS.out rfl HZS.out hk _ _ _ rfl (World.ownsRow_made w #[] 0 (Nat.le_refl _) (Nat.zero_le _) (by simp)) a n c cs rfl ?qc1 ?qc2 ?qc3 ?qc4 ?qc5 ?qc6 ?_)
  case qc1 => exact HL.out
  case qc2 =>
    intro j u hj
    exact Lib.cell?_alloc_some _ (A.out j u hj)
  case qc3 => exact H1.out
  case qc4 => simpa using hn
  case qc5 => simpa using hb
  case qc6 => simp
  intro v' w1 hown hgrow hnil
  go_wp2
  go_ret
  exact ⟨v', rfl, by simpa using hown, ((Below.refl _ w).alloc (Nat.le_refl _) _).grown hgrow (by simp) (by intro k hk; simp [Value.ownBlock] at hk; omega)⟩

theorem clonen204 (n c : Nat) (w : World) : Calls Try.prog 204 #[.slice none n c] w fun e w' => e = .returned (.slice none 0 0) ∧ w' = w := by
  have q22 : ∀ (w : World) (a : Option Addr) (n c n' c' : Nat), (binOp .eql 23 (.slice a n c) (.slice none n' c')).run Try.prog w = .ok (.bool a.isNone) w := fun w a n c n' c' => Lib.run_eql_slice_nil w _ _ a n c n' c' Try.underlying23
  go_enter Try.func204, Try.ntmps204
  go_wp2
  go_ret
  exact ⟨rfl, rfl⟩

def c_h204 : Ctr := ⟨[(.val .ro false (.sl 4 .bool))], [(false, (.sl 4 .bool))], fun _ _ y => cloneF y.1⟩
theorem k_h204 : Contract Go.Proofs.Try.prog 204 c_h204 := ctr_clone (HasBody.of Try.func204 (by kernel_rfl) (by kernel_rfl)) (tOk.ty 4 false .bool (by kernel_rfl)) (by rfl) clone204 clonen204

def c_spec_NewFilter : Ctr := ⟨[], [(true, (.sl 4 .bool))], fun N x y => spec_NewFilter N⟩
theorem k_spec_NewFilter : Contract Go.Proofs.Try.prog 31 c_spec_NewFilter := contract_of_run tOk (K := Kof []) (Kof_ok trivial)
  (mkH [] [] [] [])
  Go.Proofs.Try.func31 (by kernel_rfl) rfl _ _ (by decide +kernel) _ (by intro N x y; kernel_rfl)

def c_spec_l1Cur_next : Ctr := ⟨[(.sbox 127 (.pair (.sl 5 (.int .u8)) (.pair (.int .i64) (.int .u64))))], [(false, (.int .i64))], fun N x y => spec_l1Cur_next N y.1⟩
theorem k_spec_l1Cur_next : Contract Go.Proofs.Try.prog 203 c_spec_l1Cur_next := contract_of_run tOk (K := Kof []) (Kof_ok trivial)
  (mkH [] [] [(3, ⟨⟨[(.slot 3 false (.int .i64))], [3, 14, 15, 16, 17, 18, 19, 20, 21, 22, 23, 24]⟩, false, []⟩)] [])
  Go.Proofs.Try.func203 (by kernel_rfl) rfl _ _ (by decide +kernel) _ (by intro N x y; kernel_rfl)

def c_spec_l1Cur_pick : Ctr := ⟨[(.sbox 127 (.pair (.sl 5 (.int .u8)) (.pair (.int .i64) (.int .u64)))), (.val .ro false (.int .i64))], [(false, (.int .i64))], fun N x y => spec_l1Cur_pick N y.1 y.2.1⟩
theorem k_spec_l1Cur_pick : Contract Go.Proofs.Try.prog 114 c_spec_l1Cur_pick := contract_of_run tOk (K := Kof [(203, c_spec_l1Cur_next)]) (Kof_ok ⟨k_spec_l1Cur_next, trivial⟩)
  (mkH [] [] [(5, ⟨⟨[(.slot 5 false (.int .i64)), (.sbox 0 127 (.pair (.sl 5 (.int .u8)) (.pair (.int .i64) (.int .u64))))], [5, 12, 13, 14, 15, 16]⟩, false, [(0, 1)]⟩)] [])
  Go.Proofs.Try.func114 (by kernel_rfl) rfl _ _ (by decide +kernel) _ (by intro N x y; kernel_rfl)

def c_spec_l1Put : Ctr := ⟨[(.val .own false (.sl 3 (.int .i64))), (.val .ro false (.int .i64))], [(false, (.sl 3 (.int .i64)))], fun N x y => spec_l1Put N x.1 y.2.1⟩
theorem k_spec_l1Put : Contract Go.Proofs.Try.prog 205 c_spec_l1Put := contract_of_run tOk (K := Kof []) (Kof_ok trivial)
  (mkH [(2, ⟨[(.slot 5 false (.int .i64))], [5, 7, 8, 9, 10, 11, 12, 13, 14, 15, 16, 17, 18, 19, 20]⟩)] [(0, ⟨⟨[(.slot 5 false (.int .i64))], [5, 7, 8, 9, 10, 11, 12, 13, 14, 15, 16, 17, 18, 19, 20]⟩, false, []⟩)] [] [(2, ⟨⟨[(.slot 18 false .bool)], [7, 8, 9, 10, 11, 12, 13, 14, 15, 16, 17, 18]⟩, false, []⟩), (4, ⟨⟨[(.slot 32 false .bool)], [21, 22, 23, 24, 25, 26, 27, 28, 29, 30, 31, 32]⟩, false, []⟩)])
  Go.Proofs.Try.func205 (by kernel_rfl) rfl _ _ (by decide +kernel) _ (by intro N x y; kernel_rfl)

def c_spec_l13Bits : Ctr := ⟨[(.val .ro false (.int .i64))], [(false, (.sl 3 (.int .i64)))], fun N x y => spec_l13Bits N y.1⟩
theorem k_spec_l13Bits : Contract Go.Proofs.Try.prog 119 c_spec_l13Bits := contract_of_run tOk (K := Kof [(205, c_spec_l1Put)]) (Kof_ok ⟨k_spec_l1Put, trivial⟩)
  (mkH [(3, ⟨[(.slot 3 false (.sl 3 (.int .i64))), (.slot 4 false (.int .i64))], [3, 4, 5, 6, 7, 8, 9, 10, 11, 12, 13, 14, 15, 16, 17, 18, 19]⟩)] [(0, ⟨⟨[(.slot 3 false (.sl 3 (.int .i64)))], [3, 4, 5, 6, 7, 8, 9, 10, 11, 12, 13, 14, 15, 16, 17, 18, 19]⟩, false, []⟩)] [] [])
  Go.Proofs.Try.func119 (by kernel_rfl) rfl _ _ (by decide +kernel) _ (by intro N x y; kernel_rfl)

def c_spec_l13Put : Ctr := ⟨[(.val .own true (.sl 4 .bool)), (.val .ro false (.int .i64))], [(true, (.sl 4 .bool))], fun N x y => spec_l13Put N x.1 y.2.1⟩
theorem k_spec_l13Put : Contract Go.Proofs.Try.prog 200 c_spec_l13Put := contract_of_run tOk (K := Kof [(119, c_spec_l13Bits)]) (Kof_ok ⟨k_spec_l13Bits, trivial⟩)
  (mkH [(2, ⟨[(.slot 10 false (.int .i64)), (.ent 0 0 4 .bool)], [6, 10, 11, 12, 13, 14, 15, 16, 17, 18]⟩)] [(0, ⟨⟨[(.ent 0 0 4 .bool)], [6, 10, 11, 12, 13, 14, 15, 16, 17, 18]⟩, false, [(0, 2)]⟩)] [] [])
  Go.Proofs.Try.func200 (by kernel_rfl) rfl _ _ (by decide +kernel) _ (by intro N x y; kernel_rfl)

def c_spec_l1Cur_one : Ctr := ⟨[(.sbox 127 (.pair (.sl 5 (.int .u8)) (.pair (.int .i64) (.int .u64)))), (.val .ro false (.int .i64))], [(false, .bool)], fun N x y => spec_l1Cur_one N y.1 y.2.1⟩
theorem k_spec_l1Cur_one : Contract Go.Proofs.Try.prog 115 c_spec_l1Cur_one := contract_of_run tOk (K := Kof [(114, c_spec_l1Cur_pick)]) (Kof_ok ⟨k_spec_l1Cur_pick, trivial⟩)
  (mkH [] [] [] [])
  Go.Proofs.Try.func115 (by kernel_rfl) rfl _ _ (by decide +kernel) _ (by intro N x y; kernel_rfl)

def c_spec_l1Cur_filter : Ctr := ⟨[(.sbox 127 (.pair (.sl 5 (.int .u8)) (.pair (.int .i64) (.int .u64))))], [(true, (.sl 4 .bool))], fun N x y => spec_l1Cur_filter N y.1⟩
theorem k_spec_l1Cur_filter : Contract Go.Proofs.Try.prog 104 c_spec_l1Cur_filter := contract_of_run (tOk.cuts [19]) (K := Kof [(31, c_spec_NewFilter), (114, c_spec_l1Cur_pick), (115, c_spec_l1Cur_one), (200, c_spec_l13Put)]) (Kof_ok ⟨k_spec_NewFilter, k_spec_l1Cur_pick, k_spec_l1Cur_one, k_spec_l13Put, trivial⟩)
  (mkH [(3, ⟨[(.slot 4 false (.int .i64)), (.sbox 0 127 (.pair (.sl 5 (.int .u8)) (.pair (.int .i64) (.int .u64)))), (.box 3 25 (.sl 4 .bool))], [4, 8, 9, 10, 11, 12, 13, 14, 15]⟩)] [(0, ⟨⟨[(.sbox 0 127 (.pair (.sl 5 (.int .u8)) (.pair (.int .i64) (.int .u64)))), (.box 3 25 (.sl 4 .bool))], [4, 8, 9, 10, 11, 12, 13, 14, 15]⟩, false, [(0, 1), (3, 0)]⟩)] [(7, ⟨⟨[(.box 3 25 (.sl 4 .bool))], [18, 19, 20, 21]⟩, false, [(3, 0)]⟩)] [])
  Go.Proofs.Try.func104 (by kernel_rfl) rfl _ _ (by decide +kernel) _ (by intro N x y; kernel_rfl)

def c_spec_DrawJoinFilters : Ctr := ⟨[(.val .ro false (.sl 5 (.int .u8)))], [(true, (.sl 4 .bool)), (true, (.sl 4 .bool))], fun N x y => spec_DrawJoinFilters N y.1⟩
theorem k_spec_DrawJoinFilters : Contract Go.Proofs.Try.prog 12 c_spec_DrawJoinFilters := contract_of_run tOk (K := Kof [(104, c_spec_l1Cur_filter)]) (Kof_ok ⟨k_spec_l1Cur_filter, trivial⟩)
  (mkH [] [] [] [])
  Go.Proofs.Try.func12 (by kernel_rfl) rfl _ _ (by decide +kernel) _ (by intro N x y; kernel_rfl)

def c_impl_GoodFilter : Ctr := ⟨[(.val .ro true (.sl 4 .bool))], [(false, .bool)], fun N x y => impl_GoodFilter N y.1⟩
theorem k_impl_GoodFilter : Contract Go.Proofs.Try.prog 30 c_impl_GoodFilter := contract_of_run tOk (K := Kof []) (Kof_ok trivial)
  (mkH [] [] [] [])
  Go.Proofs.Try.func30 (by kernel_rfl) rfl _ _ (by decide +kernel) _ (by intro N x y; kernel_rfl)

def c_impl_NewFilter : Ctr := ⟨[], [(true, (.sl 4 .bool))], fun N x y => impl_NewFilter N⟩
theorem k_impl_NewFilter : Contract Go.Proofs.Try.prog 28 c_impl_NewFilter := contract_of_run tOk (K := Kof []) (Kof_ok trivial)
  (mkH [] [] [] [])
  Go.Proofs.Try.func28 (by kernel_rfl) rfl _ _ (by decide +kernel) _ (by intro N x y; kernel_rfl)

def c_impl_JoinFilters_1 : Ctr := ⟨[(.val .ro false .bool), (.val .ro false .bool)], [(false, .bool)], fun N x y => impl_JoinFilters_1 N y.1 y.2.1⟩
theorem k_impl_JoinFilters_1 : Contract Go.Proofs.Try.prog 106 c_impl_JoinFilters_1 := contract_of_run tOk (K := Kof []) (Kof_ok trivial)
  (mkH [] [] [] [(1, ⟨⟨[(.slot 4 false .bool)], [4, 5, 6, 7, 8]⟩, false, []⟩)])
  Go.Proofs.Try.func106 (by kernel_rfl) rfl _ _ (by decide +kernel) _ (by intro N x y; kernel_rfl)

def c_impl_combined_impl_JoinFilters_1 : Ctr := ⟨[(.val .ro true (.sl 4 .bool)), (.val .ro true (.sl 4 .bool)), (.rfn 106 [])], [(true, (.sl 4 .bool)), (false, .bool)], fun N x y => impl_combined_impl_JoinFilters_1 N y.1 y.2.1⟩
theorem k_impl_combined_impl_JoinFilters_1 : Contract Go.Proofs.Try.prog 105 c_impl_combined_impl_JoinFilters_1 := contract_of_run tOk (K := Kof [(28, c_impl_NewFilter), (30, c_impl_GoodFilter), (106, c_impl_JoinFilters_1)]) (Kof_ok ⟨k_impl_NewFilter, k_impl_GoodFilter, k_impl_JoinFilters_1, trivial⟩)
  (mkH [(5, ⟨[(.slot 23 false (.int .i64)), (.ent 8 0 4 .bool)], [9, 23, 24, 25, 26, 27, 28, 29, 30, 31, 32, 33, 34, 35, 36, 37, 38, 39, 40, 41, 42]⟩)] [(0, ⟨⟨[(.ent 8 0 4 .bool)], [9, 23, 24, 25, 26, 27, 28, 29, 30, 31, 32, 33, 34, 35, 36, 37, 38, 39, 40, 41, 42]⟩, false, [(8, 2)]⟩)] [] [(1, ⟨⟨[(.slot 17 false .bool)], [10, 11, 12, 13, 14, 15, 16, 17]⟩, false, []⟩)])
  Go.Proofs.Try.func105 (by kernel_rfl) rfl _ _ (by decide +kernel) _ (by intro N x y; kernel_rfl)

def c_impl_JoinFilters : Ctr := ⟨[(.val .ro true (.sl 4 .bool)), (.val .ro true (.sl 4 .bool))], [(true, (.sl 4 .bool)), (false, .bool)], fun N x y => impl_JoinFilters N y.1 y.2.1⟩
theorem k_impl_JoinFilters : Contract Go.Proofs.Try.prog 13 c_impl_JoinFilters := contract_of_run tOk (K := Kof [(105, c_impl_combined_impl_JoinFilters_1)]) (Kof_ok ⟨k_impl_combined_impl_JoinFilters_1, trivial⟩)
  (mkH [] [] [] [])
  Go.Proofs.Try.func13 (by kernel_rfl) rfl _ _ (by decide +kernel) _ (by intro N x y; kernel_rfl)

def c_spec_GoodFilter : Ctr := ⟨[(.val .ro true (.sl 4 .bool))], [(false, .bool)], fun N x y => spec_GoodFilter N y.1⟩
theorem k_spec_GoodFilter : Contract Go.Proofs.Try.prog 107 c_spec_GoodFilter := contract_of_run tOk (K := Kof []) (Kof_ok trivial)
  (mkH [] [] [] [])
  Go.Proofs.Try.func107 (by kernel_rfl) rfl _ _ (by decide +kernel) _ (by intro N x y; kernel_rfl)

def c_spec_l13Own : Ctr := ⟨[(.val .ro true (.sl 4 .bool))], [(true, (.sl 4 .bool))], fun N x y => spec_l13Own N y.1⟩
theorem k_spec_l13Own : Contract Go.Proofs.Try.prog 108 c_spec_l13Own := contract_of_run tOk (K := Kof []) (Kof_ok trivial)
  (mkH [] [] [] [])
  Go.Proofs.Try.func108 (by kernel_rfl) rfl _ _ (by decide +kernel) _ (by intro N x y; kernel_rfl)

def c_spec_JoinFilters : Ctr := ⟨[(.val .ro true (.sl 4 .bool)), (.val .ro true (.sl 4 .bool))], [(true, (.sl 4 .bool)), (false, .bool)], fun N x y => spec_JoinFilters N y.1 y.2.1⟩
theorem k_spec_JoinFilters : Contract Go.Proofs.Try.prog 14 c_spec_JoinFilters := contract_of_run tOk (K := Kof [(107, c_spec_GoodFilter), (108, c_spec_l13Own)]) (Kof_ok ⟨k_spec_GoodFilter, k_spec_l13Own, trivial⟩)
  (mkH [(5, ⟨[(.slot 23 false (.int .i64)), (.ent 6 0 4 .bool)], [7, 8, 23, 24, 25, 26, 27, 28, 29, 30, 31, 32, 33, 34, 35, 36, 37, 38, 39, 40]⟩)] [(0, ⟨⟨[(.ent 6 0 4 .bool)], [7, 8, 23, 24, 25, 26, 27, 28, 29, 30, 31, 32, 33, 34, 35, 36, 37, 38, 39, 40]⟩, false, [(6, 2)]⟩)] [] [(1, ⟨⟨[(.slot 16 false .bool)], [9, 10, 11, 12, 13, 14, 15, 16]⟩, false, []⟩), (7, ⟨⟨[(.ent 6 0 4 .bool)], [28, 29, 30, 31, 32, 33, 34, 35, 36, 37, 38, 39]⟩, false, [(6, 2)]⟩)])
  Go.Proofs.Try.func14 (by kernel_rfl) rfl _ _ (by decide +kernel) _ (by intro N x y; kernel_rfl)

def c_impl_MeetFilters_1 : Ctr := ⟨[(.val .ro false .bool), (.val .ro false .bool)], [(false, .bool)], fun N x y => impl_MeetFilters_1 N y.1 y.2.1⟩
theorem k_impl_MeetFilters_1 : Contract Go.Proofs.Try.prog 109 c_impl_MeetFilters_1 := contract_of_run tOk (K := Kof []) (Kof_ok trivial)
  (mkH [] [] [] [(1, ⟨⟨[(.slot 4 false .bool)], [4, 5, 6, 7, 8]⟩, false, []⟩)])
  Go.Proofs.Try.func109 (by kernel_rfl) rfl _ _ (by decide +kernel) _ (by intro N x y; kernel_rfl)

def c_impl_combined_impl_MeetFilters_1 : Ctr := ⟨[(.val .ro true (.sl 4 .bool)), (.val .ro true (.sl 4 .bool)), (.rfn 109 [])], [(true, (.sl 4 .bool)), (false, .bool)], fun N x y => impl_combined_impl_MeetFilters_1 N y.1 y.2.1⟩
theorem k_impl_combined_impl_MeetFilters_1 : Contract Go.Proofs.Try.prog 105 c_impl_combined_impl_MeetFilters_1 := contract_of_run tOk (K := Kof [(28, c_impl_NewFilter), (30, c_impl_GoodFilter), (109, c_impl_MeetFilters_1)]) (Kof_ok ⟨k_impl_NewFilter, k_impl_GoodFilter, k_impl_MeetFilters_1, trivial⟩)
  (mkH [(5, ⟨[(.slot 23 false (.int .i64)), (.ent 8 0 4 .bool)], [9, 23, 24, 25, 26, 27, 28, 29, 30, 31, 32, 33, 34, 35, 36, 37, 38, 39, 40, 41, 42]⟩)] [(0, ⟨⟨[(.ent 8 0 4 .bool)], [9, 23, 24, 25, 26, 27, 28, 29, 30, 31, 32, 33, 34, 35, 36, 37, 38, 39, 40, 41, 42]⟩, false, [(8, 2)]⟩)] [] [(1, ⟨⟨[(.slot 17 false .bool)], [10, 11, 12, 13, 14, 15, 16, 17]⟩, false, []⟩)])
  Go.Proofs.Try.func105 (by kernel_rfl) rfl _ _ (by decide +kernel) _ (by intro N x y; kernel_rfl)

def c_impl_MeetFilters : Ctr := ⟨[(.val .ro true (.sl 4 .bool)), (.val .ro true (.sl 4 .bool))], [(true, (.sl 4 .bool)), (false, .bool)], fun N x y => impl_MeetFilters N y.1 y.2.1⟩
theorem k_impl_MeetFilters : Contract Go.Proofs.Try.prog 15 c_impl_MeetFilters := contract_of_run tOk (K := Kof [(105, c_impl_combined_impl_MeetFilters_1)]) (Kof_ok ⟨k_impl_combined_impl_MeetFilters_1, trivial⟩)
  (mkH [] [] [] [])
  Go.Proofs.Try.func15 (by kernel_rfl) rfl _ _ (by decide +kernel) _ (by intro N x y; kernel_rfl)

def c_spec_MeetFilters : Ctr := ⟨[(.val .ro true (.sl 4 .bool)), (.val .ro true (.sl 4 .bool))], [(true, (.sl 4 .bool)), (false, .bool)], fun N x y => spec_MeetFilters N y.1 y.2.1⟩
theorem k_spec_MeetFilters : Contract Go.Proofs.Try.prog 16 c_spec_MeetFilters := contract_of_run tOk (K := Kof [(107, c_spec_GoodFilter), (108, c_spec_l13Own)]) (Kof_ok ⟨k_spec_GoodFilter, k_spec_l13Own, trivial⟩)
  (mkH [(5, ⟨[(.slot 23 false (.int .i64)), (.ent 6 0 4 .bool)], [7, 8, 23, 24, 25, 26, 27, 28, 29, 30, 31, 32, 33, 34, 35, 36, 37, 38, 39, 40]⟩)] [(0, ⟨⟨[(.ent 6 0 4 .bool)], [7, 8, 23, 24, 25, 26, 27, 28, 29, 30, 31, 32, 33, 34, 35, 36, 37, 38, 39, 40]⟩, false, [(6, 2)]⟩)] [] [(1, ⟨⟨[(.slot 16 false .bool)], [9, 10, 11, 12, 13, 14, 15, 16]⟩, false, []⟩), (7, ⟨⟨[(.ent 6 0 4 .bool)], [28, 29, 30, 31, 32, 33, 34, 35, 36, 37, 38, 39]⟩, false, [(6, 2)]⟩)])
  Go.Proofs.Try.func16 (by kernel_rfl) rfl _ _ (by decide +kernel) _ (by intro N x y; kernel_rfl)

def c_laws_sameBools : Ctr := ⟨[(.val .ro false (.sl 4 .bool)), (.val .ro false (.sl 4 .bool))], [(false, .bool)], fun N x y => laws_sameBools N y.1 y.2.1⟩
theorem k_laws_sameBools : Contract Go.Proofs.Try.prog 17 c_laws_sameBools := contract_of_run tOk (K := Kof []) (Kof_ok trivial)
  (mkH [(4, ⟨[(.slot 13 false (.int .i64))], [4, 5, 13, 14, 15, 16, 17, 18, 19, 20, 21, 22, 23, 24, 25]⟩)] [(0, ⟨⟨[], [4, 5, 13, 14, 15, 16, 17, 18, 19, 20, 21, 22, 23, 24, 25]⟩, true, []⟩)] [] [])
  Go.Proofs.Try.func17 (by kernel_rfl) rfl _ _ (by decide +kernel) _ (by intro N x y; kernel_rfl)

def c_laws_numberOf : Ctr := ⟨[(.val .ro false (.sl 5 (.int .u8)))], [(false, (.int .i64))], fun N x y => laws_numberOf N y.1⟩
theorem k_laws_numberOf : Contract Go.Proofs.Try.prog 18 c_laws_numberOf := contract_of_run tOk (K := Kof []) (Kof_ok trivial)
  (mkH [(3, ⟨[(.slot 3 false (.int .i64)), (.slot 8 false (.int .i64))], [3, 5, 8, 9, 10, 11, 12, 13, 14, 15, 16, 17, 18]⟩)] [(0, ⟨⟨[(.slot 3 false (.int .i64))], [3, 5, 8, 9, 10, 11, 12, 13, 14, 15, 16, 17, 18]⟩, false, []⟩)] [] [])
  Go.Proofs.Try.func18 (by kernel_rfl) rfl _ _ (by decide +kernel) _ (by intro N x y; kernel_rfl)

def c_impl_within : Ctr := ⟨[(.val .ro false (.int .i64)), (.val .ro false (.int .i64)), (.val .ro false (.int .i64))], [(false, .bool)], fun N x y => impl_within N y.1 y.2.1 y.2.2.1⟩
theorem k_impl_within : Contract Go.Proofs.Try.prog 131 c_impl_within := contract_of_run tOk (K := Kof []) (Kof_ok trivial)
  (mkH [] [] [] [(1, ⟨⟨[(.slot 6 false .bool)], [6, 7, 8, 9, 10, 11, 12, 13, 14]⟩, false, []⟩)])
  Go.Proofs.Try.func131 (by kernel_rfl) rfl _ _ (by decide +kernel) _ (by intro N x y; kernel_rfl)

def c_impl_isKey : Ctr := ⟨[(.val .ro false (.int .i64))], [(false, .bool)], fun N x y => impl_isKey N y.1⟩
theorem k_impl_isKey : Contract Go.Proofs.Try.prog 110 c_impl_isKey := contract_of_run tOk (K := Kof [(131, c_impl_within)]) (Kof_ok ⟨k_impl_within, trivial⟩)
  (mkH [] [] [] [])
  Go.Proofs.Try.func110 (by kernel_rfl) rfl _ _ (by decide +kernel) _ (by intro N x y; kernel_rfl)

def c_impl_bitsFor : Ctr := ⟨[(.val .ro false (.int .i64))], [(false, (.sl 3 (.int .i64)))], fun N x y => impl_bitsFor N y.1⟩
theorem k_impl_bitsFor : Contract Go.Proofs.Try.prog 112 c_impl_bitsFor := contract_of_run tOk (K := Kof [(150, c_h150), (202, c_h202)]) (Kof_ok ⟨k_h150, k_h202, trivial⟩)
  (mkH [(3, ⟨[(.slot 3 false (.sl 3 (.int .i64))), (.slot 6 false (.int .i64))], [3, 4, 6, 7, 8, 9, 10, 11, 12, 13, 14, 15, 16, 17, 18, 19, 20, 21]⟩)] [(0, ⟨⟨[(.slot 3 false (.sl 3 (.int .i64)))], [3, 4, 6, 7, 8, 9, 10, 11, 12, 13, 14, 15, 16, 17, 18, 19, 20, 21]⟩, false, [(5, 2)]⟩)] [] [])
  Go.Proofs.Try.func112 (by kernel_rfl) rfl _ _ (by decide +kernel) _ (by intro N x y; kernel_rfl)

def c_impl_MayHave_1 : Ctr := ⟨[(.val .ro false (.int .i64)), (.rvar 25 (.sl 4 .bool))], [(false, .bool)], fun N x y => impl_MayHave_1 N y.1 y.2.1.1⟩
theorem k_impl_MayHave_1 : Contract Go.Proofs.Try.prog 113 c_impl_MayHave_1 := contract_of_run tOk (K := Kof []) (Kof_ok trivial)
  (mkH [] [] [] [])
  Go.Proofs.Try.func113 (by kernel_rfl) rfl _ _ (by decide +kernel) _ (by intro N x y; kernel_rfl)

def c_slices_IndexFunc_int_int_impl_MayHave_1 : Ctr := ⟨[(.val .ro false (.sl 3 (.int .i64))), (.rfn 113 [(25, (.sl 4 .bool))])], [(false, (.int .i64))], fun N x y => slices_IndexFunc_int_int_impl_MayHave_1 N y.1 y.2.1.1⟩
theorem k_slices_IndexFunc_int_int_impl_MayHave_1 : Contract Go.Proofs.Try.prog 201 c_slices_IndexFunc_int_int_impl_MayHave_1 := contract_of_run tOk (K := Kof [(113, c_impl_MayHave_1)]) (Kof_ok ⟨k_impl_MayHave_1, trivial⟩)
  (mkH [(2, ⟨[(.slot 8 false (.int .i64))], [4, 5, 8, 9, 10, 11, 12, 13, 14, 15, 16, 17, 18]⟩)] [(0, ⟨⟨[], [4, 5, 8, 9, 10, 11, 12, 13, 14, 15, 16, 17, 18]⟩, true, []⟩)] [] [])
  Go.Proofs.Try.func201 (by kernel_rfl) rfl _ _ (by decide +kernel) _ (by intro N x y; kernel_rfl)

def c_slices_ContainsFunc_int_int_impl_MayHave_1 : Ctr := ⟨[(.val .ro false (.sl 3 (.int .i64))), (.rfn 113 [(25, (.sl 4 .bool))])], [(false, .bool)], fun N x y => slices_ContainsFunc_int_int_impl_MayHave_1 N y.1 y.2.1.1⟩
theorem k_slices_ContainsFunc_int_int_impl_MayHave_1 : Contract Go.Proofs.Try.prog 111 c_slices_ContainsFunc_int_int_impl_MayHave_1 := contract_of_run tOk (K := Kof [(201, c_slices_IndexFunc_int_int_impl_MayHave_1)]) (Kof_ok ⟨k_slices_IndexFunc_int_int_impl_MayHave_1, trivial⟩)
  (mkH [] [] [] [])
  Go.Proofs.Try.func111 (by kernel_rfl) rfl _ _ (by decide +kernel) _ (by intro N x y; kernel_rfl)

def c_impl_MayHave : Ctr := ⟨[(.val .ro true (.sl 4 .bool)), (.val .ro false (.int .i64))], [(false, .bool), (false, .bool)], fun N x y => impl_MayHave N y.1 y.2.1⟩
theorem k_impl_MayHave : Contract Go.Proofs.Try.prog 19 c_impl_MayHave := contract_of_run tOk (K := Kof [(30, c_impl_GoodFilter), (110, c_impl_isKey), (111, c_slices_ContainsFunc_int_int_impl_MayHave_1), (112, c_impl_bitsFor)]) (Kof_ok ⟨k_impl_GoodFilter, k_impl_isKey, k_slices_ContainsFunc_int_int_impl_MayHave_1, k_impl_bitsFor, trivial⟩)
  (mkH [] [] [] [(1, ⟨⟨[(.slot 13 false .bool)], [6, 7, 8, 9, 10, 11, 12, 13]⟩, false, []⟩)])
  Go.Proofs.Try.func19 (by kernel_rfl) rfl _ _ (by decide +kernel) _ (by intro N x y; kernel_rfl)

def c_impl_OnesIn : Ctr := ⟨[(.val .ro true (.sl 4 .bool))], [(false, (.int .i64)), (false, .bool)], fun N x y => impl_OnesIn N y.1⟩
theorem k_impl_OnesIn : Contract Go.Proofs.Try.prog 20 c_impl_OnesIn := contract_of_run tOk (K := Kof [(30, c_impl_GoodFilter)]) (Kof_ok ⟨k_impl_GoodFilter, trivial⟩)
  (mkH [(5, ⟨[(.slot 4 false (.int .i64)), (.slot 13 false (.int .i64))], [4, 6, 13, 14, 15, 16, 17, 18, 19, 20]⟩)] [(0, ⟨⟨[(.slot 4 false (.int .i64))], [4, 6, 13, 14, 15, 16, 17, 18, 19, 20]⟩, false, []⟩)] [(8, ⟨⟨[(.slot 4 false (.int .i64))], [4, 18, 19]⟩, false, []⟩)] [])
  Go.Proofs.Try.func20 (by kernel_rfl) rfl _ _ (by decide +kernel) _ (by intro N x y; kernel_rfl)

def c_spec_l1Cur_among : Ctr := ⟨[(.sbox 127 (.pair (.sl 5 (.int .u8)) (.pair (.int .i64) (.int .u64)))), (.val .ro false (.sl 3 (.int .i64)))], [(false, (.int .i64))], fun N x y => spec_l1Cur_among N y.1 y.2.1⟩
theorem k_spec_l1Cur_among : Contract Go.Proofs.Try.prog 142 c_spec_l1Cur_among := contract_of_run tOk (K := Kof [(114, c_spec_l1Cur_pick)]) (Kof_ok ⟨k_spec_l1Cur_pick, trivial⟩)
  (mkH [] [] [] [])
  Go.Proofs.Try.func142 (by kernel_rfl) rfl _ _ (by decide +kernel) _ (by intro N x y; kernel_rfl)

def c_spec_l1Cur_key12 : Ctr := ⟨[(.sbox 127 (.pair (.sl 5 (.int .u8)) (.pair (.int .i64) (.int .u64))))], [(false, (.int .i64))], fun N x y => spec_l1Cur_key12 N y.1⟩
theorem k_spec_l1Cur_key12 : Contract Go.Proofs.Try.prog 116 c_spec_l1Cur_key12 := contract_of_run tOk (K := Kof [(114, c_spec_l1Cur_pick), (115, c_spec_l1Cur_one), (142, c_spec_l1Cur_among)]) (Kof_ok ⟨k_spec_l1Cur_pick, k_spec_l1Cur_one, k_spec_l1Cur_among, trivial⟩)
  (mkH [] [] [] [])
  Go.Proofs.Try.func116 (by kernel_rfl) rfl _ _ (by decide +kernel) _ (by intro N x y; kernel_rfl)

def c_spec_DrawFilterOf : Ctr := ⟨[(.val .ro false (.sl 5 (.int .u8)))], [(false, (.sl 3 (.int .i64)))], fun N x y => spec_DrawFilterOf N y.1⟩
theorem k_spec_DrawFilterOf : Contract Go.Proofs.Try.prog 21 c_spec_DrawFilterOf := contract_of_run tOk (K := Kof [(114, c_spec_l1Cur_pick), (115, c_spec_l1Cur_one), (116, c_spec_l1Cur_key12)]) (Kof_ok ⟨k_spec_l1Cur_pick, k_spec_l1Cur_one, k_spec_l1Cur_key12, trivial⟩)
  (mkH [(6, ⟨[(.slot 4 false (.sl 3 (.int .i64))), (.slot 5 false (.int .i64)), (.sbox 3 127 (.pair (.sl 5 (.int .u8)) (.pair (.int .i64) (.int .u64))))], [4, 5, 16, 17, 18, 19, 20, 21, 22, 23, 24]⟩)] [(0, ⟨⟨[(.slot 4 false (.sl 3 (.int .i64)))], [4, 5, 16, 17, 18, 19, 20, 21, 22, 23, 24]⟩, false, [(3, 1)]⟩)] [(5, ⟨⟨[(.slot 5 false (.int .i64)), (.sbox 3 127 (.pair (.sl 5 (.int .u8)) (.pair (.int .i64) (.int .u64))))], [5, 13, 14, 15]⟩, false, [(3, 1)]⟩)] [])
  Go.Proofs.Try.func21 (by kernel_rfl) rfl _ _ (by decide +kernel) _ (by intro N x y; kernel_rfl)

def c_impl_PutFilter : Ctr := ⟨[(.val .ro true (.sl 4 .bool)), (.val .ro false (.int .i64))], [(true, (.sl 4 .bool)), (false, .bool)], fun N x y => impl_PutFilter N y.1 y.2.1⟩
theorem k_impl_PutFilter : Contract Go.Proofs.Try.prog 117 c_impl_PutFilter := contract_of_run tOk (K := Kof [(30, c_impl_GoodFilter), (110, c_impl_isKey), (112, c_impl_bitsFor), (204, c_h204)]) (Kof_ok ⟨k_impl_GoodFilter, k_impl_isKey, k_impl_bitsFor, k_h204, trivial⟩)
  (mkH [(5, ⟨[(.slot 25 false (.int .i64)), (.ent 6 0 4 .bool)], [8, 25, 26, 27, 28, 29, 30, 31, 32, 33]⟩)] [(0, ⟨⟨[(.ent 6 0 4 .bool)], [8, 25, 26, 27, 28, 29, 30, 31, 32, 33]⟩, false, [(6, 2)]⟩)] [] [(1, ⟨⟨[(.slot 16 false .bool)], [9, 10, 11, 12, 13, 14, 15, 16]⟩, false, []⟩)])
  Go.Proofs.Try.func117 (by kernel_rfl) rfl _ _ (by decide +kernel) _ (by intro N x y; kernel_rfl)

def c_impl_FilterOf : Ctr := ⟨[(.val .ro false (.sl 3 (.int .i64)))], [(true, (.sl 4 .bool)), (false, .bool)], fun N x y => impl_FilterOf N y.1⟩
theorem k_impl_FilterOf : Contract Go.Proofs.Try.prog 22 c_impl_FilterOf := contract_of_run tOk (K := Kof [(28, c_impl_NewFilter), (117, c_impl_PutFilter)]) (Kof_ok ⟨k_impl_NewFilter, k_impl_PutFilter, trivial⟩)
  (mkH [(5, ⟨[(.slot 15 false (.int .i64)), (.box 4 25 (.sl 4 .bool))], [3, 5, 7, 15, 16, 17, 18, 19, 20, 21, 22, 23, 24, 25, 26, 27, 28]⟩)] [(0, ⟨⟨[(.box 4 25 (.sl 4 .bool))], [3, 5, 7, 15, 16, 17, 18, 19, 20, 21, 22, 23, 24, 25, 26, 27, 28]⟩, true, [(4, 0)]⟩)] [] [])
  Go.Proofs.Try.func22 (by kernel_rfl) rfl _ _ (by decide +kernel) _ (by intro N x y; kernel_rfl)

def c_spec_DrawBitsFor : Ctr := ⟨[(.val .ro false (.sl 5 (.int .u8)))], [(false, (.int .i64))], fun N x y => spec_DrawBitsFor N y.1⟩
theorem k_spec_DrawBitsFor : Contract Go.Proofs.Try.prog 23 c_spec_DrawBitsFor := contract_of_run tOk (K := Kof [(116, c_spec_l1Cur_key12)]) (Kof_ok ⟨k_spec_l1Cur_key12, trivial⟩)
  (mkH [] [] [] [])
  Go.Proofs.Try.func23 (by kernel_rfl) rfl _ _ (by decide +kernel) _ (by intro N x y; kernel_rfl)

def c_impl_BitsFor : Ctr := ⟨[(.val .ro false (.int .i64))], [(false, (.sl 3 (.int .i64))), (false, .bool)], fun N x y => impl_BitsFor N y.1⟩
theorem k_impl_BitsFor : Contract Go.Proofs.Try.prog 24 c_impl_BitsFor := contract_of_run tOk (K := Kof [(110, c_impl_isKey), (112, c_impl_bitsFor)]) (Kof_ok ⟨k_impl_isKey, k_impl_bitsFor, trivial⟩)
  (mkH [] [] [] [])
  Go.Proofs.Try.func24 (by kernel_rfl) rfl _ _ (by decide +kernel) _ (by intro N x y; kernel_rfl)

def c_spec_l1In : Ctr := ⟨[(.val .ro false (.int .i64)), (.val .ro false (.int .i64)), (.val .ro false (.int .i64))], [(false, .bool)], fun N x y => spec_l1In N y.1 y.2.1 y.2.2.1⟩
theorem k_spec_l1In : Contract Go.Proofs.Try.prog 144 c_spec_l1In := contract_of_run tOk (K := Kof []) (Kof_ok trivial)
  (mkH [] [] [] [(1, ⟨⟨[(.slot 6 false .bool)], [6, 7, 8, 9, 10, 11, 12, 13, 14]⟩, false, []⟩)])
  Go.Proofs.Try.func144 (by kernel_rfl) rfl _ _ (by decide +kernel) _ (by intro N x y; kernel_rfl)

def c_spec_l12Key : Ctr := ⟨[(.val .ro false (.int .i64))], [(false, .bool)], fun N x y => spec_l12Key N y.1⟩
theorem k_spec_l12Key : Contract Go.Proofs.Try.prog 118 c_spec_l12Key := contract_of_run tOk (K := Kof [(144, c_spec_l1In)]) (Kof_ok ⟨k_spec_l1In, trivial⟩)
  (mkH [] [] [] [])
  Go.Proofs.Try.func118 (by kernel_rfl) rfl _ _ (by decide +kernel) _ (by intro N x y; kernel_rfl)

def c_spec_BitsFor : Ctr := ⟨[(.val .ro false (.int .i64))], [(false, (.sl 3 (.int .i64))), (false, .bool)], fun N x y => spec_BitsFor N y.1⟩
theorem k_spec_BitsFor : Contract Go.Proofs.Try.prog 25 c_spec_BitsFor := contract_of_run tOk (K := Kof [(118, c_spec_l12Key), (119, c_spec_l13Bits)]) (Kof_ok ⟨k_spec_l12Key, k_spec_l13Bits, trivial⟩)
  (mkH [] [] [] [])
  Go.Proofs.Try.func25 (by kernel_rfl) rfl _ _ (by decide +kernel) _ (by intro N x y; kernel_rfl)

def c_spec_DrawGoodFilter : Ctr := ⟨[(.val .ro false (.sl 5 (.int .u8)))], [(true, (.sl 4 .bool))], fun N x y => spec_DrawGoodFilter N y.1⟩
theorem k_spec_DrawGoodFilter : Contract Go.Proofs.Try.prog 120 c_spec_DrawGoodFilter := contract_of_run tOk (K := Kof [(104, c_spec_l1Cur_filter)]) (Kof_ok ⟨k_spec_l1Cur_filter, trivial⟩)
  (mkH [] [] [] [])
  Go.Proofs.Try.func120 (by kernel_rfl) rfl _ _ (by decide +kernel) _ (by intro N x y; kernel_rfl)

def c_spec_DrawOnesIn : Ctr := ⟨[(.val .ro false (.sl 5 (.int .u8)))], [(true, (.sl 4 .bool))], fun N x y => spec_DrawOnesIn N y.1⟩
theorem k_spec_DrawOnesIn : Contract Go.Proofs.Try.prog 26 c_spec_DrawOnesIn := contract_of_run tOk (K := Kof [(120, c_spec_DrawGoodFilter)]) (Kof_ok ⟨k_spec_DrawGoodFilter, trivial⟩)
  (mkH [] [] [] [])
  Go.Proofs.Try.func26 (by kernel_rfl) rfl _ _ (by decide +kernel) _ (by intro N x y; kernel_rfl)

def c_spec_l8Bit : Ctr := ⟨[(.val .ro false .bool)], [(false, (.int .i64))], fun N x y => spec_l8Bit N y.1⟩
theorem k_spec_l8Bit : Contract Go.Proofs.Try.prog 121 c_spec_l8Bit := contract_of_run tOk (K := Kof []) (Kof_ok trivial)
  (mkH [] [] [] [])
  Go.Proofs.Try.func121 (by kernel_rfl) rfl _ _ (by decide +kernel) _ (by intro N x y; kernel_rfl)

def c_spec_OnesIn : Ctr := ⟨[(.val .ro true (.sl 4 .bool))], [(false, (.int .i64)), (false, .bool)], fun N x y => spec_OnesIn N y.1⟩
theorem k_spec_OnesIn : Contract Go.Proofs.Try.prog 27 c_spec_OnesIn := contract_of_run tOk (K := Kof [(107, c_spec_GoodFilter), (121, c_spec_l8Bit)]) (Kof_ok ⟨k_spec_GoodFilter, k_spec_l8Bit, trivial⟩)
  (mkH [(5, ⟨[(.slot 4 false (.int .i64)), (.slot 13 false (.int .i64))], [4, 6, 13, 14, 15, 16, 17, 18, 19, 20, 21]⟩)] [(0, ⟨⟨[(.slot 4 false (.int .i64))], [4, 6, 13, 14, 15, 16, 17, 18, 19, 20, 21]⟩, false, []⟩)] [] [])
  Go.Proofs.Try.func27 (by kernel_rfl) rfl _ _ (by decide +kernel) _ (by intro N x y; kernel_rfl)

def c_laws_sameInts : Ctr := ⟨[(.val .ro false (.sl 3 (.int .i64))), (.val .ro false (.sl 3 (.int .i64)))], [(false, .bool)], fun N x y => laws_sameInts N y.1 y.2.1⟩
theorem k_laws_sameInts : Contract Go.Proofs.Try.prog 29 c_laws_sameInts := contract_of_run tOk (K := Kof []) (Kof_ok trivial)
  (mkH [(4, ⟨[(.slot 13 false (.int .i64))], [4, 5, 13, 14, 15, 16, 17, 18, 19, 20, 21, 22, 23, 24, 25]⟩)] [(0, ⟨⟨[], [4, 5, 13, 14, 15, 16, 17, 18, 19, 20, 21, 22, 23, 24, 25]⟩, true, []⟩)] [] [])
  Go.Proofs.Try.func29 (by kernel_rfl) rfl _ _ (by decide +kernel) _ (by intro N x y; kernel_rfl)

def c_laws_FnFilters : Ctr := ⟨[(.val .ro false (.sl 5 (.int .u8))), (.val .ro false (.sl 5 (.int .u8)))], [(false, .bool)], fun N x y => laws_FnFilters N y.1 y.2.1⟩
theorem k_laws_FnFilters : Contract Go.Proofs.Try.prog 3 c_laws_FnFilters := contract_of_run tOk (K := Kof [(12, c_spec_DrawJoinFilters), (13, c_impl_JoinFilters), (14, c_spec_JoinFilters), (15, c_impl_MeetFilters), (16, c_spec_MeetFilters), (17, c_laws_sameBools), (18, c_laws_numberOf), (19, c_impl_MayHave), (20, c_impl_OnesIn), (21, c_spec_DrawFilterOf), (22, c_impl_FilterOf), (23, c_spec_DrawBitsFor), (24, c_impl_BitsFor), (25, c_spec_BitsFor), (26, c_spec_DrawOnesIn), (27, c_spec_OnesIn), (28, c_impl_NewFilter), (29, c_laws_sameInts), (30, c_impl_GoodFilter), (31, c_spec_NewFilter)]) (Kof_ok ⟨k_spec_DrawJoinFilters, k_impl_JoinFilters, k_spec_JoinFilters, k_impl_MeetFilters, k_spec_MeetFilters, k_laws_sameBools, k_laws_numberOf, k_impl_MayHave, k_impl_OnesIn, k_spec_DrawFilterOf, k_impl_FilterOf, k_spec_DrawBitsFor, k_impl_BitsFor, k_spec_BitsFor, k_spec_DrawOnesIn, k_spec_OnesIn, k_impl_NewFilter, k_laws_sameInts, k_impl_GoodFilter, k_spec_NewFilter, trivial⟩)
  (mkH [] [] [(11, ⟨⟨[], [4, 15, 16, 17, 18, 19, 20, 21, 22, 23, 24, 25, 26, 27, 28, 29, 30, 31, 113, 114, 115, 116, 117, 118, 119, 120, 121, 122, 123, 124, 125, 126, 127, 128, 129, 130, 131, 132, 133, 134, 135, 136, 137, 138, 139, 140, 141, 142, 143, 144, 145, 146, 147, 148, 149, 150, 151, 152, 153, 154, 155, 156, 157, 158, 159, 160, 161, 162, 163, 164, 165, 166, 167, 168, 169, 170, 171, 172, 173, 174, 175, 176, 177, 178, 179, 180, 181, 182, 183, 184, 185, 186, 187, 188, 189, 190, 191, 192, 193, 194, 195, 196, 197, 198, 199, 200, 201, 202, 203, 204, 205, 206, 207, 208, 209, 210, 211, 212, 213, 214]⟩, true, []⟩), (30, ⟨⟨[], [4, 40, 41, 243, 244, 245, 246, 247, 248, 249, 250, 251, 252, 253, 254, 255, 256, 257, 258, 259, 260, 261, 262, 263, 264, 265, 266]⟩, true, []⟩)] [(8, ⟨⟨[(.slot 111 false .bool)], [88, 89, 90, 91, 92, 93, 94, 95, 96, 97, 98, 99, 100, 101, 102, 103, 104, 105, 106, 107, 108, 109, 110, 111]⟩, false, []⟩), (16, ⟨⟨[(.slot 171 false .bool)], [140, 141, 142, 143, 144, 145, 146, 147, 148, 149, 150, 151, 152, 153, 154, 155, 156, 157, 158, 159, 160, 161, 162, 163, 164, 165, 166, 167, 168, 169, 170, 171]⟩, false, []⟩), (22, ⟨⟨[(.slot 214 false .bool)], [192, 193, 194, 195, 196, 197, 198, 199, 200, 201, 202, 203, 204, 205, 206, 207, 208, 209, 210, 211, 212, 213, 214]⟩, false, []⟩), (31, ⟨⟨[(.slot 266 false .bool)], [249, 250, 251, 252, 253, 254, 255, 256, 257, 258, 259, 260, 261, 262, 263, 264, 265, 266]⟩, false, []⟩), (40, ⟨⟨[(.slot 4 false .bool)], [4, 292, 293, 294, 295, 296, 297, 298, 299, 300, 301, 302, 303, 304, 305, 306, 307, 308, 309, 310, 311, 312, 313, 314, 315, 316, 317, 318, 319, 320]⟩, false, []⟩)])
  Go.Proofs.Try.func3 (by kernel_rfl) rfl _ _ (by decide +kernel) _ (by intro N x y; kernel_rfl)

end Go.Vf
