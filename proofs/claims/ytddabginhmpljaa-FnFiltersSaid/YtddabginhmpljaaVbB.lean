/- A law whose two arguments are slices of bytes, and whose answer is true: from its contract to its row. -/
import Derived.Test.YtddabginhmpljaaVbA
namespace Go.Vf
open Go.ChangeShapes Go.WideShapes Go.ChangeAt Go.RowKit
set_option linter.unusedVariables false
set_option linter.unusedSimpArgs false

theorem law2 {P : Program} {f : FuncId} {fn : Func} {t e tb : TypeId} (hl : laidOutB P = true) (hr : P.readableRec t = true) (hrow : t < P.types.size) (ht : P.underlying t = some (.slice e)) (he : P.underlying e = some (.int .u8)) (hce : P.cellsOf e = 1)
    (hparams : fn.params = #[t, t]) (hres : fn.resultTypes = #[tb]) (hb : P.underlying tb = some .bool)
    {F : Nat → den (ownT [.val .ro false (.sl e (.int .u8)), .val .ro false (.sl e (.int .u8))]) → den (roT [.val .ro false (.sl e (.int .u8)), .val .ro false (.sl e (.int .u8))]) → Option (den (.pair (resT [(false, .bool)]) (boxT [.val .ro false (.sl e (.int .u8)), .val .ro false (.sl e (.int .u8))])))}
    (hC : Contract P f ⟨[.val .ro false (.sl e (.int .u8)), .val .ro false (.sl e (.int .u8))], [(false, .bool)], F⟩)
    (hF : ∀ x y : List Int, Nums .u8 x → Nums .u8 y → ∃ N, F N ((), ((), ())) (x, (y, ())) = some ((true, ()), ((), ((), ()))))
    {s : ChangeSpec} (hvars : s.vars = []) (hfn : ∀ (H : Type) (d1 d2 : DataW H), s.fn H [d1, d2] = { results := [.lit (.bool true)], args := [d1, d2] })
    {H : Type} {enc : TypeId × Value → H} (W : World) (base : Nat) (args : Array Value) (ds gs : List (DataW H)) (before : List MemPlace)
    (hval : ∀ (j : Nat) t v, fn.params[j]? = some t → args[j]? = some v → Value.okWide P W .any base t v)
    (hW : DataW.Whole enc P fn.params.toList s.vars false W args.toList ds gs before) :
    Calls P f args W fun e W' => ∃ v, e = .returned v ∧ s.post enc P fn false true false false W args v W' := by
  have hW' := hW
  obtain ⟨p, q, hA, hV, hbe, _, _⟩ := hW
  rw [hvars] at hV
  rw [hparams] at hA hval
  obtain ⟨v0, vs0, d0, ds0, p0, q0, hargs, rfl, rfl, h0, hA1⟩ := trodAll_cons hA
  obtain ⟨v1, vs1, d1, ds1, p1, q1, hargs1, rfl, rfl, h1, hA2⟩ := trodAll_cons hA1
  obtain ⟨rfl, rfl, rfl⟩ := trodAll_nil hA2
  subst hargs1
  obtain rfl : args = #[v0, v1] := by cases args; simp_all
  obtain ⟨rfl, rfl⟩ := trodVars_none hV
  simp only [List.append_nil] at hbe
  have hlt : ∀ x ∈ before, x.block < W.heap.size := fun x hx => hW'.lt x hx
  have hv0 := okWide_slice ht (hval 0 t v0 rfl rfl)
  have hv1 := okWide_slice ht (hval 1 t v1 rfl rfl)
  obtain ⟨x, r0, k1, k2⟩ := rd_nums ht he hce hv0 h0 (fun x hx => hlt x (by rw [hbe]; simp [hx]))
  obtain ⟨y, r1, m1, m2⟩ := rd_nums ht he hce hv1 h1 (fun x hx => hlt x (by rw [hbe]; simp [hx]))
  obtain ⟨N, hN⟩ := hF x y k2 m2
  refine (hC.2 N W #[v0, v1] ((), ((), ())) (x, (y, ())) _ [] (r0 ++ (r1 ++ [])) ⟨v0, [v1], [], [], r0, r1 ++ [], rfl, ⟨[v0], rfl, k1, rfl⟩, ⟨v1, [], [], [], r1, [], rfl, ⟨[v1], rfl, m1, rfl⟩, ⟨rfl, rfl, rfl⟩, rfl, rfl⟩, rfl, rfl⟩ (by simp) (fun b _ => by simp) hN).mono fun ev W' hq => ?_
  obtain ⟨vs, o1, o2, o3, rfl, hfr, hr1, _⟩ := hq
  obtain ⟨v, vs', cs, oo1, oo2, rfl, hvk, hrd, ⟨rfl, _⟩, _⟩ := hr1
  have hcs : cs = [v] := hvk
  subst hcs
  obtain ⟨hv, _⟩ := hrd
  cases hv
  have hbw := hfr.below0
  refine ⟨_, rfl, [d0, d1], [], before, [], p0 ++ (p1 ++ []), [], hW', ?_, ?_, ?_, hbw.frame _, fun h => by cases h⟩
  · rw [hres, show ([d0, d1] ++ [] : List (DataW H)) = [d0, d1] from rfl, hfn]
    exact trodAll_cons_mk (shut_bool hb true) trodAll_mk0
  · rw [hparams, show ([d0, d1] ++ [] : List (DataW H)) = [d0, d1] from rfl, hfn]
    exact trodAll_cons_mk (Below.trod hl hr hrow h0 hbw (fun x hx => hlt x (by rw [hbe]; simp [hx]))) (trodAll_cons_mk (Below.trod hl hr hrow h1 hbw (fun x hx => hlt x (by rw [hbe]; simp [hx]))) trodAll_mk0)
  · rw [hvars, show ([d0, d1] ++ [] : List (DataW H)) = [d0, d1] from rfl, hfn]
    exact rfl
end Go.Vf
