/- From a contract to a statement about a law: arguments that are slices of numbers, the answer true. -/
import Derived.Test.YtddabginhmpljaaVfU
import Derived.Below
import Derived.Carry
import Derived.ChangeSlices
import Derived.ProofKit
import Derived.OpenShut
namespace Go.Vf
open Go.ChangeShapes Go.WideShapes Go.ChangeAt Go.RowKit
set_option linter.unusedVariables false
set_option linter.unusedSimpArgs false

theorem nums_elems (w : World) (p : Pm) (k : IntKind) : ∀ xs : List Int, Elems (Rd w p (.int k)) 1 (xs.map (Value.int k)) xs [] []
  | [] => ⟨rfl, rfl, rfl⟩
  | x :: xs => ⟨[.int k x], xs.map (Value.int k), [], [], [], [], rfl, rfl, ⟨rfl, rfl, rfl⟩, nums_elems w p k xs, rfl, rfl⟩

/-- what is known of a slice of numbers that is an argument -/
def Nums (k : IntKind) (x : List Int) : Prop := x.length ≤ maxLen ∧ ∀ n ∈ x, (Lit.int k n).wf = true

theorem rd_row {W : World} {k : IntKind} {e : TypeId} {a : Addr} {n c : Nat} (xs : List Int) (hn : xs.length = n) (hl : n ≤ c) (hm : c ≤ maxLen) (hcell : ∀ i z, xs[i]? = some z → W.cell? (a.add i) = some (Value.int k z)) (hlt : n ≠ 0 → a.block < W.heap.size) :
    ∃ r, Rd W .ro (.sl e (.int k)) [.slice (some a) n c] xs [] r := by
  subst hn
  refine ⟨if xs.length = 0 then [] else [a.block], .slice (some a) xs.length c, xs.map (Value.int k), [], if xs.length = 0 then [] else [a.block], [], [], rfl, ?_, nums_elems W .ro k xs, rfl, by simp⟩
  have hsz : (xs.map (Value.int k)).length = xs.length * size (.int k) := by simp [size]
  refine ⟨hsz, ⟨some a, c, rfl, hl, hm, ?_⟩, rfl⟩
  cases xs with
  | nil => exact .inl ⟨rfl, rfl, rfl⟩
  | cons z zs =>
    right
    refine ⟨a, rfl, ?_, fun j u hj => ?_, by simp, hlt (by simp)⟩
    · have := World.cell?_spot (hcell 0 z rfl)
      simpa [Addr.add] using this
    · simp only [List.getElem?_map, Option.map_eq_some_iff] at hj
      obtain ⟨z', hz', rfl⟩ := hj
      exact hcell j z' hz'

/-- a slice of numbers, as it is read ahead of the call, is data that is only read -/
theorem rd_nums {H : Type} {enc : TypeId × Value → H} {P : Program} {W : World} {t e : TypeId} {k : IntKind} {v : Value} {d : DataW H} {ps : List MemPlace} (ht : P.underlying t = some (.slice e)) (he : P.underlying e = some (.int k)) (hc : P.cellsOf e = 1)
    (hv : ∃ a n c, v = .slice a n c) (h : DataW.Trod enc P W 0 (fun _ => true) true t v d ps) (hlt : ∀ x ∈ ps, x.block < W.heap.size) :
    ∃ (x : List Int) (r : List Nat), Rd W .ro (.sl e (.int k)) [v] x [] r ∧ Nums k x := by
  obtain ⟨fuel, hf⟩ := h
  obtain ⟨a0, n0, c0, rfl⟩ := hv
  rcases open_ints ht he hc hf with ⟨hcs, hx⟩ | ⟨a, len, cap, zs, hcs, _, hl, hm, hz, hx, hcell, hwz⟩
  · simp [Value.cells] at hcs
    obtain ⟨rfl, rfl, rfl⟩ := hcs
    exact ⟨[], [], Rd.nilSlice W .ro e (.int k), Nat.zero_le _, fun n hn => by cases hn⟩
  · simp [Value.cells] at hcs
    obtain ⟨rfl, rfl, rfl⟩ := hcs
    simp only [Prod.mk.injEq] at hx
    obtain ⟨rfl, rfl⟩ := hx
    simp only [if_true] at hz
    have hlen : (zs.take n0).length = n0 := by simp; omega
    obtain ⟨r, hr⟩ := rd_row (W := W) (k := k) (e := e) (a := a) (c := c0) (zs.take n0) hlen hl hm (fun i z hi => by
      have hi2 : i < n0 := by
        have := (List.getElem?_eq_some_iff.1 hi).1
        rw [hlen] at this; exact this
      rw [hcell i (by omega)]
      rw [List.getElem?_take_of_lt hi2] at hi
      simp [List.getD, hi]) (fun h0 => hlt (.cell a.block (a.off + 0)) (by
        simp only [MemPlace.row, List.mem_map, List.mem_range]
        exact ⟨0, by omega, rfl⟩))
    exact ⟨zs.take n0, r, hr, by rw [hlen]; omega, fun n hn => hwz n (List.mem_of_mem_take hn)⟩

theorem Frame.below0 {w w' : World} (h : Frame w [] w') : Below w.heap.size w w' := ⟨h.os, h.tape, h.output, h.size, fun k hk => h.block k hk (by simp)⟩
end Go.Vf
