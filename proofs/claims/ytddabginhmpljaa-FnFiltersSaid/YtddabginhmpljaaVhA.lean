/- Contracts of the library's functions on slices, over whatever program: from what their text does to a contract on data. -/
import Derived.Test.YtddabginhmpljaaVfU
import Derived.Below
import Derived.Sort.Grow
import Derived.Lib.SlicesCompact
namespace Go.Vf
open Go Go.Sort Go.RowKit
set_option linter.unusedVariables false
set_option linter.unusedSimpArgs false

abbrev HasBody (P : Program) (f : FuncId) : Prop := ∃ fn, P.funcs[f]? = some fn ∧ (fn.name == "runtime.NumGoroutine") = false ∧ fn.body.isNone = false

theorem HasBody.of {P : Program} {f : FuncId} {fn : Func} (h : P.funcs[f]? = some fn) (h1 : (fn.name == "runtime.NumGoroutine") = false) (h2 : fn.body.isNone = false) : HasBody P f := ⟨fn, h, h1, h2⟩

theorem Frame.below {w w' : World} (h : Below w.heap.size w w') : Frame w [] w' := ⟨h.os, h.tape, h.output, h.size, fun b hb _ => h.block b hb⟩

theorem args_one {args : Array Value} {v : Value} (h : args.toList = [v]) : args = #[v] := by
  apply Array.ext'; simpa using h

/-! ### slices.Clone -/

def cloneF {α : Type} (xs : List α) : Option ((List α × Unit) × (Unit × Unit)) := bif decide (xs.length ≤ 1099511627776) then some ((xs, ()), ((), ())) else none

theorem ctr_clone {P : Program} {f : FuncId} {te : TypeId} {g : Bool} {T : Ty} (hf : HasBody P f) (hT : TyOk P te g T) (hflat : flat T = true)
    (h : ∀ (a : Addr) (n c k : Nat) (cs : List Value) (i : TypeInfo) (z : Value), i.zero = some z → P.info? te = some i → i.size = k → z.cells.size = k → 0 < k → ∀ w : World, cs.length = n * k → n ≤ maxLen → n * i.bytes ≤ 140737488355328 →
      (∀ j u, cs[j]? = some u → w.cell? (a.add j) = some u) → (∀ u ∈ cs, u.oneCell' = true) → Calls P f #[.slice (some a) n c] w fun e w' => ∃ v', e = .returned v' ∧ w'.ownsRow w.heap.size te k v' n cs ∧ Below w.heap.size w w')
    (h0 : ∀ (n c : Nat) (w : World), Calls P f #[.slice none n c] w fun e w' => e = .returned (.slice none 0 0) ∧ w' = w) :
    Contract P f ⟨[.val .ro false (.sl te T)], [(false, .sl te T)], fun _ _ y => cloneF y.1⟩ := by
  refine ⟨hf, fun N w args x y zz F r hA hn hr hz => ?_⟩
  obtain ⟨v, vs', F1, F2, r1, r2, hv, ⟨cs, hvo, hrd, hF1⟩, ⟨hvs, hF2, hr2⟩, hF, hr'⟩ := hA
  subst hvs; subst hF1; subst hF2; subst hr2
  have hargs := args_one hv
  subst hargs
  have hcs : cs = [v] := hvo
  subst hcs
  obtain ⟨v', es, o0, r0, o', r', hc, ⟨hlen, hrow, ho0⟩, hE, _, _⟩ := hrd
  cases hc
  obtain ⟨a, c, rfl, hnc, hcm, hcase⟩ := hrow
  have hz' : cloneF y.1 = some zz := hz
  unfold cloneF at hz'
  rw [Bool.cond_eq_ite] at hz'
  split at hz'
  · rename_i hb
    have hb' : y.1.length ≤ 1099511627776 := by simpa using hb
    cases hz'
    have hempty : F = [] := by rw [hF]; rfl
    subst hempty
    cases a with
    | none =>
      have hnil : y.1 = [] := by
        rcases hcase with ⟨h1, _⟩ | ⟨ad, h1, _⟩
        · exact List.eq_nil_of_length_eq_zero h1
        · cases h1
      refine Calls.mono' (h0 _ _ w) fun e w' he => ?_
      obtain ⟨rfl, rfl⟩ := he
      refine ⟨[.slice none 0 0], [], [], [], rfl, .refl _ _, ⟨_, [], _, [], [], rfl, rfl, ?_, ⟨rfl, rfl⟩, rfl⟩, ⟨_, [], [], [], rfl, ⟨rfl, rfl⟩, rfl, rfl⟩, ⟨_, [], [], [], rfl, rfl, rfl, rfl⟩, by simp, by simp⟩
      show Rd w' .own (.sl te T) [.slice none 0 0] y.1 [] []
      rw [hnil]
      exact Rd.nilSlice w' .own te T
    | some ad =>
      obtain ⟨i, z, q1, q2, q3, q4, q5⟩ := hT.info
      have hzl : z.cells.size = size T := by have := congrArg List.length q5; simpa [zeroC_length] using this
      have hbytes : y.1.length * i.bytes ≤ 140737488355328 := by
        have := Nat.mul_le_mul hb' q4
        omega
      have hcell : ∀ j u, es[j]? = some u → w.cell? (ad.add j) = some u := by
        rcases hcase with ⟨_, h1, _⟩ | ⟨ad', h1, _, h2, _⟩
        · intro j u hu; rw [h1] at hu; simp at hu
        · cases h1; exact h2
      refine Calls.mono' (h ad y.1.length c (size T) es i z q2 q1 q3 hzl hT.pos w hlen (by simp only [maxLen]; omega) hbytes hcell (hE.all (fun c x o r h => h.one))) fun e w' he => ?_
      obtain ⟨v', rfl, hown, hbel⟩ := he
      obtain ⟨_, _, hE'⟩ := hE.flat (w' := w') (p' := .own) hflat
      have hown0 : w'.ownsRow 0 te (size T) v' y.1.length es := ⟨hown.1, by
        rcases hown.2 with h | ⟨g, cap, cur, h1, _, h2⟩
        · exact .inl h
        · exact .inr ⟨g, cap, cur, h1, Nat.zero_le _, h2⟩⟩
      have hblk : ∀ b, b ∈ v'.ownBlock.toList → w.heap.size ≤ b := by
        intro b hb
        rcases hown.2 with ⟨h1, _⟩ | ⟨g, cap, cur, h1, h2, _⟩
        · rw [h1] at hb; simp [Value.ownBlock] at hb
        · rw [h1] at hb; simp [Value.ownBlock] at hb; subst hb; exact h2
      refine ⟨[v'], v'.ownBlock.toList, [], [], rfl, .below hbel, ⟨v', [], [v'], v'.ownBlock.toList, [], rfl, rfl, ?_, ⟨rfl, rfl⟩, by simp⟩, ⟨_, [], [], [], rfl, ⟨rfl, rfl⟩, rfl, rfl⟩, ⟨_, [], [], [], rfl, rfl, rfl, rfl⟩, by simpa using (OwnR.of hown0).nodup, fun b hb => .inr (hblk b (by simpa using hb))⟩
      exact ⟨v', es, v'.ownBlock.toList, [], [], [], rfl, ⟨OwnR.of hown0, rfl⟩, hE', by simp, rfl⟩
  · cases hz'

/-! ### Rows of one-cell elements that are turned in place -/

theorem heap_put {α : Type} [Inhabited α] {enc : α → Value} {w : World} {g off q : Nat} {os : Array Obj} {cur : Array Value} {e : TypeId} {fr : Nat × Nat} (d : Array α) (hb : w.heap[g]? = some (.cells cur e fr)) :
    (grow (putRow enc (Sort.ahead w q) g off d) os).heap[g]? = some (.cells (putCells enc off d cur) e fr) := by
  have hg : g < w.heap.size := (Array.getElem?_eq_some_iff.1 hb).1
  rw [heap_grow_old _ _ (by simpa [putRow, mapBlock, Sort.ahead] using hg)]
  simp [putRow, mapBlock, Sort.ahead, Array.getElem?_modify, hb, onCells]

theorem frame_put {α : Type} [Inhabited α] {enc : α → Value} (w : World) (g off q : Nat) (os : Array Obj) (d : Array α) : Frame w [g] (grow (putRow enc (Sort.ahead w q) g off d) os) := by
  refine ⟨rfl, rfl, rfl, by simp [grow, putRow, mapBlock, Sort.ahead], fun b hb hn => ?_⟩
  have hne : g ≠ b := fun e => hn (by simp [e])
  rw [heap_grow_old _ _ (by simpa [putRow, mapBlock, Sort.ahead] using hb)]
  simp [putRow, mapBlock, Sort.ahead, Array.getElem?_modify, hne]

theorem putCells_row {α : Type} [Inhabited α] {enc : α → Value} {off : Nat} {cur : Array Value} (d : Array α) (h : off + d.size ≤ cur.size) : ((putCells enc off d cur).toList.drop off).take d.size = d.toList.map enc := by
  apply List.ext_getElem?
  intro j
  by_cases hj : j < d.size
  · rw [List.getElem?_take_of_lt hj, List.getElem?_drop, Array.getElem?_toList]
    have h1 : off + j < cur.size := by omega
    simp [putCells, h1, hj]
  · rw [List.getElem?_take_eq_none (by omega), List.getElem?_eq_none (by simp; omega)]

theorem putCells_size {α : Type} [Inhabited α] {enc : α → Value} {off : Nat} {cur : Array Value} (d : Array α) : (putCells enc off d cur).size = cur.size := by simp [putCells]

theorem holds_row {α : Type} [Inhabited α] {enc : α → Value} {w : World} {g off : Nat} {cur : Array Value} {e : TypeId} {d : Array α} (hb : w.heap[g]? = some (.cells cur e (0, 0))) (ht : (cur.toList.drop off).take d.size = d.toList.map enc) : Holds enc w g off d := by
  intro j hj
  refine ⟨?_, by simp [World.frozen?, hb]⟩
  have h1 : ((cur.toList.drop off).take d.size)[j]? = (d.toList.map enc)[j]? := by rw [ht]
  rw [List.getElem?_take_of_lt hj, List.getElem?_drop, Array.getElem?_toList] at h1
  have h2 : w.cell? ⟨g, off + j, none⟩ = cur[off + j]? := by simp [World.cell?, hb]
  rw [h2, h1]
  simp [hj]

/-- behind it the same slice owns the new list -/
theorem ownR_put {α : Type} [Inhabited α] {enc : α → Value} {w : World} {g off cap q : Nat} {os : Array Obj} {cur : Array Value} {t : TypeId} (d : Array α) (m : Nat) (hb : w.heap[g]? = some (.cells cur t (0, 0))) (hm : m ≤ d.size) (hn : d.size ≤ cap) (hc : cap ≤ maxLen) (hs : off + cap * 1 ≤ cur.size) :
    OwnR (grow (putRow enc (Sort.ahead w q) g off d) os) t 1 (.slice (some ⟨g, off, none⟩) m cap) m ((d.toList.map enc).take m) [g] := by
  refine ⟨by simp [hm], .inr ⟨g, off, cap, _, rfl, heap_put d hb, by omega, hc, by rw [putCells_size]; exact hs, ?_, rfl⟩⟩
  rw [← putCells_row (enc := enc) (off := off) (cur := cur) d (by omega), List.take_take, Nat.mul_one, Nat.min_eq_left hm]

theorem elems_ints {w : World} {p : Pm} : ∀ {xs : List Int} {cs : List Value} {o r : List Nat}, Elems (Rd w p (.int .i64)) 1 cs xs o r → cs = xs.map (Value.int .i64) ∧ o = [] ∧ r = []
  | [], cs, o, r, h => ⟨by simp [h.1], h.2.1, h.2.2⟩
  | x :: xs, cs, o, r, h => by
    obtain ⟨c1, c2, o1, o2, r1, r2, rfl, _, ⟨h1, h2, h3⟩, h4, rfl, rfl⟩ := h
    obtain ⟨k1, k2, k3⟩ := elems_ints h4
    rw [h1, h2, h3, k1, k2, k3]
    simp

theorem ints_elems (w : World) (p : Pm) : ∀ xs : List Int, Elems (Rd w p (.int .i64)) 1 (xs.map (Value.int .i64)) xs [] []
  | [] => ⟨rfl, rfl, rfl⟩
  | x :: xs => ⟨[.int .i64 x], xs.map (Value.int .i64), [], [], [], [], rfl, rfl, ⟨rfl, rfl, rfl⟩, ints_elems w p xs, rfl, rfl⟩

/-! ### slices.Sort of integers -/

def sortI (xs : List Int) : List Int := xs.mergeSort fun x y => decide (x ≤ y)

def sortF (xs : List Int) : Option (Unit × (List Int × Unit)) := bif decide (xs.length ≤ 1099511627776) then some ((), (sortI xs, ())) else none

theorem sort_core {P : Program} {f : FuncId} {te : TypeId}
    (h : ∀ (blk off cap : Nat) (zs : List Int) (w : World), Holds (Value.int .i64) w blk off zs.toArray → blk < w.heap.size → zs.length < 4611686018427387904 → Calls P f #[.slice (some ⟨blk, off, none⟩) zs.length cap] w fun e w' =>
      e = .returned (.tuple #[]) ∧ ∃ n os, w' = grow (putRow (Value.int .i64) (Sort.ahead w n) blk off (zs.mergeSort fun x y => decide (x ≤ y)).toArray) os)
    (h0 : ∀ (p : Option Addr) (cap : Nat) (w : World), Calls P f #[.slice p 0 cap] w fun e w' => e = .returned (.tuple #[]) ∧ w' = w)
    {w : World} {v : Value} {xs : List Int} {F : List Nat} (hrd : Rd w .own (.sl te (.int .i64)) [v] xs F []) (hb : xs.length ≤ 1099511627776) :
    Calls P f #[v] w fun e w' => e = .returned (.tuple #[]) ∧ Frame w F w' ∧ ∃ o, Rd w' .own (.sl te (.int .i64)) [v] (sortI xs) o [] ∧ o.Nodup ∧ ∀ b, b ∈ o → b ∈ F := by
  obtain ⟨v', es, o0, r0, o', r', hc, ⟨⟨hlen, hown⟩, hr0⟩, hE, hF, _⟩ := hrd
  cases hc
  obtain ⟨hes, ho', _⟩ := elems_ints (show Elems (Rd w .own (.int .i64)) 1 es xs o' r' from hE)
  have hlS : (sortI xs).length = xs.length := by simp [sortI]
  rcases hown with ⟨a, rfl, hn0, ho0, hsp⟩ | ⟨g, off, cap, cur, rfl, hh, hnc, hcm, hs, ht, ho0⟩
  · have hnil : xs = [] := List.eq_nil_of_length_eq_zero hn0
    subst hnil
    refine Calls.mono' (h0 a 0 w) fun e w' he => ?_
    obtain ⟨rfl, rfl⟩ := he
    have hS : sortI [] = [] := by simp [sortI]
    rw [hS]
    exact ⟨rfl, .refl _ _, [], ⟨_, [], [], [], [], [], rfl, ⟨⟨(Nat.zero_mul _).symm, .inl ⟨a, rfl, rfl, rfl, hsp⟩⟩, rfl⟩, ⟨rfl, rfl, rfl⟩, rfl, rfl⟩, by simp, by simp⟩
  · have hs' : off + cap * 1 ≤ cur.size := hs
    have hnc' : @List.length Int xs ≤ cap := hnc
    clear hnc hs
    have ht' : (cur.toList.drop off).take xs.length = xs.map (Value.int .i64) := by
      rw [← hes, ← ht]
      congr 1
      exact (Nat.mul_one _).symm
    have hH : Holds (Value.int .i64) w g off xs.toArray := holds_row hh (by simpa using ht')
    refine Calls.mono' (h g off cap xs w hH (Array.getElem?_eq_some_iff.1 hh).1 (by omega)) fun e w' he => ?_
    obtain ⟨rfl, q, os, rfl⟩ := he
    have hFg : F = [g] := by rw [hF, ho0, ho']; rfl
    subst hFg
    have hnew := ownR_put (enc := Value.int .i64) (q := q) (os := os) (sortI xs).toArray xs.length hh (by simp [hlS]) (by simp [hlS]; exact hnc') hcm hs'
    have h5 : (((sortI xs).toArray.toList.map (Value.int .i64)).take xs.length) = (sortI xs).map (Value.int .i64) := List.take_of_length_le (by simp [hlS])
    rw [h5] at hnew
    have h6 : OwnR (grow (putRow (Value.int .i64) (Sort.ahead w q) g off (sortI xs).toArray) os) te 1 (.slice (some ⟨g, off, none⟩) xs.length cap) (sortI xs).length ((sortI xs).map (Value.int .i64)) [g] := by rw [hlS]; exact hnew
    exact ⟨rfl, frame_put w g off q os _, [g], ⟨_, (sortI xs).map (Value.int .i64), [g], [], [], [], rfl, ⟨h6, rfl⟩, ints_elems _ _ _, rfl, rfl⟩, by simp, fun b hb => hb⟩

theorem ctr_sort {P : Program} {f : FuncId} {te : TypeId} (hf : HasBody P f)
    (h : ∀ (blk off cap : Nat) (zs : List Int) (w : World), Holds (Value.int .i64) w blk off zs.toArray → blk < w.heap.size → zs.length < 4611686018427387904 → Calls P f #[.slice (some ⟨blk, off, none⟩) zs.length cap] w fun e w' =>
      e = .returned (.tuple #[]) ∧ ∃ n os, w' = grow (putRow (Value.int .i64) (Sort.ahead w n) blk off (zs.mergeSort fun x y => decide (x ≤ y)).toArray) os)
    (h0 : ∀ (p : Option Addr) (cap : Nat) (w : World), Calls P f #[.slice p 0 cap] w fun e w' => e = .returned (.tuple #[]) ∧ w' = w) :
    Contract P f ⟨[.io false (.sl te (.int .i64))], [], fun _ x _ => sortF x.1⟩ := by
  refine ⟨hf, fun N w args x y zz F r hA hn hr hz => ?_⟩
  obtain ⟨v, vs', F1, F2, r1, r2, hv, ⟨cs, hvo, hrd, hr1⟩, ⟨hvs, hF2, hr2⟩, hF, hr'⟩ := hA
  subst hvs; subst hF2; subst hr2
  have hargs := args_one hv
  subst hargs
  have hcs : cs = [v] := hvo
  subst hcs
  obtain ⟨xs, xu⟩ : List Int × Unit := x
  have hz' : sortF xs = some zz := hz
  unfold sortF at hz'
  rw [Bool.cond_eq_ite] at hz'
  split at hz'
  · rename_i hb
    cases hz'
    have hFF : F = F1 := by rw [hF]; exact List.append_nil _
    subst hFF
    refine Calls.mono' (sort_core h h0 (xs := xs) hrd (by simpa using hb)) fun e w' he => ?_
    obtain ⟨rfl, hfr, o, h1, h2, h3⟩ := he
    exact ⟨[], [], [], o, rfl, hfr, ⟨rfl, rfl⟩, ⟨_, [], [], [], rfl, ⟨rfl, rfl⟩, rfl, rfl⟩, ⟨_, [], o, [], rfl, ⟨_, rfl, h1⟩, rfl, by simp⟩, by simpa using h2, fun b hb => .inl (h3 b (by simpa using hb))⟩
  · cases hz'

/-! ### slices.Compact of integers -/

def compactI (xs : List Int) : List Int := Go.Lib.compactUpTo xs.toArray xs.length

def compactF (xs : List Int) : Option ((List Int × Unit) × (Unit × Unit)) := bif decide (xs.length ≤ 1099511627776) then some ((compactI xs, ()), ((), ())) else none

theorem compact_core {P : Program} {f : FuncId} {te : TypeId}
    (h : ∀ (blk off cap : Nat) (d : Array Int) (w : World), Holds (Value.int .i64) w blk off d → d.size ≤ 9223372036854775807 → d.size ≤ cap → Calls P f #[.slice (some ⟨blk, off, none⟩) d.size cap] w fun e w' =>
      e = .returned (.slice (some ⟨blk, off, none⟩) (Go.Lib.compactUpTo d d.size).length cap) ∧ ∃ q, w' = putRow (Value.int .i64) (Sort.ahead w q) blk off (Go.Lib.compactUpTo d d.size ++ List.replicate (d.size - (Go.Lib.compactUpTo d d.size).length) 0).toArray)
    (h0 : ∀ (p : Option Addr) (cap : Nat) (w : World), Calls P f #[.slice p 0 cap] w fun e w' => e = .returned (.slice p 0 cap) ∧ w' = w)
    {w : World} {v : Value} {xs : List Int} {F : List Nat} (hrd : Rd w .own (.sl te (.int .i64)) [v] xs F []) (hb : xs.length ≤ 1099511627776) :
    Calls P f #[v] w fun e w' => ∃ u, e = .returned u ∧ Frame w F w' ∧ ∃ o, Rd w' .own (.sl te (.int .i64)) [u] (compactI xs) o [] ∧ o.Nodup ∧ ∀ b, b ∈ o → b ∈ F := by
  obtain ⟨v', es, o0, r0, o', r', hc, ⟨⟨hlen, hown⟩, hr0⟩, hE, hF, _⟩ := hrd
  cases hc
  obtain ⟨hes, ho', _⟩ := elems_ints (show Elems (Rd w .own (.int .i64)) 1 es xs o' r' from hE)
  have hlS : (compactI xs).length ≤ xs.length := by
    unfold compactI Go.Lib.compactUpTo
    rw [List.length_map]
    exact Nat.le_trans (List.length_filter_le _ _) (by simp)
  rcases hown with ⟨a, rfl, hn0, ho0, hsp⟩ | ⟨g, off, cap, cur, rfl, hh, hnc, hcm, hs, ht, ho0⟩
  · have hnil : xs = [] := List.eq_nil_of_length_eq_zero hn0
    subst hnil
    refine Calls.mono' (h0 a 0 w) fun e w' he => ?_
    obtain ⟨rfl, rfl⟩ := he
    exact ⟨_, rfl, .refl _ _, [], ⟨_, [], [], [], [], [], rfl, ⟨⟨(Nat.zero_mul _).symm, .inl ⟨a, rfl, rfl, rfl, hsp⟩⟩, rfl⟩, ⟨rfl, rfl, rfl⟩, rfl, rfl⟩, by simp, by simp⟩
  · have hs' : off + cap * 1 ≤ cur.size := hs
    have hnc' : @List.length Int xs ≤ cap := hnc
    clear hnc hs
    have ht' : (cur.toList.drop off).take xs.length = xs.map (Value.int .i64) := by
      rw [← hes, ← ht]
      congr 1
      exact (Nat.mul_one _).symm
    have hH : Holds (Value.int .i64) w g off xs.toArray := holds_row hh (by simpa using ht')
    have hcall := h g off cap xs.toArray w hH (by simp; omega) (by simpa using hnc')
    simp only [List.size_toArray] at hcall
    refine Calls.mono' hcall fun e w' he => ?_
    obtain ⟨rfl, q, rfl⟩ := he
    have hFg : F = [g] := by rw [hF, ho0, ho']; rfl
    subst hFg
    have hnew := ownR_put (enc := Value.int .i64) (q := q) (os := #[]) (compactI xs ++ List.replicate (xs.length - (compactI xs).length) 0).toArray (compactI xs).length hh (by simp) (by simp; omega) hcm hs'
    rw [grow_empty] at hnew
    have hfr := frame_put (enc := Value.int .i64) w g off q #[] (compactI xs ++ List.replicate (xs.length - (compactI xs).length) 0).toArray
    rw [grow_empty] at hfr
    refine ⟨_, rfl, hfr, [g], ⟨_, (compactI xs).map (Value.int .i64), [g], [], [], [], rfl, ⟨?_, rfl⟩, ints_elems _ _ _, rfl, rfl⟩, by simp, fun b hb => hb⟩
    have h5 : (((compactI xs ++ List.replicate (xs.length - (compactI xs).length) 0).toArray.toList.map (Value.int .i64)).take (compactI xs).length) = (compactI xs).map (Value.int .i64) := by
      simp only [List.map_append]
      exact List.take_left' (by simp)
    rw [h5] at hnew
    exact hnew

theorem ctr_compact {P : Program} {f : FuncId} {te : TypeId} (hf : HasBody P f)
    (h : ∀ (blk off cap : Nat) (d : Array Int) (w : World), Holds (Value.int .i64) w blk off d → d.size ≤ 9223372036854775807 → d.size ≤ cap → Calls P f #[.slice (some ⟨blk, off, none⟩) d.size cap] w fun e w' =>
      e = .returned (.slice (some ⟨blk, off, none⟩) (Go.Lib.compactUpTo d d.size).length cap) ∧ ∃ q, w' = putRow (Value.int .i64) (Sort.ahead w q) blk off (Go.Lib.compactUpTo d d.size ++ List.replicate (d.size - (Go.Lib.compactUpTo d d.size).length) 0).toArray)
    (h0 : ∀ (p : Option Addr) (cap : Nat) (w : World), Calls P f #[.slice p 0 cap] w fun e w' => e = .returned (.slice p 0 cap) ∧ w' = w) :
    Contract P f ⟨[.val .own false (.sl te (.int .i64))], [(false, .sl te (.int .i64))], fun _ x _ => compactF x.1⟩ := by
  refine ⟨hf, fun N w args x y zz F r hA hn hr hz => ?_⟩
  obtain ⟨v, vs', F1, F2, r1, r2, hv, ⟨cs, hvo, hrd⟩, ⟨hvs, hF2, hr2⟩, hF, hr'⟩ := hA
  subst hvs; subst hF2; subst hr2
  have hargs := args_one hv
  subst hargs
  have hcs : cs = [v] := hvo
  subst hcs
  obtain ⟨xs, xu⟩ : List Int × Unit := x
  have hz' : compactF xs = some zz := hz
  unfold compactF at hz'
  rw [Bool.cond_eq_ite] at hz'
  split at hz'
  · rename_i hb
    cases hz'
    have hFF : F = F1 := by rw [hF]; exact List.append_nil _
    subst hFF
    have hr1 : r1 = [] := hrd.noRo
    subst hr1
    refine Calls.mono' (compact_core h h0 (xs := xs) hrd (by simpa using hb)) fun e w' he => ?_
    obtain ⟨u, rfl, hfr, o, h1, h2, h3⟩ := he
    exact ⟨[u], o, [], [], rfl, hfr, ⟨u, [], _, o, [], rfl, rfl, h1, ⟨rfl, rfl⟩, by simp⟩, ⟨_, [], [], [], rfl, ⟨rfl, rfl⟩, rfl, rfl⟩, ⟨_, [], [], [], rfl, rfl, rfl, rfl⟩, by simpa using h2, fun b hb => .inl (h3 b (by simpa using hb))⟩
  · cases hz'
end Go.Vf
