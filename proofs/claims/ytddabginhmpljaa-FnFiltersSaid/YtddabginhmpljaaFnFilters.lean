/- Proved: for every two slices of bytes, laws.FnFilters returns true and both slices read afterwards as they read before. Conditions: none beside those of the given row (arguments that are read as data, nothing else). -/
import Derived.Test.YtddabginhmpljaaFnFiltersCtr
import Derived.Test.YtddabginhmpljaaVbB
import Derived.Test.YtddabginhmpljaaVpI
import Derived.Test.YtddabginhmpljaaRows
import Derived.ProofKit
import Derived.JoinedOf
namespace Go.Proofs.Ytddabginhmpljaa
open Go.ChangeShapes Go.WideShapes Go.ChangeAt Go.RowKit Go.Vf
set_option linter.unusedVariables false

theorem bytes_of {x : List Int} (h : Nums .u8 x) : Bytes x := ⟨h.1, fun n hn => by
  have := h.2 n hn
  simpa [Lit.wf, IntKind.min, IntKind.max, IntKind.signed, IntKind.bits] using this⟩

theorem plain (x y : List Int) (hx : Nums .u8 x) (hy : Nums .u8 y) : ∃ N, laws_FnFilters N x y = some ((true, ()), ((), ((), ()))) :=
  ⟨x.length + y.length + 1000001, (filters_true (by omega) (bytes_of hx) (bytes_of hy) (by omega) (by omega)).eq⟩

theorem own : ownKnob Try.prog.godebug = none := by kernel_rfl

set_option maxRecDepth 100000 in
theorem lifted (os : Os) (started : os.Started) (H : Type) (enc : TypeId × Value → H) :
    ReturnsInHanded {} Try.checked os 3 .any (Rows.fnFiltersSpec.pre6 enc Try.prog Try.f3 Rows.fnFiltersRow.domain false) (Rows.fnFiltersSpec.post enc Try.prog Try.f3 false true false false) := by
  refine returnsInHanded_of_change (C := Try.checked) own started (by kernel_rfl) Try.func3
    (ChangeSpec.witness6 (enc := enc) (C := Try.checked) false ⟨#[], #[.slice none 0 0, .slice none 0 0], []⟩ 8 (by kernel_rfl) (by kernel_rfl) (by kernel_rfl) (by kernel_rfl)) ?_
  intro W base args ds gs before hval hW _ _
  exact law2 (t := 22) (e := 5) (tb := 4) (by kernel_rfl) (by kernel_rfl) (of_decide_eq_true (by kernel_rfl)) Try.underlying22 Try.underlying5 (by kernel_rfl) (by kernel_rfl) (by kernel_rfl) Try.underlying4 k_laws_FnFilters (fun x y hx hy => plain x y hx hy) rfl (fun _ _ _ => rfl) W base args ds gs before hval hW

theorem fnFilters_holds : Rows.FnFiltersSaid :=
  OpenClaim.holds_of_wide 3 Try.f3 rfl rfl rfl rfl rfl rfl rfl ⟨rfl, rfl, rfl, rfl, rfl⟩ rfl rfl rfl rfl rfl (by kernel_rfl) Try.func3 (by kernel_rfl)
    (of_decide_eq_true (by kernel_rfl)) (by unfold Func.isWrapper; first | (rw [if_pos (by decide +kernel)]; kernel_rfl) | (rw [if_neg (by decide +kernel)]; exact ⟨rfl, rfl⟩))
    (fun os started H enc _ => lifted os started H enc)
end Go.Proofs.Ytddabginhmpljaa
