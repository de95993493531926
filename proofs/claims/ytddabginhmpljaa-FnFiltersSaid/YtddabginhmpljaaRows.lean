/-
  No cell of these rows narrows 'for every input' (looked for: loops, veiled, ifaces, maps, wideKeys, modest, calm, conditions, laid).
  DERIVED. THE GIVEN ROWS OF THIS SEAT. 9 by the template 'for every input the law returns true; each argument reads behind the call as it read before'; 0 by the template 'total and deterministic' (their statements: YtddabginhmpljaaTotals.lean).
  GIVEN WITH THE SEED: the statements are not yours to turn. If you find one false, say at which input.
  Laid BY PROGRAM, IN A SANDBOX (cutbox-rows.mjs): the forced cells as the released guide's own fill.sh prints them over the translation 3aae74ea503e13b7… (all of the seat's roots in one cut). By AI agents, Wed Nov 11 2026. No macro, syntax, notation, axiom, sorry.
-/
import Derived.Test.YtddabginhmpljaaChecked
import GoSem.Claim
import GoSem.ClaimJoined
import GoSem.ClaimMapViews
import Derived.JoinedTies
import Derived.KernelRfl
namespace Go.Proofs.Ytddabginhmpljaa
/- THE CELL 'sum', in the pinned program and in every row, IS THE sha256 OF THE DUMP (.gsa) THAT YtddabginhmpljaaProg.lean LOADS. Nothing in Lean hashes anything: it is a label: what it is worth is what the hold of that sum in a sandbox is worth. -/
noncomputable def Try.pinned : Pinned := { name := "ytddabginhmpljaa", sum := "3aae74ea503e13b7f2e0df00ac79aa9367f6fdbeead716f305550fcd9bcc5a4a", checked := Try.checked }
namespace Rows
def none {H : Type} : Left H := { results := [], args := [] }

/-- 'laws.FnFilters': WHATEVER THE INPUT: true; the input reads as it did. -/
def fnFiltersSpec : ChangeSpec := { name := "fnFilters", fn := fun _ => fun
  | [d1, d2] => { results := [.lit (.bool true)], args := [d1, d2] }
  | _ => none }
def fnFiltersRow : OpenClaim := { program := "ytddabginhmpljaa", sum := "3aae74ea503e13b7f2e0df00ac79aa9367f6fdbeead716f305550fcd9bcc5a4a", func := "loop.example/g00405/laws.FnFilters", spec := "fnFilters", unfollowed := true, recurses := true, apart := false }
def FnFiltersSaid : Prop := fnFiltersRow.holds Try.pinned (OpenSpec.ofChange fnFiltersSpec)

/-- ITS FALSE NEIGHBOUR: 'it returns false'. Refute it at one input. -/
def fnFiltersWrong : ChangeSpec := { name := "fnFilters", fn := fun _ => fun
  | [d1, d2] => { results := [.lit (.bool false)], args := [d1, d2] }
  | _ => none }
def FnFiltersWrongFalsely : Prop := fnFiltersRow.holds Try.pinned (OpenSpec.ofChange fnFiltersWrong)

/-- 'laws.FnJournal': WHATEVER THE INPUT: true; the input reads as it did. -/
def fnJournalSpec : ChangeSpec := { name := "fnJournal", fn := fun _ => fun
  | [d1, d2] => { results := [.lit (.bool true)], args := [d1, d2] }
  | _ => none }
def fnJournalRow : OpenClaim := { program := "ytddabginhmpljaa", sum := "3aae74ea503e13b7f2e0df00ac79aa9367f6fdbeead716f305550fcd9bcc5a4a", func := "loop.example/g00405/laws.FnJournal", spec := "fnJournal", unfollowed := true, recurses := true, apart := false }
def FnJournalSaid : Prop := fnJournalRow.holds Try.pinned (OpenSpec.ofChange fnJournalSpec)

/-- ITS FALSE NEIGHBOUR: 'it returns false'. Refute it at one input. -/
def fnJournalWrong : ChangeSpec := { name := "fnJournal", fn := fun _ => fun
  | [d1, d2] => { results := [.lit (.bool false)], args := [d1, d2] }
  | _ => none }
def FnJournalWrongFalsely : Prop := fnJournalRow.holds Try.pinned (OpenSpec.ofChange fnJournalWrong)

/-- 'laws.FnCuckoo': WHATEVER THE INPUT: true; the input reads as it did. -/
def fnCuckooSpec : ChangeSpec := { name := "fnCuckoo", fn := fun _ => fun
  | [d1, d2] => { results := [.lit (.bool true)], args := [d1, d2] }
  | _ => none }
def fnCuckooRow : OpenClaim := { program := "ytddabginhmpljaa", sum := "3aae74ea503e13b7f2e0df00ac79aa9367f6fdbeead716f305550fcd9bcc5a4a", func := "loop.example/g00405/laws.FnCuckoo", spec := "fnCuckoo", recurses := true, apart := false }
def FnCuckooSaid : Prop := fnCuckooRow.holds Try.pinned (OpenSpec.ofChange fnCuckooSpec)

/-- ITS FALSE NEIGHBOUR: 'it returns false'. Refute it at one input. -/
def fnCuckooWrong : ChangeSpec := { name := "fnCuckoo", fn := fun _ => fun
  | [d1, d2] => { results := [.lit (.bool false)], args := [d1, d2] }
  | _ => none }
def FnCuckooWrongFalsely : Prop := fnCuckooRow.holds Try.pinned (OpenSpec.ofChange fnCuckooWrong)

/-- 'laws.FnTables': WHATEVER THE INPUT: true; the input reads as it did. -/
def fnTablesSpec : ChangeSpec := { name := "fnTables", fn := fun _ => fun
  | [d1, d2] => { results := [.lit (.bool true)], args := [d1, d2] }
  | _ => none }
def fnTablesRow : OpenClaim := { program := "ytddabginhmpljaa", sum := "3aae74ea503e13b7f2e0df00ac79aa9367f6fdbeead716f305550fcd9bcc5a4a", func := "loop.example/g00405/laws.FnTables", spec := "fnTables", unfollowed := true, recurses := true, apart := false }
def FnTablesSaid : Prop := fnTablesRow.holds Try.pinned (OpenSpec.ofChange fnTablesSpec)

/-- ITS FALSE NEIGHBOUR: 'it returns false'. Refute it at one input. -/
def fnTablesWrong : ChangeSpec := { name := "fnTables", fn := fun _ => fun
  | [d1, d2] => { results := [.lit (.bool false)], args := [d1, d2] }
  | _ => none }
def FnTablesWrongFalsely : Prop := fnTablesRow.holds Try.pinned (OpenSpec.ofChange fnTablesWrong)

/-- 'laws.FnExactPlayJournal': WHATEVER THE INPUT: true; the input reads as it did. -/
def fnExactPlayJournalSpec : ChangeSpec := { name := "fnExactPlayJournal", fn := fun _ => fun
  | [d] => { results := [.lit (.bool true)], args := [d] }
  | _ => none }
def fnExactPlayJournalRow : OpenClaim := { program := "ytddabginhmpljaa", sum := "3aae74ea503e13b7f2e0df00ac79aa9367f6fdbeead716f305550fcd9bcc5a4a", func := "loop.example/g00405/laws.FnExactPlayJournal", spec := "fnExactPlayJournal", unfollowed := true, recurses := true, apart := false }
def FnExactPlayJournalSaid : Prop := fnExactPlayJournalRow.holds Try.pinned (OpenSpec.ofChange fnExactPlayJournalSpec)

/-- ITS FALSE NEIGHBOUR: 'it returns false'. Refute it at one input. -/
def fnExactPlayJournalWrong : ChangeSpec := { name := "fnExactPlayJournal", fn := fun _ => fun
  | [d] => { results := [.lit (.bool false)], args := [d] }
  | _ => none }
def FnExactPlayJournalWrongFalsely : Prop := fnExactPlayJournalRow.holds Try.pinned (OpenSpec.ofChange fnExactPlayJournalWrong)

/-- 'laws.FnRooms': WHATEVER THE INPUT: true; the input reads as it did. -/
def fnRoomsSpec : ChangeSpec := { name := "fnRooms", fn := fun _ => fun
  | [d1, d2] => { results := [.lit (.bool true)], args := [d1, d2] }
  | _ => none }
def fnRoomsRow : OpenClaim := { program := "ytddabginhmpljaa", sum := "3aae74ea503e13b7f2e0df00ac79aa9367f6fdbeead716f305550fcd9bcc5a4a", func := "loop.example/g00405/laws.FnRooms", spec := "fnRooms", inPlace := ["slices.overlaps[int]", "slices.overlaps[loop.example/g00405/impl.Held]"], unfollowed := true, recurses := true, apart := false }
def FnRoomsSaid : Prop := fnRoomsRow.holds Try.pinned (OpenSpec.ofChange fnRoomsSpec)

/-- ITS FALSE NEIGHBOUR: 'it returns false'. Refute it at one input. -/
def fnRoomsWrong : ChangeSpec := { name := "fnRooms", fn := fun _ => fun
  | [d1, d2] => { results := [.lit (.bool false)], args := [d1, d2] }
  | _ => none }
def FnRoomsWrongFalsely : Prop := fnRoomsRow.holds Try.pinned (OpenSpec.ofChange fnRoomsWrong)

/-- 'laws.FnExactGiveRoom': WHATEVER THE INPUT: true; the input reads as it did. -/
def fnExactGiveRoomSpec : ChangeSpec := { name := "fnExactGiveRoom", fn := fun _ => fun
  | [d1, d2] => { results := [.lit (.bool true)], args := [d1, d2] }
  | _ => none }
def fnExactGiveRoomRow : OpenClaim := { program := "ytddabginhmpljaa", sum := "3aae74ea503e13b7f2e0df00ac79aa9367f6fdbeead716f305550fcd9bcc5a4a", func := "loop.example/g00405/laws.FnExactGiveRoom", spec := "fnExactGiveRoom", inPlace := ["slices.overlaps[int]"], unfollowed := true, recurses := true, apart := false }
def FnExactGiveRoomSaid : Prop := fnExactGiveRoomRow.holds Try.pinned (OpenSpec.ofChange fnExactGiveRoomSpec)

/-- ITS FALSE NEIGHBOUR: 'it returns false'. Refute it at one input. -/
def fnExactGiveRoomWrong : ChangeSpec := { name := "fnExactGiveRoom", fn := fun _ => fun
  | [d1, d2] => { results := [.lit (.bool false)], args := [d1, d2] }
  | _ => none }
def FnExactGiveRoomWrongFalsely : Prop := fnExactGiveRoomRow.holds Try.pinned (OpenSpec.ofChange fnExactGiveRoomWrong)

/-- 'laws.FnExactTakeRoom': WHATEVER THE INPUT: true; the input reads as it did. -/
def fnExactTakeRoomSpec : ChangeSpec := { name := "fnExactTakeRoom", fn := fun _ => fun
  | [d1, d2] => { results := [.lit (.bool true)], args := [d1, d2] }
  | _ => none }
def fnExactTakeRoomRow : OpenClaim := { program := "ytddabginhmpljaa", sum := "3aae74ea503e13b7f2e0df00ac79aa9367f6fdbeead716f305550fcd9bcc5a4a", func := "loop.example/g00405/laws.FnExactTakeRoom", spec := "fnExactTakeRoom", inPlace := ["slices.overlaps[int]", "slices.overlaps[loop.example/g00405/impl.Held]"], unfollowed := true, recurses := true, apart := false }
def FnExactTakeRoomSaid : Prop := fnExactTakeRoomRow.holds Try.pinned (OpenSpec.ofChange fnExactTakeRoomSpec)

/-- ITS FALSE NEIGHBOUR: 'it returns false'. Refute it at one input. -/
def fnExactTakeRoomWrong : ChangeSpec := { name := "fnExactTakeRoom", fn := fun _ => fun
  | [d1, d2] => { results := [.lit (.bool false)], args := [d1, d2] }
  | _ => none }
def FnExactTakeRoomWrongFalsely : Prop := fnExactTakeRoomRow.holds Try.pinned (OpenSpec.ofChange fnExactTakeRoomWrong)

/-- 'laws.FnBuddies': WHATEVER THE INPUT: true; the input reads as it did. -/
def fnBuddiesSpec : ChangeSpec := { name := "fnBuddies", fn := fun _ => fun
  | [d1, d2] => { results := [.lit (.bool true)], args := [d1, d2] }
  | _ => none }
def fnBuddiesRow : OpenClaim := { program := "ytddabginhmpljaa", sum := "3aae74ea503e13b7f2e0df00ac79aa9367f6fdbeead716f305550fcd9bcc5a4a", func := "loop.example/g00405/laws.FnBuddies", spec := "fnBuddies", inPlace := ["slices.overlaps[int]", "slices.overlaps[loop.example/g00405/impl.Held]"], unfollowed := true, recurses := true, apart := false }
def FnBuddiesSaid : Prop := fnBuddiesRow.holds Try.pinned (OpenSpec.ofChange fnBuddiesSpec)

/-- ITS FALSE NEIGHBOUR: 'it returns false'. Refute it at one input. -/
def fnBuddiesWrong : ChangeSpec := { name := "fnBuddies", fn := fun _ => fun
  | [d1, d2] => { results := [.lit (.bool false)], args := [d1, d2] }
  | _ => none }
def FnBuddiesWrongFalsely : Prop := fnBuddiesRow.holds Try.pinned (OpenSpec.ofChange fnBuddiesWrong)

/- THE SECOND FORM. 'bulk': how many values and letters a reading holds, each counted each time it is reached (what is shared counts as often as it is met; a slice's spare places count too). A statement '..UptoSaid' is the law's where the arguments, and the package variables that the reading takes, are together of bulk at most 1048576: NARROWER than '..Said'. Prove '..Said' where nothing that the law and all that it calls make is longer than what came in: it says more and counts as full. Else prove '..UptoSaid'. A law counts once. -/
mutual
def uptoBulk {H : Type} : DataW H → Nat
  | .lit (.string bytes) => bytes.length + 1
  | .lit _ => 1
  | .nil => 1
  | .ptr d => uptoBulk d + 1
  | .slice elems spare => uptoBulkAll elems + uptoBulkAll spare + 1
  | .agg parts => uptoBulkAll parts + 1
  | .iface _ d => uptoBulk d + 1
  | .map entries => uptoBulkEntries entries + 1
  | .held _ => 1
def uptoBulkAll {H : Type} : List (DataW H) → Nat
  | [] => 0
  | d :: r => uptoBulk d + uptoBulkAll r
def uptoBulkEntries {H : Type} : List (Lit × DataW H) → Nat
  | [] => 0
  | x :: r => uptoBulkEntry x + uptoBulkEntries r
def uptoBulkEntry {H : Type} : Lit × DataW H → Nat
  | (.string bytes, d) => bytes.length + uptoBulk d + 1
  | (_, d) => uptoBulk d + 1
 end
def uptoSmall : (H : Type) → List (DataW H) → Bool := fun _ ds => decide (uptoBulkAll ds ≤ 1048576)
def OpenSpec.upto (s : _root_.Go.ChangeSpec) : _root_.Go.OpenSpec := { _root_.Go.OpenSpec.ofChange s with cond := some uptoSmall }

/-- 'laws.FnFilters', WHERE WHAT IT READS IS OF BULK AT MOST 1048576: true; the input reads as it did. -/
def fnFiltersUptoRow : OpenClaim := { program := "ytddabginhmpljaa", sum := "3aae74ea503e13b7f2e0df00ac79aa9367f6fdbeead716f305550fcd9bcc5a4a", func := "loop.example/g00405/laws.FnFilters", spec := "fnFilters", unfollowed := true, recurses := true, apart := false, narrowed := true }
def FnFiltersUptoSaid : Prop := fnFiltersUptoRow.holds Try.pinned (OpenSpec.upto fnFiltersSpec)

/-- 'laws.FnJournal', WHERE WHAT IT READS IS OF BULK AT MOST 1048576: true; the input reads as it did. -/
def fnJournalUptoRow : OpenClaim := { program := "ytddabginhmpljaa", sum := "3aae74ea503e13b7f2e0df00ac79aa9367f6fdbeead716f305550fcd9bcc5a4a", func := "loop.example/g00405/laws.FnJournal", spec := "fnJournal", unfollowed := true, recurses := true, apart := false, narrowed := true }
def FnJournalUptoSaid : Prop := fnJournalUptoRow.holds Try.pinned (OpenSpec.upto fnJournalSpec)

/-- 'laws.FnCuckoo', WHERE WHAT IT READS IS OF BULK AT MOST 1048576: true; the input reads as it did. -/
def fnCuckooUptoRow : OpenClaim := { program := "ytddabginhmpljaa", sum := "3aae74ea503e13b7f2e0df00ac79aa9367f6fdbeead716f305550fcd9bcc5a4a", func := "loop.example/g00405/laws.FnCuckoo", spec := "fnCuckoo", recurses := true, apart := false, narrowed := true }
def FnCuckooUptoSaid : Prop := fnCuckooUptoRow.holds Try.pinned (OpenSpec.upto fnCuckooSpec)

/-- 'laws.FnTables', WHERE WHAT IT READS IS OF BULK AT MOST 1048576: true; the input reads as it did. -/
def fnTablesUptoRow : OpenClaim := { program := "ytddabginhmpljaa", sum := "3aae74ea503e13b7f2e0df00ac79aa9367f6fdbeead716f305550fcd9bcc5a4a", func := "loop.example/g00405/laws.FnTables", spec := "fnTables", unfollowed := true, recurses := true, apart := false, narrowed := true }
def FnTablesUptoSaid : Prop := fnTablesUptoRow.holds Try.pinned (OpenSpec.upto fnTablesSpec)

/-- 'laws.FnExactPlayJournal', WHERE WHAT IT READS IS OF BULK AT MOST 1048576: true; the input reads as it did. -/
def fnExactPlayJournalUptoRow : OpenClaim := { program := "ytddabginhmpljaa", sum := "3aae74ea503e13b7f2e0df00ac79aa9367f6fdbeead716f305550fcd9bcc5a4a", func := "loop.example/g00405/laws.FnExactPlayJournal", spec := "fnExactPlayJournal", unfollowed := true, recurses := true, apart := false, narrowed := true }
def FnExactPlayJournalUptoSaid : Prop := fnExactPlayJournalUptoRow.holds Try.pinned (OpenSpec.upto fnExactPlayJournalSpec)

/-- 'laws.FnRooms', WHERE WHAT IT READS IS OF BULK AT MOST 1048576: true; the input reads as it did. -/
def fnRoomsUptoRow : OpenClaim := { program := "ytddabginhmpljaa", sum := "3aae74ea503e13b7f2e0df00ac79aa9367f6fdbeead716f305550fcd9bcc5a4a", func := "loop.example/g00405/laws.FnRooms", spec := "fnRooms", inPlace := ["slices.overlaps[int]", "slices.overlaps[loop.example/g00405/impl.Held]"], unfollowed := true, recurses := true, apart := false, narrowed := true }
def FnRoomsUptoSaid : Prop := fnRoomsUptoRow.holds Try.pinned (OpenSpec.upto fnRoomsSpec)

/-- 'laws.FnExactGiveRoom', WHERE WHAT IT READS IS OF BULK AT MOST 1048576: true; the input reads as it did. -/
def fnExactGiveRoomUptoRow : OpenClaim := { program := "ytddabginhmpljaa", sum := "3aae74ea503e13b7f2e0df00ac79aa9367f6fdbeead716f305550fcd9bcc5a4a", func := "loop.example/g00405/laws.FnExactGiveRoom", spec := "fnExactGiveRoom", inPlace := ["slices.overlaps[int]"], unfollowed := true, recurses := true, apart := false, narrowed := true }
def FnExactGiveRoomUptoSaid : Prop := fnExactGiveRoomUptoRow.holds Try.pinned (OpenSpec.upto fnExactGiveRoomSpec)

/-- 'laws.FnExactTakeRoom', WHERE WHAT IT READS IS OF BULK AT MOST 1048576: true; the input reads as it did. -/
def fnExactTakeRoomUptoRow : OpenClaim := { program := "ytddabginhmpljaa", sum := "3aae74ea503e13b7f2e0df00ac79aa9367f6fdbeead716f305550fcd9bcc5a4a", func := "loop.example/g00405/laws.FnExactTakeRoom", spec := "fnExactTakeRoom", inPlace := ["slices.overlaps[int]", "slices.overlaps[loop.example/g00405/impl.Held]"], unfollowed := true, recurses := true, apart := false, narrowed := true }
def FnExactTakeRoomUptoSaid : Prop := fnExactTakeRoomUptoRow.holds Try.pinned (OpenSpec.upto fnExactTakeRoomSpec)

/-- 'laws.FnBuddies', WHERE WHAT IT READS IS OF BULK AT MOST 1048576: true; the input reads as it did. -/
def fnBuddiesUptoRow : OpenClaim := { program := "ytddabginhmpljaa", sum := "3aae74ea503e13b7f2e0df00ac79aa9367f6fdbeead716f305550fcd9bcc5a4a", func := "loop.example/g00405/laws.FnBuddies", spec := "fnBuddies", inPlace := ["slices.overlaps[int]", "slices.overlaps[loop.example/g00405/impl.Held]"], unfollowed := true, recurses := true, apart := false, narrowed := true }
def FnBuddiesUptoSaid : Prop := fnBuddiesUptoRow.holds Try.pinned (OpenSpec.upto fnBuddiesSpec)

end Rows
end Go.Proofs.Ytddabginhmpljaa
