/-
  No cell of these rows narrows 'for every input' (looked for: loops, veiled, ifaces, maps, wideKeys, modest, calm, conditions, laid).
  DERIVED. THE GIVEN ROWS OF THIS SEAT. 7 by the template 'for every input the law returns true; each argument reads behind the call as it read before'; 0 by the template 'total and deterministic' (their statements: YtdbkkldgobkjcaaTotals.lean).
  GIVEN WITH THE SEED: the statements are not yours to turn. If you find one false, say at which input.
  Laid BY PROGRAM, IN A SANDBOX (cutbox-rows.mjs): the forced cells as the released guide's own fill.sh prints them over the translation 85e674a3fb5bad19… (all of the seat's roots in one cut). By AI agents, Wed Nov 11 2026. No macro, syntax, notation, axiom, sorry.
-/
import Derived.Test.YtdbkkldgobkjcaaChecked
import GoSem.Claim
import GoSem.ClaimJoined
import GoSem.ClaimMapViews
import Derived.JoinedTies
import Derived.KernelRfl
namespace Go.Proofs.Ytdbkkldgobkjcaa
/- THE CELL 'sum', in the pinned program and in every row, IS THE sha256 OF THE DUMP (.gsa) THAT YtdbkkldgobkjcaaProg.lean LOADS. Nothing in Lean hashes anything: it is a label: what it is worth is what the hold of that sum in a sandbox is worth. -/
noncomputable def Try.pinned : Pinned := { name := "ytdbkkldgobkjcaa", sum := "85e674a3fb5bad19c5466321e96831390f5b8e94ea9d1464a5a3f3fd0e9e52e9", checked := Try.checked }
namespace Rows
def none {H : Type} : Left H := { results := [], args := [] }

/-- 'entrepotlaw19.MoveDoes': WHATEVER THE INPUT: true; the input reads as it did. -/
def moveDoesSpec : ChangeSpec := { name := "moveDoes", fn := fun _ => fun
  | [d] => { results := [.lit (.bool true)], args := [d] }
  | _ => none }
def moveDoesRow : OpenClaim := { program := "ytdbkkldgobkjcaa", sum := "85e674a3fb5bad19c5466321e96831390f5b8e94ea9d1464a5a3f3fd0e9e52e9", func := "entrepot/entrepotlaw19.MoveDoes", spec := "moveDoes", unfollowed := true, recurses := true, plainKeys := false, apart := false }
def MoveDoesSaid : Prop := moveDoesRow.holds Try.pinned (OpenSpec.ofChange moveDoesSpec)

/-- ITS FALSE NEIGHBOUR: 'it returns false'. Refute it at one input. -/
def moveDoesWrong : ChangeSpec := { name := "moveDoes", fn := fun _ => fun
  | [d] => { results := [.lit (.bool false)], args := [d] }
  | _ => none }
def MoveDoesWrongFalsely : Prop := moveDoesRow.holds Try.pinned (OpenSpec.ofChange moveDoesWrong)

/-- 'entrepotlaw19.MoveOnce': WHATEVER THE INPUT: true; the input reads as it did. -/
def moveOnceSpec : ChangeSpec := { name := "moveOnce", fn := fun _ => fun
  | [d] => { results := [.lit (.bool true)], args := [d] }
  | _ => none }
def moveOnceRow : OpenClaim := { program := "ytdbkkldgobkjcaa", sum := "85e674a3fb5bad19c5466321e96831390f5b8e94ea9d1464a5a3f3fd0e9e52e9", func := "entrepot/entrepotlaw19.MoveOnce", spec := "moveOnce", unfollowed := true, recurses := true, plainKeys := false, apart := false }
def MoveOnceSaid : Prop := moveOnceRow.holds Try.pinned (OpenSpec.ofChange moveOnceSpec)

/-- ITS FALSE NEIGHBOUR: 'it returns false'. Refute it at one input. -/
def moveOnceWrong : ChangeSpec := { name := "moveOnce", fn := fun _ => fun
  | [d] => { results := [.lit (.bool false)], args := [d] }
  | _ => none }
def MoveOnceWrongFalsely : Prop := moveOnceRow.holds Try.pinned (OpenSpec.ofChange moveOnceWrong)

/-- 'entrepotlaw19.MoveFull': WHATEVER THE INPUT: true; the input reads as it did. -/
def moveFullSpec : ChangeSpec := { name := "moveFull", fn := fun _ => fun
  | [d] => { results := [.lit (.bool true)], args := [d] }
  | _ => none }
def moveFullRow : OpenClaim := { program := "ytdbkkldgobkjcaa", sum := "85e674a3fb5bad19c5466321e96831390f5b8e94ea9d1464a5a3f3fd0e9e52e9", func := "entrepot/entrepotlaw19.MoveFull", spec := "moveFull", unfollowed := true, recurses := true, plainKeys := false, apart := false }
def MoveFullSaid : Prop := moveFullRow.holds Try.pinned (OpenSpec.ofChange moveFullSpec)

/-- ITS FALSE NEIGHBOUR: 'it returns false'. Refute it at one input. -/
def moveFullWrong : ChangeSpec := { name := "moveFull", fn := fun _ => fun
  | [d] => { results := [.lit (.bool false)], args := [d] }
  | _ => none }
def MoveFullWrongFalsely : Prop := moveFullRow.holds Try.pinned (OpenSpec.ofChange moveFullWrong)

/-- 'entrepotlaw19.MoveNobody': WHATEVER THE INPUT: true; the input reads as it did. -/
def moveNobodySpec : ChangeSpec := { name := "moveNobody", fn := fun _ => fun
  | [d] => { results := [.lit (.bool true)], args := [d] }
  | _ => none }
def moveNobodyRow : OpenClaim := { program := "ytdbkkldgobkjcaa", sum := "85e674a3fb5bad19c5466321e96831390f5b8e94ea9d1464a5a3f3fd0e9e52e9", func := "entrepot/entrepotlaw19.MoveNobody", spec := "moveNobody", unfollowed := true, recurses := true, plainKeys := false, apart := false }
def MoveNobodySaid : Prop := moveNobodyRow.holds Try.pinned (OpenSpec.ofChange moveNobodySpec)

/-- ITS FALSE NEIGHBOUR: 'it returns false'. Refute it at one input. -/
def moveNobodyWrong : ChangeSpec := { name := "moveNobody", fn := fun _ => fun
  | [d] => { results := [.lit (.bool false)], args := [d] }
  | _ => none }
def MoveNobodyWrongFalsely : Prop := moveNobodyRow.holds Try.pinned (OpenSpec.ofChange moveNobodyWrong)

/-- 'entrepotlaw17.ParcelOnce': WHATEVER THE INPUT: true; the input reads as it did. -/
def parcelOnceSpec : ChangeSpec := { name := "parcelOnce", fn := fun _ => fun
  | [d] => { results := [.lit (.bool true)], args := [d] }
  | _ => none }
def parcelOnceRow : OpenClaim := { program := "ytdbkkldgobkjcaa", sum := "85e674a3fb5bad19c5466321e96831390f5b8e94ea9d1464a5a3f3fd0e9e52e9", func := "entrepot/entrepotlaw17.ParcelOnce", spec := "parcelOnce", unfollowed := true, recurses := true, plainKeys := false, apart := false }
def ParcelOnceSaid : Prop := parcelOnceRow.holds Try.pinned (OpenSpec.ofChange parcelOnceSpec)

/-- ITS FALSE NEIGHBOUR: 'it returns false'. Refute it at one input. -/
def parcelOnceWrong : ChangeSpec := { name := "parcelOnce", fn := fun _ => fun
  | [d] => { results := [.lit (.bool false)], args := [d] }
  | _ => none }
def ParcelOnceWrongFalsely : Prop := parcelOnceRow.holds Try.pinned (OpenSpec.ofChange parcelOnceWrong)

/-- 'entrepotlaw17.ParcelBounds': WHATEVER THE INPUT: true; the input reads as it did. -/
def parcelBoundsSpec : ChangeSpec := { name := "parcelBounds", fn := fun _ => fun
  | [d] => { results := [.lit (.bool true)], args := [d] }
  | _ => none }
def parcelBoundsRow : OpenClaim := { program := "ytdbkkldgobkjcaa", sum := "85e674a3fb5bad19c5466321e96831390f5b8e94ea9d1464a5a3f3fd0e9e52e9", func := "entrepot/entrepotlaw17.ParcelBounds", spec := "parcelBounds", unfollowed := true, recurses := true, plainKeys := false, apart := false }
def ParcelBoundsSaid : Prop := parcelBoundsRow.holds Try.pinned (OpenSpec.ofChange parcelBoundsSpec)

/-- ITS FALSE NEIGHBOUR: 'it returns false'. Refute it at one input. -/
def parcelBoundsWrong : ChangeSpec := { name := "parcelBounds", fn := fun _ => fun
  | [d] => { results := [.lit (.bool false)], args := [d] }
  | _ => none }
def ParcelBoundsWrongFalsely : Prop := parcelBoundsRow.holds Try.pinned (OpenSpec.ofChange parcelBoundsWrong)

/-- 'entrepotlaw17.ParcelNobody': WHATEVER THE INPUT: true; the input reads as it did. -/
def parcelNobodySpec : ChangeSpec := { name := "parcelNobody", fn := fun _ => fun
  | [d] => { results := [.lit (.bool true)], args := [d] }
  | _ => none }
def parcelNobodyRow : OpenClaim := { program := "ytdbkkldgobkjcaa", sum := "85e674a3fb5bad19c5466321e96831390f5b8e94ea9d1464a5a3f3fd0e9e52e9", func := "entrepot/entrepotlaw17.ParcelNobody", spec := "parcelNobody", unfollowed := true, recurses := true, plainKeys := false, apart := false }
def ParcelNobodySaid : Prop := parcelNobodyRow.holds Try.pinned (OpenSpec.ofChange parcelNobodySpec)

/-- ITS FALSE NEIGHBOUR: 'it returns false'. Refute it at one input. -/
def parcelNobodyWrong : ChangeSpec := { name := "parcelNobody", fn := fun _ => fun
  | [d] => { results := [.lit (.bool false)], args := [d] }
  | _ => none }
def ParcelNobodyWrongFalsely : Prop := parcelNobodyRow.holds Try.pinned (OpenSpec.ofChange parcelNobodyWrong)

/- THE SECOND FORM. 'bulk': how many values and letters a reading holds, each counted each time it is reached (what is shared counts as often as it is met; a slice's spare places count too). A statement '..UptoSaid' is the law's where the arguments, and the package variables that the reading takes, are together of bulk at most 1048576: NARROWER than '..Said'. Prove '..Said' where nothing that the law and all that it calls make is longer than what came in: it says more and counts as full. Else prove '..UptoSaid'. A law counts once. -/
mutual
def uptoBulk {H : Type} : DataW H → Nat
  | .lit (.string bytes) => bytes.length + 1
  | .lit _ => 1
  | .nil => 1
  | .ptr d => uptoBulk d + 1
  | .slice elems spare => uptoBulkAll elems + uptoBulkAll spare + 1
  | .agg parts => uptoBulkAll parts + 1
  | .iface _ d => uptoBulk d + 1
  | .map entries => uptoBulkEntries entries + 1
  | .held _ => 1
def uptoBulkAll {H : Type} : List (DataW H) → Nat
  | [] => 0
  | d :: r => uptoBulk d + uptoBulkAll r
def uptoBulkEntries {H : Type} : List (Lit × DataW H) → Nat
  | [] => 0
  | x :: r => uptoBulkEntry x + uptoBulkEntries r
def uptoBulkEntry {H : Type} : Lit × DataW H → Nat
  | (.string bytes, d) => bytes.length + uptoBulk d + 1
  | (_, d) => uptoBulk d + 1
 end
def uptoSmall : (H : Type) → List (DataW H) → Bool := fun _ ds => decide (uptoBulkAll ds ≤ 1048576)
def OpenSpec.upto (s : _root_.Go.ChangeSpec) : _root_.Go.OpenSpec := { _root_.Go.OpenSpec.ofChange s with cond := some uptoSmall }

/-- 'entrepotlaw19.MoveDoes', WHERE WHAT IT READS IS OF BULK AT MOST 1048576: true; the input reads as it did. -/
def moveDoesUptoRow : OpenClaim := { program := "ytdbkkldgobkjcaa", sum := "85e674a3fb5bad19c5466321e96831390f5b8e94ea9d1464a5a3f3fd0e9e52e9", func := "entrepot/entrepotlaw19.MoveDoes", spec := "moveDoes", unfollowed := true, recurses := true, plainKeys := false, apart := false, narrowed := true }
def MoveDoesUptoSaid : Prop := moveDoesUptoRow.holds Try.pinned (OpenSpec.upto moveDoesSpec)

/-- 'entrepotlaw19.MoveOnce', WHERE WHAT IT READS IS OF BULK AT MOST 1048576: true; the input reads as it did. -/
def moveOnceUptoRow : OpenClaim := { program := "ytdbkkldgobkjcaa", sum := "85e674a3fb5bad19c5466321e96831390f5b8e94ea9d1464a5a3f3fd0e9e52e9", func := "entrepot/entrepotlaw19.MoveOnce", spec := "moveOnce", unfollowed := true, recurses := true, plainKeys := false, apart := false, narrowed := true }
def MoveOnceUptoSaid : Prop := moveOnceUptoRow.holds Try.pinned (OpenSpec.upto moveOnceSpec)

/-- 'entrepotlaw19.MoveFull', WHERE WHAT IT READS IS OF BULK AT MOST 1048576: true; the input reads as it did. -/
def moveFullUptoRow : OpenClaim := { program := "ytdbkkldgobkjcaa", sum := "85e674a3fb5bad19c5466321e96831390f5b8e94ea9d1464a5a3f3fd0e9e52e9", func := "entrepot/entrepotlaw19.MoveFull", spec := "moveFull", unfollowed := true, recurses := true, plainKeys := false, apart := false, narrowed := true }
def MoveFullUptoSaid : Prop := moveFullUptoRow.holds Try.pinned (OpenSpec.upto moveFullSpec)

/-- 'entrepotlaw19.MoveNobody', WHERE WHAT IT READS IS OF BULK AT MOST 1048576: true; the input reads as it did. -/
def moveNobodyUptoRow : OpenClaim := { program := "ytdbkkldgobkjcaa", sum := "85e674a3fb5bad19c5466321e96831390f5b8e94ea9d1464a5a3f3fd0e9e52e9", func := "entrepot/entrepotlaw19.MoveNobody", spec := "moveNobody", unfollowed := true, recurses := true, plainKeys := false, apart := false, narrowed := true }
def MoveNobodyUptoSaid : Prop := moveNobodyUptoRow.holds Try.pinned (OpenSpec.upto moveNobodySpec)

/-- 'entrepotlaw17.ParcelOnce', WHERE WHAT IT READS IS OF BULK AT MOST 1048576: true; the input reads as it did. -/
def parcelOnceUptoRow : OpenClaim := { program := "ytdbkkldgobkjcaa", sum := "85e674a3fb5bad19c5466321e96831390f5b8e94ea9d1464a5a3f3fd0e9e52e9", func := "entrepot/entrepotlaw17.ParcelOnce", spec := "parcelOnce", unfollowed := true, recurses := true, plainKeys := false, apart := false, narrowed := true }
def ParcelOnceUptoSaid : Prop := parcelOnceUptoRow.holds Try.pinned (OpenSpec.upto parcelOnceSpec)

/-- 'entrepotlaw17.ParcelBounds', WHERE WHAT IT READS IS OF BULK AT MOST 1048576: true; the input reads as it did. -/
def parcelBoundsUptoRow : OpenClaim := { program := "ytdbkkldgobkjcaa", sum := "85e674a3fb5bad19c5466321e96831390f5b8e94ea9d1464a5a3f3fd0e9e52e9", func := "entrepot/entrepotlaw17.ParcelBounds", spec := "parcelBounds", unfollowed := true, recurses := true, plainKeys := false, apart := false, narrowed := true }
def ParcelBoundsUptoSaid : Prop := parcelBoundsUptoRow.holds Try.pinned (OpenSpec.upto parcelBoundsSpec)

/-- 'entrepotlaw17.ParcelNobody', WHERE WHAT IT READS IS OF BULK AT MOST 1048576: true; the input reads as it did. -/
def parcelNobodyUptoRow : OpenClaim := { program := "ytdbkkldgobkjcaa", sum := "85e674a3fb5bad19c5466321e96831390f5b8e94ea9d1464a5a3f3fd0e9e52e9", func := "entrepot/entrepotlaw17.ParcelNobody", spec := "parcelNobody", unfollowed := true, recurses := true, plainKeys := false, apart := false, narrowed := true }
def ParcelNobodyUptoSaid : Prop := parcelNobodyUptoRow.holds Try.pinned (OpenSpec.upto parcelNobodySpec)

end Rows
end Go.Proofs.Ytdbkkldgobkjcaa
