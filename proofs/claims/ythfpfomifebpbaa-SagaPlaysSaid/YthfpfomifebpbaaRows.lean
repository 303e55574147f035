/-
  No cell of these rows narrows 'for every input' (looked for: loops, veiled, ifaces, maps, wideKeys, modest, calm, conditions, laid).
  DERIVED. THE GIVEN ROWS OF THIS SEAT. 6 by the template 'for every input the law returns true; each argument reads behind the call as it read before'; 0 by the template 'total and deterministic' (their statements: YthfpfomifebpbaaTotals.lean).
  GIVEN WITH THE SEED: the statements are not yours to turn. If you find one false, say at which input.
  Laid BY PROGRAM, IN A SANDBOX (cutbox-rows.mjs): the forced cells as the released guide's own fill.sh prints them over the translation b4e626cd2ce979a5… (all of the seat's roots in one cut). By AI agents, Wed Nov 11 2026. No macro, syntax, notation, axiom, sorry.
-/
import Derived.Test.YthfpfomifebpbaaChecked
import GoSem.Claim
import GoSem.ClaimJoined
import GoSem.ClaimMapViews
import Derived.JoinedTies
import Derived.KernelRfl
namespace Go.Proofs.Ythfpfomifebpbaa
/- THE CELL 'sum', in the pinned program and in every row, IS THE sha256 OF THE DUMP (.gsa) THAT YthfpfomifebpbaaProg.lean LOADS. Nothing in Lean hashes anything: it is a label: what it is worth is what the hold of that sum in a sandbox is worth. -/
noncomputable def Try.pinned : Pinned := { name := "ythfpfomifebpbaa", sum := "b4e626cd2ce979a5ba6cd6487867561e6529e952b64d3eac69e7b32b2ca331ce", checked := Try.checked }
namespace Rows
def none {H : Type} : Left H := { results := [], args := [] }

/-- 'entrepotlaw15.SagaBegins': WHATEVER THE INPUT: true; the input reads as it did. -/
def sagaBeginsSpec : ChangeSpec := { name := "sagaBegins", fn := fun _ => fun
  | [d1, d2, d3, d4, d5] => { results := [.lit (.bool true)], args := [d1, d2, d3, d4, d5] }
  | _ => none }
def sagaBeginsRow : OpenClaim := { program := "ythfpfomifebpbaa", sum := "b4e626cd2ce979a5ba6cd6487867561e6529e952b64d3eac69e7b32b2ca331ce", func := "entrepot/entrepotlaw15.SagaBegins", spec := "sagaBegins", unfollowed := true, recurses := true, apart := false }
def SagaBeginsSaid : Prop := sagaBeginsRow.holds Try.pinned (OpenSpec.ofChange sagaBeginsSpec)

/-- ITS FALSE NEIGHBOUR: 'it returns false'. Refute it at one input. -/
def sagaBeginsWrong : ChangeSpec := { name := "sagaBegins", fn := fun _ => fun
  | [d1, d2, d3, d4, d5] => { results := [.lit (.bool false)], args := [d1, d2, d3, d4, d5] }
  | _ => none }
def SagaBeginsWrongFalsely : Prop := sagaBeginsRow.holds Try.pinned (OpenSpec.ofChange sagaBeginsWrong)

/-- 'entrepotlaw15.SagaSame': WHATEVER THE INPUT: true; the input reads as it did. -/
def sagaSameSpec : ChangeSpec := { name := "sagaSame", fn := fun _ => fun
  | [d1, d2, d3] => { results := [.lit (.bool true)], args := [d1, d2, d3] }
  | _ => none }
def sagaSameRow : OpenClaim := { program := "ythfpfomifebpbaa", sum := "b4e626cd2ce979a5ba6cd6487867561e6529e952b64d3eac69e7b32b2ca331ce", func := "entrepot/entrepotlaw15.SagaSame", spec := "sagaSame", unfollowed := true, recurses := true, apart := false }
def SagaSameSaid : Prop := sagaSameRow.holds Try.pinned (OpenSpec.ofChange sagaSameSpec)

/-- ITS FALSE NEIGHBOUR: 'it returns false'. Refute it at one input. -/
def sagaSameWrong : ChangeSpec := { name := "sagaSame", fn := fun _ => fun
  | [d1, d2, d3] => { results := [.lit (.bool false)], args := [d1, d2, d3] }
  | _ => none }
def SagaSameWrongFalsely : Prop := sagaSameRow.holds Try.pinned (OpenSpec.ofChange sagaSameWrong)

/-- 'entrepotlaw15.SagaPlays': WHATEVER THE INPUT: true; the input reads as it did. -/
def sagaPlaysSpec : ChangeSpec := { name := "sagaPlays", fn := fun _ => fun
  | [d1, d2, d3, d4] => { results := [.lit (.bool true)], args := [d1, d2, d3, d4] }
  | _ => none }
def sagaPlaysRow : OpenClaim := { program := "ythfpfomifebpbaa", sum := "b4e626cd2ce979a5ba6cd6487867561e6529e952b64d3eac69e7b32b2ca331ce", func := "entrepot/entrepotlaw15.SagaPlays", spec := "sagaPlays", unfollowed := true, recurses := true, apart := false }
def SagaPlaysSaid : Prop := sagaPlaysRow.holds Try.pinned (OpenSpec.ofChange sagaPlaysSpec)

/-- ITS FALSE NEIGHBOUR: 'it returns false'. Refute it at one input. -/
def sagaPlaysWrong : ChangeSpec := { name := "sagaPlays", fn := fun _ => fun
  | [d1, d2, d3, d4] => { results := [.lit (.bool false)], args := [d1, d2, d3, d4] }
  | _ => none }
def SagaPlaysWrongFalsely : Prop := sagaPlaysRow.holds Try.pinned (OpenSpec.ofChange sagaPlaysWrong)

/-- 'entrepotlaw15.SagaEnough': WHATEVER THE INPUT: true; the input reads as it did. -/
def sagaEnoughSpec : ChangeSpec := { name := "sagaEnough", fn := fun _ => fun
  | [d1, d2, d3] => { results := [.lit (.bool true)], args := [d1, d2, d3] }
  | _ => none }
def sagaEnoughRow : OpenClaim := { program := "ythfpfomifebpbaa", sum := "b4e626cd2ce979a5ba6cd6487867561e6529e952b64d3eac69e7b32b2ca331ce", func := "entrepot/entrepotlaw15.SagaEnough", spec := "sagaEnough", unfollowed := true, recurses := true, apart := false }
def SagaEnoughSaid : Prop := sagaEnoughRow.holds Try.pinned (OpenSpec.ofChange sagaEnoughSpec)

/-- ITS FALSE NEIGHBOUR: 'it returns false'. Refute it at one input. -/
def sagaEnoughWrong : ChangeSpec := { name := "sagaEnough", fn := fun _ => fun
  | [d1, d2, d3] => { results := [.lit (.bool false)], args := [d1, d2, d3] }
  | _ => none }
def SagaEnoughWrongFalsely : Prop := sagaEnoughRow.holds Try.pinned (OpenSpec.ofChange sagaEnoughWrong)

/-- 'entrepotlaw15.SagaSteps': WHATEVER THE INPUT: true; the input reads as it did. -/
def sagaStepsSpec : ChangeSpec := { name := "sagaSteps", fn := fun _ => fun
  | [d1, d2] => { results := [.lit (.bool true)], args := [d1, d2] }
  | _ => none }
def sagaStepsRow : OpenClaim := { program := "ythfpfomifebpbaa", sum := "b4e626cd2ce979a5ba6cd6487867561e6529e952b64d3eac69e7b32b2ca331ce", func := "entrepot/entrepotlaw15.SagaSteps", spec := "sagaSteps", unfollowed := true, recurses := true, apart := false }
def SagaStepsSaid : Prop := sagaStepsRow.holds Try.pinned (OpenSpec.ofChange sagaStepsSpec)

/-- ITS FALSE NEIGHBOUR: 'it returns false'. Refute it at one input. -/
def sagaStepsWrong : ChangeSpec := { name := "sagaSteps", fn := fun _ => fun
  | [d1, d2] => { results := [.lit (.bool false)], args := [d1, d2] }
  | _ => none }
def SagaStepsWrongFalsely : Prop := sagaStepsRow.holds Try.pinned (OpenSpec.ofChange sagaStepsWrong)

/-- 'entrepotlaw20.LifeNexts': WHATEVER THE INPUT: true; the input reads as it did. -/
def lifeNextsSpec : ChangeSpec := { name := "lifeNexts", fn := fun _ => fun
  | [d1, d2] => { results := [.lit (.bool true)], args := [d1, d2] }
  | _ => none }
def lifeNextsRow : OpenClaim := { program := "ythfpfomifebpbaa", sum := "b4e626cd2ce979a5ba6cd6487867561e6529e952b64d3eac69e7b32b2ca331ce", func := "entrepot/entrepotlaw20.LifeNexts", spec := "lifeNexts", unfollowed := true, recurses := true, apart := false }
def LifeNextsSaid : Prop := lifeNextsRow.holds Try.pinned (OpenSpec.ofChange lifeNextsSpec)

/-- ITS FALSE NEIGHBOUR: 'it returns false'. Refute it at one input. -/
def lifeNextsWrong : ChangeSpec := { name := "lifeNexts", fn := fun _ => fun
  | [d1, d2] => { results := [.lit (.bool false)], args := [d1, d2] }
  | _ => none }
def LifeNextsWrongFalsely : Prop := lifeNextsRow.holds Try.pinned (OpenSpec.ofChange lifeNextsWrong)

/- THE SECOND FORM. 'bulk': how many values and letters a reading holds, each counted each time it is reached (what is shared counts as often as it is met; a slice's spare places count too). A statement '..UptoSaid' is the law's where the arguments, and the package variables that the reading takes, are together of bulk at most 1048576: NARROWER than '..Said'. Prove '..Said' where nothing that the law and all that it calls make is longer than what came in: it says more and counts as full. Else prove '..UptoSaid'. A law counts once. -/
mutual
def uptoBulk {H : Type} : DataW H → Nat
  | .lit (.string bytes) => bytes.length + 1
  | .lit _ => 1
  | .nil => 1
  | .ptr d => uptoBulk d + 1
  | .slice elems spare => uptoBulkAll elems + uptoBulkAll spare + 1
  | .agg parts => uptoBulkAll parts + 1
  | .iface _ d => uptoBulk d + 1
  | .map entries => uptoBulkEntries entries + 1
  | .held _ => 1
def uptoBulkAll {H : Type} : List (DataW H) → Nat
  | [] => 0
  | d :: r => uptoBulk d + uptoBulkAll r
def uptoBulkEntries {H : Type} : List (Lit × DataW H) → Nat
  | [] => 0
  | x :: r => uptoBulkEntry x + uptoBulkEntries r
def uptoBulkEntry {H : Type} : Lit × DataW H → Nat
  | (.string bytes, d) => bytes.length + uptoBulk d + 1
  | (_, d) => uptoBulk d + 1
 end
def uptoSmall : (H : Type) → List (DataW H) → Bool := fun _ ds => decide (uptoBulkAll ds ≤ 1048576)
def OpenSpec.upto (s : _root_.Go.ChangeSpec) : _root_.Go.OpenSpec := { _root_.Go.OpenSpec.ofChange s with cond := some uptoSmall }

/-- 'entrepotlaw15.SagaBegins', WHERE WHAT IT READS IS OF BULK AT MOST 1048576: true; the input reads as it did. -/
def sagaBeginsUptoRow : OpenClaim := { program := "ythfpfomifebpbaa", sum := "b4e626cd2ce979a5ba6cd6487867561e6529e952b64d3eac69e7b32b2ca331ce", func := "entrepot/entrepotlaw15.SagaBegins", spec := "sagaBegins", unfollowed := true, recurses := true, apart := false, narrowed := true }
def SagaBeginsUptoSaid : Prop := sagaBeginsUptoRow.holds Try.pinned (OpenSpec.upto sagaBeginsSpec)

/-- 'entrepotlaw15.SagaSame', WHERE WHAT IT READS IS OF BULK AT MOST 1048576: true; the input reads as it did. -/
def sagaSameUptoRow : OpenClaim := { program := "ythfpfomifebpbaa", sum := "b4e626cd2ce979a5ba6cd6487867561e6529e952b64d3eac69e7b32b2ca331ce", func := "entrepot/entrepotlaw15.SagaSame", spec := "sagaSame", unfollowed := true, recurses := true, apart := false, narrowed := true }
def SagaSameUptoSaid : Prop := sagaSameUptoRow.holds Try.pinned (OpenSpec.upto sagaSameSpec)

/-- 'entrepotlaw15.SagaPlays', WHERE WHAT IT READS IS OF BULK AT MOST 1048576: true; the input reads as it did. -/
def sagaPlaysUptoRow : OpenClaim := { program := "ythfpfomifebpbaa", sum := "b4e626cd2ce979a5ba6cd6487867561e6529e952b64d3eac69e7b32b2ca331ce", func := "entrepot/entrepotlaw15.SagaPlays", spec := "sagaPlays", unfollowed := true, recurses := true, apart := false, narrowed := true }
def SagaPlaysUptoSaid : Prop := sagaPlaysUptoRow.holds Try.pinned (OpenSpec.upto sagaPlaysSpec)

/-- 'entrepotlaw15.SagaEnough', WHERE WHAT IT READS IS OF BULK AT MOST 1048576: true; the input reads as it did. -/
def sagaEnoughUptoRow : OpenClaim := { program := "ythfpfomifebpbaa", sum := "b4e626cd2ce979a5ba6cd6487867561e6529e952b64d3eac69e7b32b2ca331ce", func := "entrepot/entrepotlaw15.SagaEnough", spec := "sagaEnough", unfollowed := true, recurses := true, apart := false, narrowed := true }
def SagaEnoughUptoSaid : Prop := sagaEnoughUptoRow.holds Try.pinned (OpenSpec.upto sagaEnoughSpec)

/-- 'entrepotlaw15.SagaSteps', WHERE WHAT IT READS IS OF BULK AT MOST 1048576: true; the input reads as it did. -/
def sagaStepsUptoRow : OpenClaim := { program := "ythfpfomifebpbaa", sum := "b4e626cd2ce979a5ba6cd6487867561e6529e952b64d3eac69e7b32b2ca331ce", func := "entrepot/entrepotlaw15.SagaSteps", spec := "sagaSteps", unfollowed := true, recurses := true, apart := false, narrowed := true }
def SagaStepsUptoSaid : Prop := sagaStepsUptoRow.holds Try.pinned (OpenSpec.upto sagaStepsSpec)

/-- 'entrepotlaw20.LifeNexts', WHERE WHAT IT READS IS OF BULK AT MOST 1048576: true; the input reads as it did. -/
def lifeNextsUptoRow : OpenClaim := { program := "ythfpfomifebpbaa", sum := "b4e626cd2ce979a5ba6cd6487867561e6529e952b64d3eac69e7b32b2ca331ce", func := "entrepot/entrepotlaw20.LifeNexts", spec := "lifeNexts", unfollowed := true, recurses := true, apart := false, narrowed := true }
def LifeNextsUptoSaid : Prop := lifeNextsUptoRow.holds Try.pinned (OpenSpec.upto lifeNextsSpec)

end Rows
end Go.Proofs.Ythfpfomifebpbaa
