/-
  No cell of these rows narrows 'for every input' (looked for: loops, veiled, ifaces, maps, wideKeys, modest, calm, conditions, laid).
  DERIVED. THE GIVEN ROWS OF THIS SEAT. 4 by the template 'for every input the law returns true; each argument reads behind the call as it read before'; 0 by the template 'total and deterministic' (their statements: YthfpfomifebpbaaGreatTotals.lean).
  GIVEN WITH THE SEED: the statements are not yours to turn. If you find one false, say at which input.
  Laid BY PROGRAM, IN A SANDBOX (cutbox-rows.mjs): the forced cells as the released guide's own fill.sh prints them over the translation 2797d27e0396509a… (all of the seat's roots in one cut). By AI agents, Wed Nov 11 2026. No macro, syntax, notation, axiom, sorry.
-/
import Derived.Test.YthfpfomifebpbaaGreatChecked
import GoSem.Claim
import GoSem.ClaimJoined
import GoSem.ClaimMapViews
import Derived.JoinedTies
import Derived.KernelRfl
namespace Go.Proofs.YthfpfomifebpbaaGreat
/- THE CELL 'sum', in the pinned program and in every row, IS THE sha256 OF THE DUMP (.gsa) THAT YthfpfomifebpbaaGreatProg.lean LOADS. Nothing in Lean hashes anything: it is a label: what it is worth is what the hold of that sum in a sandbox is worth. -/
noncomputable def Tryz.pinned : Pinned := { name := "ythfpfomifebpbaagreat", sum := "2797d27e0396509a997de49d0db1a2f6e1488c5532a40988091ec83582126df4", checked := Tryz.checked }
namespace Rows
def none {H : Type} : Left H := { results := [], args := [] }

/-- 'entrepotlaw15.SagaNexts': WHATEVER THE INPUT: true; the input reads as it did. -/
def sagaNextsSpec : ChangeSpec := { name := "sagaNexts", fn := fun _ => fun
  | [d1, d2] => { results := [.lit (.bool true)], args := [d1, d2] }
  | _ => none }
def sagaNextsRow : OpenClaim := { program := "ythfpfomifebpbaagreat", sum := "2797d27e0396509a997de49d0db1a2f6e1488c5532a40988091ec83582126df4", func := "entrepot/entrepotlaw15.SagaNexts", spec := "sagaNexts", unfollowed := true, recurses := true, apart := false }
def SagaNextsSaid : Prop := sagaNextsRow.holds Tryz.pinned (OpenSpec.ofChange sagaNextsSpec)

/-- ITS FALSE NEIGHBOUR: 'it returns false'. Refute it at one input. -/
def sagaNextsWrong : ChangeSpec := { name := "sagaNexts", fn := fun _ => fun
  | [d1, d2] => { results := [.lit (.bool false)], args := [d1, d2] }
  | _ => none }
def SagaNextsWrongFalsely : Prop := sagaNextsRow.holds Tryz.pinned (OpenSpec.ofChange sagaNextsWrong)

/-- 'entrepotlaw15.SagaCodes': WHATEVER THE INPUT: true; the input reads as it did. -/
def sagaCodesSpec : ChangeSpec := { name := "sagaCodes", fn := fun _ => fun
  | [d] => { results := [.lit (.bool true)], args := [d] }
  | _ => none }
def sagaCodesRow : OpenClaim := { program := "ythfpfomifebpbaagreat", sum := "2797d27e0396509a997de49d0db1a2f6e1488c5532a40988091ec83582126df4", func := "entrepot/entrepotlaw15.SagaCodes", spec := "sagaCodes", unfollowed := true, recurses := true, apart := false }
def SagaCodesSaid : Prop := sagaCodesRow.holds Tryz.pinned (OpenSpec.ofChange sagaCodesSpec)

/-- ITS FALSE NEIGHBOUR: 'it returns false'. Refute it at one input. -/
def sagaCodesWrong : ChangeSpec := { name := "sagaCodes", fn := fun _ => fun
  | [d] => { results := [.lit (.bool false)], args := [d] }
  | _ => none }
def SagaCodesWrongFalsely : Prop := sagaCodesRow.holds Tryz.pinned (OpenSpec.ofChange sagaCodesWrong)

/-- 'entrepotlaw15.SagaReads': WHATEVER THE INPUT: true; the input reads as it did. -/
def sagaReadsSpec : ChangeSpec := { name := "sagaReads", fn := fun _ => fun
  | [d] => { results := [.lit (.bool true)], args := [d] }
  | _ => none }
def sagaReadsRow : OpenClaim := { program := "ythfpfomifebpbaagreat", sum := "2797d27e0396509a997de49d0db1a2f6e1488c5532a40988091ec83582126df4", func := "entrepot/entrepotlaw15.SagaReads", spec := "sagaReads", unfollowed := true, recurses := true, apart := false }
def SagaReadsSaid : Prop := sagaReadsRow.holds Tryz.pinned (OpenSpec.ofChange sagaReadsSpec)

/-- ITS FALSE NEIGHBOUR: 'it returns false'. Refute it at one input. -/
def sagaReadsWrong : ChangeSpec := { name := "sagaReads", fn := fun _ => fun
  | [d] => { results := [.lit (.bool false)], args := [d] }
  | _ => none }
def SagaReadsWrongFalsely : Prop := sagaReadsRow.holds Tryz.pinned (OpenSpec.ofChange sagaReadsWrong)

/-- 'entrepotlaw15.SagaGoesOn': WHATEVER THE INPUT: true; the input reads as it did. -/
def sagaGoesOnSpec : ChangeSpec := { name := "sagaGoesOn", fn := fun _ => fun
  | [d1, d2] => { results := [.lit (.bool true)], args := [d1, d2] }
  | _ => none }
def sagaGoesOnRow : OpenClaim := { program := "ythfpfomifebpbaagreat", sum := "2797d27e0396509a997de49d0db1a2f6e1488c5532a40988091ec83582126df4", func := "entrepot/entrepotlaw15.SagaGoesOn", spec := "sagaGoesOn", unfollowed := true, recurses := true, apart := false }
def SagaGoesOnSaid : Prop := sagaGoesOnRow.holds Tryz.pinned (OpenSpec.ofChange sagaGoesOnSpec)

/-- ITS FALSE NEIGHBOUR: 'it returns false'. Refute it at one input. -/
def sagaGoesOnWrong : ChangeSpec := { name := "sagaGoesOn", fn := fun _ => fun
  | [d1, d2] => { results := [.lit (.bool false)], args := [d1, d2] }
  | _ => none }
def SagaGoesOnWrongFalsely : Prop := sagaGoesOnRow.holds Tryz.pinned (OpenSpec.ofChange sagaGoesOnWrong)

/- THE SECOND FORM. 'bulk': how many values and letters a reading holds, each counted each time it is reached (what is shared counts as often as it is met; a slice's spare places count too). A statement '..UptoSaid' is the law's where the arguments, and the package variables that the reading takes, are together of bulk at most 1048576: NARROWER than '..Said'. Prove '..Said' where nothing that the law and all that it calls make is longer than what came in: it says more and counts as full. Else prove '..UptoSaid'. A law counts once. -/
mutual
def uptoBulk {H : Type} : DataW H → Nat
  | .lit (.string bytes) => bytes.length + 1
  | .lit _ => 1
  | .nil => 1
  | .ptr d => uptoBulk d + 1
  | .slice elems spare => uptoBulkAll elems + uptoBulkAll spare + 1
  | .agg parts => uptoBulkAll parts + 1
  | .iface _ d => uptoBulk d + 1
  | .map entries => uptoBulkEntries entries + 1
  | .held _ => 1
def uptoBulkAll {H : Type} : List (DataW H) → Nat
  | [] => 0
  | d :: r => uptoBulk d + uptoBulkAll r
def uptoBulkEntries {H : Type} : List (Lit × DataW H) → Nat
  | [] => 0
  | x :: r => uptoBulkEntry x + uptoBulkEntries r
def uptoBulkEntry {H : Type} : Lit × DataW H → Nat
  | (.string bytes, d) => bytes.length + uptoBulk d + 1
  | (_, d) => uptoBulk d + 1
 end
def uptoSmall : (H : Type) → List (DataW H) → Bool := fun _ ds => decide (uptoBulkAll ds ≤ 1048576)
def OpenSpec.upto (s : _root_.Go.ChangeSpec) : _root_.Go.OpenSpec := { _root_.Go.OpenSpec.ofChange s with cond := some uptoSmall }

/-- 'entrepotlaw15.SagaNexts', WHERE WHAT IT READS IS OF BULK AT MOST 1048576: true; the input reads as it did. -/
def sagaNextsUptoRow : OpenClaim := { program := "ythfpfomifebpbaagreat", sum := "2797d27e0396509a997de49d0db1a2f6e1488c5532a40988091ec83582126df4", func := "entrepot/entrepotlaw15.SagaNexts", spec := "sagaNexts", unfollowed := true, recurses := true, apart := false, narrowed := true }
def SagaNextsUptoSaid : Prop := sagaNextsUptoRow.holds Tryz.pinned (OpenSpec.upto sagaNextsSpec)

/-- 'entrepotlaw15.SagaCodes', WHERE WHAT IT READS IS OF BULK AT MOST 1048576: true; the input reads as it did. -/
def sagaCodesUptoRow : OpenClaim := { program := "ythfpfomifebpbaagreat", sum := "2797d27e0396509a997de49d0db1a2f6e1488c5532a40988091ec83582126df4", func := "entrepot/entrepotlaw15.SagaCodes", spec := "sagaCodes", unfollowed := true, recurses := true, apart := false, narrowed := true }
def SagaCodesUptoSaid : Prop := sagaCodesUptoRow.holds Tryz.pinned (OpenSpec.upto sagaCodesSpec)

/-- 'entrepotlaw15.SagaReads', WHERE WHAT IT READS IS OF BULK AT MOST 1048576: true; the input reads as it did. -/
def sagaReadsUptoRow : OpenClaim := { program := "ythfpfomifebpbaagreat", sum := "2797d27e0396509a997de49d0db1a2f6e1488c5532a40988091ec83582126df4", func := "entrepot/entrepotlaw15.SagaReads", spec := "sagaReads", unfollowed := true, recurses := true, apart := false, narrowed := true }
def SagaReadsUptoSaid : Prop := sagaReadsUptoRow.holds Tryz.pinned (OpenSpec.upto sagaReadsSpec)

/-- 'entrepotlaw15.SagaGoesOn', WHERE WHAT IT READS IS OF BULK AT MOST 1048576: true; the input reads as it did. -/
def sagaGoesOnUptoRow : OpenClaim := { program := "ythfpfomifebpbaagreat", sum := "2797d27e0396509a997de49d0db1a2f6e1488c5532a40988091ec83582126df4", func := "entrepot/entrepotlaw15.SagaGoesOn", spec := "sagaGoesOn", unfollowed := true, recurses := true, apart := false, narrowed := true }
def SagaGoesOnUptoSaid : Prop := sagaGoesOnUptoRow.holds Tryz.pinned (OpenSpec.upto sagaGoesOnSpec)

end Rows
end Go.Proofs.YthfpfomifebpbaaGreat
