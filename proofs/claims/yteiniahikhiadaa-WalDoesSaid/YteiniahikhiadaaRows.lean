/-
  No cell of these rows narrows 'for every input' (looked for: loops, veiled, ifaces, maps, wideKeys, modest, calm, conditions, laid).
  DERIVED. THE GIVEN ROWS OF THIS SEAT. 10 by the template 'for every input the law returns true; each argument reads behind the call as it read before'; 0 by the template 'total and deterministic' (their statements: YteiniahikhiadaaTotals.lean).
  GIVEN WITH THE SEED: the statements are not yours to turn. If you find one false, say at which input.
  Laid BY PROGRAM, IN A SANDBOX (cutbox-rows.mjs): the forced cells as the released guide's own fill.sh prints them over the translation a62434a70e057dc1… (all of the seat's roots in one cut). By AI agents, Wed Nov 11 2026. No macro, syntax, notation, axiom, sorry.
-/
import Derived.Test.YteiniahikhiadaaChecked
import GoSem.Claim
import GoSem.ClaimJoined
import GoSem.ClaimMapViews
import Derived.JoinedTies
import Derived.KernelRfl
namespace Go.Proofs.Yteiniahikhiadaa
/- THE CELL 'sum', in the pinned program and in every row, IS THE sha256 OF THE DUMP (.gsa) THAT YteiniahikhiadaaProg.lean LOADS. Nothing in Lean hashes anything: it is a label: what it is worth is what the hold of that sum in a sandbox is worth. -/
noncomputable def Try.pinned : Pinned := { name := "yteiniahikhiadaa", sum := "a62434a70e057dc17c3f5a467b2c4e469d81f71c48edd79b583f1750ac78d65f", checked := Try.checked }
namespace Rows
def none {H : Type} : Left H := { results := [], args := [] }

/-- 'entrepotlaw04.WalRooms': WHATEVER THE INPUT: true; the input reads as it did. -/
def walRoomsSpec : ChangeSpec := { name := "walRooms", fn := fun _ => fun
  | [d1, d2] => { results := [.lit (.bool true)], args := [d1, d2] }
  | _ => none }
def walRoomsRow : OpenClaim := { program := "yteiniahikhiadaa", sum := "a62434a70e057dc17c3f5a467b2c4e469d81f71c48edd79b583f1750ac78d65f", func := "entrepot/entrepotlaw04.WalRooms", spec := "walRooms", inPlace := ["sync/atomic.AddInt64"], unfollowed := true, recurses := true, apart := false }
def WalRoomsSaid : Prop := walRoomsRow.holds Try.pinned (OpenSpec.ofChange walRoomsSpec)

/-- ITS FALSE NEIGHBOUR: 'it returns false'. Refute it at one input. -/
def walRoomsWrong : ChangeSpec := { name := "walRooms", fn := fun _ => fun
  | [d1, d2] => { results := [.lit (.bool false)], args := [d1, d2] }
  | _ => none }
def WalRoomsWrongFalsely : Prop := walRoomsRow.holds Try.pinned (OpenSpec.ofChange walRoomsWrong)

/-- 'entrepotlaw04.WalAgain': WHATEVER THE INPUT: true; the input reads as it did. -/
def walAgainSpec : ChangeSpec := { name := "walAgain", fn := fun _ => fun
  | [d1, d2] => { results := [.lit (.bool true)], args := [d1, d2] }
  | _ => none }
def walAgainRow : OpenClaim := { program := "yteiniahikhiadaa", sum := "a62434a70e057dc17c3f5a467b2c4e469d81f71c48edd79b583f1750ac78d65f", func := "entrepot/entrepotlaw04.WalAgain", spec := "walAgain", inPlace := ["sync/atomic.AddInt64"], unfollowed := true, recurses := true, apart := false }
def WalAgainSaid : Prop := walAgainRow.holds Try.pinned (OpenSpec.ofChange walAgainSpec)

/-- ITS FALSE NEIGHBOUR: 'it returns false'. Refute it at one input. -/
def walAgainWrong : ChangeSpec := { name := "walAgain", fn := fun _ => fun
  | [d1, d2] => { results := [.lit (.bool false)], args := [d1, d2] }
  | _ => none }
def WalAgainWrongFalsely : Prop := walAgainRow.holds Try.pinned (OpenSpec.ofChange walAgainWrong)

/-- 'entrepotlaw04.WalNobody': WHATEVER THE INPUT: true; the input reads as it did. -/
def walNobodySpec : ChangeSpec := { name := "walNobody", fn := fun _ => fun
  | [d] => { results := [.lit (.bool true)], args := [d] }
  | _ => none }
def walNobodyRow : OpenClaim := { program := "yteiniahikhiadaa", sum := "a62434a70e057dc17c3f5a467b2c4e469d81f71c48edd79b583f1750ac78d65f", func := "entrepot/entrepotlaw04.WalNobody", spec := "walNobody", inPlace := ["sync/atomic.AddInt64"], unfollowed := true, recurses := true, apart := false }
def WalNobodySaid : Prop := walNobodyRow.holds Try.pinned (OpenSpec.ofChange walNobodySpec)

/-- ITS FALSE NEIGHBOUR: 'it returns false'. Refute it at one input. -/
def walNobodyWrong : ChangeSpec := { name := "walNobody", fn := fun _ => fun
  | [d] => { results := [.lit (.bool false)], args := [d] }
  | _ => none }
def WalNobodyWrongFalsely : Prop := walNobodyRow.holds Try.pinned (OpenSpec.ofChange walNobodyWrong)

/-- 'entrepotlaw04.WalDoes': WHATEVER THE INPUT: true; the input reads as it did. -/
def walDoesSpec : ChangeSpec := { name := "walDoes", fn := fun _ => fun
  | [d1, d2] => { results := [.lit (.bool true)], args := [d1, d2] }
  | _ => none }
def walDoesRow : OpenClaim := { program := "yteiniahikhiadaa", sum := "a62434a70e057dc17c3f5a467b2c4e469d81f71c48edd79b583f1750ac78d65f", func := "entrepot/entrepotlaw04.WalDoes", spec := "walDoes", inPlace := ["sync/atomic.AddInt64"], unfollowed := true, recurses := true, apart := false }
def WalDoesSaid : Prop := walDoesRow.holds Try.pinned (OpenSpec.ofChange walDoesSpec)

/-- ITS FALSE NEIGHBOUR: 'it returns false'. Refute it at one input. -/
def walDoesWrong : ChangeSpec := { name := "walDoes", fn := fun _ => fun
  | [d1, d2] => { results := [.lit (.bool false)], args := [d1, d2] }
  | _ => none }
def WalDoesWrongFalsely : Prop := walDoesRow.holds Try.pinned (OpenSpec.ofChange walDoesWrong)

/-- 'entrepotlaw03.SectorTears': WHATEVER THE INPUT: true; the input reads as it did. -/
def sectorTearsSpec : ChangeSpec := { name := "sectorTears", fn := fun _ => fun
  | [d1, d2, d3] => { results := [.lit (.bool true)], args := [d1, d2, d3] }
  | _ => none }
def sectorTearsRow : OpenClaim := { program := "yteiniahikhiadaa", sum := "a62434a70e057dc17c3f5a467b2c4e469d81f71c48edd79b583f1750ac78d65f", func := "entrepot/entrepotlaw03.SectorTears", spec := "sectorTears", inPlace := ["sync/atomic.AddInt64"], unfollowed := true, recurses := true, apart := false }
def SectorTearsSaid : Prop := sectorTearsRow.holds Try.pinned (OpenSpec.ofChange sectorTearsSpec)

/-- ITS FALSE NEIGHBOUR: 'it returns false'. Refute it at one input. -/
def sectorTearsWrong : ChangeSpec := { name := "sectorTears", fn := fun _ => fun
  | [d1, d2, d3] => { results := [.lit (.bool false)], args := [d1, d2, d3] }
  | _ => none }
def SectorTearsWrongFalsely : Prop := sectorTearsRow.holds Try.pinned (OpenSpec.ofChange sectorTearsWrong)

/-- 'entrepotlaw03.SectorKeeps': WHATEVER THE INPUT: true; the input reads as it did. -/
def sectorKeepsSpec : ChangeSpec := { name := "sectorKeeps", fn := fun _ => fun
  | [d1, d2, d3] => { results := [.lit (.bool true)], args := [d1, d2, d3] }
  | _ => none }
def sectorKeepsRow : OpenClaim := { program := "yteiniahikhiadaa", sum := "a62434a70e057dc17c3f5a467b2c4e469d81f71c48edd79b583f1750ac78d65f", func := "entrepot/entrepotlaw03.SectorKeeps", spec := "sectorKeeps", inPlace := ["sync/atomic.AddInt64"], unfollowed := true, recurses := true, apart := false }
def SectorKeepsSaid : Prop := sectorKeepsRow.holds Try.pinned (OpenSpec.ofChange sectorKeepsSpec)

/-- ITS FALSE NEIGHBOUR: 'it returns false'. Refute it at one input. -/
def sectorKeepsWrong : ChangeSpec := { name := "sectorKeeps", fn := fun _ => fun
  | [d1, d2, d3] => { results := [.lit (.bool false)], args := [d1, d2, d3] }
  | _ => none }
def SectorKeepsWrongFalsely : Prop := sectorKeepsRow.holds Try.pinned (OpenSpec.ofChange sectorKeepsWrong)

/-- 'entrepotlaw03.SectorStops': WHATEVER THE INPUT: true; the input reads as it did. -/
def sectorStopsSpec : ChangeSpec := { name := "sectorStops", fn := fun _ => fun
  | [d] => { results := [.lit (.bool true)], args := [d] }
  | _ => none }
def sectorStopsRow : OpenClaim := { program := "yteiniahikhiadaa", sum := "a62434a70e057dc17c3f5a467b2c4e469d81f71c48edd79b583f1750ac78d65f", func := "entrepot/entrepotlaw03.SectorStops", spec := "sectorStops", inPlace := ["sync/atomic.AddInt64"], unfollowed := true, recurses := true, apart := false }
def SectorStopsSaid : Prop := sectorStopsRow.holds Try.pinned (OpenSpec.ofChange sectorStopsSpec)

/-- ITS FALSE NEIGHBOUR: 'it returns false'. Refute it at one input. -/
def sectorStopsWrong : ChangeSpec := { name := "sectorStops", fn := fun _ => fun
  | [d] => { results := [.lit (.bool false)], args := [d] }
  | _ => none }
def SectorStopsWrongFalsely : Prop := sectorStopsRow.holds Try.pinned (OpenSpec.ofChange sectorStopsWrong)

/-- 'entrepotlaw03.SectorDoes': WHATEVER THE INPUT: true; the input reads as it did. -/
def sectorDoesSpec : ChangeSpec := { name := "sectorDoes", fn := fun _ => fun
  | [d1, d2] => { results := [.lit (.bool true)], args := [d1, d2] }
  | _ => none }
def sectorDoesRow : OpenClaim := { program := "yteiniahikhiadaa", sum := "a62434a70e057dc17c3f5a467b2c4e469d81f71c48edd79b583f1750ac78d65f", func := "entrepot/entrepotlaw03.SectorDoes", spec := "sectorDoes", inPlace := ["sync/atomic.AddInt64", "sync/atomic.LoadInt64"], unfollowed := true, recurses := true, apart := false }
def SectorDoesSaid : Prop := sectorDoesRow.holds Try.pinned (OpenSpec.ofChange sectorDoesSpec)

/-- ITS FALSE NEIGHBOUR: 'it returns false'. Refute it at one input. -/
def sectorDoesWrong : ChangeSpec := { name := "sectorDoes", fn := fun _ => fun
  | [d1, d2] => { results := [.lit (.bool false)], args := [d1, d2] }
  | _ => none }
def SectorDoesWrongFalsely : Prop := sectorDoesRow.holds Try.pinned (OpenSpec.ofChange sectorDoesWrong)

/-- 'entrepotlaw03.SectorNobody': WHATEVER THE INPUT: true; the input reads as it did. -/
def sectorNobodySpec : ChangeSpec := { name := "sectorNobody", fn := fun _ => fun
  | [d] => { results := [.lit (.bool true)], args := [d] }
  | _ => none }
def sectorNobodyRow : OpenClaim := { program := "yteiniahikhiadaa", sum := "a62434a70e057dc17c3f5a467b2c4e469d81f71c48edd79b583f1750ac78d65f", func := "entrepot/entrepotlaw03.SectorNobody", spec := "sectorNobody", inPlace := ["sync/atomic.AddInt64", "sync/atomic.LoadInt64"], unfollowed := true, recurses := true, apart := false }
def SectorNobodySaid : Prop := sectorNobodyRow.holds Try.pinned (OpenSpec.ofChange sectorNobodySpec)

/-- ITS FALSE NEIGHBOUR: 'it returns false'. Refute it at one input. -/
def sectorNobodyWrong : ChangeSpec := { name := "sectorNobody", fn := fun _ => fun
  | [d] => { results := [.lit (.bool false)], args := [d] }
  | _ => none }
def SectorNobodyWrongFalsely : Prop := sectorNobodyRow.holds Try.pinned (OpenSpec.ofChange sectorNobodyWrong)

/-- 'entrepotlaw03.SectorCounts': WHATEVER THE INPUT: true; the input reads as it did. -/
def sectorCountsSpec : ChangeSpec := { name := "sectorCounts", fn := fun _ => fun
  | [d] => { results := [.lit (.bool true)], args := [d] }
  | _ => none }
def sectorCountsRow : OpenClaim := { program := "yteiniahikhiadaa", sum := "a62434a70e057dc17c3f5a467b2c4e469d81f71c48edd79b583f1750ac78d65f", func := "entrepot/entrepotlaw03.SectorCounts", spec := "sectorCounts", inPlace := ["sync/atomic.AddInt64", "sync/atomic.LoadInt64"], unfollowed := true, recurses := true, apart := false }
def SectorCountsSaid : Prop := sectorCountsRow.holds Try.pinned (OpenSpec.ofChange sectorCountsSpec)

/-- ITS FALSE NEIGHBOUR: 'it returns false'. Refute it at one input. -/
def sectorCountsWrong : ChangeSpec := { name := "sectorCounts", fn := fun _ => fun
  | [d] => { results := [.lit (.bool false)], args := [d] }
  | _ => none }
def SectorCountsWrongFalsely : Prop := sectorCountsRow.holds Try.pinned (OpenSpec.ofChange sectorCountsWrong)

/- THE SECOND FORM. 'bulk': how many values and letters a reading holds, each counted each time it is reached (what is shared counts as often as it is met; a slice's spare places count too). A statement '..UptoSaid' is the law's where the arguments, and the package variables that the reading takes, are together of bulk at most 1048576: NARROWER than '..Said'. Prove '..Said' where nothing that the law and all that it calls make is longer than what came in: it says more and counts as full. Else prove '..UptoSaid'. A law counts once. -/
mutual
def uptoBulk {H : Type} : DataW H → Nat
  | .lit (.string bytes) => bytes.length + 1
  | .lit _ => 1
  | .nil => 1
  | .ptr d => uptoBulk d + 1
  | .slice elems spare => uptoBulkAll elems + uptoBulkAll spare + 1
  | .agg parts => uptoBulkAll parts + 1
  | .iface _ d => uptoBulk d + 1
  | .map entries => uptoBulkEntries entries + 1
  | .held _ => 1
def uptoBulkAll {H : Type} : List (DataW H) → Nat
  | [] => 0
  | d :: r => uptoBulk d + uptoBulkAll r
def uptoBulkEntries {H : Type} : List (Lit × DataW H) → Nat
  | [] => 0
  | x :: r => uptoBulkEntry x + uptoBulkEntries r
def uptoBulkEntry {H : Type} : Lit × DataW H → Nat
  | (.string bytes, d) => bytes.length + uptoBulk d + 1
  | (_, d) => uptoBulk d + 1
 end
def uptoSmall : (H : Type) → List (DataW H) → Bool := fun _ ds => decide (uptoBulkAll ds ≤ 1048576)
def OpenSpec.upto (s : _root_.Go.ChangeSpec) : _root_.Go.OpenSpec := { _root_.Go.OpenSpec.ofChange s with cond := some uptoSmall }

/-- 'entrepotlaw04.WalRooms', WHERE WHAT IT READS IS OF BULK AT MOST 1048576: true; the input reads as it did. -/
def walRoomsUptoRow : OpenClaim := { program := "yteiniahikhiadaa", sum := "a62434a70e057dc17c3f5a467b2c4e469d81f71c48edd79b583f1750ac78d65f", func := "entrepot/entrepotlaw04.WalRooms", spec := "walRooms", inPlace := ["sync/atomic.AddInt64"], unfollowed := true, recurses := true, apart := false, narrowed := true }
def WalRoomsUptoSaid : Prop := walRoomsUptoRow.holds Try.pinned (OpenSpec.upto walRoomsSpec)

/-- 'entrepotlaw04.WalAgain', WHERE WHAT IT READS IS OF BULK AT MOST 1048576: true; the input reads as it did. -/
def walAgainUptoRow : OpenClaim := { program := "yteiniahikhiadaa", sum := "a62434a70e057dc17c3f5a467b2c4e469d81f71c48edd79b583f1750ac78d65f", func := "entrepot/entrepotlaw04.WalAgain", spec := "walAgain", inPlace := ["sync/atomic.AddInt64"], unfollowed := true, recurses := true, apart := false, narrowed := true }
def WalAgainUptoSaid : Prop := walAgainUptoRow.holds Try.pinned (OpenSpec.upto walAgainSpec)

/-- 'entrepotlaw04.WalNobody', WHERE WHAT IT READS IS OF BULK AT MOST 1048576: true; the input reads as it did. -/
def walNobodyUptoRow : OpenClaim := { program := "yteiniahikhiadaa", sum := "a62434a70e057dc17c3f5a467b2c4e469d81f71c48edd79b583f1750ac78d65f", func := "entrepot/entrepotlaw04.WalNobody", spec := "walNobody", inPlace := ["sync/atomic.AddInt64"], unfollowed := true, recurses := true, apart := false, narrowed := true }
def WalNobodyUptoSaid : Prop := walNobodyUptoRow.holds Try.pinned (OpenSpec.upto walNobodySpec)

/-- 'entrepotlaw04.WalDoes', WHERE WHAT IT READS IS OF BULK AT MOST 1048576: true; the input reads as it did. -/
def walDoesUptoRow : OpenClaim := { program := "yteiniahikhiadaa", sum := "a62434a70e057dc17c3f5a467b2c4e469d81f71c48edd79b583f1750ac78d65f", func := "entrepot/entrepotlaw04.WalDoes", spec := "walDoes", inPlace := ["sync/atomic.AddInt64"], unfollowed := true, recurses := true, apart := false, narrowed := true }
def WalDoesUptoSaid : Prop := walDoesUptoRow.holds Try.pinned (OpenSpec.upto walDoesSpec)

/-- 'entrepotlaw03.SectorTears', WHERE WHAT IT READS IS OF BULK AT MOST 1048576: true; the input reads as it did. -/
def sectorTearsUptoRow : OpenClaim := { program := "yteiniahikhiadaa", sum := "a62434a70e057dc17c3f5a467b2c4e469d81f71c48edd79b583f1750ac78d65f", func := "entrepot/entrepotlaw03.SectorTears", spec := "sectorTears", inPlace := ["sync/atomic.AddInt64"], unfollowed := true, recurses := true, apart := false, narrowed := true }
def SectorTearsUptoSaid : Prop := sectorTearsUptoRow.holds Try.pinned (OpenSpec.upto sectorTearsSpec)

/-- 'entrepotlaw03.SectorKeeps', WHERE WHAT IT READS IS OF BULK AT MOST 1048576: true; the input reads as it did. -/
def sectorKeepsUptoRow : OpenClaim := { program := "yteiniahikhiadaa", sum := "a62434a70e057dc17c3f5a467b2c4e469d81f71c48edd79b583f1750ac78d65f", func := "entrepot/entrepotlaw03.SectorKeeps", spec := "sectorKeeps", inPlace := ["sync/atomic.AddInt64"], unfollowed := true, recurses := true, apart := false, narrowed := true }
def SectorKeepsUptoSaid : Prop := sectorKeepsUptoRow.holds Try.pinned (OpenSpec.upto sectorKeepsSpec)

/-- 'entrepotlaw03.SectorStops', WHERE WHAT IT READS IS OF BULK AT MOST 1048576: true; the input reads as it did. -/
def sectorStopsUptoRow : OpenClaim := { program := "yteiniahikhiadaa", sum := "a62434a70e057dc17c3f5a467b2c4e469d81f71c48edd79b583f1750ac78d65f", func := "entrepot/entrepotlaw03.SectorStops", spec := "sectorStops", inPlace := ["sync/atomic.AddInt64"], unfollowed := true, recurses := true, apart := false, narrowed := true }
def SectorStopsUptoSaid : Prop := sectorStopsUptoRow.holds Try.pinned (OpenSpec.upto sectorStopsSpec)

/-- 'entrepotlaw03.SectorDoes', WHERE WHAT IT READS IS OF BULK AT MOST 1048576: true; the input reads as it did. -/
def sectorDoesUptoRow : OpenClaim := { program := "yteiniahikhiadaa", sum := "a62434a70e057dc17c3f5a467b2c4e469d81f71c48edd79b583f1750ac78d65f", func := "entrepot/entrepotlaw03.SectorDoes", spec := "sectorDoes", inPlace := ["sync/atomic.AddInt64", "sync/atomic.LoadInt64"], unfollowed := true, recurses := true, apart := false, narrowed := true }
def SectorDoesUptoSaid : Prop := sectorDoesUptoRow.holds Try.pinned (OpenSpec.upto sectorDoesSpec)

/-- 'entrepotlaw03.SectorNobody', WHERE WHAT IT READS IS OF BULK AT MOST 1048576: true; the input reads as it did. -/
def sectorNobodyUptoRow : OpenClaim := { program := "yteiniahikhiadaa", sum := "a62434a70e057dc17c3f5a467b2c4e469d81f71c48edd79b583f1750ac78d65f", func := "entrepot/entrepotlaw03.SectorNobody", spec := "sectorNobody", inPlace := ["sync/atomic.AddInt64", "sync/atomic.LoadInt64"], unfollowed := true, recurses := true, apart := false, narrowed := true }
def SectorNobodyUptoSaid : Prop := sectorNobodyUptoRow.holds Try.pinned (OpenSpec.upto sectorNobodySpec)

/-- 'entrepotlaw03.SectorCounts', WHERE WHAT IT READS IS OF BULK AT MOST 1048576: true; the input reads as it did. -/
def sectorCountsUptoRow : OpenClaim := { program := "yteiniahikhiadaa", sum := "a62434a70e057dc17c3f5a467b2c4e469d81f71c48edd79b583f1750ac78d65f", func := "entrepot/entrepotlaw03.SectorCounts", spec := "sectorCounts", inPlace := ["sync/atomic.AddInt64", "sync/atomic.LoadInt64"], unfollowed := true, recurses := true, apart := false, narrowed := true }
def SectorCountsUptoSaid : Prop := sectorCountsUptoRow.holds Try.pinned (OpenSpec.upto sectorCountsSpec)

end Rows
end Go.Proofs.Yteiniahikhiadaa
