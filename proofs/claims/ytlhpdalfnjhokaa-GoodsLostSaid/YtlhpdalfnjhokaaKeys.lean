/-
  slices.Sorted(maps.Keys(m)): the keys of a map with string keys, sorted, by the library's contracts.
-/
import Derived.Test.YtlhpdalfnjhokaaLayed
import Derived.Test.YtlhpdalfnjhokaaMaps
namespace Go.Proofs.Ytlhpdalfnjhokaa
open Go.RowKit Go.Maps Go.Sort Go.Shelf
namespace Ks

theorem sorts (m : Nat) : AnyZ.SortsIn Try.prog Try.sorted27_ren Fence.wide m :=
  ⟨fun blk off cap ss W hH hblk hsz => callsIn_wide.2 (AnyM.slices_Sort_string Try.sort48 blk off cap ss W hH hblk hsz),
   fun p cap W => callsIn_wide.2 (AnyM.slices_Sort_string_none Try.sort48 p cap W)⟩

end Ks
end Go.Proofs.Ytlhpdalfnjhokaa
