/-
  life: the walks of Name, Named, Behind, and of the reference's Name, Behind, In.
-/
import Derived.Test.YteiniahikhiadaaRows
import Derived.WalkKit
import Derived.WalkSpells
import Derived.WalkLawsBesides
import Derived.Lib.Hide
namespace Go.Proofs.Yteiniahikhiadaa
open Go.RowKit
namespace Life

def nameOf (n : Int) : ByteArray :=
  if n = 1 then ⟨#[97, 115, 107, 105, 110, 103]⟩ else if n = 2 then ⟨#[104, 101, 108, 100]⟩ else if n = 3 then ⟨#[119, 97, 105, 116, 105, 110, 103]⟩
  else if n = 4 then ⟨#[117, 110, 100, 111, 105, 110, 103]⟩ else if n = 5 then ⟨#[114, 101, 102, 117, 115, 101, 100]⟩ else if n = 6 then ⟨#[103, 111, 110, 101]⟩
  else if n = 7 then ⟨#[112, 105, 99, 107, 105, 110, 103]⟩ else if n = 8 then ⟨#[112, 105, 99, 107, 101, 100]⟩ else if n = 9 then ⟨#[115, 104, 105, 112, 112, 105, 110, 103]⟩
  else if n = 10 then ⟨#[115, 104, 105, 112, 112, 101, 100]⟩ else ⟨#[]⟩

def behind (n : Int) : List Int :=
  if n = 1 then [1, 2, 3, 4, 5, 6] else if n = 2 then [4, 7] else if n = 3 then [1, 6] else if n = 4 then [3, 4, 5, 6] else if n = 7 then [7, 8] else if n = 8 then [9] else if n = 9 then [9, 10] else []

theorem nameOf_out (n : Int) (h : n < 1 ∨ 10 < n) : nameOf n = ⟨#[]⟩ := by
  unfold nameOf
  repeat (rw [if_neg (by omega)])

theorem ten {n : Int} (h1 : 1 ≤ n) (h2 : n ≤ 10) : n = 1 ∨ n = 2 ∨ n = 3 ∨ n = 4 ∨ n = 5 ∨ n = 6 ∨ n = 7 ∨ n = 8 ∨ n = 9 ∨ n = 10 := by omega

end Life
end Go.Proofs.Yteiniahikhiadaa
