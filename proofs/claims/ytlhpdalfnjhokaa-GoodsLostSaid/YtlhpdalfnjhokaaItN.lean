/-
  items: what lives says.
-/
import Derived.Test.YtlhpdalfnjhokaaItM
namespace Go.Proofs.Ytlhpdalfnjhokaa
open Go.RowKit Go.Maps
namespace It

def sa : ByteArray := ⟨#[97]⟩
def sb : ByteArray := ⟨#[98]⟩
def sc : ByteArray := ⟨#[99]⟩
def la : List Item := [(sa, 3), (sb, 2)]
def lb : List Item := [(sa, 1), (sc, 5)]
theorem l_meet : both meetF la lb = [(sa, 1)] := by kernel_rfl
theorem l_rest : both restF la lb = [(sa, 2), (sb, 2)] := by kernel_rfl
theorem l_plus : plusOf la lb = ([(sa, 4), (sb, 2), (sc, 5)], 0) := by kernel_rfl
theorem l_minus : minusOf la lb = ([], 51) := by kernel_rfl
theorem l_covers : covers la [(sa, 1)] = true := by kernel_rfl
theorem l_of : ofSum sb la = 2 := by kernel_rfl
theorem l_may : may la = true := by kernel_rfl
theorem fitsA : Fits la := by
  intro x hx
  simp only [la, List.mem_cons, List.not_mem_nil, or_false] at hx
  rcases hx with rfl | rfl <;> exact ⟨by simp [sa, sb, ByteArray.size, maxLen], by omega, by omega⟩
theorem fitsB : Fits lb := by
  intro x hx
  simp only [lb, List.mem_cons, List.not_mem_nil, or_false] at hx
  rcases hx with rfl | rfl <;> exact ⟨by simp [sa, sc, ByteArray.size, maxLen], by omega, by omega⟩
theorem fitsM : Fits [(sa, 1)] := by
  intro x hx
  simp only [List.mem_cons, List.not_mem_nil, or_false] at hx
  rcases hx with rfl
  exact ⟨by simp [sa, ByteArray.size, maxLen], by omega, by omega⟩

theorem neq_nil (b : Nat) (w : World) : (binOp .neq 90 (.func (.func 60) #[] #[.pointer (some ⟨b, 0, none⟩)]) .nilFunc).run Try.prog w = .ok (.bool true) w := by kernel_rfl

end It
end Go.Proofs.Ytlhpdalfnjhokaa
