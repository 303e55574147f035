/-
  items: lists in order of their goods, in plain words.
-/
import Derived.Test.YtlhpdalfnjhokaaItI
namespace Go.Proofs.Ytlhpdalfnjhokaa
open Go.RowKit Go.Maps
namespace It

theorem uniq {α : Type} {r : α → α → Prop} (irr : ∀ x, ¬ r x x) (asy : ∀ x y, r x y → ¬ r y x) : ∀ {a b : List α}, a.Pairwise r → b.Pairwise r → (∀ x, x ∈ a ↔ x ∈ b) → a = b
  | [], [], _, _, _ => rfl
  | [], y :: b, _, _, h => by have := (h y).2 (by simp); simp at this
  | x :: a, [], _, _, h => by have := (h x).1 (by simp); simp at this
  | x :: a, y :: b, ha, hb, h => by
    rw [List.pairwise_cons] at ha hb
    have e : x = y := by
      rcases List.mem_cons.1 ((h x).1 (by simp)) with e | h1
      · exact e
      · rcases List.mem_cons.1 ((h y).2 (by simp)) with e | h2
        · exact e.symm
        · exact absurd (hb.1 x h1) (asy _ _ (ha.1 y h2))
    subst e
    rw [uniq irr asy ha.2 hb.2 fun z => ?_]
    constructor
    · intro hz
      rcases List.mem_cons.1 ((h z).1 (List.mem_cons_of_mem _ hz)) with rfl | h1
      · exact absurd (ha.1 _ hz) (irr _)
      · exact h1
    · intro hz
      rcases List.mem_cons.1 ((h z).2 (List.mem_cons_of_mem _ hz)) with rfl | h1
      · exact absurd (hb.1 _ hz) (irr _)
      · exact h1

abbrev Bs := List UInt8
theorem bs_irr (x : Bs) : ¬ x < x := List.lt_irrefl x
theorem bs_asy (x y : Bs) (h : x < y) : ¬ y < x := List.lt_asymm h
theorem bs_tri (x y : Bs) : x < y ∨ x = y ∨ y < x := by
  by_cases h1 : x < y
  · exact .inl h1
  · by_cases h2 : y < x
    · exact .inr (.inr h2)
    · exact .inr (.inl (List.le_antisymm (List.not_lt.1 h2) (List.not_lt.1 h1)))
theorem less_eq : ∀ (x y : Bs), Op.bytesLess x y = decide (x < y)
  | [], [] => by simp [Op.bytesLess]
  | [], _ :: _ => by simp [Op.bytesLess]
  | _ :: _, [] => by simp [Op.bytesLess]
  | a :: x, b :: y => by
    rw [Op.bytesLess, less_eq x y, Bool.eq_iff_iff]
    simp only [List.cons_lt_cons_iff]
    by_cases h1 : a < b
    · simp [h1]
    · by_cases h2 : a = b
      · subst h2; simp
      · simp [h1, h2]

def insK (k : Bs) : List Bs → List Bs
  | [] => [k]
  | y :: r => if k < y then k :: y :: r else if k = y then y :: r else y :: insK k r
def ksOf (l : List Bs) : List Bs := l.foldr insK []
theorem insK_mem (k : Bs) : ∀ (l : List Bs) (x : Bs), x ∈ insK k l ↔ x = k ∨ x ∈ l
  | [], x => by simp [insK]
  | y :: r, x => by
    unfold insK
    split
    · simp
    · split
      · rename_i h; subst h; simp
      · simp only [List.mem_cons, insK_mem k r x]
        constructor
        · rintro (h | h | h) <;> simp [h]
        · rintro (h | h | h) <;> simp [h]
theorem insK_sorted (k : Bs) : ∀ {l : List Bs}, l.Pairwise (· < ·) → (insK k l).Pairwise (· < ·)
  | [], _ => by simp [insK]
  | y :: r, h => by
    have h' := List.pairwise_cons.1 h
    unfold insK
    split
    · rename_i hk
      refine List.pairwise_cons.2 ⟨fun x hx => ?_, h⟩
      rcases List.mem_cons.1 hx with rfl | hx
      · exact hk
      · exact List.lt_trans hk (h'.1 x hx)
    · split
      · exact h
      · rename_i h1 h2
        refine List.pairwise_cons.2 ⟨fun x hx => ?_, insK_sorted k h'.2⟩
        rcases (insK_mem k r x).1 hx with rfl | hx
        · rcases bs_tri x y with h | h | h
          · exact absurd h h1
          · exact absurd h h2
          · exact h
        · exact h'.1 x hx
theorem ksOf_mem (l : List Bs) (x : Bs) : x ∈ ksOf l ↔ x ∈ l := by
  induction l with
  | nil => simp [ksOf]
  | cons y l ih => unfold ksOf at ih ⊢; rw [List.foldr_cons, insK_mem, ih]; simp
theorem ksOf_sorted (l : List Bs) : (ksOf l).Pairwise (· < ·) := by
  induction l with
  | nil => simp [ksOf]
  | cons y l ih => unfold ksOf at ih ⊢; rw [List.foldr_cons]; exact insK_sorted _ ih

/-- each good once, in order, with what there is of it in all, where that is above 0 -/
def pick (L : List Item) (k : Bs) : Option Item := if 0 < tot k L then some (⟨k.toArray⟩, tot k L) else none
def normL (L : List Item) : List Item := (ksOf (L.map key)).filterMap (pick L)
theorem key_mk (k : Bs) (n : Int) : key (⟨k.toArray⟩, n) = k := by simp [key]
theorem item_eta (x : Item) : x = (⟨(key x).toArray⟩, x.2) := by
  obtain ⟨⟨⟨s⟩⟩, n⟩ := x
  rfl
structure IsNorm (L out : List Item) : Prop where
  sorted : out.Pairwise fun a b => key a < key b
  has : ∀ x, x ∈ out ↔ (key x ∈ L.map key ∧ x.2 = tot (key x) L ∧ 0 < x.2)
theorem pick_some {L : List Item} {k : Bs} {x : Item} (h : pick L k = some x) : key x = k ∧ x.2 = tot k L ∧ 0 < x.2 := by
  unfold pick at h
  split at h
  · cases h; exact ⟨key_mk _ _, rfl, by assumption⟩
  · cases h
theorem isNorm_normL (L : List Item) : IsNorm L (normL L) := by
  refine ⟨?_, fun x => ?_⟩
  · unfold normL
    rw [List.pairwise_filterMap]
    refine (ksOf_sorted (L.map key)).imp_of_mem fun {a b} _ _ h x hx y hy => ?_
    rw [(pick_some hx).1, (pick_some hy).1]
    exact h
  · unfold normL
    rw [List.mem_filterMap]
    constructor
    · rintro ⟨k, hk, hx⟩
      obtain ⟨rfl, h2, h3⟩ := pick_some hx
      exact ⟨(ksOf_mem _ _).1 hk, h2, h3⟩
    · rintro ⟨h1, h2, h3⟩
      refine ⟨key x, (ksOf_mem _ _).2 h1, ?_⟩
      unfold pick
      rw [← h2, if_pos h3, ← item_eta]
theorem IsNorm.unique {L a b : List Item} (ha : IsNorm L a) (hb : IsNorm L b) : a = b :=
  uniq (r := fun a b : Item => key a < key b) (fun _ => bs_irr _) (fun _ _ => bs_asy _ _) ha.sorted hb.sorted fun x => by rw [ha.has, hb.has]
/-- the normal list, and why there is none -/
def normRes (L : List Item) : List Item × Int := if sumsCode L = 0 then (if (normL L).length ≤ 16 then (normL L, 0) else ([], 3)) else ([], sumsCode L)
end It
end Go.Proofs.Ytlhpdalfnjhokaa
