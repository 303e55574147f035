/-
  items: the walk of Plus.
-/
import Derived.Test.YtdbkkldgobkjcaaCatI
namespace Go.Proofs.Ytdbkkldgobkjcaa
open Go.RowKit Go.Maps
namespace It

def plusOf (a b : List Item) : List Item × Int := if may a && may b then normRes (a ++ b) else ([], 60)
theorem may_len {l : List Item} (h : may l = true) : l.length ≤ 16 := by
  unfold may at h
  rw [Bool.and_eq_true, decide_eq_true_iff] at h
  exact h.2
theorem Fits.append {a b : List Item} (ha : Fits a) (hb : Fits b) : Fits (a ++ b) := fun x hx => (List.mem_append.1 hx).elim (ha x) (hb x)

set_option maxRecDepth 100000 in
set_option maxHeartbeats 2000000 in
theorem plus_calls (a b : List Item) (va vb : Value) (w : World) (ha : ItemsAt w 0 w.heap.size va a) (hb : ItemsAt w 0 w.heap.size vb b) (hFa : Fits a) (hFb : Fits b) :
    Calls Try.prog 45 #[va, vb] w fun e w' =>
      (∃ v, e = .returned (.tuple #[v, .int .i64 (plusOf a b).2]) ∧ w'.ownsRow w.heap.size 36 2 v (plusOf a b).1.length (itemCells (plusOf a b).1)) ∧ Below w.heap.size w w' := by
  have cA := Lib.hid (fun W hI => may_calls a va W hI hFa)
  have cB := Lib.hid (fun W hI => may_calls b vb W hI hFb)
  have HM := Lib.hid (show plusOf a b = if may a && may b then normRes (a ++ b) else ([], 60) from rfl)
  have hla := Lib.hid (fun h => may_len (l := a) h)
  have hlb := Lib.hid (fun h => may_len (l := b) h)
  have cN := Lib.hid (fun v W hI hl => norm_calls (a ++ b) v W hI (hFa.append hFb) hl)
  obtain ⟨A, c, rfl, hc1, hc2⟩ := ha.form
  obtain ⟨A', c', rfl, hc1', hc2'⟩ := hb.form
  have cC := Lib.hid (fun bk W h1 h2 h3 h4 => CatI.concat_calls [(A, a.length, c, itemCells a), (A', b.length, c', itemCells b)] bk 2 W (Nat.le_refl _) (by unfold maxLen; omega) h1 h2 h3 h4)
  generalize plusOf a b = M at *
  generalize normRes (a ++ b) = R at *
  generalize hma : may a = ma at *
  generalize hmb : may b = mb at *
  go_enter Try.func45, Try.ntmps45
  go_wp2_with fail
  refine (cA.out _ ha).mono ?_
  rintro e w1 ⟨rfl, h1⟩
  have hb1 := hb.mono h1 h1.size
  have ha1 := ha.mono h1 h1.size
  cases ma with
  | false =>
    obtain rfl : M = ([], 60) := by rw [HM.out]; rfl
    go_wp2_with fail
    go_ret2
    exact ⟨⟨_, rfl, World.ownsRow_nil _ _ _ _⟩, h1⟩
  | true =>
    go_wp2_with fail
    refine (cB.out _ hb1).mono ?_
    rintro e w2 ⟨rfl, h2⟩
    have hb2 := hb1.mono h2 h2.size
    have ha2 := ha1.mono h2 h2.size
    have hB2 := h1.trans (h2.mono h1.size)
    cases mb with
    | false =>
      obtain rfl : M = ([], 60) := by rw [HM.out]; rfl
      go_wp2_with fail
      go_ret2
      exact ⟨⟨_, rfl, World.ownsRow_nil _ _ _ _⟩, hB2⟩
    | true =>
      obtain rfl : M = R := by rw [HM.out]; rfl
      have h16 := hla.out trivial
      have h16' := hlb.out rfl
      go_wp2_with fail
      have hB3 := hB2.alloc hB2.size (.cells #[.slice A a.length c, .slice A' b.length c'] 30)
      have ha3 := ha2.mono ((Below.refl _ w2).alloc (Nat.le_refl _) (.cells #[.slice A a.length c, .slice A' b.length c'] 30)) (B' := (w2.alloc (.cells #[.slice A a.length c, .slice A' b.length c'] 30)).heap.size) (by simp)
      have hb3 := hb2.mono ((Below.refl _ w2).alloc (Nat.le_refl _) (.cells #[.slice A a.length c, .slice A' b.length c'] 30)) (B' := (w2.alloc (.cells #[.slice A a.length c, .slice A' b.length c'] 30)).heap.size) (by simp)
      have hbk : w2.heap.size < (w2.alloc (.cells #[.slice A a.length c, .slice A' b.length c'] 30)).heap.size := by simp
      have hcell : ∀ j (h : j < 2), (w2.alloc (.cells #[.slice A a.length c, .slice A' b.length c'] 30)).cell? ⟨w2.heap.size, j, none⟩ = some (CatI.pv [((A, a.length, c, itemCells a) : CatI.Part), (A', b.length, c', itemCells b)][j]) := by
        intro j h
        unfold World.cell?
        rw [heap_alloc_new]
        match j, h with
        | 0, _ => rfl
        | 1, _ => rfl
      generalize w2.alloc (.cells #[.slice A a.length c, .slice A' b.length c'] 30) = w3 at *
      refine (cC.out _ w3 hbk hcell ⟨?_, ?_⟩ (by simp [CatI.lens]; omega)).mono ?_
      · intro p hp
        simp only [List.mem_cons, List.not_mem_nil, or_false] at hp
        rcases hp with rfl | rfl
        · exact ha3
        · exact hb3
      · intro p hp
        simp only [List.mem_cons, List.not_mem_nil, or_false] at hp
        rcases hp with rfl | rfl
        · exact itemCells_one a
        · exact itemCells_one b
      rintro e w4 ⟨⟨v, rfl, hv⟩, h4⟩
      have hv2 : w4.ownsRow w3.heap.size 36 2 v (a ++ b).length (itemCells (a ++ b)) := by
        have e1 : CatI.lens [(A, a.length, c, itemCells a), (A', b.length, c', itemCells b)] = (a ++ b).length := by simp [CatI.lens]
        have e2 : CatI.all [(A, a.length, c, itemCells a), (A', b.length, c', itemCells b)] = itemCells (a ++ b) := by simp [CatI.all, itemCells_append]
        rw [← e1, ← e2]; exact hv
      have hI4 := (ItemsAt.of_own hv2).wide (lo' := 0) (Nat.zero_le _) (Nat.le_refl _)
      have hB4 := hB3.trans (h4.mono hB3.size)
      go_wp2_with fail
      refine (cN.out v w4 hI4 (by simp; omega)).mono ?_
      rintro e w5 ⟨⟨u, rfl, hu⟩, h5⟩
      go_wp2_with fail
      go_ret2
      exact ⟨⟨_, rfl, ownsRow_wide hu hB4.size⟩, hB4.trans (h5.mono hB4.size)⟩
end It
end Go.Proofs.Ytdbkkldgobkjcaa
