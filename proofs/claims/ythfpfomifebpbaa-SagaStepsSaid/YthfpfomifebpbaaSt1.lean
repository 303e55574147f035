/-
  the document's answers on items: put.
  the document's answers on items: Norm.
  items: what the law's walk collects.
  items: what the laws Order, Parts and Walks say is true.
  saga: the document's Split, Missing.
  saga: plain laws of what is missing.
  saga: what an event's steps are.
  saga: the law SagaSteps.
  the row SagaSteps.
-/
import Derived.Test.YthfpfomifebpbaaSs5
import Derived.Test.YthfpfomifebpbaaSs4
import Derived.Laws.OwnMore
import Derived.Deep.AppendLies
import Derived.Test.YthfpfomifebpbaaSs7

set_option linter.unusedVariables false
set_option linter.unusedSimpArgs false
namespace Go.Proofs.Ythfpfomifebpbaa
open Go.RowKit Go.Maps
namespace It

def putL (g : ByteArray) (n : Int) : List Item → List Item
  | [] => [(g, n)]
  | x :: r => if key x < g.data.toList then x :: putL g n r else if key x = g.data.toList then (x.1, n) :: r else (g, n) :: x :: r
theorem putL_new (g : ByteArray) (n : Int) : ∀ (l : List Item) (j : Nat), (∀ i (h : i < l.length), i < j → key l[i] < g.data.toList) → j ≤ l.length → (∀ h : j < l.length, ¬ key l[j] < g.data.toList ∧ key l[j] ≠ g.data.toList) →
    putL g n l = l.take j ++ [(g, n)] ++ l.drop j
  | [], j, _, hj, _ => by simp at hj; subst hj; rfl
  | x :: r, 0, _, _, h => by
    have := h (by simp)
    simp only [List.getElem_cons_zero] at this
    simp [putL, this.1, this.2]
  | x :: r, j + 1, h1, hj, h => by
    have h0 := h1 0 (by simp) (by omega)
    simp only [List.getElem_cons_zero] at h0
    unfold putL
    rw [if_pos h0, putL_new g n r j (fun i hi hij => h1 (i + 1) (by simpa using hi) (by omega)) (by simpa using hj) (fun hh => h (by simpa using hh))]
    rfl
theorem putL_set (g : ByteArray) (n : Int) : ∀ (l : List Item) (j : Nat), (∀ i (h : i < l.length), i < j → key l[i] < g.data.toList) → (h : j < l.length) → key l[j] = g.data.toList →
    putL g n l = l.set j (l[j].1, n)
  | [], j, _, hj, _ => absurd hj (by simp)
  | x :: r, 0, _, _, h => by
    simp only [List.getElem_cons_zero] at h
    unfold putL
    rw [if_neg (by rw [h]; exact bs_irr _), if_pos h]
    rfl
  | x :: r, j + 1, h1, hj, h => by
    have h0 := h1 0 (by simp) (by omega)
    simp only [List.getElem_cons_zero] at h0
    unfold putL
    rw [if_pos h0, putL_set g n r j (fun i hi hij => h1 (i + 1) (by simpa using hi) (by omega)) (by simpa using hj) (by simpa using h)]
    rfl
theorem putL_len (g : ByteArray) (n : Int) : ∀ l : List Item, (putL g n l).length ≤ l.length + 1
  | [] => by simp [putL]
  | x :: r => by
    unfold putL
    split
    · have := putL_len g n r; simp; omega
    · split <;> simp
theorem putL_mem (g : ByteArray) (n : Int) (x : Item) : ∀ l : List Item, l.Pairwise (fun a b => key a < key b) → (x ∈ putL g n l ↔ x = (g, n) ∨ (x ∈ l ∧ key x ≠ g.data.toList))
  | [], _ => by simp [putL]
  | y :: r, h => by
    have h' := List.pairwise_cons.1 h
    have hg : key ((g, n) : Item) = g.data.toList := rfl
    unfold putL
    split
    · rename_i hy
      have hne : key y ≠ g.data.toList := fun e => by rw [e] at hy; exact bs_irr _ hy
      rw [List.mem_cons, putL_mem g n x r h'.2, List.mem_cons]
      constructor
      · rintro (rfl | h | h)
        · exact .inr ⟨.inl rfl, hne⟩
        · exact .inl h
        · exact .inr ⟨.inr h.1, h.2⟩
      · rintro (h | ⟨rfl | h, h2⟩)
        · exact .inr (.inl h)
        · exact .inl rfl
        · exact .inr (.inr ⟨h, h2⟩)
    · have hr : ∀ z ∈ r, key z ≠ g.data.toList ∨ key y < g.data.toList := fun z hz => by
        by_cases hy : key y < g.data.toList
        · exact .inr hy
        · refine .inl fun e => hy ?_
          have := h'.1 z hz
          rwa [e] at this
      rename_i hy
      split
      · rename_i he
        have e1 : ((y.1, n) : Item) = (g, n) := key_item _ _ (show key y = key ((g, n) : Item) from he) rfl
        rw [e1, List.mem_cons, List.mem_cons]
        constructor
        · rintro (h | h)
          · exact .inl h
          · exact .inr ⟨.inr h, (hr x h).resolve_right hy⟩
        · rintro (h | ⟨rfl | h, h2⟩)
          · exact .inl h
          · exact absurd he h2
          · exact .inr h
      · rename_i he
        rw [List.mem_cons, List.mem_cons]
        constructor
        · rintro (h | rfl | h)
          · exact .inl h
          · exact .inr ⟨.inl rfl, he⟩
          · exact .inr ⟨.inr h, (hr x h).resolve_right hy⟩
        · rintro (h | ⟨rfl | h, h2⟩)
          · exact .inl h
          · exact .inr (.inl rfl)
          · exact .inr (.inr h)
theorem putL_sorted (g : ByteArray) (n : Int) : ∀ l : List Item, l.Pairwise (fun a b => key a < key b) → (putL g n l).Pairwise (fun a b => key a < key b)
  | [], _ => by simp [putL]
  | y :: r, h => by
    have h' := List.pairwise_cons.1 h
    unfold putL
    split
    · rename_i hy
      refine List.pairwise_cons.2 ⟨fun z hz => ?_, putL_sorted g n r h'.2⟩
      rcases (putL_mem g n z r h'.2).1 hz with rfl | ⟨h1, _⟩
      · exact hy
      · exact h'.1 z h1
    · split
      · exact List.pairwise_cons.2 ⟨fun z hz => h'.1 z hz, h'.2⟩
      · rename_i h1 h2
        have hlt : g.data.toList < key y := by
          rcases bs_tri (key y) g.data.toList with h | h | h
          · exact absurd h h1
          · exact absurd h h2
          · exact h
        refine List.pairwise_cons.2 ⟨fun z hz => ?_, h⟩
        rcases List.mem_cons.1 hz with rfl | hz
        · exact hlt
        · exact List.lt_trans hlt (h'.1 z hz)

theorem itemCells_take (l : List Item) (k : Nat) : itemCells (l.take k) = (itemCells l).take (k * 2) := by
  induction l generalizing k with
  | nil => simp [itemCells]
  | cons x r ih =>
    cases k with
    | zero => simp [itemCells]
    | succ k =>
      have e : (k + 1) * 2 = k * 2 + 1 + 1 := by omega
      simp only [itemCells, List.take_succ_cons, List.flatMap_cons, List.cons_append, List.nil_append, e] at ih ⊢
      rw [ih]
theorem itemCells_drop (l : List Item) (k : Nat) : itemCells (l.drop k) = (itemCells l).drop (k * 2) := by
  induction l generalizing k with
  | nil => simp [itemCells]
  | cons x r ih =>
    cases k with
    | zero => simp [itemCells]
    | succ k =>
      have e : (k + 1) * 2 = k * 2 + 1 + 1 := by omega
      simp only [itemCells, List.flatMap_cons, List.cons_append, List.nil_append, e, List.drop_succ_cons] at ih ⊢
      rw [ih]
theorem itemCells_set (l : List Item) (j : Nat) (hj : j < l.length) (n : Int) : itemCells (l.set j (l[j].1, n)) = (itemCells l).set (j * 2 + 1) (.int .i64 n) := by
  induction l generalizing j with
  | nil => simp at hj
  | cons x r ih =>
    cases j with
    | zero => rfl
    | succ j =>
      have e : (j + 1) * 2 + 1 = j * 2 + 1 + 1 + 1 := by omega
      have := ih j (by simpa using hj)
      simp only [List.set_cons_succ, List.getElem_cons_succ, itemCells, List.flatMap_cons, List.cons_append, List.nil_append, e] at this ⊢
      rw [this]

end It
end Go.Proofs.Ythfpfomifebpbaa

namespace Go.Proofs.Ythfpfomifebpbaa
open Go.RowKit Go.Maps
namespace It

def outN (L : List Item) (i : Nat) : List Item := (ksOf ((L.take i).map key)).filterMap (pick L)
theorem outN_sorted (L : List Item) (i : Nat) : (outN L i).Pairwise fun a b => key a < key b := by
  unfold outN
  rw [List.pairwise_filterMap]
  refine (ksOf_sorted ((L.take i).map key)).imp_of_mem fun {a b} _ _ h x hx y hy => ?_
  rw [(pick_some hx).1, (pick_some hy).1]
  exact h
theorem outN_mem (L : List Item) (i : Nat) (x : Item) : x ∈ outN L i ↔ key x ∈ (L.take i).map key ∧ x.2 = tot (key x) L ∧ 0 < x.2 := by
  unfold outN
  rw [List.mem_filterMap]
  constructor
  · rintro ⟨k, hk, hx⟩
    obtain ⟨rfl, h2, h3⟩ := pick_some hx
    exact ⟨(ksOf_mem _ _).1 hk, h2, h3⟩
  · rintro ⟨h1, h2, h3⟩
    refine ⟨key x, (ksOf_mem _ _).2 h1, ?_⟩
    unfold pick
    rw [← h2, if_pos h3, ← item_eta]
theorem outN_len (L : List Item) (i : Nat) : (outN L i).length ≤ i := by
  refine Nat.le_trans (List.length_filterMap_le _ _) ?_
  have h : ∀ l : List Bs, (ksOf l).length ≤ l.length := by
    intro l
    induction l with
    | nil => simp [ksOf]
    | cons y l ih =>
      have hk : ∀ (k : Bs) (r : List Bs), (insK k r).length ≤ r.length + 1 := by
        intro k r
        induction r with
        | nil => simp [insK]
        | cons z r ih => unfold insK; split; · simp
                         split; · simp
                         simp only [List.length_cons]; omega
      have := hk y (ksOf l)
      unfold ksOf at ih this ⊢
      rw [List.foldr_cons, List.length_cons]
      omega
  refine Nat.le_trans (h _) ?_
  rw [List.length_map, List.length_take]
  omega
theorem outN_put {L : List Item} {i : Nat} (h : i < L.length) (ht : 0 < tot (key L[i]) L) : putL L[i].1 (tot (key L[i]) L) (outN L i) = outN L (i + 1) := by
  refine uniq (r := fun a b : Item => key a < key b) (fun _ => bs_irr _) (fun _ _ => bs_asy _ _) (putL_sorted _ _ _ (outN_sorted L i)) (outN_sorted L (i + 1)) fun x => ?_
  rw [putL_mem _ _ _ _ (outN_sorted L i), outN_mem, outN_mem, List.take_succ_eq_append_getElem h, List.map_append, List.mem_append, List.map_singleton, List.mem_singleton]
  have hk : L[i].1.data.toList = key L[i] := rfl
  rw [hk]
  constructor
  · rintro (rfl | ⟨⟨h1, h2, h3⟩, _⟩)
    · exact ⟨.inr rfl, rfl, ht⟩
    · exact ⟨.inl h1, h2, h3⟩
  · rintro ⟨h1, h2, h3⟩
    by_cases e : key x = key L[i]
    · left
      refine key_item _ _ e ?_
      rw [h2, e]
    · exact .inr ⟨⟨h1.resolve_right e, h2, h3⟩, e⟩
theorem outN_skip {L : List Item} {i : Nat} (h : i < L.length) (ht : ¬ 0 < tot (key L[i]) L) : outN L (i + 1) = outN L i := by
  refine uniq (r := fun a b : Item => key a < key b) (fun _ => bs_irr _) (fun _ _ => bs_asy _ _) (outN_sorted L (i + 1)) (outN_sorted L i) fun x => ?_
  rw [outN_mem, outN_mem, List.take_succ_eq_append_getElem h, List.map_append, List.mem_append, List.map_singleton, List.mem_singleton]
  constructor
  · rintro ⟨h1, h2, h3⟩
    refine ⟨h1.resolve_right fun e => ht ?_, h2, h3⟩
    rw [← e, ← h2]; exact h3
  · rintro ⟨h1, h2, h3⟩
    exact ⟨.inl h1, h2, h3⟩
theorem outN_all (L : List Item) : outN L L.length = normL L := by unfold outN normL; rw [List.take_length]
theorem tot_take_le {L : List Item} (h : L.all okC = true) (k : Bs) (j : Nat) : 0 ≤ tot k (L.take j) ∧ tot k (L.take j) ≤ tot k L := by
  have h1 : (L.take j).all okC = true := all_prefix (List.take_prefix _ _) h
  have h2 : (L.drop j).all okC = true := by
    rw [← List.take_append_drop j L, List.all_append, Bool.and_eq_true] at h
    exact h.2
  have h3 := tot_append k (L.take j) (L.drop j)
  rw [List.take_append_drop] at h3
  have := tot_nonneg k _ h1
  have := tot_nonneg k _ h2
  omega
theorem okC_false {L : List Item} {i : Nat} (h : i < L.length) (hf : okC L[i] = false) : L.all okC = false := by
  rw [List.all_eq_false]
  exact ⟨L[i], List.getElem_mem h, by simp [hf]⟩

theorem own_form {w : World} {lo : Nat} {e : TypeId} {size n : Nat} {v : Value} {xs : List Value} (h : w.ownsRow lo e size v n xs) : v = .slice none 0 0 ∨ ∃ b o n c, v = .slice (some ⟨b, o, none⟩) n c := by
  rcases h.2 with ⟨rfl, _⟩ | ⟨g, cap, cur, rfl, _⟩
  · rcases Nat.eq_zero_or_pos n with h0 | h0
    · exact .inl rfl
    · exact .inl rfl
  · exact .inr ⟨_, _, _, _, rfl⟩

end It
end Go.Proofs.Ythfpfomifebpbaa

namespace Go.Proofs.Ythfpfomifebpbaa
open Go.RowKit Go.Maps
namespace It
attribute [local go_sem] Oper.semAt_some

theorem eql_nil (b : Nat) (w : World) : (binOp .eql 95 (.func (.func 87) #[] #[.pointer (some ⟨b, 0, none⟩)]) .nilFunc).run Try.prog w = .ok (.bool false) w := by kernel_rfl

/-- how far a walk goes that stops at so many -/
def upTo (most : Int) (L : List Item) : List Item := if 1 ≤ most ∧ most ≤ L.length then L.take most.toNat else L

end It
end Go.Proofs.Ythfpfomifebpbaa

namespace Go.Proofs.Ythfpfomifebpbaa
open Go.RowKit Go.Maps
namespace It

set_option maxHeartbeats 400000 in
theorem refmeet_calls (a b : List Item) (va vb : Value) (w : World) (ha : ItemsAt w 0 w.heap.size va a) (hb : ItemsAt w 0 w.heap.size vb b) (hla : a.length ≤ 1000000) :
    Calls Try.prog 62 #[va, vb] w fun e w' =>
      (∃ v, e = .returned v ∧ w'.ownsRow w.heap.size 41 2 v (eachL meetF a b).length (itemCells (eachL meetF a b))) ∧ Below w.heap.size w w' := by
  have cE := Lib.hid (refboth_calls 1 meetF (.inl ⟨rfl, rfl⟩) a b va vb w ha hb hla)
  obtain ⟨A, c, rfl, -⟩ := ha.form
  obtain ⟨A', c', rfl, -⟩ := hb.form
  generalize eachL meetF a b = R at *
  go_enter Try.func62, Try.ntmps62
  go_wp2_with fail
  refine cE.out.mono ?_
  rintro e w1 ⟨⟨v, rfl, h1⟩, h2⟩
  obtain ⟨A1, c1, rfl, -⟩ := (ItemsAt.of_own h1).form
  go_wp2
  go_ret
  exact ⟨⟨_, rfl, h1⟩, h2⟩
set_option maxHeartbeats 400000 in
theorem refrest_calls (a b : List Item) (va vb : Value) (w : World) (ha : ItemsAt w 0 w.heap.size va a) (hb : ItemsAt w 0 w.heap.size vb b) (hla : a.length ≤ 1000000) :
    Calls Try.prog 63 #[va, vb] w fun e w' =>
      (∃ v, e = .returned v ∧ w'.ownsRow w.heap.size 41 2 v (eachL restF a b).length (itemCells (eachL restF a b))) ∧ Below w.heap.size w w' := by
  have cE := Lib.hid (refboth_calls 2 restF (.inr ⟨rfl, rfl⟩) a b va vb w ha hb hla)
  obtain ⟨A, c, rfl, -⟩ := ha.form
  obtain ⟨A', c', rfl, -⟩ := hb.form
  generalize eachL restF a b = R at *
  go_enter Try.func63, Try.ntmps63
  go_wp2_with fail
  refine cE.out.mono ?_
  rintro e w1 ⟨⟨v, rfl, h1⟩, h2⟩
  obtain ⟨A1, c1, rfl, -⟩ := (ItemsAt.of_own h1).form
  go_wp2
  go_ret
  exact ⟨⟨_, rfl, h1⟩, h2⟩

theorem M.fits {l : List Item} (h : M l) : Fits l := fun x hx => by
  have h1 := h.ok x hx
  have h2 := h1.1
  unfold good at h2
  simp only [Bool.and_eq_true, decide_eq_true_eq] at h2
  refine ⟨Nat.le_trans h2.2 (by unfold maxLen; omega), by omega, by omega⟩

end It
end Go.Proofs.Ythfpfomifebpbaa

namespace Go.Proofs.Ythfpfomifebpbaa
open Go.RowKit Go.Maps
namespace Sa
open It
set_option linter.unusedSimpArgs false

def leftR (want : List It.Item) (L : List (List It.Item)) : List It.Item := L.foldl (fun l o => It.eachL restF l (It.eachL meetF l o)) want
theorem leftR_succ (want : List It.Item) (L : List (List It.Item)) {k : Nat} (hk : k < L.length) : leftR want (L.take (k + 1)) = It.eachL restF (leftR want (L.take k)) (It.eachL meetF (leftR want (L.take k)) (L.getD k [])) := by
  unfold leftR
  rw [List.take_succ_eq_append_getElem hk, List.foldl_append, getD_get hk]
  rfl
theorem itEach_le (f : Int → Int → Int) (a b : List It.Item) : (It.eachL f a b).length ≤ a.length := List.length_filterMap_le _ _
theorem leftR_len (want : List It.Item) (L : List (List It.Item)) : (leftR want L).length ≤ want.length := by
  induction L generalizing want with
  | nil => exact Nat.le_refl _
  | cons o L ih => exact Nat.le_trans (ih _) (itEach_le _ _ _)

set_option maxRecDepth 100000 in
set_option maxHeartbeats 2000000 in
theorem refsplit_calls (want : List It.Item) (L : List (List It.Item)) (va vb : Value) (w : World) (ha : ItemsAt w 0 w.heap.size va want) (hb : GotAt w 0 w.heap.size vb L) (hwl : want.length ≤ 1000000) (hll : L.length ≤ 1000000) :
    Calls Try.prog 37 #[va, vb] w fun e w' => (∃ vo vl, e = .returned (.tuple #[vo, vl]) ∧ ItemsAt w' 0 w'.heap.size vl (leftR want L)) ∧ Below w.heap.size w w' := by
  obtain ⟨i0, hi0, hz0⟩ := Option.map_eq_some_iff.1 list_info
  simp only [Prod.mk.injEq] at hz0
  obtain ⟨hz0, hz1, hz2⟩ := hz0
  have hb0 := Lib.hid hb
  obtain ⟨A, c, rfl, -⟩ := ha.form
  obtain ⟨A', c', rfl, hc1, hc2⟩ := hb.form
  unfold maxLen at hc2
  have ha0 := Lib.hid ha
  clear ha hb
  go_enter Try.func37, Try.ntmps37
  go_wp2
  go_loopw [0, 6, 7, 8] (fun vl vo i _ wr => ∃ (k : Nat) (vs : List Value), k ≤ L.length ∧ i = .int .i64 k ∧ ItemsAt wr 0 wr.heap.size vl (leftR want (L.take k)) ∧ wr.ownsRow w.heap.size 22 1 vo k vs ∧ Below w.heap.size w wr) (fun _ _ i _ _ => L.length - (intOf i).toNat)
  case atStart => exact ⟨0, [], by omega, rfl, ha0.out, World.ownsRow_nil _ _ _ _, Below.refl _ _⟩
  case round =>
    obtain ⟨k, vs, hk, rfl, hvl, hvo, hb⟩ := hrel
    have hlow := fun g e => hvo.lt g e
    by_cases hlt : k < L.length
    · have hd : decide ((k : Int) < L.length) = true := by simp; omega
      obtain ⟨b, o, x, rfl, _, hbB, hck, hx⟩ := (hb0.out.below hb).cellAt hlt
      have hx := hx.wide (Nat.le_refl _) hb.size
      have HS := Lib.hid (leftR_succ want L hlt)
      have HL := Lib.hid (leftR_len want (L.take k))
      generalize L.getD k [] = y at hx HS
      generalize leftR want (L.take k) = left at hvl HL HS
      obtain ⟨A1, c1, rfl, -⟩ := hx.form
      obtain ⟨A3, c3, rfl, -⟩ := hvl.form
      have hll1 : left.length ≤ 1000000 := Nat.le_trans HL.out hwl
      have cMe := Lib.hid (refmeet_calls left y _ _ wr hvl hx hll1)
      clear hx
      go_wp2_with fail
      refine cMe.out.mono ?_
      rintro e w3 ⟨⟨v3, rfl, hv3⟩, hb3⟩
      clear cMe
      have hg3 := (ItemsAt.of_own hv3).wide (Nat.zero_le _) (Nat.le_refl _)
      obtain ⟨A4, c4, rfl, -⟩ := hg3.form
      have cRe := Lib.hid (refrest_calls left (It.eachL meetF left y) _ _ w3 (ItemsAt.mono hvl hb3 hb3.size) hg3 hll1)
      clear hg3 hvl
      go_wp2_with fail
      refine cRe.out.mono ?_
      rintro e w4 ⟨⟨v4, rfl, hv4⟩, hb4⟩
      clear cRe
      have hb34 := hb3.trans (hb4.mono hb3.size)
      have hvo4 := row_later hvo hb34
      obtain ⟨A5, c5, rfl, -⟩ := (ItemsAt.of_own hv4).form
      have hal := (Below.refl w4.heap.size w4).alloc (Nat.le_refl _) (.cells #[.slice A4 (It.eachL meetF left y).length c4] 22)
      have hva := row_later hvo4 hal
      have hvl5 := row_later hv4 hal
      have hob := Ob.new w4 22 #[.slice A4 (It.eachL meetF left y).length c4]
      have hba := (hb.trans (hb34.mono hb.size)).trans (hal.mono (by have := hb.size; have := hb34.size; omega))
      go_wp2_with (at_builtin; go_must (refine wpList_append_own _ rfl (.tmp 24) (.tmp 26) 24 rfl w.heap.size 22 i0 _ 1 24 Try.underlying24 hi0 hz0 hz1 hz2 rfl (by omega) _ k _ rfl hva ⟨w4.heap.size, 0, none⟩ 1 1 [.slice A4 (It.eachL meetF left y).length c4] rfl rfl (fun j u hu => by rw [add_mid, Nat.zero_add]; exact hob.cell (by simpa using hu)) (by simp [Value.oneCell']) (by unfold maxLen; omega) (by omega) hba.size ?_; intro v1 w1 hv1 hg1 hat1))
      have hrow : ItemsAt w1 0 w1.heap.size (.slice A5 (It.eachL restF left (It.eachL meetF left y)).length c5) (It.eachL restF left (It.eachL meetF left y)) := by
        have h34 := hb3.size
        have h1 := hb.size
        refine (ItemsAt.of_own (hvl5.kept hg1 ?_)).wide (Nat.zero_le _) (Nat.le_refl _)
        cases hq : Value.ownBlock (.slice A5 (It.eachL restF left (It.eachL meetF left y)).length c5) with
        | none => exact .inl rfl
        | some g =>
          refine .inr fun e => ?_
          have := (hvl5.lt g hq).1
          have := hlow g e.symm
          omega
      exact ⟨⟨k + 1, _, by omega, by go_num, by rw [HS.out]; exact hrow, hv1, hba.grown hg1 hba.size (fun g e => (hlow g e).1)⟩, by simp [intOf]; omega⟩
    · obtain rfl : k = L.length := by omega
      have hd : decide ((L.length : Int) < L.length) = false := decide_eq_false (by omega)
      rw [List.take_length] at hvl
      obtain ⟨A3, c3, rfl, -⟩ := hvl.form
      go_wp2
      go_ret2
      exact ⟨⟨_, _, rfl, hvl⟩, hb⟩

theorem refmissing_calls (s : Saga) (vw vg vp : Value) (w : World) (h : Parts w 0 w.heap.size s vw vg vp) (hwl : s.want.length ≤ 1000000) (hll : s.got.length ≤ 1000000) :
    Calls Try.prog 22 #[.agg (sagaC s vw vg vp)] w fun e w' => (∃ vl, e = .returned vl ∧ ItemsAt w' 0 w'.heap.size vl (leftR s.want s.got)) ∧ Below w.heap.size w w' := by
  have cM := Lib.hid (fun W (hb : Below w.heap.size w W) => refsplit_calls s.want s.got vw vg W (h.later hb).want (h.later hb).got hwl hll)
  obtain ⟨A, c, rfl, -⟩ := h.want.form
  obtain ⟨A', c', rfl, -⟩ := h.got.form
  obtain ⟨A2, c2, rfl, -⟩ := h.pend.form
  clear h
  unfold sagaC
  have hB := (Below.refl _ w).alloc (Nat.le_refl _) (.cells #[.int .i64 s.order, .int .i64 s.first, .int .i64 s.regions, .slice A s.want.length c, .bool s.waits, .int .i64 s.state, .int .i64 s.asked, .slice A' s.got.length c', .slice A2 s.pending.length c2, .bool s.cancelled] 27)
  go_enter Try.func22, Try.ntmps22
  go_wp2_with fail
  refine (cM.out _ hB).mono ?_
  rintro e w1 ⟨⟨vo, vl, rfl, hv⟩, hb⟩
  obtain ⟨A1, c1, rfl, -⟩ := hv.form
  go_wp2
  go_ret
  exact ⟨⟨_, rfl, hv⟩, hB.trans (hb.mono hB.size)⟩

/-- is a saga not too large to be looked at? -/
def smallS (s : Saga) : Bool := decide (s.want.length ≤ 50) && decide (s.got.length ≤ 50) && decide (s.pending.length ≤ 50) && s.got.all fun l => decide (l.length ≤ 50)
set_option maxRecDepth 100000 in
set_option maxHeartbeats 2000000 in
theorem small_calls (s : Saga) (vw vg vp : Value) (w : World) (h : Parts w 0 w.heap.size s vw vg vp) :
    Calls Try.prog 19 #[.agg (sagaC s vw vg vp)] w fun e w' => e = .returned (.bool (smallS s)) ∧ Below w.heap.size w w' := by
  have hg0 := Lib.hid h.got
  obtain ⟨A, c, rfl, -⟩ := h.want.form
  obtain ⟨A', c', rfl, hc1, hc2⟩ := h.got.form
  obtain ⟨A2, c2, rfl, -⟩ := h.pend.form
  unfold maxLen at hc2
  clear h
  unfold sagaC
  have hB := (Below.refl _ w).alloc (Nat.le_refl _) (.cells #[.int .i64 s.order, .int .i64 s.first, .int .i64 s.regions, .slice A s.want.length c, .bool s.waits, .int .i64 s.state, .int .i64 s.asked, .slice A' s.got.length c', .slice A2 s.pending.length c2, .bool s.cancelled] 27)
  by_cases h1 : s.want.length ≤ 50
  rotate_left
  · have d1 : decide ((s.want.length : Int) > 50) = true := decide_eq_true (by omega)
    have hs : smallS s = false := by
      unfold smallS
      rw [decide_eq_false (show ¬ s.want.length ≤ 50 from h1)]
      simp
    rw [hs]
    clear hs h1
    go_enter Try.func19, Try.ntmps19
    go_wp2
    go_ret
    exact ⟨rfl, hB⟩
  have d1 : decide ((s.want.length : Int) > 50) = false := decide_eq_false (by omega)
  by_cases h2 : s.got.length ≤ 50
  rotate_left
  · have d2 : decide ((s.got.length : Int) > 50) = true := decide_eq_true (by omega)
    have hs : smallS s = false := by
      unfold smallS
      rw [decide_eq_false (show ¬ s.got.length ≤ 50 from h2)]
      simp
    rw [hs]
    clear hs h2
    go_enter Try.func19, Try.ntmps19
    go_wp2
    go_ret
    exact ⟨rfl, hB⟩
  have d2 : decide ((s.got.length : Int) > 50) = false := decide_eq_false (by omega)
  by_cases h3 : s.pending.length ≤ 50
  rotate_left
  · have d3 : decide ((s.pending.length : Int) > 50) = true := decide_eq_true (by omega)
    have hs : smallS s = false := by
      unfold smallS
      rw [decide_eq_false (show ¬ s.pending.length ≤ 50 from h3)]
      simp
    rw [hs]
    clear hs h3
    go_enter Try.func19, Try.ntmps19
    go_wp2
    go_ret
    exact ⟨rfl, hB⟩
  have d3 : decide ((s.pending.length : Int) > 50) = false := decide_eq_false (by omega)
  have hs : smallS s = s.got.all fun l => decide (l.length ≤ 50) := by
    unfold smallS
    rw [decide_eq_true h1, decide_eq_true h2, decide_eq_true h3]
    simp
  have HS := Lib.hid hs
  clear hs h1 h2 h3
  go_enter Try.func19, Try.ntmps19
  go_wp2
  go_loop [3] (fun i => ∃ k : Nat, k ≤ s.got.length ∧ i = .int .i64 k ∧ ∀ j, j < k → (s.got.getD j []).length ≤ 50) (fun i => s.got.length - (intOf i).toNat)
  case atStart => exact ⟨0, by omega, rfl, fun j hj => by omega⟩
  case round =>
    obtain ⟨k, hk, rfl, hN⟩ := hrel
    have HN := Lib.hid hN
    clear hN
    by_cases hlt : k < s.got.length
    · have hd : decide ((k : Int) < s.got.length) = true := decide_eq_true (by omega)
      obtain ⟨b, o, x, rfl, _, hbB, hck, hx⟩ := hg0.out.cellAt hlt
      have hck := (hB.cell (p := ⟨b, o + k, none⟩) hbB).trans hck
      have hno : ¬ (s.got.getD k []).length ≤ 50 → smallS s = false := fun h => by
        rw [HS.out, Bool.eq_false_iff]
        intro e
        have := List.all_eq_true.1 e _ (List.getElem_mem hlt)
        rw [getD_get hlt] at h
        exact h (of_decide_eq_true this)
      have hye : (s.got.getD k []).length ≤ 50 → ∀ j, j < k + 1 → (s.got.getD j []).length ≤ 50 := fun h => allTo_snoc HN.out h
      generalize s.got.getD k [] = y at hx hno hye
      obtain ⟨A1, c1, rfl, -⟩ := hx.form
      have HNO := Lib.hid hno
      have HYE := Lib.hid hye
      clear hno hye hx
      by_cases hy : y.length ≤ 50
      · have dy : decide ((y.length : Int) > 50) = false := decide_eq_false (by omega)
        have HY := Lib.hid hy
        clear hy
        go_wp2
        go_round
        case rel => exact ⟨k + 1, by omega, by go_num, HYE.out HY.out⟩
        case measure => simp [intOf]; omega
      · have dy : decide ((y.length : Int) > 50) = true := decide_eq_true (by omega)
        have HY := Lib.hid hy
        clear hy
        go_wp2
        go_ret
        exact ⟨by rw [HNO.out HY.out]; rfl, hB⟩
    · obtain rfl : k = s.got.length := by omega
      have hd : decide ((s.got.length : Int) < s.got.length) = false := decide_eq_false (by omega)
      have hs : smallS s = true := by
        rw [HS.out, List.all_eq_true]
        intro l hl
        obtain ⟨i, hi, rfl⟩ := List.getElem_of_mem hl
        have := HN.out i hi
        rw [getD_get hi] at this
        exact decide_eq_true this
      have HS2 := Lib.hid hs
      clear hs
      go_wp2
      go_ret
      exact ⟨by rw [HS2.out]; rfl, hB⟩
end Sa
end Go.Proofs.Ythfpfomifebpbaa

namespace Go.Proofs.Ythfpfomifebpbaa
open Go.RowKit Go.Maps
namespace Sa
open It

def sumT (k : Bs) (L : List (List It.Item)) : Int := L.foldr (fun l n => tot k l + n) 0
theorem sumT_cons (k : Bs) (l : List It.Item) (L : List (List It.Item)) : sumT k (l :: L) = tot k l + sumT k L := rfl
theorem sumT_nonneg {k : Bs} : ∀ {L : List (List It.Item)}, (∀ l ∈ L, M l) → 0 ≤ sumT k L
  | [], _ => Int.le_refl _
  | l :: L, h => by
    have h1 := (h l (by simp)).nonneg k
    have h2 := sumT_nonneg (k := k) fun x hx => h x (List.mem_cons_of_mem _ hx)
    rw [sumT_cons]
    omega
theorem sumT_set {k : Bs} {l : List It.Item} : ∀ {L : List (List It.Item)} {r : Nat}, r < L.length → sumT k (L.set r l) = sumT k L - tot k (L.getD r []) + tot k l
  | [], r, h => by simp at h
  | x :: L, 0, _ => by simp only [List.set_cons_zero, sumT_cons, List.getD_cons_zero]; omega
  | x :: L, r + 1, h => by
    have := sumT_set (k := k) (l := l) (L := L) (r := r) (by simpa using h)
    simp only [List.set_cons_succ, sumT_cons, List.getD_cons_succ]
    omega
theorem meetrest_M {a b : List It.Item} (ha : M a) (hb : M b) : M (It.eachL restF a (It.eachL meetF a b)) ∧ ∀ k, tot k (It.eachL restF a (It.eachL meetF a b)) = max 0 (tot k a - tot k b) := by
  have hm := meet_M ha hb
  refine ⟨rest_M ha hm, fun k => ?_⟩
  rw [rest_tot ha hm, meet_tot ha hb]
  have := ha.nonneg k
  have := hb.nonneg k
  omega
theorem leftR_M : ∀ {L : List (List It.Item)} {want : List It.Item}, M want → (∀ l ∈ L, M l) → M (leftR want L) ∧ ∀ k, tot k (leftR want L) = max 0 (tot k want - sumT k L)
  | [], want, hw, _ => ⟨hw, fun k => by
      have := hw.nonneg k
      show tot k want = max 0 (tot k want - 0)
      omega⟩
  | l :: L, want, hw, hL => by
    obtain ⟨h1, h2⟩ := meetrest_M hw (hL l (by simp))
    obtain ⟨h3, h4⟩ := leftR_M (L := L) h1 fun x hx => hL x (List.mem_cons_of_mem _ hx)
    refine ⟨h3, fun k => ?_⟩
    have h5 := h4 k
    rw [h2 k] at h5
    have h6 := sumT_nonneg (k := k) (L := L) fun x hx => hL x (List.mem_cons_of_mem _ hx)
    have h7 := (hL l (by simp)).nonneg k
    show tot k (leftR _ L) = _
    rw [h5, sumT_cons]
    omega
theorem M_nil : M ([] : List It.Item) := (may_iff []).1 (by decide +kernel)
theorem M_of {l : List It.Item} (h : may l = true) : M l := (may_iff l).1 h
theorem leftOf_R : ∀ {L : List (List It.Item)} {want : List It.Item}, M want → (∀ l ∈ L, M l) → leftOf want L = leftR want L
  | [], want, _, _ => rfl
  | l :: L, want, hw, hL => by
    have hl := hL l (by simp)
    have h1 := meetrest_M hw hl
    have e : both restF want (both meetF want l) = It.eachL restF want (It.eachL meetF want l) := by rw [both_of hw hl, both_of hw (meet_M hw hl)]
    show leftOf (both restF want (both meetF want l)) L = _
    rw [e]
    exact leftOf_R h1.1 fun x hx => hL x (List.mem_cons_of_mem _ hx)
theorem mayS_M {s : Saga} (h : mayS s = true) : M s.want ∧ (∀ l ∈ s.got, M l) ∧ s.got.length ≤ 8 := by
  obtain ⟨hh, -⟩ := mayS_split h
  exact ⟨M_of hh.may, fun l hl => M_of (mayGot_all hh.kept l hl), by have := hh.got; have := hh.r2; omega⟩
theorem missing_R {want : List It.Item} {L : List (List It.Item)} (hw : M want) (hL : ∀ l ∈ L, M l) (h8 : L.length ≤ 8) : missing want L = leftR want L := by
  have hm : mayAll want L = true := by
    unfold mayAll
    simp only [Bool.and_eq_true, decide_eq_true_eq]
    refine ⟨⟨(may_iff want).2 hw, by omega⟩, ?_⟩
    first
      | (rw [List.all_eq_true]; exact fun l hl => (may_iff l).2 (hL l hl))
      | (simp; exact fun l hl => (may_iff l).2 (hL l hl))
  unfold missing
  rw [if_pos hm]
  exact leftOf_R hw hL
/-- what is missing when a region that held nothing holds something -/
theorem left_set {want l : List It.Item} {L : List (List It.Item)} {r : Nat} (hw : M want) (hL : ∀ x ∈ L, M x) (hl : M l) (hr : r < L.length) (h0 : L.getD r [] = []) : It.eachL restF (leftR want L) l = leftR want (L.set r l) := by
  obtain ⟨h1, h2⟩ := leftR_M hw hL
  have hL' : ∀ x ∈ L.set r l, M x := fun x hx => by
    rcases List.mem_or_eq_of_mem_set hx with h | rfl
    · exact hL x h
    · exact hl
  obtain ⟨h3, h4⟩ := leftR_M hw hL'
  refine M.ext (rest_M h1 hl) h3 fun k => ?_
  rw [rest_tot h1 hl, h2, h4, sumT_set hr, h0]
  have := hl.nonneg k
  have e : tot k ([] : List It.Item) = 0 := rfl
  rw [e]
  omega
theorem visit_at {f r : Int} {i : Nat} (h : i < (visit f r).length) : (visit f r)[i] = (f + (i : Int)) % r ∧ (i : Int) < r ∧ 0 ≤ f ∧ f < r := by
  have hv : ¬ (r < 1 ∨ 8 < r ∨ f < 0 ∨ r ≤ f) := fun hb => by
    have h' := h
    rw [visit_none hb] at h'
    simp at h'
  have hl : (visit f r).length = r.toNat := by rw [visit_some hv]; simp
  refine ⟨?_, by omega, by omega, by omega⟩
  have : (visit f r)[i]? = some ((f + (i : Int)) % r) := by
    rw [visit_some hv, List.getElem?_map, List.getElem?_range (by omega)]
    rfl
  rw [List.getElem?_eq_getElem h] at this
  exact Option.some.inj this
theorem visit_inj {f r : Int} {i j : Nat} (hi : i < (visit f r).length) (hj : j < (visit f r).length) (h : (visit f r)[i] = (visit f r)[j]) : i = j := by
  obtain ⟨e1, h1, h2, h3⟩ := visit_at hi
  obtain ⟨e2, h4, -, -⟩ := visit_at hj
  rw [e1, e2] at h
  have hm : ∀ x : Int, 0 ≤ x → x < 2 * r → x % r = if x < r then x else x - r := fun x hx0 hx => by
    split
    · exact Int.emod_eq_of_lt hx0 (by omega)
    · rw [show x = (x - r) + r by omega, Int.add_emod_right]
      rw [show (x - r) + r - r = x - r by omega]
      exact Int.emod_eq_of_lt (by omega) (by omega)
  rw [hm _ (by omega) (by omega), hm _ (by omega) (by omega)] at h
  split at h <;> split at h <;> omega
theorem sorted_mem {x : Int} {l : List Int} : x ∈ sorted l ↔ x ∈ l := by unfold sorted; exact List.mem_mergeSort
/-- a region that is asked holds nothing yet -/
theorem asked_none {s : Saga} (h : mayS s = true) (h1 : s.state = 1) {x : Int} (hx : x ∈ s.pending) : s.got.getD x.toNat [] = [] := by
  obtain ⟨hh, hb⟩ := mayS_split h
  rw [h1] at hb
  unfold bodyAt at hb
  rw [if_pos rfl] at hb
  simp only [Bool.and_eq_true, decide_eq_true_eq] at hb
  obtain ⟨⟨-, hp⟩, hr⟩ := hb
  obtain ⟨a, ha⟩ : ∃ a : Nat, (s.asked - 1).toNat = a := ⟨_, rfl⟩
  rw [ha] at hp hr
  have hva : a < (visit s.first s.regions).length := by
    have := hh.visit
    have := hh.a1
    have := hh.a2
    omega
  rw [hp] at hx
  have hx' : x = (visit s.first s.regions)[a] := by
    rw [List.drop_eq_getElem_cons hva, List.take_succ_cons, List.take_zero] at hx
    exact List.mem_singleton.1 hx
  apply Decidable.byContradiction
  intro hne
  have hx0 := visit_mem (hx' ▸ List.getElem_mem hva : x ∈ visit s.first s.regions)
  have hmem : x ∈ holders s.got := by
    unfold holders holdersTo
    refine List.mem_map.2 ⟨x.toNat, List.mem_filter.2 ⟨List.mem_range.2 (by have := hh.got; omega), ?_⟩, by omega⟩
    rw [decide_eq_true_eq]
    exact Nat.pos_of_ne_zero fun e => hne (List.eq_nil_of_length_eq_zero e)
  have hs := sorted_mem.1 (rises_mem hr hmem)
  obtain ⟨i, hi, e⟩ := List.getElem_of_mem hs
  rw [List.length_take] at hi
  rw [List.getElem_take] at e
  have := visit_inj (by omega) hva (e.trans hx')
  omega
end Sa
end Go.Proofs.Ythfpfomifebpbaa

namespace Go.Proofs.Ythfpfomifebpbaa
open Go.RowKit Go.Maps
namespace Sa
open It

def StepOk (t : Saga) (x : Step) : Prop :=
  (x.kind = 100 ∧ x.state = t.state) ∨ (x.kind = 3 ∧ 0 ≤ x.region ∧ x.region < t.regions ∧ x.items = leftR t.want t.got) ∨
  (x.kind ≠ 100 ∧ x.kind ≠ 3 ∧ 0 ≤ x.region ∧ x.region < t.regions ∧ (t.got.getD x.region.toNat []).length ≠ 0 ∧ x.items = [])
structure TOk (t : Saga) : Prop where
  got : (t.got.length : Int) = t.regions
  reg : t.regions ≤ 8
  want : t.want.length ≤ 16
theorem steps_told {t : Saga} {st : Int} (h : st = t.state) : ∀ x ∈ told st, StepOk t x := by
  intro x hx
  obtain rfl := List.mem_singleton.1 hx
  exact .inl ⟨rfl, h⟩
theorem steps_each {t : Saga} {kind : Int} (hg : (t.got.length : Int) = t.regions) (h1 : kind ≠ 100) (h2 : kind ≠ 3) : ∀ x ∈ eachL kind (holders t.got), StepOk t x := by
  intro x hx
  obtain ⟨r, hr, rfl⟩ := List.mem_map.1 hx
  obtain ⟨i, rfl, hi, hl⟩ := holders_mem hr
  refine .inr (.inr ⟨h1, h2, by show (0 : Int) ≤ (i : Int); omega, by show (i : Int) < t.regions; omega, ?_, rfl⟩)
  show (t.got.getD (i : Int).toNat []).length ≠ 0
  rw [Int.toNat_natCast]
  omega
def Good (r : Saga × List Step) : Prop := TOk r.1 ∧ ∀ x ∈ r.2, StepOk r.1 x
theorem good_end {t : Saga} (h : TOk t) : Good (endS t, told (endSt t)) := ⟨⟨h.got, h.reg, h.want⟩, steps_told rfl⟩
theorem good_none {t : Saga} (h : TOk t) : Good (t, []) := ⟨h, fun x hx => by simp at hx⟩
theorem good_undo {t : Saga} (h : TOk t) : Good (undoS t) := by
  unfold undoS
  split
  · exact good_end h
  · exact ⟨⟨h.got, h.reg, h.want⟩, steps_each (t := eachS t 4) h.got (by omega) (by omega)⟩
theorem leftR_none {want : List It.Item} (hw : M want) (n : Nat) : leftR want (List.replicate n []) = want := by
  have hL : ∀ l ∈ List.replicate n ([] : List It.Item), M l := fun l hl => by rw [(List.mem_replicate.1 hl).2]; exact M_nil
  obtain ⟨h1, h2⟩ := leftR_M hw hL
  refine M.ext h1 hw fun k => ?_
  rw [h2]
  have e : sumT k (List.replicate n ([] : List It.Item)) = 0 := by
    induction n with
    | zero => rfl
    | succ n ih =>
      rw [List.replicate_succ, sumT_cons, ih fun l hl => hL l (by rw [List.replicate_succ]; exact List.mem_cons_of_mem _ hl)]
      · rfl
      · exact (leftR_M hw fun l hl => hL l (by rw [List.replicate_succ]; exact List.mem_cons_of_mem _ hl)).1
      · exact (leftR_M hw fun l hl => hL l (by rw [List.replicate_succ]; exact List.mem_cons_of_mem _ hl)).2
  rw [e]
  have := hw.nonneg k
  omega
theorem good_begin {order first regions : Int} {want : List It.Item} {waits : Bool} {r : Saga × List Step} (h : beginS order first regions want waits = .ok r) : Good r := by
  unfold beginS beginU at h
  split at h
  · cases h
  · split at h
    · rename_i hm
      cases h
      have hh := (mayS_split hm).1
      have hM := (mayS_M hm).1
      have hf : (saga1 order first regions want waits).first = first := rfl
      refine ⟨⟨hh.got, hh.r2, by have := may_len hh.may; exact this⟩, fun x hx => ?_⟩
      obtain rfl := List.mem_singleton.1 hx
      exact .inr (.inl ⟨rfl, hh.f1, hh.f2, (leftR_none hM _).symm⟩)
    · cases h
theorem next_good {s : Saga} {e : Ev} {r : Saga × List Step} (h : nextS s e = .ok r) : Good r := by
  unfold nextS nextU at h
  split at h
  rotate_left
  · cases h
  rename_i hm
  obtain ⟨hh, hb⟩ := mayS_split hm
  obtain ⟨hMw, hMg, h8⟩ := mayS_M hm
  have hw16 : s.want.length ≤ 16 := may_len hh.may
  have hT : TOk s := ⟨hh.got, hh.r2, hw16⟩
  unfold happenS at h
  split at h
  · -- took
    unfold tookS tookU at h
    split at h
    · rename_i hst
      split at h
      · rename_i hc
        cases h
        obtain ⟨h1, hix⟩ := hst
        rcases idx_cases e.region s.pending with hi | ⟨i, hi, -, hgi⟩
        · exact absurd hi hix
        have hmem : e.region ∈ s.pending := by rw [← hgi, getD_get hi]; exact List.getElem_mem hi
        have hr := (pend_in hm).1 _ hmem
        have h0 := asked_none hm h1 hmem
        unfold covers at hc
        simp only [Bool.and_eq_true] at hc
        have hMe := M_of hc.1.2
        rw [missing_R hMw hMg h8] at hc ⊢
        have hML := (leftR_M hMw hMg).1
        rw [both_of hML hMe, left_set hMw hMg hMe (by omega) h0]
        have hT2 : TOk { s with pending := takeOff e.region s.pending, got := s.got.set e.region.toNat e.items } := ⟨by simpa using hh.got, hh.r2, hw16⟩
        unfold tookT
        split
        · exact good_undo hT2
        split
        · exact ⟨⟨hT2.got, hT2.reg, hT2.want⟩, steps_told rfl⟩
        split
        · rename_i hlt
          refine ⟨⟨hT2.got, hT2.reg, hT2.want⟩, fun x hx => ?_⟩
          obtain rfl := List.mem_singleton.1 hx
          have hv := hh.visit
          have ha := hh.a1
          have hlt' : s.asked < s.regions := hlt
          have hin : (visit s.first s.regions).getD s.asked.toNat 0 ∈ visit s.first s.regions := by
            rw [getD_get (show s.asked.toNat < (visit s.first s.regions).length by omega)]
            exact List.getElem_mem _
          have := visit_mem hin
          exact .inr (.inl ⟨rfl, this.1, this.2, rfl⟩)
        · exact good_undo hT2
      · cases h
    · cases h
  split at h
  · unfold freedS at h
    split at h
    · cases h
      have hT2 : TOk { s with pending := takeOff e.region s.pending, got := s.got.set e.region.toNat [] } := ⟨by simpa using hh.got, hh.r2, hw16⟩
      unfold freedT
      split
      · exact good_end hT2
      · exact good_none hT2
    · cases h
  split at h
  · unfold cancelS cancelAt at h
    have hT2 : TOk { s with cancelled := true } := ⟨hh.got, hh.r2, hw16⟩
    split at h
    · split at h
      · cases h
      · cases h
        exact good_none hT2
    split at h
    · cases h
      exact good_end hT2
    split at h
    · cases h
      exact good_undo hT2
    · cases h
  split at h
  · unfold retryS at h
    split at h
    · exact good_begin h
    · cases h
  split at h
  · unfold allS at h
    split at h
    · cases h
      exact ⟨⟨hT.got, hT.reg, hT.want⟩, steps_each (t := eachS s 7) hT.got (by omega) (by omega)⟩
    · cases h
  split at h
  · unfold didS didU at h
    split at h
    · split at h
      · cases h
        unfold didT
        split
        · exact ⟨⟨hT.got, hT.reg, hT.want⟩, steps_told rfl⟩
        · exact good_none ⟨hT.got, hT.reg, hT.want⟩
      · cases h
    · cases h
  split at h
  · unfold allS at h
    split at h
    · cases h
      exact ⟨⟨hT.got, hT.reg, hT.want⟩, steps_each (t := eachS s 9) hT.got (by omega) (by omega)⟩
    · cases h
  split at h
  · unfold didS didU at h
    split at h
    · split at h
      · cases h
        unfold didT
        split
        · exact ⟨⟨hT.got, hT.reg, hT.want⟩, steps_told rfl⟩
        · exact good_none ⟨hT.got, hT.reg, hT.want⟩
      · cases h
    · cases h
  · cases h
end Sa
end Go.Proofs.Ythfpfomifebpbaa

namespace Go.Proofs.Ythfpfomifebpbaa
open Go.RowKit Go.Maps
namespace Sa
open It
set_option linter.unusedSimpArgs false

theorem small_len {s : Saga} (h : smallS s = true) : s.want.length ≤ 50 ∧ s.got.length ≤ 50 := by
  unfold smallS at h
  simp only [Bool.and_eq_true, decide_eq_true_eq] at h
  exact ⟨h.1.1.1, h.1.1.2⟩

set_option maxRecDepth 100000 in
set_option maxHeartbeats 8000000 in
theorem steps_law (s : Saga) (ev : Ev) (vw vg vp ve : Value) (w : World) (h : Parts w 0 w.heap.size s vw vg vp) (hF : Fit s) (hv : ItemsAt w 0 w.heap.size ve ev.items) (hFe : Fits ev.items) :
    Calls Try.prog 7 #[.agg (sagaC s vw vg vp), .agg (evC ev ve)] w fun e w' => e = .returned (.bool true) ∧ Below w.heap.size w w' := by
  have hmx : Try.prog.follows .mixedOrders = true := by kernel_rfl
  obtain ⟨A1, c1, rfl, -⟩ := h.want.form
  obtain ⟨A2, c2, rfl, -⟩ := h.got.form
  obtain ⟨A3, c3, rfl, -⟩ := h.pend.form
  obtain ⟨A4, c4, rfl, -⟩ := hv.form
  obtain ⟨sc, hsc⟩ : ∃ sc, sc = sagaC s (.slice A1 s.want.length c1) (.slice A2 s.got.length c2) (.slice A3 s.pending.length c3) := ⟨_, rfl⟩
  obtain ⟨ec, hec⟩ : ∃ ec, ec = evC ev (.slice A4 ev.items.length c4) := ⟨_, rfl⟩
  have cS := Lib.hid (fun W (hb : Below w.heap.size w W) => small_calls s _ _ _ W (h.later hb))
  have cN := Lib.hid (fun W (hb : Below w.heap.size w W) => next_calls s _ _ _ ev _ W (h.later hb) hF (hv.mono hb hb.size) hFe)
  have cL := Lib.hid (fun W => lives_calls W)
  rw [← hsc] at cS cN
  rw [← hec] at cN
  rw [← hsc, ← hec]
  have ha1 := (Below.refl w.heap.size w).alloc (Nat.le_refl _) (.cells sc 27)
  have ha2 := ha1.alloc ha1.size (.cells ec 44)
  have o1 := (Ob.new w 27 sc).alloc (.cells ec 44)
  have o2 := Ob.new (w.alloc (.cells sc 27)) 44 ec
  rw [World.size_alloc] at o2
  have hs1 : sc.size = 10 := by rw [hsc]; rfl
  have he1 : ec.size = 3 := by rw [hec]; rfl
  have he2 : (w.alloc (.cells sc 27)).alloc (.cells ec 44) = (w.alloc (.cells sc 27)).alloc (.cells ec 44) := rfl
  have HEV := Lib.hid (show ∀ V, Ob V (w.heap.size + 1) 44 ec → V.cell? ⟨w.heap.size + 1, 2, none⟩ = some (.slice A4 ev.items.length c4) from fun V hV => by rw [hec] at hV; exact hV.cell rfl)
  clear h hv hsc hec ha1 he2
  go_enter Try.func7, Try.ntmps7
  go_wp2_with (refine wpList_load_obg (by rfl) _ _ rfl rfl _ o1 Try.underlying27 rfl (by rw [hs1]; kernel_rfl) ?_)
  generalize (w.alloc (.cells sc 27)).alloc (.cells ec 44) = W0 at *
  have hz0 := o2.lt
  refine (cS.out _ ha2).mono ?_
  rintro e W1 ⟨rfl, hb1⟩
  have o1 := o1.same hb1
  have o2 := o2.same hb1
  have hB1 := ha2.trans (hb1.mono ha2.size)
  have hs1' := hb1.size
  have hev := HEV.out W1 o2
  clear ha2 hb1 cS
  generalize hsm : smallS s = sm
  have HSM := Lib.hid hsm
  clear hsm
  cases sm with
  | false =>
    go_wp2_with fail
    refine (cL.out _).mono ?_
    rintro e W2 ⟨rfl, hb2⟩
    go_wp2
    go_ret
    exact ⟨rfl, hB1.trans (hb2.mono hB1.size)⟩
  | true =>
  by_cases hil : ev.items.length ≤ 50
  rotate_left
  · have di : decide ((ev.items.length : Int) > 50) = true := decide_eq_true (by omega)
    clear hil
    go_wp2_with fail
    refine (cL.out _).mono ?_
    rintro e W2 ⟨rfl, hb2⟩
    go_wp2
    go_ret
    exact ⟨rfl, hB1.trans (hb2.mono hB1.size)⟩
  have di : decide ((ev.items.length : Int) > 50) = false := decide_eq_false (by omega)
  clear hil
  go_wp2_with (first
    | (refine wpList_load_obg (by rfl) _ _ rfl rfl _ o1 Try.underlying27 rfl (by rw [hs1]; kernel_rfl) ?_)
    | (refine wpList_load_obg (by rfl) _ _ rfl rfl _ o2 Try.underlying44 rfl (by rw [he1]; kernel_rfl) ?_))
  refine (cN.out _ hB1).mono ?_
  rintro e W2 ⟨hR, hb2⟩
  have hB2 := hB1.trans (hb2.mono hB1.size)
  generalize hnx : nextS s ev = r at hR
  have HNX := Lib.hid hnx
  clear hnx cN o1 o2 hev hb2
  obtain ⟨y, D1, m1, e1, D2, m2, e2, D3, m3, e3, D4, m4, e4, xx, rfl, hG⟩ := hR.form
  clear hR
  obtain ⟨sd, hsd⟩ : ∃ sd, sd = sagaC y (.slice D1 m1 e1) (.slice D2 m2 e2) (.slice D3 m3 e3) := ⟨_, rfl⟩
  rw [← hsd]
  have hd1 : sd.size = 10 := by rw [hsd]; rfl
  have hd2 : sd.all (·.oneCell') = true := by rw [hsd]; simp [sagaC, Value.oneCell']
  have hoN := Ob.new W2 27 #[.int .i64 0, .int .i64 0, .int .i64 0, .slice none 0 0, .bool false, .int .i64 0, .int .i64 0, .slice none 0 0, .slice none 0 0, .bool false]
  have hal3 := (Below.refl W2.heap.size W2).alloc (Nat.le_refl _) (.cells #[.int .i64 0, .int .i64 0, .int .i64 0, .slice none 0 0, .bool false, .int .i64 0, .int .i64 0, .slice none 0 0, .slice none 0 0, .bool false] 27)
  have z3 : (W2.alloc (.cells #[.int .i64 0, .int .i64 0, .int .i64 0, .slice none 0 0, .bool false, .int .i64 0, .int .i64 0, .slice none 0 0, .slice none 0 0, .bool false] 27)).heap.size = W2.heap.size + 1 := World.size_alloc _ _
  have HSD := Lib.hid hsd
  clear hsd
  go_wp2_with (refine wpList_store_ob (cells := sd) rfl 27 (.tmp 5) (.tmp 24) rfl rfl rfl hoN hd1 (by rw [hd1]; kernel_rfl) hd2 ?_
               intro W3 ho3 hg3
               have hb3 : Below W2.heap.size W2 W3 := hal3.grown hg3 (by omega) (fun g e => by have e2 : W2.heap.size = g := Option.some.inj e; omega)
               have hB3 := hB2.trans (hb3.mono hB2.size))
  refine (cL.out _).mono ?_
  rintro e W4 ⟨rfl, hb4⟩
  have ho4 := ho3.same hb4
  have hb24 := hb3.trans (hb4.mono hb3.size)
  have hB4 := hB3.trans (hb4.mono hB3.size)
  clear hoN hal3 hg3 hb3 hb4 ho3 z3
  rw [HSD.out] at ho4
  cases r with
  | error z =>
    obtain ⟨rfl, hnil⟩ := hG
    obtain rfl : m4 = 0 := by cases hnil; rfl
    have hx0 : z ≠ 0 := by
      intro e0
      have hn := HNX.out
      unfold nextS nextU at hn
      split at hn
      · exact happen_err hn e0
      · cases hn
        omega
    have dx : decide (z = 0) = false := decide_eq_false hx0
    have dx2 : (z == 0) = false := by rw [beq_eq_false_iff_ne]; exact hx0
    have dx3 : (z != 0) = true := by simp [bne, dx2]
    clear hnil hx0
    go_wp2_with fail
    refine (cL.out _).mono ?_
    rintro e W5 ⟨rfl, hb5⟩
    go_wp2
    go_ret
    exact ⟨rfl, hB4.trans (hb5.mono hB4.size)⟩
  | ok u =>
    obtain ⟨rfl, rfl, hP2, hSt2⟩ := hG
    obtain ⟨hT, hok⟩ := next_good HNX.out
    have hP4 := Lib.hid (hP2.later hb24)
    have hSt4 := hSt2.later hb24
    obtain ⟨u1, u2⟩ := u
    dsimp only at *
    have HOK := Lib.hid hok
    have HT := Lib.hid hT
    have HO4 := Lib.hid ho4
    have cM := Lib.hid (fun V (hb : Below W4.heap.size W4 V) => refmissing_calls u1 _ _ _ V (hP4.out.later hb) (by have := hT.want; omega) (by have := hT.got; have := hT.reg; omega))
    obtain ⟨D4', e4', hD4, hc41, hc42⟩ := hSt4.form
    cases hD4
    unfold maxLen at hc42
    have HST := Lib.hid hSt4
    clear hP2 hSt2 hok hT hSt4 hb24 ho4
    go_wp2
    have hol := HO4.out.lt
    go_loopw [8, 9] (fun i _ wr => ∃ k : Nat, k ≤ u2.length ∧ i = .int .i64 k ∧ Below W4.heap.size W4 wr) (fun i _ _ => u2.length - (intOf i).toNat)
    case atStart => exact ⟨0, by omega, rfl, Below.refl _ _⟩
    case round =>
      obtain ⟨k, hk, rfl, hb⟩ := hrel
      have hBr := hB4.trans (hb.mono hB4.size)
      have hbs := hb.size
      by_cases hlt : k < u2.length
      · have hd : decide ((k : Int) < u2.length) = true := decide_eq_true (by omega)
        obtain ⟨p, o, xv, rfl, -, hp, g0, g1, g2, g3, hx⟩ := (HST.out.later hb).cellAt hlt
        have hxo := HOK.out (u2.getD k step0) (by rw [List.getD, List.getElem?_eq_getElem hlt]; exact List.getElem_mem hlt)
        generalize u2.getD k step0 = x at g0 g1 g2 g3 hx hxo
        obtain ⟨xk, xr, xi, xs⟩ := x
        dsimp only at g0 g1 g2 g3 hx
        obtain ⟨A7, c7, rfl, -⟩ := hx.form
        have hal := (Below.refl wr.heap.size wr).alloc (Nat.le_refl _) (.cells #[.int .i64 xk, .int .i64 xr, .slice A7 xi.length c7, .int .i64 xs] 52)
        have hou := (HO4.out.same hb).alloc (.cells #[.int .i64 xk, .int .i64 xr, .slice A7 xi.length c7, .int .i64 xs] 52)
        obtain ⟨-, -, k2, -, -, k5, -, k7, -, -⟩ := ob_ten hou
        have hoX := Ob.new wr 52 #[.int .i64 xk, .int .i64 xr, .slice A7 xi.length c7, .int .i64 xs]
        have hba := hb.trans (hal.mono hbs)
        have hBa := hB4.trans (hba.mono hB4.size)
        have hx := hx.mono hal hal.size
        rcases hxo with ⟨hk1, hk2⟩ | ⟨hk1, hr0, hr1, hxi⟩ | ⟨hk1, hk2, hr0, hr1, hgl, hxi⟩
        · dsimp only at hk1 hk2
          subst hk1
          have ds : decide (xs = u1.state) = true := decide_eq_true hk2
          have ds2 : (xs == u1.state) = true := by rw [beq_iff_eq]; exact hk2
          have ds3 : (xs != u1.state) = false := by simp [bne, ds2]
          have HK2 := Lib.hid hk2
          clear hk2 hx hal hoX
          go_wp2
          go_roundw
          case rel => exact ⟨k + 1, by omega, by go_num, hba⟩
          case measure => simp [intOf]; omega
        · dsimp only at hk1 hr0 hr1 hxi
          subst hk1
          have dr0 : decide (xr < 0) = false := decide_eq_false (by omega)
          have dr1 : decide (xr ≥ u1.regions) = false := decide_eq_false (by omega)
          have HR := Lib.hid (And.intro hr0 hr1)
          clear hr0 hr1
          have HXI := Lib.hid hxi
          clear hxi
          have hdr : Below (wr.alloc (.cells #[.int .i64 3, .int .i64 xr, .slice A7 xi.length c7, .int .i64 xs] 52)).heap.size (wr.alloc (.cells #[.int .i64 3, .int .i64 xr, .slice A7 xi.length c7, .int .i64 xs] 52)) (wr.alloc (.cells #[.int .i64 3, .int .i64 xr, .slice A7 xi.length c7, .int .i64 xs] 52)).drew := (Below.refl _ _).drew
          have HQ := Lib.hid (fun V (h : Below (wr.alloc (.cells #[.int .i64 3, .int .i64 xr, .slice A7 xi.length c7, .int .i64 xs] 52)).drew.heap.size (wr.alloc (.cells #[.int .i64 3, .int .i64 xr, .slice A7 xi.length c7, .int .i64 xs] 52)).drew V) => show V.cell? ⟨wr.heap.size, 2, none⟩ = some (.slice A7 xi.length c7) ∧ Ob V W2.heap.size 27 (sagaC u1 (.slice D1 m1 e1) (.slice D2 m2 e2) (.slice D3 m3 e3)) from
            ⟨((hoX.same hdr).same h).cell rfl, (hou.same hdr).same h⟩)
          have cMm := Lib.hid (cM.out _ (hba.trans (hdr.mono hba.size)))
          have hxd := hx.mono hdr hdr.size
          have HBD := Lib.hid (hba.trans (hdr.mono hba.size))
          have hbas := hba.size
          clear hx hal hoX hdr hou k5 k7
          go_wp2
          refine Pu.regionM [(0, false), (1, false), (2, false), (3, true), (4, true), (5, false)] (fun Wq => Below (wr.alloc (.cells #[.int .i64 3, .int .i64 xr, .slice A7 xi.length c7, .int .i64 xs] 52)).drew.heap.size (wr.alloc (.cells #[.int .i64 3, .int .i64 xr, .slice A7 xi.length c7, .int .i64 xs] 52)).drew Wq) hmx (by kernel_rfl) (by kernel_rfl) (by kernel_rfl) (Below.refl _ _) rfl ?_
          simp only [Pu.named, List.filterMap_cons, List.filterMap_nil, List.getElem?_toArray, List.getElem?_cons_succ, List.getElem?_cons_zero, Option.map_some]
          iterate 3 (
            apply Pu.WalkM.on (by rfl)
            · intro V1 h1
              obtain ⟨q2, qo⟩ := HQ.out V1 h1
              go_wp2_with (refine wpList_load_obg (by rfl) _ _ rfl rfl _ qo Try.underlying27 rfl (by kernel_rfl) ?_)
              refine ⟨rfl, ?_, rfl⟩
              try simp only [Act.put, List.setIfInBounds_toArray, List.set_cons_succ, List.set_cons_zero]
              rfl
            simp only [Act.put, List.setIfInBounds_toArray, List.set_cons_succ, List.set_cons_zero])
          refine Pu.WalkM.make (by rfl) ?_
          rintro W rfl
          go_wp2_with (go_at_call 22; refine cMm.out.mono ?_; rintro e W6 ⟨⟨vm, rfl, hvm⟩, hb6⟩)
          obtain ⟨A9, c9, rfl, -⟩ := hvm.form
          have cQ := Lib.hid (refsame_calls xi (leftR u1.want u1.got) _ _ W6 (hxd.mono hb6 hb6.size) hvm)
          have HB6 := Lib.hid (HBD.out.trans (hb6.mono HBD.out.size))
          rw [decide_eq_true HXI.out] at cQ
          refine ⟨rfl, .slice A9 (leftR u1.want u1.got).length c9, _, (fun V => V = W6), ?_, rfl, (fun V h => by rw [h]; exact hb6), (.inr (fun _ h => h)), ?_⟩
          · simp only [Act.put, List.setIfInBounds_toArray, List.set_cons_succ, List.set_cons_zero]
          simp only [Act.put, List.setIfInBounds_toArray, List.set_cons_succ, List.set_cons_zero]
          refine Pu.WalkM.make (by rfl) ?_
          intro W hWJ
          cases hWJ.symm
          go_wp2_with (go_at_call 21; refine cQ.out.mono ?_; rintro e W7 ⟨rfl, hb7⟩)
          have HB7 := Lib.hid (HB6.out.trans (hb7.mono HB6.out.size))
          refine ⟨rfl, .bool true, _, (fun V => V = W7), ?_, rfl, (fun V h => by rw [h]; exact hb6.trans (hb7.mono hb6.size)), (.inr (fun _ h => h)), ?_⟩
          · simp only [Act.put, List.setIfInBounds_toArray, List.set_cons_succ, List.set_cons_zero]
          simp only [Act.put, List.setIfInBounds_toArray, List.set_cons_succ, List.set_cons_zero]
          apply Pu.WalkM.on (by rfl)
          · intro V1 h1
            go_wp2_with fail
            refine ⟨rfl, ?_, rfl⟩
            try simp only [Act.put, List.setIfInBounds_toArray, List.set_cons_succ, List.set_cons_zero]
            rfl
          simp only [Act.put, List.setIfInBounds_toArray, List.set_cons_succ, List.set_cons_zero]
          refine Pu.WalkM.nil ?_
          intro V hVJ
          cases hVJ.symm
          go_wp2
          go_roundw
          case rel => exact ⟨k + 1, by omega, by go_num, HB7.out⟩
          case measure => simp [intOf]; omega
        · dsimp only at hk1 hk2 hr0 hr1 hgl hxi
          have dk1 : decide (xk = 100) = false := decide_eq_false hk1
          have dk2 : (xk == 100) = false := by rw [beq_eq_false_iff_ne]; exact hk1
          have dk3 : decide (xk = 3) = false := decide_eq_false hk2
          have dk4 : (xk == 3) = false := by rw [beq_eq_false_iff_ne]; exact hk2
          have dr0 : decide (xr < 0) = false := decide_eq_false (by omega)
          have dr1 : decide (xr ≥ u1.regions) = false := decide_eq_false (by omega)
          obtain ⟨r, hr⟩ : ∃ r : Nat, xr = r := ⟨xr.toNat, by omega⟩
          have hrg : r < u1.got.length := by have := HT.out.got; omega
          subst hr
          rw [Int.toNat_natCast] at hgl
          have hgr := (hP4.out.later hba).got
          obtain ⟨Ag, cg, eg, hcg1, hcg2⟩ := hgr.form
          cases eg
          unfold maxLen at hcg2
          obtain ⟨p2, o2', x2, rfl, -, -, q2, hx2⟩ := hgr.cellAt hrg
          generalize u1.got.getD r [] = gl at hx2 hgl
          obtain ⟨A8, c8, rfl, -⟩ := hx2.form
          have dg : decide ((gl.length : Int) = 0) = false := decide_eq_false (by omega)
          have dg2 : ((gl.length : Int) == 0) = false := by rw [beq_eq_false_iff_ne]; omega
          have dg3 : ¬ gl.length = 0 := hgl
          subst hxi
          have hrr : ¬ ((r : Int) < 0) := by omega
          have HK := Lib.hid (And.intro hk1 hk2)
          clear hk1 hk2 hgl hx hal hoX hr0 hr1 hgr hx2
          simp only [List.length_nil] at *
          go_wp2
          go_roundw
          case rel => exact ⟨k + 1, by omega, by go_num, hba⟩
          case measure => simp [intOf]; omega
      · obtain rfl : k = u2.length := by omega
        have hd : decide ((u2.length : Int) < u2.length) = false := decide_eq_false (by omega)
        go_wp2
        go_ret
        exact ⟨rfl, hBr⟩
end Sa
end Go.Proofs.Ythfpfomifebpbaa

namespace Go.Proofs.Ythfpfomifebpbaa
open Go.ChangeShapes Go.WideShapes Go.ChangeAt Go.RowKit
namespace Sa
set_option maxRecDepth 100000 in
theorem sagaSteps_lifted (os : Os) (started : os.Started) (H : Type) (enc : TypeId × Value → H) :
    ReturnsInHanded {} Try.checked os 7 .any (Rows.sagaStepsSpec.pre6 enc Try.prog Try.f7 Rows.sagaStepsRow.domain false) (Rows.sagaStepsSpec.post enc Try.prog Try.f7 false true false false) := by
  refine returnsInHanded_of_change (C := Try.checked) own started (by kernel_rfl) Try.func7
    (ChangeSpec.witness6 (enc := enc) (C := Try.checked) false ⟨#[], #[.agg #[.int .i64 0, .int .i64 0, .int .i64 0, .slice none 0 0, .bool false, .int .i64 0, .int .i64 0, .slice none 0 0, .slice none 0 0, .bool false], .agg #[.int .i64 0, .int .i64 0, .slice none 0 0]], []⟩ 8 (by kernel_rfl) (by kernel_rfl) (by kernel_rfl) (by kernel_rfl)) ?_
  intro W base args ds gs before hval0 hW _ _
  have hval : ∀ (j : Nat) t v, Try.f7.params[j]? = some t → args[j]? = some v → Value.okWide Try.prog W .any base t v := hval0
  obtain ⟨p, q, hA0, hV, hps, hfz, hnd⟩ := id hW
  have hA : DataW.TrodAll enc Try.prog W 0 (fun _ => true) true Try.f7.params.toList args.toList ds p := hA0
  rw [Try.params7] at hA hval
  obtain ⟨v0, vs0, d0, ds0, p0, q0, hargs, rfl, rfl, h0, r0⟩ := trodAll_cons hA
  obtain ⟨v1, vs1, d1, ds1, p1, q1, rfl, rfl, rfl, h1, r1⟩ := trodAll_cons r0
  obtain ⟨rfl, rfl, rfl⟩ := trodAll_nil r1
  obtain rfl : args = #[v0, v1] := by cases args; simp_all
  obtain ⟨rfl, rfl⟩ := trodVars_none hV
  obtain ⟨s, sw, sg, sp, rfl, fs, hs⟩ := Sa.open_saga (hval 0 27 v0 rfl rfl) h0
  obtain ⟨e, ev, rfl, fe, he⟩ := Sa.open_event (hval 1 44 v1 rfl rfl) h1
  refine (steps_law s e _ _ _ _ W hs fs.fit he fe.2.2).mono fun e W' ⟨he, hb⟩ => ?_
  subst he
  exact ⟨_, rfl, law_post laidOut (by kernel_rfl) rfl Try.underlying4 rfl hW rfl hb⟩

theorem sagaSteps_holds : Rows.SagaStepsSaid :=
  OpenClaim.holds_of_wide 7 Try.f7 rfl rfl rfl rfl rfl rfl rfl ⟨rfl, rfl, rfl, rfl, rfl⟩ rfl rfl rfl rfl rfl (by kernel_rfl) Try.func7 (by kernel_rfl)
    (of_decide_eq_true (by kernel_rfl)) (by unfold Func.isWrapper; first | (rw [if_pos (by decide +kernel)]; kernel_rfl) | (rw [if_neg (by decide +kernel)]; exact ⟨rfl, rfl⟩))
    (fun os started H enc _ => sagaSteps_lifted os started H enc)

end Sa
end Go.Proofs.Ythfpfomifebpbaa
