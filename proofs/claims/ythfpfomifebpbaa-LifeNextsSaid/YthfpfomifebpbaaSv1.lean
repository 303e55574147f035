/-
  the document's answers on items: put.
  the document's answers on items: Norm.
  items: what the law's walk collects.
  items: what the laws Order, Parts and Walks say is true.
  saga: the document's Split, Missing.
  saga: plain laws of what is missing.
  saga: the document's May of plans, Holders, in.
  saga: plain: the program's May is the document's.
  saga: plain: who may be asked.
  saga: the document's May: where its head refuses.
  saga: the document's May: where its head holds.
  saga: the document's May.
-/
import Derived.Test.YthfpfomifebpbaaSs5
import Derived.Test.YthfpfomifebpbaaSs4
import Derived.Laws.OwnMore
import Derived.Deep.AppendLies
import Derived.Test.YthfpfomifebpbaaSs7

set_option linter.unusedVariables false
set_option linter.unusedSimpArgs false
namespace Go.Proofs.Ythfpfomifebpbaa
open Go.RowKit Go.Maps
namespace It

def putL (g : ByteArray) (n : Int) : List Item → List Item
  | [] => [(g, n)]
  | x :: r => if key x < g.data.toList then x :: putL g n r else if key x = g.data.toList then (x.1, n) :: r else (g, n) :: x :: r
theorem putL_new (g : ByteArray) (n : Int) : ∀ (l : List Item) (j : Nat), (∀ i (h : i < l.length), i < j → key l[i] < g.data.toList) → j ≤ l.length → (∀ h : j < l.length, ¬ key l[j] < g.data.toList ∧ key l[j] ≠ g.data.toList) →
    putL g n l = l.take j ++ [(g, n)] ++ l.drop j
  | [], j, _, hj, _ => by simp at hj; subst hj; rfl
  | x :: r, 0, _, _, h => by
    have := h (by simp)
    simp only [List.getElem_cons_zero] at this
    simp [putL, this.1, this.2]
  | x :: r, j + 1, h1, hj, h => by
    have h0 := h1 0 (by simp) (by omega)
    simp only [List.getElem_cons_zero] at h0
    unfold putL
    rw [if_pos h0, putL_new g n r j (fun i hi hij => h1 (i + 1) (by simpa using hi) (by omega)) (by simpa using hj) (fun hh => h (by simpa using hh))]
    rfl
theorem putL_set (g : ByteArray) (n : Int) : ∀ (l : List Item) (j : Nat), (∀ i (h : i < l.length), i < j → key l[i] < g.data.toList) → (h : j < l.length) → key l[j] = g.data.toList →
    putL g n l = l.set j (l[j].1, n)
  | [], j, _, hj, _ => absurd hj (by simp)
  | x :: r, 0, _, _, h => by
    simp only [List.getElem_cons_zero] at h
    unfold putL
    rw [if_neg (by rw [h]; exact bs_irr _), if_pos h]
    rfl
  | x :: r, j + 1, h1, hj, h => by
    have h0 := h1 0 (by simp) (by omega)
    simp only [List.getElem_cons_zero] at h0
    unfold putL
    rw [if_pos h0, putL_set g n r j (fun i hi hij => h1 (i + 1) (by simpa using hi) (by omega)) (by simpa using hj) (by simpa using h)]
    rfl
theorem putL_len (g : ByteArray) (n : Int) : ∀ l : List Item, (putL g n l).length ≤ l.length + 1
  | [] => by simp [putL]
  | x :: r => by
    unfold putL
    split
    · have := putL_len g n r; simp; omega
    · split <;> simp
theorem putL_mem (g : ByteArray) (n : Int) (x : Item) : ∀ l : List Item, l.Pairwise (fun a b => key a < key b) → (x ∈ putL g n l ↔ x = (g, n) ∨ (x ∈ l ∧ key x ≠ g.data.toList))
  | [], _ => by simp [putL]
  | y :: r, h => by
    have h' := List.pairwise_cons.1 h
    have hg : key ((g, n) : Item) = g.data.toList := rfl
    unfold putL
    split
    · rename_i hy
      have hne : key y ≠ g.data.toList := fun e => by rw [e] at hy; exact bs_irr _ hy
      rw [List.mem_cons, putL_mem g n x r h'.2, List.mem_cons]
      constructor
      · rintro (rfl | h | h)
        · exact .inr ⟨.inl rfl, hne⟩
        · exact .inl h
        · exact .inr ⟨.inr h.1, h.2⟩
      · rintro (h | ⟨rfl | h, h2⟩)
        · exact .inr (.inl h)
        · exact .inl rfl
        · exact .inr (.inr ⟨h, h2⟩)
    · have hr : ∀ z ∈ r, key z ≠ g.data.toList ∨ key y < g.data.toList := fun z hz => by
        by_cases hy : key y < g.data.toList
        · exact .inr hy
        · refine .inl fun e => hy ?_
          have := h'.1 z hz
          rwa [e] at this
      rename_i hy
      split
      · rename_i he
        have e1 : ((y.1, n) : Item) = (g, n) := key_item _ _ (show key y = key ((g, n) : Item) from he) rfl
        rw [e1, List.mem_cons, List.mem_cons]
        constructor
        · rintro (h | h)
          · exact .inl h
          · exact .inr ⟨.inr h, (hr x h).resolve_right hy⟩
        · rintro (h | ⟨rfl | h, h2⟩)
          · exact .inl h
          · exact absurd he h2
          · exact .inr h
      · rename_i he
        rw [List.mem_cons, List.mem_cons]
        constructor
        · rintro (h | rfl | h)
          · exact .inl h
          · exact .inr ⟨.inl rfl, he⟩
          · exact .inr ⟨.inr h, (hr x h).resolve_right hy⟩
        · rintro (h | ⟨rfl | h, h2⟩)
          · exact .inl h
          · exact .inr (.inl rfl)
          · exact .inr (.inr h)
theorem putL_sorted (g : ByteArray) (n : Int) : ∀ l : List Item, l.Pairwise (fun a b => key a < key b) → (putL g n l).Pairwise (fun a b => key a < key b)
  | [], _ => by simp [putL]
  | y :: r, h => by
    have h' := List.pairwise_cons.1 h
    unfold putL
    split
    · rename_i hy
      refine List.pairwise_cons.2 ⟨fun z hz => ?_, putL_sorted g n r h'.2⟩
      rcases (putL_mem g n z r h'.2).1 hz with rfl | ⟨h1, _⟩
      · exact hy
      · exact h'.1 z h1
    · split
      · exact List.pairwise_cons.2 ⟨fun z hz => h'.1 z hz, h'.2⟩
      · rename_i h1 h2
        have hlt : g.data.toList < key y := by
          rcases bs_tri (key y) g.data.toList with h | h | h
          · exact absurd h h1
          · exact absurd h h2
          · exact h
        refine List.pairwise_cons.2 ⟨fun z hz => ?_, h⟩
        rcases List.mem_cons.1 hz with rfl | hz
        · exact hlt
        · exact List.lt_trans hlt (h'.1 z hz)

theorem itemCells_take (l : List Item) (k : Nat) : itemCells (l.take k) = (itemCells l).take (k * 2) := by
  induction l generalizing k with
  | nil => simp [itemCells]
  | cons x r ih =>
    cases k with
    | zero => simp [itemCells]
    | succ k =>
      have e : (k + 1) * 2 = k * 2 + 1 + 1 := by omega
      simp only [itemCells, List.take_succ_cons, List.flatMap_cons, List.cons_append, List.nil_append, e] at ih ⊢
      rw [ih]
theorem itemCells_drop (l : List Item) (k : Nat) : itemCells (l.drop k) = (itemCells l).drop (k * 2) := by
  induction l generalizing k with
  | nil => simp [itemCells]
  | cons x r ih =>
    cases k with
    | zero => simp [itemCells]
    | succ k =>
      have e : (k + 1) * 2 = k * 2 + 1 + 1 := by omega
      simp only [itemCells, List.flatMap_cons, List.cons_append, List.nil_append, e, List.drop_succ_cons] at ih ⊢
      rw [ih]
theorem itemCells_set (l : List Item) (j : Nat) (hj : j < l.length) (n : Int) : itemCells (l.set j (l[j].1, n)) = (itemCells l).set (j * 2 + 1) (.int .i64 n) := by
  induction l generalizing j with
  | nil => simp at hj
  | cons x r ih =>
    cases j with
    | zero => rfl
    | succ j =>
      have e : (j + 1) * 2 + 1 = j * 2 + 1 + 1 + 1 := by omega
      have := ih j (by simpa using hj)
      simp only [List.set_cons_succ, List.getElem_cons_succ, itemCells, List.flatMap_cons, List.cons_append, List.nil_append, e] at this ⊢
      rw [this]

end It
end Go.Proofs.Ythfpfomifebpbaa

namespace Go.Proofs.Ythfpfomifebpbaa
open Go.RowKit Go.Maps
namespace It

def outN (L : List Item) (i : Nat) : List Item := (ksOf ((L.take i).map key)).filterMap (pick L)
theorem outN_sorted (L : List Item) (i : Nat) : (outN L i).Pairwise fun a b => key a < key b := by
  unfold outN
  rw [List.pairwise_filterMap]
  refine (ksOf_sorted ((L.take i).map key)).imp_of_mem fun {a b} _ _ h x hx y hy => ?_
  rw [(pick_some hx).1, (pick_some hy).1]
  exact h
theorem outN_mem (L : List Item) (i : Nat) (x : Item) : x ∈ outN L i ↔ key x ∈ (L.take i).map key ∧ x.2 = tot (key x) L ∧ 0 < x.2 := by
  unfold outN
  rw [List.mem_filterMap]
  constructor
  · rintro ⟨k, hk, hx⟩
    obtain ⟨rfl, h2, h3⟩ := pick_some hx
    exact ⟨(ksOf_mem _ _).1 hk, h2, h3⟩
  · rintro ⟨h1, h2, h3⟩
    refine ⟨key x, (ksOf_mem _ _).2 h1, ?_⟩
    unfold pick
    rw [← h2, if_pos h3, ← item_eta]
theorem outN_len (L : List Item) (i : Nat) : (outN L i).length ≤ i := by
  refine Nat.le_trans (List.length_filterMap_le _ _) ?_
  have h : ∀ l : List Bs, (ksOf l).length ≤ l.length := by
    intro l
    induction l with
    | nil => simp [ksOf]
    | cons y l ih =>
      have hk : ∀ (k : Bs) (r : List Bs), (insK k r).length ≤ r.length + 1 := by
        intro k r
        induction r with
        | nil => simp [insK]
        | cons z r ih => unfold insK; split; · simp
                         split; · simp
                         simp only [List.length_cons]; omega
      have := hk y (ksOf l)
      unfold ksOf at ih this ⊢
      rw [List.foldr_cons, List.length_cons]
      omega
  refine Nat.le_trans (h _) ?_
  rw [List.length_map, List.length_take]
  omega
theorem outN_put {L : List Item} {i : Nat} (h : i < L.length) (ht : 0 < tot (key L[i]) L) : putL L[i].1 (tot (key L[i]) L) (outN L i) = outN L (i + 1) := by
  refine uniq (r := fun a b : Item => key a < key b) (fun _ => bs_irr _) (fun _ _ => bs_asy _ _) (putL_sorted _ _ _ (outN_sorted L i)) (outN_sorted L (i + 1)) fun x => ?_
  rw [putL_mem _ _ _ _ (outN_sorted L i), outN_mem, outN_mem, List.take_succ_eq_append_getElem h, List.map_append, List.mem_append, List.map_singleton, List.mem_singleton]
  have hk : L[i].1.data.toList = key L[i] := rfl
  rw [hk]
  constructor
  · rintro (rfl | ⟨⟨h1, h2, h3⟩, _⟩)
    · exact ⟨.inr rfl, rfl, ht⟩
    · exact ⟨.inl h1, h2, h3⟩
  · rintro ⟨h1, h2, h3⟩
    by_cases e : key x = key L[i]
    · left
      refine key_item _ _ e ?_
      rw [h2, e]
    · exact .inr ⟨⟨h1.resolve_right e, h2, h3⟩, e⟩
theorem outN_skip {L : List Item} {i : Nat} (h : i < L.length) (ht : ¬ 0 < tot (key L[i]) L) : outN L (i + 1) = outN L i := by
  refine uniq (r := fun a b : Item => key a < key b) (fun _ => bs_irr _) (fun _ _ => bs_asy _ _) (outN_sorted L (i + 1)) (outN_sorted L i) fun x => ?_
  rw [outN_mem, outN_mem, List.take_succ_eq_append_getElem h, List.map_append, List.mem_append, List.map_singleton, List.mem_singleton]
  constructor
  · rintro ⟨h1, h2, h3⟩
    refine ⟨h1.resolve_right fun e => ht ?_, h2, h3⟩
    rw [← e, ← h2]; exact h3
  · rintro ⟨h1, h2, h3⟩
    exact ⟨.inl h1, h2, h3⟩
theorem outN_all (L : List Item) : outN L L.length = normL L := by unfold outN normL; rw [List.take_length]
theorem tot_take_le {L : List Item} (h : L.all okC = true) (k : Bs) (j : Nat) : 0 ≤ tot k (L.take j) ∧ tot k (L.take j) ≤ tot k L := by
  have h1 : (L.take j).all okC = true := all_prefix (List.take_prefix _ _) h
  have h2 : (L.drop j).all okC = true := by
    rw [← List.take_append_drop j L, List.all_append, Bool.and_eq_true] at h
    exact h.2
  have h3 := tot_append k (L.take j) (L.drop j)
  rw [List.take_append_drop] at h3
  have := tot_nonneg k _ h1
  have := tot_nonneg k _ h2
  omega
theorem okC_false {L : List Item} {i : Nat} (h : i < L.length) (hf : okC L[i] = false) : L.all okC = false := by
  rw [List.all_eq_false]
  exact ⟨L[i], List.getElem_mem h, by simp [hf]⟩

theorem own_form {w : World} {lo : Nat} {e : TypeId} {size n : Nat} {v : Value} {xs : List Value} (h : w.ownsRow lo e size v n xs) : v = .slice none 0 0 ∨ ∃ b o n c, v = .slice (some ⟨b, o, none⟩) n c := by
  rcases h.2 with ⟨rfl, _⟩ | ⟨g, cap, cur, rfl, _⟩
  · rcases Nat.eq_zero_or_pos n with h0 | h0
    · exact .inl rfl
    · exact .inl rfl
  · exact .inr ⟨_, _, _, _, rfl⟩

end It
end Go.Proofs.Ythfpfomifebpbaa

namespace Go.Proofs.Ythfpfomifebpbaa
open Go.RowKit Go.Maps
namespace It
attribute [local go_sem] Oper.semAt_some

theorem eql_nil (b : Nat) (w : World) : (binOp .eql 95 (.func (.func 87) #[] #[.pointer (some ⟨b, 0, none⟩)]) .nilFunc).run Try.prog w = .ok (.bool false) w := by kernel_rfl

/-- how far a walk goes that stops at so many -/
def upTo (most : Int) (L : List Item) : List Item := if 1 ≤ most ∧ most ≤ L.length then L.take most.toNat else L

end It
end Go.Proofs.Ythfpfomifebpbaa

namespace Go.Proofs.Ythfpfomifebpbaa
open Go.RowKit Go.Maps
namespace It

set_option maxHeartbeats 400000 in
theorem refmeet_calls (a b : List Item) (va vb : Value) (w : World) (ha : ItemsAt w 0 w.heap.size va a) (hb : ItemsAt w 0 w.heap.size vb b) (hla : a.length ≤ 1000000) :
    Calls Try.prog 62 #[va, vb] w fun e w' =>
      (∃ v, e = .returned v ∧ w'.ownsRow w.heap.size 41 2 v (eachL meetF a b).length (itemCells (eachL meetF a b))) ∧ Below w.heap.size w w' := by
  have cE := Lib.hid (refboth_calls 1 meetF (.inl ⟨rfl, rfl⟩) a b va vb w ha hb hla)
  obtain ⟨A, c, rfl, -⟩ := ha.form
  obtain ⟨A', c', rfl, -⟩ := hb.form
  generalize eachL meetF a b = R at *
  go_enter Try.func62, Try.ntmps62
  go_wp2_with fail
  refine cE.out.mono ?_
  rintro e w1 ⟨⟨v, rfl, h1⟩, h2⟩
  obtain ⟨A1, c1, rfl, -⟩ := (ItemsAt.of_own h1).form
  go_wp2
  go_ret
  exact ⟨⟨_, rfl, h1⟩, h2⟩
set_option maxHeartbeats 400000 in
theorem refrest_calls (a b : List Item) (va vb : Value) (w : World) (ha : ItemsAt w 0 w.heap.size va a) (hb : ItemsAt w 0 w.heap.size vb b) (hla : a.length ≤ 1000000) :
    Calls Try.prog 63 #[va, vb] w fun e w' =>
      (∃ v, e = .returned v ∧ w'.ownsRow w.heap.size 41 2 v (eachL restF a b).length (itemCells (eachL restF a b))) ∧ Below w.heap.size w w' := by
  have cE := Lib.hid (refboth_calls 2 restF (.inr ⟨rfl, rfl⟩) a b va vb w ha hb hla)
  obtain ⟨A, c, rfl, -⟩ := ha.form
  obtain ⟨A', c', rfl, -⟩ := hb.form
  generalize eachL restF a b = R at *
  go_enter Try.func63, Try.ntmps63
  go_wp2_with fail
  refine cE.out.mono ?_
  rintro e w1 ⟨⟨v, rfl, h1⟩, h2⟩
  obtain ⟨A1, c1, rfl, -⟩ := (ItemsAt.of_own h1).form
  go_wp2
  go_ret
  exact ⟨⟨_, rfl, h1⟩, h2⟩

theorem M.fits {l : List Item} (h : M l) : Fits l := fun x hx => by
  have h1 := h.ok x hx
  have h2 := h1.1
  unfold good at h2
  simp only [Bool.and_eq_true, decide_eq_true_eq] at h2
  refine ⟨Nat.le_trans h2.2 (by unfold maxLen; omega), by omega, by omega⟩

end It
end Go.Proofs.Ythfpfomifebpbaa

namespace Go.Proofs.Ythfpfomifebpbaa
open Go.RowKit Go.Maps
namespace Sa
open It
set_option linter.unusedSimpArgs false

def leftR (want : List It.Item) (L : List (List It.Item)) : List It.Item := L.foldl (fun l o => It.eachL restF l (It.eachL meetF l o)) want
theorem leftR_succ (want : List It.Item) (L : List (List It.Item)) {k : Nat} (hk : k < L.length) : leftR want (L.take (k + 1)) = It.eachL restF (leftR want (L.take k)) (It.eachL meetF (leftR want (L.take k)) (L.getD k [])) := by
  unfold leftR
  rw [List.take_succ_eq_append_getElem hk, List.foldl_append, getD_get hk]
  rfl
theorem itEach_le (f : Int → Int → Int) (a b : List It.Item) : (It.eachL f a b).length ≤ a.length := List.length_filterMap_le _ _
theorem leftR_len (want : List It.Item) (L : List (List It.Item)) : (leftR want L).length ≤ want.length := by
  induction L generalizing want with
  | nil => exact Nat.le_refl _
  | cons o L ih => exact Nat.le_trans (ih _) (itEach_le _ _ _)

set_option maxRecDepth 100000 in
set_option maxHeartbeats 2000000 in
theorem refsplit_calls (want : List It.Item) (L : List (List It.Item)) (va vb : Value) (w : World) (ha : ItemsAt w 0 w.heap.size va want) (hb : GotAt w 0 w.heap.size vb L) (hwl : want.length ≤ 1000000) (hll : L.length ≤ 1000000) :
    Calls Try.prog 37 #[va, vb] w fun e w' => (∃ vo vl, e = .returned (.tuple #[vo, vl]) ∧ ItemsAt w' 0 w'.heap.size vl (leftR want L)) ∧ Below w.heap.size w w' := by
  obtain ⟨i0, hi0, hz0⟩ := Option.map_eq_some_iff.1 list_info
  simp only [Prod.mk.injEq] at hz0
  obtain ⟨hz0, hz1, hz2⟩ := hz0
  have hb0 := Lib.hid hb
  obtain ⟨A, c, rfl, -⟩ := ha.form
  obtain ⟨A', c', rfl, hc1, hc2⟩ := hb.form
  unfold maxLen at hc2
  have ha0 := Lib.hid ha
  clear ha hb
  go_enter Try.func37, Try.ntmps37
  go_wp2
  go_loopw [0, 6, 7, 8] (fun vl vo i _ wr => ∃ (k : Nat) (vs : List Value), k ≤ L.length ∧ i = .int .i64 k ∧ ItemsAt wr 0 wr.heap.size vl (leftR want (L.take k)) ∧ wr.ownsRow w.heap.size 22 1 vo k vs ∧ Below w.heap.size w wr) (fun _ _ i _ _ => L.length - (intOf i).toNat)
  case atStart => exact ⟨0, [], by omega, rfl, ha0.out, World.ownsRow_nil _ _ _ _, Below.refl _ _⟩
  case round =>
    obtain ⟨k, vs, hk, rfl, hvl, hvo, hb⟩ := hrel
    have hlow := fun g e => hvo.lt g e
    by_cases hlt : k < L.length
    · have hd : decide ((k : Int) < L.length) = true := by simp; omega
      obtain ⟨b, o, x, rfl, _, hbB, hck, hx⟩ := (hb0.out.below hb).cellAt hlt
      have hx := hx.wide (Nat.le_refl _) hb.size
      have HS := Lib.hid (leftR_succ want L hlt)
      have HL := Lib.hid (leftR_len want (L.take k))
      generalize L.getD k [] = y at hx HS
      generalize leftR want (L.take k) = left at hvl HL HS
      obtain ⟨A1, c1, rfl, -⟩ := hx.form
      obtain ⟨A3, c3, rfl, -⟩ := hvl.form
      have hll1 : left.length ≤ 1000000 := Nat.le_trans HL.out hwl
      have cMe := Lib.hid (refmeet_calls left y _ _ wr hvl hx hll1)
      clear hx
      go_wp2_with fail
      refine cMe.out.mono ?_
      rintro e w3 ⟨⟨v3, rfl, hv3⟩, hb3⟩
      clear cMe
      have hg3 := (ItemsAt.of_own hv3).wide (Nat.zero_le _) (Nat.le_refl _)
      obtain ⟨A4, c4, rfl, -⟩ := hg3.form
      have cRe := Lib.hid (refrest_calls left (It.eachL meetF left y) _ _ w3 (ItemsAt.mono hvl hb3 hb3.size) hg3 hll1)
      clear hg3 hvl
      go_wp2_with fail
      refine cRe.out.mono ?_
      rintro e w4 ⟨⟨v4, rfl, hv4⟩, hb4⟩
      clear cRe
      have hb34 := hb3.trans (hb4.mono hb3.size)
      have hvo4 := row_later hvo hb34
      obtain ⟨A5, c5, rfl, -⟩ := (ItemsAt.of_own hv4).form
      have hal := (Below.refl w4.heap.size w4).alloc (Nat.le_refl _) (.cells #[.slice A4 (It.eachL meetF left y).length c4] 22)
      have hva := row_later hvo4 hal
      have hvl5 := row_later hv4 hal
      have hob := Ob.new w4 22 #[.slice A4 (It.eachL meetF left y).length c4]
      have hba := (hb.trans (hb34.mono hb.size)).trans (hal.mono (by have := hb.size; have := hb34.size; omega))
      go_wp2_with (at_builtin; go_must (refine wpList_append_own _ rfl (.tmp 24) (.tmp 26) 24 rfl w.heap.size 22 i0 _ 1 24 Try.underlying24 hi0 hz0 hz1 hz2 rfl (by omega) _ k _ rfl hva ⟨w4.heap.size, 0, none⟩ 1 1 [.slice A4 (It.eachL meetF left y).length c4] rfl rfl (fun j u hu => by rw [add_mid, Nat.zero_add]; exact hob.cell (by simpa using hu)) (by simp [Value.oneCell']) (by unfold maxLen; omega) (by omega) hba.size ?_; intro v1 w1 hv1 hg1 hat1))
      have hrow : ItemsAt w1 0 w1.heap.size (.slice A5 (It.eachL restF left (It.eachL meetF left y)).length c5) (It.eachL restF left (It.eachL meetF left y)) := by
        have h34 := hb3.size
        have h1 := hb.size
        refine (ItemsAt.of_own (hvl5.kept hg1 ?_)).wide (Nat.zero_le _) (Nat.le_refl _)
        cases hq : Value.ownBlock (.slice A5 (It.eachL restF left (It.eachL meetF left y)).length c5) with
        | none => exact .inl rfl
        | some g =>
          refine .inr fun e => ?_
          have := (hvl5.lt g hq).1
          have := hlow g e.symm
          omega
      exact ⟨⟨k + 1, _, by omega, by go_num, by rw [HS.out]; exact hrow, hv1, hba.grown hg1 hba.size (fun g e => (hlow g e).1)⟩, by simp [intOf]; omega⟩
    · obtain rfl : k = L.length := by omega
      have hd : decide ((L.length : Int) < L.length) = false := decide_eq_false (by omega)
      rw [List.take_length] at hvl
      obtain ⟨A3, c3, rfl, -⟩ := hvl.form
      go_wp2
      go_ret2
      exact ⟨⟨_, _, rfl, hvl⟩, hb⟩

theorem refmissing_calls (s : Saga) (vw vg vp : Value) (w : World) (h : Parts w 0 w.heap.size s vw vg vp) (hwl : s.want.length ≤ 1000000) (hll : s.got.length ≤ 1000000) :
    Calls Try.prog 22 #[.agg (sagaC s vw vg vp)] w fun e w' => (∃ vl, e = .returned vl ∧ ItemsAt w' 0 w'.heap.size vl (leftR s.want s.got)) ∧ Below w.heap.size w w' := by
  have cM := Lib.hid (fun W (hb : Below w.heap.size w W) => refsplit_calls s.want s.got vw vg W (h.later hb).want (h.later hb).got hwl hll)
  obtain ⟨A, c, rfl, -⟩ := h.want.form
  obtain ⟨A', c', rfl, -⟩ := h.got.form
  obtain ⟨A2, c2, rfl, -⟩ := h.pend.form
  clear h
  unfold sagaC
  have hB := (Below.refl _ w).alloc (Nat.le_refl _) (.cells #[.int .i64 s.order, .int .i64 s.first, .int .i64 s.regions, .slice A s.want.length c, .bool s.waits, .int .i64 s.state, .int .i64 s.asked, .slice A' s.got.length c', .slice A2 s.pending.length c2, .bool s.cancelled] 27)
  go_enter Try.func22, Try.ntmps22
  go_wp2_with fail
  refine (cM.out _ hB).mono ?_
  rintro e w1 ⟨⟨vo, vl, rfl, hv⟩, hb⟩
  obtain ⟨A1, c1, rfl, -⟩ := hv.form
  go_wp2
  go_ret
  exact ⟨⟨_, rfl, hv⟩, hB.trans (hb.mono hB.size)⟩

/-- is a saga not too large to be looked at? -/
def smallS (s : Saga) : Bool := decide (s.want.length ≤ 50) && decide (s.got.length ≤ 50) && decide (s.pending.length ≤ 50) && s.got.all fun l => decide (l.length ≤ 50)
set_option maxRecDepth 100000 in
set_option maxHeartbeats 2000000 in
theorem small_calls (s : Saga) (vw vg vp : Value) (w : World) (h : Parts w 0 w.heap.size s vw vg vp) :
    Calls Try.prog 19 #[.agg (sagaC s vw vg vp)] w fun e w' => e = .returned (.bool (smallS s)) ∧ Below w.heap.size w w' := by
  have hg0 := Lib.hid h.got
  obtain ⟨A, c, rfl, -⟩ := h.want.form
  obtain ⟨A', c', rfl, hc1, hc2⟩ := h.got.form
  obtain ⟨A2, c2, rfl, -⟩ := h.pend.form
  unfold maxLen at hc2
  clear h
  unfold sagaC
  have hB := (Below.refl _ w).alloc (Nat.le_refl _) (.cells #[.int .i64 s.order, .int .i64 s.first, .int .i64 s.regions, .slice A s.want.length c, .bool s.waits, .int .i64 s.state, .int .i64 s.asked, .slice A' s.got.length c', .slice A2 s.pending.length c2, .bool s.cancelled] 27)
  by_cases h1 : s.want.length ≤ 50
  rotate_left
  · have d1 : decide ((s.want.length : Int) > 50) = true := decide_eq_true (by omega)
    have hs : smallS s = false := by
      unfold smallS
      rw [decide_eq_false (show ¬ s.want.length ≤ 50 from h1)]
      simp
    rw [hs]
    clear hs h1
    go_enter Try.func19, Try.ntmps19
    go_wp2
    go_ret
    exact ⟨rfl, hB⟩
  have d1 : decide ((s.want.length : Int) > 50) = false := decide_eq_false (by omega)
  by_cases h2 : s.got.length ≤ 50
  rotate_left
  · have d2 : decide ((s.got.length : Int) > 50) = true := decide_eq_true (by omega)
    have hs : smallS s = false := by
      unfold smallS
      rw [decide_eq_false (show ¬ s.got.length ≤ 50 from h2)]
      simp
    rw [hs]
    clear hs h2
    go_enter Try.func19, Try.ntmps19
    go_wp2
    go_ret
    exact ⟨rfl, hB⟩
  have d2 : decide ((s.got.length : Int) > 50) = false := decide_eq_false (by omega)
  by_cases h3 : s.pending.length ≤ 50
  rotate_left
  · have d3 : decide ((s.pending.length : Int) > 50) = true := decide_eq_true (by omega)
    have hs : smallS s = false := by
      unfold smallS
      rw [decide_eq_false (show ¬ s.pending.length ≤ 50 from h3)]
      simp
    rw [hs]
    clear hs h3
    go_enter Try.func19, Try.ntmps19
    go_wp2
    go_ret
    exact ⟨rfl, hB⟩
  have d3 : decide ((s.pending.length : Int) > 50) = false := decide_eq_false (by omega)
  have hs : smallS s = s.got.all fun l => decide (l.length ≤ 50) := by
    unfold smallS
    rw [decide_eq_true h1, decide_eq_true h2, decide_eq_true h3]
    simp
  have HS := Lib.hid hs
  clear hs h1 h2 h3
  go_enter Try.func19, Try.ntmps19
  go_wp2
  go_loop [3] (fun i => ∃ k : Nat, k ≤ s.got.length ∧ i = .int .i64 k ∧ ∀ j, j < k → (s.got.getD j []).length ≤ 50) (fun i => s.got.length - (intOf i).toNat)
  case atStart => exact ⟨0, by omega, rfl, fun j hj => by omega⟩
  case round =>
    obtain ⟨k, hk, rfl, hN⟩ := hrel
    have HN := Lib.hid hN
    clear hN
    by_cases hlt : k < s.got.length
    · have hd : decide ((k : Int) < s.got.length) = true := decide_eq_true (by omega)
      obtain ⟨b, o, x, rfl, _, hbB, hck, hx⟩ := hg0.out.cellAt hlt
      have hck := (hB.cell (p := ⟨b, o + k, none⟩) hbB).trans hck
      have hno : ¬ (s.got.getD k []).length ≤ 50 → smallS s = false := fun h => by
        rw [HS.out, Bool.eq_false_iff]
        intro e
        have := List.all_eq_true.1 e _ (List.getElem_mem hlt)
        rw [getD_get hlt] at h
        exact h (of_decide_eq_true this)
      have hye : (s.got.getD k []).length ≤ 50 → ∀ j, j < k + 1 → (s.got.getD j []).length ≤ 50 := fun h => allTo_snoc HN.out h
      generalize s.got.getD k [] = y at hx hno hye
      obtain ⟨A1, c1, rfl, -⟩ := hx.form
      have HNO := Lib.hid hno
      have HYE := Lib.hid hye
      clear hno hye hx
      by_cases hy : y.length ≤ 50
      · have dy : decide ((y.length : Int) > 50) = false := decide_eq_false (by omega)
        have HY := Lib.hid hy
        clear hy
        go_wp2
        go_round
        case rel => exact ⟨k + 1, by omega, by go_num, HYE.out HY.out⟩
        case measure => simp [intOf]; omega
      · have dy : decide ((y.length : Int) > 50) = true := decide_eq_true (by omega)
        have HY := Lib.hid hy
        clear hy
        go_wp2
        go_ret
        exact ⟨by rw [HNO.out HY.out]; rfl, hB⟩
    · obtain rfl : k = s.got.length := by omega
      have hd : decide ((s.got.length : Int) < s.got.length) = false := decide_eq_false (by omega)
      have hs : smallS s = true := by
        rw [HS.out, List.all_eq_true]
        intro l hl
        obtain ⟨i, hi, rfl⟩ := List.getElem_of_mem hl
        have := HN.out i hi
        rw [getD_get hi] at this
        exact decide_eq_true this
      have HS2 := Lib.hid hs
      clear hs
      go_wp2
      go_ret
      exact ⟨by rw [HS2.out]; rfl, hB⟩
end Sa
end Go.Proofs.Ythfpfomifebpbaa

namespace Go.Proofs.Ythfpfomifebpbaa
open Go.RowKit Go.Maps
namespace Sa
open It

def sumT (k : Bs) (L : List (List It.Item)) : Int := L.foldr (fun l n => tot k l + n) 0
theorem sumT_cons (k : Bs) (l : List It.Item) (L : List (List It.Item)) : sumT k (l :: L) = tot k l + sumT k L := rfl
theorem sumT_nonneg {k : Bs} : ∀ {L : List (List It.Item)}, (∀ l ∈ L, M l) → 0 ≤ sumT k L
  | [], _ => Int.le_refl _
  | l :: L, h => by
    have h1 := (h l (by simp)).nonneg k
    have h2 := sumT_nonneg (k := k) fun x hx => h x (List.mem_cons_of_mem _ hx)
    rw [sumT_cons]
    omega
theorem sumT_set {k : Bs} {l : List It.Item} : ∀ {L : List (List It.Item)} {r : Nat}, r < L.length → sumT k (L.set r l) = sumT k L - tot k (L.getD r []) + tot k l
  | [], r, h => by simp at h
  | x :: L, 0, _ => by simp only [List.set_cons_zero, sumT_cons, List.getD_cons_zero]; omega
  | x :: L, r + 1, h => by
    have := sumT_set (k := k) (l := l) (L := L) (r := r) (by simpa using h)
    simp only [List.set_cons_succ, sumT_cons, List.getD_cons_succ]
    omega
theorem meetrest_M {a b : List It.Item} (ha : M a) (hb : M b) : M (It.eachL restF a (It.eachL meetF a b)) ∧ ∀ k, tot k (It.eachL restF a (It.eachL meetF a b)) = max 0 (tot k a - tot k b) := by
  have hm := meet_M ha hb
  refine ⟨rest_M ha hm, fun k => ?_⟩
  rw [rest_tot ha hm, meet_tot ha hb]
  have := ha.nonneg k
  have := hb.nonneg k
  omega
theorem leftR_M : ∀ {L : List (List It.Item)} {want : List It.Item}, M want → (∀ l ∈ L, M l) → M (leftR want L) ∧ ∀ k, tot k (leftR want L) = max 0 (tot k want - sumT k L)
  | [], want, hw, _ => ⟨hw, fun k => by
      have := hw.nonneg k
      show tot k want = max 0 (tot k want - 0)
      omega⟩
  | l :: L, want, hw, hL => by
    obtain ⟨h1, h2⟩ := meetrest_M hw (hL l (by simp))
    obtain ⟨h3, h4⟩ := leftR_M (L := L) h1 fun x hx => hL x (List.mem_cons_of_mem _ hx)
    refine ⟨h3, fun k => ?_⟩
    have h5 := h4 k
    rw [h2 k] at h5
    have h6 := sumT_nonneg (k := k) (L := L) fun x hx => hL x (List.mem_cons_of_mem _ hx)
    have h7 := (hL l (by simp)).nonneg k
    show tot k (leftR _ L) = _
    rw [h5, sumT_cons]
    omega
theorem M_nil : M ([] : List It.Item) := (may_iff []).1 (by decide +kernel)
theorem M_of {l : List It.Item} (h : may l = true) : M l := (may_iff l).1 h
theorem leftOf_R : ∀ {L : List (List It.Item)} {want : List It.Item}, M want → (∀ l ∈ L, M l) → leftOf want L = leftR want L
  | [], want, _, _ => rfl
  | l :: L, want, hw, hL => by
    have hl := hL l (by simp)
    have h1 := meetrest_M hw hl
    have e : both restF want (both meetF want l) = It.eachL restF want (It.eachL meetF want l) := by rw [both_of hw hl, both_of hw (meet_M hw hl)]
    show leftOf (both restF want (both meetF want l)) L = _
    rw [e]
    exact leftOf_R h1.1 fun x hx => hL x (List.mem_cons_of_mem _ hx)
theorem mayS_M {s : Saga} (h : mayS s = true) : M s.want ∧ (∀ l ∈ s.got, M l) ∧ s.got.length ≤ 8 := by
  obtain ⟨hh, -⟩ := mayS_split h
  exact ⟨M_of hh.may, fun l hl => M_of (mayGot_all hh.kept l hl), by have := hh.got; have := hh.r2; omega⟩
theorem missing_R {want : List It.Item} {L : List (List It.Item)} (hw : M want) (hL : ∀ l ∈ L, M l) (h8 : L.length ≤ 8) : missing want L = leftR want L := by
  have hm : mayAll want L = true := by
    unfold mayAll
    simp only [Bool.and_eq_true, decide_eq_true_eq]
    refine ⟨⟨(may_iff want).2 hw, by omega⟩, ?_⟩
    first
      | (rw [List.all_eq_true]; exact fun l hl => (may_iff l).2 (hL l hl))
      | (simp; exact fun l hl => (may_iff l).2 (hL l hl))
  unfold missing
  rw [if_pos hm]
  exact leftOf_R hw hL
/-- what is missing when a region that held nothing holds something -/
theorem left_set {want l : List It.Item} {L : List (List It.Item)} {r : Nat} (hw : M want) (hL : ∀ x ∈ L, M x) (hl : M l) (hr : r < L.length) (h0 : L.getD r [] = []) : It.eachL restF (leftR want L) l = leftR want (L.set r l) := by
  obtain ⟨h1, h2⟩ := leftR_M hw hL
  have hL' : ∀ x ∈ L.set r l, M x := fun x hx => by
    rcases List.mem_or_eq_of_mem_set hx with h | rfl
    · exact hL x h
    · exact hl
  obtain ⟨h3, h4⟩ := leftR_M hw hL'
  refine M.ext (rest_M h1 hl) h3 fun k => ?_
  rw [rest_tot h1 hl, h2, h4, sumT_set hr, h0]
  have := hl.nonneg k
  have e : tot k ([] : List It.Item) = 0 := rfl
  rw [e]
  omega
theorem visit_at {f r : Int} {i : Nat} (h : i < (visit f r).length) : (visit f r)[i] = (f + (i : Int)) % r ∧ (i : Int) < r ∧ 0 ≤ f ∧ f < r := by
  have hv : ¬ (r < 1 ∨ 8 < r ∨ f < 0 ∨ r ≤ f) := fun hb => by
    have h' := h
    rw [visit_none hb] at h'
    simp at h'
  have hl : (visit f r).length = r.toNat := by rw [visit_some hv]; simp
  refine ⟨?_, by omega, by omega, by omega⟩
  have : (visit f r)[i]? = some ((f + (i : Int)) % r) := by
    rw [visit_some hv, List.getElem?_map, List.getElem?_range (by omega)]
    rfl
  rw [List.getElem?_eq_getElem h] at this
  exact Option.some.inj this
theorem visit_inj {f r : Int} {i j : Nat} (hi : i < (visit f r).length) (hj : j < (visit f r).length) (h : (visit f r)[i] = (visit f r)[j]) : i = j := by
  obtain ⟨e1, h1, h2, h3⟩ := visit_at hi
  obtain ⟨e2, h4, -, -⟩ := visit_at hj
  rw [e1, e2] at h
  have hm : ∀ x : Int, 0 ≤ x → x < 2 * r → x % r = if x < r then x else x - r := fun x hx0 hx => by
    split
    · exact Int.emod_eq_of_lt hx0 (by omega)
    · rw [show x = (x - r) + r by omega, Int.add_emod_right]
      rw [show (x - r) + r - r = x - r by omega]
      exact Int.emod_eq_of_lt (by omega) (by omega)
  rw [hm _ (by omega) (by omega), hm _ (by omega) (by omega)] at h
  split at h <;> split at h <;> omega
theorem sorted_mem {x : Int} {l : List Int} : x ∈ sorted l ↔ x ∈ l := by unfold sorted; exact List.mem_mergeSort
/-- a region that is asked holds nothing yet -/
theorem asked_none {s : Saga} (h : mayS s = true) (h1 : s.state = 1) {x : Int} (hx : x ∈ s.pending) : s.got.getD x.toNat [] = [] := by
  obtain ⟨hh, hb⟩ := mayS_split h
  rw [h1] at hb
  unfold bodyAt at hb
  rw [if_pos rfl] at hb
  simp only [Bool.and_eq_true, decide_eq_true_eq] at hb
  obtain ⟨⟨-, hp⟩, hr⟩ := hb
  obtain ⟨a, ha⟩ : ∃ a : Nat, (s.asked - 1).toNat = a := ⟨_, rfl⟩
  rw [ha] at hp hr
  have hva : a < (visit s.first s.regions).length := by
    have := hh.visit
    have := hh.a1
    have := hh.a2
    omega
  rw [hp] at hx
  have hx' : x = (visit s.first s.regions)[a] := by
    rw [List.drop_eq_getElem_cons hva, List.take_succ_cons, List.take_zero] at hx
    exact List.mem_singleton.1 hx
  apply Decidable.byContradiction
  intro hne
  have hx0 := visit_mem (hx' ▸ List.getElem_mem hva : x ∈ visit s.first s.regions)
  have hmem : x ∈ holders s.got := by
    unfold holders holdersTo
    refine List.mem_map.2 ⟨x.toNat, List.mem_filter.2 ⟨List.mem_range.2 (by have := hh.got; omega), ?_⟩, by omega⟩
    rw [decide_eq_true_eq]
    exact Nat.pos_of_ne_zero fun e => hne (List.eq_nil_of_length_eq_zero e)
  have hs := sorted_mem.1 (rises_mem hr hmem)
  obtain ⟨i, hi, e⟩ := List.getElem_of_mem hs
  rw [List.length_take] at hi
  rw [List.getElem_take] at e
  have := visit_inj (by omega) hva (e.trans hx')
  omega
end Sa
end Go.Proofs.Ythfpfomifebpbaa

namespace Go.Proofs.Ythfpfomifebpbaa
open Go.RowKit Go.Maps
namespace Sa
open It
set_option linter.unusedSimpArgs false

set_option maxRecDepth 100000 in
set_option maxHeartbeats 2000000 in
theorem refmay14_calls (want : List It.Item) (L : List (List It.Item)) (va vb : Value) (w : World) (ha : ItemsAt w 0 w.heap.size va want) (hFa : Fits want) (hb : GotAt w 0 w.heap.size vb L) (hFb : FitsL L) :
    Calls Try.prog 44 #[va, vb] w fun e w' => e = .returned (.bool (mayAll want L)) ∧ Below w.heap.size w w' := by
  have cM := Lib.hid (refmay_calls want va w ha hFa)
  have hb0 := Lib.hid hb
  have HF := Lib.hid hFb
  obtain ⟨A, c, rfl, -⟩ := ha.form
  obtain ⟨A', c', rfl, hc1, hc2⟩ := hb.form
  unfold maxLen at hc2
  clear ha hb hFa hFb
  cases hw : may want with
  | false =>
    rw [hw] at cM
    rw [show mayAll want L = false by unfold mayAll; rw [hw]; rfl]
    clear hw
    go_enter Try.func44, Try.ntmps44
    go_wp2_with fail
    refine cM.out.mono ?_
    rintro e w1 ⟨rfl, hb1⟩
    go_wp2
    go_ret
    exact ⟨rfl, hb1⟩
  | true =>
    rw [hw] at cM
    have HW := Lib.hid hw
    clear hw
    by_cases h8 : L.length ≤ 8
    rotate_left
    · have d8 : decide ((L.length : Int) > 8) = true := decide_eq_true (by omega)
      rw [show mayAll want L = false by unfold mayAll; rw [decide_eq_false h8]; simp]
      clear h8
      go_enter Try.func44, Try.ntmps44
      go_wp2_with fail
      refine cM.out.mono ?_
      rintro e w1 ⟨rfl, hb1⟩
      go_wp2
      go_ret
      exact ⟨rfl, hb1⟩
    have d8 : decide ((L.length : Int) > 8) = false := decide_eq_false (by omega)
    have HA := Lib.hid (show mayAll want L = L.all may by unfold mayAll; rw [HW.out, decide_eq_true h8]; rfl)
    go_enter Try.func44, Try.ntmps44
    go_wp2_with fail
    refine cM.out.mono ?_
    rintro e w1 ⟨rfl, hb1⟩
    go_wp2
    go_loopw [5] (fun i wr => ∃ k : Nat, k ≤ L.length ∧ i = .int .i64 k ∧ (∀ j, j < k → may (L.getD j []) = true) ∧ Below w.heap.size w wr) (fun i _ => L.length - (intOf i).toNat)
    case atStart => exact ⟨0, by omega, rfl, (fun j hj => by omega), hb1⟩
    case round =>
      obtain ⟨k, hk, rfl, hN, hW⟩ := hrel
      have HN := Lib.hid hN
      clear hN
      by_cases hlt : k < L.length
      · have hd : decide ((k : Int) < L.length) = true := decide_eq_true (by omega)
        obtain ⟨p, o, x, rfl, _, hp, g1, hx⟩ := (hb0.out.mono hW hW.size).cellAt hlt
        have cK := Lib.hid (refmay_calls (L.getD k []) x wr hx (HF.out.get hlt))
        have hno : may (L.getD k []) = false → L.all may = false := fun h => by
          rw [Bool.eq_false_iff]
          intro e
          have := List.all_eq_true.1 e _ (List.getElem_mem hlt)
          rw [getD_get hlt, this] at h
          cases h
        have hye : may (L.getD k []) = true → ∀ j, j < k + 1 → may (L.getD j []) = true := fun h => allTo_snoc HN.out h
        generalize L.getD k [] = y at hx cK hno hye
        obtain ⟨A1, c1, rfl, -⟩ := hx.form
        have HNO := Lib.hid hno
        have HYE := Lib.hid hye
        clear hno hye hx
        generalize hq : may y = q at cK
        have HQ := Lib.hid hq
        clear hq
        cases q with
        | true =>
          go_wp2_with fail
          refine cK.out.mono ?_
          rintro e w2 ⟨rfl, hb2⟩
          go_wp2
          go_roundw
          case rel => exact ⟨k + 1, by omega, by go_num, HYE.out HQ.out, hW.trans (hb2.mono hW.size)⟩
          case measure => simp [intOf]; omega
        | false =>
          go_wp2_with fail
          refine cK.out.mono ?_
          rintro e w2 ⟨rfl, hb2⟩
          go_wp2
          go_ret
          exact ⟨by rw [HA.out, HNO.out HQ.out]; rfl, hW.trans (hb2.mono hW.size)⟩
      · obtain rfl : k = L.length := by omega
        have hd : decide ((L.length : Int) < L.length) = false := decide_eq_false (by omega)
        have hall : L.all may = true := List.all_eq_true.2 fun l hl => by
          obtain ⟨i, hi, rfl⟩ := List.getElem_of_mem hl
          have := HN.out i hi
          rwa [getD_get hi] at this
        have HALL := Lib.hid hall
        clear hall
        go_wp2
        go_ret
        exact ⟨by rw [HA.out, HALL.out]; rfl, hW⟩

set_option maxRecDepth 100000 in
set_option maxHeartbeats 2000000 in
theorem refin_calls (l : List Int) (x : Int) (v : Value) (lo B : Nat) (w : World) (hv : IntsAt w lo B v l) :
    Calls Try.prog 46 #[v, .int .i64 x] w fun e w' => e = .returned (.bool (decide (x ∈ l))) ∧ w = w' := by
  have HV := Lib.hid hv
  obtain ⟨A, c, rfl, hc1, hc2, -⟩ := hv.form
  unfold maxLen at hc2
  clear hv
  go_enter Try.func46, Try.ntmps46
  go_wp2
  go_loop [5] (fun i => ∃ k : Nat, k ≤ l.length ∧ i = .int .i64 k ∧ ∀ j, j < k → l.getD j 0 ≠ x) (fun i => l.length - (intOf i).toNat)
  case atStart => exact ⟨0, by omega, rfl, fun j hj => by omega⟩
  case round =>
    obtain ⟨k, hk, rfl, hN⟩ := hrel
    have HN := Lib.hid hN
    clear hN
    by_cases hlt : k < l.length
    · have hd : decide ((k : Int) < l.length) = true := decide_eq_true (by omega)
      obtain ⟨b, o, rfl, _, _, hck⟩ := HV.out.cellAt hlt
      have hye : l.getD k 0 = x → decide (x ∈ l) = true := fun h => decide_eq_true (by rw [← h, getD_get hlt]; exact List.getElem_mem hlt)
      have hno : l.getD k 0 ≠ x → ∀ j, j < k + 1 → l.getD j 0 ≠ x := fun h => allTo_snoc HN.out h
      generalize l.getD k 0 = y at hck hye hno
      have HYE := Lib.hid hye
      have HNO := Lib.hid hno
      clear hye hno
      rcases neq_cases y x with ⟨h1, x1, y1, z1⟩ | ⟨h1, x1, y1, z1⟩
      · have H1 := Lib.hid h1
        clear h1
        go_wp2
        go_ret
        exact ⟨by rw [HYE.out H1.out]; rfl, rfl⟩
      · have H1 := Lib.hid h1
        clear h1
        go_wp2
        go_round
        case rel => exact ⟨k + 1, by omega, by go_num, HNO.out H1.out⟩
        case measure => simp [intOf]; omega
    · obtain rfl : k = l.length := by omega
      have hd : decide ((l.length : Int) < l.length) = false := decide_eq_false (by omega)
      have hn : decide (x ∈ l) = false := decide_eq_false fun h => by
        obtain ⟨i, hi, e⟩ := List.getElem_of_mem h
        exact HN.out i hi (by rw [getD_get hi]; exact e)
      have HN2 := Lib.hid hn
      clear hn
      go_wp2
      go_ret
      exact ⟨by rw [HN2.out]; rfl, rfl⟩
set_option maxRecDepth 100000 in
set_option maxHeartbeats 2000000 in
theorem refholders_calls (s : Saga) (vw vg vp : Value) (w : World) (h : Parts w 0 w.heap.size s vw vg vp) (hL : s.got.length ≤ 1000000) :
    Calls Try.prog 45 #[.agg (sagaC s vw vg vp)] w fun e w' => (∃ v, e = .returned v ∧ w'.ownsRow w.heap.size 3 1 v (holders s.got).length (ints (holders s.got))) ∧ Below w.heap.size w w' := by
  obtain ⟨i0, hi0, hz0⟩ := Option.map_eq_some_iff.1 int_info
  simp only [Prod.mk.injEq] at hz0
  obtain ⟨hz0, hz1, hz2⟩ := hz0
  have hg0 := Lib.hid h.got
  obtain ⟨A, c, rfl, -⟩ := h.want.form
  obtain ⟨A', c', rfl, hc1, hc2⟩ := h.got.form
  obtain ⟨A2, c2, rfl, -⟩ := h.pend.form
  unfold maxLen at hc2
  clear h
  unfold sagaC
  generalize s.got = L at hg0 hL hc1 ⊢
  have hB := (Below.refl _ w).alloc (Nat.le_refl _) (.cells #[.int .i64 s.order, .int .i64 s.first, .int .i64 s.regions, .slice A s.want.length c, .bool s.waits, .int .i64 s.state, .int .i64 s.asked, .slice A' L.length c', .slice A2 s.pending.length c2, .bool s.cancelled] 27)
  have hOP := Ob.new w 27 #[.int .i64 s.order, .int .i64 s.first, .int .i64 s.regions, .slice A s.want.length c, .bool s.waits, .int .i64 s.state, .int .i64 s.asked, .slice A' L.length c', .slice A2 s.pending.length c2, .bool s.cancelled]
  have hz : (w.alloc (.cells #[.int .i64 s.order, .int .i64 s.first, .int .i64 s.regions, .slice A s.want.length c, .bool s.waits, .int .i64 s.state, .int .i64 s.asked, .slice A' L.length c', .slice A2 s.pending.length c2, .bool s.cancelled] 27)).heap.size = w.heap.size + 1 := World.size_alloc _ _
  go_enter Try.func45, Try.ntmps45
  go_wp2
  generalize hW0 : w.alloc (.cells #[.int .i64 s.order, .int .i64 s.first, .int .i64 s.regions, .slice A s.want.length c, .bool s.waits, .int .i64 s.state, .int .i64 s.asked, .slice A' L.length c', .slice A2 s.pending.length c2, .bool s.cancelled] 27) = W0 at *
  clear hW0
  go_loopw [3, 4] (fun v i wr => ∃ k : Nat, k ≤ L.length ∧ i = .int .i64 k ∧ wr.ownsRow (w.heap.size + 1) 3 1 v (holdersTo L k).length (ints (holdersTo L k)) ∧ Below (w.heap.size + 1) W0 wr) (fun _ i _ => L.length - (intOf i).toNat)
  case atStart => exact ⟨0, by omega, rfl, World.ownsRow_nil _ _ _ _, Below.refl _ _⟩
  case round =>
    obtain ⟨k, hk, rfl, hv, hb⟩ := hrel
    have hsz := hb.size
    have k7 : wr.cell? ⟨w.heap.size, 7, none⟩ = some (.slice A' L.length c') := (hOP.below hb (Nat.lt_succ_self _)).cell rfl
    have hlow := fun g e => hv.lt g e
    have hlen := holdersTo_len L k
    by_cases hlt : k < L.length
    · have hd : decide ((k : Int) < L.length) = true := by simp; omega
      obtain ⟨b, o, x, rfl, _, hbB, hck, hx⟩ := ((hg0.out.below hB).below (hb.mono (Nat.le_succ _))).cellAt hlt
      have HS := Lib.hid (holdersTo_succ L k)
      generalize L.getD k [] = y at hx HS
      generalize holdersTo L k = hs at hv HS hlen
      obtain ⟨A1, c1, rfl, -⟩ := hx.form
      by_cases hy : 0 < y.length
      · have dy : decide ((y.length : Int) > 0) = true := decide_eq_true (by omega)
        have hal := (Below.refl wr.heap.size wr).alloc (Nat.le_refl _) (.cells #[.int .i64 (k : Int)] 3)
        have hva := row_later hv hal
        have hob := Ob.new wr 3 #[.int .i64 (k : Int)]
        have hba := hb.trans (hal.mono (by omega))
        have HS : holdersTo L (k + 1) = hs ++ [(k : Int)] := by rw [HS.out, if_pos hy]
        have HS := Lib.hid HS
        go_wp2_with (at_builtin; go_must (refine wpList_append_own _ rfl (.tmp 19) (.tmp 21) 25 rfl (w.heap.size + 1) 3 i0 _ 1 8 Try.underlying25 hi0 hz0 hz1 hz2 rfl (by omega) _ hs.length _ rfl hva ⟨wr.heap.size, 0, none⟩ 1 1 [.int .i64 (k : Int)] rfl rfl (fun j u hu => by rw [add_mid, Nat.zero_add]; exact hob.cell (by simpa using hu)) (by simp [Value.oneCell']) (by unfold maxLen; omega) (by omega) (by have := hba.size; omega) ?_; intro v1 w1 hv1 hg1 hat1))
        exact ⟨⟨k + 1, by omega, by go_num, by rw [HS.out, ints_append, List.length_append]; exact hv1, hba.grown hg1 (by have := hba.size; omega) (fun g e => (hlow g e).1)⟩, by simp [intOf]; omega⟩
      · have dy : decide ((y.length : Int) > 0) = false := decide_eq_false (by omega)
        have HS : holdersTo L (k + 1) = hs := by rw [HS.out, if_neg hy, List.append_nil]
        have HS := Lib.hid HS
        go_wp2
        go_roundw
        case rel => exact ⟨k + 1, by omega, by go_num, by rw [HS.out]; exact hv, hb⟩
        case measure => simp [intOf]; omega
    · obtain rfl : k = L.length := by omega
      go_wp2
      go_ret
      exact ⟨⟨_, rfl, ownsRow_wide hv (Nat.le_succ _)⟩, hB.trans (hb.mono (Nat.le_succ _))⟩
end Sa
end Go.Proofs.Ythfpfomifebpbaa

namespace Go.Proofs.Ythfpfomifebpbaa
open Go.RowKit Go.Maps
namespace Sa
open It

def refHead (s : Saga) : Bool :=
  decide (1 ≤ s.order) && decide (s.order ≤ 1099511627776) && decide (1 ≤ s.regions) && decide (s.regions ≤ 8) && decide (0 ≤ s.first) && decide (s.first < s.regions) && decide (0 < s.want.length) && decide ((s.got.length : Int) = s.regions) && decide (1 ≤ s.asked) && decide (s.asked ≤ s.regions) && mayAll s.want s.got
structure RHead (s : Saga) : Prop where
  o1 : 1 ≤ s.order
  o2 : s.order ≤ 1099511627776
  r1 : 1 ≤ s.regions
  r2 : s.regions ≤ 8
  f1 : 0 ≤ s.first
  f2 : s.first < s.regions
  want : 0 < s.want.length
  got : (s.got.length : Int) = s.regions
  a1 : 1 ≤ s.asked
  a2 : s.asked ≤ s.regions
  all : mayAll s.want s.got = true
theorem rhead_of {s : Saga} (h : refHead s = true) : RHead s := by
  unfold refHead at h
  simp only [Bool.and_eq_true, decide_eq_true_eq] at h
  obtain ⟨⟨⟨⟨⟨⟨⟨⟨⟨⟨h1, h2⟩, h3⟩, h4⟩, h5⟩, h6⟩, h7⟩, h8⟩, h9⟩, h10⟩, h11⟩ := h
  exact ⟨h1, h2, h3, h4, h5, h6, h7, h8, h9, h10, h11⟩
theorem mayAll_of {want : List It.Item} {L : List (List It.Item)} (hw : may want = true) (hL : ∀ l ∈ L, may l = true) (h8 : L.length ≤ 8) : mayAll want L = true := by
  unfold mayAll
  simp only [Bool.and_eq_true, decide_eq_true_eq]
  exact ⟨⟨hw, h8⟩, List.all_eq_true.2 hL⟩
theorem refHead_no {s : Saga} (h : refHead s = false) : mayS s = false := by
  rw [Bool.eq_false_iff] at h ⊢
  intro hm
  obtain ⟨hh, -⟩ := mayS_split hm
  apply h
  unfold refHead
  simp only [Bool.and_eq_true, decide_eq_true_eq]
  exact ⟨⟨⟨⟨⟨⟨⟨⟨⟨⟨hh.o1, hh.o2⟩, hh.r1⟩, hh.r2⟩, hh.f1⟩, hh.f2⟩, hh.want⟩, hh.got⟩, hh.a1⟩, hh.a2⟩, mayAll_of hh.may (fun l hl => mayGot_all hh.kept l hl) (by have := hh.got; have := hh.r2; omega)⟩
theorem RHead.M {s : Saga} (h : RHead s) : M s.want ∧ (∀ l ∈ s.got, M l) ∧ s.got.length ≤ 8 := by
  have := h.all
  unfold mayAll at this
  simp only [Bool.and_eq_true, decide_eq_true_eq] at this
  exact ⟨M_of this.1.1, fun l hl => M_of (List.all_eq_true.1 this.2 l hl), this.1.2⟩
/-- the numbers of all lists together -/
def sumG (L : List (List It.Item)) : Int := L.foldr (fun l n => sumN l + n) 0
theorem sumG_snoc (L : List (List It.Item)) (l : List It.Item) : sumG (L ++ [l]) = sumG L + sumN l := by
  induction L with
  | nil => simp [sumG]
  | cons x L ih =>
    show sumN x + sumG (L ++ [l]) = sumN x + sumG L + sumN l
    rw [ih]
    omega
theorem sumG_bounds : ∀ {L : List (List It.Item)}, (∀ l ∈ L, M l) → 0 ≤ sumG L ∧ sumG L ≤ L.length * 17592186044416
  | [], _ => ⟨Int.le_refl _, by simp [sumG]⟩
  | l :: L, h => by
    have h1 := (h l (by simp)).bounds
    have h2 := sumG_bounds (L := L) fun x hx => h x (List.mem_cons_of_mem _ hx)
    show 0 ≤ sumN l + sumG L ∧ sumN l + sumG L ≤ ((L.length + 1 : Nat) : Int) * 17592186044416
    omega
theorem sumG_take {L : List (List It.Item)} {k : Nat} (hk : k < L.length) : sumG (L.take (k + 1)) = sumG (L.take k) + sumN (L.getD k []) := by
  rw [List.take_succ_eq_append_getElem hk, sumG_snoc, getD_get hk]
theorem heldTo_sum {L : List (List It.Item)} (hL : ∀ l ∈ L, M l) (h8 : L.length ≤ 8) : ∀ k, k ≤ L.length → heldTo L k = sumG (L.take k)
  | 0, _ => rfl
  | k + 1, hk => by
    have ih := heldTo_sum hL h8 k (by omega)
    have hkl : k < L.length := by omega
    have hM := hL _ (List.getElem_mem hkl)
    rw [heldTo_succ L hkl, ih, sumG_take hkl, getD_get hkl, hM.sum]
    have h1 := hM.bounds
    have h2 := sumG_bounds (L := L.take k) fun x hx => hL x (List.mem_of_mem_take hx)
    have h3 : (L.take k).length ≤ 8 := by rw [List.length_take]; omega
    have h4 : (0 : Int) ≤ sumG (L.take k) + sumN L[k] ∧ sumG (L.take k) + sumN L[k] ≤ 200000000000000 := by omega
    exact It.wrap_small (by omega) (by omega)
theorem mayGot_sum {s : Saga} (h : RHead s) : mayGot s = decide (sumG s.got = sumN s.want - sumN (leftR s.want s.got)) := by
  obtain ⟨hw, hL, h8⟩ := h.M
  have hleft := (leftR_M hw hL).1
  unfold mayGot
  rw [List.all_eq_true.2 fun l hl => (may_iff l).2 (hL l hl), Bool.true_and, heldTo_sum hL h8 _ (Nat.le_refl _), List.take_length, missing_R hw hL h8, hleft.sum, hw.sum]
  have h1 := hleft.bounds
  have h2 := sumG_bounds hL
  have h3 := hw.bounds
  have hw64 : wrap64 (sumG s.got + sumN (leftR s.want s.got)) = sumG s.got + sumN (leftR s.want s.got) := It.wrap_small (by omega) (by omega)
  rw [hw64, Bool.eq_iff_iff, decide_eq_true_eq, decide_eq_true_eq]
  omega
theorem okHead_sum {s : Saga} (h : RHead s) : okHead s = decide (sumG s.got = sumN s.want - sumN (leftR s.want s.got)) := by
  obtain ⟨hw, hL, h8⟩ := h.M
  have hv : 0 < (visit s.first s.regions).length := by
    have := h.r1
    have := h.r2
    have := h.f1
    have := h.f2
    rw [visit_some (by omega)]
    simp
    omega
  unfold okHead
  rw [mayGot_sum h, decide_eq_true h.o1, decide_eq_true h.o2, decide_eq_true hv, decide_eq_true h.want, (may_iff s.want).2 hw, decide_eq_true h.got, decide_eq_true h.a1, decide_eq_true h.a2]
  simp
theorem sumN_pos {l : List It.Item} (h : M l) : 0 < sumN l ↔ l ≠ [] := by
  constructor
  · rintro h1 rfl
    exact absurd h1 (by decide)
  · intro h1
    match l, h, h1 with
    | x :: r, h, _ =>
      have h2 := (sumN_bounds r fun y hy => by
        have := h.ok y (List.mem_cons_of_mem _ hy)
        omega).1
      have h3 := h.ok x (by simp)
      show 0 < x.2 + sumN r
      omega
theorem none_left {s : Saga} (h : RHead s) : decide ((missing s.want s.got).length = 0) = decide (sumN (leftR s.want s.got) = 0) := by
  obtain ⟨hw, hL, h8⟩ := h.M
  have hM := (leftR_M hw hL).1
  rw [missing_R hw hL h8, Bool.eq_iff_iff, decide_eq_true_eq, decide_eq_true_eq]
  have h1 := sumN_pos hM
  have h2 := hM.bounds
  constructor
  · intro e
    rw [List.eq_nil_of_length_eq_zero e]
    rfl
  · intro e
    apply Decidable.byContradiction
    intro hn
    have := h1.2 fun e2 => hn (by rw [e2]; rfl)
    omega
end Sa
end Go.Proofs.Ythfpfomifebpbaa

namespace Go.Proofs.Ythfpfomifebpbaa
open Go.RowKit Go.Maps
namespace Sa
open It

theorem mod2 {x r : Int} (h0 : 0 ≤ x) (h1 : x < 2 * r) : x % r = if x < r then x else x - r := by
  split
  · exact Int.emod_eq_of_lt h0 (by omega)
  · rw [show x = (x - r) + r by omega, Int.add_emod_right]
    rw [show (x - r) + r - r = x - r by omega]
    exact Int.emod_eq_of_lt (by omega) (by omega)
theorem holders_up (L : List (List It.Item)) : (holders L).Pairwise (· < ·) := by
  unfold holders holdersTo
  rw [List.pairwise_map]
  refine List.Pairwise.imp ?_ ((List.pairwise_lt_range).filter _)
  intro a b h
  omega
theorem rises_of {l all : List Int} (h : l.Pairwise (· < ·)) : rises l all = decide (∀ x ∈ l, x ∈ all) := by
  unfold rises
  rw [Bool.eq_iff_iff, decide_eq_true_eq, decide_eq_true_eq]
  constructor
  · intro hr x hx
    obtain ⟨i, hi, rfl⟩ := List.getElem_of_mem hx
    have := (hr i hi).2
    rw [getD_get hi] at this
    exact inL_mem this
  · intro hm j hj
    refine ⟨fun hc => ?_, ?_⟩
    · have := (List.pairwise_iff_getElem.1 h) (j - 1) j (by omega) hj (by omega)
      rw [getD_get hj, getD_get (show j - 1 < l.length by omega)] at hc
      omega
    · rw [Life.inL_iff, decide_eq_true_eq, getD_get hj]
      exact hm _ (List.getElem_mem hj)
theorem ahead_iff {f r a x : Int} (hf : 0 ≤ f) (hfr : f < r) (hr8 : r ≤ 8) (ha : 0 ≤ a) (har : a ≤ r) (hx : 0 ≤ x) (hxr : x < r) : x ∈ (visit f r).take a.toNat ↔ (x - f + r) % r < a := by
  have hl : (visit f r).length = r.toNat := by rw [visit_some (by omega)]; simp
  constructor
  · intro h
    obtain ⟨i, hi, e⟩ := List.getElem_of_mem h
    rw [List.length_take] at hi
    rw [List.getElem_take] at e
    obtain ⟨e1, h1, -, -⟩ := visit_at (f := f) (r := r) (i := i) (by omega)
    rw [e1, mod2 (by omega) (by omega)] at e
    rw [mod2 (by omega) (by omega)]
    split at e <;> split <;> omega
  · intro h
    rw [mod2 (by omega) (by omega)] at h
    obtain ⟨d, hd⟩ : ∃ d : Nat, (d : Int) = (if x - f + r < r then x - f + r else x - f + r - r) := ⟨(if x - f + r < r then x - f + r else x - f + r - r).toNat, by split <;> omega⟩
    rw [← hd] at h
    have hdl : d < ((visit f r).take a.toNat).length := by rw [List.length_take]; omega
    have e2 : ((visit f r).take a.toNat)[d] = x := by
      rw [List.getElem_take]
      obtain ⟨e1, -, -, -⟩ := visit_at (f := f) (r := r) (i := d) (by omega)
      rw [e1, mod2 (by omega) (by omega)]
      split at hd <;> split <;> omega
    rw [← e2]
    exact List.getElem_mem hdl
def aheadS (s : Saga) : Prop := ∀ x ∈ holders s.got, (x - s.first + s.regions) % s.regions < s.asked - 1
theorem ahead_eq {s : Saga} (h : RHead s) : rises (holders s.got) (sorted ((visit s.first s.regions).take (s.asked - 1).toNat)) = true ↔ aheadS s := by
  rw [rises_of (holders_up s.got), decide_eq_true_eq]
  unfold aheadS
  have key : ∀ x ∈ holders s.got, (x ∈ sorted ((visit s.first s.regions).take (s.asked - 1).toNat) ↔ (x - s.first + s.regions) % s.regions < s.asked - 1) := fun x hx => by
    obtain ⟨i, rfl, hi, -⟩ := holders_mem hx
    have hg := h.got
    rw [sorted_mem]
    exact ahead_iff h.f1 h.f2 h.r2 (by have := h.a1; omega) (by have := h.a2; omega) (by omega) (by omega)
  exact ⟨fun h x hx => (key x hx).1 (h x hx), fun h x hx => (key x hx).2 (h x hx)⟩
theorem next_eq {s : Saga} (h : RHead s) : ((visit s.first s.regions).drop (s.asked - 1).toNat).take 1 = [(s.first + s.asked - 1) % s.regions] := by
  have hf := h.f1
  have hfr := h.f2
  have hr8 := h.r2
  have ha := h.a1
  have har := h.a2
  have hl : (visit s.first s.regions).length = s.regions.toNat := by rw [visit_some (by omega)]; simp
  have hva : (s.asked - 1).toNat < (visit s.first s.regions).length := by omega
  rw [List.drop_eq_getElem_cons hva, List.take_succ_cons, List.take_zero, (visit_at hva).1]
  congr 2
  omega
/-- the sum that is left, as the document reckons it -/
def leftN (s : Saga) : Int := sumN (leftR s.want s.got)
theorem body1 {s : Saga} (h : RHead s) : bodyAt s 1 = true ↔ aheadS s ∧ 0 < leftN s ∧ s.pending = [(s.first + s.asked - 1) % s.regions] := by
  unfold bodyAt
  rw [if_pos rfl, none_left h, next_eq h]
  simp only [Bool.and_eq_true, Bool.not_eq_true', decide_eq_false_iff_not, decide_eq_true_eq]
  rw [ahead_eq h]
  have := (leftR_M h.M.1 h.M.2.1).1.bounds
  unfold leftN
  constructor
  · rintro ⟨⟨h1, h2⟩, h3⟩
    exact ⟨h3, by omega, h2⟩
  · rintro ⟨h1, h2, h3⟩
    exact ⟨⟨by omega, h3⟩, h1⟩
theorem bodyH {s : Saga} (h : RHead s) {st : Int} (hs : st = 2 ∨ st = 8 ∨ st = 10) : bodyAt s st = (decide (leftN s = 0) && decide (s.pending.length = 0) && !s.cancelled) := by
  unfold bodyAt
  rw [if_neg (by omega), if_pos hs, none_left h]
  rfl
theorem bodyP {s : Saga} (h : RHead s) {st : Int} (hs : st = 7 ∨ st = 9) : bodyAt s st = (decide (leftN s = 0) && !decide (s.pending.length = 0) && !s.cancelled && rises s.pending (holders s.got)) := by
  unfold bodyAt
  rw [if_neg (by omega), if_neg (by omega), if_pos hs, none_left h]
  rfl
theorem bodyU {s : Saga} : bodyAt s 4 = (!decide ((holders s.got).length = 0) && decide (s.pending = holders s.got)) := by
  unfold bodyAt
  rw [if_neg (by omega), if_neg (by omega), if_neg (by omega), if_pos rfl]
  by_cases h : s.pending = holders s.got
  · rw [← h]
  · rw [decide_eq_false h]
    simp
theorem bodyW {s : Saga} {st : Int} (hs : st = 3 ∨ st = 5) : bodyAt s st = (decide ((holders s.got).length = 0) && decide (s.pending.length = 0) && !s.cancelled && (s.waits == decide (st = 3))) := by
  unfold bodyAt
  rw [if_neg (by omega), if_neg (by omega), if_neg (by omega), if_neg (by omega), if_pos hs]
theorem bodyG {s : Saga} : bodyAt s 6 = (decide ((holders s.got).length = 0) && decide (s.pending.length = 0) && s.cancelled) := by
  unfold bodyAt
  rw [if_neg (by omega), if_neg (by omega), if_neg (by omega), if_neg (by omega), if_neg (by omega), if_pos rfl]
theorem bodyN {s : Saga} {st : Int} (h : ¬ (st = 1 ∨ st = 2 ∨ st = 3 ∨ st = 4 ∨ st = 5 ∨ st = 6 ∨ st = 7 ∨ st = 8 ∨ st = 9 ∨ st = 10)) : bodyAt s st = false := by
  unfold bodyAt
  rw [if_neg (by omega), if_neg (by omega), if_neg (by omega), if_neg (by omega), if_neg (by omega), if_neg (by omega)]
end Sa
end Go.Proofs.Ythfpfomifebpbaa

namespace Go.Proofs.Ythfpfomifebpbaa
open Go.RowKit Go.Maps
namespace Sa
open It
set_option linter.unusedSimpArgs false

theorem refHead_or {s : Saga} (h : ¬ (¬ s.order < 1 ∧ ¬ s.order > 1099511627776 ∧ ¬ s.regions < 1 ∧ ¬ s.regions > 8 ∧ ¬ s.first < 0 ∧ ¬ s.first ≥ s.regions ∧ ¬ (s.want.length : Int) = 0 ∧ (s.got.length : Int) = s.regions ∧ ¬ s.asked < 1 ∧ ¬ s.asked > s.regions ∧ mayAll s.want s.got = true)) : mayS s = false := by
  refine refHead_no ?_
  rw [Bool.eq_false_iff]
  intro e
  have r := rhead_of e
  exact h ⟨by have := r.o1; omega, by have := r.o2; omega, by have := r.r1; omega, by have := r.r2; omega, by have := r.f1; omega, by have := r.f2; omega, by have := r.want; omega, r.got, by have := r.a1; omega, by have := r.a2; omega, r.all⟩

set_option maxRecDepth 100000 in
set_option maxHeartbeats 8000000 in
theorem refmay15_no (s : Saga) (vw vg vp : Value) (w : World) (h : Parts w 0 w.heap.size s vw vg vp) (hF : Fit s) (hno : refHead s = false) :
    Calls Try.prog 24 #[.agg (sagaC s vw vg vp)] w fun e w' => e = .returned (.bool false) ∧ Below w.heap.size w w' := by
  have cM := Lib.hid (fun W (hb : Below w.heap.size w W) => refmay14_calls s.want s.got vw vg W (h.later hb).want hF.want (h.later hb).got hF.got)
  obtain ⟨A, c, rfl, -⟩ := h.want.form
  obtain ⟨A', c', rfl, -⟩ := h.got.form
  obtain ⟨A2, c2, rfl, -⟩ := h.pend.form
  clear h
  unfold sagaC
  have hB := Lib.hid ((Below.refl _ w).alloc (Nat.le_refl _) (.cells #[.int .i64 s.order, .int .i64 s.first, .int .i64 s.regions, .slice A s.want.length c, .bool s.waits, .int .i64 s.state, .int .i64 s.asked, .slice A' s.got.length c', .slice A2 s.pending.length c2, .bool s.cancelled] 27))
  have HNO := Lib.hid hno
  clear hno
  by_cases h0 : s.order < 1
  · have d0 : decide (s.order < 1) = true := decide_eq_true h0
    clear h0
    go_enter Try.func24, Try.ntmps24
    go_wp2
    go_ret
    exact ⟨rfl, hB.out⟩
  have d0 : decide (s.order < 1) = false := decide_eq_false h0
  have H0 := Lib.hid h0
  clear h0
  by_cases h1 : s.order > 1099511627776
  · have d1 : decide (s.order > 1099511627776) = true := decide_eq_true h1
    clear h1
    go_enter Try.func24, Try.ntmps24
    go_wp2
    go_ret
    exact ⟨rfl, hB.out⟩
  have d1 : decide (s.order > 1099511627776) = false := decide_eq_false h1
  have H1 := Lib.hid h1
  clear h1
  by_cases h2 : s.regions < 1
  · have d2 : decide (s.regions < 1) = true := decide_eq_true h2
    clear h2
    go_enter Try.func24, Try.ntmps24
    go_wp2
    go_ret
    exact ⟨rfl, hB.out⟩
  have d2 : decide (s.regions < 1) = false := decide_eq_false h2
  have H2 := Lib.hid h2
  clear h2
  by_cases h3 : s.regions > 8
  · have d3 : decide (s.regions > 8) = true := decide_eq_true h3
    clear h3
    go_enter Try.func24, Try.ntmps24
    go_wp2
    go_ret
    exact ⟨rfl, hB.out⟩
  have d3 : decide (s.regions > 8) = false := decide_eq_false h3
  have H3 := Lib.hid h3
  clear h3
  by_cases h4 : s.first < 0
  · have d4 : decide (s.first < 0) = true := decide_eq_true h4
    clear h4
    go_enter Try.func24, Try.ntmps24
    go_wp2
    go_ret
    exact ⟨rfl, hB.out⟩
  have d4 : decide (s.first < 0) = false := decide_eq_false h4
  have H4 := Lib.hid h4
  clear h4
  by_cases h5 : s.first ≥ s.regions
  · have d5 : decide (s.first ≥ s.regions) = true := decide_eq_true h5
    clear h5
    go_enter Try.func24, Try.ntmps24
    go_wp2
    go_ret
    exact ⟨rfl, hB.out⟩
  have d5 : decide (s.first ≥ s.regions) = false := decide_eq_false h5
  have H5 := Lib.hid h5
  clear h5
  rcases neq_cases (s.want.length : Int) 0 with ⟨h6, x6, y6, z6⟩ | ⟨h6, x6, y6, z6⟩
  · clear h6
    go_enter Try.func24, Try.ntmps24
    go_wp2
    go_ret
    exact ⟨rfl, hB.out⟩
  have e6 : ¬ s.want.length = 0 := by omega
  have H6 := Lib.hid h6
  clear h6
  rcases neq_cases (s.got.length : Int) s.regions with ⟨h7, x7, y7, z7⟩ | ⟨h7, x7, y7, z7⟩
  rotate_left
  · clear h7
    go_enter Try.func24, Try.ntmps24
    go_wp2
    go_ret
    exact ⟨rfl, hB.out⟩
  have H7 := Lib.hid h7
  clear h7
  by_cases h8 : s.asked < 1
  · have d8 : decide (s.asked < 1) = true := decide_eq_true h8
    clear h8
    go_enter Try.func24, Try.ntmps24
    go_wp2
    go_ret
    exact ⟨rfl, hB.out⟩
  have d8 : decide (s.asked < 1) = false := decide_eq_false h8
  have H8 := Lib.hid h8
  clear h8
  by_cases h9 : s.asked > s.regions
  · have d9 : decide (s.asked > s.regions) = true := decide_eq_true h9
    clear h9
    go_enter Try.func24, Try.ntmps24
    go_wp2
    go_ret
    exact ⟨rfl, hB.out⟩
  have d9 : decide (s.asked > s.regions) = false := decide_eq_false h9
  have H9 := Lib.hid h9
  clear h9
  have hm : mayAll s.want s.got = false := by
    rw [Bool.eq_false_iff]
    intro e
    have hr := HNO.out
    rw [Bool.eq_false_iff] at hr
    apply hr
    have h0 := H0.out
    have h1 := H1.out
    have h2 := H2.out
    have h3 := H3.out
    have h4 := H4.out
    have h5 := H5.out
    have h6 := H6.out
    have h7 := H7.out
    have h8 := H8.out
    have h9 := H9.out
    unfold refHead
    simp only [Bool.and_eq_true, decide_eq_true_eq]
    exact ⟨⟨⟨⟨⟨⟨⟨⟨⟨⟨by omega, by omega⟩, by omega⟩, by omega⟩, by omega⟩, by omega⟩, by omega⟩, h7⟩, by omega⟩, by omega⟩, e⟩
  rw [hm] at cM
  clear hm
  go_enter Try.func24, Try.ntmps24
  go_wp2_with fail
  refine (cM.out _ hB.out).mono ?_
  rintro e w1 ⟨rfl, hb1⟩
  go_wp2
  go_ret
  exact ⟨rfl, hB.out.trans (hb1.mono hB.out.size)⟩
end Sa
end Go.Proofs.Ythfpfomifebpbaa

namespace Go.Proofs.Ythfpfomifebpbaa
open Go.RowKit Go.Maps
namespace Sa
open It
set_option linter.unusedSimpArgs false

theorem sumN_take {l : List It.Item} {j : Nat} (hj : j < l.length) : sumN (l.take (j + 1)) = sumN (l.take j) + l[j].2 := by
  rw [List.take_succ_eq_append_getElem hj]
  generalize l.take j = a
  induction a with
  | nil => show l[j].2 + 0 = 0 + l[j].2; omega
  | cons x a ih => show x.2 + sumN (a ++ [l[j]]) = x.2 + sumN a + l[j].2; rw [ih]; omega
theorem M.take_sum {l : List It.Item} (h : M l) (j : Nat) : 0 ≤ sumN (l.take j) ∧ sumN (l.take j) ≤ 17592186044416 := by
  have := sumN_bounds (l.take j) fun x hx => by
    have := h.ok x (List.mem_of_mem_take hx)
    omega
  have h2 := h.len
  have h3 : (l.take j).length ≤ 16 := by rw [List.length_take]; omega
  omega

set_option maxRecDepth 100000 in
set_option maxHeartbeats 8000000 in
theorem refmay15_yes (s : Saga) (vw vg vp : Value) (w : World) (h : Parts w 0 w.heap.size s vw vg vp) (hF : Fit s) (hyes : refHead s = true) :
    Calls Try.prog 24 #[.agg (sagaC s vw vg vp)] w fun e w' => e = .returned (.bool (mayS s)) ∧ Below w.heap.size w w' := by
  have hmx : Try.prog.follows .mixedOrders = true := by kernel_rfl
  have hh := rhead_of hyes
  have cM := Lib.hid (fun W (hb : Below w.heap.size w W) => refmay14_calls s.want s.got vw vg W (h.later hb).want hF.want (h.later hb).got hF.got)
  rw [hh.all] at cM
  have hgl : s.got.length ≤ 8 := by have := hh.got; have := hh.r2; omega
  have hwl : s.want.length ≤ 16 := hh.M.1.len
  have cH := Lib.hid (fun W (hb : Below w.heap.size w W) => refholders_calls s vw vg vp W (h.later hb) (by omega))
  have cMi := Lib.hid (fun W (hb : Below w.heap.size w W) => refmissing_calls s vw vg vp W (h.later hb) (by omega) (by omega))
  have HP := Lib.hid (fun W (hb : Below w.heap.size w W) => h.later hb)
  obtain ⟨A, c, rfl, -⟩ := h.want.form
  obtain ⟨A', c', rfl, hc1, hc2⟩ := h.got.form
  obtain ⟨A2, c2, rfl, hc3, hc4, -⟩ := h.pend.form
  unfold maxLen at hc2 hc4
  clear h hF hyes
  have HM := Lib.hid hh.M
  have HH := Lib.hid hh
  have HMS := Lib.hid (show mayS s = (decide (sumG s.got = sumN s.want - sumN (leftR s.want s.got)) && bodyAt s s.state) by unfold mayS bodyOk; rw [okHead_sum hh])
  unfold sagaC at cH cMi ⊢
  have hB := (Below.refl _ w).alloc (Nat.le_refl _) (.cells #[.int .i64 s.order, .int .i64 s.first, .int .i64 s.regions, .slice A s.want.length c, .bool s.waits, .int .i64 s.state, .int .i64 s.asked, .slice A' s.got.length c', .slice A2 s.pending.length c2, .bool s.cancelled] 27)
  have hO := Ob.new w 27 #[.int .i64 s.order, .int .i64 s.first, .int .i64 s.regions, .slice A s.want.length c, .bool s.waits, .int .i64 s.state, .int .i64 s.asked, .slice A' s.got.length c', .slice A2 s.pending.length c2, .bool s.cancelled]
  have d0 : decide (s.order < 1) = false := decide_eq_false (by have := hh.o1; omega)
  have d1 : decide (s.order > 1099511627776) = false := decide_eq_false (by have := hh.o2; omega)
  have d2 : decide (s.regions < 1) = false := decide_eq_false (by have := hh.r1; omega)
  have d3 : decide (s.regions > 8) = false := decide_eq_false (by have := hh.r2; omega)
  have d4 : decide (s.first < 0) = false := decide_eq_false (by have := hh.f1; omega)
  have d5 : decide (s.first ≥ s.regions) = false := decide_eq_false (by have := hh.f2; omega)
  have d6 : decide ((s.want.length : Int) = 0) = false := decide_eq_false (by have := hh.want; omega)
  have d6' : ((s.want.length : Int) == 0) = false := by rw [beq_eq_false_iff_ne]; have := hh.want; omega
  have d6'' : ¬ s.want.length = 0 := by have := hh.want; omega
  have d7 : decide ((s.got.length : Int) = s.regions) = true := decide_eq_true hh.got
  have d7' : ((s.got.length : Int) == s.regions) = true := by rw [beq_iff_eq]; exact hh.got
  have d7'' : ((s.got.length : Int) != s.regions) = false := by simp [bne, d7']
  have d8 : decide (s.asked < 1) = false := decide_eq_false (by have := hh.a1; omega)
  have d9 : decide (s.asked > s.regions) = false := decide_eq_false (by have := hh.a2; omega)
  clear hh
  go_enter Try.func24, Try.ntmps24
  go_wp2_with fail
  refine (cM.out _ hB).mono ?_
  rintro e w1 ⟨rfl, hb1⟩
  have hO1 := hO.same hb1
  have hB1 := hB.trans (hb1.mono hB.size)
  obtain ⟨k0, k1, k2, k3, k4, k5, k6, k7, k8, k9⟩ := ob_ten hO1
  have HP1 := Lib.hid (HP.out w1 hB1)
  clear d0 d1 d2 d3 d4 d5 d6 d6' d6'' d7 d7' d7'' d8 d9 hO hB hb1 cM
  go_wp2
  go_loop [3, 4, 5] (fun g i _ => ∃ k : Nat, k ≤ s.got.length ∧ i = .int .i64 k ∧ g = .int .i64 (sumG (s.got.take k))) (fun _ i _ => s.got.length - (intOf i).toNat)
  case atStart => exact ⟨0, by omega, rfl, rfl⟩
  case round =>
    obtain ⟨k, hk, rfl, rfl⟩ := hrel
    by_cases hlt : k < s.got.length
    · have hd : decide ((k : Int) < s.got.length) = true := decide_eq_true (by omega)
      obtain ⟨p, o, x, rfl, _, hp, g1, hx⟩ := HP1.out.got.cellAt hlt
      have hMl := HM.out.2.1 _ (List.getElem_mem hlt)
      rw [← getD_get hlt] at hMl
      have hst := sumG_take hlt
      have hsb := sumG_bounds (L := s.got.take k) fun x hx => HM.out.2.1 x (List.mem_of_mem_take hx)
      have hsl : (s.got.take k).length ≤ 8 := by rw [List.length_take]; omega
      generalize s.got.getD k [] = l at hx hMl hst
      generalize sumG (s.got.take k) = acc at hst hsb ⊢
      obtain ⟨A7, c7, rfl, hl1, hl2⟩ := hx.form
      unfold maxLen at hl2
      have HX := Lib.hid hx
      have HML := Lib.hid hMl
      have HST := Lib.hid hst
      clear hx hMl hst
      have hab : 0 ≤ acc ∧ acc ≤ 140737488355328 := by omega
      clear hsb hsl
      go_wp2
      go_loop [3, 5] (fun g i => ∃ j : Nat, j ≤ l.length ∧ i = .int .i64 j ∧ g = .int .i64 (acc + sumN (l.take j))) (fun _ i => l.length - (intOf i).toNat)
      case atStart => exact ⟨0, by omega, rfl, by rw [show sumN (l.take 0) = 0 from rfl, Int.add_zero]⟩
      case round =>
        obtain ⟨j, hj, rfl, rfl⟩ := hrel
        by_cases hjl : j < l.length
        · have hd2 : decide ((j : Int) < l.length) = true := decide_eq_true (by omega)
          obtain ⟨p2, o2, rfl, -, -, e1, e2⟩ := HX.out.cellAt hjl
          have hb := M.take_sum HML.out j
          have hb2 := M.take_sum HML.out (j + 1)
          rw [sumN_take hjl] at hb2
          have HS := Lib.hid (sumN_take hjl)
          generalize l[j] = y at e1 e2 hb2 HS
          generalize sumN (l.take j) = a2 at hb hb2 HS ⊢
          have hw64 : wrap64 (acc + a2 + y.2) = acc + (a2 + y.2) := by rw [show acc + (a2 + y.2) = acc + a2 + y.2 by omega]; exact It.wrap_small (by omega) (by omega)
          have HW := Lib.hid hw64
          have hr1 : -9223372036854775808 ≤ acc + a2 + y.2 := by omega
          have hr2 : acc + a2 + y.2 ≤ 9223372036854775807 := by omega
          clear hw64
          go_wp2
          exact ⟨⟨j + 1, by omega, by go_num, by rw [HS.out, Int.add_assoc]⟩, by simp [intOf]; omega⟩
        · obtain rfl : j = l.length := by omega
          have hd2 : decide ((l.length : Int) < l.length) = false := decide_eq_false (by omega)
          rw [List.take_length]
          go_wp2
          exact ⟨⟨k + 1, by omega, by go_num, by rw [HST.out]⟩, by simp [intOf]; omega⟩
    · obtain rfl : k = s.got.length := by omega
      have hd : decide ((s.got.length : Int) < s.got.length) = false := decide_eq_false (by omega)
      rw [List.take_length]
      go_wp2_with (refine wpList_load_obg (by rfl) _ _ rfl rfl _ hO1 Try.underlying27 rfl (by kernel_rfl) ?_)
      refine (cMi.out _ hB1).mono ?_
      rintro e w2 ⟨⟨vm, rfl, hvm⟩, hb2⟩
      have hO2 := hO1.same hb2
      have hB2 := hB1.trans (hb2.mono hB1.size)
      clear k0 k1 k2 k3 k4 k5 k6 k7 k8 k9
      obtain ⟨k0, k1, k2, k3, k4, k5, k6, k7, k8, k9⟩ := ob_ten hO2
      have HP2 := Lib.hid (HP.out w2 hB2)
      have HLM := Lib.hid (leftR_M HM.out.1 HM.out.2.1).1
      have HVM := Lib.hid hvm
      obtain ⟨A9, c9, rfl, hc91, hc92⟩ := hvm.form
      unfold maxLen at hc92
      have hsg := sumG_bounds HM.out.2.1
      have hwb := HM.out.1.bounds
      have hlb := HLM.out.bounds
      clear hO1 hb2 hvm cMi
      generalize sumG s.got = gN at hsg HMS ⊢
      have hgN : 0 ≤ gN ∧ gN ≤ 140737488355328 := by omega
      clear hsg
      go_wp2
      go_loop [6, 9] (fun g i => ∃ j : Nat, j ≤ s.want.length ∧ i = .int .i64 j ∧ g = .int .i64 (sumN (s.want.take j))) (fun _ i => s.want.length - (intOf i).toNat)
      case atStart => exact ⟨0, by omega, rfl, rfl⟩
      case round =>
        obtain ⟨j, hj, rfl, rfl⟩ := hrel
        by_cases hjl : j < s.want.length
        · have hd2 : decide ((j : Int) < s.want.length) = true := decide_eq_true (by omega)
          obtain ⟨p2, o2, rfl, -, -, e1, e2⟩ := HP2.out.want.cellAt hjl
          have hb := M.take_sum HM.out.1 j
          have hb2 := M.take_sum HM.out.1 (j + 1)
          rw [sumN_take hjl] at hb2
          have HS := Lib.hid (sumN_take hjl)
          generalize (s.want)[j] = y at e1 e2 hb2 HS
          generalize sumN ((s.want).take j) = a2 at hb hb2 HS ⊢
          have hr1 : -9223372036854775808 ≤ a2 + y.2 := by omega
          have hr2 : a2 + y.2 ≤ 9223372036854775807 := by omega
          go_wp2
          exact ⟨⟨j + 1, by omega, by go_num, by rw [HS.out]⟩, by simp [intOf]; omega⟩
        · obtain rfl : j = s.want.length := by omega
          have hd2 : decide (((s.want).length : Int) < (s.want).length) = false := decide_eq_false (by omega)
          rw [List.take_length]
          go_wp2
          go_loop [7, 10] (fun g i => ∃ j : Nat, j ≤ (leftR s.want s.got).length ∧ i = .int .i64 j ∧ g = .int .i64 (sumN ((leftR s.want s.got).take j))) (fun _ i => (leftR s.want s.got).length - (intOf i).toNat)
          case atStart => exact ⟨0, by omega, rfl, rfl⟩
          case round =>
            obtain ⟨j, hj, rfl, rfl⟩ := hrel
            by_cases hjl : j < (leftR s.want s.got).length
            · have hd2 : decide ((j : Int) < (leftR s.want s.got).length) = true := decide_eq_true (by omega)
              obtain ⟨p2, o2, rfl, -, -, e1, e2⟩ := HVM.out.cellAt hjl
              have hb := M.take_sum HLM.out j
              have hb2 := M.take_sum HLM.out (j + 1)
              rw [sumN_take hjl] at hb2
              have HS := Lib.hid (sumN_take hjl)
              generalize (leftR s.want s.got)[j] = y at e1 e2 hb2 HS
              generalize sumN ((leftR s.want s.got).take j) = a2 at hb hb2 HS ⊢
              have hr1 : -9223372036854775808 ≤ a2 + y.2 := by omega
              have hr2 : a2 + y.2 ≤ 9223372036854775807 := by omega
              go_wp2
              exact ⟨⟨j + 1, by omega, by go_num, by rw [HS.out]⟩, by simp [intOf]; omega⟩
            · obtain rfl : j = (leftR s.want s.got).length := by omega
              have hd2 : decide (((leftR s.want s.got).length : Int) < (leftR s.want s.got).length) = false := decide_eq_false (by omega)
              rw [List.take_length]
              generalize sumN s.want = wN at hwb HMS ⊢
              generalize hln : sumN (leftR s.want s.got) = lN at hlb HMS ⊢
              have HLN := Lib.hid (show leftN s = lN from hln)
              clear hln
              have hr3 : -9223372036854775808 ≤ wN - lN := by omega
              have hr4 : wN - lN ≤ 9223372036854775807 := by omega
              rcases neq_cases gN (wN - lN) with ⟨h1, x1, y1, z1⟩ | ⟨h1, x1, y1, z1⟩
              rotate_left
              · have HX1 := Lib.hid x1
                clear h1 x1
                go_wp2
                go_ret
                exact ⟨by rw [HMS.out, HX1.out]; rfl, hB2⟩
              have HMS2 := Lib.hid (show mayS s = bodyAt s s.state by rw [HMS.out, x1]; rfl)
              clear HMS h1 x1 hwb hgN
              go_wp2_with (refine wpList_load_obg (by rfl) _ _ rfl rfl _ hO2 Try.underlying27 rfl (by kernel_rfl) ?_)
              refine (cH.out _ hB2).mono ?_
              rintro e w3 ⟨⟨vh, rfl, hvh⟩, hb3⟩
              have hO3 := hO2.same hb3
              have hB3 := hB2.trans (hb3.mono hB2.size)
              clear k0 k1 k2 k3 k4 k5 k6 k7 k8 k9
              obtain ⟨k0, k1, k2, k3, k4, k5, k6, k7, k8, k9⟩ := ob_ten hO3
              have HP3 := Lib.hid (HP.out w3 hB3)
              have hvh := (IntsAt.of_own hvh).wide (Nat.zero_le _) (Nat.le_refl _)
              have HVH := Lib.hid hvh
              obtain ⟨Ah, ch, rfl, hch1, hch2, -⟩ := hvh.form
              unfold maxLen at hch2
              have HB3 := Lib.hid hB3
              have HO3 := Lib.hid hO3
              clear hO2 hB2 hb3 hvh cH hO3 hB3 HVM
              have hms := HMS2.out
              generalize s.state = st at hms k5
              have HHO := Lib.hid (len0 (holders s.got))
              have HQU := Lib.hid (len0 s.pending)
              have hhr := HH.out
              have hl0 : 0 ≤ lN := hlb.1
              have HL0 := Lib.hid (neq_cases lN 0)
              have hbs := fun (h : ¬ (st = 1 ∨ st = 2 ∨ st = 3 ∨ st = 4 ∨ st = 5 ∨ st = 6 ∨ st = 7 ∨ st = 8 ∨ st = 9 ∨ st = 10)) => hms.trans (bodyN h)
              have HN := Lib.hid hbs
              clear HMS2 hbs hlb
              by_cases e1 : st = 1
              · subst e1
                have hb1 := body1 hhr
                rw [HLN.out] at hb1
                have HBO := Lib.hid hb1
                have HX := Lib.hid hms
                have hf1 := hhr.f1
                have hf2 := hhr.f2
                have hr1' := hhr.r1
                have hr2' := hhr.r2
                have ha1 := hhr.a1
                have ha2 := hhr.a2
                have hgot := hhr.got
                have hin : ∀ j, j < (holders s.got).length → 0 ≤ (holders s.got).getD j 0 ∧ (holders s.got).getD j 0 < s.regions := fun j hj => by
                  rw [getD_get hj]
                  obtain ⟨i, e, hi, -⟩ := holders_mem (List.getElem_mem hj)
                  omega
                have HIN := Lib.hid hin
                have HAS := Lib.hid (show aheadS s ↔ ∀ j, j < (holders s.got).length → ((holders s.got).getD j 0 - s.first + s.regions) % s.regions < s.asked - 1 from
                  ⟨fun h j hj => by rw [getD_get hj]; exact h _ (List.getElem_mem hj), fun h x hx => by
                    obtain ⟨i, hi, rfl⟩ := List.getElem_of_mem hx
                    have := h i hi
                    rwa [getD_get hi] at this⟩)
                clear hb1 hms hhr hin
                generalize holders s.got = H at hch1 HVH HIN HAS ⊢
                go_wp2
                go_loopw [12] (fun i wr => ∃ k : Nat, k ≤ H.length ∧ i = .int .i64 k ∧ (∀ j, j < k → (H.getD j 0 - s.first + s.regions) % s.regions < s.asked - 1) ∧ Below w3.heap.size w3 wr) (fun i _ => H.length - (intOf i).toNat)
                case atStart => exact ⟨0, by omega, rfl, (fun j hj => by omega), Below.refl _ _⟩
                case round =>
                  obtain ⟨k, hk, rfl, hN, hW⟩ := hrel
                  have HNN := Lib.hid hN
                  clear hN
                  have hBr := HB3.out.trans (hW.mono HB3.out.size)
                  by_cases hlt : k < H.length
                  · have hd : decide ((k : Int) < H.length) = true := decide_eq_true (by omega)
                    obtain ⟨p, o, rfl, _, hp, g1⟩ := (HVH.out.mono hW hW.size).cellAt hlt
                    have hx0 := HIN.out k hlt
                    have hno : ¬ (H.getD k 0 - s.first + s.regions) % s.regions < s.asked - 1 → ¬ aheadS s := fun h h' => h (HAS.out.1 h' k hlt)
                    have hye : (H.getD k 0 - s.first + s.regions) % s.regions < s.asked - 1 → ∀ j, j < k + 1 → (H.getD j 0 - s.first + s.regions) % s.regions < s.asked - 1 := fun h => allTo_snoc HNN.out h
                    generalize H.getD k 0 = y at g1 hx0 hno hye
                    have HNO := Lib.hid hno
                    have HYE := Lib.hid hye
                    clear hno hye
                    have hdr : Below wr.heap.size wr wr.drew := (Below.refl _ _).drew
                    have HQ := Lib.hid (fun V (h : Below wr.drew.heap.size wr.drew V) => show V.cell? ⟨w.heap.size, 1, none⟩ = some (.int .i64 s.first) ∧ V.cell? ⟨w.heap.size, 2, none⟩ = some (.int .i64 s.regions) ∧ V.cell? ⟨w.heap.size, 6, none⟩ = some (.int .i64 s.asked) ∧ V.cell? ⟨p, o + k, none⟩ = some (.int .i64 y) from
                      ⟨(((HO3.out.same hW).same hdr).same h).cell rfl, (((HO3.out.same hW).same hdr).same h).cell rfl, (((HO3.out.same hW).same hdr).same h).cell rfl, (Below.cell (p := ⟨p, o + k, none⟩) h hp).trans g1⟩)
                    have hm0 : 0 ≤ y - s.first + s.regions := by omega
                    have hne : ¬ s.regions = 0 := by omega
                    go_wp2
                    refine Pu.regionW (fun Wq => Below wr.drew.heap.size wr.drew Wq) hmx (by kernel_rfl) (by kernel_rfl) (Below.refl _ _) rfl ?_
                    iterate 17 (first
                      | (refine Pu.Walk.off (by rfl) ?_; simp only [Act.put, List.setIfInBounds_toArray, List.set_cons_succ, List.set_cons_zero])
                      | (apply Pu.Walk.on (by rfl)
                         · intro V1 h1
                           obtain ⟨q1, q2, q6, qy⟩ := HQ.out V1 h1
                           go_wp2_with fail
                           refine ⟨rfl, ?_, h1⟩
                           try simp only [Act.put, List.setIfInBounds_toArray, List.set_cons_succ, List.set_cons_zero]
                           rfl
                         simp only [Act.put, List.setIfInBounds_toArray, List.set_cons_succ, List.set_cons_zero]))
                    refine Pu.Walk.nil (fun V h1 => ?_)
                    have hBV : Below w3.heap.size w3 V := (hW.drew).trans (h1.mono hW.size)
                    have htm : (y - s.first + s.regions).tmod s.regions = (y - s.first + s.regions) % s.regions := Int.tmod_eq_emod_of_nonneg hm0
                    clear HQ h1
                    by_cases hc : (y - s.first + s.regions) % s.regions < s.asked - 1
                    · have dc : decide ((y - s.first + s.regions) % s.regions ≥ s.asked - 1) = false := decide_eq_false (by omega)
                      have hez : (y - s.first + s.regions) % s.regions = (y - s.first) % s.regions := Int.add_emod_right ..
                      have dcz : (y - s.first) % s.regions < s.asked - 1 := by rw [← hez]; exact hc
                      have dcy : decide ((y - s.first) % s.regions ≥ s.asked - 1) = false := decide_eq_false (by omega)
                      have dcx : ¬ s.asked - 1 ≤ (y - s.first) % s.regions := by omega
                      clear hez
                      have HCC := Lib.hid hc
                      clear hc htm
                      go_wp2
                      go_roundw
                      case rel => exact ⟨k + 1, by omega, by go_num, HYE.out HCC.out, hBV⟩
                      case measure => simp [intOf]; omega
                    · have dc : decide ((y - s.first + s.regions) % s.regions ≥ s.asked - 1) = true := decide_eq_true (by omega)
                      have hez : (y - s.first + s.regions) % s.regions = (y - s.first) % s.regions := Int.add_emod_right ..
                      have dcz : ¬ (y - s.first) % s.regions < s.asked - 1 := by rw [← hez]; exact hc
                      have dcy : decide ((y - s.first) % s.regions ≥ s.asked - 1) = true := decide_eq_true (by omega)
                      have dcx : s.asked - 1 ≤ (y - s.first) % s.regions := by omega
                      clear hez
                      have hfal : bodyAt s 1 = false := by
                        rw [Bool.eq_false_iff]
                        intro e
                        exact HNO.out (Int.not_lt.1 hc) (HBO.out.1 e).1
                      have HFAL := Lib.hid hfal
                      clear hc htm hfal
                      go_wp2
                      go_ret
                      exact ⟨by rw [HX.out, HFAL.out]; rfl, HB3.out.trans (hBV.mono HB3.out.size)⟩
                  · obtain rfl : k = H.length := by omega
                    have hd : decide ((H.length : Int) < H.length) = false := decide_eq_false (by omega)
                    have HAY := Lib.hid (HAS.out.2 HNN.out)
                    have hOr := HO3.out.same hW
                    have hPr := HP.out wr hBr
                    have hdr : Below wr.heap.size wr wr.drew := (Below.refl _ _).drew
                    have HQ := Lib.hid (fun V (h : Below wr.drew.heap.size wr.drew V) => ob_ten ((hOr.same hdr).same h))
                    have htm : (s.first + s.asked - 1).tmod s.regions = (s.first + s.asked - 1) % s.regions := Int.tmod_eq_emod_of_nonneg (by omega)
                    have hne : ¬ s.regions = 0 := by omega
                    have hm0 : 0 ≤ s.first + s.asked - 1 := by omega
                    rcases HL0.out with ⟨h0, x0, y0, z0⟩ | ⟨h0, x0, y0, z0⟩
                    · have hlp : decide (lN > 0) = false := decide_eq_false (by omega)
                      have hfal : bodyAt s 1 = false := by
                        rw [Bool.eq_false_iff]
                        intro e
                        have := (HBO.out.1 e).2.1
                        omega
                      have HFAL := Lib.hid hfal
                      clear h0 hfal htm
                      go_wp2
                      refine Pu.regionW (fun Wq => Below wr.drew.heap.size wr.drew Wq) hmx (by kernel_rfl) (by kernel_rfl) (Below.refl _ _) rfl ?_
                      iterate 18 (first
                        | (refine Pu.Walk.off (by rfl) ?_; simp only [Act.put, List.setIfInBounds_toArray, List.set_cons_succ, List.set_cons_zero])
                        | (apply Pu.Walk.on (by rfl)
                           · intro V1 h1
                             go_wp2_with fail
                             refine ⟨rfl, ?_, h1⟩
                             try simp only [Act.put, List.setIfInBounds_toArray, List.set_cons_succ, List.set_cons_zero]
                             rfl
                           simp only [Act.put, List.setIfInBounds_toArray, List.set_cons_succ, List.set_cons_zero]))
                      refine Pu.Walk.nil (fun V h1 => ?_)
                      have hBV : Below w3.heap.size w3 V := (hW.drew).trans (h1.mono hW.size)
                      go_wp2
                      go_ret
                      exact ⟨by rw [HX.out, HFAL.out]; rfl, HB3.out.trans (hBV.mono HB3.out.size)⟩
                    · have hlp : decide (lN > 0) = true := decide_eq_true (by omega)
                      have hlq : lN > 0 := by omega
                      obtain ⟨nx, hnx⟩ : ∃ nx, nx = (s.first + s.asked - 1) % s.regions := ⟨_, rfl⟩
                      have hms : bodyAt s 1 = decide (s.pending = [nx]) := by
                        rw [Bool.eq_iff_iff, HBO.out, decide_eq_true_eq, hnx]
                        exact ⟨fun h => h.2.2, fun h => ⟨HAY.out, by omega, h⟩⟩
                      have HFIN := Lib.hid hms
                      have HNX := Lib.hid hnx
                      have hwrs := hBr.size
                      clear hms hnx htm h0
                      go_wp2
                      refine Pu.regionM [(0, false), (1, false), (2, false), (3, false), (4, false), (5, false), (6, false), (7, false), (8, false), (9, false), (10, false), (11, false), (12, false), (13, false), (14, true), (15, true), (16, false), (17, false)] (fun Wq => Below wr.drew.heap.size wr.drew Wq) hmx (by kernel_rfl) (by kernel_rfl) (by kernel_rfl) (Below.refl _ _) rfl ?_
                      simp only [Pu.named, List.filterMap_cons, List.filterMap_nil, List.getElem?_toArray, List.getElem?_cons_succ, List.getElem?_cons_zero, Option.map_some]
                      iterate 14 (
                        apply Pu.WalkM.on (by rfl)
                        · intro V1 h1
                          obtain ⟨q0, q1, q2, q3, q4, q5, q6, q7, q8, q9⟩ := HQ.out V1 h1
                          go_wp2_with fail
                          refine ⟨rfl, ?_, rfl⟩
                          try simp only [Act.put, List.setIfInBounds_toArray, List.set_cons_succ, List.set_cons_zero]
                          rfl
                        simp only [Act.put, List.setIfInBounds_toArray, List.set_cons_succ, List.set_cons_zero])
                      refine Pu.WalkM.make (by rfl) ?_
                      rintro W rfl
                      go_wp2_with fail
                      rw [← HNX.out]
                      have hal5 := (Below.refl wr.drew.heap.size wr.drew).alloc (Nat.le_refl _) (.cells #[.int .i64 nx] 3)
                      have hI5 : IntsAt (wr.drew.alloc (.cells #[.int .i64 nx] 3)) 0 (wr.drew.alloc (.cells #[.int .i64 nx] 3)).heap.size (.slice (some ⟨wr.heap.size, 0, none⟩) 1 1) [nx] := by
                        have := Sl.new wr.drew #[.int .i64 nx] 3 (size := 1) (n := 1) rfl (by unfold maxLen; omega)
                        exact Sl.wide this (Nat.zero_le _) (by rw [World.size_alloc]; omega)
                      have cI := Lib.hid (refints_calls s.pending [nx] _ _ (wr.drew.alloc (.cells #[.int .i64 nx] 3)) ((hPr.later hdr).later hal5).pend hI5)
                      refine ⟨rfl, .slice (some ⟨wr.heap.size, 0, none⟩) 1 1, _, (fun V => V = wr.drew.alloc (.cells #[.int .i64 nx] 3)), ?_, rfl, (fun V h => by rw [h]; exact hal5), (.inr (fun _ h => h)), ?_⟩
                      · simp only [Act.put, List.setIfInBounds_toArray, List.set_cons_succ, List.set_cons_zero]
                      simp only [Act.put, List.setIfInBounds_toArray, List.set_cons_succ, List.set_cons_zero]
                      refine Pu.WalkM.make (by rfl) ?_
                      intro W hWJ
                      subst hWJ
                      generalize decide (s.pending = [nx]) = q at cI HFIN
                      go_wp2_with (go_at_call 30; refine cI.out.mono ?_; rintro e W6 ⟨rfl, hb6⟩)
                      refine ⟨rfl, .bool q, _, (fun V => V = W6), ?_, rfl, (fun V h => by rw [h]; exact hal5.trans (hb6.mono hal5.size)), (.inr (fun _ h => h)), ?_⟩
                      · simp only [Act.put, List.setIfInBounds_toArray, List.set_cons_succ, List.set_cons_zero]
                      simp only [Act.put, List.setIfInBounds_toArray, List.set_cons_succ, List.set_cons_zero]
                      iterate 2 (
                        apply Pu.WalkM.on (by rfl)
                        · intro V1 h1
                          go_wp2_with fail
                          refine ⟨rfl, ?_, rfl⟩
                          try simp only [Act.put, List.setIfInBounds_toArray, List.set_cons_succ, List.set_cons_zero]
                          rfl
                        simp only [Act.put, List.setIfInBounds_toArray, List.set_cons_succ, List.set_cons_zero])
                      refine Pu.WalkM.nil ?_
                      intro V hVJ
                      cases hVJ.symm
                      have hBV : Below w3.heap.size w3 W6 := (hW.trans (hdr.mono hW.size)).trans ((hal5.trans (hb6.mono hal5.size)).mono hW.size)
                      go_wp2
                      go_ret
                      exact ⟨by rw [HX.out, HFIN.out]; cases q <;> rfl, HB3.out.trans (hBV.mono HB3.out.size)⟩
              have d1 : decide (st = 1) = false := decide_eq_false e1
              by_cases e2 : st = 2 ∨ st = 8 ∨ st = 10
              · rw [bodyH hhr e2, HLN.out] at hms
                have HX := Lib.hid hms
                clear hms hhr
                rcases HL0.out with ⟨h0, x0, y0, z0⟩ | ⟨h0, x0, y0, z0⟩
                · rw [x0] at HX
                  clear h0
                  rcases HQU.out with ⟨hq1, hq2, hq3⟩ | ⟨hq1, hq2, hq3⟩
                  · generalize s.cancelled = ca at HX k9
                    rcases e2 with rfl | rfl | rfl <;> cases ca <;> (go_wp2; go_ret; exact ⟨by rw [HX.out, hq3]; rfl, HB3.out⟩)
                  · rcases e2 with rfl | rfl | rfl <;> (go_wp2; go_ret; exact ⟨by rw [HX.out, hq3]; rfl, HB3.out⟩)
                · rw [x0] at HX
                  clear h0
                  rcases e2 with rfl | rfl | rfl <;> (go_wp2; go_ret; exact ⟨by rw [HX.out]; rfl, HB3.out⟩)
              have d2 : decide (st = 2) = false := decide_eq_false (fun e => e2 (.inl e))
              have d8 : decide (st = 8) = false := decide_eq_false (fun e => e2 (.inr (.inl e)))
              have d10 : decide (st = 10) = false := decide_eq_false (fun e => e2 (.inr (.inr e)))
              by_cases e3 : st = 7 ∨ st = 9
              · have hms7 := hms.trans (bodyP hhr e3)
                rw [HLN.out] at hms7
                have HX := Lib.hid hms7
                clear hms hms7 hhr
                generalize holders s.got = H at hch1 HVH HX ⊢
                have e3' : ∃ z : Int, (z = 7 ∨ z = 9) ∧ st = z := ⟨st, e3, rfl⟩
                rcases e3 with rfl | rfl <;> (
                  clear e3'
                  go_wp2
                  go_loopw [13] (fun i wr => ∃ k : Nat, k ≤ s.pending.length ∧ i = .int .i64 k ∧ risesTo s.pending H k ∧ Below w3.heap.size w3 wr) (fun i _ => s.pending.length - (intOf i).toNat)
                  case atStart => exact ⟨0, by omega, rfl, (fun j hj => by omega), Below.refl _ _⟩
                  case round =>
                    obtain ⟨k, hk, rfl, hN, hW⟩ := hrel
                    have HNN := Lib.hid hN
                    clear hN
                    have hBr := HB3.out.trans (hW.mono HB3.out.size)
                    have hOr := HO3.out.same hW
                    obtain ⟨j0, j1, j2, j3, j4, j5, j6, j7, j8, j9⟩ := ob_ten hOr
                    by_cases hlt : k < s.pending.length
                    · have hd : decide ((k : Int) < s.pending.length) = true := decide_eq_true (by omega)
                      have hdr : Below wr.heap.size wr wr.drew := (Below.refl _ _).drew
                      have HQ := Lib.hid (fun V (h : Below wr.drew.heap.size wr.drew V) => ob_ten ((hOr.same hdr).same h))
                      have hpr := (HP.out wr hBr).pend
                      obtain ⟨p, o, rfl, _, hp, g1⟩ := hpr.cellAt hlt
                      have hno : ¬ (¬ (0 < k ∧ s.pending.getD k 0 ≤ s.pending.getD (k - 1) 0) ∧ Life.inL (s.pending.getD k 0) H = true) → rises s.pending H = false := fun h => decide_eq_false fun hr => h (hr k hlt)
                      have hye : ¬ (0 < k ∧ s.pending.getD k 0 ≤ s.pending.getD (k - 1) 0) ∧ Life.inL (s.pending.getD k 0) H = true → risesTo s.pending H (k + 1) := fun h => allTo_snoc HNN.out h
                      rw [Life.inL_iff] at hno hye
                      have HG1 := Lib.hid (fun V (h : Below wr.drew.heap.size wr.drew V) => show V.cell? ⟨p, o + k, none⟩ = some (.int .i64 (s.pending.getD k 0)) from (Below.cell (p := ⟨p, o + k, none⟩) h hp).trans g1)
                      have cIn := Lib.hid (fun V (h : Below wr.drew.heap.size wr.drew V) => refin_calls H (s.pending.getD k 0) _ 0 wr.heap.size V ((HVH.out.mono hW hW.size).mono (hdr.trans h) (Nat.le_refl _)))
                      rcases Nat.eq_zero_or_pos k with hk0 | hk0
                      · subst hk0
                        rw [Nat.add_zero] at HG1
                        clear hpr g1
                        generalize s.pending.getD 0 0 = y at HG1 cIn hno hye
                        have HNO := Lib.hid hno
                        have HYE := Lib.hid hye
                        clear hno hye
                        generalize hq : decide (y ∈ H) = q at cIn
                        have HQD := Lib.hid hq
                        clear hq
                        cases q with
                        | false =>
                          go_wp2
                          refine Pu.regionW (fun Wq => Below wr.drew.heap.size wr.drew Wq) hmx (by kernel_rfl) (by kernel_rfl) (Below.refl _ _) rfl ?_
                          iterate 26 (first
                            | (refine Pu.Walk.off (by rfl) ?_; simp only [Act.put, List.setIfInBounds_toArray, List.set_cons_succ, List.set_cons_zero])
                            | (apply Pu.Walk.on (by rfl)
                               · intro V1 h1
                                 obtain ⟨q0, q1, q2, q3, q4, q5, q6, q7, q8, q9⟩ := HQ.out V1 h1
                                 have g1 := HG1.out V1 h1
                                 go_wp2_with (go_at_call 46; refine (cIn.out V1 h1).mono ?_; rintro e V2 ⟨rfl, rfl⟩)
                                 refine ⟨rfl, ?_, h1⟩
                                 try simp only [Act.put, List.setIfInBounds_toArray, List.set_cons_succ, List.set_cons_zero]
                                 rfl
                               simp only [Act.put, List.setIfInBounds_toArray, List.set_cons_succ, List.set_cons_zero]))
                          refine Pu.Walk.nil (fun V h1 => ?_)
                          have hBV : Below w3.heap.size w3 V := (hW.drew).trans (h1.mono hW.size)
                          clear h1
                          go_wp2
                          go_ret
                          exact ⟨by rw [HX.out, HNO.out (fun h => of_decide_eq_false HQD.out (of_decide_eq_true h.2))]; simp, HB3.out.trans (hBV.mono HB3.out.size)⟩
                        | true =>
                          go_wp2
                          refine Pu.regionW (fun Wq => Below wr.drew.heap.size wr.drew Wq) hmx (by kernel_rfl) (by kernel_rfl) (Below.refl _ _) rfl ?_
                          iterate 26 (first
                            | (refine Pu.Walk.off (by rfl) ?_; simp only [Act.put, List.setIfInBounds_toArray, List.set_cons_succ, List.set_cons_zero])
                            | (apply Pu.Walk.on (by rfl)
                               · intro V1 h1
                                 obtain ⟨q0, q1, q2, q3, q4, q5, q6, q7, q8, q9⟩ := HQ.out V1 h1
                                 have g1 := HG1.out V1 h1
                                 go_wp2_with (go_at_call 46; refine (cIn.out V1 h1).mono ?_; rintro e V2 ⟨rfl, rfl⟩)
                                 refine ⟨rfl, ?_, h1⟩
                                 try simp only [Act.put, List.setIfInBounds_toArray, List.set_cons_succ, List.set_cons_zero]
                                 rfl
                               simp only [Act.put, List.setIfInBounds_toArray, List.set_cons_succ, List.set_cons_zero]))
                          refine Pu.Walk.nil (fun V h1 => ?_)
                          have hBV : Below w3.heap.size w3 V := (hW.drew).trans (h1.mono hW.size)
                          clear h1
                          go_wp2
                          go_roundw
                          case rel => exact ⟨1, by omega, rfl, HYE.out ⟨fun h => by omega, decide_eq_true (of_decide_eq_true HQD.out)⟩, hBV⟩
                          case measure => simp [intOf]; omega
                      · obtain ⟨m, hm⟩ : ∃ m, k = m + 1 := ⟨k - 1, by omega⟩
                        have d0 : decide ((k : Int) > 0) = true := decide_eq_true (by omega)
                        have hm1 : (k : Int) - 1 = (m : Int) := by omega
                        obtain ⟨p', o', e', _, _, g2⟩ := hpr.cellAt (j := m) (by omega)
                        cases e'
                        have HG2 := Lib.hid (fun V (h : Below wr.drew.heap.size wr.drew V) => show V.cell? ⟨p, o + m, none⟩ = some (.int .i64 (s.pending.getD m 0)) from (Below.cell (p := ⟨p, o + m, none⟩) h hp).trans g2)
                        rw [show k - 1 = m by omega] at hno hye
                        clear hpr g1 g2 hm
                        generalize s.pending.getD k 0 = y at HG1 cIn hno hye
                        generalize s.pending.getD m 0 = z at HG2 hno hye
                        have HNO := Lib.hid hno
                        have HYE := Lib.hid hye
                        clear hno hye
                        generalize hq : decide (y ∈ H) = q at cIn
                        have HQD := Lib.hid hq
                        clear hq
                        cases q with
                        | false =>
                          go_wp2
                          refine Pu.regionW (fun Wq => Below wr.drew.heap.size wr.drew Wq) hmx (by kernel_rfl) (by kernel_rfl) (Below.refl _ _) rfl ?_
                          iterate 26 (first
                            | (refine Pu.Walk.off (by rfl) ?_; simp only [Act.put, List.setIfInBounds_toArray, List.set_cons_succ, List.set_cons_zero])
                            | (apply Pu.Walk.on (by rfl)
                               · intro V1 h1
                                 obtain ⟨q0, q1, q2, q3, q4, q5, q6, q7, q8, q9⟩ := HQ.out V1 h1
                                 have g1 := HG1.out V1 h1
                                 have g2 := HG2.out V1 h1
                                 go_wp2_with (go_at_call 46; refine (cIn.out V1 h1).mono ?_; rintro e V2 ⟨rfl, rfl⟩)
                                 refine ⟨rfl, ?_, h1⟩
                                 try simp only [Act.put, List.setIfInBounds_toArray, List.set_cons_succ, List.set_cons_zero]
                                 rfl
                               simp only [Act.put, List.setIfInBounds_toArray, List.set_cons_succ, List.set_cons_zero]))
                          refine Pu.Walk.nil (fun V h1 => ?_)
                          have hBV : Below w3.heap.size w3 V := (hW.drew).trans (h1.mono hW.size)
                          clear h1
                          go_wp2
                          go_ret
                          exact ⟨by rw [HX.out, HNO.out (fun h => of_decide_eq_false HQD.out (of_decide_eq_true h.2))]; simp, HB3.out.trans (hBV.mono HB3.out.size)⟩
                        | true =>
                          by_cases hzy : y ≤ z
                          · have dz : decide (z ≥ y) = true := decide_eq_true hzy
                            have HZY := Lib.hid hzy
                            clear hzy
                            go_wp2
                            refine Pu.regionW (fun Wq => Below wr.drew.heap.size wr.drew Wq) hmx (by kernel_rfl) (by kernel_rfl) (Below.refl _ _) rfl ?_
                            iterate 26 (first
                              | (refine Pu.Walk.off (by rfl) ?_; simp only [Act.put, List.setIfInBounds_toArray, List.set_cons_succ, List.set_cons_zero])
                              | (apply Pu.Walk.on (by rfl)
                                 · intro V1 h1
                                   obtain ⟨q0, q1, q2, q3, q4, q5, q6, q7, q8, q9⟩ := HQ.out V1 h1
                                   have g1 := HG1.out V1 h1
                                   have g2 := HG2.out V1 h1
                                   go_wp2_with (go_at_call 46; refine (cIn.out V1 h1).mono ?_; rintro e V2 ⟨rfl, rfl⟩)
                                   refine ⟨rfl, ?_, h1⟩
                                   try simp only [Act.put, List.setIfInBounds_toArray, List.set_cons_succ, List.set_cons_zero]
                                   rfl
                                 simp only [Act.put, List.setIfInBounds_toArray, List.set_cons_succ, List.set_cons_zero]))
                            refine Pu.Walk.nil (fun V h1 => ?_)
                            have hBV : Below w3.heap.size w3 V := (hW.drew).trans (h1.mono hW.size)
                            clear h1
                            go_wp2
                            go_ret
                            exact ⟨by rw [HX.out, HNO.out (fun h => h.1 ⟨by omega, HZY.out⟩)]; simp, HB3.out.trans (hBV.mono HB3.out.size)⟩
                          · have dz : decide (z ≥ y) = false := decide_eq_false hzy
                            have HZY := Lib.hid hzy
                            clear hzy
                            go_wp2
                            refine Pu.regionW (fun Wq => Below wr.drew.heap.size wr.drew Wq) hmx (by kernel_rfl) (by kernel_rfl) (Below.refl _ _) rfl ?_
                            iterate 26 (first
                              | (refine Pu.Walk.off (by rfl) ?_; simp only [Act.put, List.setIfInBounds_toArray, List.set_cons_succ, List.set_cons_zero])
                              | (apply Pu.Walk.on (by rfl)
                                 · intro V1 h1
                                   obtain ⟨q0, q1, q2, q3, q4, q5, q6, q7, q8, q9⟩ := HQ.out V1 h1
                                   have g1 := HG1.out V1 h1
                                   have g2 := HG2.out V1 h1
                                   go_wp2_with (go_at_call 46; refine (cIn.out V1 h1).mono ?_; rintro e V2 ⟨rfl, rfl⟩)
                                   refine ⟨rfl, ?_, h1⟩
                                   try simp only [Act.put, List.setIfInBounds_toArray, List.set_cons_succ, List.set_cons_zero]
                                   rfl
                                 simp only [Act.put, List.setIfInBounds_toArray, List.set_cons_succ, List.set_cons_zero]))
                            refine Pu.Walk.nil (fun V h1 => ?_)
                            have hBV : Below w3.heap.size w3 V := (hW.drew).trans (h1.mono hW.size)
                            clear h1
                            go_wp2
                            go_roundw
                            case rel => exact ⟨k + 1, by omega, by go_num, HYE.out ⟨fun h => absurd h.2 (by have := HZY.out; omega), decide_eq_true (of_decide_eq_true HQD.out)⟩, hBV⟩
                            case measure => simp [intOf]; omega
                    · obtain rfl : k = s.pending.length := by omega
                      have hd : decide ((s.pending.length : Int) < s.pending.length) = false := decide_eq_false (by omega)
                      have hris : rises s.pending H = true := decide_eq_true HNN.out
                      rw [hris] at HX
                      clear hris
                      rcases HL0.out with ⟨h0, x0, y0, z0⟩ | ⟨h0, x0, y0, z0⟩
                      · rw [x0] at HX
                        clear h0
                        rcases HQU.out with ⟨hq1, hq2, hq3⟩ | ⟨hq1, hq2, hq3⟩
                        · have hp4 : decide ((s.pending.length : Int) > 0) = false := decide_eq_false (by have := of_decide_eq_true hq2; omega)
                          have hp5 : ¬ 0 < s.pending.length := by have := of_decide_eq_true hq2; omega
                          go_wp2
                          go_ret
                          exact ⟨by rw [HX.out, hq3]; rfl, hBr⟩
                        · have hp4 : decide ((s.pending.length : Int) > 0) = true := decide_eq_true (by have := of_decide_eq_false hq2; omega)
                          have hp5 : 0 < s.pending.length := by have := of_decide_eq_false hq2; omega
                          generalize s.cancelled = ca at HX j9
                          cases ca <;> (go_wp2; go_ret; exact ⟨by rw [HX.out, hq3]; rfl, hBr⟩)
                      · rw [x0] at HX
                        clear h0
                        go_wp2
                        go_ret
                        exact ⟨by rw [HX.out]; rfl, hBr⟩)
              have d7 : decide (st = 7) = false := decide_eq_false (fun e => e3 (.inl e))
              have d9 : decide (st = 9) = false := decide_eq_false (fun e => e3 (.inr e))
              by_cases e4 : st = 4
              · subst e4
                rw [bodyU] at hms
                have HX := Lib.hid hms
                clear hms hhr
                have cI := Lib.hid (refints_calls s.pending (holders s.got) _ _ w3 HP3.out.pend HVH.out)
                rcases HHO.out with ⟨hh1, hh2, hh3⟩ | ⟨hh1, hh2, hh3⟩
                · have hh4 : decide (((holders s.got).length : Int) > 0) = false := decide_eq_false (by have := of_decide_eq_true hh2; omega)
                  go_wp2
                  go_ret
                  exact ⟨by rw [HX.out, hh3]; rfl, HB3.out⟩
                · have hh4 : decide (((holders s.got).length : Int) > 0) = true := decide_eq_true (by have := of_decide_eq_false hh2; omega)
                  have hh5 : 0 < (holders s.got).length := by have := of_decide_eq_false hh2; omega
                  generalize decide (s.pending = holders s.got) = q at cI HX
                  go_wp2_with fail
                  refine cI.out.mono ?_
                  rintro e w4 ⟨rfl, hb4⟩
                  go_wp2
                  go_ret
                  exact ⟨by rw [HX.out, hh3]; cases q <;> rfl, HB3.out.trans (hb4.mono HB3.out.size)⟩
              have d4 : decide (st = 4) = false := decide_eq_false e4
              by_cases e5 : st = 3 ∨ st = 5
              · rw [bodyW e5] at hms
                have HX := Lib.hid hms
                clear hms hhr
                rcases HHO.out with ⟨hh1, hh2, hh3⟩ | ⟨hh1, hh2, hh3⟩
                · rcases HQU.out with ⟨hq1, hq2, hq3⟩ | ⟨hq1, hq2, hq3⟩
                  · generalize s.cancelled = ca at HX k9
                    generalize s.waits = wa at HX k4
                    rcases e5 with rfl | rfl <;> cases ca <;> cases wa <;> (go_wp2; go_ret; exact ⟨by rw [HX.out, hh3, hq3]; rfl, HB3.out⟩)
                  · rcases e5 with rfl | rfl <;> (go_wp2; go_ret; exact ⟨by rw [HX.out, hh3, hq3]; rfl, HB3.out⟩)
                · rcases e5 with rfl | rfl <;> (go_wp2; go_ret; exact ⟨by rw [HX.out, hh3]; rfl, HB3.out⟩)
              have d3 : decide (st = 3) = false := decide_eq_false (fun e => e5 (.inl e))
              have d5 : decide (st = 5) = false := decide_eq_false (fun e => e5 (.inr e))
              by_cases e6 : st = 6
              · subst e6
                rw [bodyG] at hms
                have HX := Lib.hid hms
                clear hms hhr
                rcases HHO.out with ⟨hh1, hh2, hh3⟩ | ⟨hh1, hh2, hh3⟩
                · rcases HQU.out with ⟨hq1, hq2, hq3⟩ | ⟨hq1, hq2, hq3⟩
                  · generalize s.cancelled = ca at HX k9
                    cases ca <;> (go_wp2; go_ret; exact ⟨by rw [HX.out, hh3, hq3]; rfl, HB3.out⟩)
                  · go_wp2
                    go_ret
                    exact ⟨by rw [HX.out, hh3, hq3]; rfl, HB3.out⟩
                · go_wp2
                  go_ret
                  exact ⟨by rw [HX.out, hh3]; rfl, HB3.out⟩
              have d6 : decide (st = 6) = false := decide_eq_false e6
              have HX := Lib.hid (HN.out (by omega))
              clear hms hhr
              go_wp2
              go_ret
              exact ⟨by rw [HX.out]; rfl, HB3.out⟩
end Sa
end Go.Proofs.Ythfpfomifebpbaa

namespace Go.Proofs.Ythfpfomifebpbaa
open Go.RowKit Go.Maps
namespace Sa
open It

theorem refmay15_calls (s : Saga) (vw vg vp : Value) (w : World) (h : Parts w 0 w.heap.size s vw vg vp) (hF : Fit s) :
    Calls Try.prog 24 #[.agg (sagaC s vw vg vp)] w fun e w' => e = .returned (.bool (mayS s)) ∧ Below w.heap.size w w' := by
  cases hh : refHead s with
  | true => exact refmay15_yes s vw vg vp w h hF hh
  | false =>
    rw [refHead_no hh]
    exact refmay15_no s vw vg vp w h hF hh
end Sa
end Go.Proofs.Ythfpfomifebpbaa
