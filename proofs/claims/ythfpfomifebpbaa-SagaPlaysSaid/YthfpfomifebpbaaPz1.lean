/-
  the document's answers on items: put.
  the document's answers on items: Norm.
  items: what the law's walk collects.
  items: what the laws Order, Parts and Walks say is true.
  saga: the document's Split, Missing.
  saga: plain laws of what is missing.
  saga: the document's May of plans, Holders, in.
  saga: plain: the program's May is the document's.
  saga: plain: who may be asked.
  saga: plain: a saga that may be goes on to one that may be.
-/
import Derived.Test.YthfpfomifebpbaaSs5
import Derived.Test.YthfpfomifebpbaaSs4
import Derived.Laws.OwnMore
import Derived.Deep.AppendLies
import Derived.Test.YthfpfomifebpbaaSs7

set_option linter.unusedVariables false
set_option linter.unusedSimpArgs false
namespace Go.Proofs.Ythfpfomifebpbaa
open Go.RowKit Go.Maps
namespace It

def putL (g : ByteArray) (n : Int) : List Item → List Item
  | [] => [(g, n)]
  | x :: r => if key x < g.data.toList then x :: putL g n r else if key x = g.data.toList then (x.1, n) :: r else (g, n) :: x :: r
theorem putL_new (g : ByteArray) (n : Int) : ∀ (l : List Item) (j : Nat), (∀ i (h : i < l.length), i < j → key l[i] < g.data.toList) → j ≤ l.length → (∀ h : j < l.length, ¬ key l[j] < g.data.toList ∧ key l[j] ≠ g.data.toList) →
    putL g n l = l.take j ++ [(g, n)] ++ l.drop j
  | [], j, _, hj, _ => by simp at hj; subst hj; rfl
  | x :: r, 0, _, _, h => by
    have := h (by simp)
    simp only [List.getElem_cons_zero] at this
    simp [putL, this.1, this.2]
  | x :: r, j + 1, h1, hj, h => by
    have h0 := h1 0 (by simp) (by omega)
    simp only [List.getElem_cons_zero] at h0
    unfold putL
    rw [if_pos h0, putL_new g n r j (fun i hi hij => h1 (i + 1) (by simpa using hi) (by omega)) (by simpa using hj) (fun hh => h (by simpa using hh))]
    rfl
theorem putL_set (g : ByteArray) (n : Int) : ∀ (l : List Item) (j : Nat), (∀ i (h : i < l.length), i < j → key l[i] < g.data.toList) → (h : j < l.length) → key l[j] = g.data.toList →
    putL g n l = l.set j (l[j].1, n)
  | [], j, _, hj, _ => absurd hj (by simp)
  | x :: r, 0, _, _, h => by
    simp only [List.getElem_cons_zero] at h
    unfold putL
    rw [if_neg (by rw [h]; exact bs_irr _), if_pos h]
    rfl
  | x :: r, j + 1, h1, hj, h => by
    have h0 := h1 0 (by simp) (by omega)
    simp only [List.getElem_cons_zero] at h0
    unfold putL
    rw [if_pos h0, putL_set g n r j (fun i hi hij => h1 (i + 1) (by simpa using hi) (by omega)) (by simpa using hj) (by simpa using h)]
    rfl
theorem putL_len (g : ByteArray) (n : Int) : ∀ l : List Item, (putL g n l).length ≤ l.length + 1
  | [] => by simp [putL]
  | x :: r => by
    unfold putL
    split
    · have := putL_len g n r; simp; omega
    · split <;> simp
theorem putL_mem (g : ByteArray) (n : Int) (x : Item) : ∀ l : List Item, l.Pairwise (fun a b => key a < key b) → (x ∈ putL g n l ↔ x = (g, n) ∨ (x ∈ l ∧ key x ≠ g.data.toList))
  | [], _ => by simp [putL]
  | y :: r, h => by
    have h' := List.pairwise_cons.1 h
    have hg : key ((g, n) : Item) = g.data.toList := rfl
    unfold putL
    split
    · rename_i hy
      have hne : key y ≠ g.data.toList := fun e => by rw [e] at hy; exact bs_irr _ hy
      rw [List.mem_cons, putL_mem g n x r h'.2, List.mem_cons]
      constructor
      · rintro (rfl | h | h)
        · exact .inr ⟨.inl rfl, hne⟩
        · exact .inl h
        · exact .inr ⟨.inr h.1, h.2⟩
      · rintro (h | ⟨rfl | h, h2⟩)
        · exact .inr (.inl h)
        · exact .inl rfl
        · exact .inr (.inr ⟨h, h2⟩)
    · have hr : ∀ z ∈ r, key z ≠ g.data.toList ∨ key y < g.data.toList := fun z hz => by
        by_cases hy : key y < g.data.toList
        · exact .inr hy
        · refine .inl fun e => hy ?_
          have := h'.1 z hz
          rwa [e] at this
      rename_i hy
      split
      · rename_i he
        have e1 : ((y.1, n) : Item) = (g, n) := key_item _ _ (show key y = key ((g, n) : Item) from he) rfl
        rw [e1, List.mem_cons, List.mem_cons]
        constructor
        · rintro (h | h)
          · exact .inl h
          · exact .inr ⟨.inr h, (hr x h).resolve_right hy⟩
        · rintro (h | ⟨rfl | h, h2⟩)
          · exact .inl h
          · exact absurd he h2
          · exact .inr h
      · rename_i he
        rw [List.mem_cons, List.mem_cons]
        constructor
        · rintro (h | rfl | h)
          · exact .inl h
          · exact .inr ⟨.inl rfl, he⟩
          · exact .inr ⟨.inr h, (hr x h).resolve_right hy⟩
        · rintro (h | ⟨rfl | h, h2⟩)
          · exact .inl h
          · exact .inr (.inl rfl)
          · exact .inr (.inr h)
theorem putL_sorted (g : ByteArray) (n : Int) : ∀ l : List Item, l.Pairwise (fun a b => key a < key b) → (putL g n l).Pairwise (fun a b => key a < key b)
  | [], _ => by simp [putL]
  | y :: r, h => by
    have h' := List.pairwise_cons.1 h
    unfold putL
    split
    · rename_i hy
      refine List.pairwise_cons.2 ⟨fun z hz => ?_, putL_sorted g n r h'.2⟩
      rcases (putL_mem g n z r h'.2).1 hz with rfl | ⟨h1, _⟩
      · exact hy
      · exact h'.1 z h1
    · split
      · exact List.pairwise_cons.2 ⟨fun z hz => h'.1 z hz, h'.2⟩
      · rename_i h1 h2
        have hlt : g.data.toList < key y := by
          rcases bs_tri (key y) g.data.toList with h | h | h
          · exact absurd h h1
          · exact absurd h h2
          · exact h
        refine List.pairwise_cons.2 ⟨fun z hz => ?_, h⟩
        rcases List.mem_cons.1 hz with rfl | hz
        · exact hlt
        · exact List.lt_trans hlt (h'.1 z hz)

theorem itemCells_take (l : List Item) (k : Nat) : itemCells (l.take k) = (itemCells l).take (k * 2) := by
  induction l generalizing k with
  | nil => simp [itemCells]
  | cons x r ih =>
    cases k with
    | zero => simp [itemCells]
    | succ k =>
      have e : (k + 1) * 2 = k * 2 + 1 + 1 := by omega
      simp only [itemCells, List.take_succ_cons, List.flatMap_cons, List.cons_append, List.nil_append, e] at ih ⊢
      rw [ih]
theorem itemCells_drop (l : List Item) (k : Nat) : itemCells (l.drop k) = (itemCells l).drop (k * 2) := by
  induction l generalizing k with
  | nil => simp [itemCells]
  | cons x r ih =>
    cases k with
    | zero => simp [itemCells]
    | succ k =>
      have e : (k + 1) * 2 = k * 2 + 1 + 1 := by omega
      simp only [itemCells, List.flatMap_cons, List.cons_append, List.nil_append, e, List.drop_succ_cons] at ih ⊢
      rw [ih]
theorem itemCells_set (l : List Item) (j : Nat) (hj : j < l.length) (n : Int) : itemCells (l.set j (l[j].1, n)) = (itemCells l).set (j * 2 + 1) (.int .i64 n) := by
  induction l generalizing j with
  | nil => simp at hj
  | cons x r ih =>
    cases j with
    | zero => rfl
    | succ j =>
      have e : (j + 1) * 2 + 1 = j * 2 + 1 + 1 + 1 := by omega
      have := ih j (by simpa using hj)
      simp only [List.set_cons_succ, List.getElem_cons_succ, itemCells, List.flatMap_cons, List.cons_append, List.nil_append, e] at this ⊢
      rw [this]

end It
end Go.Proofs.Ythfpfomifebpbaa

namespace Go.Proofs.Ythfpfomifebpbaa
open Go.RowKit Go.Maps
namespace It

def outN (L : List Item) (i : Nat) : List Item := (ksOf ((L.take i).map key)).filterMap (pick L)
theorem outN_sorted (L : List Item) (i : Nat) : (outN L i).Pairwise fun a b => key a < key b := by
  unfold outN
  rw [List.pairwise_filterMap]
  refine (ksOf_sorted ((L.take i).map key)).imp_of_mem fun {a b} _ _ h x hx y hy => ?_
  rw [(pick_some hx).1, (pick_some hy).1]
  exact h
theorem outN_mem (L : List Item) (i : Nat) (x : Item) : x ∈ outN L i ↔ key x ∈ (L.take i).map key ∧ x.2 = tot (key x) L ∧ 0 < x.2 := by
  unfold outN
  rw [List.mem_filterMap]
  constructor
  · rintro ⟨k, hk, hx⟩
    obtain ⟨rfl, h2, h3⟩ := pick_some hx
    exact ⟨(ksOf_mem _ _).1 hk, h2, h3⟩
  · rintro ⟨h1, h2, h3⟩
    refine ⟨key x, (ksOf_mem _ _).2 h1, ?_⟩
    unfold pick
    rw [← h2, if_pos h3, ← item_eta]
theorem outN_len (L : List Item) (i : Nat) : (outN L i).length ≤ i := by
  refine Nat.le_trans (List.length_filterMap_le _ _) ?_
  have h : ∀ l : List Bs, (ksOf l).length ≤ l.length := by
    intro l
    induction l with
    | nil => simp [ksOf]
    | cons y l ih =>
      have hk : ∀ (k : Bs) (r : List Bs), (insK k r).length ≤ r.length + 1 := by
        intro k r
        induction r with
        | nil => simp [insK]
        | cons z r ih => unfold insK; split; · simp
                         split; · simp
                         simp only [List.length_cons]; omega
      have := hk y (ksOf l)
      unfold ksOf at ih this ⊢
      rw [List.foldr_cons, List.length_cons]
      omega
  refine Nat.le_trans (h _) ?_
  rw [List.length_map, List.length_take]
  omega
theorem outN_put {L : List Item} {i : Nat} (h : i < L.length) (ht : 0 < tot (key L[i]) L) : putL L[i].1 (tot (key L[i]) L) (outN L i) = outN L (i + 1) := by
  refine uniq (r := fun a b : Item => key a < key b) (fun _ => bs_irr _) (fun _ _ => bs_asy _ _) (putL_sorted _ _ _ (outN_sorted L i)) (outN_sorted L (i + 1)) fun x => ?_
  rw [putL_mem _ _ _ _ (outN_sorted L i), outN_mem, outN_mem, List.take_succ_eq_append_getElem h, List.map_append, List.mem_append, List.map_singleton, List.mem_singleton]
  have hk : L[i].1.data.toList = key L[i] := rfl
  rw [hk]
  constructor
  · rintro (rfl | ⟨⟨h1, h2, h3⟩, _⟩)
    · exact ⟨.inr rfl, rfl, ht⟩
    · exact ⟨.inl h1, h2, h3⟩
  · rintro ⟨h1, h2, h3⟩
    by_cases e : key x = key L[i]
    · left
      refine key_item _ _ e ?_
      rw [h2, e]
    · exact .inr ⟨⟨h1.resolve_right e, h2, h3⟩, e⟩
theorem outN_skip {L : List Item} {i : Nat} (h : i < L.length) (ht : ¬ 0 < tot (key L[i]) L) : outN L (i + 1) = outN L i := by
  refine uniq (r := fun a b : Item => key a < key b) (fun _ => bs_irr _) (fun _ _ => bs_asy _ _) (outN_sorted L (i + 1)) (outN_sorted L i) fun x => ?_
  rw [outN_mem, outN_mem, List.take_succ_eq_append_getElem h, List.map_append, List.mem_append, List.map_singleton, List.mem_singleton]
  constructor
  · rintro ⟨h1, h2, h3⟩
    refine ⟨h1.resolve_right fun e => ht ?_, h2, h3⟩
    rw [← e, ← h2]; exact h3
  · rintro ⟨h1, h2, h3⟩
    exact ⟨.inl h1, h2, h3⟩
theorem outN_all (L : List Item) : outN L L.length = normL L := by unfold outN normL; rw [List.take_length]
theorem tot_take_le {L : List Item} (h : L.all okC = true) (k : Bs) (j : Nat) : 0 ≤ tot k (L.take j) ∧ tot k (L.take j) ≤ tot k L := by
  have h1 : (L.take j).all okC = true := all_prefix (List.take_prefix _ _) h
  have h2 : (L.drop j).all okC = true := by
    rw [← List.take_append_drop j L, List.all_append, Bool.and_eq_true] at h
    exact h.2
  have h3 := tot_append k (L.take j) (L.drop j)
  rw [List.take_append_drop] at h3
  have := tot_nonneg k _ h1
  have := tot_nonneg k _ h2
  omega
theorem okC_false {L : List Item} {i : Nat} (h : i < L.length) (hf : okC L[i] = false) : L.all okC = false := by
  rw [List.all_eq_false]
  exact ⟨L[i], List.getElem_mem h, by simp [hf]⟩

theorem own_form {w : World} {lo : Nat} {e : TypeId} {size n : Nat} {v : Value} {xs : List Value} (h : w.ownsRow lo e size v n xs) : v = .slice none 0 0 ∨ ∃ b o n c, v = .slice (some ⟨b, o, none⟩) n c := by
  rcases h.2 with ⟨rfl, _⟩ | ⟨g, cap, cur, rfl, _⟩
  · rcases Nat.eq_zero_or_pos n with h0 | h0
    · exact .inl rfl
    · exact .inl rfl
  · exact .inr ⟨_, _, _, _, rfl⟩

end It
end Go.Proofs.Ythfpfomifebpbaa

namespace Go.Proofs.Ythfpfomifebpbaa
open Go.RowKit Go.Maps
namespace It
attribute [local go_sem] Oper.semAt_some

theorem eql_nil (b : Nat) (w : World) : (binOp .eql 95 (.func (.func 87) #[] #[.pointer (some ⟨b, 0, none⟩)]) .nilFunc).run Try.prog w = .ok (.bool false) w := by kernel_rfl

/-- how far a walk goes that stops at so many -/
def upTo (most : Int) (L : List Item) : List Item := if 1 ≤ most ∧ most ≤ L.length then L.take most.toNat else L

end It
end Go.Proofs.Ythfpfomifebpbaa

namespace Go.Proofs.Ythfpfomifebpbaa
open Go.RowKit Go.Maps
namespace It

set_option maxHeartbeats 400000 in
theorem refmeet_calls (a b : List Item) (va vb : Value) (w : World) (ha : ItemsAt w 0 w.heap.size va a) (hb : ItemsAt w 0 w.heap.size vb b) (hla : a.length ≤ 1000000) :
    Calls Try.prog 62 #[va, vb] w fun e w' =>
      (∃ v, e = .returned v ∧ w'.ownsRow w.heap.size 41 2 v (eachL meetF a b).length (itemCells (eachL meetF a b))) ∧ Below w.heap.size w w' := by
  have cE := Lib.hid (refboth_calls 1 meetF (.inl ⟨rfl, rfl⟩) a b va vb w ha hb hla)
  obtain ⟨A, c, rfl, -⟩ := ha.form
  obtain ⟨A', c', rfl, -⟩ := hb.form
  generalize eachL meetF a b = R at *
  go_enter Try.func62, Try.ntmps62
  go_wp2_with fail
  refine cE.out.mono ?_
  rintro e w1 ⟨⟨v, rfl, h1⟩, h2⟩
  obtain ⟨A1, c1, rfl, -⟩ := (ItemsAt.of_own h1).form
  go_wp2
  go_ret
  exact ⟨⟨_, rfl, h1⟩, h2⟩
set_option maxHeartbeats 400000 in
theorem refrest_calls (a b : List Item) (va vb : Value) (w : World) (ha : ItemsAt w 0 w.heap.size va a) (hb : ItemsAt w 0 w.heap.size vb b) (hla : a.length ≤ 1000000) :
    Calls Try.prog 63 #[va, vb] w fun e w' =>
      (∃ v, e = .returned v ∧ w'.ownsRow w.heap.size 41 2 v (eachL restF a b).length (itemCells (eachL restF a b))) ∧ Below w.heap.size w w' := by
  have cE := Lib.hid (refboth_calls 2 restF (.inr ⟨rfl, rfl⟩) a b va vb w ha hb hla)
  obtain ⟨A, c, rfl, -⟩ := ha.form
  obtain ⟨A', c', rfl, -⟩ := hb.form
  generalize eachL restF a b = R at *
  go_enter Try.func63, Try.ntmps63
  go_wp2_with fail
  refine cE.out.mono ?_
  rintro e w1 ⟨⟨v, rfl, h1⟩, h2⟩
  obtain ⟨A1, c1, rfl, -⟩ := (ItemsAt.of_own h1).form
  go_wp2
  go_ret
  exact ⟨⟨_, rfl, h1⟩, h2⟩

theorem M.fits {l : List Item} (h : M l) : Fits l := fun x hx => by
  have h1 := h.ok x hx
  have h2 := h1.1
  unfold good at h2
  simp only [Bool.and_eq_true, decide_eq_true_eq] at h2
  refine ⟨Nat.le_trans h2.2 (by unfold maxLen; omega), by omega, by omega⟩

end It
end Go.Proofs.Ythfpfomifebpbaa

namespace Go.Proofs.Ythfpfomifebpbaa
open Go.RowKit Go.Maps
namespace Sa
open It
set_option linter.unusedSimpArgs false

def leftR (want : List It.Item) (L : List (List It.Item)) : List It.Item := L.foldl (fun l o => It.eachL restF l (It.eachL meetF l o)) want
theorem leftR_succ (want : List It.Item) (L : List (List It.Item)) {k : Nat} (hk : k < L.length) : leftR want (L.take (k + 1)) = It.eachL restF (leftR want (L.take k)) (It.eachL meetF (leftR want (L.take k)) (L.getD k [])) := by
  unfold leftR
  rw [List.take_succ_eq_append_getElem hk, List.foldl_append, getD_get hk]
  rfl
theorem itEach_le (f : Int → Int → Int) (a b : List It.Item) : (It.eachL f a b).length ≤ a.length := List.length_filterMap_le _ _
theorem leftR_len (want : List It.Item) (L : List (List It.Item)) : (leftR want L).length ≤ want.length := by
  induction L generalizing want with
  | nil => exact Nat.le_refl _
  | cons o L ih => exact Nat.le_trans (ih _) (itEach_le _ _ _)

set_option maxRecDepth 100000 in
set_option maxHeartbeats 2000000 in
theorem refsplit_calls (want : List It.Item) (L : List (List It.Item)) (va vb : Value) (w : World) (ha : ItemsAt w 0 w.heap.size va want) (hb : GotAt w 0 w.heap.size vb L) (hwl : want.length ≤ 1000000) (hll : L.length ≤ 1000000) :
    Calls Try.prog 37 #[va, vb] w fun e w' => (∃ vo vl, e = .returned (.tuple #[vo, vl]) ∧ ItemsAt w' 0 w'.heap.size vl (leftR want L)) ∧ Below w.heap.size w w' := by
  obtain ⟨i0, hi0, hz0⟩ := Option.map_eq_some_iff.1 list_info
  simp only [Prod.mk.injEq] at hz0
  obtain ⟨hz0, hz1, hz2⟩ := hz0
  have hb0 := Lib.hid hb
  obtain ⟨A, c, rfl, -⟩ := ha.form
  obtain ⟨A', c', rfl, hc1, hc2⟩ := hb.form
  unfold maxLen at hc2
  have ha0 := Lib.hid ha
  clear ha hb
  go_enter Try.func37, Try.ntmps37
  go_wp2
  go_loopw [0, 6, 7, 8] (fun vl vo i _ wr => ∃ (k : Nat) (vs : List Value), k ≤ L.length ∧ i = .int .i64 k ∧ ItemsAt wr 0 wr.heap.size vl (leftR want (L.take k)) ∧ wr.ownsRow w.heap.size 22 1 vo k vs ∧ Below w.heap.size w wr) (fun _ _ i _ _ => L.length - (intOf i).toNat)
  case atStart => exact ⟨0, [], by omega, rfl, ha0.out, World.ownsRow_nil _ _ _ _, Below.refl _ _⟩
  case round =>
    obtain ⟨k, vs, hk, rfl, hvl, hvo, hb⟩ := hrel
    have hlow := fun g e => hvo.lt g e
    by_cases hlt : k < L.length
    · have hd : decide ((k : Int) < L.length) = true := by simp; omega
      obtain ⟨b, o, x, rfl, _, hbB, hck, hx⟩ := (hb0.out.below hb).cellAt hlt
      have hx := hx.wide (Nat.le_refl _) hb.size
      have HS := Lib.hid (leftR_succ want L hlt)
      have HL := Lib.hid (leftR_len want (L.take k))
      generalize L.getD k [] = y at hx HS
      generalize leftR want (L.take k) = left at hvl HL HS
      obtain ⟨A1, c1, rfl, -⟩ := hx.form
      obtain ⟨A3, c3, rfl, -⟩ := hvl.form
      have hll1 : left.length ≤ 1000000 := Nat.le_trans HL.out hwl
      have cMe := Lib.hid (refmeet_calls left y _ _ wr hvl hx hll1)
      clear hx
      go_wp2_with fail
      refine cMe.out.mono ?_
      rintro e w3 ⟨⟨v3, rfl, hv3⟩, hb3⟩
      clear cMe
      have hg3 := (ItemsAt.of_own hv3).wide (Nat.zero_le _) (Nat.le_refl _)
      obtain ⟨A4, c4, rfl, -⟩ := hg3.form
      have cRe := Lib.hid (refrest_calls left (It.eachL meetF left y) _ _ w3 (ItemsAt.mono hvl hb3 hb3.size) hg3 hll1)
      clear hg3 hvl
      go_wp2_with fail
      refine cRe.out.mono ?_
      rintro e w4 ⟨⟨v4, rfl, hv4⟩, hb4⟩
      clear cRe
      have hb34 := hb3.trans (hb4.mono hb3.size)
      have hvo4 := row_later hvo hb34
      obtain ⟨A5, c5, rfl, -⟩ := (ItemsAt.of_own hv4).form
      have hal := (Below.refl w4.heap.size w4).alloc (Nat.le_refl _) (.cells #[.slice A4 (It.eachL meetF left y).length c4] 22)
      have hva := row_later hvo4 hal
      have hvl5 := row_later hv4 hal
      have hob := Ob.new w4 22 #[.slice A4 (It.eachL meetF left y).length c4]
      have hba := (hb.trans (hb34.mono hb.size)).trans (hal.mono (by have := hb.size; have := hb34.size; omega))
      go_wp2_with (at_builtin; go_must (refine wpList_append_own _ rfl (.tmp 24) (.tmp 26) 24 rfl w.heap.size 22 i0 _ 1 24 Try.underlying24 hi0 hz0 hz1 hz2 rfl (by omega) _ k _ rfl hva ⟨w4.heap.size, 0, none⟩ 1 1 [.slice A4 (It.eachL meetF left y).length c4] rfl rfl (fun j u hu => by rw [add_mid, Nat.zero_add]; exact hob.cell (by simpa using hu)) (by simp [Value.oneCell']) (by unfold maxLen; omega) (by omega) hba.size ?_; intro v1 w1 hv1 hg1 hat1))
      have hrow : ItemsAt w1 0 w1.heap.size (.slice A5 (It.eachL restF left (It.eachL meetF left y)).length c5) (It.eachL restF left (It.eachL meetF left y)) := by
        have h34 := hb3.size
        have h1 := hb.size
        refine (ItemsAt.of_own (hvl5.kept hg1 ?_)).wide (Nat.zero_le _) (Nat.le_refl _)
        cases hq : Value.ownBlock (.slice A5 (It.eachL restF left (It.eachL meetF left y)).length c5) with
        | none => exact .inl rfl
        | some g =>
          refine .inr fun e => ?_
          have := (hvl5.lt g hq).1
          have := hlow g e.symm
          omega
      exact ⟨⟨k + 1, _, by omega, by go_num, by rw [HS.out]; exact hrow, hv1, hba.grown hg1 hba.size (fun g e => (hlow g e).1)⟩, by simp [intOf]; omega⟩
    · obtain rfl : k = L.length := by omega
      have hd : decide ((L.length : Int) < L.length) = false := decide_eq_false (by omega)
      rw [List.take_length] at hvl
      obtain ⟨A3, c3, rfl, -⟩ := hvl.form
      go_wp2
      go_ret2
      exact ⟨⟨_, _, rfl, hvl⟩, hb⟩

theorem refmissing_calls (s : Saga) (vw vg vp : Value) (w : World) (h : Parts w 0 w.heap.size s vw vg vp) (hwl : s.want.length ≤ 1000000) (hll : s.got.length ≤ 1000000) :
    Calls Try.prog 22 #[.agg (sagaC s vw vg vp)] w fun e w' => (∃ vl, e = .returned vl ∧ ItemsAt w' 0 w'.heap.size vl (leftR s.want s.got)) ∧ Below w.heap.size w w' := by
  have cM := Lib.hid (fun W (hb : Below w.heap.size w W) => refsplit_calls s.want s.got vw vg W (h.later hb).want (h.later hb).got hwl hll)
  obtain ⟨A, c, rfl, -⟩ := h.want.form
  obtain ⟨A', c', rfl, -⟩ := h.got.form
  obtain ⟨A2, c2, rfl, -⟩ := h.pend.form
  clear h
  unfold sagaC
  have hB := (Below.refl _ w).alloc (Nat.le_refl _) (.cells #[.int .i64 s.order, .int .i64 s.first, .int .i64 s.regions, .slice A s.want.length c, .bool s.waits, .int .i64 s.state, .int .i64 s.asked, .slice A' s.got.length c', .slice A2 s.pending.length c2, .bool s.cancelled] 27)
  go_enter Try.func22, Try.ntmps22
  go_wp2_with fail
  refine (cM.out _ hB).mono ?_
  rintro e w1 ⟨⟨vo, vl, rfl, hv⟩, hb⟩
  obtain ⟨A1, c1, rfl, -⟩ := hv.form
  go_wp2
  go_ret
  exact ⟨⟨_, rfl, hv⟩, hB.trans (hb.mono hB.size)⟩

/-- is a saga not too large to be looked at? -/
def smallS (s : Saga) : Bool := decide (s.want.length ≤ 50) && decide (s.got.length ≤ 50) && decide (s.pending.length ≤ 50) && s.got.all fun l => decide (l.length ≤ 50)
set_option maxRecDepth 100000 in
set_option maxHeartbeats 2000000 in
theorem small_calls (s : Saga) (vw vg vp : Value) (w : World) (h : Parts w 0 w.heap.size s vw vg vp) :
    Calls Try.prog 19 #[.agg (sagaC s vw vg vp)] w fun e w' => e = .returned (.bool (smallS s)) ∧ Below w.heap.size w w' := by
  have hg0 := Lib.hid h.got
  obtain ⟨A, c, rfl, -⟩ := h.want.form
  obtain ⟨A', c', rfl, hc1, hc2⟩ := h.got.form
  obtain ⟨A2, c2, rfl, -⟩ := h.pend.form
  unfold maxLen at hc2
  clear h
  unfold sagaC
  have hB := (Below.refl _ w).alloc (Nat.le_refl _) (.cells #[.int .i64 s.order, .int .i64 s.first, .int .i64 s.regions, .slice A s.want.length c, .bool s.waits, .int .i64 s.state, .int .i64 s.asked, .slice A' s.got.length c', .slice A2 s.pending.length c2, .bool s.cancelled] 27)
  by_cases h1 : s.want.length ≤ 50
  rotate_left
  · have d1 : decide ((s.want.length : Int) > 50) = true := decide_eq_true (by omega)
    have hs : smallS s = false := by
      unfold smallS
      rw [decide_eq_false (show ¬ s.want.length ≤ 50 from h1)]
      simp
    rw [hs]
    clear hs h1
    go_enter Try.func19, Try.ntmps19
    go_wp2
    go_ret
    exact ⟨rfl, hB⟩
  have d1 : decide ((s.want.length : Int) > 50) = false := decide_eq_false (by omega)
  by_cases h2 : s.got.length ≤ 50
  rotate_left
  · have d2 : decide ((s.got.length : Int) > 50) = true := decide_eq_true (by omega)
    have hs : smallS s = false := by
      unfold smallS
      rw [decide_eq_false (show ¬ s.got.length ≤ 50 from h2)]
      simp
    rw [hs]
    clear hs h2
    go_enter Try.func19, Try.ntmps19
    go_wp2
    go_ret
    exact ⟨rfl, hB⟩
  have d2 : decide ((s.got.length : Int) > 50) = false := decide_eq_false (by omega)
  by_cases h3 : s.pending.length ≤ 50
  rotate_left
  · have d3 : decide ((s.pending.length : Int) > 50) = true := decide_eq_true (by omega)
    have hs : smallS s = false := by
      unfold smallS
      rw [decide_eq_false (show ¬ s.pending.length ≤ 50 from h3)]
      simp
    rw [hs]
    clear hs h3
    go_enter Try.func19, Try.ntmps19
    go_wp2
    go_ret
    exact ⟨rfl, hB⟩
  have d3 : decide ((s.pending.length : Int) > 50) = false := decide_eq_false (by omega)
  have hs : smallS s = s.got.all fun l => decide (l.length ≤ 50) := by
    unfold smallS
    rw [decide_eq_true h1, decide_eq_true h2, decide_eq_true h3]
    simp
  have HS := Lib.hid hs
  clear hs h1 h2 h3
  go_enter Try.func19, Try.ntmps19
  go_wp2
  go_loop [3] (fun i => ∃ k : Nat, k ≤ s.got.length ∧ i = .int .i64 k ∧ ∀ j, j < k → (s.got.getD j []).length ≤ 50) (fun i => s.got.length - (intOf i).toNat)
  case atStart => exact ⟨0, by omega, rfl, fun j hj => by omega⟩
  case round =>
    obtain ⟨k, hk, rfl, hN⟩ := hrel
    have HN := Lib.hid hN
    clear hN
    by_cases hlt : k < s.got.length
    · have hd : decide ((k : Int) < s.got.length) = true := decide_eq_true (by omega)
      obtain ⟨b, o, x, rfl, _, hbB, hck, hx⟩ := hg0.out.cellAt hlt
      have hck := (hB.cell (p := ⟨b, o + k, none⟩) hbB).trans hck
      have hno : ¬ (s.got.getD k []).length ≤ 50 → smallS s = false := fun h => by
        rw [HS.out, Bool.eq_false_iff]
        intro e
        have := List.all_eq_true.1 e _ (List.getElem_mem hlt)
        rw [getD_get hlt] at h
        exact h (of_decide_eq_true this)
      have hye : (s.got.getD k []).length ≤ 50 → ∀ j, j < k + 1 → (s.got.getD j []).length ≤ 50 := fun h => allTo_snoc HN.out h
      generalize s.got.getD k [] = y at hx hno hye
      obtain ⟨A1, c1, rfl, -⟩ := hx.form
      have HNO := Lib.hid hno
      have HYE := Lib.hid hye
      clear hno hye hx
      by_cases hy : y.length ≤ 50
      · have dy : decide ((y.length : Int) > 50) = false := decide_eq_false (by omega)
        have HY := Lib.hid hy
        clear hy
        go_wp2
        go_round
        case rel => exact ⟨k + 1, by omega, by go_num, HYE.out HY.out⟩
        case measure => simp [intOf]; omega
      · have dy : decide ((y.length : Int) > 50) = true := decide_eq_true (by omega)
        have HY := Lib.hid hy
        clear hy
        go_wp2
        go_ret
        exact ⟨by rw [HNO.out HY.out]; rfl, hB⟩
    · obtain rfl : k = s.got.length := by omega
      have hd : decide ((s.got.length : Int) < s.got.length) = false := decide_eq_false (by omega)
      have hs : smallS s = true := by
        rw [HS.out, List.all_eq_true]
        intro l hl
        obtain ⟨i, hi, rfl⟩ := List.getElem_of_mem hl
        have := HN.out i hi
        rw [getD_get hi] at this
        exact decide_eq_true this
      have HS2 := Lib.hid hs
      clear hs
      go_wp2
      go_ret
      exact ⟨by rw [HS2.out]; rfl, hB⟩
end Sa
end Go.Proofs.Ythfpfomifebpbaa

namespace Go.Proofs.Ythfpfomifebpbaa
open Go.RowKit Go.Maps
namespace Sa
open It

def sumT (k : Bs) (L : List (List It.Item)) : Int := L.foldr (fun l n => tot k l + n) 0
theorem sumT_cons (k : Bs) (l : List It.Item) (L : List (List It.Item)) : sumT k (l :: L) = tot k l + sumT k L := rfl
theorem sumT_nonneg {k : Bs} : ∀ {L : List (List It.Item)}, (∀ l ∈ L, M l) → 0 ≤ sumT k L
  | [], _ => Int.le_refl _
  | l :: L, h => by
    have h1 := (h l (by simp)).nonneg k
    have h2 := sumT_nonneg (k := k) fun x hx => h x (List.mem_cons_of_mem _ hx)
    rw [sumT_cons]
    omega
theorem sumT_set {k : Bs} {l : List It.Item} : ∀ {L : List (List It.Item)} {r : Nat}, r < L.length → sumT k (L.set r l) = sumT k L - tot k (L.getD r []) + tot k l
  | [], r, h => by simp at h
  | x :: L, 0, _ => by simp only [List.set_cons_zero, sumT_cons, List.getD_cons_zero]; omega
  | x :: L, r + 1, h => by
    have := sumT_set (k := k) (l := l) (L := L) (r := r) (by simpa using h)
    simp only [List.set_cons_succ, sumT_cons, List.getD_cons_succ]
    omega
theorem meetrest_M {a b : List It.Item} (ha : M a) (hb : M b) : M (It.eachL restF a (It.eachL meetF a b)) ∧ ∀ k, tot k (It.eachL restF a (It.eachL meetF a b)) = max 0 (tot k a - tot k b) := by
  have hm := meet_M ha hb
  refine ⟨rest_M ha hm, fun k => ?_⟩
  rw [rest_tot ha hm, meet_tot ha hb]
  have := ha.nonneg k
  have := hb.nonneg k
  omega
theorem leftR_M : ∀ {L : List (List It.Item)} {want : List It.Item}, M want → (∀ l ∈ L, M l) → M (leftR want L) ∧ ∀ k, tot k (leftR want L) = max 0 (tot k want - sumT k L)
  | [], want, hw, _ => ⟨hw, fun k => by
      have := hw.nonneg k
      show tot k want = max 0 (tot k want - 0)
      omega⟩
  | l :: L, want, hw, hL => by
    obtain ⟨h1, h2⟩ := meetrest_M hw (hL l (by simp))
    obtain ⟨h3, h4⟩ := leftR_M (L := L) h1 fun x hx => hL x (List.mem_cons_of_mem _ hx)
    refine ⟨h3, fun k => ?_⟩
    have h5 := h4 k
    rw [h2 k] at h5
    have h6 := sumT_nonneg (k := k) (L := L) fun x hx => hL x (List.mem_cons_of_mem _ hx)
    have h7 := (hL l (by simp)).nonneg k
    show tot k (leftR _ L) = _
    rw [h5, sumT_cons]
    omega
theorem M_nil : M ([] : List It.Item) := (may_iff []).1 (by decide +kernel)
theorem M_of {l : List It.Item} (h : may l = true) : M l := (may_iff l).1 h
theorem leftOf_R : ∀ {L : List (List It.Item)} {want : List It.Item}, M want → (∀ l ∈ L, M l) → leftOf want L = leftR want L
  | [], want, _, _ => rfl
  | l :: L, want, hw, hL => by
    have hl := hL l (by simp)
    have h1 := meetrest_M hw hl
    have e : both restF want (both meetF want l) = It.eachL restF want (It.eachL meetF want l) := by rw [both_of hw hl, both_of hw (meet_M hw hl)]
    show leftOf (both restF want (both meetF want l)) L = _
    rw [e]
    exact leftOf_R h1.1 fun x hx => hL x (List.mem_cons_of_mem _ hx)
theorem mayS_M {s : Saga} (h : mayS s = true) : M s.want ∧ (∀ l ∈ s.got, M l) ∧ s.got.length ≤ 8 := by
  obtain ⟨hh, -⟩ := mayS_split h
  exact ⟨M_of hh.may, fun l hl => M_of (mayGot_all hh.kept l hl), by have := hh.got; have := hh.r2; omega⟩
theorem missing_R {want : List It.Item} {L : List (List It.Item)} (hw : M want) (hL : ∀ l ∈ L, M l) (h8 : L.length ≤ 8) : missing want L = leftR want L := by
  have hm : mayAll want L = true := by
    unfold mayAll
    simp only [Bool.and_eq_true, decide_eq_true_eq]
    refine ⟨⟨(may_iff want).2 hw, by omega⟩, ?_⟩
    first
      | (rw [List.all_eq_true]; exact fun l hl => (may_iff l).2 (hL l hl))
      | (simp; exact fun l hl => (may_iff l).2 (hL l hl))
  unfold missing
  rw [if_pos hm]
  exact leftOf_R hw hL
/-- what is missing when a region that held nothing holds something -/
theorem left_set {want l : List It.Item} {L : List (List It.Item)} {r : Nat} (hw : M want) (hL : ∀ x ∈ L, M x) (hl : M l) (hr : r < L.length) (h0 : L.getD r [] = []) : It.eachL restF (leftR want L) l = leftR want (L.set r l) := by
  obtain ⟨h1, h2⟩ := leftR_M hw hL
  have hL' : ∀ x ∈ L.set r l, M x := fun x hx => by
    rcases List.mem_or_eq_of_mem_set hx with h | rfl
    · exact hL x h
    · exact hl
  obtain ⟨h3, h4⟩ := leftR_M hw hL'
  refine M.ext (rest_M h1 hl) h3 fun k => ?_
  rw [rest_tot h1 hl, h2, h4, sumT_set hr, h0]
  have := hl.nonneg k
  have e : tot k ([] : List It.Item) = 0 := rfl
  rw [e]
  omega
theorem visit_at {f r : Int} {i : Nat} (h : i < (visit f r).length) : (visit f r)[i] = (f + (i : Int)) % r ∧ (i : Int) < r ∧ 0 ≤ f ∧ f < r := by
  have hv : ¬ (r < 1 ∨ 8 < r ∨ f < 0 ∨ r ≤ f) := fun hb => by
    have h' := h
    rw [visit_none hb] at h'
    simp at h'
  have hl : (visit f r).length = r.toNat := by rw [visit_some hv]; simp
  refine ⟨?_, by omega, by omega, by omega⟩
  have : (visit f r)[i]? = some ((f + (i : Int)) % r) := by
    rw [visit_some hv, List.getElem?_map, List.getElem?_range (by omega)]
    rfl
  rw [List.getElem?_eq_getElem h] at this
  exact Option.some.inj this
theorem visit_inj {f r : Int} {i j : Nat} (hi : i < (visit f r).length) (hj : j < (visit f r).length) (h : (visit f r)[i] = (visit f r)[j]) : i = j := by
  obtain ⟨e1, h1, h2, h3⟩ := visit_at hi
  obtain ⟨e2, h4, -, -⟩ := visit_at hj
  rw [e1, e2] at h
  have hm : ∀ x : Int, 0 ≤ x → x < 2 * r → x % r = if x < r then x else x - r := fun x hx0 hx => by
    split
    · exact Int.emod_eq_of_lt hx0 (by omega)
    · rw [show x = (x - r) + r by omega, Int.add_emod_right]
      rw [show (x - r) + r - r = x - r by omega]
      exact Int.emod_eq_of_lt (by omega) (by omega)
  rw [hm _ (by omega) (by omega), hm _ (by omega) (by omega)] at h
  split at h <;> split at h <;> omega
theorem sorted_mem {x : Int} {l : List Int} : x ∈ sorted l ↔ x ∈ l := by unfold sorted; exact List.mem_mergeSort
/-- a region that is asked holds nothing yet -/
theorem asked_none {s : Saga} (h : mayS s = true) (h1 : s.state = 1) {x : Int} (hx : x ∈ s.pending) : s.got.getD x.toNat [] = [] := by
  obtain ⟨hh, hb⟩ := mayS_split h
  rw [h1] at hb
  unfold bodyAt at hb
  rw [if_pos rfl] at hb
  simp only [Bool.and_eq_true, decide_eq_true_eq] at hb
  obtain ⟨⟨-, hp⟩, hr⟩ := hb
  obtain ⟨a, ha⟩ : ∃ a : Nat, (s.asked - 1).toNat = a := ⟨_, rfl⟩
  rw [ha] at hp hr
  have hva : a < (visit s.first s.regions).length := by
    have := hh.visit
    have := hh.a1
    have := hh.a2
    omega
  rw [hp] at hx
  have hx' : x = (visit s.first s.regions)[a] := by
    rw [List.drop_eq_getElem_cons hva, List.take_succ_cons, List.take_zero] at hx
    exact List.mem_singleton.1 hx
  apply Decidable.byContradiction
  intro hne
  have hx0 := visit_mem (hx' ▸ List.getElem_mem hva : x ∈ visit s.first s.regions)
  have hmem : x ∈ holders s.got := by
    unfold holders holdersTo
    refine List.mem_map.2 ⟨x.toNat, List.mem_filter.2 ⟨List.mem_range.2 (by have := hh.got; omega), ?_⟩, by omega⟩
    rw [decide_eq_true_eq]
    exact Nat.pos_of_ne_zero fun e => hne (List.eq_nil_of_length_eq_zero e)
  have hs := sorted_mem.1 (rises_mem hr hmem)
  obtain ⟨i, hi, e⟩ := List.getElem_of_mem hs
  rw [List.length_take] at hi
  rw [List.getElem_take] at e
  have := visit_inj (by omega) hva (e.trans hx')
  omega
end Sa
end Go.Proofs.Ythfpfomifebpbaa

namespace Go.Proofs.Ythfpfomifebpbaa
open Go.RowKit Go.Maps
namespace Sa
open It
set_option linter.unusedSimpArgs false

set_option maxRecDepth 100000 in
set_option maxHeartbeats 2000000 in
theorem refmay14_calls (want : List It.Item) (L : List (List It.Item)) (va vb : Value) (w : World) (ha : ItemsAt w 0 w.heap.size va want) (hFa : Fits want) (hb : GotAt w 0 w.heap.size vb L) (hFb : FitsL L) :
    Calls Try.prog 44 #[va, vb] w fun e w' => e = .returned (.bool (mayAll want L)) ∧ Below w.heap.size w w' := by
  have cM := Lib.hid (refmay_calls want va w ha hFa)
  have hb0 := Lib.hid hb
  have HF := Lib.hid hFb
  obtain ⟨A, c, rfl, -⟩ := ha.form
  obtain ⟨A', c', rfl, hc1, hc2⟩ := hb.form
  unfold maxLen at hc2
  clear ha hb hFa hFb
  cases hw : may want with
  | false =>
    rw [hw] at cM
    rw [show mayAll want L = false by unfold mayAll; rw [hw]; rfl]
    clear hw
    go_enter Try.func44, Try.ntmps44
    go_wp2_with fail
    refine cM.out.mono ?_
    rintro e w1 ⟨rfl, hb1⟩
    go_wp2
    go_ret
    exact ⟨rfl, hb1⟩
  | true =>
    rw [hw] at cM
    have HW := Lib.hid hw
    clear hw
    by_cases h8 : L.length ≤ 8
    rotate_left
    · have d8 : decide ((L.length : Int) > 8) = true := decide_eq_true (by omega)
      rw [show mayAll want L = false by unfold mayAll; rw [decide_eq_false h8]; simp]
      clear h8
      go_enter Try.func44, Try.ntmps44
      go_wp2_with fail
      refine cM.out.mono ?_
      rintro e w1 ⟨rfl, hb1⟩
      go_wp2
      go_ret
      exact ⟨rfl, hb1⟩
    have d8 : decide ((L.length : Int) > 8) = false := decide_eq_false (by omega)
    have HA := Lib.hid (show mayAll want L = L.all may by unfold mayAll; rw [HW.out, decide_eq_true h8]; rfl)
    go_enter Try.func44, Try.ntmps44
    go_wp2_with fail
    refine cM.out.mono ?_
    rintro e w1 ⟨rfl, hb1⟩
    go_wp2
    go_loopw [5] (fun i wr => ∃ k : Nat, k ≤ L.length ∧ i = .int .i64 k ∧ (∀ j, j < k → may (L.getD j []) = true) ∧ Below w.heap.size w wr) (fun i _ => L.length - (intOf i).toNat)
    case atStart => exact ⟨0, by omega, rfl, (fun j hj => by omega), hb1⟩
    case round =>
      obtain ⟨k, hk, rfl, hN, hW⟩ := hrel
      have HN := Lib.hid hN
      clear hN
      by_cases hlt : k < L.length
      · have hd : decide ((k : Int) < L.length) = true := decide_eq_true (by omega)
        obtain ⟨p, o, x, rfl, _, hp, g1, hx⟩ := (hb0.out.mono hW hW.size).cellAt hlt
        have cK := Lib.hid (refmay_calls (L.getD k []) x wr hx (HF.out.get hlt))
        have hno : may (L.getD k []) = false → L.all may = false := fun h => by
          rw [Bool.eq_false_iff]
          intro e
          have := List.all_eq_true.1 e _ (List.getElem_mem hlt)
          rw [getD_get hlt, this] at h
          cases h
        have hye : may (L.getD k []) = true → ∀ j, j < k + 1 → may (L.getD j []) = true := fun h => allTo_snoc HN.out h
        generalize L.getD k [] = y at hx cK hno hye
        obtain ⟨A1, c1, rfl, -⟩ := hx.form
        have HNO := Lib.hid hno
        have HYE := Lib.hid hye
        clear hno hye hx
        generalize hq : may y = q at cK
        have HQ := Lib.hid hq
        clear hq
        cases q with
        | true =>
          go_wp2_with fail
          refine cK.out.mono ?_
          rintro e w2 ⟨rfl, hb2⟩
          go_wp2
          go_roundw
          case rel => exact ⟨k + 1, by omega, by go_num, HYE.out HQ.out, hW.trans (hb2.mono hW.size)⟩
          case measure => simp [intOf]; omega
        | false =>
          go_wp2_with fail
          refine cK.out.mono ?_
          rintro e w2 ⟨rfl, hb2⟩
          go_wp2
          go_ret
          exact ⟨by rw [HA.out, HNO.out HQ.out]; rfl, hW.trans (hb2.mono hW.size)⟩
      · obtain rfl : k = L.length := by omega
        have hd : decide ((L.length : Int) < L.length) = false := decide_eq_false (by omega)
        have hall : L.all may = true := List.all_eq_true.2 fun l hl => by
          obtain ⟨i, hi, rfl⟩ := List.getElem_of_mem hl
          have := HN.out i hi
          rwa [getD_get hi] at this
        have HALL := Lib.hid hall
        clear hall
        go_wp2
        go_ret
        exact ⟨by rw [HA.out, HALL.out]; rfl, hW⟩

set_option maxRecDepth 100000 in
set_option maxHeartbeats 2000000 in
theorem refin_calls (l : List Int) (x : Int) (v : Value) (lo B : Nat) (w : World) (hv : IntsAt w lo B v l) :
    Calls Try.prog 46 #[v, .int .i64 x] w fun e w' => e = .returned (.bool (decide (x ∈ l))) ∧ w = w' := by
  have HV := Lib.hid hv
  obtain ⟨A, c, rfl, hc1, hc2, -⟩ := hv.form
  unfold maxLen at hc2
  clear hv
  go_enter Try.func46, Try.ntmps46
  go_wp2
  go_loop [5] (fun i => ∃ k : Nat, k ≤ l.length ∧ i = .int .i64 k ∧ ∀ j, j < k → l.getD j 0 ≠ x) (fun i => l.length - (intOf i).toNat)
  case atStart => exact ⟨0, by omega, rfl, fun j hj => by omega⟩
  case round =>
    obtain ⟨k, hk, rfl, hN⟩ := hrel
    have HN := Lib.hid hN
    clear hN
    by_cases hlt : k < l.length
    · have hd : decide ((k : Int) < l.length) = true := decide_eq_true (by omega)
      obtain ⟨b, o, rfl, _, _, hck⟩ := HV.out.cellAt hlt
      have hye : l.getD k 0 = x → decide (x ∈ l) = true := fun h => decide_eq_true (by rw [← h, getD_get hlt]; exact List.getElem_mem hlt)
      have hno : l.getD k 0 ≠ x → ∀ j, j < k + 1 → l.getD j 0 ≠ x := fun h => allTo_snoc HN.out h
      generalize l.getD k 0 = y at hck hye hno
      have HYE := Lib.hid hye
      have HNO := Lib.hid hno
      clear hye hno
      rcases neq_cases y x with ⟨h1, x1, y1, z1⟩ | ⟨h1, x1, y1, z1⟩
      · have H1 := Lib.hid h1
        clear h1
        go_wp2
        go_ret
        exact ⟨by rw [HYE.out H1.out]; rfl, rfl⟩
      · have H1 := Lib.hid h1
        clear h1
        go_wp2
        go_round
        case rel => exact ⟨k + 1, by omega, by go_num, HNO.out H1.out⟩
        case measure => simp [intOf]; omega
    · obtain rfl : k = l.length := by omega
      have hd : decide ((l.length : Int) < l.length) = false := decide_eq_false (by omega)
      have hn : decide (x ∈ l) = false := decide_eq_false fun h => by
        obtain ⟨i, hi, e⟩ := List.getElem_of_mem h
        exact HN.out i hi (by rw [getD_get hi]; exact e)
      have HN2 := Lib.hid hn
      clear hn
      go_wp2
      go_ret
      exact ⟨by rw [HN2.out]; rfl, rfl⟩
set_option maxRecDepth 100000 in
set_option maxHeartbeats 2000000 in
theorem refholders_calls (s : Saga) (vw vg vp : Value) (w : World) (h : Parts w 0 w.heap.size s vw vg vp) (hL : s.got.length ≤ 1000000) :
    Calls Try.prog 45 #[.agg (sagaC s vw vg vp)] w fun e w' => (∃ v, e = .returned v ∧ w'.ownsRow w.heap.size 3 1 v (holders s.got).length (ints (holders s.got))) ∧ Below w.heap.size w w' := by
  obtain ⟨i0, hi0, hz0⟩ := Option.map_eq_some_iff.1 int_info
  simp only [Prod.mk.injEq] at hz0
  obtain ⟨hz0, hz1, hz2⟩ := hz0
  have hg0 := Lib.hid h.got
  obtain ⟨A, c, rfl, -⟩ := h.want.form
  obtain ⟨A', c', rfl, hc1, hc2⟩ := h.got.form
  obtain ⟨A2, c2, rfl, -⟩ := h.pend.form
  unfold maxLen at hc2
  clear h
  unfold sagaC
  generalize s.got = L at hg0 hL hc1 ⊢
  have hB := (Below.refl _ w).alloc (Nat.le_refl _) (.cells #[.int .i64 s.order, .int .i64 s.first, .int .i64 s.regions, .slice A s.want.length c, .bool s.waits, .int .i64 s.state, .int .i64 s.asked, .slice A' L.length c', .slice A2 s.pending.length c2, .bool s.cancelled] 27)
  have hOP := Ob.new w 27 #[.int .i64 s.order, .int .i64 s.first, .int .i64 s.regions, .slice A s.want.length c, .bool s.waits, .int .i64 s.state, .int .i64 s.asked, .slice A' L.length c', .slice A2 s.pending.length c2, .bool s.cancelled]
  have hz : (w.alloc (.cells #[.int .i64 s.order, .int .i64 s.first, .int .i64 s.regions, .slice A s.want.length c, .bool s.waits, .int .i64 s.state, .int .i64 s.asked, .slice A' L.length c', .slice A2 s.pending.length c2, .bool s.cancelled] 27)).heap.size = w.heap.size + 1 := World.size_alloc _ _
  go_enter Try.func45, Try.ntmps45
  go_wp2
  generalize hW0 : w.alloc (.cells #[.int .i64 s.order, .int .i64 s.first, .int .i64 s.regions, .slice A s.want.length c, .bool s.waits, .int .i64 s.state, .int .i64 s.asked, .slice A' L.length c', .slice A2 s.pending.length c2, .bool s.cancelled] 27) = W0 at *
  clear hW0
  go_loopw [3, 4] (fun v i wr => ∃ k : Nat, k ≤ L.length ∧ i = .int .i64 k ∧ wr.ownsRow (w.heap.size + 1) 3 1 v (holdersTo L k).length (ints (holdersTo L k)) ∧ Below (w.heap.size + 1) W0 wr) (fun _ i _ => L.length - (intOf i).toNat)
  case atStart => exact ⟨0, by omega, rfl, World.ownsRow_nil _ _ _ _, Below.refl _ _⟩
  case round =>
    obtain ⟨k, hk, rfl, hv, hb⟩ := hrel
    have hsz := hb.size
    have k7 : wr.cell? ⟨w.heap.size, 7, none⟩ = some (.slice A' L.length c') := (hOP.below hb (Nat.lt_succ_self _)).cell rfl
    have hlow := fun g e => hv.lt g e
    have hlen := holdersTo_len L k
    by_cases hlt : k < L.length
    · have hd : decide ((k : Int) < L.length) = true := by simp; omega
      obtain ⟨b, o, x, rfl, _, hbB, hck, hx⟩ := ((hg0.out.below hB).below (hb.mono (Nat.le_succ _))).cellAt hlt
      have HS := Lib.hid (holdersTo_succ L k)
      generalize L.getD k [] = y at hx HS
      generalize holdersTo L k = hs at hv HS hlen
      obtain ⟨A1, c1, rfl, -⟩ := hx.form
      by_cases hy : 0 < y.length
      · have dy : decide ((y.length : Int) > 0) = true := decide_eq_true (by omega)
        have hal := (Below.refl wr.heap.size wr).alloc (Nat.le_refl _) (.cells #[.int .i64 (k : Int)] 3)
        have hva := row_later hv hal
        have hob := Ob.new wr 3 #[.int .i64 (k : Int)]
        have hba := hb.trans (hal.mono (by omega))
        have HS : holdersTo L (k + 1) = hs ++ [(k : Int)] := by rw [HS.out, if_pos hy]
        have HS := Lib.hid HS
        go_wp2_with (at_builtin; go_must (refine wpList_append_own _ rfl (.tmp 19) (.tmp 21) 25 rfl (w.heap.size + 1) 3 i0 _ 1 8 Try.underlying25 hi0 hz0 hz1 hz2 rfl (by omega) _ hs.length _ rfl hva ⟨wr.heap.size, 0, none⟩ 1 1 [.int .i64 (k : Int)] rfl rfl (fun j u hu => by rw [add_mid, Nat.zero_add]; exact hob.cell (by simpa using hu)) (by simp [Value.oneCell']) (by unfold maxLen; omega) (by omega) (by have := hba.size; omega) ?_; intro v1 w1 hv1 hg1 hat1))
        exact ⟨⟨k + 1, by omega, by go_num, by rw [HS.out, ints_append, List.length_append]; exact hv1, hba.grown hg1 (by have := hba.size; omega) (fun g e => (hlow g e).1)⟩, by simp [intOf]; omega⟩
      · have dy : decide ((y.length : Int) > 0) = false := decide_eq_false (by omega)
        have HS : holdersTo L (k + 1) = hs := by rw [HS.out, if_neg hy, List.append_nil]
        have HS := Lib.hid HS
        go_wp2
        go_roundw
        case rel => exact ⟨k + 1, by omega, by go_num, by rw [HS.out]; exact hv, hb⟩
        case measure => simp [intOf]; omega
    · obtain rfl : k = L.length := by omega
      go_wp2
      go_ret
      exact ⟨⟨_, rfl, ownsRow_wide hv (Nat.le_succ _)⟩, hB.trans (hb.mono (Nat.le_succ _))⟩
end Sa
end Go.Proofs.Ythfpfomifebpbaa

namespace Go.Proofs.Ythfpfomifebpbaa
open Go.RowKit Go.Maps
namespace Sa
open It

def refHead (s : Saga) : Bool :=
  decide (1 ≤ s.order) && decide (s.order ≤ 1099511627776) && decide (1 ≤ s.regions) && decide (s.regions ≤ 8) && decide (0 ≤ s.first) && decide (s.first < s.regions) && decide (0 < s.want.length) && decide ((s.got.length : Int) = s.regions) && decide (1 ≤ s.asked) && decide (s.asked ≤ s.regions) && mayAll s.want s.got
structure RHead (s : Saga) : Prop where
  o1 : 1 ≤ s.order
  o2 : s.order ≤ 1099511627776
  r1 : 1 ≤ s.regions
  r2 : s.regions ≤ 8
  f1 : 0 ≤ s.first
  f2 : s.first < s.regions
  want : 0 < s.want.length
  got : (s.got.length : Int) = s.regions
  a1 : 1 ≤ s.asked
  a2 : s.asked ≤ s.regions
  all : mayAll s.want s.got = true
theorem rhead_of {s : Saga} (h : refHead s = true) : RHead s := by
  unfold refHead at h
  simp only [Bool.and_eq_true, decide_eq_true_eq] at h
  obtain ⟨⟨⟨⟨⟨⟨⟨⟨⟨⟨h1, h2⟩, h3⟩, h4⟩, h5⟩, h6⟩, h7⟩, h8⟩, h9⟩, h10⟩, h11⟩ := h
  exact ⟨h1, h2, h3, h4, h5, h6, h7, h8, h9, h10, h11⟩
theorem mayAll_of {want : List It.Item} {L : List (List It.Item)} (hw : may want = true) (hL : ∀ l ∈ L, may l = true) (h8 : L.length ≤ 8) : mayAll want L = true := by
  unfold mayAll
  simp only [Bool.and_eq_true, decide_eq_true_eq]
  exact ⟨⟨hw, h8⟩, List.all_eq_true.2 hL⟩
theorem refHead_no {s : Saga} (h : refHead s = false) : mayS s = false := by
  rw [Bool.eq_false_iff] at h ⊢
  intro hm
  obtain ⟨hh, -⟩ := mayS_split hm
  apply h
  unfold refHead
  simp only [Bool.and_eq_true, decide_eq_true_eq]
  exact ⟨⟨⟨⟨⟨⟨⟨⟨⟨⟨hh.o1, hh.o2⟩, hh.r1⟩, hh.r2⟩, hh.f1⟩, hh.f2⟩, hh.want⟩, hh.got⟩, hh.a1⟩, hh.a2⟩, mayAll_of hh.may (fun l hl => mayGot_all hh.kept l hl) (by have := hh.got; have := hh.r2; omega)⟩
theorem RHead.M {s : Saga} (h : RHead s) : M s.want ∧ (∀ l ∈ s.got, M l) ∧ s.got.length ≤ 8 := by
  have := h.all
  unfold mayAll at this
  simp only [Bool.and_eq_true, decide_eq_true_eq] at this
  exact ⟨M_of this.1.1, fun l hl => M_of (List.all_eq_true.1 this.2 l hl), this.1.2⟩
/-- the numbers of all lists together -/
def sumG (L : List (List It.Item)) : Int := L.foldr (fun l n => sumN l + n) 0
theorem sumG_snoc (L : List (List It.Item)) (l : List It.Item) : sumG (L ++ [l]) = sumG L + sumN l := by
  induction L with
  | nil => simp [sumG]
  | cons x L ih =>
    show sumN x + sumG (L ++ [l]) = sumN x + sumG L + sumN l
    rw [ih]
    omega
theorem sumG_bounds : ∀ {L : List (List It.Item)}, (∀ l ∈ L, M l) → 0 ≤ sumG L ∧ sumG L ≤ L.length * 17592186044416
  | [], _ => ⟨Int.le_refl _, by simp [sumG]⟩
  | l :: L, h => by
    have h1 := (h l (by simp)).bounds
    have h2 := sumG_bounds (L := L) fun x hx => h x (List.mem_cons_of_mem _ hx)
    show 0 ≤ sumN l + sumG L ∧ sumN l + sumG L ≤ ((L.length + 1 : Nat) : Int) * 17592186044416
    omega
theorem sumG_take {L : List (List It.Item)} {k : Nat} (hk : k < L.length) : sumG (L.take (k + 1)) = sumG (L.take k) + sumN (L.getD k []) := by
  rw [List.take_succ_eq_append_getElem hk, sumG_snoc, getD_get hk]
theorem heldTo_sum {L : List (List It.Item)} (hL : ∀ l ∈ L, M l) (h8 : L.length ≤ 8) : ∀ k, k ≤ L.length → heldTo L k = sumG (L.take k)
  | 0, _ => rfl
  | k + 1, hk => by
    have ih := heldTo_sum hL h8 k (by omega)
    have hkl : k < L.length := by omega
    have hM := hL _ (List.getElem_mem hkl)
    rw [heldTo_succ L hkl, ih, sumG_take hkl, getD_get hkl, hM.sum]
    have h1 := hM.bounds
    have h2 := sumG_bounds (L := L.take k) fun x hx => hL x (List.mem_of_mem_take hx)
    have h3 : (L.take k).length ≤ 8 := by rw [List.length_take]; omega
    have h4 : (0 : Int) ≤ sumG (L.take k) + sumN L[k] ∧ sumG (L.take k) + sumN L[k] ≤ 200000000000000 := by omega
    exact It.wrap_small (by omega) (by omega)
theorem mayGot_sum {s : Saga} (h : RHead s) : mayGot s = decide (sumG s.got = sumN s.want - sumN (leftR s.want s.got)) := by
  obtain ⟨hw, hL, h8⟩ := h.M
  have hleft := (leftR_M hw hL).1
  unfold mayGot
  rw [List.all_eq_true.2 fun l hl => (may_iff l).2 (hL l hl), Bool.true_and, heldTo_sum hL h8 _ (Nat.le_refl _), List.take_length, missing_R hw hL h8, hleft.sum, hw.sum]
  have h1 := hleft.bounds
  have h2 := sumG_bounds hL
  have h3 := hw.bounds
  have hw64 : wrap64 (sumG s.got + sumN (leftR s.want s.got)) = sumG s.got + sumN (leftR s.want s.got) := It.wrap_small (by omega) (by omega)
  rw [hw64, Bool.eq_iff_iff, decide_eq_true_eq, decide_eq_true_eq]
  omega
theorem okHead_sum {s : Saga} (h : RHead s) : okHead s = decide (sumG s.got = sumN s.want - sumN (leftR s.want s.got)) := by
  obtain ⟨hw, hL, h8⟩ := h.M
  have hv : 0 < (visit s.first s.regions).length := by
    have := h.r1
    have := h.r2
    have := h.f1
    have := h.f2
    rw [visit_some (by omega)]
    simp
    omega
  unfold okHead
  rw [mayGot_sum h, decide_eq_true h.o1, decide_eq_true h.o2, decide_eq_true hv, decide_eq_true h.want, (may_iff s.want).2 hw, decide_eq_true h.got, decide_eq_true h.a1, decide_eq_true h.a2]
  simp
theorem sumN_pos {l : List It.Item} (h : M l) : 0 < sumN l ↔ l ≠ [] := by
  constructor
  · rintro h1 rfl
    exact absurd h1 (by decide)
  · intro h1
    match l, h, h1 with
    | x :: r, h, _ =>
      have h2 := (sumN_bounds r fun y hy => by
        have := h.ok y (List.mem_cons_of_mem _ hy)
        omega).1
      have h3 := h.ok x (by simp)
      show 0 < x.2 + sumN r
      omega
theorem none_left {s : Saga} (h : RHead s) : decide ((missing s.want s.got).length = 0) = decide (sumN (leftR s.want s.got) = 0) := by
  obtain ⟨hw, hL, h8⟩ := h.M
  have hM := (leftR_M hw hL).1
  rw [missing_R hw hL h8, Bool.eq_iff_iff, decide_eq_true_eq, decide_eq_true_eq]
  have h1 := sumN_pos hM
  have h2 := hM.bounds
  constructor
  · intro e
    rw [List.eq_nil_of_length_eq_zero e]
    rfl
  · intro e
    apply Decidable.byContradiction
    intro hn
    have := h1.2 fun e2 => hn (by rw [e2]; rfl)
    omega
end Sa
end Go.Proofs.Ythfpfomifebpbaa

namespace Go.Proofs.Ythfpfomifebpbaa
open Go.RowKit Go.Maps
namespace Sa
open It

theorem mod2 {x r : Int} (h0 : 0 ≤ x) (h1 : x < 2 * r) : x % r = if x < r then x else x - r := by
  split
  · exact Int.emod_eq_of_lt h0 (by omega)
  · rw [show x = (x - r) + r by omega, Int.add_emod_right]
    rw [show (x - r) + r - r = x - r by omega]
    exact Int.emod_eq_of_lt (by omega) (by omega)
theorem holders_up (L : List (List It.Item)) : (holders L).Pairwise (· < ·) := by
  unfold holders holdersTo
  rw [List.pairwise_map]
  refine List.Pairwise.imp ?_ ((List.pairwise_lt_range).filter _)
  intro a b h
  omega
theorem rises_of {l all : List Int} (h : l.Pairwise (· < ·)) : rises l all = decide (∀ x ∈ l, x ∈ all) := by
  unfold rises
  rw [Bool.eq_iff_iff, decide_eq_true_eq, decide_eq_true_eq]
  constructor
  · intro hr x hx
    obtain ⟨i, hi, rfl⟩ := List.getElem_of_mem hx
    have := (hr i hi).2
    rw [getD_get hi] at this
    exact inL_mem this
  · intro hm j hj
    refine ⟨fun hc => ?_, ?_⟩
    · have := (List.pairwise_iff_getElem.1 h) (j - 1) j (by omega) hj (by omega)
      rw [getD_get hj, getD_get (show j - 1 < l.length by omega)] at hc
      omega
    · rw [Life.inL_iff, decide_eq_true_eq, getD_get hj]
      exact hm _ (List.getElem_mem hj)
theorem ahead_iff {f r a x : Int} (hf : 0 ≤ f) (hfr : f < r) (hr8 : r ≤ 8) (ha : 0 ≤ a) (har : a ≤ r) (hx : 0 ≤ x) (hxr : x < r) : x ∈ (visit f r).take a.toNat ↔ (x - f + r) % r < a := by
  have hl : (visit f r).length = r.toNat := by rw [visit_some (by omega)]; simp
  constructor
  · intro h
    obtain ⟨i, hi, e⟩ := List.getElem_of_mem h
    rw [List.length_take] at hi
    rw [List.getElem_take] at e
    obtain ⟨e1, h1, -, -⟩ := visit_at (f := f) (r := r) (i := i) (by omega)
    rw [e1, mod2 (by omega) (by omega)] at e
    rw [mod2 (by omega) (by omega)]
    split at e <;> split <;> omega
  · intro h
    rw [mod2 (by omega) (by omega)] at h
    obtain ⟨d, hd⟩ : ∃ d : Nat, (d : Int) = (if x - f + r < r then x - f + r else x - f + r - r) := ⟨(if x - f + r < r then x - f + r else x - f + r - r).toNat, by split <;> omega⟩
    rw [← hd] at h
    have hdl : d < ((visit f r).take a.toNat).length := by rw [List.length_take]; omega
    have e2 : ((visit f r).take a.toNat)[d] = x := by
      rw [List.getElem_take]
      obtain ⟨e1, -, -, -⟩ := visit_at (f := f) (r := r) (i := d) (by omega)
      rw [e1, mod2 (by omega) (by omega)]
      split at hd <;> split <;> omega
    rw [← e2]
    exact List.getElem_mem hdl
def aheadS (s : Saga) : Prop := ∀ x ∈ holders s.got, (x - s.first + s.regions) % s.regions < s.asked - 1
theorem ahead_eq {s : Saga} (h : RHead s) : rises (holders s.got) (sorted ((visit s.first s.regions).take (s.asked - 1).toNat)) = true ↔ aheadS s := by
  rw [rises_of (holders_up s.got), decide_eq_true_eq]
  unfold aheadS
  have key : ∀ x ∈ holders s.got, (x ∈ sorted ((visit s.first s.regions).take (s.asked - 1).toNat) ↔ (x - s.first + s.regions) % s.regions < s.asked - 1) := fun x hx => by
    obtain ⟨i, rfl, hi, -⟩ := holders_mem hx
    have hg := h.got
    rw [sorted_mem]
    exact ahead_iff h.f1 h.f2 h.r2 (by have := h.a1; omega) (by have := h.a2; omega) (by omega) (by omega)
  exact ⟨fun h x hx => (key x hx).1 (h x hx), fun h x hx => (key x hx).2 (h x hx)⟩
theorem next_eq {s : Saga} (h : RHead s) : ((visit s.first s.regions).drop (s.asked - 1).toNat).take 1 = [(s.first + s.asked - 1) % s.regions] := by
  have hf := h.f1
  have hfr := h.f2
  have hr8 := h.r2
  have ha := h.a1
  have har := h.a2
  have hl : (visit s.first s.regions).length = s.regions.toNat := by rw [visit_some (by omega)]; simp
  have hva : (s.asked - 1).toNat < (visit s.first s.regions).length := by omega
  rw [List.drop_eq_getElem_cons hva, List.take_succ_cons, List.take_zero, (visit_at hva).1]
  congr 2
  omega
/-- the sum that is left, as the document reckons it -/
def leftN (s : Saga) : Int := sumN (leftR s.want s.got)
theorem body1 {s : Saga} (h : RHead s) : bodyAt s 1 = true ↔ aheadS s ∧ 0 < leftN s ∧ s.pending = [(s.first + s.asked - 1) % s.regions] := by
  unfold bodyAt
  rw [if_pos rfl, none_left h, next_eq h]
  simp only [Bool.and_eq_true, Bool.not_eq_true', decide_eq_false_iff_not, decide_eq_true_eq]
  rw [ahead_eq h]
  have := (leftR_M h.M.1 h.M.2.1).1.bounds
  unfold leftN
  constructor
  · rintro ⟨⟨h1, h2⟩, h3⟩
    exact ⟨h3, by omega, h2⟩
  · rintro ⟨h1, h2, h3⟩
    exact ⟨⟨by omega, h3⟩, h1⟩
theorem bodyH {s : Saga} (h : RHead s) {st : Int} (hs : st = 2 ∨ st = 8 ∨ st = 10) : bodyAt s st = (decide (leftN s = 0) && decide (s.pending.length = 0) && !s.cancelled) := by
  unfold bodyAt
  rw [if_neg (by omega), if_pos hs, none_left h]
  rfl
theorem bodyP {s : Saga} (h : RHead s) {st : Int} (hs : st = 7 ∨ st = 9) : bodyAt s st = (decide (leftN s = 0) && !decide (s.pending.length = 0) && !s.cancelled && rises s.pending (holders s.got)) := by
  unfold bodyAt
  rw [if_neg (by omega), if_neg (by omega), if_pos hs, none_left h]
  rfl
theorem bodyU {s : Saga} : bodyAt s 4 = (!decide ((holders s.got).length = 0) && decide (s.pending = holders s.got)) := by
  unfold bodyAt
  rw [if_neg (by omega), if_neg (by omega), if_neg (by omega), if_pos rfl]
  by_cases h : s.pending = holders s.got
  · rw [← h]
  · rw [decide_eq_false h]
    simp
theorem bodyW {s : Saga} {st : Int} (hs : st = 3 ∨ st = 5) : bodyAt s st = (decide ((holders s.got).length = 0) && decide (s.pending.length = 0) && !s.cancelled && (s.waits == decide (st = 3))) := by
  unfold bodyAt
  rw [if_neg (by omega), if_neg (by omega), if_neg (by omega), if_neg (by omega), if_pos hs]
theorem bodyG {s : Saga} : bodyAt s 6 = (decide ((holders s.got).length = 0) && decide (s.pending.length = 0) && s.cancelled) := by
  unfold bodyAt
  rw [if_neg (by omega), if_neg (by omega), if_neg (by omega), if_neg (by omega), if_neg (by omega), if_pos rfl]
theorem bodyN {s : Saga} {st : Int} (h : ¬ (st = 1 ∨ st = 2 ∨ st = 3 ∨ st = 4 ∨ st = 5 ∨ st = 6 ∨ st = 7 ∨ st = 8 ∨ st = 9 ∨ st = 10)) : bodyAt s st = false := by
  unfold bodyAt
  rw [if_neg (by omega), if_neg (by omega), if_neg (by omega), if_neg (by omega), if_neg (by omega), if_neg (by omega)]
end Sa
end Go.Proofs.Ythfpfomifebpbaa

namespace Go.Proofs.Ythfpfomifebpbaa
open Go.RowKit Go.Maps
namespace Sa
open It

-- numbers of all goods
theorem tot_flat (k : Bs) : ∀ L : List (List It.Item), tot k L.flatten = sumT k L
  | [] => rfl
  | l :: L => by rw [List.flatten_cons, tot_append, tot_flat k L]; rfl
theorem sumN_append (a b : List It.Item) : sumN (a ++ b) = sumN a + sumN b := by
  induction a with
  | nil => simp [sumN]
  | cons x a ih => show x.2 + sumN (a ++ b) = x.2 + sumN a + sumN b; rw [ih]; omega
theorem sumN_flat : ∀ L : List (List It.Item), sumN L.flatten = sumG L
  | [] => rfl
  | l :: L => by rw [List.flatten_cons, sumN_append, sumN_flat L]; rfl
theorem sumK_le {a b c : List It.Item} (h : ∀ k, tot k c ≤ tot k a + tot k b) : ∀ ks : List Bs, sumK c ks ≤ sumK a ks + sumK b ks
  | [] => Int.le_refl _
  | k :: r => by
    have h1 := h k
    have h2 := sumK_le h r
    simp only [sumK]
    omega
theorem sumK_lt {a b c : List It.Item} (h : ∀ k, tot k c ≤ tot k a + tot k b) {k0 : Bs} (h0 : tot k0 c < tot k0 a + tot k0 b) : ∀ ks : List Bs, k0 ∈ ks → sumK c ks < sumK a ks + sumK b ks
  | [], hk => by simp at hk
  | k :: r, hk => by
    have h1 := h k
    simp only [sumK]
    rcases List.mem_cons.1 hk with rfl | hk
    · have h2 := sumK_le h r
      omega
    · have h2 := sumK_lt h h0 r hk
      omega
theorem sumN_lt {a b c : List It.Item} (h : ∀ k, tot k c ≤ tot k a + tot k b) {k0 : Bs} (h0 : tot k0 c < tot k0 a + tot k0 b) : sumN c < sumN a + sumN b := by
  have hn : (ksOf ((a ++ b ++ c).map key)).Nodup := by
    rw [List.nodup_iff_pairwise_ne]
    refine (ksOf_sorted _).imp fun {x y} h e => ?_
    rw [e] at h
    exact bs_irr _ h
  have hmem : ∀ x, x ∈ a ++ b ++ c → key x ∈ ksOf ((a ++ b ++ c).map key) := fun x hx => (ksOf_mem _ _).2 (List.mem_map_of_mem hx)
  have ha := sumK_eq hn a fun x hx => hmem x (by simp [hx])
  have hb := sumK_eq hn b fun x hx => hmem x (by simp [hx])
  have hc := sumK_eq hn c fun x hx => hmem x (by simp [hx])
  have hk : k0 ∈ ksOf ((a ++ b ++ c).map key) := by
    rw [ksOf_mem]
    apply Decidable.byContradiction
    intro hno
    rw [List.map_append, List.map_append, List.mem_append, List.mem_append] at hno
    have e1 := tot_out (k := k0) (l := a) fun h => hno (.inl (.inl h))
    have e2 := tot_out (k := k0) (l := b) fun h => hno (.inl (.inr h))
    have e3 := tot_out (k := k0) (l := c) fun h => hno (.inr h)
    omega
  have := sumK_lt h h0 _ hk
  omega
/-- what regions hold is wanted, of each good -/
def Wanted (want : List It.Item) (L : List (List It.Item)) : Prop := ∀ k, sumT k L ≤ tot k want
theorem wanted_iff {want : List It.Item} {L : List (List It.Item)} (hw : M want) (hL : ∀ l ∈ L, M l) : sumG L = sumN want - sumN (leftR want L) ↔ Wanted want L := by
  obtain ⟨h1, h2⟩ := leftR_M hw hL
  constructor
  · intro hs k
    apply Decidable.byContradiction
    intro hk
    have := sumN_lt (a := leftR want L) (b := L.flatten) (c := want) (fun k => by rw [tot_flat, h2]; omega) (k0 := k) (by rw [tot_flat, h2]; have := hw.nonneg k; omega)
    rw [sumN_flat] at this
    omega
  · intro hk
    have := sumN_add (a := leftR want L) (b := L.flatten) (c := want) (fun k => by rw [tot_flat, h2]; have := hk k; omega)
    rw [sumN_flat] at this
    omega
theorem mayS_iff {s : Saga} : mayS s = true ↔ RHead s ∧ Wanted s.want s.got ∧ bodyAt s s.state = true := by
  constructor
  · intro h
    have hr : RHead s := by
      cases hh : refHead s with
      | true => exact rhead_of hh
      | false => rw [refHead_no hh] at h; cases h
    obtain ⟨-, hb⟩ := mayS_split h
    refine ⟨hr, ?_, hb⟩
    unfold mayS at h
    rw [Bool.and_eq_true, okHead_sum hr, decide_eq_true_eq] at h
    exact (wanted_iff hr.M.1 hr.M.2.1).1 h.1
  · rintro ⟨hr, hw, hb⟩
    unfold mayS
    rw [Bool.and_eq_true, okHead_sum hr, decide_eq_true_eq]
    exact ⟨(wanted_iff hr.M.1 hr.M.2.1).2 hw, hb⟩
/-- a head does not hang on the state, and who is pending -/
theorem RHead.of {s t : Saga} (h : RHead s) (h1 : t.order = s.order) (h2 : t.first = s.first) (h3 : t.regions = s.regions) (h4 : t.want = s.want) (h5 : (t.got.length : Int) = s.regions) (h6 : ∀ l ∈ t.got, may l = true) (h7 : 1 ≤ t.asked ∧ t.asked ≤ s.regions) : RHead t := by
  have hm := h.all
  unfold mayAll at hm
  simp only [Bool.and_eq_true, decide_eq_true_eq] at hm
  have := h.r2
  exact ⟨h1 ▸ h.o1, h1 ▸ h.o2, h3 ▸ h.r1, h3 ▸ h.r2, h2 ▸ h.f1, by rw [h2, h3]; exact h.f2, h4 ▸ h.want, by rw [h3]; exact h5, h7.1, by rw [h3]; exact h7.2, mayAll_of (h4 ▸ hm.1.1) h6 (by omega)⟩
theorem RHead.may {s : Saga} (h : RHead s) : ∀ l ∈ s.got, may l = true := fun l hl => (may_iff l).2 (h.M.2.1 l hl)

-- who is pending
theorem idx_none {r : Int} {l : List Int} : Life.idxOf r l ≠ -1 ↔ r ∈ l := by
  have h := Life.inL_iff r l
  unfold Life.inL at h
  rcases idx_cases r l with e | ⟨i, hi, e, hg⟩
  · rw [e] at h ⊢
    have : ¬ r ∈ l := fun hm => by rw [decide_eq_true hm] at h; cases h
    simp [this]
  · rw [e] at h ⊢
    have : r ∈ l := by rw [← hg, getD_get hi]; exact List.getElem_mem hi
    simp [this]
    try omega
theorem take_off {r : Int} {l : List Int} (hl : l.Pairwise (· < ·)) (hr : r ∈ l) : takeOff r l = l.filter fun x => decide (x ≠ r) := by
  rcases idx_cases r l with e | ⟨i, hi, e, hg⟩
  · exact absurd e (idx_none.2 hr)
  unfold takeOff delAt
  rw [e, Int.toNat_natCast]
  rw [getD_get hi] at hg
  have hp := List.pairwise_iff_getElem.1 hl
  conv => rhs; rw [← List.take_append_drop i l, List.drop_eq_getElem_cons hi, List.filter_append, List.filter_cons]
  have e1 : (l.take i).filter (fun x => decide (x ≠ r)) = l.take i := by
    rw [List.filter_eq_self]
    intro x hx
    obtain ⟨j, hj, rfl⟩ := List.getElem_of_mem hx
    rw [List.length_take] at hj
    rw [List.getElem_take]
    have := hp j i (by omega) hi (by omega)
    simp only [ne_eq, decide_not, Bool.not_eq_true', decide_eq_false_iff_not]
    omega
  have e2 : (l.drop (i + 1)).filter (fun x => decide (x ≠ r)) = l.drop (i + 1) := by
    rw [List.filter_eq_self]
    intro x hx
    obtain ⟨j, hj, rfl⟩ := List.getElem_of_mem hx
    rw [List.length_drop] at hj
    rw [List.getElem_drop]
    have := hp i (i + 1 + j) hi (by omega) (by omega)
    simp only [ne_eq, decide_not, Bool.not_eq_true', decide_eq_false_iff_not]
    omega
  rw [e1, e2, if_neg (by simp [hg])]
theorem holders_iff {L : List (List It.Item)} {x : Int} : x ∈ holders L ↔ 0 ≤ x ∧ x < L.length ∧ L.getD x.toNat [] ≠ [] := by
  constructor
  · intro h
    obtain ⟨i, rfl, hi, hl⟩ := holders_mem h
    refine ⟨by omega, by omega, ?_⟩
    rw [Int.toNat_natCast]
    exact List.ne_nil_of_length_pos hl
  · rintro ⟨h0, h1, h2⟩
    unfold holders holdersTo
    refine List.mem_map.2 ⟨x.toNat, List.mem_filter.2 ⟨List.mem_range.2 (by omega), ?_⟩, by omega⟩
    rw [decide_eq_true_eq]
    exact List.length_pos_iff.2 h2
theorem getD_set {L : List (List It.Item)} {r i : Nat} {l : List It.Item} (hr : r < L.length) : (L.set r l).getD i [] = if i = r then l else L.getD i [] := by
  unfold List.getD
  rw [List.getElem?_set]
  by_cases h : r = i
  · subst h
    rw [if_pos rfl, if_pos rfl, if_pos hr]
    rfl
  · rw [if_neg h, if_neg fun e => h e.symm]
theorem holders_set {L : List (List It.Item)} {r : Int} {l : List It.Item} (hr : 0 ≤ r ∧ r < L.length) {x : Int} : x ∈ holders (L.set r.toNat l) ↔ (x = r ∧ l ≠ []) ∨ (x ≠ r ∧ x ∈ holders L) := by
  rw [holders_iff, holders_iff, getD_set (by omega), List.length_set]
  by_cases h : x = r
  · subst h
    rw [if_pos rfl]
    simp [hr]
  · by_cases h0 : 0 ≤ x
    · rw [if_neg (by omega)]
      simp [h]
    · simp [h, h0]
theorem up_uniq {a b : List Int} (ha : a.Pairwise (· < ·)) (hb : b.Pairwise (· < ·)) (h : ∀ x, x ∈ a ↔ x ∈ b) : a = b :=
  uniq (r := fun a b : Int => a < b) (fun _ => Int.lt_irrefl _) (fun _ _ => Int.lt_asymm) ha hb h
theorem holders_free {L : List (List It.Item)} {r : Int} (hr : 0 ≤ r ∧ r < L.length) : holders (L.set r.toNat []) = (holders L).filter fun x => decide (x ≠ r) := by
  refine up_uniq (holders_up _) ((holders_up L).filter _) fun x => ?_
  rw [holders_set hr, List.mem_filter]
  simp [and_comm]
theorem sumT_none {k : Bs} {L : List (List It.Item)} (h : holders L = []) : sumT k L = 0 := by
  have hall : ∀ l ∈ L, l = [] := fun l hl => by
    obtain ⟨i, hi, rfl⟩ := List.getElem_of_mem hl
    apply Decidable.byContradiction
    intro hn
    have : ((i : Nat) : Int) ∈ holders L := holders_iff.2 ⟨by omega, by omega, by rw [Int.toNat_natCast, getD_get hi]; exact hn⟩
    rw [h] at this
    simp at this
  clear h
  induction L with
  | nil => rfl
  | cons l L ih =>
    rw [sumT_cons, hall l (by simp), ih fun x hx => hall x (List.mem_cons_of_mem _ hx)]
    rfl
theorem wanted_none {s : Saga} (h : RHead s) (hl : leftN s = 0) : holders s.got ≠ [] := by
  intro e
  obtain ⟨hw, hL, -⟩ := h.M
  obtain ⟨h1, h2⟩ := leftR_M hw hL
  have hwn : s.want ≠ [] := List.ne_nil_of_length_pos h.want
  have h3 := (sumN_pos hw).2 hwn
  have h4 : sumN (leftR s.want s.got) = sumN s.want := by
    rw [M.ext h1 hw fun k => by rw [h2, sumT_none e]; have := hw.nonneg k; omega]
  unfold leftN at hl
  omega
theorem may_of {l : List It.Item} (h : M l) : may l = true := (may_iff l).2 h

-- what ends, and what undoes
theorem may_end {s : Saga} (h : RHead s) (hw : Wanted s.want s.got) (hh : holders s.got = []) : mayS (endS s) = true := by
  rw [mayS_iff]
  refine ⟨h.of rfl rfl rfl rfl h.got h.may ⟨h.a1, h.a2⟩, hw, ?_⟩
  have hl : (holders (endS s).got).length = 0 := by show (holders s.got).length = 0; rw [hh]; rfl
  show bodyAt (endS s) (endSt s) = true
  unfold endSt
  cases hc : s.cancelled with
  | true =>
    rw [if_pos rfl, bodyG]
    simp only [Bool.and_eq_true, decide_eq_true_eq]
    exact ⟨⟨hl, rfl⟩, hc⟩
  | false =>
    rw [if_neg (by simp)]
    have hc' : (endS s).cancelled = false := hc
    cases hq : s.waits with
    | true =>
      have hq' : (endS s).waits = true := hq
      rw [if_pos rfl, bodyW (.inl rfl), hc', hq', decide_eq_true hl]
      rfl
    | false =>
      have hq' : (endS s).waits = false := hq
      rw [if_neg (by simp), bodyW (.inr rfl), hc', hq', decide_eq_true hl]
      rfl
theorem may_undo {s : Saga} (h : RHead s) (hw : Wanted s.want s.got) : mayS (undoS s).1 = true := by
  unfold undoS
  split
  · rename_i e
    exact may_end h hw (List.eq_nil_of_length_eq_zero e)
  · rename_i e
    rw [mayS_iff]
    refine ⟨h.of rfl rfl rfl rfl h.got h.may ⟨h.a1, h.a2⟩, hw, ?_⟩
    show bodyAt (eachS s 4) 4 = true
    rw [bodyU]
    simp only [Bool.and_eq_true, Bool.not_eq_true', decide_eq_false_iff_not, decide_eq_true_eq]
    exact ⟨e, rfl⟩

theorem covers_left {a b : List It.Item} (ha : M a) (h : covers a b = true) : M b ∧ ∀ k, tot k b ≤ tot k a := by
  have h' := h
  unfold covers at h'
  simp only [Bool.and_eq_true] at h'
  have hb := M_of h'.1.2
  exact ⟨hb, (covers_iff ha hb).1 h⟩
/-- what a region's answer makes of what is held -/
theorem took_head {s : Saga} {l : List It.Item} {r : Int} (h : RHead s) (hw : Wanted s.want s.got) (hr : 0 ≤ r ∧ r < s.got.length) (h0 : s.got.getD r.toNat [] = []) (hc : covers (leftR s.want s.got) l = true) (t : Saga) (a : Int)
    (ht : t = { s with got := s.got.set r.toNat l, asked := a, pending := t.pending, state := t.state }) (ha : 1 ≤ a ∧ a ≤ s.regions) : RHead t ∧ Wanted t.want t.got ∧ leftR t.want t.got = It.eachL restF (leftR s.want s.got) l := by
  obtain ⟨hMw, hMg, h8⟩ := h.M
  obtain ⟨h1, h2⟩ := leftR_M hMw hMg
  obtain ⟨hMl, hle⟩ := covers_left h1 hc
  have hg : t.got = s.got.set r.toNat l := by rw [ht]
  have hwt : t.want = s.want := by rw [ht]
  refine ⟨h.of (by rw [ht]) (by rw [ht]) (by rw [ht]) hwt (by rw [hg, List.length_set]; exact h.got) (fun x hx => ?_) (by rw [ht]; exact ha), fun k => ?_, ?_⟩
  · rw [hg] at hx
    rcases List.mem_or_eq_of_mem_set hx with hx | rfl
    · exact h.may x hx
    · exact may_of hMl
  · rw [hg, hwt, sumT_set (by omega), h0]
    have h3 := hle k
    rw [h2] at h3
    have h4 := hw k
    have e : tot k ([] : List It.Item) = 0 := rfl
    omega
  · rw [hg, hwt]
    exact (left_set hMw hMg hMl (by omega) h0).symm
theorem may_held {t : Saga} (h : RHead t) (hw : Wanted t.want t.got) (hs : t.state = 2 ∨ t.state = 8 ∨ t.state = 10) (hl : (leftR t.want t.got).length = 0) (hp : t.pending.length = 0) (hc : t.cancelled = false) : mayS t = true := by
  rw [mayS_iff]
  refine ⟨h, hw, ?_⟩
  rw [bodyH h hs]
  have hl' : leftN t = 0 := by unfold leftN; rw [List.eq_nil_of_length_eq_zero hl]; rfl
  simp only [Bool.and_eq_true, Bool.not_eq_true', decide_eq_true_eq]
  exact ⟨⟨hl', hp⟩, hc⟩
theorem visit_get {f r : Int} {i : Nat} (h : i < (visit f r).length) : (visit f r).getD i 0 = (f + (i : Int)) % r := by
  rw [getD_get h]
  exact (visit_at h).1
theorem took_may {s : Saga} {e : Ev} {r : Saga × List Step} (hm : mayS s = true) (h : tookS s e = .ok r) : mayS r.1 = true := by
  obtain ⟨hh, hw, hb⟩ := mayS_iff.1 hm
  obtain ⟨hMw, hMg, h8⟩ := hh.M
  unfold tookS tookU at h
  split at h
  rotate_left
  · cases h
  rename_i hst
  obtain ⟨h1, hix⟩ := hst
  have hmem := idx_none.1 hix
  rw [missing_R hMw hMg h8] at h
  split at h
  rotate_left
  · cases h
  rename_i hc
  cases h
  have hr := (pend_in hm).1 _ hmem
  have h0 := asked_none hm h1 hmem
  rw [h1] at hb
  obtain ⟨hah, hleft, hp⟩ := (body1 hh).1 hb
  have hone : takeOff e.region s.pending = [] := by
    rw [hp] at hmem ⊢
    have he := List.mem_singleton.1 hmem
    rw [← he]
    unfold takeOff delAt Life.idxOf
    simp
  have hreg : e.region = (s.first + s.asked - 1) % s.regions := by
    rw [hp] at hmem
    exact List.mem_singleton.1 hmem
  rw [hone]
  have hb0 : both restF (leftR s.want s.got) e.items = It.eachL restF (leftR s.want s.got) e.items := both_of (leftR_M hMw hMg).1 (covers_left (leftR_M hMw hMg).1 hc).1
  rw [hb0]
  have a1 := hh.a1
  have a2 := hh.a2
  have ht := took_head hh hw ⟨hr.1, hr.2⟩ h0 hc
  unfold tookT
  split
  · obtain ⟨t1, t2, -⟩ := ht { s with pending := [], got := s.got.set e.region.toNat e.items } s.asked rfl ⟨a1, a2⟩
    exact may_undo t1 t2
  rename_i hcn
  have hcn' : s.cancelled = false := by simpa using hcn
  split
  · rename_i hl
    obtain ⟨t1, t2, t3⟩ := ht { s with pending := [], got := s.got.set e.region.toNat e.items, state := 2 } s.asked rfl ⟨a1, a2⟩
    exact may_held t1 t2 (.inl rfl) (by rw [t3]; exact hl) rfl hcn'
  split
  · rename_i hl hlt
    have hlt' : s.asked < s.regions := hlt
    have hv : ((visit s.first s.regions).length : Int) = s.regions := (mayS_split hm).1.visit
    have hnx : (visit s.first s.regions).getD s.asked.toNat 0 = (s.first + s.asked) % s.regions := by
      rw [visit_get (by omega)]
      congr 1
      omega
    dsimp only
    rw [hnx]
    obtain ⟨t1, t2, t3⟩ := ht { s with pending := [(s.first + s.asked) % s.regions], got := s.got.set e.region.toNat e.items, asked := s.asked + 1 } (s.asked + 1) rfl ⟨by omega, by omega⟩
    rw [mayS_iff]
    refine ⟨t1, t2, (congrArg (bodyAt _) h1).trans ((body1 t1).2 ⟨fun x hx => ?_, ?_, ?_⟩)⟩
    · rcases (holders_set ⟨hr.1, hr.2⟩).1 hx with ⟨rfl, -⟩ | ⟨-, hx⟩
      · show (e.region - s.first + s.regions) % s.regions < s.asked + 1 - 1
        have f1 := hh.f1
        have f2 := hh.f2
        rw [hreg, mod2 (x := s.first + s.asked - 1) (by omega) (by omega)]
        split
        · rw [mod2 (by omega) (by omega)]
          split <;> omega
        · rw [mod2 (by omega) (by omega)]
          split <;> omega
      · have := hah x hx
        show (x - s.first + s.regions) % s.regions < s.asked + 1 - 1
        omega
    · unfold leftN
      rw [t3]
      refine (sumN_pos (rest_M (leftR_M hMw hMg).1 (covers_left (leftR_M hMw hMg).1 hc).1)).2 ?_
      exact List.ne_nil_of_length_pos (by omega)
    · show [(s.first + s.asked) % s.regions] = [(s.first + (s.asked + 1) - 1) % s.regions]
      congr 2
      omega
  · obtain ⟨t1, t2, -⟩ := ht { s with pending := [], got := s.got.set e.region.toNat e.items } s.asked rfl ⟨a1, a2⟩
    exact may_undo t1 t2
theorem freed_may {s : Saga} {e : Ev} {r : Saga × List Step} (hm : mayS s = true) (h : freedS s e = .ok r) : mayS r.1 = true := by
  obtain ⟨hh, hw, hb⟩ := mayS_iff.1 hm
  obtain ⟨hMw, hMg, h8⟩ := hh.M
  unfold freedS at h
  split at h
  rotate_left
  · cases h
  rename_i hst
  obtain ⟨h1, hix⟩ := hst
  have hmem := idx_none.1 hix
  cases h
  have hr := (pend_in hm).1 _ hmem
  rw [h1, bodyU] at hb
  simp only [Bool.and_eq_true, Bool.not_eq_true', decide_eq_false_iff_not, decide_eq_true_eq] at hb
  have hp := hb.2
  rw [hp] at hmem
  have hoff : takeOff e.region s.pending = holders (s.got.set e.region.toNat []) := by
    rw [hp, take_off (holders_up _) hmem, holders_free ⟨hr.1, hr.2⟩]
  rw [hoff]
  obtain ⟨t, ht⟩ : ∃ t : Saga, t = { s with pending := holders (s.got.set e.region.toNat []), got := s.got.set e.region.toNat [] } := ⟨_, rfl⟩
  rw [← ht]
  have hg : t.got = s.got.set e.region.toNat [] := by rw [ht]
  have hwt : t.want = s.want := by rw [ht]
  have t1 : RHead t := hh.of (by rw [ht]) (by rw [ht]) (by rw [ht]) hwt (by rw [hg, List.length_set]; exact hh.got) (fun x hx => by
    rw [hg] at hx
    rcases List.mem_or_eq_of_mem_set hx with hx | rfl
    · exact hh.may x hx
    · exact may_of M_nil) ⟨by rw [ht]; exact hh.a1, by rw [ht]; exact hh.a2⟩
  have t2 : Wanted t.want t.got := fun k => by
    rw [hg, hwt, sumT_set (by omega)]
    have h4 := hw k
    have e0 : tot k ([] : List It.Item) = 0 := rfl
    have e1 : 0 ≤ tot k (s.got.getD e.region.toNat []) := by
      rw [getD_get (by omega)]
      exact (hMg _ (List.getElem_mem (by omega))).nonneg k
    omega
  have hpt : t.pending = holders t.got := by rw [ht]
  unfold freedT
  split
  · rename_i hl
    rw [hpt] at hl
    exact may_end t1 t2 (List.eq_nil_of_length_eq_zero hl)
  · rename_i hl
    rw [mayS_iff]
    refine ⟨t1, t2, ?_⟩
    have h4 : t.state = 4 := by rw [ht]; exact h1
    show bodyAt t t.state = true
    rw [h4, bodyU]
    simp only [Bool.and_eq_true, Bool.not_eq_true', decide_eq_false_iff_not, decide_eq_true_eq]
    exact ⟨by rw [← hpt]; exact hl, hpt⟩
theorem rises_up' {l all : List Int} (h : rises l all = true) : l.Pairwise (· < ·) ∧ ∀ x ∈ l, x ∈ all := by
  refine ⟨?_, fun x hx => rises_mem h hx⟩
  have h' := of_decide_eq_true h
  have step : ∀ i j, i < j → j < l.length → l.getD i 0 < l.getD j 0 := fun i j hij => by
    induction j with
    | zero => omega
    | succ j ih =>
      intro hj
      have h1 := (h' (j + 1) hj).1
      have h2 : l.getD j 0 < l.getD (j + 1) 0 := by
        rw [Nat.add_sub_cancel] at h1
        omega
      rcases Nat.lt_or_ge i j with h3 | h3
      · have := ih h3 (by omega)
        omega
      · obtain rfl : i = j := by omega
        exact h2
  rw [List.pairwise_iff_getElem]
  intro i j hi hj hij
  have := step i j hij hj
  rwa [getD_get hi, getD_get hj] at this
theorem did_may {s : Saga} {e : Ev} {r : Saga × List Step} {a b : Int} (hab : (a = 7 ∧ b = 8) ∨ (a = 9 ∧ b = 10)) (hm : mayS s = true) (h : didS s e a b = .ok r) : mayS r.1 = true := by
  obtain ⟨hh, hw, hb⟩ := mayS_iff.1 hm
  unfold didS didU at h
  split at h
  rotate_left
  · cases h
  rename_i hst
  obtain ⟨h1, hix⟩ := hst
  have hmem := idx_none.1 hix
  split at h
  rotate_left
  · cases h
  cases h
  have ha : a = 7 ∨ a = 9 := by omega
  rw [h1, bodyP hh ha] at hb
  simp only [Bool.and_eq_true, Bool.not_eq_true', decide_eq_false_iff_not, decide_eq_true_eq] at hb
  obtain ⟨⟨⟨hl, -⟩, hcn⟩, hris⟩ := hb
  obtain ⟨hup, hin⟩ := rises_up' hris
  have hoff := take_off hup hmem
  rw [hoff]
  have hleft : (leftR s.want s.got).length = 0 := by
    have hM := (leftR_M hh.M.1 hh.M.2.1).1
    apply Decidable.byContradiction
    intro hn
    have := (sumN_pos hM).2 fun e => hn (by rw [e]; rfl)
    unfold leftN at hl
    omega
  unfold didT
  split
  · rename_i hp
    exact may_held (hh.of rfl rfl rfl rfl hh.got hh.may ⟨hh.a1, hh.a2⟩) hw (by show b = 2 ∨ b = 8 ∨ b = 10; omega) hleft hp hcn
  · rename_i hp
    rw [mayS_iff]
    have t1 : RHead { s with pending := s.pending.filter fun x => decide (x ≠ e.region) } := hh.of rfl rfl rfl rfl hh.got hh.may ⟨hh.a1, hh.a2⟩
    refine ⟨t1, hw, (congrArg (bodyAt _) h1).trans ((bodyP t1 ha).trans ?_)⟩
    simp only [Bool.and_eq_true, Bool.not_eq_true', decide_eq_false_iff_not, decide_eq_true_eq]
    refine ⟨⟨⟨hl, hp⟩, hcn⟩, ?_⟩
    rw [rises_of (hup.filter _), decide_eq_true_eq]
    exact fun x hx => hin x (List.mem_filter.1 hx).1
theorem all_may {s : Saga} {r : Saga × List Step} {a b k : Int} (hab : (a = 2 ∧ b = 7) ∨ (a = 8 ∧ b = 9)) (hm : mayS s = true) (h : allS s a b k = .ok r) : mayS r.1 = true := by
  obtain ⟨hh, hw, hb⟩ := mayS_iff.1 hm
  unfold allS at h
  split at h
  rotate_left
  · cases h
  rename_i hst
  cases h
  rw [hst, bodyH hh (by omega)] at hb
  simp only [Bool.and_eq_true, Bool.not_eq_true', decide_eq_true_eq] at hb
  obtain ⟨⟨hl, -⟩, hcn⟩ := hb
  have t1 : RHead (eachS s b) := hh.of rfl rfl rfl rfl hh.got hh.may ⟨hh.a1, hh.a2⟩
  rw [mayS_iff]
  refine ⟨t1, hw, ?_⟩
  show bodyAt _ b = true
  rw [bodyP t1 (by omega)]
  simp only [Bool.and_eq_true, Bool.not_eq_true', decide_eq_false_iff_not, decide_eq_true_eq]
  refine ⟨⟨⟨hl, fun e => wanted_none hh hl (List.eq_nil_of_length_eq_zero e)⟩, hcn⟩, ?_⟩
  show rises (holders s.got) (holders s.got) = true
  rw [rises_of (holders_up _), decide_eq_true_eq]
  exact fun x hx => hx
theorem cancel_may {s : Saga} {r : Saga × List Step} (hm : mayS s = true) (h : cancelS s = .ok r) : mayS r.1 = true := by
  obtain ⟨hh, hw, hb⟩ := mayS_iff.1 hm
  have t1 : RHead { s with cancelled := true } := hh.of rfl rfl rfl rfl hh.got hh.may ⟨hh.a1, hh.a2⟩
  unfold cancelS cancelAt at h
  split at h
  · rename_i h14
    split at h
    · cases h
    · cases h
      rw [mayS_iff]
      refine ⟨t1, hw, ?_⟩
      rcases h14 with e | e
      · exact (congrArg (bodyAt _) e).trans ((body1 t1).2 ((body1 hh).1 ((congrArg (bodyAt s) e).symm.trans hb)))
      · exact (congrArg (bodyAt _) e).trans (bodyU.trans (bodyU.symm.trans ((congrArg (bodyAt s) e).symm.trans hb)))
  split at h
  · rename_i e
    cases h
    rw [e, bodyW (.inl rfl)] at hb
    simp only [Bool.and_eq_true, Bool.not_eq_true', decide_eq_true_eq] at hb
    exact may_end t1 hw (List.eq_nil_of_length_eq_zero hb.1.1.1)
  split at h
  · cases h
    exact may_undo t1 hw
  · cases h
theorem begin_may {order first regions : Int} {want : List It.Item} {waits : Bool} {r : Saga × List Step} (h : beginS order first regions want waits = .ok r) : mayS r.1 = true := by
  unfold beginS beginU at h
  split at h
  · cases h
  · split at h
    · rename_i hm
      cases h
      exact hm
    · cases h
theorem next_may {s : Saga} {e : Ev} {r : Saga × List Step} (h : nextS s e = .ok r) : mayS s = true ∧ mayS r.1 = true := by
  unfold nextS nextU at h
  split at h
  rotate_left
  · cases h
  rename_i hm
  refine ⟨hm, ?_⟩
  unfold happenS at h
  split at h
  · exact took_may hm h
  split at h
  · exact freed_may hm h
  split at h
  · exact cancel_may hm h
  split at h
  · unfold retryS at h
    split at h
    · exact begin_may h
    · cases h
  split at h
  · exact all_may (.inl ⟨rfl, rfl⟩) hm h
  split at h
  · exact did_may (.inl ⟨rfl, rfl⟩) hm h
  split at h
  · exact all_may (.inr ⟨rfl, rfl⟩) hm h
  split at h
  · exact did_may (.inr ⟨rfl, rfl⟩) hm h
  · cases h
end Sa
end Go.Proofs.Ythfpfomifebpbaa
