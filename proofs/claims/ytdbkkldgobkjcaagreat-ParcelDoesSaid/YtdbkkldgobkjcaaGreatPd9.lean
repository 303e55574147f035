/-
  the document's answers on items: put.
  the document's answers on items: Norm.
  items: what the law's walk collects.
  items: what the laws Order, Parts and Walks say is true.
  parcels: the document's within.
-/
import Derived.Test.YtdbkkldgobkjcaaGreatPd7
import Derived.Test.YtdbkkldgobkjcaaGreatPd8
import Derived.Laws.OwnMore
import Derived.Deep.AppendLies

set_option linter.unusedVariables false
set_option linter.unusedSimpArgs false
namespace Go.Proofs.YtdbkkldgobkjcaaGreat
open Go.RowKit Go.Maps
namespace It

def putL (g : ByteArray) (n : Int) : List Item → List Item
  | [] => [(g, n)]
  | x :: r => if key x < g.data.toList then x :: putL g n r else if key x = g.data.toList then (x.1, n) :: r else (g, n) :: x :: r
theorem putL_new (g : ByteArray) (n : Int) : ∀ (l : List Item) (j : Nat), (∀ i (h : i < l.length), i < j → key l[i] < g.data.toList) → j ≤ l.length → (∀ h : j < l.length, ¬ key l[j] < g.data.toList ∧ key l[j] ≠ g.data.toList) →
    putL g n l = l.take j ++ [(g, n)] ++ l.drop j
  | [], j, _, hj, _ => by simp at hj; subst hj; rfl
  | x :: r, 0, _, _, h => by
    have := h (by simp)
    simp only [List.getElem_cons_zero] at this
    simp [putL, this.1, this.2]
  | x :: r, j + 1, h1, hj, h => by
    have h0 := h1 0 (by simp) (by omega)
    simp only [List.getElem_cons_zero] at h0
    unfold putL
    rw [if_pos h0, putL_new g n r j (fun i hi hij => h1 (i + 1) (by simpa using hi) (by omega)) (by simpa using hj) (fun hh => h (by simpa using hh))]
    rfl
theorem putL_set (g : ByteArray) (n : Int) : ∀ (l : List Item) (j : Nat), (∀ i (h : i < l.length), i < j → key l[i] < g.data.toList) → (h : j < l.length) → key l[j] = g.data.toList →
    putL g n l = l.set j (l[j].1, n)
  | [], j, _, hj, _ => absurd hj (by simp)
  | x :: r, 0, _, _, h => by
    simp only [List.getElem_cons_zero] at h
    unfold putL
    rw [if_neg (by rw [h]; exact bs_irr _), if_pos h]
    rfl
  | x :: r, j + 1, h1, hj, h => by
    have h0 := h1 0 (by simp) (by omega)
    simp only [List.getElem_cons_zero] at h0
    unfold putL
    rw [if_pos h0, putL_set g n r j (fun i hi hij => h1 (i + 1) (by simpa using hi) (by omega)) (by simpa using hj) (by simpa using h)]
    rfl
theorem putL_len (g : ByteArray) (n : Int) : ∀ l : List Item, (putL g n l).length ≤ l.length + 1
  | [] => by simp [putL]
  | x :: r => by
    unfold putL
    split
    · have := putL_len g n r; simp; omega
    · split <;> simp
theorem putL_mem (g : ByteArray) (n : Int) (x : Item) : ∀ l : List Item, l.Pairwise (fun a b => key a < key b) → (x ∈ putL g n l ↔ x = (g, n) ∨ (x ∈ l ∧ key x ≠ g.data.toList))
  | [], _ => by simp [putL]
  | y :: r, h => by
    have h' := List.pairwise_cons.1 h
    have hg : key ((g, n) : Item) = g.data.toList := rfl
    unfold putL
    split
    · rename_i hy
      have hne : key y ≠ g.data.toList := fun e => by rw [e] at hy; exact bs_irr _ hy
      rw [List.mem_cons, putL_mem g n x r h'.2, List.mem_cons]
      constructor
      · rintro (rfl | h | h)
        · exact .inr ⟨.inl rfl, hne⟩
        · exact .inl h
        · exact .inr ⟨.inr h.1, h.2⟩
      · rintro (h | ⟨rfl | h, h2⟩)
        · exact .inr (.inl h)
        · exact .inl rfl
        · exact .inr (.inr ⟨h, h2⟩)
    · have hr : ∀ z ∈ r, key z ≠ g.data.toList ∨ key y < g.data.toList := fun z hz => by
        by_cases hy : key y < g.data.toList
        · exact .inr hy
        · refine .inl fun e => hy ?_
          have := h'.1 z hz
          rwa [e] at this
      rename_i hy
      split
      · rename_i he
        have e1 : ((y.1, n) : Item) = (g, n) := key_item _ _ (show key y = key ((g, n) : Item) from he) rfl
        rw [e1, List.mem_cons, List.mem_cons]
        constructor
        · rintro (h | h)
          · exact .inl h
          · exact .inr ⟨.inr h, (hr x h).resolve_right hy⟩
        · rintro (h | ⟨rfl | h, h2⟩)
          · exact .inl h
          · exact absurd he h2
          · exact .inr h
      · rename_i he
        rw [List.mem_cons, List.mem_cons]
        constructor
        · rintro (h | rfl | h)
          · exact .inl h
          · exact .inr ⟨.inl rfl, he⟩
          · exact .inr ⟨.inr h, (hr x h).resolve_right hy⟩
        · rintro (h | ⟨rfl | h, h2⟩)
          · exact .inl h
          · exact .inr (.inl rfl)
          · exact .inr (.inr h)
theorem putL_sorted (g : ByteArray) (n : Int) : ∀ l : List Item, l.Pairwise (fun a b => key a < key b) → (putL g n l).Pairwise (fun a b => key a < key b)
  | [], _ => by simp [putL]
  | y :: r, h => by
    have h' := List.pairwise_cons.1 h
    unfold putL
    split
    · rename_i hy
      refine List.pairwise_cons.2 ⟨fun z hz => ?_, putL_sorted g n r h'.2⟩
      rcases (putL_mem g n z r h'.2).1 hz with rfl | ⟨h1, _⟩
      · exact hy
      · exact h'.1 z h1
    · split
      · exact List.pairwise_cons.2 ⟨fun z hz => h'.1 z hz, h'.2⟩
      · rename_i h1 h2
        have hlt : g.data.toList < key y := by
          rcases bs_tri (key y) g.data.toList with h | h | h
          · exact absurd h h1
          · exact absurd h h2
          · exact h
        refine List.pairwise_cons.2 ⟨fun z hz => ?_, h⟩
        rcases List.mem_cons.1 hz with rfl | hz
        · exact hlt
        · exact List.lt_trans hlt (h'.1 z hz)

theorem itemCells_take (l : List Item) (k : Nat) : itemCells (l.take k) = (itemCells l).take (k * 2) := by
  induction l generalizing k with
  | nil => simp [itemCells]
  | cons x r ih =>
    cases k with
    | zero => simp [itemCells]
    | succ k =>
      have e : (k + 1) * 2 = k * 2 + 1 + 1 := by omega
      simp only [itemCells, List.take_succ_cons, List.flatMap_cons, List.cons_append, List.nil_append, e] at ih ⊢
      rw [ih]
theorem itemCells_drop (l : List Item) (k : Nat) : itemCells (l.drop k) = (itemCells l).drop (k * 2) := by
  induction l generalizing k with
  | nil => simp [itemCells]
  | cons x r ih =>
    cases k with
    | zero => simp [itemCells]
    | succ k =>
      have e : (k + 1) * 2 = k * 2 + 1 + 1 := by omega
      simp only [itemCells, List.flatMap_cons, List.cons_append, List.nil_append, e, List.drop_succ_cons] at ih ⊢
      rw [ih]
theorem itemCells_set (l : List Item) (j : Nat) (hj : j < l.length) (n : Int) : itemCells (l.set j (l[j].1, n)) = (itemCells l).set (j * 2 + 1) (.int .i64 n) := by
  induction l generalizing j with
  | nil => simp at hj
  | cons x r ih =>
    cases j with
    | zero => rfl
    | succ j =>
      have e : (j + 1) * 2 + 1 = j * 2 + 1 + 1 + 1 := by omega
      have := ih j (by simpa using hj)
      simp only [List.set_cons_succ, List.getElem_cons_succ, itemCells, List.flatMap_cons, List.cons_append, List.nil_append, e] at this ⊢
      rw [this]

set_option maxRecDepth 100000 in
set_option maxHeartbeats 40000000 in
theorem refput_calls (L : List Item) (g : ByteArray) (n : Int) (v : Value) (w : World) (hI : ItemsAt w 0 w.heap.size v L) (hv : v = .slice none 0 0 ∨ ∃ b o n c, v = .slice (some ⟨b, o, none⟩) n c) (hL : L.length ≤ 1000000) :
    Calls Tryz.prog 120 #[v, .string g, .int .i64 n] w fun e w' =>
      (∃ u, e = .returned u ∧ w'.ownsRow w.heap.size 37 2 u (putL g n L).length (itemCells (putL g n L))) ∧ Below w.heap.size w w' := by
  obtain ⟨A, c, rfl, hc1, hc2⟩ := hI.form
  have hnil : (A = none ∧ c = 0 ∧ L.length = 0) ∨ ∃ b o, A = some ⟨b, o, none⟩ := by
    rcases hv with h | ⟨b, o, n, c', h⟩
    · simp at h; exact .inl ⟨h.1, h.2.2, by simp [h.2.1]⟩
    · simp at h; exact .inr ⟨b, o, h.1⟩
  clear hv
  unfold maxLen at hc2
  obtain ⟨i0, hi0, hz0⟩ := Option.map_eq_some_iff.1 item_info
  simp only [Prod.mk.injEq] at hz0
  obtain ⟨hz0, hz1, hz2⟩ := hz0
  have HNew := Lib.hid (putL_new g n L)
  have HSet := Lib.hid (putL_set g n L)
  have hlen := putL_len g n L
  generalize putL g n L = R at *
  go_enter Tryz.func120, Tryz.ntmps120
  go_wp2
  go_loop [7] (fun i => ∃ k : Nat, k ≤ L.length ∧ i = .int .i64 k ∧ ∀ i (h : i < L.length), i < k → key L[i] < g.data.toList) (fun i => L.length - (intOf i).toNat)
  case atStart => exact ⟨0, by omega, rfl, fun i _ h => by omega⟩
  case round =>
    obtain ⟨k, hk, rfl, hm⟩ := hrel
    by_cases hlt : k < L.length
    · clear hnil
      obtain ⟨b, o, rfl, -, hb, g1, g2⟩ := hI.cellAt hlt
      have hd : decide ((k : Int) < (L.length : Int)) = true := by simp; omega
      have HM := Lib.hid (show key L[k] < g.data.toList → ∀ i (h : i < L.length), i < k + 1 → key L[i] < g.data.toList from fun h i hi hik => by
        rcases Nat.lt_or_ge i k with h1 | h1
        · exact hm i hi h1
        · obtain rfl : i = k := by omega
          exact h)
      have HMN := Lib.hid (fun h => HNew.out k hm hk h)
      have HMS := Lib.hid (fun h => HSet.out k hm hlt h)
      clear hm
      have hlt' : Op.bytesLess L[k].1.toList g.toList = decide (key L[k] < g.data.toList) := by rw [less_eq, toList_key, toList_key]; rfl
      have heq' : (L[k].1.toList == g.toList) = decide (key L[k] = g.data.toList) := by
        rw [toList_key, toList_key]
        exact Bool.eq_iff_iff.2 (by simp [key])
      have HCS := Lib.hid (show (Op.bytesLess L[k].1.toList g.toList = true ∧ key L[k] < g.data.toList) ∨ (Op.bytesLess L[k].1.toList g.toList = false ∧ (L[k].1.toList == g.toList) = true ∧ key L[k] = g.data.toList) ∨ (Op.bytesLess L[k].1.toList g.toList = false ∧ (L[k].1.toList == g.toList) = false ∧ ¬ key L[k] < g.data.toList ∧ key L[k] ≠ g.data.toList) by
        rw [hlt', heq']
        rcases bs_tri (key L[k]) g.data.toList with h | h | h
        · exact .inl ⟨decide_eq_true h, h⟩
        · exact .inr (.inl ⟨decide_eq_false (by rw [h]; exact bs_irr _), decide_eq_true h, h⟩)
        · exact .inr (.inr ⟨decide_eq_false (bs_asy _ _ h), decide_eq_false (fun e => by rw [e] at h; exact bs_irr _ h), bs_asy _ _ h, fun e => by rw [e] at h; exact bs_irr _ h⟩))
      clear hlt' heq'
      rcases HCS.out with ⟨e1, e2⟩ | ⟨e1, e2, e3⟩ | ⟨e1, e2, e3⟩
      · have HM2 := Lib.hid (HM.out e2)
        clear HM HMN HMS HCS e2
        generalize L[k] = x at *
        obtain ⟨xs, xn⟩ := x
        dsimp only at g1 g2 e1
        go_wp2
        go_round
        case rel => exact ⟨k + 1, by omega, by go_num, HM2.out⟩
        case measure => simp [intOf]; omega
      · have HR := Lib.hid (HMS.out e3)
        have HC := Lib.hid (itemCells_set L k hlt n)
        clear HM HMN HMS HCS e3
        have hownE : (w.alloc (.cells #[] 37)).ownsRow w.heap.size 37 2 (.slice (some ⟨w.heap.size, 0, none⟩) 0 0) 0 [] := World.ownsRow_lit w #[] 0 (Nat.le_refl _) (by unfold maxLen; omega) rfl
        have hIE := hI.below ((Below.refl _ w).alloc (Nat.le_refl _) (.cells #[] 37))
        generalize hxx : L[k] = x at *
        obtain ⟨xs, xn⟩ := x
        dsimp only at g1 g2 e1 e2
        go_wp2_with (at_builtin
                     refine wpList_append_sl _ rfl (.tmp 37) (.tmp 38) _ rfl w.heap.size 37 i0 _ 2 24 Tryz.underlying30 hi0 hz0 hz1 hz2 rfl (by omega) (.slice (some ⟨w.heap.size, 0, none⟩) 0 0) 0 [] rfl hownE 0 w.heap.size _ L.length (itemCells L) rfl hIE (itemCells_one L) (by unfold maxLen; omega) (by omega) (by simp) ?_
                     intro v1 w1 hv1 hg1 hat1
                     simp only [Nat.zero_add, List.nil_append] at hv1
                     obtain ⟨gg, cap, rfl, hgb, hgl⟩ := hv1.form (by omega)
                     have hcell := hv1.cellAt (k * 2 + 1) (by omega)
                     have hfr := hv1.frozenAt (k * 2 + 1)
                     rw [(itemCells_get L k hlt).2] at hcell)
        go_ret
        obtain ⟨hv2, hg2⟩ := hv1.stored (k * 2 + 1) (.int .i64 n)
        have hB1 : Below w.heap.size w w1 := ((Below.refl _ w).alloc (Nat.le_refl _) _).grown hg1 (by simp) (fun g hg => by cases hg; exact Nat.le_refl _)
        refine ⟨⟨_, rfl, ?_⟩, hB1.setCell (p := ⟨gg, k * 2 + 1, none⟩) hgb _⟩
        have hRl : R.length = L.length := by rw [HR.out, List.length_set]
        rw [hRl, HR.out, HC.out]
        exact hv2
      · have HR := Lib.hid (HMN.out (fun _ => e3))
        clear HM HMN HMS HCS e3 HNew HSet
        generalize L[k] = x at *
        obtain ⟨xs, xn⟩ := x
        dsimp only at g1 g2 e1 e2
        go_wp2_with fail
        clear g1 g2 e1 e2 hd
        have HP := Lib.hid (fun W (h : Below w.heap.size w W) => (hI.below h).upTo hk)
        have HQ := Lib.hid (fun W (h : Below w.heap.size w W) => (hI.below h).onFrom hk)
        have hkc1 : ((0 : Int) ≤ (k : Int)) := by omega
        have hkc2 : ((k : Int) ≤ (L.length : Int)) := by omega
        have hkc3 : ((k : Int) ≤ (c : Int)) := by omega
        have hkc4 : ((L.length : Int) ≤ (c : Int)) := by omega
        have own1 : (w.alloc (.cells #[] 37)).drew.ownsRow w.heap.size 37 2 (.slice (some ⟨w.heap.size, 0, none⟩) 0 0) 0 [] := World.ownsRow_lit w #[] 0 (Nat.le_refl _) (Nat.zero_le _) rfl
        have own2 : ((w.alloc (.cells #[] 37)).alloc (.cells #[.string g, .int .i64 n] 37)).drew.ownsRow w.heap.size 37 2 (.slice (some ⟨w.heap.size, 0, none⟩) 0 0) 0 [] := (World.ownsRow_lit (size := 2) (base := w.heap.size) (e := 37) w #[] 0 (Nat.le_refl _) (Nat.zero_le _) rfl).alloc _
        have own3 : ((w.alloc (.cells #[.string g, .int .i64 n] 37)).alloc (.cells #[] 37)).drew.ownsRow w.heap.size 37 2 (.slice (some ⟨w.heap.size + 1, 0, none⟩) 0 0) 0 [] := by
          have := World.ownsRow_lit (size := 2) (base := w.heap.size) (e := 37) (w.alloc (.cells #[.string g, .int .i64 n] 37)) #[] 0 (by simp) (Nat.zero_le _) rfl
          rwa [World.size_alloc] at this
        have bb1 : Below w.heap.size w (w.alloc (.cells #[] 37)).drew := ((Below.refl _ w).alloc (Nat.le_refl _) _).drew
        have bb2 : Below w.heap.size w ((w.alloc (.cells #[] 37)).alloc (.cells #[.string g, .int .i64 n] 37)).drew := (((Below.refl _ w).alloc (Nat.le_refl _) _).alloc (by simp) _).drew
        have bb3 : Below w.heap.size w ((w.alloc (.cells #[.string g, .int .i64 n] 37)).alloc (.cells #[] 37)).drew := (((Below.refl _ w).alloc (Nat.le_refl _) _).alloc (by simp) _).drew
        have sl2 : Sl ((w.alloc (.cells #[] 37)).alloc (.cells #[.string g, .int .i64 n] 37)).drew (w.heap.size + 1) (w.heap.size + 1 + 1) 2 (.slice (some ⟨w.heap.size + 1, 0, none⟩) 1 1) 1 [.string g, .int .i64 n] := by
          have := Sl.new (w.alloc (.cells #[] 37)) #[.string g, .int .i64 n] 37 (n := 1) (size := 2) rfl (by unfold maxLen; omega)
          rw [World.size_alloc] at this
          exact this.below (Below.refl _ _).drew
        have sl3 : Sl ((w.alloc (.cells #[.string g, .int .i64 n] 37)).alloc (.cells #[] 37)).drew w.heap.size (w.heap.size + 1) 2 (.slice (some ⟨w.heap.size, 0, none⟩) 1 1) 1 [.string g, .int .i64 n] :=
          (Sl.new w #[.string g, .int .i64 n] 37 (n := 1) (size := 2) rfl (by unfold maxLen; omega)).below (((Below.refl (w.heap.size + 1) (w.alloc (.cells #[.string g, .int .i64 n] 37))).alloc (Nat.le_of_eq (World.size_alloc _ _).symm) _).drew)
        have G1 := Lib.hid (show ∀ w1 : World, (w.alloc (.cells #[] 37)).drew.grownBy w1 (some w.heap.size) → Below w.heap.size w w1 from fun w1 hg => bb1.grown hg bb1.size (fun g hg => by cases hg; exact Nat.le_refl _))
        have G2 := Lib.hid (show ∀ w1 : World, ((w.alloc (.cells #[] 37)).alloc (.cells #[.string g, .int .i64 n] 37)).drew.grownBy w1 (some w.heap.size) → Below w.heap.size w w1 ∧ Sl w1 (w.heap.size + 1) (w.heap.size + 1 + 1) 2 (.slice (some ⟨w.heap.size + 1, 0, none⟩) 1 1) 1 [.string g, .int .i64 n] from fun w1 hg => ⟨bb2.grown hg bb2.size (fun g hg => by cases hg; exact Nat.le_refl _), sl2.grown hg (by simp [World.drew]) (fun r hr => by cases hr; exact .inl (Nat.lt_succ_self _))⟩)
        have G3 := Lib.hid (show ∀ w1 : World, ((w.alloc (.cells #[.string g, .int .i64 n] 37)).alloc (.cells #[] 37)).drew.grownBy w1 (some (w.heap.size + 1)) → Below w.heap.size w w1 ∧ Sl w1 w.heap.size (w.heap.size + 1) 2 (.slice (some ⟨w.heap.size, 0, none⟩) 1 1) 1 [.string g, .int .i64 n] from fun w1 hg => ⟨bb3.grown hg bb3.size (fun g hg => by cases hg; exact Nat.le_succ _), sl3.grown hg (by simp [World.drew]) (fun r hr => by cases hr; exact .inr (Nat.le_refl _))⟩)
        have OP := Lib.hid (show ∀ y ∈ ((itemCells L).take (k * 2) : List Value), y.oneCell' = true from (fun y hy => itemCells_one L y (List.mem_of_mem_take hy)))
        have OQ := Lib.hid (show ∀ y ∈ ((itemCells L).drop (k * 2) : List Value), y.oneCell' = true from (fun y hy => itemCells_one L y (List.mem_of_mem_drop hy)))
        have OX := Lib.hid (show ∀ y ∈ ([.string g, .int .i64 n] : List Value), y.oneCell' = true from (by simp [Value.oneCell']))
        have m1 : 0 + (k) ≤ maxLen := by unfold maxLen; omega
        have m2 : 0 + (k) + 1 ≤ maxLen := by unfold maxLen; omega
        have m3 : 0 + (k) + 1 + (L.length - k) ≤ maxLen := by unfold maxLen; omega
        have q1 : (0 + (k)) * 24 ≤ 140737488355328 := by omega
        have q2 : (0 + (k) + 1) * 24 ≤ 140737488355328 := by omega
        have q3 : (0 + (k) + 1 + (L.length - k)) * 24 ≤ 140737488355328 := by omega
        have M1 := Lib.hid m1; have M2 := Lib.hid m2; have M3 := Lib.hid m3; have Q1 := Lib.hid q1; have Q2 := Lib.hid q2; have Q3 := Lib.hid q3
        have OW1 := Lib.hid own1; have OW2 := Lib.hid own2; have OW3 := Lib.hid own3; have BB1 := Lib.hid bb1; have BB2 := Lib.hid bb2; have BB3 := Lib.hid bb3
        clear m1 m2 m3 q1 q2 q3 own1 own2 own3 bb1 bb2 bb3 sl2 sl3
        go_region_law (first
          | ((with_reducible refine step_append_sl _ (o := ⟨some 50, _, _, _, _, _⟩) ?_ (.tmp 46) (.tmp 49) 30 ?_ w.heap.size 37 i0 _ 2 24 Tryz.underlying30 hi0 hz0 hz1 hz2 ?_ (by omega) _ 0 [] ?_ OW1.out 0 w.heap.size _ ((k)) ((itemCells L).take (k * 2)) ?_ (HP.out _ BB1.out) OP.out M1.out Q1.out BB1.out.size ?_)
             rfl; rfl; rfl; (simp [Act.eval]); (simp [Act.eval])
             intro v1 w1 hv1 hg1 hat1
             have hB1 := G1.out _ hg1; clear hg1 hat1)
          | ((with_reducible refine step_append_sl _ (o := ⟨some 50, _, _, _, _, _⟩) ?_ (.tmp 46) (.tmp 49) 30 ?_ w.heap.size 37 i0 _ 2 24 Tryz.underlying30 hi0 hz0 hz1 hz2 ?_ (by omega) _ 0 [] ?_ OW2.out 0 w.heap.size _ ((k)) ((itemCells L).take (k * 2)) ?_ (HP.out _ BB2.out) OP.out M1.out Q1.out BB2.out.size ?_)
             rfl; rfl; rfl; (simp [Act.eval]); (simp [Act.eval])
             intro v1 w1 hv1 hg1 hat1
             have hB1 := (G2.out _ hg1).1; have hs54 := (G2.out _ hg1).2; clear hg1 hat1)
          | ((with_reducible refine step_append_sl _ (o := ⟨some 50, _, _, _, _, _⟩) ?_ (.tmp 46) (.tmp 49) 30 ?_ w.heap.size 37 i0 _ 2 24 Tryz.underlying30 hi0 hz0 hz1 hz2 ?_ (by omega) _ 0 [] ?_ OW3.out 0 w.heap.size _ ((k)) ((itemCells L).take (k * 2)) ?_ (HP.out _ BB3.out) OP.out M1.out Q1.out BB3.out.size ?_)
             rfl; rfl; rfl; (simp [Act.eval]); (simp [Act.eval])
             intro v1 w1 hv1 hg1 hat1
             have hB1 := (G3.out _ hg1).1; have hs54 := (G3.out _ hg1).2; clear hg1 hat1)
          | ((with_reducible refine step_append_sl _ (o := ⟨some 55, _, _, _, _, _⟩) ?_ (.tmp 50) (.tmp 54) 30 ?_ w.heap.size 37 i0 _ 2 24 Tryz.underlying30 hi0 hz0 hz1 hz2 ?_ (by omega) _ (0 + (k)) _ ?_ hv1 _ _ _ 1 [.string g, .int .i64 n] ?_ hs54 OX.out M2.out Q2.out hB1.size ?_)
             rfl; rfl; rfl; (simp [Act.eval]); (simp [Act.eval])
             intro v2 w2 hv2 hg2 hat2
             have hB2 : Below w.heap.size w w2 := hB1.grown hg2 hB1.size (fun g hg => (hv1.lt g hg).1); clear hg2 hat2 hv1 hs54)
          | ((with_reducible refine step_append_sl _ (o := ⟨some 55, _, _, _, _, _⟩) ?_ (.tmp 50) (.tmp 54) 30 ?_ w.heap.size 37 i0 _ 2 24 Tryz.underlying30 hi0 hz0 hz1 hz2 ?_ (by omega) _ (0 + (k)) _ ?_ (hv1.alloc _) _ _ _ 1 [.string g, .int .i64 n] ?_ (Sl.new w1 #[.string g, .int .i64 n] 37 (n := 1) (size := 2) rfl (Nat.le_trans (Nat.le_add_left _ _) M2.out)) OX.out M2.out Q2.out (hB1.alloc hB1.size _).size ?_)
             rfl; rfl; rfl; (simp [Act.eval]); (simp [Act.eval])
             intro v2 w2 hv2 hg2 hat2
             have hB2 : Below w.heap.size w w2 := (hB1.alloc hB1.size _).grown hg2 (hB1.alloc hB1.size _).size (fun g hg => (hv1.lt g hg).1); clear hg2 hat2 hv1)
          | ((with_reducible refine step_append_sl _ (o := ⟨some 59, _, _, _, _, _⟩) ?_ (.tmp 55) (.tmp 58) 30 ?_ w.heap.size 37 i0 _ 2 24 Tryz.underlying30 hi0 hz0 hz1 hz2 ?_ (by omega) _ (0 + (k) + 1) _ ?_ hv2 0 w.heap.size _ ((L.length - k)) ((itemCells L).drop (k * 2)) ?_ (HQ.out _ hB2) OQ.out M3.out Q3.out hB2.size ?_)
             rfl; rfl; rfl; (simp [Act.eval]); (simp [Act.eval])
             intro v3 w3 hv3 hg3 hat3
             have hB3 : Below w.heap.size w w3 := hB2.grown hg3 hB2.size (fun g hg => (hv2.lt g hg).1); clear hg3 hat3 hv2 hB2))
        all_goals
          rw [show ([] ++ (itemCells L).take (k * 2) ++ [.string g, .int .i64 n] ++ (itemCells L).drop (k * 2)) = itemCells R by rw [HR.out, itemCells_append, itemCells_append, itemCells_take, itemCells_drop]; rfl, show 0 + k + 1 + (L.length - k) = R.length by rw [HR.out]; simp; omega] at hv3
          obtain ⟨A9, c9, rfl, -⟩ := (ItemsAt.of_own hv3).form
          go_wp2
          go_ret
          exact ⟨⟨_, rfl, hv3⟩, hB3⟩
    · obtain rfl : k = L.length := by omega
      have HR := Lib.hid (HNew.out L.length hm (Nat.le_refl _) (fun h => by omega))
      clear hm HNew HSet
      rcases hnil with ⟨rfl, rfl, h0⟩ | ⟨b, o, rfl⟩
      · obtain rfl : L = [] := List.eq_nil_of_length_eq_zero h0
        have HR := Lib.hid (show R = [(g, n)] from HR.out)
        simp only [List.length_nil, Int.natCast_zero]
        clear h0 hlt
        go_wp2_with fail
        have own1 : (w.alloc (.cells #[] 37)).drew.ownsRow w.heap.size 37 2 (.slice (some ⟨w.heap.size, 0, none⟩) 0 0) 0 [] := World.ownsRow_lit w #[] 0 (Nat.le_refl _) (Nat.zero_le _) rfl
        have own2 : ((w.alloc (.cells #[] 37)).alloc (.cells #[.string g, .int .i64 n] 37)).drew.ownsRow w.heap.size 37 2 (.slice (some ⟨w.heap.size, 0, none⟩) 0 0) 0 [] := (World.ownsRow_lit (size := 2) (base := w.heap.size) (e := 37) w #[] 0 (Nat.le_refl _) (Nat.zero_le _) rfl).alloc _
        have own3 : ((w.alloc (.cells #[.string g, .int .i64 n] 37)).alloc (.cells #[] 37)).drew.ownsRow w.heap.size 37 2 (.slice (some ⟨w.heap.size + 1, 0, none⟩) 0 0) 0 [] := by
          have := World.ownsRow_lit (size := 2) (base := w.heap.size) (e := 37) (w.alloc (.cells #[.string g, .int .i64 n] 37)) #[] 0 (by simp) (Nat.zero_le _) rfl
          rwa [World.size_alloc] at this
        have bb1 : Below w.heap.size w (w.alloc (.cells #[] 37)).drew := ((Below.refl _ w).alloc (Nat.le_refl _) _).drew
        have bb2 : Below w.heap.size w ((w.alloc (.cells #[] 37)).alloc (.cells #[.string g, .int .i64 n] 37)).drew := (((Below.refl _ w).alloc (Nat.le_refl _) _).alloc (by simp) _).drew
        have bb3 : Below w.heap.size w ((w.alloc (.cells #[.string g, .int .i64 n] 37)).alloc (.cells #[] 37)).drew := (((Below.refl _ w).alloc (Nat.le_refl _) _).alloc (by simp) _).drew
        have sl2 : Sl ((w.alloc (.cells #[] 37)).alloc (.cells #[.string g, .int .i64 n] 37)).drew (w.heap.size + 1) (w.heap.size + 1 + 1) 2 (.slice (some ⟨w.heap.size + 1, 0, none⟩) 1 1) 1 [.string g, .int .i64 n] := by
          have := Sl.new (w.alloc (.cells #[] 37)) #[.string g, .int .i64 n] 37 (n := 1) (size := 2) rfl (by unfold maxLen; omega)
          rw [World.size_alloc] at this
          exact this.below (Below.refl _ _).drew
        have sl3 : Sl ((w.alloc (.cells #[.string g, .int .i64 n] 37)).alloc (.cells #[] 37)).drew w.heap.size (w.heap.size + 1) 2 (.slice (some ⟨w.heap.size, 0, none⟩) 1 1) 1 [.string g, .int .i64 n] :=
          (Sl.new w #[.string g, .int .i64 n] 37 (n := 1) (size := 2) rfl (by unfold maxLen; omega)).below (((Below.refl (w.heap.size + 1) (w.alloc (.cells #[.string g, .int .i64 n] 37))).alloc (Nat.le_of_eq (World.size_alloc _ _).symm) _).drew)
        have G1 := Lib.hid (show ∀ w1 : World, (w.alloc (.cells #[] 37)).drew.grownBy w1 (some w.heap.size) → Below w.heap.size w w1 from fun w1 hg => bb1.grown hg bb1.size (fun g hg => by cases hg; exact Nat.le_refl _))
        have G2 := Lib.hid (show ∀ w1 : World, ((w.alloc (.cells #[] 37)).alloc (.cells #[.string g, .int .i64 n] 37)).drew.grownBy w1 (some w.heap.size) → Below w.heap.size w w1 ∧ Sl w1 (w.heap.size + 1) (w.heap.size + 1 + 1) 2 (.slice (some ⟨w.heap.size + 1, 0, none⟩) 1 1) 1 [.string g, .int .i64 n] from fun w1 hg => ⟨bb2.grown hg bb2.size (fun g hg => by cases hg; exact Nat.le_refl _), sl2.grown hg (by simp [World.drew]) (fun r hr => by cases hr; exact .inl (Nat.lt_succ_self _))⟩)
        have G3 := Lib.hid (show ∀ w1 : World, ((w.alloc (.cells #[.string g, .int .i64 n] 37)).alloc (.cells #[] 37)).drew.grownBy w1 (some (w.heap.size + 1)) → Below w.heap.size w w1 ∧ Sl w1 w.heap.size (w.heap.size + 1) 2 (.slice (some ⟨w.heap.size, 0, none⟩) 1 1) 1 [.string g, .int .i64 n] from fun w1 hg => ⟨bb3.grown hg bb3.size (fun g hg => by cases hg; exact Nat.le_succ _), sl3.grown hg (by simp [World.drew]) (fun r hr => by cases hr; exact .inr (Nat.le_refl _))⟩)
        have OP := Lib.hid (show ∀ y ∈ (([] : List Value) : List Value), y.oneCell' = true from (by simp))
        have OQ := Lib.hid (show ∀ y ∈ (([] : List Value) : List Value), y.oneCell' = true from (by simp))
        have OX := Lib.hid (show ∀ y ∈ ([.string g, .int .i64 n] : List Value), y.oneCell' = true from (by simp [Value.oneCell']))
        have m1 : 0 + (0) ≤ maxLen := by unfold maxLen; omega
        have m2 : 0 + (0) + 1 ≤ maxLen := by unfold maxLen; omega
        have m3 : 0 + (0) + 1 + (0) ≤ maxLen := by unfold maxLen; omega
        have q1 : (0 + (0)) * 24 ≤ 140737488355328 := by omega
        have q2 : (0 + (0) + 1) * 24 ≤ 140737488355328 := by omega
        have q3 : (0 + (0) + 1 + (0)) * 24 ≤ 140737488355328 := by omega
        have M1 := Lib.hid m1; have M2 := Lib.hid m2; have M3 := Lib.hid m3; have Q1 := Lib.hid q1; have Q2 := Lib.hid q2; have Q3 := Lib.hid q3
        have OW1 := Lib.hid own1; have OW2 := Lib.hid own2; have OW3 := Lib.hid own3; have BB1 := Lib.hid bb1; have BB2 := Lib.hid bb2; have BB3 := Lib.hid bb3
        clear m1 m2 m3 q1 q2 q3 own1 own2 own3 bb1 bb2 bb3 sl2 sl3
        go_region_law (first
          | ((with_reducible refine step_append_sl _ (o := ⟨some 50, _, _, _, _, _⟩) ?_ (.tmp 46) (.tmp 49) 30 ?_ w.heap.size 37 i0 _ 2 24 Tryz.underlying30 hi0 hz0 hz1 hz2 ?_ (by omega) _ 0 [] ?_ OW1.out 0 w.heap.size _ ((0)) (([] : List Value)) ?_ ((fun _ => Sl.nil _ _ _ _) BB1.out) OP.out M1.out Q1.out BB1.out.size ?_)
             rfl; rfl; rfl; (simp [Act.eval]); (simp [Act.eval])
             intro v1 w1 hv1 hg1 hat1
             have hB1 := G1.out _ hg1; clear hg1 hat1)
          | ((with_reducible refine step_append_sl _ (o := ⟨some 50, _, _, _, _, _⟩) ?_ (.tmp 46) (.tmp 49) 30 ?_ w.heap.size 37 i0 _ 2 24 Tryz.underlying30 hi0 hz0 hz1 hz2 ?_ (by omega) _ 0 [] ?_ OW2.out 0 w.heap.size _ ((0)) (([] : List Value)) ?_ ((fun _ => Sl.nil _ _ _ _) BB2.out) OP.out M1.out Q1.out BB2.out.size ?_)
             rfl; rfl; rfl; (simp [Act.eval]); (simp [Act.eval])
             intro v1 w1 hv1 hg1 hat1
             have hB1 := (G2.out _ hg1).1; have hs54 := (G2.out _ hg1).2; clear hg1 hat1)
          | ((with_reducible refine step_append_sl _ (o := ⟨some 50, _, _, _, _, _⟩) ?_ (.tmp 46) (.tmp 49) 30 ?_ w.heap.size 37 i0 _ 2 24 Tryz.underlying30 hi0 hz0 hz1 hz2 ?_ (by omega) _ 0 [] ?_ OW3.out 0 w.heap.size _ ((0)) (([] : List Value)) ?_ ((fun _ => Sl.nil _ _ _ _) BB3.out) OP.out M1.out Q1.out BB3.out.size ?_)
             rfl; rfl; rfl; (simp [Act.eval]); (simp [Act.eval])
             intro v1 w1 hv1 hg1 hat1
             have hB1 := (G3.out _ hg1).1; have hs54 := (G3.out _ hg1).2; clear hg1 hat1)
          | ((with_reducible refine step_append_sl _ (o := ⟨some 55, _, _, _, _, _⟩) ?_ (.tmp 50) (.tmp 54) 30 ?_ w.heap.size 37 i0 _ 2 24 Tryz.underlying30 hi0 hz0 hz1 hz2 ?_ (by omega) _ (0 + (0)) _ ?_ hv1 _ _ _ 1 [.string g, .int .i64 n] ?_ hs54 OX.out M2.out Q2.out hB1.size ?_)
             rfl; rfl; rfl; (simp [Act.eval]); (simp [Act.eval])
             intro v2 w2 hv2 hg2 hat2
             have hB2 : Below w.heap.size w w2 := hB1.grown hg2 hB1.size (fun g hg => (hv1.lt g hg).1); clear hg2 hat2 hv1 hs54)
          | ((with_reducible refine step_append_sl _ (o := ⟨some 55, _, _, _, _, _⟩) ?_ (.tmp 50) (.tmp 54) 30 ?_ w.heap.size 37 i0 _ 2 24 Tryz.underlying30 hi0 hz0 hz1 hz2 ?_ (by omega) _ (0 + (0)) _ ?_ (hv1.alloc _) _ _ _ 1 [.string g, .int .i64 n] ?_ (Sl.new w1 #[.string g, .int .i64 n] 37 (n := 1) (size := 2) rfl (Nat.le_trans (Nat.le_add_left _ _) M2.out)) OX.out M2.out Q2.out (hB1.alloc hB1.size _).size ?_)
             rfl; rfl; rfl; (simp [Act.eval]); (simp [Act.eval])
             intro v2 w2 hv2 hg2 hat2
             have hB2 : Below w.heap.size w w2 := (hB1.alloc hB1.size _).grown hg2 (hB1.alloc hB1.size _).size (fun g hg => (hv1.lt g hg).1); clear hg2 hat2 hv1)
          | ((with_reducible refine step_append_sl _ (o := ⟨some 59, _, _, _, _, _⟩) ?_ (.tmp 55) (.tmp 58) 30 ?_ w.heap.size 37 i0 _ 2 24 Tryz.underlying30 hi0 hz0 hz1 hz2 ?_ (by omega) _ (0 + (0) + 1) _ ?_ hv2 0 w.heap.size _ ((0)) (([] : List Value)) ?_ ((fun _ => Sl.nil _ _ _ _) hB2) OQ.out M3.out Q3.out hB2.size ?_)
             rfl; rfl; rfl; (simp [Act.eval]); (simp [Act.eval])
             intro v3 w3 hv3 hg3 hat3
             have hB3 : Below w.heap.size w w3 := hB2.grown hg3 hB2.size (fun g hg => (hv2.lt g hg).1); clear hg3 hat3 hv2 hB2))
        all_goals
          rw [show ([] ++ [] ++ [Value.string g, .int .i64 n] ++ []) = itemCells R by rw [HR.out]; rfl, show 0 + 0 + 1 + 0 = R.length by rw [HR.out]; rfl] at hv3
          obtain ⟨A9, c9, rfl, -⟩ := (ItemsAt.of_own hv3).form
          go_wp2
          go_ret
          exact ⟨⟨_, rfl, hv3⟩, hB3⟩
      · have HC1 := Lib.hid (show c - L.length ≤ maxLen by unfold maxLen; omega)
        have HP := Lib.hid (fun W (h : Below w.heap.size w W) => show Sl W 0 w.heap.size 2 (.slice (some ⟨b, o, none⟩) L.length c) L.length (itemCells L) from hI.below h)
        have HQ := Lib.hid (fun W => show Sl W 0 w.heap.size 2 (.slice (if c = L.length then some ⟨b, o, none⟩ else some ⟨b, o + L.length * 2, none⟩) 0 (c - L.length)) 0 [] from Sl.zero HC1.out)
        go_wp2_with fail
        have hkc3 : ((L.length : Int) ≤ (c : Int)) := by omega
        have own1 : (w.alloc (.cells #[] 37)).drew.ownsRow w.heap.size 37 2 (.slice (some ⟨w.heap.size, 0, none⟩) 0 0) 0 [] := World.ownsRow_lit w #[] 0 (Nat.le_refl _) (Nat.zero_le _) rfl
        have own2 : ((w.alloc (.cells #[] 37)).alloc (.cells #[.string g, .int .i64 n] 37)).drew.ownsRow w.heap.size 37 2 (.slice (some ⟨w.heap.size, 0, none⟩) 0 0) 0 [] := (World.ownsRow_lit (size := 2) (base := w.heap.size) (e := 37) w #[] 0 (Nat.le_refl _) (Nat.zero_le _) rfl).alloc _
        have own3 : ((w.alloc (.cells #[.string g, .int .i64 n] 37)).alloc (.cells #[] 37)).drew.ownsRow w.heap.size 37 2 (.slice (some ⟨w.heap.size + 1, 0, none⟩) 0 0) 0 [] := by
          have := World.ownsRow_lit (size := 2) (base := w.heap.size) (e := 37) (w.alloc (.cells #[.string g, .int .i64 n] 37)) #[] 0 (by simp) (Nat.zero_le _) rfl
          rwa [World.size_alloc] at this
        have bb1 : Below w.heap.size w (w.alloc (.cells #[] 37)).drew := ((Below.refl _ w).alloc (Nat.le_refl _) _).drew
        have bb2 : Below w.heap.size w ((w.alloc (.cells #[] 37)).alloc (.cells #[.string g, .int .i64 n] 37)).drew := (((Below.refl _ w).alloc (Nat.le_refl _) _).alloc (by simp) _).drew
        have bb3 : Below w.heap.size w ((w.alloc (.cells #[.string g, .int .i64 n] 37)).alloc (.cells #[] 37)).drew := (((Below.refl _ w).alloc (Nat.le_refl _) _).alloc (by simp) _).drew
        have sl2 : Sl ((w.alloc (.cells #[] 37)).alloc (.cells #[.string g, .int .i64 n] 37)).drew (w.heap.size + 1) (w.heap.size + 1 + 1) 2 (.slice (some ⟨w.heap.size + 1, 0, none⟩) 1 1) 1 [.string g, .int .i64 n] := by
          have := Sl.new (w.alloc (.cells #[] 37)) #[.string g, .int .i64 n] 37 (n := 1) (size := 2) rfl (by unfold maxLen; omega)
          rw [World.size_alloc] at this
          exact this.below (Below.refl _ _).drew
        have sl3 : Sl ((w.alloc (.cells #[.string g, .int .i64 n] 37)).alloc (.cells #[] 37)).drew w.heap.size (w.heap.size + 1) 2 (.slice (some ⟨w.heap.size, 0, none⟩) 1 1) 1 [.string g, .int .i64 n] :=
          (Sl.new w #[.string g, .int .i64 n] 37 (n := 1) (size := 2) rfl (by unfold maxLen; omega)).below (((Below.refl (w.heap.size + 1) (w.alloc (.cells #[.string g, .int .i64 n] 37))).alloc (Nat.le_of_eq (World.size_alloc _ _).symm) _).drew)
        have G1 := Lib.hid (show ∀ w1 : World, (w.alloc (.cells #[] 37)).drew.grownBy w1 (some w.heap.size) → Below w.heap.size w w1 from fun w1 hg => bb1.grown hg bb1.size (fun g hg => by cases hg; exact Nat.le_refl _))
        have G2 := Lib.hid (show ∀ w1 : World, ((w.alloc (.cells #[] 37)).alloc (.cells #[.string g, .int .i64 n] 37)).drew.grownBy w1 (some w.heap.size) → Below w.heap.size w w1 ∧ Sl w1 (w.heap.size + 1) (w.heap.size + 1 + 1) 2 (.slice (some ⟨w.heap.size + 1, 0, none⟩) 1 1) 1 [.string g, .int .i64 n] from fun w1 hg => ⟨bb2.grown hg bb2.size (fun g hg => by cases hg; exact Nat.le_refl _), sl2.grown hg (by simp [World.drew]) (fun r hr => by cases hr; exact .inl (Nat.lt_succ_self _))⟩)
        have G3 := Lib.hid (show ∀ w1 : World, ((w.alloc (.cells #[.string g, .int .i64 n] 37)).alloc (.cells #[] 37)).drew.grownBy w1 (some (w.heap.size + 1)) → Below w.heap.size w w1 ∧ Sl w1 w.heap.size (w.heap.size + 1) 2 (.slice (some ⟨w.heap.size, 0, none⟩) 1 1) 1 [.string g, .int .i64 n] from fun w1 hg => ⟨bb3.grown hg bb3.size (fun g hg => by cases hg; exact Nat.le_succ _), sl3.grown hg (by simp [World.drew]) (fun r hr => by cases hr; exact .inr (Nat.le_refl _))⟩)
        have OP := Lib.hid (show ∀ y ∈ (itemCells L : List Value), y.oneCell' = true from (itemCells_one L))
        have OQ := Lib.hid (show ∀ y ∈ (([] : List Value) : List Value), y.oneCell' = true from (by simp))
        have OX := Lib.hid (show ∀ y ∈ ([.string g, .int .i64 n] : List Value), y.oneCell' = true from (by simp [Value.oneCell']))
        have m1 : 0 + (L.length) ≤ maxLen := by unfold maxLen; omega
        have m2 : 0 + (L.length) + 1 ≤ maxLen := by unfold maxLen; omega
        have m3 : 0 + (L.length) + 1 + (0) ≤ maxLen := by unfold maxLen; omega
        have q1 : (0 + (L.length)) * 24 ≤ 140737488355328 := by omega
        have q2 : (0 + (L.length) + 1) * 24 ≤ 140737488355328 := by omega
        have q3 : (0 + (L.length) + 1 + (0)) * 24 ≤ 140737488355328 := by omega
        have M1 := Lib.hid m1; have M2 := Lib.hid m2; have M3 := Lib.hid m3; have Q1 := Lib.hid q1; have Q2 := Lib.hid q2; have Q3 := Lib.hid q3
        have OW1 := Lib.hid own1; have OW2 := Lib.hid own2; have OW3 := Lib.hid own3; have BB1 := Lib.hid bb1; have BB2 := Lib.hid bb2; have BB3 := Lib.hid bb3
        clear m1 m2 m3 q1 q2 q3 own1 own2 own3 bb1 bb2 bb3 sl2 sl3
        go_region_law (first
          | ((with_reducible refine step_append_sl _ (o := ⟨some 50, _, _, _, _, _⟩) ?_ (.tmp 46) (.tmp 49) 30 ?_ w.heap.size 37 i0 _ 2 24 Tryz.underlying30 hi0 hz0 hz1 hz2 ?_ (by omega) _ 0 [] ?_ OW1.out 0 w.heap.size _ ((L.length)) (itemCells L) ?_ (HP.out _ BB1.out) OP.out M1.out Q1.out BB1.out.size ?_)
             rfl; rfl; rfl; (simp [Act.eval]); (simp [Act.eval])
             intro v1 w1 hv1 hg1 hat1
             have hB1 := G1.out _ hg1; clear hg1 hat1)
          | ((with_reducible refine step_append_sl _ (o := ⟨some 50, _, _, _, _, _⟩) ?_ (.tmp 46) (.tmp 49) 30 ?_ w.heap.size 37 i0 _ 2 24 Tryz.underlying30 hi0 hz0 hz1 hz2 ?_ (by omega) _ 0 [] ?_ OW2.out 0 w.heap.size _ ((L.length)) (itemCells L) ?_ (HP.out _ BB2.out) OP.out M1.out Q1.out BB2.out.size ?_)
             rfl; rfl; rfl; (simp [Act.eval]); (simp [Act.eval])
             intro v1 w1 hv1 hg1 hat1
             have hB1 := (G2.out _ hg1).1; have hs54 := (G2.out _ hg1).2; clear hg1 hat1)
          | ((with_reducible refine step_append_sl _ (o := ⟨some 50, _, _, _, _, _⟩) ?_ (.tmp 46) (.tmp 49) 30 ?_ w.heap.size 37 i0 _ 2 24 Tryz.underlying30 hi0 hz0 hz1 hz2 ?_ (by omega) _ 0 [] ?_ OW3.out 0 w.heap.size _ ((L.length)) (itemCells L) ?_ (HP.out _ BB3.out) OP.out M1.out Q1.out BB3.out.size ?_)
             rfl; rfl; rfl; (simp [Act.eval]); (simp [Act.eval])
             intro v1 w1 hv1 hg1 hat1
             have hB1 := (G3.out _ hg1).1; have hs54 := (G3.out _ hg1).2; clear hg1 hat1)
          | ((with_reducible refine step_append_sl _ (o := ⟨some 55, _, _, _, _, _⟩) ?_ (.tmp 50) (.tmp 54) 30 ?_ w.heap.size 37 i0 _ 2 24 Tryz.underlying30 hi0 hz0 hz1 hz2 ?_ (by omega) _ (0 + (L.length)) _ ?_ hv1 _ _ _ 1 [.string g, .int .i64 n] ?_ hs54 OX.out M2.out Q2.out hB1.size ?_)
             rfl; rfl; rfl; (simp [Act.eval]); (simp [Act.eval])
             intro v2 w2 hv2 hg2 hat2
             have hB2 : Below w.heap.size w w2 := hB1.grown hg2 hB1.size (fun g hg => (hv1.lt g hg).1); clear hg2 hat2 hv1 hs54)
          | ((with_reducible refine step_append_sl _ (o := ⟨some 55, _, _, _, _, _⟩) ?_ (.tmp 50) (.tmp 54) 30 ?_ w.heap.size 37 i0 _ 2 24 Tryz.underlying30 hi0 hz0 hz1 hz2 ?_ (by omega) _ (0 + (L.length)) _ ?_ (hv1.alloc _) _ _ _ 1 [.string g, .int .i64 n] ?_ (Sl.new w1 #[.string g, .int .i64 n] 37 (n := 1) (size := 2) rfl (Nat.le_trans (Nat.le_add_left _ _) M2.out)) OX.out M2.out Q2.out (hB1.alloc hB1.size _).size ?_)
             rfl; rfl; rfl; (simp [Act.eval]); (simp [Act.eval])
             intro v2 w2 hv2 hg2 hat2
             have hB2 : Below w.heap.size w w2 := (hB1.alloc hB1.size _).grown hg2 (hB1.alloc hB1.size _).size (fun g hg => (hv1.lt g hg).1); clear hg2 hat2 hv1)
          | ((with_reducible refine step_append_sl _ (o := ⟨some 59, _, _, _, _, _⟩) ?_ (.tmp 55) (.tmp 58) 30 ?_ w.heap.size 37 i0 _ 2 24 Tryz.underlying30 hi0 hz0 hz1 hz2 ?_ (by omega) _ (0 + (L.length) + 1) _ ?_ hv2 0 w.heap.size _ ((0)) (([] : List Value)) ?_ ((fun _ => HQ.out _) hB2) OQ.out M3.out Q3.out hB2.size ?_)
             rfl; rfl; rfl; (simp [Act.eval]); (simp [Act.eval])
             intro v3 w3 hv3 hg3 hat3
             have hB3 : Below w.heap.size w w3 := hB2.grown hg3 hB2.size (fun g hg => (hv2.lt g hg).1); clear hg3 hat3 hv2 hB2))
        all_goals
          rw [show ([] ++ itemCells L ++ [Value.string g, .int .i64 n] ++ []) = itemCells R by rw [HR.out, List.take_length, List.drop_length, itemCells_append, itemCells_append]; rfl, show 0 + L.length + 1 + 0 = R.length by rw [HR.out]; simp] at hv3
          generalize (if c = L.length then (some (⟨b, o, none⟩ : Addr)) else some ⟨b, o + L.length * 2, none⟩) = A58
          obtain ⟨A9, c9, rfl, -⟩ := (ItemsAt.of_own hv3).form
          go_wp2
          go_ret
          exact ⟨⟨_, rfl, hv3⟩, hB3⟩
end It
end Go.Proofs.YtdbkkldgobkjcaaGreat

namespace Go.Proofs.YtdbkkldgobkjcaaGreat
open Go.RowKit Go.Maps
namespace It

def outN (L : List Item) (i : Nat) : List Item := (ksOf ((L.take i).map key)).filterMap (pick L)
theorem outN_sorted (L : List Item) (i : Nat) : (outN L i).Pairwise fun a b => key a < key b := by
  unfold outN
  rw [List.pairwise_filterMap]
  refine (ksOf_sorted ((L.take i).map key)).imp_of_mem fun {a b} _ _ h x hx y hy => ?_
  rw [(pick_some hx).1, (pick_some hy).1]
  exact h
theorem outN_mem (L : List Item) (i : Nat) (x : Item) : x ∈ outN L i ↔ key x ∈ (L.take i).map key ∧ x.2 = tot (key x) L ∧ 0 < x.2 := by
  unfold outN
  rw [List.mem_filterMap]
  constructor
  · rintro ⟨k, hk, hx⟩
    obtain ⟨rfl, h2, h3⟩ := pick_some hx
    exact ⟨(ksOf_mem _ _).1 hk, h2, h3⟩
  · rintro ⟨h1, h2, h3⟩
    refine ⟨key x, (ksOf_mem _ _).2 h1, ?_⟩
    unfold pick
    rw [← h2, if_pos h3, ← item_eta]
theorem outN_len (L : List Item) (i : Nat) : (outN L i).length ≤ i := by
  refine Nat.le_trans (List.length_filterMap_le _ _) ?_
  have h : ∀ l : List Bs, (ksOf l).length ≤ l.length := by
    intro l
    induction l with
    | nil => simp [ksOf]
    | cons y l ih =>
      have hk : ∀ (k : Bs) (r : List Bs), (insK k r).length ≤ r.length + 1 := by
        intro k r
        induction r with
        | nil => simp [insK]
        | cons z r ih => unfold insK; split; · simp
                         split; · simp
                         simp only [List.length_cons]; omega
      have := hk y (ksOf l)
      unfold ksOf at ih this ⊢
      rw [List.foldr_cons, List.length_cons]
      omega
  refine Nat.le_trans (h _) ?_
  rw [List.length_map, List.length_take]
  omega
theorem outN_put {L : List Item} {i : Nat} (h : i < L.length) (ht : 0 < tot (key L[i]) L) : putL L[i].1 (tot (key L[i]) L) (outN L i) = outN L (i + 1) := by
  refine uniq (r := fun a b : Item => key a < key b) (fun _ => bs_irr _) (fun _ _ => bs_asy _ _) (putL_sorted _ _ _ (outN_sorted L i)) (outN_sorted L (i + 1)) fun x => ?_
  rw [putL_mem _ _ _ _ (outN_sorted L i), outN_mem, outN_mem, List.take_succ_eq_append_getElem h, List.map_append, List.mem_append, List.map_singleton, List.mem_singleton]
  have hk : L[i].1.data.toList = key L[i] := rfl
  rw [hk]
  constructor
  · rintro (rfl | ⟨⟨h1, h2, h3⟩, _⟩)
    · exact ⟨.inr rfl, rfl, ht⟩
    · exact ⟨.inl h1, h2, h3⟩
  · rintro ⟨h1, h2, h3⟩
    by_cases e : key x = key L[i]
    · left
      refine key_item _ _ e ?_
      rw [h2, e]
    · exact .inr ⟨⟨h1.resolve_right e, h2, h3⟩, e⟩
theorem outN_skip {L : List Item} {i : Nat} (h : i < L.length) (ht : ¬ 0 < tot (key L[i]) L) : outN L (i + 1) = outN L i := by
  refine uniq (r := fun a b : Item => key a < key b) (fun _ => bs_irr _) (fun _ _ => bs_asy _ _) (outN_sorted L (i + 1)) (outN_sorted L i) fun x => ?_
  rw [outN_mem, outN_mem, List.take_succ_eq_append_getElem h, List.map_append, List.mem_append, List.map_singleton, List.mem_singleton]
  constructor
  · rintro ⟨h1, h2, h3⟩
    refine ⟨h1.resolve_right fun e => ht ?_, h2, h3⟩
    rw [← e, ← h2]; exact h3
  · rintro ⟨h1, h2, h3⟩
    exact ⟨.inl h1, h2, h3⟩
theorem outN_all (L : List Item) : outN L L.length = normL L := by unfold outN normL; rw [List.take_length]
theorem tot_take_le {L : List Item} (h : L.all okC = true) (k : Bs) (j : Nat) : 0 ≤ tot k (L.take j) ∧ tot k (L.take j) ≤ tot k L := by
  have h1 : (L.take j).all okC = true := all_prefix (List.take_prefix _ _) h
  have h2 : (L.drop j).all okC = true := by
    rw [← List.take_append_drop j L, List.all_append, Bool.and_eq_true] at h
    exact h.2
  have h3 := tot_append k (L.take j) (L.drop j)
  rw [List.take_append_drop] at h3
  have := tot_nonneg k _ h1
  have := tot_nonneg k _ h2
  omega
theorem okC_false {L : List Item} {i : Nat} (h : i < L.length) (hf : okC L[i] = false) : L.all okC = false := by
  rw [List.all_eq_false]
  exact ⟨L[i], List.getElem_mem h, by simp [hf]⟩

theorem own_form {w : World} {lo : Nat} {e : TypeId} {size n : Nat} {v : Value} {xs : List Value} (h : w.ownsRow lo e size v n xs) : v = .slice none 0 0 ∨ ∃ b o n c, v = .slice (some ⟨b, o, none⟩) n c := by
  rcases h.2 with ⟨rfl, _⟩ | ⟨g, cap, cur, rfl, _⟩
  · rcases Nat.eq_zero_or_pos n with h0 | h0
    · exact .inl rfl
    · exact .inl rfl
  · exact .inr ⟨_, _, _, _, rfl⟩

set_option maxRecDepth 100000 in
set_option maxHeartbeats 8000000 in
theorem refnorm_calls (L : List Item) (v : Value) (w : World) (hI : ItemsAt w 0 w.heap.size v L) (hF : Fits L) (hL : L.length ≤ 1000000) :
    Calls Tryz.prog 93 #[v] w fun e w' =>
      (∃ u, e = .returned (.tuple #[u, .int .i64 (normRes L).2]) ∧ w'.ownsRow w.heap.size 37 2 u (normRes L).1.length (itemCells (normRes L).1)) ∧ Below w.heap.size w w' := by
  obtain ⟨A, c, rfl, hc1, hc2⟩ := hI.form
  unfold maxLen at hc2
  have hmx : Tryz.prog.follows .mixedOrders = true := by kernel_rfl
  have HR := Lib.hid (show normRes L = if sumsCode L = 0 then (if (normL L).length ≤ 16 then (normL L, 0) else ([], 3)) else ([], sumsCode L) from rfl)
  have HC := Lib.hid (show sumsCode L = if L.all okC then (if over L then 50 else 0) else 60 from rfl)
  generalize normRes L = NR at *
  go_enter Tryz.func93, Tryz.ntmps93
  go_wp2
  go_loop [4] (fun i => ∃ k : Nat, k ≤ L.length ∧ i = .int .i64 k ∧ (L.take k).all okC = true) (fun i => L.length - (intOf i).toNat)
  case atStart => exact ⟨0, by omega, rfl, rfl⟩
  case round =>
    obtain ⟨k, hk, rfl, hm⟩ := hrel
    by_cases hlt : k < L.length
    · obtain ⟨b, o, rfl, -, hb, g1, g2⟩ := hI.cellAt hlt
      have hfit := hF _ (List.getElem_mem hlt)
      have hd : decide ((k : Int) < (L.length : Int)) = true := by simp; omega
      have HS := Lib.hid (show (L.take (k + 1)).all okC = okC L[k] by rw [List.take_succ_eq_append_getElem hlt, all_snoc, hm, Bool.true_and])
      have HN := Lib.hid (fun h => okC_false hlt h)
      clear hm
      generalize L[k] = x at *
      obtain ⟨xs, xn⟩ := x
      dsimp only at g1 g2 hfit
      have HO := Lib.hid (show okC (xs, xn) = (good xs && countOk xn) from rfl)
      have cG := Lib.hid (fun W => refgood_calls xs W hfit.1)
      have cN := Lib.hid (fun W => refcount_calls xn W)
      generalize good xs = g at *
      generalize countOk xn = cn at *
      cases g
      · obtain rfl : NR = ([], 60) := by rw [HR.out, HC.out, HN.out (by rw [HO.out]; rfl)]; rfl
        go_wp2_with (first
          | (go_at_call 89; refine (cG.out _).mono ?_; rintro e W2 ⟨rfl, rfl⟩)
          | (go_at_call 90; refine (cN.out _).mono ?_; rintro e W2 ⟨rfl, rfl⟩))
        go_ret2
        exact ⟨⟨_, rfl, World.ownsRow_nil _ _ _ _⟩, Below.refl _ _⟩
      · cases cn
        · obtain rfl : NR = ([], 60) := by rw [HR.out, HC.out, HN.out (by rw [HO.out]; rfl)]; rfl
          go_wp2_with (first
            | (go_at_call 89; refine (cG.out _).mono ?_; rintro e W2 ⟨rfl, rfl⟩)
            | (go_at_call 90; refine (cN.out _).mono ?_; rintro e W2 ⟨rfl, rfl⟩))
          go_ret2
          exact ⟨⟨_, rfl, World.ownsRow_nil _ _ _ _⟩, Below.refl _ _⟩
        · have HS2 := Lib.hid (show (L.take (k + 1)).all okC = true by rw [HS.out, HO.out]; rfl)
          go_wp2_with (first
            | (go_at_call 89; refine (cG.out _).mono ?_; rintro e W2 ⟨rfl, rfl⟩)
            | (go_at_call 90; refine (cN.out _).mono ?_; rintro e W2 ⟨rfl, rfl⟩))
          go_round
          case rel => exact ⟨k + 1, by omega, by go_num, HS2.out⟩
          case measure => simp [intOf]; omega
    · obtain rfl : k = L.length := by omega
      rw [List.take_length] at hm
      have HA := Lib.hid hm
      have HT := Lib.hid (fun (q : Bs) (j : Nat) => tot_take_le hm q j)
      have HP := Lib.hid (fun (i : Nat) (h : i < L.length) (ht : 0 < tot (key L[i]) L) => outN_put h ht)
      have HK := Lib.hid (fun (i : Nat) (h : i < L.length) (ht : ¬ 0 < tot (key L[i]) L) => outN_skip h ht)
      have HOL := Lib.hid (fun i => outN_len L i)
      clear hm
      go_wp2
      go_loopw [5, 6, 7, 8] (fun o i _ _ wr => ∃ k : Nat, k ≤ L.length ∧ i = .int .i64 k ∧ (∀ j (h : j < L.length), j < k → tot (key L[j]) L ≤ 1099511627776) ∧ wr.ownsRow w.heap.size 37 2 o (outN L k).length (itemCells (outN L k)) ∧ Below w.heap.size w wr) (fun _ i _ _ _ => L.length - (intOf i).toNat)
      case atStart => exact ⟨0, by omega, rfl, fun j _ h => by omega, World.ownsRow_nil _ _ _ _, Below.refl _ _⟩
      case round =>
        obtain ⟨i, hi, rfl, hov, hown, hB⟩ := hrel
        by_cases hil : i < L.length
        · have hdi : decide ((i : Int) < (L.length : Int)) = true := by simp; omega
          have HOV := Lib.hid hov
          have HTK := Lib.hid (fun j => HT.out (key L[i]) j)
          have HOT := Lib.hid (HOL.out i)
          clear hov
          obtain ⟨wo, rfl⟩ : ∃ wo : World, wo = wr := ⟨_, rfl⟩
          go_wp2
          go_loopw [7, 8] (fun t q wr => ∃ j : Nat, j ≤ L.length ∧ q = .int .i64 j ∧ t = .int .i64 (tot (key L[i]) (L.take j)) ∧ tot (key L[i]) (L.take j) ≤ 1099511627776 ∧ Below wo.heap.size wo wr) (fun _ q _ => L.length - (intOf q).toNat)
          case atStart => exact ⟨0, by omega, rfl, rfl, by simp [tot], Below.refl _ _⟩
          case round =>
            obtain ⟨j, hj, rfl, rfl, hjt, hBj⟩ := hrel
            by_cases hjl : j < L.length
            · have hdj : decide ((j : Int) < (L.length : Int)) = true := by simp; omega
              have hIr := (hI.mono hB hB.size).mono hBj hBj.size
              obtain ⟨b, o, rfl, -, hb, g1, g2⟩ := hIr.cellAt hjl
              obtain ⟨b', o', e, -, hb', g3, -⟩ := hIr.cellAt hil
              cases e
              have hokj := (okC_le (x := L[j]) (List.all_eq_true.1 HA.out _ (List.getElem_mem hjl)))
              have HS := Lib.hid (show tot (key L[i]) (L.take (j + 1)) = tot (key L[i]) (L.take j) + (if key L[j] = key L[i] then L[j].2 else 0) by rw [List.take_succ_eq_append_getElem hjl, tot_snoc])
              have HLE := Lib.hid (HTK.out (j + 1))
              have HGE := HTK.out j
              have hgt := HGE.1
              have HOver := Lib.hid (show 1099511627776 < tot (key L[i]) (L.take (j + 1)) → over L = true from fun h => by
                refine List.any_eq_true.2 ⟨L[i], List.getElem_mem hil, ?_⟩
                rw [decide_eq_true_iff]
                have := HLE.out
                omega)
              clear HGE HTK
              generalize hti : tot (key L[i]) (L.take j) = t at *
              have hks : (L[j].1.toList == L[i].1.toList) = decide (key L[j] = key L[i]) := by
                rw [toList_key, toList_key]
                exact Bool.eq_iff_iff.2 (by simp [key])
              clear hti
              generalize ht1 : tot (key L[i]) (L.take (j + 1)) = t1 at *
              generalize L[i].1 = ys at *
              generalize key L[i] = ki at *
              have HT1 := Lib.hid ht1
              clear ht1
              generalize hxj : L[j] = x at *
              obtain ⟨xs, xn⟩ := x
              dsimp only at g1 g2 hokj hks
              by_cases hkk : key (xs, xn) = ki
              · rw [decide_eq_true hkk] at hks
                have HS2 := Lib.hid (show t1 = t + xn by rw [HS.out, if_pos hkk])
                clear HS hkk
                by_cases hov : 1099511627776 < t + xn
                · have hdo : decide (1099511627776 < t + xn) = true := by simpa using hov
                  obtain rfl : NR = ([], 50) := by rw [HR.out, HC.out, HA.out, HOver.out (by rw [HS2.out]; exact hov)]; rfl
                  go_wp2_with fail
                  refine Pu.regionW (fun W' => Below wr.drew.heap.size wr.drew W') hmx (by kernel_rfl) (by kernel_rfl) (Below.refl _ _) rfl ?_
                  iterate 11 (first
                    | (refine Pu.Walk.off (by rfl) ?_; simp only [Act.put, List.setIfInBounds_toArray, List.set_cons_succ, List.set_cons_zero])
                    | (apply Pu.Walk.on (by rfl)
                       · intro W1 h1
                         have g1a : W1.cell? ⟨b, o + j * 2, none⟩ = some (.string xs) := (Below.cell (p := ⟨b, o + j * 2, none⟩) h1 hb).trans g1
                         have g3a : W1.cell? ⟨b, o + i * 2, none⟩ = some (.string ys) := (Below.cell (p := ⟨b, o + i * 2, none⟩) h1 hb).trans g3
                         go_wp2_with fail
                         refine ⟨rfl, ?_, h1⟩
                         try simp only [Act.put, List.setIfInBounds_toArray, List.set_cons_succ, List.set_cons_zero]
                         rfl
                       simp only [Act.put, List.setIfInBounds_toArray, List.set_cons_succ, List.set_cons_zero]))
                  refine Pu.Walk.nil (fun W1 h1 => ?_)
                  have g2a : W1.cell? ⟨b, o + j * 2 + 1, none⟩ = some (.int .i64 xn) := (Below.cell (p := ⟨b, o + j * 2 + 1, none⟩) h1 hb).trans g2
                  have hBj1 : Below wo.heap.size wo W1 := (hBj.trans ((Below.refl wo.heap.size wr).drew)).trans (h1.mono hBj.size)
                  clear g1 g2 g3
                  go_wp2
                  go_ret2
                  exact ⟨⟨_, rfl, World.ownsRow_nil _ _ _ _⟩, hB.trans (hBj1.mono hB.size)⟩
                · have hdo : decide (1099511627776 < t + xn) = false := by simpa using hov
                  go_wp2_with fail
                  refine Pu.regionW (fun W' => Below wr.drew.heap.size wr.drew W') hmx (by kernel_rfl) (by kernel_rfl) (Below.refl _ _) rfl ?_
                  iterate 11 (first
                    | (refine Pu.Walk.off (by rfl) ?_; simp only [Act.put, List.setIfInBounds_toArray, List.set_cons_succ, List.set_cons_zero])
                    | (apply Pu.Walk.on (by rfl)
                       · intro W1 h1
                         have g1a : W1.cell? ⟨b, o + j * 2, none⟩ = some (.string xs) := (Below.cell (p := ⟨b, o + j * 2, none⟩) h1 hb).trans g1
                         have g3a : W1.cell? ⟨b, o + i * 2, none⟩ = some (.string ys) := (Below.cell (p := ⟨b, o + i * 2, none⟩) h1 hb).trans g3
                         go_wp2_with fail
                         refine ⟨rfl, ?_, h1⟩
                         try simp only [Act.put, List.setIfInBounds_toArray, List.set_cons_succ, List.set_cons_zero]
                         rfl
                       simp only [Act.put, List.setIfInBounds_toArray, List.set_cons_succ, List.set_cons_zero]))
                  refine Pu.Walk.nil (fun W1 h1 => ?_)
                  have g2a : W1.cell? ⟨b, o + j * 2 + 1, none⟩ = some (.int .i64 xn) := (Below.cell (p := ⟨b, o + j * 2 + 1, none⟩) h1 hb).trans g2
                  have hBj1 : Below wo.heap.size wo W1 := (hBj.trans ((Below.refl wo.heap.size wr).drew)).trans (h1.mono hBj.size)
                  clear g1 g2 g3
                  have HLV := Lib.hid (show t1 ≤ 1099511627776 by rw [HS2.out]; omega)
                  clear hov
                  go_wp2
                  go_roundw
                  case rel => exact ⟨j + 1, by omega, by go_num, by rw [HT1.out, HS2.out], by rw [HT1.out]; exact HLV.out, hBj1⟩
                  case measure => simp [intOf]; omega
              · rw [decide_eq_false hkk] at hks
                have HS2 := Lib.hid (show t1 = t by rw [HS.out, if_neg hkk, Int.add_zero])
                clear HS hkk
                go_wp2_with fail
                refine Pu.regionW (fun W' => Below wr.drew.heap.size wr.drew W') hmx (by kernel_rfl) (by kernel_rfl) (Below.refl _ _) rfl ?_
                iterate 11 (first
                  | (refine Pu.Walk.off (by rfl) ?_; simp only [Act.put, List.setIfInBounds_toArray, List.set_cons_succ, List.set_cons_zero])
                  | (apply Pu.Walk.on (by rfl)
                     · intro W1 h1
                       have g1a : W1.cell? ⟨b, o + j * 2, none⟩ = some (.string xs) := (Below.cell (p := ⟨b, o + j * 2, none⟩) h1 hb).trans g1
                       have g3a : W1.cell? ⟨b, o + i * 2, none⟩ = some (.string ys) := (Below.cell (p := ⟨b, o + i * 2, none⟩) h1 hb).trans g3
                       go_wp2_with fail
                       refine ⟨rfl, ?_, h1⟩
                       try simp only [Act.put, List.setIfInBounds_toArray, List.set_cons_succ, List.set_cons_zero]
                       rfl
                     simp only [Act.put, List.setIfInBounds_toArray, List.set_cons_succ, List.set_cons_zero]))
                refine Pu.Walk.nil (fun W1 h1 => ?_)
                have g2a : W1.cell? ⟨b, o + j * 2 + 1, none⟩ = some (.int .i64 xn) := (Below.cell (p := ⟨b, o + j * 2 + 1, none⟩) h1 hb).trans g2
                have hBj1 : Below wo.heap.size wo W1 := (hBj.trans ((Below.refl wo.heap.size wr).drew)).trans (h1.mono hBj.size)
                clear g1 g2 g3
                go_wp2
                go_roundw
                case rel => exact ⟨j + 1, by omega, by go_num, by rw [HT1.out, HS2.out], by rw [HT1.out, HS2.out]; exact hjt, hBj1⟩
                case measure => simp [intOf]; omega
            · obtain rfl : j = L.length := by omega
              have hdj : decide ((L.length : Int) < (L.length : Int)) = false := by simp
              simp only [List.take_length] at hjt ⊢
              have hOV2 := Lib.hid (show ∀ j (h : j < L.length), j < i + 1 → tot (key L[j]) L ≤ 1099511627776 from fun j h hj => by
                rcases Nat.lt_or_ge j i with h1 | h1
                · exact HOV.out j h h1
                · obtain rfl : j = i := by omega
                  exact hjt)
              have hPi := Lib.hid (HP.out i hil)
              have hKi := Lib.hid (HK.out i hil)
              have hown1 := row_below hown hBj
              have hB1 := hB.trans (hBj.mono hB.size)
              have hIr := hI.mono hB1 hB1.size
              obtain ⟨b, o, rfl, -, hb, g1, -⟩ := hIr.cellAt hil
              have hform := own_form hown1
              have cP := Lib.hid (fun (W : World) h1 => refput_calls (outN L i) L[i].1 (tot (key L[i]) L) u5 W h1 hform (by have := HOT.out; omega))
              clear hform hown
              generalize tot (key L[i]) L = t at *
              generalize L[i].1 = ys at *
              generalize outN L i = S at *
              generalize hS' : outN L (i + 1) = S' at *
              have HS' := Lib.hid hS'
              clear hS'
              by_cases ht : 0 < t
              · have hdt : decide (0 < t) = true := by simpa using ht
                have HPP := Lib.hid (hPi.out ht)
                rw [HPP.out] at cP
                clear ht HPP
                go_wp2_with (go_at_call 120; refine (cP.out _ ((ItemsAt.of_own hown1).wide (Nat.zero_le _) (Nat.le_refl _))).mono ?_; rintro e W2 ⟨⟨u, rfl, hu⟩, h2⟩)
                go_roundw
                case rel => exact ⟨i + 1, by omega, by go_num, hOV2.out, by rw [HS'.out]; exact ownsRow_wide hu hB1.size, hB1.trans (h2.mono hB1.size)⟩
                case measure => simp [intOf]; omega
              · have hdt : decide (0 < t) = false := by simpa using ht
                have HKK := Lib.hid (show S' = S from hKi.out (by omega))
                clear ht
                go_wp2
                go_roundw
                case rel => exact ⟨i + 1, by omega, by go_num, hOV2.out, by rw [HS'.out, HKK.out]; exact hown1, hB1⟩
                case measure => simp [intOf]; omega
        · obtain rfl : i = L.length := by omega
          have hdi : decide ((L.length : Int) < (L.length : Int)) = false := by simp
          have hno : over L = false := by
            cases h : over L with
            | false => rfl
            | true =>
              obtain ⟨x, hx, hd⟩ := List.any_eq_true.1 h
              obtain ⟨j, hj, rfl⟩ := List.getElem_of_mem hx
              rw [decide_eq_true_iff] at hd
              have := hov j hj hj
              omega
          have hlen := HOL.out L.length
          rw [outN_all] at hown hlen
          have HR2 := Lib.hid (show NR = if (normL L).length ≤ 16 then (normL L, 0) else ([], 3) by rw [HR.out, HC.out, HA.out, hno]; rfl)
          clear hno hov HR
          generalize normL L = O at *
          obtain ⟨A5, c5, rfl, -⟩ := (ItemsAt.of_own hown).form
          by_cases h16 : O.length ≤ 16
          · obtain rfl : NR = (O, 0) := by rw [HR2.out, if_pos h16]
            have hd : decide ((O.length : Int) > 16) = false := by simp; omega
            go_wp2
            go_ret2
            exact ⟨⟨_, rfl, hown⟩, hB⟩
          · obtain rfl : NR = ([], 3) := by rw [HR2.out, if_neg h16]
            have hd : decide ((O.length : Int) > 16) = true := by simp; omega
            go_wp2
            go_ret2
            exact ⟨⟨_, rfl, World.ownsRow_nil _ _ _ _⟩, hB⟩
end It
end Go.Proofs.YtdbkkldgobkjcaaGreat

namespace Go.Proofs.YtdbkkldgobkjcaaGreat
open Go.RowKit Go.Maps
namespace It
attribute [local go_sem] Oper.semAt_some

theorem eql_nil (b : Nat) (w : World) : (binOp .eql 145 (.func (.func 117) #[] #[.pointer (some ⟨b, 0, none⟩)]) .nilFunc).run Tryz.prog w = .ok (.bool false) w := by kernel_rfl

/-- how far a walk goes that stops at so many -/
def upTo (most : Int) (L : List Item) : List Item := if 1 ≤ most ∧ most ≤ L.length then L.take most.toNat else L

end It
end Go.Proofs.YtdbkkldgobkjcaaGreat

namespace Go.Proofs.YtdbkkldgobkjcaaGreat
open Go.RowKit Go.Maps
namespace It

set_option maxHeartbeats 400000 in
theorem refrest_calls (a b : List Item) (va vb : Value) (w : World) (ha : ItemsAt w 0 w.heap.size va a) (hb : ItemsAt w 0 w.heap.size vb b) (hla : a.length ≤ 1000000) :
    Calls Tryz.prog 23 #[va, vb] w fun e w' =>
      (∃ v, e = .returned v ∧ w'.ownsRow w.heap.size 37 2 v (eachL restF a b).length (itemCells (eachL restF a b))) ∧ Below w.heap.size w w' := by
  have cE := Lib.hid (refboth_calls 2 restF (.inr ⟨rfl, rfl⟩) a b va vb w ha hb hla)
  obtain ⟨A, c, rfl, -⟩ := ha.form
  obtain ⟨A', c', rfl, -⟩ := hb.form
  generalize eachL restF a b = R at *
  go_enter Tryz.func23, Tryz.ntmps23
  go_wp2_with fail
  refine cE.out.mono ?_
  rintro e w1 ⟨⟨v, rfl, h1⟩, h2⟩
  obtain ⟨A1, c1, rfl, -⟩ := (ItemsAt.of_own h1).form
  go_wp2
  go_ret
  exact ⟨⟨_, rfl, h1⟩, h2⟩

theorem M.fits {l : List Item} (h : M l) : Fits l := fun x hx => by
  have h1 := h.ok x hx
  have h2 := h1.1
  unfold good at h2
  simp only [Bool.and_eq_true, decide_eq_true_eq] at h2
  refine ⟨Nat.le_trans h2.2 (by unfold maxLen; omega), by omega, by omega⟩

end It
end Go.Proofs.YtdbkkldgobkjcaaGreat

namespace Go.Proofs.YtdbkkldgobkjcaaGreat
open Go.RowKit Go.Maps
namespace Pc
open It Mv

theorem within_doc {all a b : List It.Item} (hall : M all) (ha : M a) (hb : M b) : withinOf all a b = if (normRes (a ++ b)).2 = 0 ∧ (eachL restF (normRes (a ++ b)).1 all).length = 0 then ((normRes (a ++ b)).1, 0) else ([], 50) := by
  have e1 : plusOf a b = normRes (a ++ b) := by
    unfold plusOf
    rw [(may_iff a).2 ha, (may_iff b).2 hb]
    rfl
  unfold withinOf
  rw [e1]
  by_cases h : (normRes (a ++ b)).2 = 0
  · have hM := normRes_M h
    have e2 : covers all (normRes (a ++ b)).1 = ((eachL restF (normRes (a ++ b)).1 all).length == 0) := by
      unfold covers
      rw [(may_iff all).2 hall, (may_iff _).2 hM, both_of hM hall]
      rfl
    rw [e2]
    simp [h]
  · rw [if_neg (fun hh => h hh.1), if_neg (fun hh => h hh.1)]

set_option maxRecDepth 100000 in
set_option maxHeartbeats 4000000 in
theorem refwithin_calls (all a b : List It.Item) (v va vb : Value) (w : World) (h : ItemsAt w 0 w.heap.size v all) (ha : ItemsAt w 0 w.heap.size va a) (hb : ItemsAt w 0 w.heap.size vb b) (hM : M all) (hMa : M a) (hMb : M b) :
    Calls Tryz.prog 49 #[v, va, vb] w fun e w' =>
      (∃ u, e = .returned (.tuple #[u, .bool (decide ((withinOf all a b).2 = 0))]) ∧ w'.ownsRow w.heap.size 37 2 u (withinOf all a b).1.length (itemCells (withinOf all a b).1)) ∧ Below w.heap.size w w' := by
  obtain ⟨i0, hi0, hz0⟩ := Option.map_eq_some_iff.1 item_info
  simp only [Prod.mk.injEq] at hz0
  obtain ⟨hz0, hz1, hz2⟩ := hz0
  have HW := Lib.hid (within_doc hM hMa hMb)
  have hla := hMa.len
  have hlb := hMb.len
  have HA := Lib.hid ha
  have HB := Lib.hid hb
  have HV := Lib.hid h
  have HFa := Lib.hid (Fits.append (fits_of hMa) (fits_of hMb))
  have HMR := Lib.hid (fun hh : (normRes (a ++ b)).2 = 0 => (normRes_M hh).len)
  generalize withinOf all a b = R at *
  obtain ⟨A, c, rfl, -⟩ := h.form
  obtain ⟨Aa, ca, rfl, hca1, hca2⟩ := ha.form
  obtain ⟨Ab, cb, rfl, hcb1, hcb2⟩ := hb.form
  unfold maxLen at hca2 hcb2
  have hbE := (Below.refl w.heap.size w).alloc (Nat.le_refl _) (.cells #[] 37)
  have hownE := World.ownsRow_lit (e := 37) (size := 2) (base := w.heap.size) w #[] 0 (Nat.le_refl _) (Nat.zero_le _) rfl
  clear h ha hb hM hMa hMb
  go_enter Tryz.func49, Tryz.ntmps49
  go_wp2_with (at_builtin; first
    | (refine wpList_append_sl _ rfl (.tmp 11) (.tmp 12) _ rfl w.heap.size 37 i0 _ 2 24 Tryz.underlying30 hi0 hz0 hz1 hz2 rfl (by omega) (.slice (some ⟨w.heap.size, 0, none⟩) 0 0) 0 [] rfl hownE 0 w.heap.size _ a.length (itemCells a) rfl (Sl.below HA.out hbE) (itemCells_one a) (by unfold maxLen; omega) (by omega) (by simp) ?_; intro v1 w1 hv1 hg1 hat1; have hv1' : w1.ownsRow w.heap.size 37 2 v1 a.length (itemCells a) := (by simpa using hv1); have hb1 := hbE.grown hg1 hbE.size (fun g hg => (hownE.lt g hg).1); clear hv1 hg1 hat1)
    | (refine wpList_append_sl _ rfl (.tmp 13) (.tmp 14) _ rfl w.heap.size 37 i0 _ 2 24 Tryz.underlying30 hi0 hz0 hz1 hz2 rfl (by omega) v1 a.length (itemCells a) rfl hv1' 0 w.heap.size _ b.length (itemCells b) rfl (Sl.below HB.out hb1) (itemCells_one b) (by unfold maxLen; omega) (by omega) hb1.size ?_; intro v2 w2 hv2 hg2 hat2; have hv2' : w2.ownsRow w.heap.size 37 2 v2 (a ++ b).length (itemCells (a ++ b)) := (by rw [List.length_append, itemCells_append]; exact hv2); have hb2 := hb1.grown hg2 hb1.size (fun g hg => (hv1'.lt g hg).1); clear hv2 hg2 hat2))
  have cN := Lib.hid (refnorm_calls (a ++ b) v2 w2 (toAt hv2') HFa.out (by rw [List.length_append]; omega))
  generalize normRes (a ++ b) = S at *
  obtain ⟨sl, sc⟩ := S
  dsimp only at cN HW HMR
  refine cN.out.mono ?_
  rintro e W ⟨⟨vs, rfl, hs⟩, hb3⟩
  have hbW := hb2.trans (hb3.mono hb2.size)
  have HS := Lib.hid (ownsRow_wide hs hb2.size)
  obtain ⟨As, cs, rfl, -⟩ := (toAt hs).form
  by_cases hc : sc = 0
  · subst hc
    have cR := Lib.hid (refrest_calls sl all _ _ W (toAt hs) (HV.out.mono hbW hbW.size) (by have := HMR.out rfl; omega))
    clear hs cN
    go_wp2_with fail
    refine cR.out.mono ?_
    rintro e W2 ⟨⟨u, rfl, hu⟩, hb4⟩
    have hbW2 := hbW.trans (hb4.mono hbW.size)
    obtain ⟨Au, cu, rfl, -⟩ := (toAt hu).form
    by_cases hl : (eachL restF sl all).length = 0
    · obtain rfl : R = (sl, 0) := by rw [HW.out, if_pos ⟨trivial, hl⟩]
      rw [hl]
      clear hu hl
      go_wp2
      go_ret2
      exact ⟨⟨_, rfl, row_below HS.out hb4⟩, hbW2⟩
    · obtain rfl : R = ([], 50) := by rw [HW.out, if_neg (fun h => hl h.2)]
      have hl2 : 0 < (eachL restF sl all).length := by omega
      have hd : decide (((eachL restF sl all).length : Int) > 0) = true := by simp; omega
      generalize (eachL restF sl all).length = n at *
      clear hu hl
      go_wp2
      go_ret2
      exact ⟨⟨_, rfl, World.ownsRow_nil _ _ _ _⟩, hbW2⟩
  · obtain rfl : R = ([], 50) := by rw [HW.out, if_neg (fun h => hc h.1)]
    have hcb : (sc != 0) = true := by simpa using hc
    clear hs cN
    go_wp2
    go_ret2
    exact ⟨⟨_, rfl, World.ownsRow_nil _ _ _ _⟩, hbW⟩
end Pc
end Go.Proofs.YtdbkkldgobkjcaaGreat
