/-
  the document's answers on items: put.
-/
import Derived.Test.YtdbkkldgobkjcaaItQ
import Derived.Test.YtdbkkldgobkjcaaReg
import Derived.Laws.OwnMore
import Derived.Deep.AppendLies
namespace Go.Proofs.Ytdbkkldgobkjcaa
open Go.RowKit Go.Maps
namespace It

def putL (g : ByteArray) (n : Int) : List Item → List Item
  | [] => [(g, n)]
  | x :: r => if key x < g.data.toList then x :: putL g n r else if key x = g.data.toList then (x.1, n) :: r else (g, n) :: x :: r
theorem putL_new (g : ByteArray) (n : Int) : ∀ (l : List Item) (j : Nat), (∀ i (h : i < l.length), i < j → key l[i] < g.data.toList) → j ≤ l.length → (∀ h : j < l.length, ¬ key l[j] < g.data.toList ∧ key l[j] ≠ g.data.toList) →
    putL g n l = l.take j ++ [(g, n)] ++ l.drop j
  | [], j, _, hj, _ => by simp at hj; subst hj; rfl
  | x :: r, 0, _, _, h => by
    have := h (by simp)
    simp only [List.getElem_cons_zero] at this
    simp [putL, this.1, this.2]
  | x :: r, j + 1, h1, hj, h => by
    have h0 := h1 0 (by simp) (by omega)
    simp only [List.getElem_cons_zero] at h0
    unfold putL
    rw [if_pos h0, putL_new g n r j (fun i hi hij => h1 (i + 1) (by simpa using hi) (by omega)) (by simpa using hj) (fun hh => h (by simpa using hh))]
    rfl
theorem putL_set (g : ByteArray) (n : Int) : ∀ (l : List Item) (j : Nat), (∀ i (h : i < l.length), i < j → key l[i] < g.data.toList) → (h : j < l.length) → key l[j] = g.data.toList →
    putL g n l = l.set j (l[j].1, n)
  | [], j, _, hj, _ => absurd hj (by simp)
  | x :: r, 0, _, _, h => by
    simp only [List.getElem_cons_zero] at h
    unfold putL
    rw [if_neg (by rw [h]; exact bs_irr _), if_pos h]
    rfl
  | x :: r, j + 1, h1, hj, h => by
    have h0 := h1 0 (by simp) (by omega)
    simp only [List.getElem_cons_zero] at h0
    unfold putL
    rw [if_pos h0, putL_set g n r j (fun i hi hij => h1 (i + 1) (by simpa using hi) (by omega)) (by simpa using hj) (by simpa using h)]
    rfl
theorem putL_len (g : ByteArray) (n : Int) : ∀ l : List Item, (putL g n l).length ≤ l.length + 1
  | [] => by simp [putL]
  | x :: r => by
    unfold putL
    split
    · have := putL_len g n r; simp; omega
    · split <;> simp
theorem putL_mem (g : ByteArray) (n : Int) (x : Item) : ∀ l : List Item, l.Pairwise (fun a b => key a < key b) → (x ∈ putL g n l ↔ x = (g, n) ∨ (x ∈ l ∧ key x ≠ g.data.toList))
  | [], _ => by simp [putL]
  | y :: r, h => by
    have h' := List.pairwise_cons.1 h
    have hg : key ((g, n) : Item) = g.data.toList := rfl
    unfold putL
    split
    · rename_i hy
      have hne : key y ≠ g.data.toList := fun e => by rw [e] at hy; exact bs_irr _ hy
      rw [List.mem_cons, putL_mem g n x r h'.2, List.mem_cons]
      constructor
      · rintro (rfl | h | h)
        · exact .inr ⟨.inl rfl, hne⟩
        · exact .inl h
        · exact .inr ⟨.inr h.1, h.2⟩
      · rintro (h | ⟨rfl | h, h2⟩)
        · exact .inr (.inl h)
        · exact .inl rfl
        · exact .inr (.inr ⟨h, h2⟩)
    · have hr : ∀ z ∈ r, key z ≠ g.data.toList ∨ key y < g.data.toList := fun z hz => by
        by_cases hy : key y < g.data.toList
        · exact .inr hy
        · refine .inl fun e => hy ?_
          have := h'.1 z hz
          rwa [e] at this
      rename_i hy
      split
      · rename_i he
        have e1 : ((y.1, n) : Item) = (g, n) := key_item _ _ (show key y = key ((g, n) : Item) from he) rfl
        rw [e1, List.mem_cons, List.mem_cons]
        constructor
        · rintro (h | h)
          · exact .inl h
          · exact .inr ⟨.inr h, (hr x h).resolve_right hy⟩
        · rintro (h | ⟨rfl | h, h2⟩)
          · exact .inl h
          · exact absurd he h2
          · exact .inr h
      · rename_i he
        rw [List.mem_cons, List.mem_cons]
        constructor
        · rintro (h | rfl | h)
          · exact .inl h
          · exact .inr ⟨.inl rfl, he⟩
          · exact .inr ⟨.inr h, (hr x h).resolve_right hy⟩
        · rintro (h | ⟨rfl | h, h2⟩)
          · exact .inl h
          · exact .inr (.inl rfl)
          · exact .inr (.inr h)
theorem putL_sorted (g : ByteArray) (n : Int) : ∀ l : List Item, l.Pairwise (fun a b => key a < key b) → (putL g n l).Pairwise (fun a b => key a < key b)
  | [], _ => by simp [putL]
  | y :: r, h => by
    have h' := List.pairwise_cons.1 h
    unfold putL
    split
    · rename_i hy
      refine List.pairwise_cons.2 ⟨fun z hz => ?_, putL_sorted g n r h'.2⟩
      rcases (putL_mem g n z r h'.2).1 hz with rfl | ⟨h1, _⟩
      · exact hy
      · exact h'.1 z h1
    · split
      · exact List.pairwise_cons.2 ⟨fun z hz => h'.1 z hz, h'.2⟩
      · rename_i h1 h2
        have hlt : g.data.toList < key y := by
          rcases bs_tri (key y) g.data.toList with h | h | h
          · exact absurd h h1
          · exact absurd h h2
          · exact h
        refine List.pairwise_cons.2 ⟨fun z hz => ?_, h⟩
        rcases List.mem_cons.1 hz with rfl | hz
        · exact hlt
        · exact List.lt_trans hlt (h'.1 z hz)

theorem itemCells_take (l : List Item) (k : Nat) : itemCells (l.take k) = (itemCells l).take (k * 2) := by
  induction l generalizing k with
  | nil => simp [itemCells]
  | cons x r ih =>
    cases k with
    | zero => simp [itemCells]
    | succ k =>
      have e : (k + 1) * 2 = k * 2 + 1 + 1 := by omega
      simp only [itemCells, List.take_succ_cons, List.flatMap_cons, List.cons_append, List.nil_append, e] at ih ⊢
      rw [ih]
theorem itemCells_drop (l : List Item) (k : Nat) : itemCells (l.drop k) = (itemCells l).drop (k * 2) := by
  induction l generalizing k with
  | nil => simp [itemCells]
  | cons x r ih =>
    cases k with
    | zero => simp [itemCells]
    | succ k =>
      have e : (k + 1) * 2 = k * 2 + 1 + 1 := by omega
      simp only [itemCells, List.flatMap_cons, List.cons_append, List.nil_append, e, List.drop_succ_cons] at ih ⊢
      rw [ih]
theorem itemCells_set (l : List Item) (j : Nat) (hj : j < l.length) (n : Int) : itemCells (l.set j (l[j].1, n)) = (itemCells l).set (j * 2 + 1) (.int .i64 n) := by
  induction l generalizing j with
  | nil => simp at hj
  | cons x r ih =>
    cases j with
    | zero => rfl
    | succ j =>
      have e : (j + 1) * 2 + 1 = j * 2 + 1 + 1 + 1 := by omega
      have := ih j (by simpa using hj)
      simp only [List.set_cons_succ, List.getElem_cons_succ, itemCells, List.flatMap_cons, List.cons_append, List.nil_append, e] at this ⊢
      rw [this]

set_option maxRecDepth 100000 in
set_option maxHeartbeats 40000000 in
theorem refput_calls (L : List Item) (g : ByteArray) (n : Int) (v : Value) (w : World) (hI : ItemsAt w 0 w.heap.size v L) (hv : v = .slice none 0 0 ∨ ∃ b o n c, v = .slice (some ⟨b, o, none⟩) n c) (hL : L.length ≤ 1000000) :
    Calls Try.prog 65 #[v, .string g, .int .i64 n] w fun e w' =>
      (∃ u, e = .returned u ∧ w'.ownsRow w.heap.size 36 2 u (putL g n L).length (itemCells (putL g n L))) ∧ Below w.heap.size w w' := by
  obtain ⟨A, c, rfl, hc1, hc2⟩ := hI.form
  have hnil : (A = none ∧ c = 0 ∧ L.length = 0) ∨ ∃ b o, A = some ⟨b, o, none⟩ := by
    rcases hv with h | ⟨b, o, n, c', h⟩
    · simp at h; exact .inl ⟨h.1, h.2.2, by simp [h.2.1]⟩
    · simp at h; exact .inr ⟨b, o, h.1⟩
  clear hv
  unfold maxLen at hc2
  obtain ⟨i0, hi0, hz0⟩ := Option.map_eq_some_iff.1 item_info
  simp only [Prod.mk.injEq] at hz0
  obtain ⟨hz0, hz1, hz2⟩ := hz0
  have HNew := Lib.hid (putL_new g n L)
  have HSet := Lib.hid (putL_set g n L)
  have hlen := putL_len g n L
  generalize putL g n L = R at *
  go_enter Try.func65, Try.ntmps65
  go_wp2
  go_loop [7] (fun i => ∃ k : Nat, k ≤ L.length ∧ i = .int .i64 k ∧ ∀ i (h : i < L.length), i < k → key L[i] < g.data.toList) (fun i => L.length - (intOf i).toNat)
  case atStart => exact ⟨0, by omega, rfl, fun i _ h => by omega⟩
  case round =>
    obtain ⟨k, hk, rfl, hm⟩ := hrel
    by_cases hlt : k < L.length
    · clear hnil
      obtain ⟨b, o, rfl, -, hb, g1, g2⟩ := hI.cellAt hlt
      have hd : decide ((k : Int) < (L.length : Int)) = true := by simp; omega
      have HM := Lib.hid (show key L[k] < g.data.toList → ∀ i (h : i < L.length), i < k + 1 → key L[i] < g.data.toList from fun h i hi hik => by
        rcases Nat.lt_or_ge i k with h1 | h1
        · exact hm i hi h1
        · obtain rfl : i = k := by omega
          exact h)
      have HMN := Lib.hid (fun h => HNew.out k hm hk h)
      have HMS := Lib.hid (fun h => HSet.out k hm hlt h)
      clear hm
      have hlt' : Op.bytesLess L[k].1.toList g.toList = decide (key L[k] < g.data.toList) := by rw [less_eq, toList_key, toList_key]; rfl
      have heq' : (L[k].1.toList == g.toList) = decide (key L[k] = g.data.toList) := by
        rw [toList_key, toList_key]
        exact Bool.eq_iff_iff.2 (by simp [key])
      have HCS := Lib.hid (show (Op.bytesLess L[k].1.toList g.toList = true ∧ key L[k] < g.data.toList) ∨ (Op.bytesLess L[k].1.toList g.toList = false ∧ (L[k].1.toList == g.toList) = true ∧ key L[k] = g.data.toList) ∨ (Op.bytesLess L[k].1.toList g.toList = false ∧ (L[k].1.toList == g.toList) = false ∧ ¬ key L[k] < g.data.toList ∧ key L[k] ≠ g.data.toList) by
        rw [hlt', heq']
        rcases bs_tri (key L[k]) g.data.toList with h | h | h
        · exact .inl ⟨decide_eq_true h, h⟩
        · exact .inr (.inl ⟨decide_eq_false (by rw [h]; exact bs_irr _), decide_eq_true h, h⟩)
        · exact .inr (.inr ⟨decide_eq_false (bs_asy _ _ h), decide_eq_false (fun e => by rw [e] at h; exact bs_irr _ h), bs_asy _ _ h, fun e => by rw [e] at h; exact bs_irr _ h⟩))
      clear hlt' heq'
      rcases HCS.out with ⟨e1, e2⟩ | ⟨e1, e2, e3⟩ | ⟨e1, e2, e3⟩
      · have HM2 := Lib.hid (HM.out e2)
        clear HM HMN HMS HCS e2
        generalize L[k] = x at *
        obtain ⟨xs, xn⟩ := x
        dsimp only at g1 g2 e1
        go_wp2
        go_round
        case rel => exact ⟨k + 1, by omega, by go_num, HM2.out⟩
        case measure => simp [intOf]; omega
      · have HR := Lib.hid (HMS.out e3)
        have HC := Lib.hid (itemCells_set L k hlt n)
        clear HM HMN HMS HCS e3
        have hownE : (w.alloc (.cells #[] 36)).ownsRow w.heap.size 36 2 (.slice (some ⟨w.heap.size, 0, none⟩) 0 0) 0 [] := World.ownsRow_lit w #[] 0 (Nat.le_refl _) (by unfold maxLen; omega) rfl
        have hIE := hI.below ((Below.refl _ w).alloc (Nat.le_refl _) (.cells #[] 36))
        generalize hxx : L[k] = x at *
        obtain ⟨xs, xn⟩ := x
        dsimp only at g1 g2 e1 e2
        go_wp2_with (at_builtin
                     refine wpList_append_sl _ rfl (.tmp 37) (.tmp 38) _ rfl w.heap.size 36 i0 _ 2 24 Try.underlying30 hi0 hz0 hz1 hz2 rfl (by omega) (.slice (some ⟨w.heap.size, 0, none⟩) 0 0) 0 [] rfl hownE 0 w.heap.size _ L.length (itemCells L) rfl hIE (itemCells_one L) (by unfold maxLen; omega) (by omega) (by simp) ?_
                     intro v1 w1 hv1 hg1 hat1
                     simp only [Nat.zero_add, List.nil_append] at hv1
                     obtain ⟨gg, cap, rfl, hgb, hgl⟩ := hv1.form (by omega)
                     have hcell := hv1.cellAt (k * 2 + 1) (by omega)
                     have hfr := hv1.frozenAt (k * 2 + 1)
                     rw [(itemCells_get L k hlt).2] at hcell)
        go_ret
        obtain ⟨hv2, hg2⟩ := hv1.stored (k * 2 + 1) (.int .i64 n)
        have hB1 : Below w.heap.size w w1 := ((Below.refl _ w).alloc (Nat.le_refl _) _).grown hg1 (by simp) (fun g hg => by cases hg; exact Nat.le_refl _)
        refine ⟨⟨_, rfl, ?_⟩, hB1.setCell (p := ⟨gg, k * 2 + 1, none⟩) hgb _⟩
        have hRl : R.length = L.length := by rw [HR.out, List.length_set]
        rw [hRl, HR.out, HC.out]
        exact hv2
      · have HR := Lib.hid (HMN.out (fun _ => e3))
        clear HM HMN HMS HCS e3 HNew HSet
        generalize L[k] = x at *
        obtain ⟨xs, xn⟩ := x
        dsimp only at g1 g2 e1 e2
        go_wp2_with fail
        clear g1 g2 e1 e2 hd
        have HP := Lib.hid (fun W (h : Below w.heap.size w W) => (hI.below h).upTo hk)
        have HQ := Lib.hid (fun W (h : Below w.heap.size w W) => (hI.below h).onFrom hk)
        have hkc1 : ((0 : Int) ≤ (k : Int)) := by omega
        have hkc2 : ((k : Int) ≤ (L.length : Int)) := by omega
        have hkc3 : ((k : Int) ≤ (c : Int)) := by omega
        have hkc4 : ((L.length : Int) ≤ (c : Int)) := by omega
        have own1 : (w.alloc (.cells #[] 36)).drew.ownsRow w.heap.size 36 2 (.slice (some ⟨w.heap.size, 0, none⟩) 0 0) 0 [] := World.ownsRow_lit w #[] 0 (Nat.le_refl _) (Nat.zero_le _) rfl
        have own2 : ((w.alloc (.cells #[] 36)).alloc (.cells #[.string g, .int .i64 n] 36)).drew.ownsRow w.heap.size 36 2 (.slice (some ⟨w.heap.size, 0, none⟩) 0 0) 0 [] := (World.ownsRow_lit (size := 2) (base := w.heap.size) (e := 36) w #[] 0 (Nat.le_refl _) (Nat.zero_le _) rfl).alloc _
        have own3 : ((w.alloc (.cells #[.string g, .int .i64 n] 36)).alloc (.cells #[] 36)).drew.ownsRow w.heap.size 36 2 (.slice (some ⟨w.heap.size + 1, 0, none⟩) 0 0) 0 [] := by
          have := World.ownsRow_lit (size := 2) (base := w.heap.size) (e := 36) (w.alloc (.cells #[.string g, .int .i64 n] 36)) #[] 0 (by simp) (Nat.zero_le _) rfl
          rwa [World.size_alloc] at this
        have bb1 : Below w.heap.size w (w.alloc (.cells #[] 36)).drew := ((Below.refl _ w).alloc (Nat.le_refl _) _).drew
        have bb2 : Below w.heap.size w ((w.alloc (.cells #[] 36)).alloc (.cells #[.string g, .int .i64 n] 36)).drew := (((Below.refl _ w).alloc (Nat.le_refl _) _).alloc (by simp) _).drew
        have bb3 : Below w.heap.size w ((w.alloc (.cells #[.string g, .int .i64 n] 36)).alloc (.cells #[] 36)).drew := (((Below.refl _ w).alloc (Nat.le_refl _) _).alloc (by simp) _).drew
        have sl2 : Sl ((w.alloc (.cells #[] 36)).alloc (.cells #[.string g, .int .i64 n] 36)).drew (w.heap.size + 1) (w.heap.size + 1 + 1) 2 (.slice (some ⟨w.heap.size + 1, 0, none⟩) 1 1) 1 [.string g, .int .i64 n] := by
          have := Sl.new (w.alloc (.cells #[] 36)) #[.string g, .int .i64 n] 36 (n := 1) (size := 2) rfl (by unfold maxLen; omega)
          rw [World.size_alloc] at this
          exact this.below (Below.refl _ _).drew
        have sl3 : Sl ((w.alloc (.cells #[.string g, .int .i64 n] 36)).alloc (.cells #[] 36)).drew w.heap.size (w.heap.size + 1) 2 (.slice (some ⟨w.heap.size, 0, none⟩) 1 1) 1 [.string g, .int .i64 n] :=
          (Sl.new w #[.string g, .int .i64 n] 36 (n := 1) (size := 2) rfl (by unfold maxLen; omega)).below (((Below.refl (w.heap.size + 1) (w.alloc (.cells #[.string g, .int .i64 n] 36))).alloc (Nat.le_of_eq (World.size_alloc _ _).symm) _).drew)
        have G1 := Lib.hid (show ∀ w1 : World, (w.alloc (.cells #[] 36)).drew.grownBy w1 (some w.heap.size) → Below w.heap.size w w1 from fun w1 hg => bb1.grown hg bb1.size (fun g hg => by cases hg; exact Nat.le_refl _))
        have G2 := Lib.hid (show ∀ w1 : World, ((w.alloc (.cells #[] 36)).alloc (.cells #[.string g, .int .i64 n] 36)).drew.grownBy w1 (some w.heap.size) → Below w.heap.size w w1 ∧ Sl w1 (w.heap.size + 1) (w.heap.size + 1 + 1) 2 (.slice (some ⟨w.heap.size + 1, 0, none⟩) 1 1) 1 [.string g, .int .i64 n] from fun w1 hg => ⟨bb2.grown hg bb2.size (fun g hg => by cases hg; exact Nat.le_refl _), sl2.grown hg (by simp [World.drew]) (fun r hr => by cases hr; exact .inl (Nat.lt_succ_self _))⟩)
        have G3 := Lib.hid (show ∀ w1 : World, ((w.alloc (.cells #[.string g, .int .i64 n] 36)).alloc (.cells #[] 36)).drew.grownBy w1 (some (w.heap.size + 1)) → Below w.heap.size w w1 ∧ Sl w1 w.heap.size (w.heap.size + 1) 2 (.slice (some ⟨w.heap.size, 0, none⟩) 1 1) 1 [.string g, .int .i64 n] from fun w1 hg => ⟨bb3.grown hg bb3.size (fun g hg => by cases hg; exact Nat.le_succ _), sl3.grown hg (by simp [World.drew]) (fun r hr => by cases hr; exact .inr (Nat.le_refl _))⟩)
        have OP := Lib.hid (show ∀ y ∈ ((itemCells L).take (k * 2) : List Value), y.oneCell' = true from (fun y hy => itemCells_one L y (List.mem_of_mem_take hy)))
        have OQ := Lib.hid (show ∀ y ∈ ((itemCells L).drop (k * 2) : List Value), y.oneCell' = true from (fun y hy => itemCells_one L y (List.mem_of_mem_drop hy)))
        have OX := Lib.hid (show ∀ y ∈ ([.string g, .int .i64 n] : List Value), y.oneCell' = true from (by simp [Value.oneCell']))
        have m1 : 0 + (k) ≤ maxLen := by unfold maxLen; omega
        have m2 : 0 + (k) + 1 ≤ maxLen := by unfold maxLen; omega
        have m3 : 0 + (k) + 1 + (L.length - k) ≤ maxLen := by unfold maxLen; omega
        have q1 : (0 + (k)) * 24 ≤ 140737488355328 := by omega
        have q2 : (0 + (k) + 1) * 24 ≤ 140737488355328 := by omega
        have q3 : (0 + (k) + 1 + (L.length - k)) * 24 ≤ 140737488355328 := by omega
        have M1 := Lib.hid m1; have M2 := Lib.hid m2; have M3 := Lib.hid m3; have Q1 := Lib.hid q1; have Q2 := Lib.hid q2; have Q3 := Lib.hid q3
        have OW1 := Lib.hid own1; have OW2 := Lib.hid own2; have OW3 := Lib.hid own3; have BB1 := Lib.hid bb1; have BB2 := Lib.hid bb2; have BB3 := Lib.hid bb3
        clear m1 m2 m3 q1 q2 q3 own1 own2 own3 bb1 bb2 bb3 sl2 sl3
        go_region_law (first
          | ((with_reducible refine step_append_sl _ (o := ⟨some 50, _, _, _, _, _⟩) ?_ (.tmp 46) (.tmp 49) 30 ?_ w.heap.size 36 i0 _ 2 24 Try.underlying30 hi0 hz0 hz1 hz2 ?_ (by omega) _ 0 [] ?_ OW1.out 0 w.heap.size _ ((k)) ((itemCells L).take (k * 2)) ?_ (HP.out _ BB1.out) OP.out M1.out Q1.out BB1.out.size ?_)
             rfl; rfl; rfl; (simp [Act.eval]); (simp [Act.eval])
             intro v1 w1 hv1 hg1 hat1
             have hB1 := G1.out _ hg1; clear hg1 hat1)
          | ((with_reducible refine step_append_sl _ (o := ⟨some 50, _, _, _, _, _⟩) ?_ (.tmp 46) (.tmp 49) 30 ?_ w.heap.size 36 i0 _ 2 24 Try.underlying30 hi0 hz0 hz1 hz2 ?_ (by omega) _ 0 [] ?_ OW2.out 0 w.heap.size _ ((k)) ((itemCells L).take (k * 2)) ?_ (HP.out _ BB2.out) OP.out M1.out Q1.out BB2.out.size ?_)
             rfl; rfl; rfl; (simp [Act.eval]); (simp [Act.eval])
             intro v1 w1 hv1 hg1 hat1
             have hB1 := (G2.out _ hg1).1; have hs54 := (G2.out _ hg1).2; clear hg1 hat1)
          | ((with_reducible refine step_append_sl _ (o := ⟨some 50, _, _, _, _, _⟩) ?_ (.tmp 46) (.tmp 49) 30 ?_ w.heap.size 36 i0 _ 2 24 Try.underlying30 hi0 hz0 hz1 hz2 ?_ (by omega) _ 0 [] ?_ OW3.out 0 w.heap.size _ ((k)) ((itemCells L).take (k * 2)) ?_ (HP.out _ BB3.out) OP.out M1.out Q1.out BB3.out.size ?_)
             rfl; rfl; rfl; (simp [Act.eval]); (simp [Act.eval])
             intro v1 w1 hv1 hg1 hat1
             have hB1 := (G3.out _ hg1).1; have hs54 := (G3.out _ hg1).2; clear hg1 hat1)
          | ((with_reducible refine step_append_sl _ (o := ⟨some 55, _, _, _, _, _⟩) ?_ (.tmp 50) (.tmp 54) 30 ?_ w.heap.size 36 i0 _ 2 24 Try.underlying30 hi0 hz0 hz1 hz2 ?_ (by omega) _ (0 + (k)) _ ?_ hv1 _ _ _ 1 [.string g, .int .i64 n] ?_ hs54 OX.out M2.out Q2.out hB1.size ?_)
             rfl; rfl; rfl; (simp [Act.eval]); (simp [Act.eval])
             intro v2 w2 hv2 hg2 hat2
             have hB2 : Below w.heap.size w w2 := hB1.grown hg2 hB1.size (fun g hg => (hv1.lt g hg).1); clear hg2 hat2 hv1 hs54)
          | ((with_reducible refine step_append_sl _ (o := ⟨some 55, _, _, _, _, _⟩) ?_ (.tmp 50) (.tmp 54) 30 ?_ w.heap.size 36 i0 _ 2 24 Try.underlying30 hi0 hz0 hz1 hz2 ?_ (by omega) _ (0 + (k)) _ ?_ (hv1.alloc _) _ _ _ 1 [.string g, .int .i64 n] ?_ (Sl.new w1 #[.string g, .int .i64 n] 36 (n := 1) (size := 2) rfl (Nat.le_trans (Nat.le_add_left _ _) M2.out)) OX.out M2.out Q2.out (hB1.alloc hB1.size _).size ?_)
             rfl; rfl; rfl; (simp [Act.eval]); (simp [Act.eval])
             intro v2 w2 hv2 hg2 hat2
             have hB2 : Below w.heap.size w w2 := (hB1.alloc hB1.size _).grown hg2 (hB1.alloc hB1.size _).size (fun g hg => (hv1.lt g hg).1); clear hg2 hat2 hv1)
          | ((with_reducible refine step_append_sl _ (o := ⟨some 59, _, _, _, _, _⟩) ?_ (.tmp 55) (.tmp 58) 30 ?_ w.heap.size 36 i0 _ 2 24 Try.underlying30 hi0 hz0 hz1 hz2 ?_ (by omega) _ (0 + (k) + 1) _ ?_ hv2 0 w.heap.size _ ((L.length - k)) ((itemCells L).drop (k * 2)) ?_ (HQ.out _ hB2) OQ.out M3.out Q3.out hB2.size ?_)
             rfl; rfl; rfl; (simp [Act.eval]); (simp [Act.eval])
             intro v3 w3 hv3 hg3 hat3
             have hB3 : Below w.heap.size w w3 := hB2.grown hg3 hB2.size (fun g hg => (hv2.lt g hg).1); clear hg3 hat3 hv2 hB2))
        all_goals
          rw [show ([] ++ (itemCells L).take (k * 2) ++ [.string g, .int .i64 n] ++ (itemCells L).drop (k * 2)) = itemCells R by rw [HR.out, itemCells_append, itemCells_append, itemCells_take, itemCells_drop]; rfl, show 0 + k + 1 + (L.length - k) = R.length by rw [HR.out]; simp; omega] at hv3
          obtain ⟨A9, c9, rfl, -⟩ := (ItemsAt.of_own hv3).form
          go_wp2
          go_ret
          exact ⟨⟨_, rfl, hv3⟩, hB3⟩
    · obtain rfl : k = L.length := by omega
      have HR := Lib.hid (HNew.out L.length hm (Nat.le_refl _) (fun h => by omega))
      clear hm HNew HSet
      rcases hnil with ⟨rfl, rfl, h0⟩ | ⟨b, o, rfl⟩
      · obtain rfl : L = [] := List.eq_nil_of_length_eq_zero h0
        have HR := Lib.hid (show R = [(g, n)] from HR.out)
        simp only [List.length_nil, Int.natCast_zero]
        clear h0 hlt
        go_wp2_with fail
        have own1 : (w.alloc (.cells #[] 36)).drew.ownsRow w.heap.size 36 2 (.slice (some ⟨w.heap.size, 0, none⟩) 0 0) 0 [] := World.ownsRow_lit w #[] 0 (Nat.le_refl _) (Nat.zero_le _) rfl
        have own2 : ((w.alloc (.cells #[] 36)).alloc (.cells #[.string g, .int .i64 n] 36)).drew.ownsRow w.heap.size 36 2 (.slice (some ⟨w.heap.size, 0, none⟩) 0 0) 0 [] := (World.ownsRow_lit (size := 2) (base := w.heap.size) (e := 36) w #[] 0 (Nat.le_refl _) (Nat.zero_le _) rfl).alloc _
        have own3 : ((w.alloc (.cells #[.string g, .int .i64 n] 36)).alloc (.cells #[] 36)).drew.ownsRow w.heap.size 36 2 (.slice (some ⟨w.heap.size + 1, 0, none⟩) 0 0) 0 [] := by
          have := World.ownsRow_lit (size := 2) (base := w.heap.size) (e := 36) (w.alloc (.cells #[.string g, .int .i64 n] 36)) #[] 0 (by simp) (Nat.zero_le _) rfl
          rwa [World.size_alloc] at this
        have bb1 : Below w.heap.size w (w.alloc (.cells #[] 36)).drew := ((Below.refl _ w).alloc (Nat.le_refl _) _).drew
        have bb2 : Below w.heap.size w ((w.alloc (.cells #[] 36)).alloc (.cells #[.string g, .int .i64 n] 36)).drew := (((Below.refl _ w).alloc (Nat.le_refl _) _).alloc (by simp) _).drew
        have bb3 : Below w.heap.size w ((w.alloc (.cells #[.string g, .int .i64 n] 36)).alloc (.cells #[] 36)).drew := (((Below.refl _ w).alloc (Nat.le_refl _) _).alloc (by simp) _).drew
        have sl2 : Sl ((w.alloc (.cells #[] 36)).alloc (.cells #[.string g, .int .i64 n] 36)).drew (w.heap.size + 1) (w.heap.size + 1 + 1) 2 (.slice (some ⟨w.heap.size + 1, 0, none⟩) 1 1) 1 [.string g, .int .i64 n] := by
          have := Sl.new (w.alloc (.cells #[] 36)) #[.string g, .int .i64 n] 36 (n := 1) (size := 2) rfl (by unfold maxLen; omega)
          rw [World.size_alloc] at this
          exact this.below (Below.refl _ _).drew
        have sl3 : Sl ((w.alloc (.cells #[.string g, .int .i64 n] 36)).alloc (.cells #[] 36)).drew w.heap.size (w.heap.size + 1) 2 (.slice (some ⟨w.heap.size, 0, none⟩) 1 1) 1 [.string g, .int .i64 n] :=
          (Sl.new w #[.string g, .int .i64 n] 36 (n := 1) (size := 2) rfl (by unfold maxLen; omega)).below (((Below.refl (w.heap.size + 1) (w.alloc (.cells #[.string g, .int .i64 n] 36))).alloc (Nat.le_of_eq (World.size_alloc _ _).symm) _).drew)
        have G1 := Lib.hid (show ∀ w1 : World, (w.alloc (.cells #[] 36)).drew.grownBy w1 (some w.heap.size) → Below w.heap.size w w1 from fun w1 hg => bb1.grown hg bb1.size (fun g hg => by cases hg; exact Nat.le_refl _))
        have G2 := Lib.hid (show ∀ w1 : World, ((w.alloc (.cells #[] 36)).alloc (.cells #[.string g, .int .i64 n] 36)).drew.grownBy w1 (some w.heap.size) → Below w.heap.size w w1 ∧ Sl w1 (w.heap.size + 1) (w.heap.size + 1 + 1) 2 (.slice (some ⟨w.heap.size + 1, 0, none⟩) 1 1) 1 [.string g, .int .i64 n] from fun w1 hg => ⟨bb2.grown hg bb2.size (fun g hg => by cases hg; exact Nat.le_refl _), sl2.grown hg (by simp [World.drew]) (fun r hr => by cases hr; exact .inl (Nat.lt_succ_self _))⟩)
        have G3 := Lib.hid (show ∀ w1 : World, ((w.alloc (.cells #[.string g, .int .i64 n] 36)).alloc (.cells #[] 36)).drew.grownBy w1 (some (w.heap.size + 1)) → Below w.heap.size w w1 ∧ Sl w1 w.heap.size (w.heap.size + 1) 2 (.slice (some ⟨w.heap.size, 0, none⟩) 1 1) 1 [.string g, .int .i64 n] from fun w1 hg => ⟨bb3.grown hg bb3.size (fun g hg => by cases hg; exact Nat.le_succ _), sl3.grown hg (by simp [World.drew]) (fun r hr => by cases hr; exact .inr (Nat.le_refl _))⟩)
        have OP := Lib.hid (show ∀ y ∈ (([] : List Value) : List Value), y.oneCell' = true from (by simp))
        have OQ := Lib.hid (show ∀ y ∈ (([] : List Value) : List Value), y.oneCell' = true from (by simp))
        have OX := Lib.hid (show ∀ y ∈ ([.string g, .int .i64 n] : List Value), y.oneCell' = true from (by simp [Value.oneCell']))
        have m1 : 0 + (0) ≤ maxLen := by unfold maxLen; omega
        have m2 : 0 + (0) + 1 ≤ maxLen := by unfold maxLen; omega
        have m3 : 0 + (0) + 1 + (0) ≤ maxLen := by unfold maxLen; omega
        have q1 : (0 + (0)) * 24 ≤ 140737488355328 := by omega
        have q2 : (0 + (0) + 1) * 24 ≤ 140737488355328 := by omega
        have q3 : (0 + (0) + 1 + (0)) * 24 ≤ 140737488355328 := by omega
        have M1 := Lib.hid m1; have M2 := Lib.hid m2; have M3 := Lib.hid m3; have Q1 := Lib.hid q1; have Q2 := Lib.hid q2; have Q3 := Lib.hid q3
        have OW1 := Lib.hid own1; have OW2 := Lib.hid own2; have OW3 := Lib.hid own3; have BB1 := Lib.hid bb1; have BB2 := Lib.hid bb2; have BB3 := Lib.hid bb3
        clear m1 m2 m3 q1 q2 q3 own1 own2 own3 bb1 bb2 bb3 sl2 sl3
        go_region_law (first
          | ((with_reducible refine step_append_sl _ (o := ⟨some 50, _, _, _, _, _⟩) ?_ (.tmp 46) (.tmp 49) 30 ?_ w.heap.size 36 i0 _ 2 24 Try.underlying30 hi0 hz0 hz1 hz2 ?_ (by omega) _ 0 [] ?_ OW1.out 0 w.heap.size _ ((0)) (([] : List Value)) ?_ ((fun _ => Sl.nil _ _ _ _) BB1.out) OP.out M1.out Q1.out BB1.out.size ?_)
             rfl; rfl; rfl; (simp [Act.eval]); (simp [Act.eval])
             intro v1 w1 hv1 hg1 hat1
             have hB1 := G1.out _ hg1; clear hg1 hat1)
          | ((with_reducible refine step_append_sl _ (o := ⟨some 50, _, _, _, _, _⟩) ?_ (.tmp 46) (.tmp 49) 30 ?_ w.heap.size 36 i0 _ 2 24 Try.underlying30 hi0 hz0 hz1 hz2 ?_ (by omega) _ 0 [] ?_ OW2.out 0 w.heap.size _ ((0)) (([] : List Value)) ?_ ((fun _ => Sl.nil _ _ _ _) BB2.out) OP.out M1.out Q1.out BB2.out.size ?_)
             rfl; rfl; rfl; (simp [Act.eval]); (simp [Act.eval])
             intro v1 w1 hv1 hg1 hat1
             have hB1 := (G2.out _ hg1).1; have hs54 := (G2.out _ hg1).2; clear hg1 hat1)
          | ((with_reducible refine step_append_sl _ (o := ⟨some 50, _, _, _, _, _⟩) ?_ (.tmp 46) (.tmp 49) 30 ?_ w.heap.size 36 i0 _ 2 24 Try.underlying30 hi0 hz0 hz1 hz2 ?_ (by omega) _ 0 [] ?_ OW3.out 0 w.heap.size _ ((0)) (([] : List Value)) ?_ ((fun _ => Sl.nil _ _ _ _) BB3.out) OP.out M1.out Q1.out BB3.out.size ?_)
             rfl; rfl; rfl; (simp [Act.eval]); (simp [Act.eval])
             intro v1 w1 hv1 hg1 hat1
             have hB1 := (G3.out _ hg1).1; have hs54 := (G3.out _ hg1).2; clear hg1 hat1)
          | ((with_reducible refine step_append_sl _ (o := ⟨some 55, _, _, _, _, _⟩) ?_ (.tmp 50) (.tmp 54) 30 ?_ w.heap.size 36 i0 _ 2 24 Try.underlying30 hi0 hz0 hz1 hz2 ?_ (by omega) _ (0 + (0)) _ ?_ hv1 _ _ _ 1 [.string g, .int .i64 n] ?_ hs54 OX.out M2.out Q2.out hB1.size ?_)
             rfl; rfl; rfl; (simp [Act.eval]); (simp [Act.eval])
             intro v2 w2 hv2 hg2 hat2
             have hB2 : Below w.heap.size w w2 := hB1.grown hg2 hB1.size (fun g hg => (hv1.lt g hg).1); clear hg2 hat2 hv1 hs54)
          | ((with_reducible refine step_append_sl _ (o := ⟨some 55, _, _, _, _, _⟩) ?_ (.tmp 50) (.tmp 54) 30 ?_ w.heap.size 36 i0 _ 2 24 Try.underlying30 hi0 hz0 hz1 hz2 ?_ (by omega) _ (0 + (0)) _ ?_ (hv1.alloc _) _ _ _ 1 [.string g, .int .i64 n] ?_ (Sl.new w1 #[.string g, .int .i64 n] 36 (n := 1) (size := 2) rfl (Nat.le_trans (Nat.le_add_left _ _) M2.out)) OX.out M2.out Q2.out (hB1.alloc hB1.size _).size ?_)
             rfl; rfl; rfl; (simp [Act.eval]); (simp [Act.eval])
             intro v2 w2 hv2 hg2 hat2
             have hB2 : Below w.heap.size w w2 := (hB1.alloc hB1.size _).grown hg2 (hB1.alloc hB1.size _).size (fun g hg => (hv1.lt g hg).1); clear hg2 hat2 hv1)
          | ((with_reducible refine step_append_sl _ (o := ⟨some 59, _, _, _, _, _⟩) ?_ (.tmp 55) (.tmp 58) 30 ?_ w.heap.size 36 i0 _ 2 24 Try.underlying30 hi0 hz0 hz1 hz2 ?_ (by omega) _ (0 + (0) + 1) _ ?_ hv2 0 w.heap.size _ ((0)) (([] : List Value)) ?_ ((fun _ => Sl.nil _ _ _ _) hB2) OQ.out M3.out Q3.out hB2.size ?_)
             rfl; rfl; rfl; (simp [Act.eval]); (simp [Act.eval])
             intro v3 w3 hv3 hg3 hat3
             have hB3 : Below w.heap.size w w3 := hB2.grown hg3 hB2.size (fun g hg => (hv2.lt g hg).1); clear hg3 hat3 hv2 hB2))
        all_goals
          rw [show ([] ++ [] ++ [Value.string g, .int .i64 n] ++ []) = itemCells R by rw [HR.out]; rfl, show 0 + 0 + 1 + 0 = R.length by rw [HR.out]; rfl] at hv3
          obtain ⟨A9, c9, rfl, -⟩ := (ItemsAt.of_own hv3).form
          go_wp2
          go_ret
          exact ⟨⟨_, rfl, hv3⟩, hB3⟩
      · have HC1 := Lib.hid (show c - L.length ≤ maxLen by unfold maxLen; omega)
        have HP := Lib.hid (fun W (h : Below w.heap.size w W) => show Sl W 0 w.heap.size 2 (.slice (some ⟨b, o, none⟩) L.length c) L.length (itemCells L) from hI.below h)
        have HQ := Lib.hid (fun W => show Sl W 0 w.heap.size 2 (.slice (if c = L.length then some ⟨b, o, none⟩ else some ⟨b, o + L.length * 2, none⟩) 0 (c - L.length)) 0 [] from Sl.zero HC1.out)
        go_wp2_with fail
        have hkc3 : ((L.length : Int) ≤ (c : Int)) := by omega
        have own1 : (w.alloc (.cells #[] 36)).drew.ownsRow w.heap.size 36 2 (.slice (some ⟨w.heap.size, 0, none⟩) 0 0) 0 [] := World.ownsRow_lit w #[] 0 (Nat.le_refl _) (Nat.zero_le _) rfl
        have own2 : ((w.alloc (.cells #[] 36)).alloc (.cells #[.string g, .int .i64 n] 36)).drew.ownsRow w.heap.size 36 2 (.slice (some ⟨w.heap.size, 0, none⟩) 0 0) 0 [] := (World.ownsRow_lit (size := 2) (base := w.heap.size) (e := 36) w #[] 0 (Nat.le_refl _) (Nat.zero_le _) rfl).alloc _
        have own3 : ((w.alloc (.cells #[.string g, .int .i64 n] 36)).alloc (.cells #[] 36)).drew.ownsRow w.heap.size 36 2 (.slice (some ⟨w.heap.size + 1, 0, none⟩) 0 0) 0 [] := by
          have := World.ownsRow_lit (size := 2) (base := w.heap.size) (e := 36) (w.alloc (.cells #[.string g, .int .i64 n] 36)) #[] 0 (by simp) (Nat.zero_le _) rfl
          rwa [World.size_alloc] at this
        have bb1 : Below w.heap.size w (w.alloc (.cells #[] 36)).drew := ((Below.refl _ w).alloc (Nat.le_refl _) _).drew
        have bb2 : Below w.heap.size w ((w.alloc (.cells #[] 36)).alloc (.cells #[.string g, .int .i64 n] 36)).drew := (((Below.refl _ w).alloc (Nat.le_refl _) _).alloc (by simp) _).drew
        have bb3 : Below w.heap.size w ((w.alloc (.cells #[.string g, .int .i64 n] 36)).alloc (.cells #[] 36)).drew := (((Below.refl _ w).alloc (Nat.le_refl _) _).alloc (by simp) _).drew
        have sl2 : Sl ((w.alloc (.cells #[] 36)).alloc (.cells #[.string g, .int .i64 n] 36)).drew (w.heap.size + 1) (w.heap.size + 1 + 1) 2 (.slice (some ⟨w.heap.size + 1, 0, none⟩) 1 1) 1 [.string g, .int .i64 n] := by
          have := Sl.new (w.alloc (.cells #[] 36)) #[.string g, .int .i64 n] 36 (n := 1) (size := 2) rfl (by unfold maxLen; omega)
          rw [World.size_alloc] at this
          exact this.below (Below.refl _ _).drew
        have sl3 : Sl ((w.alloc (.cells #[.string g, .int .i64 n] 36)).alloc (.cells #[] 36)).drew w.heap.size (w.heap.size + 1) 2 (.slice (some ⟨w.heap.size, 0, none⟩) 1 1) 1 [.string g, .int .i64 n] :=
          (Sl.new w #[.string g, .int .i64 n] 36 (n := 1) (size := 2) rfl (by unfold maxLen; omega)).below (((Below.refl (w.heap.size + 1) (w.alloc (.cells #[.string g, .int .i64 n] 36))).alloc (Nat.le_of_eq (World.size_alloc _ _).symm) _).drew)
        have G1 := Lib.hid (show ∀ w1 : World, (w.alloc (.cells #[] 36)).drew.grownBy w1 (some w.heap.size) → Below w.heap.size w w1 from fun w1 hg => bb1.grown hg bb1.size (fun g hg => by cases hg; exact Nat.le_refl _))
        have G2 := Lib.hid (show ∀ w1 : World, ((w.alloc (.cells #[] 36)).alloc (.cells #[.string g, .int .i64 n] 36)).drew.grownBy w1 (some w.heap.size) → Below w.heap.size w w1 ∧ Sl w1 (w.heap.size + 1) (w.heap.size + 1 + 1) 2 (.slice (some ⟨w.heap.size + 1, 0, none⟩) 1 1) 1 [.string g, .int .i64 n] from fun w1 hg => ⟨bb2.grown hg bb2.size (fun g hg => by cases hg; exact Nat.le_refl _), sl2.grown hg (by simp [World.drew]) (fun r hr => by cases hr; exact .inl (Nat.lt_succ_self _))⟩)
        have G3 := Lib.hid (show ∀ w1 : World, ((w.alloc (.cells #[.string g, .int .i64 n] 36)).alloc (.cells #[] 36)).drew.grownBy w1 (some (w.heap.size + 1)) → Below w.heap.size w w1 ∧ Sl w1 w.heap.size (w.heap.size + 1) 2 (.slice (some ⟨w.heap.size, 0, none⟩) 1 1) 1 [.string g, .int .i64 n] from fun w1 hg => ⟨bb3.grown hg bb3.size (fun g hg => by cases hg; exact Nat.le_succ _), sl3.grown hg (by simp [World.drew]) (fun r hr => by cases hr; exact .inr (Nat.le_refl _))⟩)
        have OP := Lib.hid (show ∀ y ∈ (itemCells L : List Value), y.oneCell' = true from (itemCells_one L))
        have OQ := Lib.hid (show ∀ y ∈ (([] : List Value) : List Value), y.oneCell' = true from (by simp))
        have OX := Lib.hid (show ∀ y ∈ ([.string g, .int .i64 n] : List Value), y.oneCell' = true from (by simp [Value.oneCell']))
        have m1 : 0 + (L.length) ≤ maxLen := by unfold maxLen; omega
        have m2 : 0 + (L.length) + 1 ≤ maxLen := by unfold maxLen; omega
        have m3 : 0 + (L.length) + 1 + (0) ≤ maxLen := by unfold maxLen; omega
        have q1 : (0 + (L.length)) * 24 ≤ 140737488355328 := by omega
        have q2 : (0 + (L.length) + 1) * 24 ≤ 140737488355328 := by omega
        have q3 : (0 + (L.length) + 1 + (0)) * 24 ≤ 140737488355328 := by omega
        have M1 := Lib.hid m1; have M2 := Lib.hid m2; have M3 := Lib.hid m3; have Q1 := Lib.hid q1; have Q2 := Lib.hid q2; have Q3 := Lib.hid q3
        have OW1 := Lib.hid own1; have OW2 := Lib.hid own2; have OW3 := Lib.hid own3; have BB1 := Lib.hid bb1; have BB2 := Lib.hid bb2; have BB3 := Lib.hid bb3
        clear m1 m2 m3 q1 q2 q3 own1 own2 own3 bb1 bb2 bb3 sl2 sl3
        go_region_law (first
          | ((with_reducible refine step_append_sl _ (o := ⟨some 50, _, _, _, _, _⟩) ?_ (.tmp 46) (.tmp 49) 30 ?_ w.heap.size 36 i0 _ 2 24 Try.underlying30 hi0 hz0 hz1 hz2 ?_ (by omega) _ 0 [] ?_ OW1.out 0 w.heap.size _ ((L.length)) (itemCells L) ?_ (HP.out _ BB1.out) OP.out M1.out Q1.out BB1.out.size ?_)
             rfl; rfl; rfl; (simp [Act.eval]); (simp [Act.eval])
             intro v1 w1 hv1 hg1 hat1
             have hB1 := G1.out _ hg1; clear hg1 hat1)
          | ((with_reducible refine step_append_sl _ (o := ⟨some 50, _, _, _, _, _⟩) ?_ (.tmp 46) (.tmp 49) 30 ?_ w.heap.size 36 i0 _ 2 24 Try.underlying30 hi0 hz0 hz1 hz2 ?_ (by omega) _ 0 [] ?_ OW2.out 0 w.heap.size _ ((L.length)) (itemCells L) ?_ (HP.out _ BB2.out) OP.out M1.out Q1.out BB2.out.size ?_)
             rfl; rfl; rfl; (simp [Act.eval]); (simp [Act.eval])
             intro v1 w1 hv1 hg1 hat1
             have hB1 := (G2.out _ hg1).1; have hs54 := (G2.out _ hg1).2; clear hg1 hat1)
          | ((with_reducible refine step_append_sl _ (o := ⟨some 50, _, _, _, _, _⟩) ?_ (.tmp 46) (.tmp 49) 30 ?_ w.heap.size 36 i0 _ 2 24 Try.underlying30 hi0 hz0 hz1 hz2 ?_ (by omega) _ 0 [] ?_ OW3.out 0 w.heap.size _ ((L.length)) (itemCells L) ?_ (HP.out _ BB3.out) OP.out M1.out Q1.out BB3.out.size ?_)
             rfl; rfl; rfl; (simp [Act.eval]); (simp [Act.eval])
             intro v1 w1 hv1 hg1 hat1
             have hB1 := (G3.out _ hg1).1; have hs54 := (G3.out _ hg1).2; clear hg1 hat1)
          | ((with_reducible refine step_append_sl _ (o := ⟨some 55, _, _, _, _, _⟩) ?_ (.tmp 50) (.tmp 54) 30 ?_ w.heap.size 36 i0 _ 2 24 Try.underlying30 hi0 hz0 hz1 hz2 ?_ (by omega) _ (0 + (L.length)) _ ?_ hv1 _ _ _ 1 [.string g, .int .i64 n] ?_ hs54 OX.out M2.out Q2.out hB1.size ?_)
             rfl; rfl; rfl; (simp [Act.eval]); (simp [Act.eval])
             intro v2 w2 hv2 hg2 hat2
             have hB2 : Below w.heap.size w w2 := hB1.grown hg2 hB1.size (fun g hg => (hv1.lt g hg).1); clear hg2 hat2 hv1 hs54)
          | ((with_reducible refine step_append_sl _ (o := ⟨some 55, _, _, _, _, _⟩) ?_ (.tmp 50) (.tmp 54) 30 ?_ w.heap.size 36 i0 _ 2 24 Try.underlying30 hi0 hz0 hz1 hz2 ?_ (by omega) _ (0 + (L.length)) _ ?_ (hv1.alloc _) _ _ _ 1 [.string g, .int .i64 n] ?_ (Sl.new w1 #[.string g, .int .i64 n] 36 (n := 1) (size := 2) rfl (Nat.le_trans (Nat.le_add_left _ _) M2.out)) OX.out M2.out Q2.out (hB1.alloc hB1.size _).size ?_)
             rfl; rfl; rfl; (simp [Act.eval]); (simp [Act.eval])
             intro v2 w2 hv2 hg2 hat2
             have hB2 : Below w.heap.size w w2 := (hB1.alloc hB1.size _).grown hg2 (hB1.alloc hB1.size _).size (fun g hg => (hv1.lt g hg).1); clear hg2 hat2 hv1)
          | ((with_reducible refine step_append_sl _ (o := ⟨some 59, _, _, _, _, _⟩) ?_ (.tmp 55) (.tmp 58) 30 ?_ w.heap.size 36 i0 _ 2 24 Try.underlying30 hi0 hz0 hz1 hz2 ?_ (by omega) _ (0 + (L.length) + 1) _ ?_ hv2 0 w.heap.size _ ((0)) (([] : List Value)) ?_ ((fun _ => HQ.out _) hB2) OQ.out M3.out Q3.out hB2.size ?_)
             rfl; rfl; rfl; (simp [Act.eval]); (simp [Act.eval])
             intro v3 w3 hv3 hg3 hat3
             have hB3 : Below w.heap.size w w3 := hB2.grown hg3 hB2.size (fun g hg => (hv2.lt g hg).1); clear hg3 hat3 hv2 hB2))
        all_goals
          rw [show ([] ++ itemCells L ++ [Value.string g, .int .i64 n] ++ []) = itemCells R by rw [HR.out, List.take_length, List.drop_length, itemCells_append, itemCells_append]; rfl, show 0 + L.length + 1 + 0 = R.length by rw [HR.out]; simp] at hv3
          generalize (if c = L.length then (some (⟨b, o, none⟩ : Addr)) else some ⟨b, o + L.length * 2, none⟩) = A58
          obtain ⟨A9, c9, rfl, -⟩ := (ItemsAt.of_own hv3).form
          go_wp2
          go_ret
          exact ⟨⟨_, rfl, hv3⟩, hB3⟩
end It
end Go.Proofs.Ytdbkkldgobkjcaa
